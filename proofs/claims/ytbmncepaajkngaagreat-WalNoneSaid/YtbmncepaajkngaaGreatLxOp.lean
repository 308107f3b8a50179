/- The operations of the machine, their types looked up beforehand: what each does, and that it does what the machine's own does. -/
import Derived.Test.YtbmncepaajkngaaGreatLxBase
import Derived.Laws.Entries
import Derived.Laws.Sem
namespace Go.Lx

inductive ROp where
  | mov (x : Operand)
  | pick (c a b : Operand)
  | newv (e : TypeId) (z : Value)
  | box (e : TypeId) (x : Operand)
  | build (pl : List (Nat × Nat)) (zero : Array Value) (parts : List (Nat × Operand))
  | buildA (size : Nat) (zero : Array Value) (parts : List (Nat × Operand))
  | mkSl (e : TypeId) (size len : Nat) (cells : Array Value) (parts : List (Nat × Operand))
  | load1 (a : Operand)
  | loadN (n : Nat) (a : Operand)
  | store (n : Nat) (a x : Operand)
  | nilck (x : Operand)
  | bin (op : BinOp) (t : TypeId) (x y : Operand)
  | eqB (neg : Bool) (x y : Operand)
  | eqP (neg : Bool) (x y : Operand)
  | eqF (neg : Bool) (x y : Operand)
  | eqS (neg : Bool) (x y : Operand)
  | eqM (neg : Bool) (x y : Operand)
  | un (op : UnOp) (x : Operand)
  | cvInt (k : IntKind) (x : Operand)
  | cvB2S (x : Operand)
  | cvS2B (e : TypeId) (x : Operand)
  | cvId (x : Operand)
  | cvMark (x : Operand)
  | mkIf (t : TypeId) (x : Operand)
  | mkFn (fn : Fn) (first caps : List Operand)
  | mkMap
  | mkSlice (e : TypeId) (size bytes : Nat) (z : Value) (l c : Operand)
  | slcS (x : Operand) (lo hi : Option Operand)
  | slcL (size : Nat) (x : Operand) (lo hi mx : Option Operand)
  | slcA (size n : Nat) (x : Operand) (lo hi mx : Option Operand)
  | faddr (off : Nat) (x : Operand)
  | fld1 (off : Nat) (x : Operand)
  | fldN (off n : Nat) (x : Operand)
  | ixS (size : Nat) (x i : Operand)
  | ixA (size len : Nat) (x i : Operand)
  | ixStr (x i : Operand)
  | extr (x : Operand) (i : Nat)
  | call (f : FuncId) (xs : List Operand)
  | ext (f : FuncId) (xs : List Operand)
  | callV (x : Operand) (xs : List Operand)
  | inv (x : Operand) (name : String) (xs : List Operand)
  | lenS (x : Operand)
  | lenT (x : Operand)
  | lenC (n : Nat)
  | lenM (x : Operand)
  | capS (x : Operand)
  | app (e : TypeId) (size bytes : Nat) (z : Value) (x y : Operand)
  | copy (size : Nat) (x y : Operand)
  | bi (b : Builtin) (argTypes : Array TypeId) (t : TypeId) (consts : Array Bool) (xs : List Operand)
  | panic (x : Operand)
  | defr (c : Call) (t : TypeId)
  | tass (x : Operand) (xt a : TypeId) (ok : Bool)
  | eqI (neg : Bool) (x y : Operand)
  | ixAg (size len : Nat) (x i : Operand)
  | appZ (e : TypeId) (size bytes : Nat) (z : Value) (x y : Operand)
  | cvUP (x : Operand)
  | raw (o : Op) (t : TypeId)
  deriving Inhabited

def und (P : Program) (t : TypeId) : Option TypeDesc := P.underlying t
def siz (P : Program) (t : TypeId) : Option Nat := (P.info? t).map (·.size)
def zer (P : Program) (t : TypeId) : Option Value := (P.info? t).bind (·.zero)
def byt (P : Program) (t : TypeId) : Option Nat := (P.info? t).map (·.bytes)
def isagg (P : Program) (t : TypeId) : Option Bool := match und P t with | some (.struct _) | some (.array _ _) => some true | some _ => some false | none => none

def placesOf (P : Program) : List Field → Option (List (Nat × Nat))
  | [] => some []
  | f :: fs => match siz P f.type, placesOf P fs with
    | some n, some r => some ((f.offset, n) :: r)
    | _, _ => none

def hasBody (P : Program) (f : FuncId) : Bool := match P.funcs[f]? with | some fn => fn.body.isSome && !(fn.name == "runtime.NumGoroutine") | none => false

def cst : Operand → Bool | .const _ => true | _ => false

/-- What is looked up. -/
def resolveOp (P : Program) (o : Oper) : Option ROp :=
  match o.op with
  | .move x | .assign x => some (.mov x)
  | .pick c a b => some (.pick c a b)
  | .alloc e => match zer P e with | some z => some (.newv e z) | none => none
  | .box e x => some (.box e x)
  | .build t parts => match und P t, zer P t with
    | some (.struct fs), some z => match placesOf P fs.toList with | some pl => some (.build pl z.cells parts.toList) | none => none
    | some (.array _ e), some z => match siz P e with | some n => some (.buildA n z.cells parts.toList) | none => none
    | _, _ => none
  | .buildSlice t len parts => match und P t with
    | some (.slice e) => match siz P e, zer P e with
      | some n, some z => if len * n ≤ 65536 then some (.mkSl e n len ((Array.range (len * n)).map ((if len * n = 0 then #[] else z.cells)[· % (if len * n = 0 then #[] else z.cells).size]!)) parts.toList) else none
      | _, _ => none
    | _ => none
  | .load t a => match isagg P t, siz P t with | some true, some n => some (.loadN n a) | some false, some _ => some (.load1 a) | _, _ => none
  | .store t a x => match siz P t with | some n => some (.store n a x) | none => none
  | .nilCheck x => some (.nilck x)
  | .binOp op t x y _ => match und P t with
    | some (.int _) | some .string => some (.bin op t x y)
    | some d => match op with
      | .eql | .neq => match d with
        | .bool => some (.eqB (op == .neq) x y)
        | .pointer e => match siz P e with | some 0 => none | some _ => some (.eqP (op == .neq) x y) | none => none
        | .func .. => some (.eqF (op == .neq) x y)
        | .slice _ => some (.eqS (op == .neq) x y)
        | .map .. => some (.eqM (op == .neq) x y)
        | _ => some (.raw o.op o.type)
      | _ => some (.raw o.op o.type)
    | none => none
  | .unOp op _ x => some (.un op x)
  | .convert s d x => match und P s, und P d with
    | some (.int _), some (.int k) => some (.cvInt k x)
    | some .string, some .string => some (.cvId x)
    | some (.slice e), some .string => match und P e with | some (.int .u8) => some (.cvB2S x) | _ => none
    | some .string, some (.slice e) => match und P e with | some (.int .u8) => some (.cvS2B e x) | _ => none
    | some (.slice _), some (.slice e) => match s == d, und P e with | true, some (.int .u8) => some (.cvMark x) | _, _ => none
    | _, _ => none
  | .makeInterface t x => match und P t with | some (.interface _) => none | some _ => some (.mkIf t x) | none => none
  | .makeFunc fn first caps => some (.mkFn fn first.toList caps.toList)
  | .makeMap _ none => some .mkMap
  | .makeSlice t l c => match und P t with
    | some (.slice e) => match siz P e, byt P e, zer P e with | some n, some b, some z => some (.mkSlice e n b z l c) | _, _, _ => none
    | _ => none
  | .slice t x lo hi mx => match und P t with
    | some .string => match mx with | none => some (.slcS x lo hi) | some _ => none
    | some (.slice e) => match siz P e with | some n => some (.slcL n x lo hi mx) | none => none
    | some (.array n e) => match siz P e with | some s => some (.slcA s n x lo hi mx) | none => none
    | _ => none
  | .fieldAddr s x f => match und P s with
    | some (.struct fs) => match fs[f]? with
      | some fd => match siz P fd.type with | some (_ + 1) => some (.faddr fd.offset x) | _ => none
      | none => none
    | _ => none
  | .field t x f => match und P t with
    | some (.struct fs) => match fs[f]? with
      | some fd => match isagg P fd.type, siz P fd.type with | some true, some n => some (.fldN fd.offset n x) | some false, some _ => some (.fld1 fd.offset x) | _, _ => none
      | none => none
    | _ => none
  | .indexAddr t x i => match und P t with
    | some (.slice e) => match siz P e with | some n => some (.ixS n x i) | none => none
    | some (.array l e) => match siz P e with | some n => some (.ixA n l x i) | none => none
    | _ => none
  | .index t x i => match und P t with | some .string => some (.ixStr x i) | some _ => some (.raw o.op o.type) | none => none
  | .extract x i => some (.extr x i)
  | .call c => match c.callee with
    | .value (.func f) => if hasBody P f then some (.call f c.args.toList) else some (.ext f c.args.toList)
    | .value x => some (.callV x c.args.toList)
    | .invoke x name => some (.inv x name c.args.toList)
    | .builtin .len => match c.argTypes[0]?, c.args.toList with
      | some t, [x] => match und P t with
        | some (.slice _) => some (.lenS x)
        | some .string => some (.lenT x)
        | some (.array n _) => some (.lenC n)
        | some (.map _ _) => some (.lenM x)
        | some (.pointer a) => match und P a with | some (.array n _) => some (.lenC n) | _ => none
        | _ => none
      | _, _ => none
    | .builtin .cap => match c.argTypes[0]?, c.args.toList with
      | some t, [x] => match und P t with | some (.slice _) => some (.capS x) | _ => none
      | _, _ => none
    | .builtin .append => match c.argTypes[0]?, c.argTypes[1]?, c.args.toList with
      | some t, some u, [x, y] => match und P t with
        | some (.slice e) => match siz P e, byt P e, zer P e, und P u with
          | some _, some _, some _, some (.int _) => none
          | some n, some b, some z, some _ => some (.app e n b z x y)
          | _, _, _, _ => none
        | _ => none
      | _, _, _ => none
    | .builtin .copy => match c.argTypes[0]?, c.args.toList with
      | some t, [x, y] => match und P t with
        | some (.slice e) => match siz P e with | some n => some (.copy n x y) | none => none
        | _ => none
      | _, _ => none
    | .builtin b => some (.bi b c.argTypes o.type (c.args.map cst) c.args.toList)
  | .panic x => some (.panic x)
  | .defer c => some (.defr c o.type)
  | .typeAssert x xt a ok => match und P a with | some (.interface _) => some (.raw o.op o.type) | some _ => some (.tass x xt a ok) | none => none
  | op => some (.raw op o.type)

/-- What resolveOp leaves. -/
def special (P : Program) (o : Oper) : Option ROp :=
  match o.op with
  | .binOp op t x y _ => match und P t with
    | some (.interface _) => match op, cst x || cst y with
      | .eql, true => some (.eqI false x y)
      | .neq, true => some (.eqI true x y)
      | _, _ => none
    | _ => none
  | .index t x i => match und P t with
    | some (.array l e) => match isagg P e, siz P e with
      | some false, some n => some (.ixAg n l x i)
      | _, _ => none
    | _ => none
  | .convert s d x => match und P s, und P d with
    | some (.pointer t), some .unsafePointer => match siz P t with | some (_ + 1) => some (.cvUP x) | _ => none
    | _, _ => none
  | .call c => match c.callee with
    | .builtin .append => match c.argTypes[0]?, c.argTypes[1]?, c.args.toList with
      | some t, some u, [x, y] => match und P t, und P u with
        | some (.slice e), some (.int _) => match siz P e, byt P e, zer P e with
          | some n, some b, some z => some (.appZ e n b z x y)
          | _, _, _ => none
        | _, _ => none
      | _, _, _ => none
    | _ => none
  | _ => none

def vv (s : Sem Value) : Sem Next := do pure (.value (← s))
def uu (s : Sem Unit) : Sem Next := do s; pure .skip

/-- What it does. -/
def rsem (_P : Program) (ρ : Operand → Value) : ROp → Sem Next
  | .mov x => pure (.value (ρ x))
  | .pick c a b => do pure (.value (if ← asBool (ρ c) then ρ a else ρ b))
  | .newv e z => vv (do pure (.pointer (some (← newVar e z))))
  | .box e x => vv (Instr.box e (ρ x))
  | .build pl zero parts => vv (match Instr.fill (pl[·]?) zero (parts.map fun (i, x) => (i, ρ x)) with
      | some cells => pure (.agg cells) | none => stuck "build: no such field, or a part of the wrong size")
  | .buildA n zero parts => vv (match Instr.fill (fun i => some (i * n, n)) zero (parts.map fun (i, x) => (i, ρ x)) with
      | some cells => pure (.agg cells) | none => stuck "build: a part of the wrong size")
  | .mkSl e n len cells parts => vv (match Instr.fill (fun i => some (i * n, n)) cells (parts.map fun (i, x) => (i, ρ x)) with
      | some cells => do pure (.slice (some (← newRow e cells)) len len) | none => stuck "buildSlice: a part of the wrong size")
  | .load1 a => vv (do load (← Instr.sureAddr (ρ a)))
  | .loadN n a => vv (do pure (.agg (← loadCells (← Instr.sureAddr (ρ a)) n)))
  | .store n a x => uu (do
      let ad ← Instr.sureAddr (ρ a)
      if (ρ x).cells.size ≠ n then stuck "storeVar: the value has not the size of the variable"
      storeCells ad (ρ x).cells.toList)
  | .nilck x => execOp ρ ⟨none, .nilCheck x, 0, "", #[], none⟩
  | .bin op t x y => vv (do eqGuard op t x y (ρ x) (ρ y); binOp op t (ρ x) (ρ y))
  | .eqB neg x y => vv (match ρ x, ρ y with
      | .bool a, .bool b => pure (.bool (if neg then !(a == b) else a == b))
      | _, _ => stuck "eqB")
  | .eqP neg x y => vv (match ρ x, ρ y with
      | .pointer none, .pointer b => pure (.bool (if neg then !b.isNone else b.isNone))
      | .pointer _, .pointer none => pure (.bool (if neg then !false else false))
      | .pointer (some a), .pointer (some b) => do let r ← sameAddr a b; pure (.bool (if neg then !r else r))
      | _, _ => stuck "eqP")
  | .eqF neg x y => vv (match ρ x, ρ y with
      | .nilFunc, .nilFunc => pure (.bool (if neg then !true else true))
      | .nilFunc, .func _ _ _ => pure (.bool (if neg then !false else false))
      | .func _ _ _, .nilFunc => pure (.bool (if neg then !false else false))
      | _, _ => stuck "eqF")
  | .eqS neg x y => vv (match ρ x, ρ y with
      | .slice none _ _, .slice b _ _ => pure (.bool (if neg then !b.isNone else b.isNone))
      | .slice _ _ _, .slice none _ _ => pure (.bool (if neg then !false else false))
      | _, _ => stuck "eqS")
  | .eqM neg x y => vv (match ρ x, ρ y with
      | .map none, .map b => pure (.bool (if neg then !b.isNone else b.isNone))
      | .map _, .map none => pure (.bool (if neg then !false else false))
      | _, _ => stuck "eqM")
  | .un op x => vv (Op.unary op (ρ x))
  | .cvInt k x => vv (match ρ x with | .int _ n => Conv.intToInt k n | _ => stuck "cvInt")
  | .cvB2S x => vv (match ρ x with | .slice a n c => Conv.bytesToString (.slice a n c) | _ => stuck "cvB2S")
  | .cvS2B e x => vv (match ρ x with | .string s => Conv.stringToBytes e s | _ => stuck "cvS2B")
  | .cvId x => vv (match ρ x with | .string s => pure (.string s) | _ => stuck "cvId")
  | .cvMark x => vv (match ρ x with | .slice (some a) n c => do markStringish a; pure (.slice (some a) n c) | _ => stuck "cvMark")
  | .mkIf t x => pure (.value (.iface t (ρ x)))
  | .mkFn fn first caps => pure (.value (.func fn (first.map ρ).toArray (caps.map ρ).toArray))
  | .mkMap => vv (do pure (.map (some (← newObj (.map #[] 0)))))
  | .mkSlice e n b z l c => vv (match ρ l, ρ c with
      | .int _ len, .int _ cap =>
        if 0 ≤ len ∧ len ≤ cap ∧ cap ≤ 1152921504606846976 ∧ b * cap ≤ 140737488355328 then do
          let a ← newRow e ((Array.range (cap.toNat * n)).map ((if cap.toNat * n = 0 then #[] else z.cells)[· % (if cap.toNat * n = 0 then #[] else z.cells).size]!))
          pure (.slice (some a) len.toNat cap.toNat)
        else stuck "mkSlice"
      | _, _ => stuck "mkSlice")
  | .slcS x lo hi => vv (match ρ x with
      | .string s => do
        let (l, h, _) ← Instr.sliceBounds false s.size s.size (lo.map ρ) (hi.map ρ) none
        pure (.string (s.extract l h))
      | _ => stuck "slcS")
  | .slcL n x lo hi mx => vv (match ρ x with
      | .slice a len cap => do
        let (l, h, m) ← Instr.sliceBounds true len cap (lo.map ρ) (hi.map ρ) (mx.map ρ)
        pure (.slice (if m = l then a else a.map (·.add (l * n))) (h - l) (m - l))
      | _ => stuck "slcL")
  | .slcA s n x lo hi mx => vv (do
      let a ← Instr.sureAddr (ρ x)
      let (l, h, m) ← Instr.sliceBounds false n n (lo.map ρ) (hi.map ρ) (mx.map ρ)
      pure (.slice (some (if m = l then a else a.add (l * s))) (h - l) (m - l)))
  | .faddr off x => vv (do let a ← Instr.sureAddr (ρ x); pure (.pointer (some (a.add off))))
  | .fld1 off x => vv (do let cs ← asAgg (ρ x); match cs[off]? with | some v => pure v | none => stuck "part: no such cell")
  | .fldN off n x => vv (do let cs ← asAgg (ρ x); pure (.agg (cs.extract off (off + n))))
  | .ixS n x i => vv (do
      let (k, i) ← asIntOf (ρ i)
      match ρ x with
      | .slice (some a) len _ => if 0 ≤ i ∧ i < len then pure (.pointer (some (a.add (i.toNat * n)))) else boundsPanic k i len .index
      | .slice none _ _ => boundsPanic k i 0 .index
      | _ => stuck "ixS")
  | .ixA n len x i => vv (do
      let (k, i) ← asIntOf (ρ i)
      let a ← Instr.sureAddr (ρ x)
      if 0 ≤ i ∧ i < len then pure (.pointer (some (a.add (i.toNat * n))))
      else if len ≤ 1 then unsupported (.noEntry "op/indexAddr.an index out of range at an array of length 0 or 1 (ledger 616)")
      else boundsPanic k i len .index)
  | .ixStr x i => vv (do
      let (k, i) ← asIntOf (ρ i)
      match ρ x with
      | .string s => match (if 0 ≤ i then s[i.toNat]? else none) with
        | some b => pure (.int .u8 b.toNat)
        | none => boundsPanic k i s.size .index
      | _ => stuck "ixStr")
  | .extr x i => vv (Instr.extract (ρ x) i)
  | .call f xs => pure (.enter f (xs.map ρ).toArray)
  | .ext f xs => callFunc f (xs.map ρ).toArray
  | .callV x xs => do let d ← Deferred.ofValue (ρ x) (xs.map ρ).toArray; invoke d.target d.args
  | .inv x name xs => callMethod (ρ x) name (xs.map ρ).toArray
  | .lenS x => vv (match ρ x with | .slice _ n _ => pure (goInt n) | _ => stuck "lenS")
  | .lenT x => vv (match ρ x with | .string s => pure (goInt s.size) | _ => stuck "lenT")
  | .lenC n => vv (pure (goInt n))
  | .lenM x => vv (match ρ x with
      | .map none => pure (goInt 0)
      | .map (some r) => do
        let .map entries _ ← getObj r | stuck "len: map expected"
        pure (goInt entries.size)
      | _ => stuck "lenM")
  | .capS x => vv (match ρ x with | .slice _ _ c => pure (goInt c) | _ => stuck "capS")
  | .app e n b z x y => vv (match ρ x with
      | .slice base sLen sCap => do
        let m ← Builtin.lenOf (ρ y)
        let need := sLen + m
        if need ≤ sCap then
          let new ← Builtin.firstCells n m (ρ y)
          if let some a := base then storeCells (a.add (sLen * n)) new.toList
          pure (.slice base need sCap)
        else
          if b = 0 ∨ Builtin.nextslicecap need sCap * b > 2 ^ 48 then stuck "append: too much"
          let newCap ← choose (.appendCap need sCap e)
          askRoom (newCap * b)
          let old ← Builtin.firstCells n sLen (.slice base sLen sCap)
          let new ← Builtin.firstCells n m (ρ y)
          let rest := Builtin.zeroCells z.cells (newCap - need)
          pure (.slice (some (← newRow e (old ++ new ++ rest))) need newCap)
      | _ => stuck "append: slice expected")
  | .copy n x y => vv (match ρ x with
      | .slice base dLen _ => do
        let m := Nat.min (← Builtin.lenOf (ρ y)) dLen
        let cells ← Builtin.firstCells n m (ρ y)
        if let some a := base then storeCells a cells.toList
        pure (goInt m)
      | _ => stuck "copy: slice expected")
  | .bi b ats t cs xs => builtin b ats t cs (xs.map ρ).toArray
  | .panic x => vv (Instr.panic (ρ x))
  | .defr c t => do pure (.defer (← resolve ρ c t))
  | .tass x xt a ok => vv (match ρ x with
      | .iface t v => if t = a then pure (if ok then .tuple #[v, .bool true] else v) else Instr.typeAssert (.iface t v) xt a ok
      | x => Instr.typeAssert x xt a ok)
  | .eqI neg x y => vv (match ρ x, ρ y with
      | .nilIface, .nilIface => pure (.bool (if neg then !true else true))
      | .nilIface, .iface _ _ => pure (.bool (if neg then !false else false))
      | .iface _ _, .nilIface => pure (.bool (if neg then !false else false))
      | _, _ => stuck "eqI")
  | .ixAg n len x i => vv (do
      let (_, i) ← asIntOf (ρ i)
      match ρ x with
      | .agg cs => if 0 ≤ i ∧ i < len then (match cs[i.toNat * n]? with | some v => pure v | none => stuck "part: no such cell") else stuck "ixAg"
      | _ => stuck "ixAg")
  | .appZ e n b z x y => vv (match ρ x, ρ y with
      | .slice base sLen sCap, .int _ l => do
        if ¬ (0 ≤ l ∧ l ≤ 70368744177664 ∧ l * b ≤ 70368744177664 ∧ b ≠ 0 ∧ n ≠ 0 ∧ sLen ≤ 70368744177664) then stuck "appZ" else
        let m := l.toNat
        let need := sLen + m
        if need ≤ sCap then
          let new := if m * n = 0 then #[] else Builtin.zeroCells z.cells m
          if let some a := base then storeCells (a.add (sLen * n)) new.toList
          pure (.slice base need sCap)
        else
          if Builtin.nextslicecap need sCap * b > 2 ^ 48 then stuck "append: too much"
          let newCap ← choose (.appendCap need sCap e)
          askRoom (newCap * b)
          let old ← Builtin.firstCells n sLen (.slice base sLen sCap)
          let new := if m * n = 0 then #[] else Builtin.zeroCells z.cells m
          let rest := Builtin.zeroCells z.cells (newCap - need)
          pure (.slice (some (← newRow e (old ++ new ++ rest))) need newCap)
      | _, _ => stuck "append: slice expected")
  | .cvUP x => vv (match ρ x with
      | .pointer none => pure (.pointer none)
      | .pointer (some a) => do
        match ← shape a.block with
        | some (_, n) => if a.off < n ∧ a.spot = none then pure (.pointer (some a)) else stuck "cvUP"
        | none => stuck "cvUP"
      | _ => stuck "cvUP")
  | .raw o t => execOp ρ ⟨none, o, t, "", #[], none⟩
end Go.Lx
