/- Values and memory with names for blocks, and what operations do on them. -/
import Derived.Test.YtbmncepaajkngaaGreatLxRun
namespace Go.Lx
set_option linter.unusedVariables false

/-- Where results are read. -/
inductive RV where
  | tmp (t : Nat)
  | cell1 (a : Nat)
  | cellN (a n : Nat)
def resolveR (P : Program) : List ResultVar → Option (List RV)
  | [] => some []
  | .tmp t :: r => match resolveR P r with | some x => some (.tmp t :: x) | none => none
  | .cell a t :: r => match isagg P t, siz P t, resolveR P r with
    | some true, some n, some x => some (.cellN a n :: x)
    | some false, some _, some x => some (.cell1 a :: x)
    | _, _, _ => none


noncomputable section

inductive Cap where
  | k (n : Nat)
  | v (j d o : Nat)
  deriving Inhabited

inductive V where
  | b (x : Bool)
  | i (k : IntKind) (n : Int)
  | s (l : List UInt8)
  | p (x : Option (Nat × Nat))
  | sl (x : Option (Nat × Nat)) (len : Nat) (cap : Cap)
  | m (x : Option Nat)
  | fn (f : Fn) (first caps : List V)
  | nf
  | fc (t : Nat) (v : V)
  | ni
  | ag (l : List V)
  | tp (l : List V)
  | o (u : Value)
  deriving Inhabited

/-- Tries: eight ways at each place. -/
inductive T (α : Type) where
  | nil
  | nd (v : Option α) (a b c d e f g h : T α)
/-- The way to a place. -/
inductive P8 where
  | z
  | d0 (p : P8)
  | d1 (p : P8)
  | d2 (p : P8)
  | d3 (p : P8)
  | d4 (p : P8)
  | d5 (p : P8)
  | d6 (p : P8)
  | d7 (p : P8)
  deriving DecidableEq
def dig (r : Nat) (p : P8) : P8 := Nat.rec (motive := fun _ => P8) (P8.d0 p) (fun r _ => Nat.rec (motive := fun _ => P8) (P8.d1 p) (fun r _ => Nat.rec (motive := fun _ => P8) (P8.d2 p) (fun r _ => Nat.rec (motive := fun _ => P8) (P8.d3 p) (fun r _ => Nat.rec (motive := fun _ => P8) (P8.d4 p) (fun r _ => Nat.rec (motive := fun _ => P8) (P8.d5 p) (fun r _ => Nat.rec (motive := fun _ => P8) (P8.d6 p) (fun r _ => P8.d7 p) r) r) r) r) r) r) r
def pthD (d : Nat) : Nat → P8 := Nat.rec (motive := fun _ => Nat → P8) (fun _ => .z) (fun _ ih n => Nat.rec (motive := fun _ => P8) .z (fun m _ => dig (Nat.mod m 8) (ih (Nat.div m 8))) n) d
def pth (n : Nat) : P8 := pthD (Nat.succ n) n
def gm8 (α : Type) : T α → Option α := fun t => T.rec (motive := fun _ => Option α) none (fun v _ _ _ _ _ _ _ _ _ _ _ _ _ _ _ _ => v) t
def gm0 (α : Type) (_ : P8) (ih : T α → Option α) (t : T α) : Option α := T.rec (motive := fun _ => Option α) none (fun _ a _ _ _ _ _ _ _ _ _ _ _ _ _ _ _ => ih a) t
def gm1 (α : Type) (_ : P8) (ih : T α → Option α) (t : T α) : Option α := T.rec (motive := fun _ => Option α) none (fun _ _ b _ _ _ _ _ _ _ _ _ _ _ _ _ _ => ih b) t
def gm2 (α : Type) (_ : P8) (ih : T α → Option α) (t : T α) : Option α := T.rec (motive := fun _ => Option α) none (fun _ _ _ c _ _ _ _ _ _ _ _ _ _ _ _ _ => ih c) t
def gm3 (α : Type) (_ : P8) (ih : T α → Option α) (t : T α) : Option α := T.rec (motive := fun _ => Option α) none (fun _ _ _ _ d _ _ _ _ _ _ _ _ _ _ _ _ => ih d) t
def gm4 (α : Type) (_ : P8) (ih : T α → Option α) (t : T α) : Option α := T.rec (motive := fun _ => Option α) none (fun _ _ _ _ _ e _ _ _ _ _ _ _ _ _ _ _ => ih e) t
def gm5 (α : Type) (_ : P8) (ih : T α → Option α) (t : T α) : Option α := T.rec (motive := fun _ => Option α) none (fun _ _ _ _ _ _ f _ _ _ _ _ _ _ _ _ _ => ih f) t
def gm6 (α : Type) (_ : P8) (ih : T α → Option α) (t : T α) : Option α := T.rec (motive := fun _ => Option α) none (fun _ _ _ _ _ _ _ g _ _ _ _ _ _ _ _ _ => ih g) t
def gm7 (α : Type) (_ : P8) (ih : T α → Option α) (t : T α) : Option α := T.rec (motive := fun _ => Option α) none (fun _ _ _ _ _ _ _ _ h _ _ _ _ _ _ _ _ => ih h) t
def getP {α : Type} (p : P8) : T α → Option α := P8.rec (motive := fun _ => T α → Option α) (gm8 α) (gm0 α) (gm1 α) (gm2 α) (gm3 α) (gm4 α) (gm5 α) (gm6 α) (gm7 α) p
def T.get {α : Type} (t : T α) (n : Nat) : Option α := getP (pth n) t
def sm8 (α β : Type) (t : T α) (x : Option α) (k : T α → β) : β := T.rec (motive := fun _ => β) (k (.nd x .nil .nil .nil .nil .nil .nil .nil .nil)) (fun _ a b c d e f g h _ _ _ _ _ _ _ _ => k (.nd x a b c d e f g h)) t
def sm0 (α β : Type) (_ : P8) (ih : T α → Option α → (T α → β) → β) (t : T α) (x : Option α) (k : T α → β) : β := T.rec (motive := fun _ => β) (ih .nil x fun y => k (.nd none y .nil .nil .nil .nil .nil .nil .nil)) (fun v a b c d e f g h _ _ _ _ _ _ _ _ => ih a x fun y => k (.nd v y b c d e f g h)) t
def sm1 (α β : Type) (_ : P8) (ih : T α → Option α → (T α → β) → β) (t : T α) (x : Option α) (k : T α → β) : β := T.rec (motive := fun _ => β) (ih .nil x fun y => k (.nd none .nil y .nil .nil .nil .nil .nil .nil)) (fun v a b c d e f g h _ _ _ _ _ _ _ _ => ih b x fun y => k (.nd v a y c d e f g h)) t
def sm2 (α β : Type) (_ : P8) (ih : T α → Option α → (T α → β) → β) (t : T α) (x : Option α) (k : T α → β) : β := T.rec (motive := fun _ => β) (ih .nil x fun y => k (.nd none .nil .nil y .nil .nil .nil .nil .nil)) (fun v a b c d e f g h _ _ _ _ _ _ _ _ => ih c x fun y => k (.nd v a b y d e f g h)) t
def sm3 (α β : Type) (_ : P8) (ih : T α → Option α → (T α → β) → β) (t : T α) (x : Option α) (k : T α → β) : β := T.rec (motive := fun _ => β) (ih .nil x fun y => k (.nd none .nil .nil .nil y .nil .nil .nil .nil)) (fun v a b c d e f g h _ _ _ _ _ _ _ _ => ih d x fun y => k (.nd v a b c y e f g h)) t
def sm4 (α β : Type) (_ : P8) (ih : T α → Option α → (T α → β) → β) (t : T α) (x : Option α) (k : T α → β) : β := T.rec (motive := fun _ => β) (ih .nil x fun y => k (.nd none .nil .nil .nil .nil y .nil .nil .nil)) (fun v a b c d e f g h _ _ _ _ _ _ _ _ => ih e x fun y => k (.nd v a b c d y f g h)) t
def sm5 (α β : Type) (_ : P8) (ih : T α → Option α → (T α → β) → β) (t : T α) (x : Option α) (k : T α → β) : β := T.rec (motive := fun _ => β) (ih .nil x fun y => k (.nd none .nil .nil .nil .nil .nil y .nil .nil)) (fun v a b c d e f g h _ _ _ _ _ _ _ _ => ih f x fun y => k (.nd v a b c d e y g h)) t
def sm6 (α β : Type) (_ : P8) (ih : T α → Option α → (T α → β) → β) (t : T α) (x : Option α) (k : T α → β) : β := T.rec (motive := fun _ => β) (ih .nil x fun y => k (.nd none .nil .nil .nil .nil .nil .nil y .nil)) (fun v a b c d e f g h _ _ _ _ _ _ _ _ => ih g x fun y => k (.nd v a b c d e f y h)) t
def sm7 (α β : Type) (_ : P8) (ih : T α → Option α → (T α → β) → β) (t : T α) (x : Option α) (k : T α → β) : β := T.rec (motive := fun _ => β) (ih .nil x fun y => k (.nd none .nil .nil .nil .nil .nil .nil .nil y)) (fun v a b c d e f g h _ _ _ _ _ _ _ _ => ih h x fun y => k (.nd v a b c d e f g y)) t
def setP {α β : Type} (p : P8) : T α → Option α → (T α → β) → β := P8.rec (motive := fun _ => T α → Option α → (T α → β) → β) (sm8 α β) (sm0 α β) (sm1 α β) (sm2 α β) (sm3 α β) (sm4 α β) (sm5 α β) (sm6 α β) (sm7 α β) p
/-- Set, and go on with what came of it: all is reckoned before it goes on. -/
def T.setK {α β : Type} (t : T α) (n : Nat) (x : Option α) (k : T α → β) : β := setP (pth n) t x k

/-- Reckoned numbers, lists. -/
def fN {β : Type} (n : Nat) (k : Nat → β) : β := Nat.casesOn (motive := fun _ => β) n (k 0) (fun m => k (Nat.succ m))
def fI {β : Type} (n : Int) (k : Int → β) : β := Int.casesOn (motive := fun _ => β) n (fun m => fN m fun m => k (.ofNat m)) (fun m => fN m fun m => k (.negSucc m))
def fB {β : Type} (b : Bool) (k : Bool → β) : β := Bool.casesOn (motive := fun _ => β) b (k false) (k true)
def fL {α β : Type} (l : List α) : (List α → β) → β :=
  List.rec (motive := fun _ => (List α → β) → β) (fun k => k []) (fun x _ ih k => ih fun r => k (x :: r)) l
def fCap {β : Type} (c : Cap) (k : Cap → β) : β := match c with
  | .k n => fN n fun n => k (.k n)
  | .v j d o => fN j fun j => fN d fun d => fN o fun o => k (.v j d o)
def fA {β : Type} (a : Option (Nat × Nat)) (k : Option (Nat × Nat) → β) : β := match a with
  | none => k none
  | some (b, o) => fN b fun b => fN o fun o => k (some (b, o))
def fV {β : Type} (v : V) (k : V → β) : β := match v with
  | .b x => fB x fun x => k (.b x)
  | .i t n => fI n fun n => k (.i t n)
  | .s l => fL l fun l => k (.s l)
  | .p a => fA a fun a => k (.p a)
  | .sl a n c => fA a fun a => fN n fun n => fCap c fun c => k (.sl a n c)
  | .m none => k (.m none)
  | .m (some b) => fN b fun b => k (.m (some b))
  | .ag l => fL l fun l => k (.ag l)
  | v => k v

/-- A deferred call. -/
inductive Dt where
  | fn (f : Nat) (args : List V)
  | coll (b : Nat)

/-- What a name stands for. -/
inductive E where
  | c (l : List V) (e : TypeId) (tail : Option (Nat × Nat)) (z : Bool)
  | m (l : List (V × V × Nat)) (clock : Nat)
  | lp (st : LoopState) (pend : Option RC) (fn : Nat) (tm : T V) (n : Nat) (ps : List Nat) (assign body : RC) (df : Nat)
  | df (l : Option (List Dt))

structure St where
  h : T E
  nb : Nat
  nc : Nat

def ofC : Nat → Value → Option V
  | _, .bool x => some (.b x)
  | _, .int k n => some (.i k n)
  | _, .string s => some (.s s.data.toList)
  | _, .pointer none => some (.p none)
  | _, .slice none l c => some (.sl none l (.k c))
  | _, .map none => some (.m none)
  | _, .nilFunc => some .nf
  | _, .nilIface => some .ni
  | _, .func (.func f) ⟨[]⟩ ⟨[]⟩ => some (.fn (.func f) [] [])
  | d + 1, .agg cs => (cs.toList.mapM (ofC d)).bind fun l => some (.ag l)
  | d + 1, .tuple cs => (cs.toList.mapM (ofC d)).bind fun l => some (.tp l)
  | d + 1, .iface t v => (ofC d v).bind fun v => some (.fc t v)
  | _, _ => none

abbrev VE := Operand → Option V
def evV (e : T V) : VE
  | .tmp t => e.get t
  | .const c => ofC 4 c
  | .global _ => none
  | .func f => some (.fn (.func f) [] [])
def evsV (e : VE) : List Operand → Option (List V)
  | [] => some []
  | x :: r => (e x).bind fun v => (evsV e r).bind fun vs => some (v :: vs)
def evpV (e : VE) : List (Nat × Operand) → Option (List (Nat × V))
  | [] => some []
  | (i, x) :: r => (e x).bind fun v => (evpV e r).bind fun vs => some ((i, v) :: vs)
def cellsV : V → List V
  | .ag l => l
  | v => [v]

def oneV : V → Bool
  | .ag _ | .tp _ => false
  | _ => true
def onesV : List V → Bool
  | [] => true
  | v :: vs => bif oneV v then onesV vs else false
def layV : List V → Nat → List V → Option (List V)
  | cs, 0, [] => some cs
  | _ :: cs, 0, v :: vs => bif oneV v then (layV cs 0 vs).bind fun r => some (v :: r) else none
  | c :: cs, n + 1, vs => (layV cs n vs).bind fun r => some (c :: r)
  | [], 0, _ :: _ => none
  | [], _ + 1, _ => none
def bldV (pl : Nat → Option (Nat × Nat)) : List V → List (Nat × V) → Option (List V)
  | cs, [] => some cs
  | cs, (i, v) :: rest => (pl i).bind fun (off, size) => bif Nat.beq (cellsV v).length size then (layV cs off (cellsV v)).bind fun cs' => bldV pl cs' rest else none
def partV : Nat → Nat → List V → Option (List V)
  | 0, 0, _ => some []
  | 0, _ + 1, [] => none
  | 0, n + 1, v :: vs => (partV 0 n vs).bind fun r => some (v :: r)
  | _ + 1, _, [] => none
  | o + 1, n, _ :: vs => partV o n vs
def nthV {α : Type} : List α → Nat → Option α
  | [], _ => none
  | x :: _, 0 => some x
  | _ :: xs, n + 1 => nthV xs n

def modK : IntKind → Nat
  | .i8 => 256 | .i16 => 65536 | .i32 => 4294967296 | .i64 => 18446744073709551616 | .u8 => 256 | .u16 => 65536 | .u32 => 4294967296 | .u64 => 18446744073709551616
def halfK : IntKind → Nat
  | .i8 => 128 | .i16 => 32768 | .i32 => 2147483648 | .i64 => 9223372036854775808 | .u8 => 256 | .u16 => 65536 | .u32 => 4294967296 | .u64 => 18446744073709551616
def kN : IntKind → Nat
  | .i8 => 0 | .i16 => 1 | .i32 => 2 | .i64 => 3 | .u8 => 4 | .u16 => 5 | .u32 => 6 | .u64 => 7
/-- The bits of a number, as a number. -/
def bitN (k : IntKind) : Int → Nat
  | .ofNat m => bif Nat.blt m (halfK k) then m else Nat.mod m (modK k)
  | .negSucc m => Nat.sub (Nat.sub (modK k) 1) (Nat.mod m (modK k))
/-- A number of these bits. -/
def ofBits (k : IntKind) (m : Nat) : Int := bif Nat.blt m (halfK k) then .ofNat m else .negSucc (Nat.sub (Nat.sub (modK k) 1) m)
def wrapV (k : IntKind) (n : Int) : Int :=
  match n with
  | .ofNat m => bif Nat.blt m (halfK k) then .ofNat m else ofBits k (Nat.mod m (modK k))
  | .negSucc m => ofBits k (Nat.sub (Nat.sub (modK k) 1) (Nat.mod m (modK k)))
def ltI : Int → Int → Bool
  | .ofNat a, .ofNat b => Nat.blt a b
  | .negSucc _, .ofNat _ => true
  | .ofNat _, .negSucc _ => false
  | .negSucc a, .negSucc b => Nat.blt b a
def eqI : Int → Int → Bool
  | .ofNat a, .ofNat b => Nat.beq a b
  | .negSucc a, .negSucc b => Nat.beq a b
  | _, _ => false
def arith (op : BinOp) (k : IntKind) (a b : Int) : Option V :=
  match op with
  | .add => some (.i k (wrapV k (Int.add a b)))
  | .sub => some (.i k (wrapV k (Int.sub a b)))
  | .mul => some (.i k (wrapV k (Int.mul a b)))
  | .quo => bif eqI b (.ofNat 0) then none else some (.i k (wrapV k (Int.tdiv a b)))
  | .rem => bif eqI b (.ofNat 0) then none else some (.i k (Int.tmod a b))
  | .and => some (.i k (ofBits k (Nat.land (bitN k a) (bitN k b))))
  | .or => some (.i k (ofBits k (Nat.lor (bitN k a) (bitN k b))))
  | .xor => some (.i k (ofBits k (Nat.xor (bitN k a) (bitN k b))))
  | .andNot => some (.i k (ofBits k (Nat.land (bitN k a) (Nat.xor (bitN k b) (Nat.sub (modK k) 1)))))
  | .eql => some (.b (eqI a b))
  | .neq => some (.b (!eqI a b))
  | .lss => some (.b (ltI a b))
  | .leq => some (.b (!ltI b a))
  | .gtr => some (.b (ltI b a))
  | .geq => some (.b (!ltI a b))
  | _ => none
def bitsK : IntKind → Nat
  | .i8 => 8 | .i16 => 16 | .i32 => 32 | .i64 => 64 | .u8 => 8 | .u16 => 16 | .u32 => 32 | .u64 => 64
def minN (a b : Nat) : Nat := bif Nat.blt a b then a else b
def shiftV (op : BinOp) (k : IntKind) (a b : Int) : Option V :=
  match b with
  | .negSucc _ => none
  | .ofNat n => match op with
    | .shl => some (.i k (wrapV k (Int.mul a (.ofNat (Nat.pow 2 (minN n (bitsK k)))))))
    | .shr => match a with
      | .ofNat m => some (.i k (.ofNat (Nat.div m (Nat.pow 2 (minN n (bitsK k))))))
      | .negSucc m => some (.i k (.negSucc (Nat.div m (Nat.pow 2 (minN n (bitsK k))))))
    | _ => none

def lessB : List UInt8 → List UInt8 → Bool
  | [], [] => false
  | [], _ :: _ => true
  | _ :: _, [] => false
  | a :: as, b :: bs => bif Nat.blt a.toNat b.toNat then true else bif Nat.blt b.toNat a.toNat then false else lessB as bs
def eqBs : List UInt8 → List UInt8 → Bool
  | [], [] => true
  | a :: as, b :: bs => bif Nat.beq a.toNat b.toNat then eqBs as bs else false
  | _, _ => false
def strOp (op : BinOp) (a b : List UInt8) : Option V :=
  match op with
  | .add => bif Nat.ble (a.length + b.length) 9223372036854775807 then some (.s (a ++ b)) else none
  | .eql => some (.b (eqBs a b))
  | .neq => some (.b (!eqBs a b))
  | .lss => some (.b (lessB a b))
  | .leq => some (.b (lessB a b || eqBs a b))
  | .gtr => some (.b (!(lessB a b || eqBs a b)))
  | .geq => some (.b (!lessB a b))
  | _ => none

def getC (s : St) (b : Nat) : Option (List V) := match s.h.get b with | some (.c l _ _ _) => some l | _ => none
/-- Cells that nobody else may be looking at. -/
def getU (s : St) (b : Nat) : Option (List V) := match s.h.get b with | some (.c l _ _ false) => some l | _ => none

/-- Bytes of cells. -/
def bytesOf : List V → Option (List UInt8)
  | [] => some []
  | .i .u8 n :: r => (bytesOf r).bind fun t => some (UInt8.ofNat n.toNat :: t)
  | _ :: _ => none
def bndV (e : VE) (o : Option Operand) (d : Nat) : Option Nat :=
  match o with
  | none => some d
  | some x => match e x with
    | some (.i _ (.ofNat n)) => some n
    | _ => none
def capMx (cap : Cap) (m len : Nat) : Bool := match cap with | .k c => Nat.ble m c | .v _ _ _ => Nat.ble m len && Nat.blt 0 len
def capRoom (cap : Cap) (n : Nat) : Bool := match cap with | .k c => Nat.ble n c | .v _ _ _ => false
def ngV (neg b : Bool) : V := .b (bif neg then !b else b)

/-! ### What only computes or reads -/
def q_movV (x : Operand) (e : VE) (_ : St) : Option V := e x
def q_pickV (c : Operand) (a : Operand) (b : Operand) (e : VE) (_ : St) : Option V := match e c with
    | some (.b true) => e a
    | some (.b false) => e b
    | _ => none
def q_buildV (pl : List (Nat × Nat)) (zero : Array Value) (parts : List (Nat × Operand)) (e : VE) (_ : St) : Option V := (ofC 4 (.agg zero)).bind fun z => (evpV e parts).bind fun vs => (bldV (nthV pl) (cellsV z) vs).bind fun r => some (.ag r)
def q_buildAV (n : Nat) (zero : Array Value) (parts : List (Nat × Operand)) (e : VE) (_ : St) : Option V := (ofC 4 (.agg zero)).bind fun z => (evpV e parts).bind fun vs => (bldV (fun i => some (i * n, n)) (cellsV z) vs).bind fun r => some (.ag r)
def q_load1V (a : Operand) (e : VE) (s : St) : Option V := match e a with
    | some (.p (some (b, o))) => (getC s b).bind fun l => nthV l o
    | _ => none
def q_loadNV (n : Nat) (a : Operand) (e : VE) (s : St) : Option V := match e a with
    | some (.p (some (b, o))) => (getC s b).bind fun l => (partV o n l).bind fun r => some (.ag r)
    | _ => none
def q_nilckV (x : Operand) (e : VE) (_ : St) : Option V := match e x with
    | some (.p (some a)) => some (.p (some a))
    | some (.fn (.func f) a b) => some (.fn (.func f) a b)
    | some (.fn (.yield f) a b) => some (.fn (.yield f) a b)
    | some (.fc t v) => some (.fc t v)
    | _ => none
def q_binV (op : BinOp) (x : Operand) (y : Operand) (e : VE) (_ : St) : Option V := match e x, e y with
    | some (.i k a), some (.i k' b) => match op with
      | .shl => shiftV .shl k a b
      | .shr => shiftV .shr k a b
      | op => bif Nat.beq (kN k) (kN k') then arith op k a b else none
    | some (.s a), some (.s b) => strOp op a b
    | _, _ => none
def q_eqBV (neg : Bool) (x : Operand) (y : Operand) (e : VE) (_ : St) : Option V := match e x, e y with | some (.b a), some (.b b) => some (ngV neg (a == b)) | _, _ => none
def q_eqPV (neg : Bool) (x : Operand) (y : Operand) (e : VE) (_ : St) : Option V := match e x, e y with
    | some (.p none), some (.p none) => some (ngV neg true)
    | some (.p none), some (.p (some _)) => some (ngV neg false)
    | some (.p (some _)), some (.p none) => some (ngV neg false)
    | some (.p (some (a, o))), some (.p (some (b, u))) => bif Nat.beq a b then some (ngV neg (Nat.beq o u)) else none
    | _, _ => none
def q_eqFV (neg : Bool) (x : Operand) (y : Operand) (e : VE) (_ : St) : Option V := match e x, e y with
    | some .nf, some .nf => some (ngV neg true)
    | some .nf, some (.fn _ _ _) => some (ngV neg false)
    | some (.fn _ _ _), some .nf => some (ngV neg false)
    | _, _ => none
def q_eqSV (neg : Bool) (x : Operand) (y : Operand) (e : VE) (_ : St) : Option V := match e x, e y with
    | some (.sl none _ _), some (.sl none _ _) => some (ngV neg true)
    | some (.sl none _ _), some (.sl (some _) _ _) => some (ngV neg false)
    | some (.sl (some _) _ _), some (.sl none _ _) => some (ngV neg false)
    | _, _ => none
def q_eqMV (neg : Bool) (x : Operand) (y : Operand) (e : VE) (_ : St) : Option V := match e x, e y with
    | some (.m none), some (.m none) => some (ngV neg true)
    | some (.m none), some (.m (some _)) => some (ngV neg false)
    | some (.m (some _)), some (.m none) => some (ngV neg false)
    | _, _ => none
def q_eqIV (neg : Bool) (x : Operand) (y : Operand) (e : VE) (_ : St) : Option V := match e x, e y with
    | some .ni, some .ni => some (ngV neg true)
    | some .ni, some (.fc _ _) => some (ngV neg false)
    | some (.fc _ _), some .ni => some (ngV neg false)
    | _, _ => none
def q_unV (op : UnOp) (x : Operand) (e : VE) (_ : St) : Option V := match op, e x with
    | .not, some (.b b) => some (.b (!b))
    | .neg, some (.i k n) => some (.i k (wrapV k (Int.neg n)))
    | .xor, some (.i k n) => some (.i k (ofBits k (Nat.sub (Nat.sub (modK k) 1) (bitN k n))))
    | _, _ => none
def q_cvIntV (k : IntKind) (x : Operand) (e : VE) (_ : St) : Option V := match e x with | some (.i _ n) => some (.i k (wrapV k n)) | _ => none
def q_cvB2SV (x : Operand) (e : VE) (s : St) : Option V := match e x with
    | some (.sl none _ _) => some (.s [])
    | some (.sl (some (b, o)) n _) => (getC s b).bind fun l => (partV o n l).bind fun r => (bytesOf r).bind fun t => some (.s t)
    | _ => none
def q_cvIdV (x : Operand) (e : VE) (_ : St) : Option V := match e x with | some (.s l) => some (.s l) | _ => none
def q_cvUPV (x : Operand) (e : VE) (s : St) : Option V := match e x with
    | some (.p none) => some (.p none)
    | some (.p (some (b, o))) => (getC s b).bind fun l => bif Nat.blt o l.length then some (.p (some (b, o))) else none
    | _ => none
def q_mkIfV (t : TypeId) (x : Operand) (e : VE) (_ : St) : Option V := (e x).bind fun v => some (.fc t v)
def q_mkFnV (fn : Fn) (first : List Operand) (caps : List Operand) (e : VE) (_ : St) : Option V := match fn with
    | .func f => (evsV e first).bind fun a => (evsV e caps).bind fun b => some (.fn (.func f) a b)
    | _ => none
def q_slcSV (x : Operand) (lo : Option Operand) (hi : Option Operand) (e : VE) (_ : St) : Option V := match e x with
    | some (.s l) => (bndV e lo 0).bind fun a => (bndV e hi l.length).bind fun b => bif Nat.ble a b && Nat.ble b l.length then some (.s ((l.take b).drop a)) else none
    | _ => none
def q_slcLV (n : Nat) (x : Operand) (lo : Option Operand) (hi : Option Operand) (mx : Option Operand) (e : VE) (_ : St) : Option V := match e x with
    | some (.sl a len cap) => (bndV e lo 0).bind fun l => (bndV e hi len).bind fun h =>
      match mx, cap with
      | none, .k c => bif Nat.ble l h && Nat.ble h c then some (.sl (bif Nat.beq c l then a else a.map fun (b, o) => (b, o + l * n)) (h - l) (.k (c - l))) else none
      | none, .v j d o' => bif Nat.ble l h && Nat.ble h len then (match a with
          | none => none
          | some (b, o) => bif Nat.beq l 0 then some (.sl (some (b, o)) h (.v j d o')) else bif Nat.beq l len then some (.sl (some (b, o + l * n)) 0 (.v j (d + l) o)) else some (.sl (some (b, o + l * n)) (h - l) (.v j (d + l) (o + l * n)))) else none
      | some x, cap => (bndV e (some x) 0).bind fun m => bif hi.isSome && Nat.ble l h && Nat.ble h m && capMx cap m len then some (.sl (bif Nat.beq m l then a else a.map fun (b, o) => (b, o + l * n)) (h - l) (.k (m - l))) else none
    | _ => none
def q_slcAV (sz : Nat) (n : Nat) (x : Operand) (lo : Option Operand) (hi : Option Operand) (mx : Option Operand) (e : VE) (_ : St) : Option V := match e x with
    | some (.p (some (b, o))) => (bndV e lo 0).bind fun l => (bndV e hi n).bind fun h => (bndV e mx n).bind fun m =>
      bif (hi.isSome || mx.isNone) && Nat.ble l h && Nat.ble h m && Nat.ble m n then some (.sl (some (b, bif Nat.beq m l then o else o + l * sz)) (h - l) (.k (m - l))) else none
    | _ => none
def q_faddrV (off : Nat) (x : Operand) (e : VE) (_ : St) : Option V := match e x with | some (.p (some (b, o))) => some (.p (some (b, o + off))) | _ => none
def q_fld1V (off : Nat) (x : Operand) (e : VE) (_ : St) : Option V := match e x with | some (.ag l) => nthV l off | _ => none
def q_fldNV (off : Nat) (n : Nat) (x : Operand) (e : VE) (_ : St) : Option V := match e x with | some (.ag l) => (partV off n l).bind fun r => some (.ag r) | _ => none
def q_ixSV (n : Nat) (x : Operand) (i : Operand) (e : VE) (_ : St) : Option V := match e x, e i with
    | some (.sl (some (b, o)) len _), some (.i _ (.ofNat j)) => bif Nat.blt j len then some (.p (some (b, o + j * n))) else none
    | _, _ => none
def q_ixAV (n : Nat) (len : Nat) (x : Operand) (i : Operand) (e : VE) (_ : St) : Option V := match e x, e i with
    | some (.p (some (b, o))), some (.i _ (.ofNat j)) => bif Nat.blt j len then some (.p (some (b, o + j * n))) else none
    | _, _ => none
def q_ixAgV (n : Nat) (len : Nat) (x : Operand) (i : Operand) (e : VE) (_ : St) : Option V := match e x, e i with
    | some (.ag l), some (.i _ (.ofNat j)) => bif Nat.blt j len then nthV l (j * n) else none
    | _, _ => none
def q_ixStrV (x : Operand) (i : Operand) (e : VE) (_ : St) : Option V := match e x, e i with
    | some (.s l), some (.i _ (.ofNat j)) => (nthV l j).bind fun c => some (.i .u8 c.toNat)
    | _, _ => none
def q_extrV (x : Operand) (i : Nat) (e : VE) (_ : St) : Option V := match e x with | some (.tp l) => nthV l i | _ => none
def q_lenSV (x : Operand) (e : VE) (_ : St) : Option V := match e x with | some (.sl _ n _) => some (.i .i64 n) | _ => none
def q_lenTV (x : Operand) (e : VE) (_ : St) : Option V := match e x with | some (.s l) => some (.i .i64 l.length) | _ => none
def q_lenCV (n : Nat) (_ : VE) (_ : St) : Option V := some (.i .i64 n)
def q_lenMV (x : Operand) (e : VE) (s : St) : Option V := match e x with
    | some (.m none) => some (.i .i64 0)
    | some (.m (some r)) => match s.h.get r with | some (.m l _) => some (.i .i64 l.length) | _ => none
    | _ => none
def q_capSV (x : Operand) (e : VE) (_ : St) : Option V := match e x with | some (.sl _ _ (.k c)) => some (.i .i64 c) | _ => none
def q_tassV (x : Operand) (a : TypeId) (ok : Bool) (e : VE) (_ : St) : Option V := match e x with
    | some (.fc t v) => match Nat.beq t a, ok with
      | true, true => some (.tp [v, .b true])
      | true, false => some v
      | _, _ => none
    | _ => none

inductive OR where
  | v (x : V) (s : St)
  | call (f : Nat) (args : List V)
  | round (l : Nat) (args : List V)
  | pan (x : V)
  | dfr (d : Dt)
  | rcv

def St.newK {β : Type} (s : St) (x : E) (k : St → β) : β := match s with
  | ⟨h, nb, nc⟩ => T.setK h nb (some x) fun h => fN (Nat.succ nb) fun nb => k ⟨h, nb, nc⟩
def St.putK {β : Type} (s : St) (b : Nat) (x : Option E) (k : St → β) : β := match s with
  | ⟨h, nb, nc⟩ => T.setK h b x fun h => k ⟨h, nb, nc⟩
/-- A new row of which more may be behind. -/
def St.growK {β : Type} (s : St) (l : List V) (t : TypeId) (n : Nat) (k : St → β) : β := match s with
  | ⟨h, nb, nc⟩ => fL l fun l => T.setK h nb (some (.c l t (some (nc, n)) false)) fun h => fN (Nat.succ nb) fun nb => fN (Nat.succ nc) fun nc => k ⟨h, nb, nc⟩
/-- A name that is kept for a block to come. -/
def St.keepK {β : Type} (s : St) (k : St → β) : β := match s with
  | ⟨h, nb, nc⟩ => fN (Nat.succ nb) fun nb => k ⟨h, nb, nc⟩

def srcV (s : St) (sz : Nat) : V → Option (List V × Nat)
  | .s l => bif Nat.beq sz 1 then some (l.map fun c => .i .u8 c.toNat, l.length) else none
  | .sl none n _ => bif Nat.beq n 0 then some ([], 0) else none
  | .sl (some (b, o)) n _ => (getC s b).bind fun l => (partV o (n * sz) l).bind fun r => some (r, n)
  | _ => none
def repV {α : Type} : Nat → List α → List α → List α
  | 0, _, acc => acc
  | n + 1, z, acc => repV n z (z ++ acc)

/-- External functions: by a number for each. -/
inductive Xf where
  | cmp | ld (k : IntKind) | st | add (k : IntKind) | cas (k : IntKind) | mrk | nop
def undV : V := .tp []

def extCmp (args : List V) (s : St) : Option (V × St) := match args with
  | [a, b] => (srcV s 1 a).bind fun (a, _) => (srcV s 1 b).bind fun (b, _) => (bytesOf a).bind fun a => (bytesOf b).bind fun b =>
      some (.i .i64 (bif eqBs a b then 0 else bif lessB a b then -1 else 1), s)
  | _ => none
def extLd (k : IntKind) (args : List V) (s : St) : Option (V × St) := match args with
  | [.p (some (b, o))] => (getC s b).bind fun l => match nthV l o with
    | some (.i k' n) => bif Nat.beq (kN k) (kN k') then some (.i k n, s) else none
    | _ => none
  | _ => none
def extSt (args : List V) (s : St) : Option (V × St) := match args with
  | [.p (some (b, o)), v] => match s.h.get b with
    | some (.c l e t false) => (layV l o [v]).bind fun l => s.putK b (some (.c l e t false)) fun s => some (undV, s)
    | _ => none
  | _ => none
def extAdd (k : IntKind) (args : List V) (s : St) : Option (V × St) := match args with
  | [.p (some (b, o)), .i _ d] => match s.h.get b with
    | some (.c l e t false) => match nthV l o with
      | some (.i k' n) => bif Nat.beq (kN k) (kN k') then fI (wrapV k (Int.add n d)) fun n => (layV l o [.i k n]).bind fun l => s.putK b (some (.c l e t false)) fun s => some (.i k n, s) else none
      | _ => none
    | _ => none
  | _ => none
def extCas (k : IntKind) (args : List V) (s : St) : Option (V × St) := match args with
  | [.p (some (b, o)), .i _ x, .i kk y] => match s.h.get b with
    | some (.c l e t false) => match nthV l o with
      | some (.i k' n) => bif Nat.beq (kN k) (kN k') then (bif eqI n x then (layV l o [.i kk y]).bind fun l => s.putK b (some (.c l e t false)) fun s => some (.b true, s) else some (.b false, s)) else none
      | _ => none
    | _ => none
  | _ => none
def extMrk (args : List V) (s : St) : Option (V × St) := match args with
  | .p (some _) :: _ => some (undV, s)
  | _ => none
def extV (x : Xf) (args : List V) (s : St) : Option (V × St) := match x with
  | .cmp => extCmp args s
  | .ld k => extLd k args s
  | .st => extSt args s
  | .add k => extAdd k args s
  | .cas k => extCas k args s
  | .mrk => extMrk args s
  | .nop => some (undV, s)

/-! ### What makes memory of known size -/
def a_newvV (t : TypeId) (z : Value) (_ : VE) (s : St) : Option (V × E) := (ofC 4 z).bind fun v => bif onesV (cellsV v) then some (.p (some (s.nb, 0)), .c (cellsV v) t none false) else none
def a_boxV (t : TypeId) (x : Operand) (e : VE) (s : St) : Option (V × E) := (e x).bind fun v => bif onesV (cellsV v) then some (.p (some (s.nb, 0)), .c (cellsV v) t none false) else none
def a_mkSlV (t : TypeId) (n : Nat) (len : Nat) (cells : Array Value) (parts : List (Nat × Operand)) (e : VE) (s : St) : Option (V × E) := (ofC 4 (.agg cells)).bind fun z => (evpV e parts).bind fun vs => (bldV (fun i => some (i * n, n)) (cellsV z) vs).bind fun r =>
      some (.sl (some (s.nb, 0)) len (.k len), .c r t none false)
def a_mkSliceV (t : TypeId) (n : Nat) (bytes : Nat) (z : Value) (l : Operand) (c : Operand) (e : VE) (s : St) : Option (V × E) := match e l, e c with
    | some (.i _ (.ofNat len)), some (.i _ (.ofNat cap)) => (ofC 4 z).bind fun v => bif Nat.ble len cap && Nat.ble cap 1152921504606846976 && Nat.ble (bytes * cap) 140737488355328 && Nat.beq (cellsV v).length n && onesV (cellsV v) then
        some (.sl (some (s.nb, 0)) len (.k cap), .c (repV cap (cellsV v) []) t none false) else none
    | _, _ => none
def a_mkMapV (_ : VE) (s : St) : Option (V × E) := some (.m (some s.nb), .m [] 0)

/-! ### Effects -/
def x_storeV (n : Nat) (a : Operand) (x : Operand) (e : VE) (s : St) : Option OR := match e a with
    | some (.p (some (b, o))) => (e x).bind fun v => bif Nat.beq (cellsV v).length n then match s.h.get b with
      | some (.c l t tl false) => (layV l o (cellsV v)).bind fun r => s.putK b (some (.c r t tl false)) fun s => some (.v undV s)
      | _ => none else none
    | _ => none
def x_callV (f : FuncId) (xs : List Operand) (e : VE) (_ : St) : Option OR := (evsV e xs).bind fun vs => some (.call f vs)
def x_extV (xf : Nat → Option Xf) (f : FuncId) (xs : List Operand) (e : VE) (s : St) : Option OR := (evsV e xs).bind fun vs => (xf f).bind fun x => (extV x vs s).bind fun (v, s) => some (.v v s)
def x_callVV (hb : Nat → Bool) (x : Operand) (xs : List Operand) (e : VE) (_ : St) : Option OR := (evsV e xs).bind fun vs => match e x with
    | some (.fn (.func f) a b) => bif hb f then some (.call f (a ++ vs ++ b)) else none
    | some (.fn (.yield l) [] []) => some (.round l vs)
    | _ => none
def x_invV (meth : Nat → String → Option Nat) (x : Operand) (name : String) (xs : List Operand) (e : VE) (_ : St) : Option OR := (evsV e xs).bind fun vs => match e x with
    | some (.fc t v) => (meth t name).bind fun f => some (.call f (v :: vs))
    | _ => none
def fits (n : Nat) (bytes : Nat) : Bool := Nat.ble (n * bytes) 70368744177664 && Nat.blt 0 bytes
def grow (s : St) (len m : Nat) (cap : Cap) (a : Option (Nat × Nat)) (n : Nat) (t : TypeId) (ys : List V) : Option OR :=
  match a with
  | none => bif Nat.beq len 0 then s.growK ys t n fun s' => some (.v (.sl (some (s.nb, 0)) (len + m) (.v s.nc 0 0)) s') else none
  | some (b, o) => match cap with
    | .k _ => (getC s b).bind fun l => (partV o (len * n) l).bind fun xs => s.growK (xs ++ ys) t n fun s' => some (.v (.sl (some (s.nb, 0)) (len + m) (.v s.nc 0 0)) s')
    | .v j d o' => match s.h.get b with
      | some (.c l t' (some (j', n')) false) => bif Nat.beq d 0 && Nat.beq o' 0 && Nat.beq o 0 && Nat.beq j j' && Nat.beq n n' && Nat.beq t t' && Nat.blt 0 n then (partV 0 (len * n) l).bind fun xs => s.putK b none fun s1 => s1.growK (xs ++ ys) t n fun s' => some (.v (.sl (some (s.nb, 0)) (len + m) (.v s.nc 0 0)) s') else none
      | _ => none
def x_appV (t : TypeId) (n : Nat) (bytes : Nat) (z : Value) (x : Operand) (y : Operand) (e : VE) (s : St) : Option OR := match e x with
    | some (.sl a len cap) => (e y).bind fun y => (srcV s n y).bind fun (ys, m) => bif onesV ys && Nat.beq z.cells.size n && fits (len + m) bytes then
      bif capRoom cap (len + m) then match a with
        | none => bif Nat.beq (len + m) 0 then some (.v (.sl none 0 cap) s) else none
        | some (b, o) => match s.h.get b with
          | some (.c l t tl false) => (layV l (o + len * n) ys).bind fun r => s.putK b (some (.c r t tl false)) fun s => some (.v (.sl a (len + m) cap) s)
          | _ => none
      else grow s len m cap a n t ys else none
    | _ => none
def x_copyV (n : Nat) (x : Operand) (y : Operand) (e : VE) (s : St) : Option OR := match e x with
    | some (.sl a len _) => (e y).bind fun y => (srcV s n y).bind fun (ys, m) => match a with
      | none => bif Nat.beq len 0 then some (.v (.i .i64 0) s) else none
      | some (b, o) => match s.h.get b with
        | some (.c l t tl false) => (layV l o (ys.take (minN m len * n))).bind fun r => s.putK b (some (.c r t tl false)) fun s => some (.v (.i .i64 (.ofNat (minN m len))) s)
        | _ => none
    | _ => none
def x_cvS2BV (t : TypeId) (x : Operand) (e : VE) (s : St) : Option OR := match e x with
    | some (.s l) => s.growK (l.map fun c => .i .u8 c.toNat) t 1 fun s' => some (.v (.sl (some (s.nb, 0)) l.length (.v s.nc 0 0)) s')
    | _ => none
def x_cvMarkV (x : Operand) (e : VE) (s : St) : Option OR := match e x with
    | some (.sl (some (b, o)) n cap) => match s.h.get b with
      | some (.c _ _ _ false) => some (.v (.sl (some (b, o)) n cap) s)
      | _ => none
    | _ => none
def x_panicV (x : Operand) (e : VE) (_ : St) : Option OR := match e x with | some (.fc t v) => some (.pan (.fc t v)) | _ => none
def minI (a b : Int) : Int := bif ltI b a then b else a
def maxI (a b : Int) : Int := bif ltI a b then b else a
def x_biV (b : Builtin) (xs : List Operand) (e : VE) (s : St) : Option OR := (evsV e xs).bind fun vs => match b, vs with
    | .recover, [] => some .rcv
    | .min, [.i k a, .i _ b] => some (.v (.i k (minI a b)) s)
    | .max, [.i k a, .i _ b] => some (.v (.i k (maxI a b)) s)
    | _, _ => none
def x_defrV (hb : Nat → Bool) (c : Call) (e : VE) (_ : St) : Option OR := (evsV e c.args.toList).bind fun vs => match c.callee with
    | .value f => match e f with
      | some (.fn (.func f) a b) => bif hb f then some (.dfr (.fn f (a ++ vs ++ b))) else none
      | _ => none
    | _ => none
def x_appZV (t : TypeId) (n : Nat) (bytes : Nat) (z : Value) (x y : Operand) (e : VE) (s : St) : Option OR := match e x, e y with
    | some (.sl a len cap), some (.i _ (.ofNat m)) => (ofC 4 z).bind fun v => bif onesV (cellsV v) && Nat.beq (cellsV v).length n && Nat.blt 0 n && Nat.ble m 70368744177664 && fits (len + m) bytes then
      bif capRoom cap (len + m) then match a with
        | none => bif Nat.beq (len + m) 0 then some (.v (.sl none 0 cap) s) else none
        | some (b, o) => match s.h.get b with
          | some (.c l t tl false) => (layV l (o + len * n) (repV m (cellsV v) [])).bind fun r => s.putK b (some (.c r t tl false)) fun s => some (.v (.sl a (len + m) cap) s)
          | _ => none
      else grow s len m cap a n t (repV m (cellsV v) []) else none
    | _, _ => none

inductive Act' where
  | q (f : VE → St → Option V)
  | a (f : VE → St → Option (V × E))
  | x (f : VE → St → Option OR)
  | no

def actV (hb : Nat → Bool) (xf : Nat → Option Xf) (meth : Nat → String → Option Nat) : ROp → Act'
  | .mov a0 => .q (q_movV a0)
  | .pick a0 a1 a2 => .q (q_pickV a0 a1 a2)
  | .build a0 a1 a2 => .q (q_buildV a0 a1 a2)
  | .buildA a0 a1 a2 => .q (q_buildAV a0 a1 a2)
  | .load1 a0 => .q (q_load1V a0)
  | .loadN a0 a1 => .q (q_loadNV a0 a1)
  | .nilck a0 => .q (q_nilckV a0)
  | .bin a0 _ a2 a3 => .q (q_binV a0 a2 a3)
  | .eqB a0 a1 a2 => .q (q_eqBV a0 a1 a2)
  | .eqP a0 a1 a2 => .q (q_eqPV a0 a1 a2)
  | .eqF a0 a1 a2 => .q (q_eqFV a0 a1 a2)
  | .eqS a0 a1 a2 => .q (q_eqSV a0 a1 a2)
  | .eqM a0 a1 a2 => .q (q_eqMV a0 a1 a2)
  | .eqI a0 a1 a2 => .q (q_eqIV a0 a1 a2)
  | .un a0 a1 => .q (q_unV a0 a1)
  | .cvInt a0 a1 => .q (q_cvIntV a0 a1)
  | .cvB2S a0 => .q (q_cvB2SV a0)
  | .cvId a0 => .q (q_cvIdV a0)
  | .cvUP a0 => .q (q_cvUPV a0)
  | .mkIf a0 a1 => .q (q_mkIfV a0 a1)
  | .mkFn a0 a1 a2 => .q (q_mkFnV a0 a1 a2)
  | .slcS a0 a1 a2 => .q (q_slcSV a0 a1 a2)
  | .slcL a0 a1 a2 a3 a4 => .q (q_slcLV a0 a1 a2 a3 a4)
  | .slcA a0 a1 a2 a3 a4 a5 => .q (q_slcAV a0 a1 a2 a3 a4 a5)
  | .faddr a0 a1 => .q (q_faddrV a0 a1)
  | .fld1 a0 a1 => .q (q_fld1V a0 a1)
  | .fldN a0 a1 a2 => .q (q_fldNV a0 a1 a2)
  | .ixS a0 a1 a2 => .q (q_ixSV a0 a1 a2)
  | .ixA a0 a1 a2 a3 => .q (q_ixAV a0 a1 a2 a3)
  | .ixAg a0 a1 a2 a3 => .q (q_ixAgV a0 a1 a2 a3)
  | .ixStr a0 a1 => .q (q_ixStrV a0 a1)
  | .extr a0 a1 => .q (q_extrV a0 a1)
  | .lenS a0 => .q (q_lenSV a0)
  | .lenT a0 => .q (q_lenTV a0)
  | .lenC a0 => .q (q_lenCV a0)
  | .lenM a0 => .q (q_lenMV a0)
  | .capS a0 => .q (q_capSV a0)
  | .tass a0 _ a2 a3 => .q (q_tassV a0 a2 a3)
  | .newv a0 a1 => .a (a_newvV a0 a1)
  | .box a0 a1 => .a (a_boxV a0 a1)
  | .mkSl a0 a1 a2 a3 a4 => .a (a_mkSlV a0 a1 a2 a3 a4)
  | .mkSlice a0 a1 a2 a3 a4 a5 => .a (a_mkSliceV a0 a1 a2 a3 a4 a5)
  | .mkMap => .a a_mkMapV
  | .store a0 a1 a2 => .x (x_storeV a0 a1 a2)
  | .call a0 a1 => .x (x_callV a0 a1)
  | .ext a0 a1 => .x (x_extV xf a0 a1)
  | .callV a0 a1 => .x (x_callVV hb a0 a1)
  | .inv a0 a1 a2 => .x (x_invV meth a0 a1 a2)
  | .app a0 a1 a2 a3 a4 a5 => .x (x_appV a0 a1 a2 a3 a4 a5)
  | .appZ a0 a1 a2 a3 a4 a5 => .x (x_appZV a0 a1 a2 a3 a4 a5)
  | .copy a0 a1 a2 => .x (x_copyV a0 a1 a2)
  | .cvS2B a0 a1 => .x (x_cvS2BV a0 a1)
  | .cvMark a0 => .x (x_cvMarkV a0)
  | .panic a0 => .x (x_panicV a0)
  | .bi a0 _ _ _ a4 => .x (x_biV a0 a4)
  | .defr a0 _ => .x (x_defrV hb a0)
  | _ => .no

/-- What reads memory. -/
def memB : ROp → Bool
  | .load1 .. | .loadN .. | .cvB2S .. | .lenM .. | .cvUP .. => true
  | _ => false
/-- What makes memory of known size. -/
def newB : ROp → Bool
  | .newv .. | .box .. | .mkSl .. | .mkSlice .. | .mkMap => true
  | _ => false
/-- What writes or calls. -/
def effR : ROp → Bool
  | .store .. | .call .. | .ext .. | .callV .. | .inv .. | .app .. | .appZ .. | .copy .. | .cvS2B .. | .cvMark .. | .panic .. | .bi .. | .defr .. | .raw .. => true
  | _ => false
def opt (o : Option Operand) : List Operand := match o with | some x => [x] | none => []
/-- What it looks at. -/
def opR : ROp → List Operand
  | .mov a => [a]
  | .pick a b c => [a, b, c]
  | .build _ _ ps | .buildA _ _ ps | .mkSl _ _ _ _ ps => ps.map (·.2)
  | .load1 a | .loadN _ a | .nilck a | .un _ a | .cvInt _ a | .cvB2S a | .cvId a | .cvUP a | .mkIf _ a | .faddr _ a | .fld1 _ a | .fldN _ _ a | .extr a _ | .lenS a | .lenT a | .lenM a | .capS a | .tass a _ _ _ | .box _ a | .cvS2B _ a | .cvMark a | .panic a => [a]
  | .bin _ _ a b | .eqB _ a b | .eqP _ a b | .eqF _ a b | .eqS _ a b | .eqM _ a b | .eqI _ a b | .ixS _ a b | .ixA _ _ a b | .ixAg _ _ a b | .ixStr a b | .mkSlice _ _ _ _ a b | .store _ a b | .app _ _ _ _ a b | .appZ _ _ _ _ a b | .copy _ a b => [a, b]
  | .mkFn _ a b => a ++ b
  | .slcS a b c => a :: opt b ++ opt c
  | .slcL _ a b c d => a :: opt b ++ opt c ++ opt d
  | .slcA _ _ a b c d => a :: opt b ++ opt c ++ opt d
  | .lenC _ | .newv _ _ | .mkMap => []
  | .call _ xs | .ext _ xs | .bi _ _ _ _ xs => xs
  | .callV x xs | .inv x _ xs => x :: xs
  | .defr c _ => (match c.callee with | .value f => [f] | _ => []) ++ c.args.toList
  | .raw _ _ => []

def guardV (e : T V) : Option (Nat × Bool) → Option Bool
  | none => some true
  | some (t, b) => match e.get t with
    | some (.b c) => some (c == b)
    | _ => none

def rvV (e : T V) (s : St) : List RV → Option (List V)
  | [] => some []
  | .tmp t :: r => (e.get t).bind fun v => (rvV e s r).bind fun vs => some (v :: vs)
  | .cell1 a :: r => match e.get a with
    | some (.p (some (b, o))) => (getC s b).bind fun l => (nthV l o).bind fun v => (rvV e s r).bind fun vs => some (v :: vs)
    | _ => none
  | .cellN a n :: r => match e.get a with
    | some (.p (some (b, o))) => (getC s b).bind fun l => (partV o n l).bind fun v => (rvV e s r).bind fun vs => some (.ag v :: vs)
    | _ => none
def tupVV : List V → V
  | [v] => v
  | vs => .tp vs
def argK {β : Type} (t : T V) (i : Nat) (vs : List V) (k : T V → β) : β := match vs with
  | [] => k t
  | v :: vs => t.setK i (some v) fun t => argK t (Nat.succ i) vs k

/-- Likeness of values that can be reckoned. -/
def eqNO : Option (Nat × Nat) → Option (Nat × Nat) → Bool
  | none, none => true
  | some (a, b), some (c, d) => Nat.beq a c && Nat.beq b d
  | _, _ => false
def eqCap : Cap → Cap → Bool
  | .k a, .k b => Nat.beq a b
  | .v a b c, .v a' b' c' => Nat.beq a a' && Nat.beq b b' && Nat.beq c c'
  | _, _ => false
def eqFn : Fn → Fn → Bool
  | .func a, .func b => Nat.beq a b
  | .yield a, .yield b => Nat.beq a b
  | _, _ => false
mutual
def eqV : V → V → Bool
  | .b x, .b y => x == y
  | .i k n, .i k' n' => Nat.beq (kN k) (kN k') && eqI n n'
  | .s l, .s m => eqBs l m
  | .p a, .p b => eqNO a b
  | .sl a n c, .sl a' n' c' => eqNO a a' && Nat.beq n n' && eqCap c c'
  | .m none, .m none => true
  | .m (some a), .m (some b) => Nat.beq a b
  | .nf, .nf => true
  | .ni, .ni => true
  | .fn f a b, .fn f' a' b' => eqFn f f' && eqVs a a' && eqVs b b'
  | .fc t v, .fc t' v' => Nat.beq t t' && eqV v v'
  | .ag l, .ag l' => eqVs l l'
  | .tp l, .tp l' => eqVs l l'
  | _, _ => false
def eqVs : List V → List V → Bool
  | [], [] => true
  | a :: l, b :: m => eqV a b && eqVs l m
  | _, _ => false
end
end
end Go.Lx
