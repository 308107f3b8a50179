/- Regions whose order is open: how they are laid out in one order, and what is known of any. -/
import Derived.Test.YtbmncepaajkngaaGreatLxXop
import Derived.Orders
namespace Go.Lx
set_option linter.unusedSimpArgs false
set_option linter.unusedVariables false

def need (ops : Array Oper) (j c : Nat) : Prop := ∃ o, ops[j]? = some o ∧ ∃ e ∈ o.after, Region.binds .any e = true ∧ e.on = c
inductive TC (ops : Array Oper) : Nat → Nat → Prop
  | one {j c : Nat} : need ops j c → TC ops j c
  | more {j m c : Nat} : need ops j m → TC ops m c → TC ops j c

def mk1 (acc : List Nat) : List Edge → Nat
  | [] => 0
  | e :: es => if Region.binds .any e then (2 ^ e.on ||| acc.getD e.on 0) ||| mk1 acc es else mk1 acc es
def masks : List Oper → List Nat → List Nat
  | [], acc => acc
  | o :: os, acc => masks os (acc ++ [mk1 acc o.after.toList])
def bt (m : List Nat) (j c : Nat) : Bool := (m.getD j 0).testBit c

theorem mk1_sound {acc : List Nat} : ∀ (es : List Edge) (c : Nat), (mk1 acc es).testBit c = true → ∃ e ∈ es, Region.binds .any e = true ∧ (e.on = c ∨ (acc.getD e.on 0).testBit c = true)
  | [], c, h => by simp [mk1] at h
  | e :: es, c, h => by
    simp only [mk1] at h
    split at h
    · rename_i hb
      simp only [Nat.testBit_or, Nat.testBit_two_pow, Bool.or_eq_true, decide_eq_true_eq] at h
      rcases h with (h | h) | h
      · exact ⟨e, by simp, hb, .inl h⟩
      · exact ⟨e, by simp, hb, .inr h⟩
      · obtain ⟨e', m, x⟩ := mk1_sound es c h; exact ⟨e', by simp [m], x⟩
    · obtain ⟨e', m, x⟩ := mk1_sound es c h; exact ⟨e', by simp [m], x⟩
theorem mk1_direct {acc : List Nat} : ∀ (es : List Edge) (e : Edge), e ∈ es → Region.binds .any e = true → (mk1 acc es).testBit e.on = true
  | x :: es, e, m, h => by
    simp only [mk1]
    cases m with
    | head => simp [h, Nat.testBit_or]
    | tail _ m =>
      have := mk1_direct (acc := acc) es e m h
      split <;> simp [Nat.testBit_or, this]

theorem masks_sound {ops : Array Oper} : ∀ (os : List Oper) (acc : List Nat), (∀ j, j < os.length → os[j]? = ops[acc.length + j]?) → (∀ j c, bt acc j c = true → TC ops j c) → (∀ j c, j < acc.length → need ops j c → bt acc j c = true) →
    (∀ j c, bt (masks os acc) j c = true → TC ops j c) ∧ (∀ j c, j < acc.length + os.length → need ops j c → bt (masks os acc) j c = true)
  | [], acc, _, h1, h2 => ⟨h1, fun j c hj => h2 j c (by simpa using hj)⟩
  | o :: os, acc, h0, h1, h2 => by
    have ho : ops[acc.length]? = some o := by have := h0 0 (by simp); simpa using this.symm
    have key : ∀ j c, bt (acc ++ [mk1 acc o.after.toList]) j c = if j < acc.length then bt acc j c else if j = acc.length then (mk1 acc o.after.toList).testBit c else false := by
      intro j c
      simp only [bt, List.getD_eq_getElem?_getD, List.getElem?_append]
      split
      · rfl
      · split
        · rename_i h1 h2; subst h2; simp
        · rename_i h1 h2
          have : j - acc.length ≠ 0 := by omega
          cases hj : j - acc.length with
          | zero => exact absurd hj this
          | succ n => simp
    have := masks_sound (ops := ops) os (acc ++ [mk1 acc o.after.toList]) (fun j hj => by
        have := h0 (j + 1) (by simpa using hj)
        simp at this ⊢
        rw [this]; congr 1; omega)
      (fun j c hb => by
        rw [key] at hb
        split at hb
        · exact h1 j c hb
        · split at hb
          · rename_i e; subst e
            obtain ⟨e, m, hbind, hc⟩ := mk1_sound _ _ hb
            rcases hc with hc | hc
            · exact .one ⟨o, ho, e, by simpa using m, hbind, hc⟩
            · exact .more ⟨o, ho, e, by simpa using m, hbind, rfl⟩ (h1 _ _ hc)
          · cases hb)
      (fun j c hj hn => by
        rw [key]
        split
        · rename_i hlt; exact h2 j c hlt hn
        · rename_i hlt
          have : j = acc.length := by simp at hj; omega
          subst this
          simp
          obtain ⟨o', ho', e, m, hb, rfl⟩ := hn
          rw [ho] at ho'; cases ho'
          exact mk1_direct _ e (by simpa using m) hb)
    refine ⟨this.1, fun j c hj => this.2 j c (by simp at hj ⊢; omega)⟩

/-- What an operation looks at. -/
def rdT : List Operand → List Nat
  | [] => []
  | .tmp t :: r => t :: rdT r
  | _ :: r => rdT r
theorem mem_rdT {t : Nat} : ∀ {l : List Operand}, .tmp t ∈ l → t ∈ rdT l
  | .tmp s :: r, m => by
    simp only [rdT]
    cases m with
    | head => simp
    | tail _ m => simp [mem_rdT m]
  | .const _ :: r, m => by simp only [rdT]; exact mem_rdT (by simpa using m)
  | .global _ :: r, m => by simp only [rdT]; exact mem_rdT (by simpa using m)
  | .func _ :: r, m => by simp only [rdT]; exact mem_rdT (by simpa using m)
def rd (o : Oper) (g : GOp) : List Nat := (match g.g with | some (t, _) => [t] | none => []) ++ rdT o.op.operands.toList


/-! ### How a region is laid out -/
def effI (gs : List GOp) (i : Nat) : Bool := match gs[i]? with | some g => effR g.r | none => false
def flI (gs : List GOp) (i : Nat) : Bool := match gs[i]? with | some g => memB g.r || newB g.r | none => false
/-- Which places no order crosses. -/
def barrier (m : List Nat) (n p : Nat) : Bool := (List.range p).all fun i => (List.range (n - p)).all fun j => bt m (p + j) i
def cutAt (m : List Nat) (n : Nat) : Nat → Nat → List Nat → List (List Nat)
  | 0, _, cur => [cur.reverse]
  | f + 1, p, cur => if p != 0 && barrier m n p then cur.reverse :: cutAt m n f (p + 1) [p] else cutAt m n f (p + 1) (p :: cur)
def canon (m : List Nat) (gs : List GOp) : Nat → List Nat → List Nat
  | 0, l => l
  | f + 1, l =>
    let now := l.filter fun j => !effI gs j && l.all fun e => !(effI gs e && bt m j e)
    let later := l.filter fun j => !(!effI gs j && l.all fun e => !(effI gs e && bt m j e))
    match later.find? (effI gs) with
    | some e => now ++ e :: canon m gs f (later.filter (· != e))
    | none => now ++ later
def layout (m : List Nat) (gs : List GOp) (n : Nat) : List (List Nat) := (cutAt m n n 0 []).map (canon m gs n)

def sgOf : List (List Nat) → Nat → Nat → Nat
  | [], s, _ => s
  | l :: r, s, i => if l.contains i then s else sgOf r (s + 1) i
def numB (sg : Nat → Nat) : Nat → List (List Nat) → Bool
  | _, [] => true
  | s, l :: r => (l.all fun i => sg i == s) && numB sg (s + 1) r
def pwB (f : Nat → Nat → Bool) : List Nat → Bool
  | [] => true
  | x :: l => l.all (f x) && pwB f l
theorem pwB_ok {f : Nat → Nat → Bool} : ∀ {l : List Nat}, pwB f l = true → l.Pairwise (fun a b => f a b = true)
  | [], _ => .nil
  | x :: l, h => by
    simp only [pwB, Bool.and_eq_true, List.all_eq_true] at h
    exact .cons (fun y hy => h.1 y hy) (pwB_ok h.2)


def chkRd (sg : Nat → Nat) (ops : Array Oper) (gs : List GOp) (m : List Nat) (j i : Nat) : Bool :=
  match ops[i]?, ops[j]?, gs[j]? with
    | some oi, some oj, some gj => (i == j || oi.dst.isNone || oi.dst != oj.dst) && (match oi.dst with | some t => sg i != sg j || !(rd oj gj).contains t || (i != j && bt m j i) | none => true)
    | _, _, _ => false
/-- What is looked at is among the text's operands. -/
def chkOp (o : Oper) (g : GOp) : Bool := (rdT (opR g.r)).all fun t => (rdT o.op.operands.toList).contains t
def chk (P : Program) (ops : Array Oper) (gs : List GOp) (m : List Nat) (I : List (List Nat)) : Bool :=
  let n := ops.size
  let sg := sgOf I 1
  P.follows .mixedOrders && gs.length == n && I.flatten.length == n && (I.flatten.all fun i => i < n) && pwB (fun a b => a != b) I.flatten &&
  pwB (fun a b => !bt m a b && (!(effI gs a || sg a != sg b) || bt m b a)) I.flatten && numB sg 1 I &&
  ((List.range n).all fun j => !bt m j j) &&
  (ops.toList.all fun o => (o.after.toList.all fun e => !Region.binds .any e || e.on < n) && (match o.op with | .select .. => false | _ => true)) &&
  ((List.range n).all fun j => (List.range n).all fun i => chkRd sg ops gs m j i) && ((List.range n).all fun i => I.flatten.contains i) &&
  ((List.range n).all fun i => match ops[i]?, gs[i]? with | some o, some g => chkOp o g | _, _ => false)

/-- What may come behind an operation, of what reads or makes memory. -/
def ckOf (m : List Nat) (gs : List GOp) (n j : Nat) : List Nat := if effI gs j then (List.range n).filter fun i => flI gs i && !bt m j i else []
def mkD (m : List Nat) (gs : List GOp) (n i : Nat) : DOp := let g := gs.getD i default; ⟨i, g, memB g.r, ckOf m gs n i⟩

def drawSegs : DrawFn := fun P _ ops gs =>
  let m := masks ops.toList []
  let I := layout m gs ops.size
  if chk P ops gs m I then some (I.map (·.map (mkD m gs ops.size))) else none

theorem GOK.uniq {P : Program} {n i : Nat} {ops : Array Oper} {g g' : GOp} {o o' : Oper} (h : GOK P n ops i g o) (h' : GOK P n ops i g' o') : g = g' := by
  have ho : o = o' := by have := h.at_.symm.trans h'.at_; simpa using this
  subst ho
  obtain ⟨d, gg, r⟩ := g
  obtain ⟨d', gg', r'⟩ := g'
  have e1 : d = d' := h.dst.symm.trans h'.dst
  have e2 : r = r' := by have := h.res.symm.trans h'.res; simpa using this
  subst e1 e2
  congr 1
  rcases h.guard with ⟨a, b⟩ | ⟨j, x, t, a, b, c⟩
  · rcases h'.guard with ⟨a', b'⟩ | ⟨j', x', t', a', b', c'⟩
    · simp only at b b'; rw [b, b']
    · rw [a] at a'; cases a'
  · rcases h'.guard with ⟨a', b'⟩ | ⟨j', x', t', a', b', c'⟩
    · rw [a] at a'; cases a'
    · rw [a] at a'; cases a'
      rw [c] at c'; cases c'
      simp only at b b'; rw [b, b']

theorem OpsOK.get {P : Program} {n : Nat} {ops : Array Oper} : ∀ {k c : Nat} {gs : List GOp}, OpsOK P n ops (List.range' k c) gs → ∀ i g, gs[i]? = some g → ∃ o, GOK P n ops (k + i) g o
  | k, 0, gs, h, i, g, hg => by cases h; simp at hg
  | k, c + 1, gs, h, i, g, hg => by
    rw [List.range'_succ] at h
    cases h with
    | @cons _ g0 o _ gs h1 h2 =>
      cases i with
      | zero => simp at hg; subst hg; exact ⟨o, h1⟩
      | succ i =>
        obtain ⟨o', h3⟩ := OpsOK.get h2 i g (by simpa using hg)
        exact ⟨o', by rw [show k + (i + 1) = k + 1 + i by omega]; exact h3⟩


section
variable (P : Program) (sh : Sh)
variable (ops : Array Oper) (m : List Nat) (eff : Nat → Bool) (sg : Nat → Nat)
def Rel (a b : Nat) : Prop := bt m a b = false ∧ ((eff a = true ∨ sg a ≠ sg b) → bt m b a = true)

/-- What is checked of the region. -/
structure RegOK (sg : Nat → Nat) : Prop where
  sound : ∀ j c, bt m j c = true → TC ops j c
  direct : ∀ j c, j < ops.size → need ops j c → bt m j c = true
  inside : ∀ j c, need ops j c → c < ops.size
  irrefl : ∀ j, bt m j j = false
  dst : ∀ (i j : Nat) (oi oj : Oper) (d : Nat), ops[i]? = some oi → ops[j]? = some oj → i ≠ j → oi.dst = some d → oj.dst ≠ some d
  read : ∀ (i j : Nat) (oi oj : Oper) (gj : GOp) (t : Nat), sg i = sg j → ops[i]? = some oi → GOK P sh.n ops j gj oj → oi.dst = some t → t ∈ rd oj gj → i ≠ j ∧ bt m j i = true
  nosel : ∀ (j : Nat) (o : Oper) (cs : Array SelectCase) (b : Bool), ops[j]? = some o → o.op ≠ .select cs b

def Num : Nat → List (List DOp) → Prop
  | _, [] => True
  | s, l :: r => (∀ x ∈ l, sg x.i = s) ∧ Num (s + 1) r

def idxs (pd : List Nat) (seg : List DOp) (rest : List (List DOp)) : List Nat := pd ++ seg.map (·.i) ++ rest.flatten.map (·.i)

/-- What is known of an operation as it was laid out. -/
structure DOK (x : DOp) : Prop where
  gok : ∃ o, GOK P sh.n ops x.i x.g o ∧ chkOp o x.g = true
  eff : eff x.i = effR x.g.r
  keep : x.keep = memB x.g.r
  ck : effR x.g.r = true → ∀ i g o, GOK P sh.n ops i g o → (memB g.r || newB g.r) = true → bt m x.i i = false → memN i x.ck = true

structure Inv (listed : Array Bool) (pd : List Nat) (seg : List DOp) (rest : List (List DOp)) (s : Nat) : Prop where
  size : listed.size = ops.size
  mem : ∀ i, i < ops.size → (listed.getD i true = false ↔ i ∈ idxs pd seg rest)
  lt : ∀ i ∈ idxs pd seg rest, i < ops.size
  nodup : (idxs pd seg rest).Nodup
  down : ∀ j, j < ops.size → listed.getD j true = true → ∀ c, need ops j c → listed.getD c false = true
  pw : (idxs pd seg rest).Pairwise (Rel m eff sg)
  here : ∀ p ∈ pd, sg p = s
  num : Num sg s (seg :: rest)
  gok : ∀ x ∈ seg ++ rest.flatten, DOK P sh ops m eff x
end

theorem Num.ge {sg : Nat → Nat} : ∀ {L : List (List DOp)} {s : Nat}, Num sg s L → ∀ x ∈ L.flatten, s ≤ sg x.i
  | [], s, _, x, m => by simp at m
  | l :: r, s, h, x, m => by
    simp only [List.flatten_cons, List.mem_append] at m
    rcases m with m | m
    · rw [h.1 x m]; exact Nat.le_refl _
    · have := Num.ge h.2 x m; omega


section
variable {P : Program} {sh : Sh} {ops : Array Oper} {m : List Nat} {eff : Nat → Bool} {sg : Nat → Nat}
theorem tc_listed {listed : Array Bool} (hin : ∀ j c, need ops j c → c < ops.size) (hd : ∀ j, j < ops.size → listed.getD j true = true → ∀ c, need ops j c → listed.getD c false = true) (hsz : listed.size = ops.size) {j c : Nat} (h : TC ops j c) :
    (∀ c, need ops j c → listed.getD c false = true) → listed.getD c false = true := by
  induction h with
  | one h => exact fun hj => hj _ h
  | more h _ ih =>
    intro hj
    refine ih ?_
    have h1 := hj _ h
    rename_i m' c' _
    have hlt := hin _ _ h
    refine hd _ hlt ?_
    have hm : m' < listed.size := by omega
    simp [Array.getD, hm] at h1 ⊢
    exact h1

theorem inv_remove {listed : Array Bool} {pd pd' : List Nat} {seg seg' : List DOp} {rest : List (List DOp)} {s j : Nat} {A B : List Nat} (inv : Inv P sh ops m eff sg listed pd seg rest s) (hjlt : j < ops.size)
    (hpre : ∀ c, need ops j c → listed.getD c false = true) (h1 : idxs pd seg rest = A ++ j :: B) (h2 : idxs pd' seg' rest = A ++ B)
    (hh : ∀ p ∈ pd', sg p = s) (hnum : Num sg s (seg' :: rest)) (hg : ∀ x ∈ seg' ++ rest.flatten, DOK P sh ops m eff x) :
    Inv P sh ops m eff sg (listed.setIfInBounds j true) pd' seg' rest s := by
  have hsub : (A ++ B).Sublist (A ++ j :: B) := (List.Sublist.refl A).append (List.sublist_cons_self j B)
  have hnd := inv.nodup
  rw [h1] at hnd
  have hj : j ∉ A ++ B := by
    rw [List.nodup_append] at hnd
    obtain ⟨_, q2, q3⟩ := hnd
    rw [List.nodup_cons] at q2
    intro hm
    rcases List.mem_append.1 hm with hm | hm
    · exact q3 j hm j (by simp) rfl
    · exact q2.1 hm
  refine ⟨by simp [inv.size], ?_, ?_, by rw [h2]; exact hsub.nodup hnd, ?_, by rw [h2]; have := inv.pw; rw [h1] at this; exact this.sublist hsub, hh, hnum, hg⟩
  · intro i hi
    rw [h2]
    by_cases e : j = i
    · subst e
      have : j < listed.size := by rw [inv.size]; exact hjlt
      simp only [Array.getD, Array.size_setIfInBounds, this, dif_pos]
      constructor
      · intro hh; simp at hh
      · intro hh; exact absurd hh hj
    · rw [getD_set_ne true e, inv.mem i hi, h1]
      simp only [List.mem_append, List.mem_cons]
      constructor
      · rintro (h | rfl | h)
        · exact .inl h
        · exact absurd rfl e
        · exact .inr h
      · rintro (h | h)
        · exact .inl h
        · exact .inr (.inr h)
  · intro i hi
    rw [h2] at hi
    exact inv.lt i (by rw [h1]; exact hsub.subset hi)
  · intro i hi hl c hc
    by_cases e : j = i
    · subst e; exact getD_set_true (hpre c hc)
    · rw [getD_set_ne true e] at hl
      exact getD_set_true (inv.down i hi hl c hc)


theorem memN_ok {i : Nat} : ∀ {l : List Nat}, memN i l = true ↔ i ∈ l
  | [] => by simp [memN]
  | j :: l => by
    simp only [memN, beq_eq]
    by_cases h : i = j
    · simp [h]
    · simp [h, memN_ok (i := i) (l := l)]

theorem num_of {sg : Nat → Nat} {f : Nat → DOp} (hf : ∀ i, (f i).i = i) : ∀ {I : List (List Nat)} {s : Nat}, numB sg s I = true → Num sg s (I.map (·.map f))
  | [], s, _ => trivial
  | l :: r, s, h => by
    simp only [numB, Bool.and_eq_true, List.all_eq_true] at h
    refine ⟨fun x hx => ?_, num_of hf h.2⟩
    obtain ⟨i, hi, rfl⟩ := List.mem_map.1 hx
    simpa [hf] using h.1 i hi

/-- A drawn region, entered: what is known of its order. -/
theorem draw_ok {n : Nat} {gs : List GOp} {segs : List (List DOp)} (hn : n = sh.n) (hg : resolveGs P n ops ops.toList = some gs) (hD : drawSegs P n ops gs = some segs) (id : Nat) (t : Nat) :
    ∃ m eff sg, RegOK P sh ops m sg ∧ Inv P sh ops m eff sg (Array.replicate ops.size false) [] [] segs 0 ∧ Region.schedule (P.follows .mixedOrders) ops t = Region.linearise.go .any ops ops.size t (Array.replicate ops.size false) [] ∧ (idxs [] [] segs).length ≤ ops.size := by
  subst hn
  simp only [drawSegs] at hD
  split at hD
  · rename_i hchk
    simp only [Option.some.injEq] at hD
    have hok : OpsOK P sh.n ops (List.range' 0 ops.toList.length) gs := OpsOK.of ops.toList 0 gs (fun j => by left; simp) hg
    generalize hm : masks ops.toList [] = m at *
    generalize hI : layout m gs ops.size = I at *
    simp only [chk, Bool.and_eq_true, List.all_eq_true, beq_iff_eq, decide_eq_true_eq, List.mem_range, Bool.not_eq_true', Bool.or_eq_true] at hchk
    obtain ⟨⟨⟨⟨⟨⟨⟨⟨⟨⟨⟨c1, c2⟩, c3⟩, c4⟩, c5⟩, c6⟩, c7⟩, c8⟩, c9⟩, c10⟩, c11⟩, c12⟩ := hchk
    have hmask := masks_sound (ops := ops) ops.toList [] (fun j _ => by simp) (fun j c hb => by simp [bt] at hb) (fun j c hj => by simp at hj)
    rw [hm] at hmask
    have hlenm : m.length = ops.size := by
      have : ∀ (os : List Oper) (acc : List Nat), (masks os acc).length = acc.length + os.length := by
        intro os
        induction os with
        | nil => intro acc; simp [masks]
        | cons o os ih => intro acc; simp [masks, ih]; omega
      rw [← hm, this]; simp
    have hirr : ∀ j, bt m j j = false := by
      intro j
      by_cases hj : j < ops.size
      · exact c8 j hj
      · simp [bt, List.getD_eq_getElem?_getD, List.getElem?_eq_none (show m.length ≤ j by omega)]
    have hgs : ∀ i, i < ops.size → ∃ g o, gs[i]? = some g ∧ GOK P sh.n ops i g o := by
      intro i hi2
      have : i < gs.length := by omega
      refine ⟨gs[i], ?_⟩
      obtain ⟨o, ho⟩ := OpsOK.get hok i gs[i] (by simp [this])
      exact ⟨o, by simp [this], by simpa using ho⟩
    have hreg : RegOK P sh ops m (sgOf I 1) := by
      refine ⟨hmask.1, fun j c hj => hmask.2 j c (by simpa using hj), ?_, hirr, ?_, ?_, ?_⟩
      · rintro j c ⟨o, ho, e, me, hb, rfl⟩
        have := (c9 o (by simpa using Array.mem_of_getElem? ho)).1 e (by simpa using me)
        rcases this with h1 | h1
        · rw [hb] at h1; cases h1
        · exact h1
      · intro i j oi oj d hoi hoj hij hdi hdj
        have hil := (Array.getElem?_eq_some_iff.1 hoi).1
        have hjl := (Array.getElem?_eq_some_iff.1 hoj).1
        have := c10 j hjl i hil
        obtain ⟨g, o, hg1, _⟩ := hgs j hjl
        simp only [chkRd, hoi, hoj, hg1, Bool.and_eq_true] at this
        have h1 := this.1
        simp [hij, hdi, hdj] at h1
      · intro i j oi oj gj t hsg hoi hgj hdi ht
        have hil := (Array.getElem?_eq_some_iff.1 hoi).1
        have hjl := (Array.getElem?_eq_some_iff.1 hgj.at_).1
        have h10 := c10 j hjl i hil
        obtain ⟨g, o, hg1, hg2⟩ := hgs j hjl
        have he2 := hg2.uniq hgj
        subst he2
        simp only [chkRd, hoi, hgj.at_, hg1, Bool.and_eq_true, hdi] at h10
        have h1 := h10.2
        simp [ht, hsg] at h1
        exact h1
      · intro j o cs b ho hsel
        have := (c9 o (by simpa using Array.mem_of_getElem? ho)).2
        simp [hsel] at this
    have hnd : I.flatten.Nodup := by
      have := pwB_ok c5
      exact this.imp fun hab => by simpa using hab
    have hsch : ∀ t, Region.schedule (P.follows .mixedOrders) ops t = Region.linearise.go .any ops ops.size t (Array.replicate ops.size false) [] := by
      intro t; simp only [Region.schedule, c1, Bool.true_or, if_true, Region.linearise]
    have hidx : idxs [] [] segs = I.flatten := by
      simp only [idxs, List.map_nil, List.nil_append, ← hD]
      rw [← List.map_flatten]
      simp [List.map_map, Function.comp_def, mkD]
    refine ⟨m, effI gs, sgOf I 1, hreg, ⟨by simp, ?_, ?_, by rw [hidx]; exact hnd, ?_, ?_, fun p hp => (by cases hp), ⟨fun x hx => (by cases hx), by rw [← hD]; exact num_of (fun _ => rfl) c7⟩, ?_⟩, hsch t, by rw [hidx, c3]; exact Nat.le_refl _⟩
    · intro i hi2
      rw [hidx]
      have := c11 i hi2
      simp only [List.contains_iff_mem] at this
      simp [Array.getD, hi2, this]
    · intro i hi2
      rw [hidx] at hi2
      exact c4 i hi2
    · intro j hj hl
      simp [Array.getD, hj] at hl
    · rw [hidx]
      refine (pwB_ok c6).imp fun hab => ?_
      simp only [Bool.and_eq_true, Bool.not_eq_true', Bool.or_eq_true, bne_iff_ne, ne_eq] at hab
      refine ⟨hab.1, fun h1 => ?_⟩
      rcases hab.2 with h2 | h2
      · rcases h1 with h1 | h1
        · simp [h1] at h2
        · simp [h1] at h2
      · exact h2
    · intro x hx
      rw [List.nil_append, ← hD] at hx
      obtain ⟨l, hl, hx⟩ := List.mem_flatten.1 hx
      obtain ⟨l0, hl0, rfl⟩ := List.mem_map.1 hl
      obtain ⟨i, hi2, rfl⟩ := List.mem_map.1 hx
      have hlt := c4 i (List.mem_flatten.2 ⟨l0, hl0, hi2⟩)
      obtain ⟨g, o, hg1, hg2⟩ := hgs i hlt
      have hgd : gs.getD i default = g := by simp only [List.getD_eq_getElem?_getD, hg1, Option.getD_some]
      refine ⟨⟨o, ?_, ?_⟩, ?_, rfl, ?_⟩
      · simp only [mkD, hgd]; exact hg2
      · have := c12 i hlt
        simp only [hg2.at_, hg1] at this
        simp only [mkD, hgd]; exact this
      · simp only [effI, mkD, hg1, hgd]
      · intro heff i' g' o' hgok' hfl hbt
        have hlt' := (Array.getElem?_eq_some_iff.1 hgok'.at_).1
        obtain ⟨g2, o2, hg12, hg22⟩ := hgs i' hlt'
        have := hg22.uniq hgok'
        subst this
        rw [memN_ok]
        have he : effI gs i = true := by simp only [effI, hg1]; simpa only [mkD, hgd] using heff
        simp only [mkD] at hbt ⊢
        simp only [ckOf, he, if_true, List.mem_filter, List.mem_range, Bool.and_eq_true, Bool.not_eq_true']
        exact ⟨hlt', by simpa only [flI, hg12] using hfl, hbt⟩
  · cases hD
end
end Go.Lx
