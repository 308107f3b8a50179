/- Code whose operations were looked up; how a frame goes on through it. -/
import Derived.Test.YtbmncepaajkngaaGreatLxSpec
namespace Go.Lx

structure GOp where
  d : Option Nat
  g : Option (Nat × Bool)
  r : ROp
  deriving Inhabited

/-- An operation of a region whose order is open: its place in the text, whether what it reads is to be held against later, and what of that may come behind it. -/
structure DOp where
  i : Nat
  g : GOp
  keep : Bool
  ck : List Nat
  deriving Inhabited

inductive RC where
  | skip
  | reg (ops : List GOp)
  | draw (ops : List GOp) (segs : List (List DOp))
  | seq (a b : RC)
  | cond (c : Operand) (a b : RC)
  | block (id : Nat) (b : RC)
  | loop (b : RC)
  | range (f : Operand) (ps : Array Tmp) (assign body : RC)
  | exit (id : Nat)
  | scope (b : RC)
  | label (l : Nat)
  | ret
  deriving Inhabited

def resolveG (P : Program) (n : Nat) (ops : Array Oper) (o : Oper) : Option GOp :=
  match resolveX P o with
  | none => none
  | some r =>
    if (match o.dst with | some d => decide (d < n) | none => true) then
      match o.guard with
      | none => some ⟨o.dst, none, r⟩
      | some (j, b) => match (ops[j]?).bind (·.dst) with
        | some t => some ⟨o.dst, some (t, b), r⟩
        | none => none
    else none

def resolveGs (P : Program) (n : Nat) (ops : Array Oper) : List Oper → Option (List GOp)
  | [] => some []
  | o :: os => match resolveG P n ops o with
    | none => none
    | some g => match resolveGs P n ops os with
      | none => none
      | some gs => some (g :: gs)

structure GOK (P : Program) (n : Nat) (ops : Array Oper) (i : Nat) (g : GOp) (o : Oper) : Prop where
  at_ : ops[i]? = some o
  dst : o.dst = g.d
  lt : ∀ d, g.d = some d → d < n
  res : resolveX P o = some g.r
  guard : (o.guard = none ∧ g.g = none) ∨ ∃ j b t, o.guard = some (j, b) ∧ g.g = some (t, b) ∧ (ops[j]?).bind (·.dst) = some t

theorem GOK.of {P : Program} {n : Nat} {ops : Array Oper} {i : Nat} {o : Oper} {g : GOp} (hi : ops[i]? = some o) (h : resolveG P n ops o = some g) : GOK P n ops i g o := by
  unfold resolveG at h
  cases hr : resolveX P o with
  | none => simp [hr] at h
  | some r =>
    simp only [hr] at h
    by_cases hd : (match o.dst with | some d => decide (d < n) | none => true) = true
    · simp only [hd, if_true] at h
      have hlt : ∀ d, o.dst = some d → d < n := fun d e => by simpa [e] using hd
      cases hg : o.guard with
      | none => simp [hg] at h; subst h; exact ⟨hi, rfl, hlt, hr, .inl ⟨hg, rfl⟩⟩
      | some p =>
        obtain ⟨j, b⟩ := p
        simp only [hg] at h
        cases ht : (ops[j]?).bind (·.dst) with
        | none => simp [ht] at h
        | some t => simp [ht] at h; subst h; exact ⟨hi, rfl, hlt, hr, .inr ⟨j, b, t, hg, rfl, ht⟩⟩
    · simp [hd] at h

inductive OpsOK (P : Program) (n : Nat) (ops : Array Oper) : List Nat → List GOp → Prop
  | nil : OpsOK P n ops [] []
  | cons {i : Nat} {g : GOp} {o : Oper} {is : List Nat} {gs : List GOp} : GOK P n ops i g o → OpsOK P n ops is gs → OpsOK P n ops (i :: is) (g :: gs)

theorem OpsOK.of {P : Program} {n : Nat} {ops : Array Oper} : ∀ (os : List Oper) (k : Nat) (gs : List GOp), (∀ j, os[j]? = ops[k + j]? ∨ os.length ≤ j) → resolveGs P n ops os = some gs → OpsOK P n ops (List.range' k os.length) gs
  | [], k, gs, _, h => by simp [resolveGs] at h; subst h; exact .nil
  | o :: os, k, gs, hk, h => by
    simp only [resolveGs] at h
    cases hg : resolveG P n ops o with
    | none => simp [hg] at h
    | some g =>
      cases hs : resolveGs P n ops os with
      | none => simp [hg, hs] at h
      | some gs' =>
        simp [hg, hs] at h; subst h
        have h0 : ops[k]? = some o := by
          rcases hk 0 with e | e
          · simpa using e.symm
          · simp at e
        rw [List.length_cons, List.range'_succ]
        refine .cons (.of h0 hg) (OpsOK.of os (k + 1) gs' (fun j => ?_) hs)
        rcases hk (j + 1) with e | e
        · left; rw [← show k + (j + 1) = k + 1 + j by omega, ← e]; simp
        · right; simp at e; omega

/-- How a drawn region is laid out: see LxDraw. -/
def DrawFn := Program → Nat → Array Oper → List GOp → Option (List (List DOp))

def resolveC (D : DrawFn) (P : Program) (n : Nat) : Code → Option RC
  | .skip => some .skip
  | .region _ ops false => match resolveGs P n ops ops.toList with | some gs => some (.reg gs) | none => none
  | .region _ ops true => match resolveGs P n ops ops.toList with
    | some gs => match D P n ops gs with | some segs => some (.draw gs segs) | none => none
    | none => none
  | .seq a b => match resolveC D P n a, resolveC D P n b with | some x, some y => some (.seq x y) | _, _ => none
  | .cond c a b => match resolveC D P n a, resolveC D P n b with | some x, some y => some (.cond c x y) | _, _ => none
  | .block id b => match resolveC D P n b with | some x => some (.block id x) | none => none
  | .loop b => match resolveC D P n b with | some x => some (.loop x) | none => none
  | .rangeFunc f ps a b => match resolveC D P n a, resolveC D P n b with | some x, some y => some (.range f ps x y) | _, _ => none
  | .exit id => some (.exit id)
  | .scope b => match resolveC D P n b with | some x => some (.scope x) | none => none
  | .label l => some (.label l)
  | .ret => some .ret
  | _ => none

inductive RI where
  | code (c : RC)
  | inBlock (id : Nat)
  | inLoop (c : RC)
  | inScope
  | endRange (l : Nat)
  | beginRound

section
variable (D : DrawFn) (P : Program) (n : Nat)
inductive ItOK : RI → Item → Prop
  | code {c : Code} {r : RC} (h : resolveC D P n c = some r) : ItOK (.code r) (.code c)
  | inBlock (id : Nat) : ItOK (.inBlock id) (.inBlock id)
  | inLoop {c : Code} {r : RC} (h : resolveC D P n c = some r) : ItOK (.inLoop r) (.inLoop c)
  | inScope (c : Code) : ItOK .inScope (.inScope c)
  | endRange (l : Nat) : ItOK (.endRange l) (.endRangeFunc l)
  | beginRound : ItOK .beginRound .beginRound
inductive ItsOK : List RI → List Item → Prop
  | nil : ItsOK [] []
  | cons {r : RI} {i : Item} {rs : List RI} {is : List Item} : ItOK D P n r i → ItsOK rs is → ItsOK (r :: rs) (i :: is)
end

def rexit (id : Nat) : List RI → Option (List RI)
  | .inBlock id' :: k => bif Nat.beq id' id then some k else rexit id k
  | _ :: k => rexit id k
  | [] => none

theorem rexit_ok {D : DrawFn} {P : Program} {n id : Nat} {k : List RI} {items : List Item} (h : ItsOK D P n k items) : ∀ {k' : List RI}, rexit id k = some k' → ∃ items', exitTo id items = some items' ∧ ItsOK D P n k' items' := by
  induction h with
  | nil => intro k' e; simp [rexit] at e
  | @cons r i rs is h1 h2 ih =>
    intro k' e
    cases h1 with
    | inBlock id' =>
      simp only [rexit] at e
      cases hb : Nat.beq id' id with
      | true =>
        simp [hb] at e; subst e
        have e2 := Nat.eq_of_beq_eq_true hb
        subst e2
        exact ⟨is, by simp [exitTo], h2⟩
      | false =>
        simp [hb] at e
        obtain ⟨items', a, b⟩ := ih e
        have hne : id' ≠ id := fun e => by subst e; simp at hb
        have : (id' == id) = false := by simp [hne]
        exact ⟨items', by simp [exitTo, this, a], b⟩
    | _ =>
      obtain ⟨items', a, b⟩ := ih (by simpa [rexit] using e)
      exact ⟨items', by simp [exitTo, a], b⟩

theorem rexit_none {D : DrawFn} {P : Program} {n id : Nat} {k : List RI} {items : List Item} (h : ItsOK D P n k items) (e : rexit id k = none) : exitTo id items = none := by
  induction h with
  | nil => simp [exitTo]
  | @cons r i rs is h1 h2 ih =>
    cases h1 with
    | inBlock id' =>
      simp only [rexit] at e
      cases hb : Nat.beq id' id with
      | true => simp [hb] at e
      | false =>
        simp [hb] at e
        have hne : id' ≠ id := fun e => by subst e; simp at hb
        have : (id' == id) = false := by simp [hne]
        simp [exitTo, this, ih e]
    | _ => simp [exitTo, ih (by simpa [rexit] using e)]

/-! ### How a frame goes on -/
section
variable (D : DrawFn) (P : Program) (Φ : Machine → Prop) (base : List Frame) (sh : Sh)

end

section
variable {D : DrawFn} {P : Program} {Φ : Machine → Prop} {base : List Frame} {sh : Sh} {k : List RI} {env : Env} {ds : List Deferred} {F : Know} {S : SH}

theorem inv_seq {c : Code} {n : Nat} {a b : RC} (h : resolveC D P n c = some (.seq a b)) : ∃ x y, c = .seq x y ∧ resolveC D P n x = some a ∧ resolveC D P n y = some b := by
  cases c with
  | seq x y =>
    simp only [resolveC] at h
    cases hx : resolveC D P n x <;> cases hy : resolveC D P n y <;> simp [hx, hy] at h
    exact ⟨x, y, rfl, by simp [hx, h.1], by simp [hy, h.2]⟩
  | region id ops d => cases d <;> simp only [resolveC] at h <;> (repeat' (split at h)) <;> simp at h
  | _ => simp only [resolveC] at h <;> (try (repeat' (split at h))) <;> simp at h
theorem inv_cond {c : Code} {n : Nat} {o : Operand} {a b : RC} (h : resolveC D P n c = some (.cond o a b)) : ∃ x y, c = .cond o x y ∧ resolveC D P n x = some a ∧ resolveC D P n y = some b := by
  cases c with
  | cond o' x y =>
    simp only [resolveC] at h
    cases hx : resolveC D P n x <;> cases hy : resolveC D P n y <;> simp [hx, hy] at h
    obtain ⟨rfl, h1, h2⟩ := h
    exact ⟨x, y, rfl, by simp [hx, h1], by simp [hy, h2]⟩
  | region id ops d => cases d <;> simp only [resolveC] at h <;> (repeat' (split at h)) <;> simp at h
  | _ => simp only [resolveC] at h <;> (try (repeat' (split at h))) <;> simp at h
theorem inv_block {c : Code} {n id : Nat} {b : RC} (h : resolveC D P n c = some (.block id b)) : ∃ x, c = .block id x ∧ resolveC D P n x = some b := by
  cases c with
  | block id' x =>
    simp only [resolveC] at h
    cases hx : resolveC D P n x <;> simp [hx] at h
    obtain ⟨rfl, h1⟩ := h
    exact ⟨x, rfl, by simp [hx, h1]⟩
  | region id ops d => cases d <;> simp only [resolveC] at h <;> (repeat' (split at h)) <;> simp at h
  | _ => simp only [resolveC] at h <;> (try (repeat' (split at h))) <;> simp at h
theorem inv_loop {c : Code} {n : Nat} {b : RC} (h : resolveC D P n c = some (.loop b)) : ∃ x, c = .loop x ∧ resolveC D P n x = some b := by
  cases c with
  | loop x =>
    simp only [resolveC] at h
    cases hx : resolveC D P n x <;> simp [hx] at h
    exact ⟨x, rfl, by simp [hx, h]⟩
  | region id ops d => cases d <;> simp only [resolveC] at h <;> (repeat' (split at h)) <;> simp at h
  | _ => simp only [resolveC] at h <;> (try (repeat' (split at h))) <;> simp at h
theorem inv_scope {c : Code} {n : Nat} {b : RC} (h : resolveC D P n c = some (.scope b)) : ∃ x, c = .scope x ∧ resolveC D P n x = some b := by
  cases c with
  | scope x =>
    simp only [resolveC] at h
    cases hx : resolveC D P n x <;> simp [hx] at h
    exact ⟨x, rfl, by simp [hx, h]⟩
  | region id ops d => cases d <;> simp only [resolveC] at h <;> (repeat' (split at h)) <;> simp at h
  | _ => simp only [resolveC] at h <;> (try (repeat' (split at h))) <;> simp at h
theorem inv_exit {c : Code} {n id : Nat} (h : resolveC D P n c = some (.exit id)) : c = .exit id := by
  cases c with
  | exit id' => simp [resolveC] at h; rw [h]
  | region id ops d => cases d <;> simp only [resolveC] at h <;> (repeat' (split at h)) <;> simp at h
  | _ => simp only [resolveC] at h <;> (try (repeat' (split at h))) <;> simp at h
theorem inv_label {c : Code} {n l : Nat} (h : resolveC D P n c = some (.label l)) : c = .label l := by
  cases c with
  | label l' => simp [resolveC] at h; rw [h]
  | region id ops d => cases d <;> simp only [resolveC] at h <;> (repeat' (split at h)) <;> simp at h
  | _ => simp only [resolveC] at h <;> (try (repeat' (split at h))) <;> simp at h
theorem inv_ret {c : Code} {n : Nat} (h : resolveC D P n c = some .ret) : c = .ret := by
  cases c with
  | ret => rfl
  | region id ops d => cases d <;> simp only [resolveC] at h <;> (repeat' (split at h)) <;> simp at h
  | _ => simp only [resolveC] at h <;> (try (repeat' (split at h))) <;> simp at h
theorem inv_reg {c : Code} {n : Nat} {gs : List GOp} (h : resolveC D P n c = some (.reg gs)) : ∃ id ops, c = .region id ops false ∧ resolveGs P n ops ops.toList = some gs := by
  cases c with
  | region id ops d =>
    cases d with
    | false =>
      simp only [resolveC] at h
      cases hx : resolveGs P n ops ops.toList <;> simp [hx] at h
      exact ⟨id, ops, rfl, by simp [hx, h]⟩
    | true => simp only [resolveC] at h <;> (repeat' (split at h)) <;> simp at h
  | _ => simp only [resolveC] at h <;> (try (repeat' (split at h))) <;> simp at h
theorem inv_draw {c : Code} {n : Nat} {gs : List GOp} {segs : List (List DOp)} (h : resolveC D P n c = some (.draw gs segs)) :
    ∃ id ops, c = .region id ops true ∧ resolveGs P n ops ops.toList = some gs ∧ D P n ops gs = some segs := by
  cases c with
  | region id ops d =>
    cases d with
    | true =>
      simp only [resolveC] at h
      cases hx : resolveGs P n ops ops.toList with
      | none => simp [hx] at h
      | some gs' =>
        cases hy : D P n ops gs' with
        | none => simp [hx, hy] at h
        | some segs' => simp [hx, hy] at h; exact ⟨id, ops, rfl, by simp [hx, h.1], by rw [← h.1, hy, h.2]⟩
    | false => simp only [resolveC] at h <;> (repeat' (split at h)) <;> simp at h
  | _ => simp only [resolveC] at h <;> (try (repeat' (split at h))) <;> simp at h
theorem inv_range {c : Code} {n : Nat} {f : Operand} {ps : Array Tmp} {a b : RC} (h : resolveC D P n c = some (.range f ps a b)) : ∃ x y, c = .rangeFunc f ps x y ∧ resolveC D P n x = some a ∧ resolveC D P n y = some b := by
  cases c with
  | rangeFunc f' ps' x y =>
    simp only [resolveC] at h
    cases hx : resolveC D P n x <;> cases hy : resolveC D P n y <;> simp [hx, hy] at h
    obtain ⟨rfl, rfl, h1, h2⟩ := h
    exact ⟨x, y, rfl, by simp [hx, h1], by simp [hy, h2]⟩
  | region id ops d => cases d <;> simp only [resolveC] at h <;> (repeat' (split at h)) <;> simp at h
  | _ => simp only [resolveC] at h <;> (try (repeat' (split at h))) <;> simp at h

theorem inv_skip {c : Code} {n : Nat} (h : resolveC D P n c = some .skip) : c = .skip := by
  cases c with
  | skip => rfl
  | region id ops d => cases d <;> simp only [resolveC] at h <;> (repeat' (split at h)) <;> simp at h
  | _ => simp only [resolveC] at h <;> (try (repeat' (split at h))) <;> simp at h
end
end Go.Lx
