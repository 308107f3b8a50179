/- What values with names stand for. -/
import Derived.Test.YtbmncepaajkngaaGreatLxRunV
import Derived.Laws.Cells
import Derived.Laws.IdiomCopy
import Derived.Laws.BytesString
namespace Go.Lx
set_option linter.unusedSimpArgs false
set_option linter.unusedVariables false

/-! ### Lists of cells -/
def nthL {α : Type} : List α → Nat → Option α
  | [], _ => none
  | x :: _, 0 => some x
  | _ :: l, n + 1 => nthL l n
theorem nthL_eq {α : Type} : ∀ (l : List α) (n : Nat), nthL l n = l[n]?
  | [], _ => by simp [nthL]
  | x :: _, 0 => by simp [nthL]
  | _ :: l, n + 1 => by simp [nthL, nthL_eq l n]

def takeL {α : Type} : Nat → List α → Option (List α)
  | 0, _ => some []
  | _ + 1, [] => none
  | n + 1, x :: l => match takeL n l with | some r => some (x :: r) | none => none
theorem takeL_eq {α : Type} : ∀ (n : Nat) (l r : List α), takeL n l = some r → r = l.take n ∧ r.length = n
  | 0, l, r, h => by simp [takeL] at h; subst h; simp
  | n + 1, [], r, h => by simp [takeL] at h
  | n + 1, x :: l, r, h => by
    simp only [takeL] at h
    cases hr : takeL n l with
    | none => simp [hr] at h
    | some r' => simp [hr] at h; subst h; obtain ⟨h1, h2⟩ := takeL_eq n l r' hr; simp [← h1, h2]
def partL {α : Type} : Nat → Nat → List α → Option (List α)
  | 0, n, l => takeL n l
  | _ + 1, _, [] => none
  | o + 1, n, _ :: l => partL o n l
theorem partL_eq {α : Type} : ∀ (o n : Nat) (l r : List α), partL o n l = some r → r = (l.drop o).take n ∧ r.length = n
  | 0, n, l, r, h => by simpa using takeL_eq n l r h
  | o + 1, n, [], r, h => by simp [partL] at h
  | o + 1, n, x :: l, r, h => by simpa using partL_eq o n l r h

/-- Cells laid into cells. -/
def layL {α : Type} : List α → Nat → List α → Option (List α)
  | cs, 0, [] => some cs
  | c :: cs, 0, v :: vs => match layL cs 0 vs with | some r => some (v :: r) | none => none
  | c :: cs, o + 1, vs => match layL cs o vs with | some r => some (c :: r) | none => none
  | [], 0, _ :: _ => none
  | [], _ + 1, _ => none
theorem layL_step {α : Type} : ∀ (cs : List α) (off : Nat) (v : α) (vs r : List α), layL cs off (v :: vs) = some r → layL (cs.set off v) (off + 1) vs = some r
  | [], 0, v, vs, r, h => by simp [layL] at h
  | [], _ + 1, v, vs, r, h => by simp [layL] at h
  | c :: cs, 0, v, vs, r, h => by simpa [layL] using h
  | c :: cs, o + 1, v, vs, r, h => by
    simp only [layL] at h
    cases hr : layL cs o (v :: vs) with
    | none => simp [hr] at h
    | some r' => simp [hr] at h; subst h; simp [layL, layL_step cs o v vs r' hr]
theorem layL_len {α : Type} : ∀ (cs : List α) (off : Nat) (vs r : List α), layL cs off vs = some r → off + vs.length ≤ cs.length ∧ r.length = cs.length
  | cs, 0, [], r, h => by simp [layL] at h; subst h; simp
  | [], 0, _ :: _, r, h => by simp [layL] at h
  | [], _ + 1, _, r, h => by simp [layL] at h
  | c :: cs, 0, v :: vs, r, h => by
    simp only [layL] at h
    cases hr : layL cs 0 vs with
    | none => simp [hr] at h
    | some r' => simp [hr] at h; subst h; have := layL_len cs 0 vs r' hr; simp; omega
  | c :: cs, o + 1, vs, r, h => by
    simp only [layL] at h
    cases hr : layL cs o vs with
    | none => simp [hr] at h
    | some r' => simp [hr] at h; subst h; have := layL_len cs o vs r' hr; simp; omega
theorem layL_fold (vs : List Value) : ∀ (cs : List Value) (o j : Nat) (r : List Value), layL cs (o + j) vs = some r →
    ((vs.zipIdx j).foldl (fun (l : Array Value) p => l.setIfInBounds (o + p.2) p.1) cs.toArray) = r.toArray := by
  induction vs with
  | nil =>
    intro cs o j r h
    have : ∀ (cs : List Value) (n : Nat) (r : List Value), layL cs n [] = some r → r = cs := by
      intro cs n
      induction n generalizing cs with
      | zero => intro r h; simp [layL] at h; exact h.symm
      | succ n ih =>
        intro r h
        cases cs with
        | nil => simp [layL] at h
        | cons c cs =>
          simp only [layL] at h
          cases hr : layL cs n [] with
          | none => simp [hr] at h
          | some r' => simp [hr] at h; subst h; rw [ih cs r' hr]
    simp [this cs _ r h]
  | cons v vs ih =>
    intro cs o j r h
    simp only [List.zipIdx_cons, List.foldl_cons, List.setIfInBounds_toArray]
    exact ih (cs.set (o + j) v) o (j + 1) r (by have := layL_step cs (o + j) v vs r h; rwa [Nat.add_assoc] at this)

def cellsL : Value → List Value | .agg cs => cs.toList | v => [v]
theorem cellsL_eq (v : Value) : v.cells.toList = cellsL v := by cases v <;> simp [Value.cells, cellsL]

def bld (pl : Nat → Option (Nat × Nat)) : List Value → List (Nat × Value) → Option (List Value)
  | cs, [] => some cs
  | cs, (i, v) :: rest => match pl i with
    | none => none
    | some (off, size) => match Nat.beq (cellsL v).length size, layL cs off (cellsL v) with
      | true, some cs' => bld pl cs' rest
      | _, _ => none
theorem bld_ok (pl : Nat → Option (Nat × Nat)) : ∀ (parts : List (Nat × Value)) (cs r : List Value), bld pl cs parts = some r → Instr.fill pl cs.toArray parts = some r.toArray
  | [], cs, r, h => by simp [bld] at h; subst h; simp [Instr.fill]
  | (i, v) :: rest, cs, r, h => by
    simp only [bld] at h
    cases hp : pl i with
    | none => simp [hp] at h
    | some q =>
      obtain ⟨off, size⟩ := q
      simp only [hp] at h
      cases hb : Nat.beq (cellsL v).length size with
      | false => simp [hb] at h
      | true =>
        cases hl : layL cs off (cellsL v) with
        | none => simp [hb, hl] at h
        | some cs' =>
          simp only [hb, hl] at h
          have e1 : v.cells.size = size := by rw [← Array.length_toList, cellsL_eq]; exact Nat.eq_of_beq_eq_true hb
          have e2 := layL_len cs off (cellsL v) cs' hl
          have e3 : (cellsL v).length = size := Nat.eq_of_beq_eq_true hb
          have e4 := layL_fold (cellsL v) cs off 0 cs' (by simpa using hl)
          have e5 : v.cells.zipIdx.foldl (fun cs (p : Value × Nat) => cs.setIfInBounds (off + p.2) p.1) cs.toArray = cs'.toArray := by
            rw [← e4, ← cellsL_eq]
            rw [← Array.foldl_toList, Array.toList_zipIdx]
          simp only [Instr.fill, hp]
          rw [if_neg (by simp [e1]; omega)]
          rw [show (fun cs (x : Value × Nat) => match x with | (c, j) => cs.setIfInBounds (off + j) c) = (fun (cs : Array Value) (p : Value × Nat) => cs.setIfInBounds (off + p.2) p.1) from rfl]
          rw [e5]
          exact bld_ok pl rest cs' r h


/-! ### Names -/
/-- Names: the blocks and capacities that they stand for. -/
structure Nm where
  ids : Nat → Option Nat
  caps : List Nat

def Nm.le (ρ ρ' : Nm) : Prop := (∀ b id, ρ.ids b = some id → ρ'.ids b = some id) ∧ ρ.caps <+: ρ'.caps
instance : LE Nm := ⟨Nm.le⟩
theorem Nm.le_refl (ρ : Nm) : ρ ≤ ρ := ⟨fun _ _ h => h, List.prefix_rfl⟩
theorem Nm.le_trans {a b c : Nm} (h : a ≤ b) (k : b ≤ c) : a ≤ c := ⟨fun n id e => k.1 n id (h.1 n id e), h.2.trans k.2⟩
theorem pre_get {α : Type} {a b : List α} (h : a <+: b) {i : Nat} {x : α} (e : a[i]? = some x) : b[i]? = some x := by
  obtain ⟨t, rfl⟩ := h
  rw [List.getElem?_append_left (List.getElem?_eq_some_iff.1 e).1]; exact e

def concF (ρ : Nm) : Fn → Option Fn
  | .yield l => (ρ.ids l).map .yield
  | f => some f

mutual
def conc (ρ : Nm) : V → Option Value
  | .b x => some (.bool x)
  | .i k n => some (.int k n)
  | .s l => some (.string ⟨l.toArray⟩)
  | .p none => some (.pointer none)
  | .p (some (b, o)) => (ρ.ids b).bind fun id => some (.pointer (some ⟨id, o, none⟩))
  | .sl none n (.k c) => some (.slice none n c)
  | .sl none _ (.v _ _ _) => none
  | .sl (some (b, o)) n (.k c) => (ρ.ids b).bind fun id => some (.slice (some ⟨id, o, none⟩) n c)
  | .sl (some (b, o)) n (.v j d o') => (ρ.ids b).bind fun id => (ρ.caps[j]?).bind fun c => if d + n ≤ c then some (.slice (some ⟨id, if c = d then o' else o, none⟩) n (c - d)) else none
  | .m none => some (.map none)
  | .m (some b) => (ρ.ids b).bind fun id => some (.map (some id))
  | .fn f a c => (concF ρ f).bind fun f => (concL ρ a).bind fun a => (concL ρ c).bind fun c => some (.func f a.toArray c.toArray)
  | .nf => some .nilFunc
  | .fc t v => (conc ρ v).bind fun u => some (.iface t u)
  | .ni => some .nilIface
  | .ag l => (concL ρ l).bind fun l => some (.agg l.toArray)
  | .tp l => (concL ρ l).bind fun l => some (.tuple l.toArray)
  | .o u => if u.oneCell' then some u else none
def concL (ρ : Nm) : List V → Option (List Value)
  | [] => some []
  | v :: vs => (conc ρ v).bind fun u => (concL ρ vs).bind fun us => some (u :: us)
end

mutual
theorem conc_mono {ρ ρ' : Nm} (h : ρ ≤ ρ') : ∀ (v : V) {u : Value}, conc ρ v = some u → conc ρ' v = some u
  | .b x, u, e => by simpa [conc] using e
  | .i k n, u, e => by simpa [conc] using e
  | .s l, u, e => by simpa [conc] using e
  | .p none, u, e => by simpa [conc] using e
  | .p (some (b, o)), u, e => by
    simp only [conc, Option.bind_eq_some_iff] at e ⊢
    obtain ⟨id, a, b⟩ := e
    exact ⟨id, h.1 _ _ a, b⟩
  | .sl none n (.k c), u, e => by simpa [conc] using e
  | .sl none _ (.v _ _ _), u, e => by simp [conc] at e
  | .sl (some (b, o)) n (.k c), u, e => by
    simp only [conc, Option.bind_eq_some_iff] at e ⊢
    obtain ⟨id, a, b⟩ := e
    exact ⟨id, h.1 _ _ a, b⟩
  | .sl (some (b, o)) n (.v j d o'), u, e => by
    simp only [conc, Option.bind_eq_some_iff] at e ⊢
    obtain ⟨id, a, c, a2, b⟩ := e
    exact ⟨id, h.1 _ _ a, c, pre_get h.2 a2, b⟩
  | .m none, u, e => by simpa [conc] using e
  | .m (some b), u, e => by
    simp only [conc, Option.bind_eq_some_iff] at e ⊢
    obtain ⟨id, a, b⟩ := e
    exact ⟨id, h.1 _ _ a, b⟩
  | .fn f a c, u, e => by
    simp only [conc, Option.bind_eq_some_iff] at e ⊢
    obtain ⟨f', e1, a', e2, c', e3, e4⟩ := e
    refine ⟨f', ?_, a', concL_mono h a e2, c', concL_mono h c e3, e4⟩
    cases f <;> simp only [concF, Option.map_eq_some_iff] at e1 ⊢ <;> try exact e1
    obtain ⟨id, x, y⟩ := e1
    exact ⟨id, h.1 _ _ x, y⟩
  | .nf, u, e => by simpa [conc] using e
  | .fc t v, u, e => by
    simp only [conc, Option.bind_eq_some_iff] at e ⊢
    obtain ⟨x, a, b⟩ := e
    exact ⟨x, conc_mono h v a, b⟩
  | .ni, u, e => by simpa [conc] using e
  | .ag l, u, e => by
    simp only [conc, Option.bind_eq_some_iff] at e ⊢
    obtain ⟨x, a, b⟩ := e
    exact ⟨x, concL_mono h l a, b⟩
  | .tp l, u, e => by
    simp only [conc, Option.bind_eq_some_iff] at e ⊢
    obtain ⟨x, a, b⟩ := e
    exact ⟨x, concL_mono h l a, b⟩
  | .o u, w, e => by simpa only [conc] using e
theorem concL_mono {ρ ρ' : Nm} (h : ρ ≤ ρ') : ∀ (v : List V) {u : List Value}, concL ρ v = some u → concL ρ' v = some u
  | [], u, e => by simpa [concL] using e
  | v :: vs, u, e => by
    simp only [concL, Option.bind_eq_some_iff] at e ⊢
    obtain ⟨x, a, y, b, c⟩ := e
    exact ⟨x, conc_mono h v a, y, concL_mono h vs b, c⟩
end

/-! ### Lists of values -/
theorem concL_len {ρ : Nm} : ∀ {l : List V} {us : List Value}, concL ρ l = some us → us.length = l.length
  | [], us, e => by simp [concL] at e; subst e; rfl
  | v :: vs, us, e => by
    simp only [concL, Option.bind_eq_some_iff] at e
    obtain ⟨x, a, y, b, c⟩ := e
    simp at c; subst c
    simp [concL_len b]
theorem concL_get {ρ : Nm} : ∀ {l : List V} {us : List Value} {i : Nat} {v : V}, concL ρ l = some us → l[i]? = some v → ∃ u, us[i]? = some u ∧ conc ρ v = some u
  | [], us, i, v, e, h => by simp at h
  | w :: vs, us, i, v, e, h => by
    simp only [concL, Option.bind_eq_some_iff] at e
    obtain ⟨x, a, y, b, c⟩ := e
    simp at c; subst c
    cases i with
    | zero => simp at h; subst h; exact ⟨x, by simp, a⟩
    | succ i => obtain ⟨u, h1, h2⟩ := concL_get b (i := i) (by simpa using h); exact ⟨u, by simpa using h1, h2⟩
theorem concL_append {ρ : Nm} : ∀ {l m : List V} {us ws : List Value}, concL ρ l = some us → concL ρ m = some ws → concL ρ (l ++ m) = some (us ++ ws)
  | [], m, us, ws, e, h => by simp [concL] at e; subst e; simpa using h
  | v :: vs, m, us, ws, e, h => by
    simp only [concL, Option.bind_eq_some_iff] at e
    obtain ⟨x, a, y, b, c⟩ := e
    simp at c; subst c
    simp [concL, a, concL_append b h]

/-! ### Going on with what was reckoned -/
theorem fN_eq {β : Type} (n : Nat) (k : Nat → β) : fN n k = k n := by cases n <;> rfl
theorem fI_eq {β : Type} (n : Int) (k : Int → β) : fI n k = k n := by cases n <;> simp [fI, fN_eq]
theorem fB_eq {β : Type} (b : Bool) (k : Bool → β) : fB b k = k b := by cases b <;> rfl
theorem fL_eq {α β : Type} (l : List α) (k : List α → β) : fL l k = k l := by
  induction l generalizing k with
  | nil => rfl
  | cons x xs ih => exact ih _
theorem fCap_eq {β : Type} (c : Cap) (k : Cap → β) : fCap c k = k c := by cases c <;> simp [fCap, fN_eq]
theorem fA_eq {β : Type} (a : Option (Nat × Nat)) (k : Option (Nat × Nat) → β) : fA a k = k a := by cases a <;> simp [fA, fN_eq]
theorem fV_eq {β : Type} (v : V) (k : V → β) : fV v k = k v := by
  cases v <;> simp [fV, fI_eq, fB_eq, fL_eq, fA_eq, fN_eq, fCap_eq]
  split <;> simp_all [fN_eq, fA_eq, fCap_eq, fL_eq, fI_eq, fB_eq]

/-! ### Tries -/
theorem beq_eq (x y : Nat) : Nat.beq x y = decide (x = y) := by rw [Bool.eq_iff_iff]; simp [Nat.beq_eq]
theorem getP_nil {α : Type} (p : P8) : getP p (.nil : T α) = none := by cases p <;> rfl
theorem getP_z {α : Type} {v : Option α} {a b c d e f g h : T α} : getP .z (.nd v a b c d e f g h) = v := rfl
theorem getP_0 {α : Type} {p : P8} {v : Option α} {a b c d e f g h : T α} : getP (.d0 p) (.nd v a b c d e f g h) = getP p a := rfl
theorem getP_1 {α : Type} {p : P8} {v : Option α} {a b c d e f g h : T α} : getP (.d1 p) (.nd v a b c d e f g h) = getP p b := rfl
theorem getP_2 {α : Type} {p : P8} {v : Option α} {a b c d e f g h : T α} : getP (.d2 p) (.nd v a b c d e f g h) = getP p c := rfl
theorem getP_3 {α : Type} {p : P8} {v : Option α} {a b c d e f g h : T α} : getP (.d3 p) (.nd v a b c d e f g h) = getP p d := rfl
theorem getP_4 {α : Type} {p : P8} {v : Option α} {a b c d e f g h : T α} : getP (.d4 p) (.nd v a b c d e f g h) = getP p e := rfl
theorem getP_5 {α : Type} {p : P8} {v : Option α} {a b c d e f g h : T α} : getP (.d5 p) (.nd v a b c d e f g h) = getP p f := rfl
theorem getP_6 {α : Type} {p : P8} {v : Option α} {a b c d e f g h : T α} : getP (.d6 p) (.nd v a b c d e f g h) = getP p g := rfl
theorem getP_7 {α : Type} {p : P8} {v : Option α} {a b c d e f g h : T α} : getP (.d7 p) (.nd v a b c d e f g h) = getP p h := rfl
theorem T.get_nil {α : Type} (n : Nat) : (T.nil : T α).get n = none := getP_nil _
noncomputable def setN {α : Type} (p : P8) (t : T α) (x : Option α) : T α := setP p t x id
theorem setP_eq {α : Type} : ∀ (p : P8) {β : Type} (t : T α) (x : Option α) (k : T α → β), setP p t x k = k (setN p t x)
  | .z, _, .nil, x, k => rfl
  | .z, _, .nd .., x, k => rfl
  | .d0 p, _, .nil, x, k => (setP_eq p .nil x _).trans (congrArg k (setP_eq p .nil x (fun y => T.nd none y .nil .nil .nil .nil .nil .nil .nil)).symm)
  | .d0 p, _, .nd v a b c d e f g h, x, k => (setP_eq p a x _).trans (congrArg k (setP_eq p a x (fun y => T.nd v y b c d e f g h)).symm)
  | .d1 p, _, .nil, x, k => (setP_eq p .nil x _).trans (congrArg k (setP_eq p .nil x (fun y => T.nd none .nil y .nil .nil .nil .nil .nil .nil)).symm)
  | .d1 p, _, .nd v a b c d e f g h, x, k => (setP_eq p b x _).trans (congrArg k (setP_eq p b x (fun y => T.nd v a y c d e f g h)).symm)
  | .d2 p, _, .nil, x, k => (setP_eq p .nil x _).trans (congrArg k (setP_eq p .nil x (fun y => T.nd none .nil .nil y .nil .nil .nil .nil .nil)).symm)
  | .d2 p, _, .nd v a b c d e f g h, x, k => (setP_eq p c x _).trans (congrArg k (setP_eq p c x (fun y => T.nd v a b y d e f g h)).symm)
  | .d3 p, _, .nil, x, k => (setP_eq p .nil x _).trans (congrArg k (setP_eq p .nil x (fun y => T.nd none .nil .nil .nil y .nil .nil .nil .nil)).symm)
  | .d3 p, _, .nd v a b c d e f g h, x, k => (setP_eq p d x _).trans (congrArg k (setP_eq p d x (fun y => T.nd v a b c y e f g h)).symm)
  | .d4 p, _, .nil, x, k => (setP_eq p .nil x _).trans (congrArg k (setP_eq p .nil x (fun y => T.nd none .nil .nil .nil .nil y .nil .nil .nil)).symm)
  | .d4 p, _, .nd v a b c d e f g h, x, k => (setP_eq p e x _).trans (congrArg k (setP_eq p e x (fun y => T.nd v a b c d y f g h)).symm)
  | .d5 p, _, .nil, x, k => (setP_eq p .nil x _).trans (congrArg k (setP_eq p .nil x (fun y => T.nd none .nil .nil .nil .nil .nil y .nil .nil)).symm)
  | .d5 p, _, .nd v a b c d e f g h, x, k => (setP_eq p f x _).trans (congrArg k (setP_eq p f x (fun y => T.nd v a b c d e y g h)).symm)
  | .d6 p, _, .nil, x, k => (setP_eq p .nil x _).trans (congrArg k (setP_eq p .nil x (fun y => T.nd none .nil .nil .nil .nil .nil .nil y .nil)).symm)
  | .d6 p, _, .nd v a b c d e f g h, x, k => (setP_eq p g x _).trans (congrArg k (setP_eq p g x (fun y => T.nd v a b c d e f y h)).symm)
  | .d7 p, _, .nil, x, k => (setP_eq p .nil x _).trans (congrArg k (setP_eq p .nil x (fun y => T.nd none .nil .nil .nil .nil .nil .nil .nil y)).symm)
  | .d7 p, _, .nd v a b c d e f g h, x, k => (setP_eq p h x _).trans (congrArg k (setP_eq p h x (fun y => T.nd v a b c d e f g y)).symm)
theorem setN_zn {α : Type} {x : Option α} : setN .z (.nil : T α) x = .nd x .nil .nil .nil .nil .nil .nil .nil .nil := rfl
theorem setN_z {α : Type} {x v : Option α} {a b c d e f g h : T α} : setN .z (.nd v a b c d e f g h) x = .nd x a b c d e f g h := rfl
theorem setN_0n {α : Type} {p : P8} {x : Option α} : setN (.d0 p) (.nil : T α) x = .nd none (setN p .nil x) .nil .nil .nil .nil .nil .nil .nil := setP_eq p .nil x (fun y => T.nd none y .nil .nil .nil .nil .nil .nil .nil)
theorem setN_0 {α : Type} {p : P8} {x v : Option α} {a b c d e f g h : T α} : setN (.d0 p) (.nd v a b c d e f g h) x = .nd v (setN p a x) b c d e f g h := setP_eq p a x (fun y => T.nd v y b c d e f g h)
theorem setN_1n {α : Type} {p : P8} {x : Option α} : setN (.d1 p) (.nil : T α) x = .nd none .nil (setN p .nil x) .nil .nil .nil .nil .nil .nil := setP_eq p .nil x (fun y => T.nd none .nil y .nil .nil .nil .nil .nil .nil)
theorem setN_1 {α : Type} {p : P8} {x v : Option α} {a b c d e f g h : T α} : setN (.d1 p) (.nd v a b c d e f g h) x = .nd v a (setN p b x) c d e f g h := setP_eq p b x (fun y => T.nd v a y c d e f g h)
theorem setN_2n {α : Type} {p : P8} {x : Option α} : setN (.d2 p) (.nil : T α) x = .nd none .nil .nil (setN p .nil x) .nil .nil .nil .nil .nil := setP_eq p .nil x (fun y => T.nd none .nil .nil y .nil .nil .nil .nil .nil)
theorem setN_2 {α : Type} {p : P8} {x v : Option α} {a b c d e f g h : T α} : setN (.d2 p) (.nd v a b c d e f g h) x = .nd v a b (setN p c x) d e f g h := setP_eq p c x (fun y => T.nd v a b y d e f g h)
theorem setN_3n {α : Type} {p : P8} {x : Option α} : setN (.d3 p) (.nil : T α) x = .nd none .nil .nil .nil (setN p .nil x) .nil .nil .nil .nil := setP_eq p .nil x (fun y => T.nd none .nil .nil .nil y .nil .nil .nil .nil)
theorem setN_3 {α : Type} {p : P8} {x v : Option α} {a b c d e f g h : T α} : setN (.d3 p) (.nd v a b c d e f g h) x = .nd v a b c (setN p d x) e f g h := setP_eq p d x (fun y => T.nd v a b c y e f g h)
theorem setN_4n {α : Type} {p : P8} {x : Option α} : setN (.d4 p) (.nil : T α) x = .nd none .nil .nil .nil .nil (setN p .nil x) .nil .nil .nil := setP_eq p .nil x (fun y => T.nd none .nil .nil .nil .nil y .nil .nil .nil)
theorem setN_4 {α : Type} {p : P8} {x v : Option α} {a b c d e f g h : T α} : setN (.d4 p) (.nd v a b c d e f g h) x = .nd v a b c d (setN p e x) f g h := setP_eq p e x (fun y => T.nd v a b c d y f g h)
theorem setN_5n {α : Type} {p : P8} {x : Option α} : setN (.d5 p) (.nil : T α) x = .nd none .nil .nil .nil .nil .nil (setN p .nil x) .nil .nil := setP_eq p .nil x (fun y => T.nd none .nil .nil .nil .nil .nil y .nil .nil)
theorem setN_5 {α : Type} {p : P8} {x v : Option α} {a b c d e f g h : T α} : setN (.d5 p) (.nd v a b c d e f g h) x = .nd v a b c d e (setN p f x) g h := setP_eq p f x (fun y => T.nd v a b c d e y g h)
theorem setN_6n {α : Type} {p : P8} {x : Option α} : setN (.d6 p) (.nil : T α) x = .nd none .nil .nil .nil .nil .nil .nil (setN p .nil x) .nil := setP_eq p .nil x (fun y => T.nd none .nil .nil .nil .nil .nil .nil y .nil)
theorem setN_6 {α : Type} {p : P8} {x v : Option α} {a b c d e f g h : T α} : setN (.d6 p) (.nd v a b c d e f g h) x = .nd v a b c d e f (setN p g x) h := setP_eq p g x (fun y => T.nd v a b c d e f y h)
theorem setN_7n {α : Type} {p : P8} {x : Option α} : setN (.d7 p) (.nil : T α) x = .nd none .nil .nil .nil .nil .nil .nil .nil (setN p .nil x) := setP_eq p .nil x (fun y => T.nd none .nil .nil .nil .nil .nil .nil .nil y)
theorem setN_7 {α : Type} {p : P8} {x v : Option α} {a b c d e f g h : T α} : setN (.d7 p) (.nd v a b c d e f g h) x = .nd v a b c d e f g (setN p h x) := setP_eq p h x (fun y => T.nd v a b c d e f g y)
theorem getP_set {α : Type} : ∀ (p q : P8) (t : T α) (x : Option α), getP q (setN p t x) = if q = p then x else getP q t
  | .z, q, t, x => by cases t <;> cases q <;> simp [getP_nil, getP_z, getP_0, getP_1, getP_2, getP_3, getP_4, getP_5, getP_6, getP_7, setN_zn, setN_z, setN_0n, setN_0, setN_1n, setN_1, setN_2n, setN_2, setN_3n, setN_3, setN_4n, setN_4, setN_5n, setN_5, setN_6n, setN_6, setN_7n, setN_7]
  | .d0 p, q, t, x => by cases t <;> cases q <;> simp [getP_nil, getP_z, getP_0, getP_1, getP_2, getP_3, getP_4, getP_5, getP_6, getP_7, setN_zn, setN_z, setN_0n, setN_0, setN_1n, setN_1, setN_2n, setN_2, setN_3n, setN_3, setN_4n, setN_4, setN_5n, setN_5, setN_6n, setN_6, setN_7n, setN_7, getP_set p]
  | .d1 p, q, t, x => by cases t <;> cases q <;> simp [getP_nil, getP_z, getP_0, getP_1, getP_2, getP_3, getP_4, getP_5, getP_6, getP_7, setN_zn, setN_z, setN_0n, setN_0, setN_1n, setN_1, setN_2n, setN_2, setN_3n, setN_3, setN_4n, setN_4, setN_5n, setN_5, setN_6n, setN_6, setN_7n, setN_7, getP_set p]
  | .d2 p, q, t, x => by cases t <;> cases q <;> simp [getP_nil, getP_z, getP_0, getP_1, getP_2, getP_3, getP_4, getP_5, getP_6, getP_7, setN_zn, setN_z, setN_0n, setN_0, setN_1n, setN_1, setN_2n, setN_2, setN_3n, setN_3, setN_4n, setN_4, setN_5n, setN_5, setN_6n, setN_6, setN_7n, setN_7, getP_set p]
  | .d3 p, q, t, x => by cases t <;> cases q <;> simp [getP_nil, getP_z, getP_0, getP_1, getP_2, getP_3, getP_4, getP_5, getP_6, getP_7, setN_zn, setN_z, setN_0n, setN_0, setN_1n, setN_1, setN_2n, setN_2, setN_3n, setN_3, setN_4n, setN_4, setN_5n, setN_5, setN_6n, setN_6, setN_7n, setN_7, getP_set p]
  | .d4 p, q, t, x => by cases t <;> cases q <;> simp [getP_nil, getP_z, getP_0, getP_1, getP_2, getP_3, getP_4, getP_5, getP_6, getP_7, setN_zn, setN_z, setN_0n, setN_0, setN_1n, setN_1, setN_2n, setN_2, setN_3n, setN_3, setN_4n, setN_4, setN_5n, setN_5, setN_6n, setN_6, setN_7n, setN_7, getP_set p]
  | .d5 p, q, t, x => by cases t <;> cases q <;> simp [getP_nil, getP_z, getP_0, getP_1, getP_2, getP_3, getP_4, getP_5, getP_6, getP_7, setN_zn, setN_z, setN_0n, setN_0, setN_1n, setN_1, setN_2n, setN_2, setN_3n, setN_3, setN_4n, setN_4, setN_5n, setN_5, setN_6n, setN_6, setN_7n, setN_7, getP_set p]
  | .d6 p, q, t, x => by cases t <;> cases q <;> simp [getP_nil, getP_z, getP_0, getP_1, getP_2, getP_3, getP_4, getP_5, getP_6, getP_7, setN_zn, setN_z, setN_0n, setN_0, setN_1n, setN_1, setN_2n, setN_2, setN_3n, setN_3, setN_4n, setN_4, setN_5n, setN_5, setN_6n, setN_6, setN_7n, setN_7, getP_set p]
  | .d7 p, q, t, x => by cases t <;> cases q <;> simp [getP_nil, getP_z, getP_0, getP_1, getP_2, getP_3, getP_4, getP_5, getP_6, getP_7, setN_zn, setN_z, setN_0n, setN_0, setN_1n, setN_1, setN_2n, setN_2, setN_3n, setN_3, setN_4n, setN_4, setN_5n, setN_5, setN_6n, setN_6, setN_7n, setN_7, getP_set p]
def dec : P8 → Nat
  | .z => 0
  | .d0 p => 8 * dec p + 1
  | .d1 p => 8 * dec p + 2
  | .d2 p => 8 * dec p + 3
  | .d3 p => 8 * dec p + 4
  | .d4 p => 8 * dec p + 5
  | .d5 p => 8 * dec p + 6
  | .d6 p => 8 * dec p + 7
  | .d7 p => 8 * dec p + 8
theorem dec_dig (p : P8) : ∀ r, r < 8 → dec (dig r p) = 8 * dec p + r + 1
  | 0, _ | 1, _ | 2, _ | 3, _ | 4, _ | 5, _ | 6, _ | 7, _ => rfl
  | n + 8, h => by omega
theorem dec_pthD : ∀ (d n : Nat), n < d → dec (pthD d n) = n
  | 0, n, h => by omega
  | d + 1, 0, h => rfl
  | d + 1, m + 1, h => by
    have e : pthD (d + 1) (m + 1) = dig (m % 8) (pthD d (m / 8)) := rfl
    rw [e, dec_dig _ _ (by omega), dec_pthD d (m / 8) (by omega)]
    omega
theorem dec_pth (n : Nat) : dec (pth n) = n := dec_pthD _ _ (by omega)
noncomputable def T.set {α : Type} (t : T α) (n : Nat) (x : Option α) : T α := setN (pth n) t x
theorem T.setK_eq {α β : Type} (t : T α) (n : Nat) (x : Option α) (k : T α → β) : T.setK t n x k = k (T.set t n x) := setP_eq _ _ _ _
theorem T.get_set {α : Type} (t : T α) (n i : Nat) (x : Option α) : (t.set n x).get i = if i = n then x else t.get i := by
  have h : pth i = pth n ↔ i = n := ⟨fun e => by rw [← dec_pth i, ← dec_pth n, e], fun e => by rw [e]⟩
  unfold T.get T.set
  rw [getP_set]
  by_cases e : i = n
  · rw [if_pos e, if_pos (h.2 e)]
  · rw [if_neg e, if_neg fun e' => e (h.1 e')]

/-! ### Constants, operands -/
theorem ofC_list {ρ : Nm} {f : Value → Option V} (h : ∀ c v, f c = some v → conc ρ v = some c) : ∀ (cs : List Value) (l : List V), cs.mapM f = some l → concL ρ l = some cs
  | [], l, e => by simp at e; subst e; rfl
  | c :: cs, l, e => by
    rw [List.mapM_cons] at e
    simp only [Option.bind_eq_bind, Option.bind_eq_some_iff, Option.pure_def, Option.some.injEq] at e
    obtain ⟨v, a, vs, b, rfl⟩ := e
    simp [concL, h _ _ a, ofC_list h cs vs b]

theorem ofC_ok {ρ : Nm} : ∀ (d : Nat) (c : Value) (v : V), ofC d c = some v → conc ρ v = some c := by
  intro d
  induction d with
  | zero =>
    intro c v h
    unfold ofC at h
    split at h <;> first | (rename_i e; cases e; done) | (cases h; done) | (simp only [Option.some.injEq] at h; subst h; simp [conc, concL, concF]; done) | (simp only [Option.some.injEq] at h; subst h; rfl)
  | succ d ih =>
    intro c v h
    unfold ofC at h
    split at h <;> first | (cases h; done) | (simp only [Option.some.injEq] at h; subst h; simp [conc, concL, concF]; done) | (simp only [Option.some.injEq] at h; subst h; rfl) | skip
    all_goals (rename_i e; simp only [Nat.succ.injEq] at e; subst e; simp only [Option.bind_eq_some_iff, Option.some.injEq] at h; obtain ⟨l, a, rfl⟩ := h)
    · simp [conc, ofC_list (ρ := ρ) ih _ _ a]
    · simp [conc, ofC_list (ρ := ρ) ih _ _ a]
    · simp [conc, ih _ _ a]


/-- Temporaries. -/
def TmR (ρ : Nm) (e : T V) (tmps : Array Value) : Prop := ∀ t v, e.get t = some v → ∃ u, tmps[t]? = some u ∧ conc ρ v = some u
theorem TmR.mono {ρ ρ' : Nm} {e : T V} {tmps : Array Value} (h : TmR ρ e tmps) (k : ρ ≤ ρ') : TmR ρ' e tmps := fun t v g => by
  obtain ⟨u, a, b⟩ := h t v g
  exact ⟨u, a, conc_mono k v b⟩
theorem TmR.set {ρ : Nm} {e : T V} {tmps : Array Value} (h : TmR ρ e tmps) {d : Nat} (hd : d < tmps.size) {v : V} {u : Value} (c : conc ρ v = some u) : TmR ρ (e.set d (some v)) (tmps.setIfInBounds d u) := by
  intro t w g
  rw [T.get_set] at g
  split at g
  · rename_i e; subst e; cases g; exact ⟨u, by simp [hd], c⟩
  · rename_i hn
    obtain ⟨x, y, z⟩ := h t w g
    exact ⟨x, by rw [Array.getElem?_setIfInBounds_ne (fun e => hn e.symm)]; exact y, z⟩
theorem TmR.nil (ρ : Nm) (tmps : Array Value) : TmR ρ .nil tmps := fun t v g => by rw [T.get_nil] at g; cases g

/-- What operands stand for. -/
def OpR (ρ : Nm) (e : VE) (r : Operand → Value) (X : List Operand) : Prop := ∀ x ∈ X, ∀ v, e x = some v → conc ρ v = some (r x)
theorem opR_ok {ρ : Nm} {e : T V} {tmps : Array Value} (h : TmR ρ e tmps) (ds : List Deferred) (X : List Operand) : OpR ρ (evV e) (Act.mk tmps ds).eval X := by
  intro x _ v g
  cases x with
  | tmp t =>
    obtain ⟨u, a, b⟩ := h t v g
    simp [Act.eval, Array.getD_eq_getD_getElem?, a, b]
  | const c => exact ofC_ok 4 c v g
  | global n => simp [evV] at g
  | func f => simp only [evV, Option.some.injEq] at g; subst g; simp [conc, concL, concF, Act.eval]
theorem evs_ok {ρ : Nm} {e : VE} {r : Operand → Value} : ∀ {xs : List Operand} {vs : List V}, OpR ρ e r xs → evsV e xs = some vs → concL ρ vs = some (xs.map r)
  | [], vs, _, g => by simp [evsV] at g; subst g; rfl
  | x :: xs, vs, h, g => by
    simp only [evsV, Option.bind_eq_some_iff, Option.some.injEq] at g
    obtain ⟨v, a, vs', b, rfl⟩ := g
    simp [concL, h x (by simp) v a, evs_ok (fun y m => h y (by simp [m])) b]
theorem evp_ok {ρ : Nm} {e : VE} {r : Operand → Value} : ∀ {xs : List (Nat × Operand)} {vs : List (Nat × V)}, OpR ρ e r (xs.map (·.2)) → evpV e xs = some vs → vs.map (·.1) = xs.map (·.1) ∧ concL ρ (vs.map (·.2)) = some (xs.map fun p => r p.2)
  | [], vs, _, g => by simp [evpV] at g; subst g; exact ⟨rfl, rfl⟩
  | (i, x) :: xs, vs, h, g => by
    simp only [evpV, Option.bind_eq_some_iff, Option.some.injEq] at g
    obtain ⟨v, a, vs', b, rfl⟩ := g
    obtain ⟨h1, h2⟩ := evp_ok (fun y m => h y (by simp at m ⊢; exact .inr m)) b
    simp [h1, concL, h x (by simp) v a, h2]

/-! ### Cells -/
theorem one_ok {ρ : Nm} {v : V} {u : Value} (h : conc ρ v = some u) (hv : oneV v = true) : u.oneCell' = true := by
  cases v with
  | ag l => simp [oneV] at hv
  | tp l => simp [oneV] at hv
  | o w => simp only [conc] at h; split at h <;> simp at h; subst h; assumption
  | p x =>
    cases x with
    | none => simp only [conc, Option.some.injEq] at h; subst h; rfl
    | some x => simp only [conc, Option.bind_eq_some_iff, Option.some.injEq] at h; obtain ⟨_, _, rfl⟩ := h; rfl
  | m x =>
    cases x with
    | none => simp only [conc, Option.some.injEq] at h; subst h; rfl
    | some x => simp only [conc, Option.bind_eq_some_iff, Option.some.injEq] at h; obtain ⟨_, _, rfl⟩ := h; rfl
  | sl x n c =>
    cases x <;> cases c <;> simp only [conc, Option.bind_eq_some_iff, Option.some.injEq, reduceCtorEq] at h
    · subst h; rfl
    · obtain ⟨_, _, rfl⟩ := h; rfl
    · obtain ⟨_, _, _, _, h⟩ := h
      split at h <;> simp at h
      subst h; rfl
  | fc t v => simp only [conc, Option.bind_eq_some_iff, Option.some.injEq] at h; obtain ⟨_, _, rfl⟩ := h; rfl
  | fn f a c => simp only [conc, Option.bind_eq_some_iff, Option.some.injEq] at h; obtain ⟨_, _, _, _, _, _, rfl⟩ := h; rfl
  | _ => simp only [conc, Option.some.injEq] at h; subst h; rfl
theorem cellsV_ok {ρ : Nm} {v : V} {u : Value} (h : conc ρ v = some u) : concL ρ (cellsV v) = some (cellsL u) := by
  have key : oneV v = true → concL ρ (cellsV v) = some (cellsL u) := by
    intro hv
    have h1 := one_ok h hv
    have e1 : cellsL u = [u] := by cases u <;> first | rfl | (simp [Value.oneCell'] at h1)
    have e2 : cellsV v = [v] := by cases v <;> first | rfl | (simp [oneV] at hv)
    rw [e1, e2]; simp [concL, h]
  cases v with
  | ag l =>
    simp only [conc, Option.bind_eq_some_iff, Option.some.injEq] at h
    obtain ⟨us, a, rfl⟩ := h
    simp [cellsV, cellsL, a]
  | tp l =>
    simp only [conc, Option.bind_eq_some_iff, Option.some.injEq] at h
    obtain ⟨us, a, rfl⟩ := h
    simp [cellsV, cellsL, concL, conc, a]
  | _ => exact key rfl
theorem nthL_ok {ρ : Nm} {l : List V} {us : List Value} {i : Nat} {v : V} (h : concL ρ l = some us) (g : nthL l i = some v) : ∃ u, nthL us i = some u ∧ conc ρ v = some u := by
  rw [nthL_eq] at g
  obtain ⟨u, a, b⟩ := concL_get h g
  exact ⟨u, by rw [nthL_eq]; exact a, b⟩
theorem partV_ok {ρ : Nm} : ∀ {o n : Nat} {l r : List V} {us : List Value}, concL ρ l = some us → partV o n l = some r → ∃ ws, partL o n us = some ws ∧ concL ρ r = some ws
  | 0, 0, l, r, us, h, g => by simp [partV] at g; subst g; exact ⟨[], by cases us <;> simp [partL, takeL], rfl⟩
  | 0, n + 1, [], r, us, h, g => by simp [partV] at g
  | 0, n + 1, v :: vs, r, us, h, g => by
    simp only [partV, Option.bind_eq_some_iff, Option.some.injEq] at g
    obtain ⟨r', a, rfl⟩ := g
    simp only [concL, Option.bind_eq_some_iff, Option.some.injEq] at h
    obtain ⟨u, b, us', c, rfl⟩ := h
    obtain ⟨ws, d, e⟩ := partV_ok c a
    exact ⟨u :: ws, by simp only [partL, takeL] at d ⊢; simp [d], by simp [concL, b, e]⟩
  | o + 1, n, [], r, us, h, g => by cases n <;> simp [partV] at g
  | o + 1, n, v :: vs, r, us, h, g => by
    simp only [partV] at g
    simp only [concL, Option.bind_eq_some_iff, Option.some.injEq] at h
    obtain ⟨u, b, us', c, rfl⟩ := h
    obtain ⟨ws, d, e⟩ := partV_ok c g
    exact ⟨ws, by simp [partL, d], e⟩
theorem layV_ok {ρ : Nm} : ∀ {cs : List V} {o : Nat} {vs r : List V} {us ws : List Value}, concL ρ cs = some us → concL ρ vs = some ws → layV cs o vs = some r → ∃ rs, layL us o ws = some rs ∧ concL ρ r = some rs ∧ (∀ u ∈ ws, u.oneCell' = true)
  | cs, 0, [], r, us, ws, h, g, e => by
    simp [concL] at g; subst g
    simp [layV] at e; subst e
    exact ⟨us, by simp [layL], h, fun u m => by cases m⟩
  | [], 0, v :: vs, r, us, ws, h, g, e => by simp [layV] at e
  | [], o + 1, vs, r, us, ws, h, g, e => by simp [layV] at e
  | c :: cs, 0, v :: vs, r, us, ws, h, g, e => by
    simp only [layV] at e
    cases ho : oneV v with
    | false => simp [ho] at e
    | true =>
      simp only [ho, cond_true, Option.bind_eq_some_iff, Option.some.injEq] at e
      obtain ⟨r', a, rfl⟩ := e
      simp only [concL, Option.bind_eq_some_iff, Option.some.injEq] at h g
      obtain ⟨u, b, us', c', rfl⟩ := h
      obtain ⟨w, d, ws', f, rfl⟩ := g
      obtain ⟨rs, x, y, z⟩ := layV_ok c' f a
      refine ⟨w :: rs, by simp [layL, x], by simp [concL, d, y], fun q m => ?_⟩
      cases m with
      | head => exact one_ok d ho
      | tail _ m => exact z q m
  | c :: cs, o + 1, vs, r, us, ws, h, g, e => by
    simp only [layV, Option.bind_eq_some_iff, Option.some.injEq] at e
    obtain ⟨r', a, rfl⟩ := e
    simp only [concL, Option.bind_eq_some_iff, Option.some.injEq] at h
    obtain ⟨u, b, us', c', rfl⟩ := h
    obtain ⟨rs, x, y, z⟩ := layV_ok c' g a
    exact ⟨u :: rs, by simp [layL, x], by simp [concL, b, y], z⟩
theorem bldV_ok {ρ : Nm} (pl : Nat → Option (Nat × Nat)) : ∀ {parts : List (Nat × V)} {ps : List (Nat × Value)} {cs r : List V} {us : List Value}, ps.map (·.1) = parts.map (·.1) → concL ρ (parts.map (·.2)) = some (ps.map (·.2)) →
    concL ρ cs = some us → bldV pl cs parts = some r → ∃ rs, bld pl us ps = some rs ∧ concL ρ r = some rs
  | [], ps, cs, r, us, h1, h2, h, g => by
    cases ps with
    | cons => simp at h1
    | nil => simp [bldV] at g; subst g; exact ⟨us, by simp [bld], h⟩
  | (i, v) :: parts, ps, cs, r, us, h1, h2, h, g => by
    cases ps with
    | nil => simp at h1
    | cons p ps =>
      obtain ⟨j, u⟩ := p
      simp only [List.map_cons, List.cons.injEq] at h1
      obtain ⟨rfl, h1⟩ := h1
      simp only [List.map_cons, concL, Option.bind_eq_some_iff, Option.some.injEq, List.cons.injEq] at h2
      obtain ⟨u', hu, us', hus, rfl, rfl⟩ := h2
      simp only [bldV, Option.bind_eq_some_iff] at g
      obtain ⟨⟨off, size⟩, hp, g⟩ := g
      cases hb : Nat.beq (cellsV v).length size with
      | false => simp [hb] at g
      | true =>
        simp only [hb, cond_true, Option.bind_eq_some_iff] at g
        obtain ⟨cs', hl, g⟩ := g
        have hc := cellsV_ok hu
        obtain ⟨rs, x, y, z⟩ := layV_ok h hc hl
        obtain ⟨rs', a, b⟩ := bldV_ok pl h1 hus y g
        have e : (cellsL u').length = (cellsV v).length := concL_len hc
        exact ⟨rs', by simp [bld, hp, e, hb, x, a], b⟩

theorem nthV_eq {α : Type} : ∀ (l : List α) (n : Nat), nthV l n = l[n]?
  | [], _ => by simp [nthV]
  | x :: _, 0 => by simp [nthV]
  | _ :: l, n + 1 => by simp [nthV, nthV_eq l n]
theorem nthV_ok {ρ : Nm} {l : List V} {us : List Value} {i : Nat} {v : V} (h : concL ρ l = some us) (g : nthV l i = some v) : ∃ u, us[i]? = some u ∧ conc ρ v = some u := by
  rw [nthV_eq] at g
  exact concL_get h g
theorem onesV_ok {ρ : Nm} : ∀ {l : List V} {us : List Value}, concL ρ l = some us → onesV l = true → ∀ u ∈ us, u.oneCell' = true
  | [], us, h, _ => by simp [concL] at h; subst h; intro u m; cases m
  | v :: vs, us, h, g => by
    simp only [concL, Option.bind_eq_some_iff, Option.some.injEq] at h
    obtain ⟨u, a, us', b, rfl⟩ := h
    cases ho : oneV v with
    | false => simp [onesV, ho] at g
    | true =>
      simp [onesV, ho] at g
      intro x m
      cases m with
      | head => exact one_ok a ho
      | tail _ m => exact onesV_ok b g x m
theorem repV_eq {α : Type} (z : List α) : ∀ (n : Nat) (acc : List α), repV n z acc = (List.replicate n z).flatten ++ acc
  | 0, acc => by simp [repV]
  | n + 1, acc => by
    rw [repV, repV_eq z n, List.replicate_succ', List.flatten_append]
    simp
theorem concL_flat {ρ : Nm} {z : List V} {us : List Value} (h : concL ρ z = some us) : ∀ n : Nat, concL ρ (List.replicate n z).flatten = some (List.replicate n us).flatten
  | 0 => rfl
  | n + 1 => by rw [List.replicate_succ, List.flatten_cons, List.replicate_succ, List.flatten_cons]; exact concL_append h (concL_flat h n)
theorem repV_ok {ρ : Nm} {z : List V} {us : List Value} (h : concL ρ z = some us) (n : Nat) : concL ρ (repV n z []) = some (List.replicate n us).flatten := by
  rw [repV_eq, List.append_nil]; exact concL_flat h n

/-! ### Numbers -/
theorem modK_eq (k : IntKind) : modK k = 2 ^ k.bits := by cases k <;> rfl
theorem blt_eq (x y : Nat) : Nat.blt x y = decide (x < y) := by rw [Bool.eq_iff_iff]; simp [Nat.blt_eq]
theorem wrap_lit (k : IntKind) (n : Int) : k.wrap n = if k.signed = true ∧ n % (modK k : Int) ≥ (halfK k : Int) then n % (modK k : Int) - (modK k : Int) else n % (modK k : Int) := by
  cases k <;> simp [IntKind.wrap, IntKind.signed, IntKind.bits, modK, halfK]
theorem half_mod (k : IntKind) : (k.signed = true ∧ modK k = 2 * halfK k ∧ 0 < halfK k) ∨ (k.signed = false ∧ halfK k = modK k ∧ 0 < modK k) := by
  cases k <;> simp [IntKind.signed, modK, halfK]
theorem ofBits_eq (k : IntKind) (m : Nat) (h : m < modK k) : ofBits k m = k.wrap m := by
  rw [wrap_lit, ofBits, blt_eq]
  have e : (m : Int) % (modK k : Int) = m := Int.emod_eq_of_lt (by omega) (by omega)
  have es : ∀ a b : Nat, Nat.sub a b = a - b := fun _ _ => rfl
  rw [e, es, es]
  by_cases hm : m < halfK k
  · simp only [hm, decide_true, cond_true]
    rw [if_neg (by omega)]; rfl
  · rcases half_mod k with ⟨a, b, c⟩ | ⟨a, b, c⟩
    · simp only [hm, decide_false, cond_false]
      rw [if_pos ⟨a, by omega⟩, Int.negSucc_eq]; omega
    · omega
theorem wrap_mod (k : IntKind) (n : Int) (m : Nat) (h : n % (modK k : Int) = m) : k.wrap n = k.wrap m := by
  have : (m : Int) % (modK k : Int) = n % (modK k : Int) := by rw [← h]; exact Int.emod_emod_of_dvd _ (Int.dvd_refl _)
  rw [wrap_lit, wrap_lit, this]
theorem neg_mod (k : IntKind) (m : Nat) : (Int.negSucc m) % (modK k : Int) = ((modK k - 1 - m % modK k : Nat) : Int) := by
  have hp : 0 < modK k := by cases k <;> simp [modK]
  have hl := Nat.mod_lt m hp
  rw [Int.negSucc_emod _ (by omega)]
  have e2 : ((m : Int)) % (modK k : Int) = ((m % modK k : Nat) : Int) := by simp
  rw [e2]; omega
theorem wrapV_eq (k : IntKind) (n : Int) : wrapV k n = k.wrap n := by
  have hp : 0 < modK k := by cases k <;> simp [modK]
  cases n with
  | ofNat m =>
    simp only [wrapV, blt_eq]
    have e : Nat.mod m (modK k) = m % modK k := rfl
    by_cases hm : m < halfK k
    · simp only [hm, decide_true, cond_true]
      have hlt : m < modK k := by rcases half_mod k with ⟨a, b, c⟩ | ⟨a, b, c⟩ <;> omega
      have := ofBits_eq k m hlt
      rw [ofBits, blt_eq, decide_eq_true hm, cond_true] at this
      exact this
    · simp only [hm, decide_false, cond_false, e]
      rw [ofBits_eq k _ (Nat.mod_lt _ hp)]
      exact (wrap_mod k _ _ (by simp)).symm
  | negSucc m =>
    have e : ∀ a b, Nat.mod a b = a % b := fun _ _ => rfl
    have es : ∀ a b : Nat, Nat.sub a b = a - b := fun _ _ => rfl
    simp only [wrapV, e, es]
    rw [ofBits_eq k _ (by omega)]
    exact (wrap_mod k _ _ (neg_mod k m)).symm
theorem bitN_eq (k : IntKind) (n : Int) : (bitN k n : Int) = n % (modK k : Int) := by
  cases n with
  | ofNat m =>
    simp only [bitN, blt_eq]
    have e : Nat.mod m (modK k) = m % modK k := rfl
    by_cases hm : m < halfK k
    · simp only [hm, decide_true, cond_true]
      have hlt : m < modK k := by rcases half_mod k with ⟨a, b, c⟩ | ⟨a, b, c⟩ <;> omega
      exact (Int.emod_eq_of_lt (by simp) (by simpa using (by omega : (m : Int) < (modK k : Int)))).symm
    · simp only [hm, decide_false, cond_false, e]; simp
  | negSucc m =>
    rw [neg_mod]
    rfl
theorem bitN_lt (k : IntKind) (n : Int) : bitN k n < modK k := by
  have hp : 0 < modK k := by cases k <;> simp [modK]
  have h1 := bitN_eq k n
  have h2 := Int.emod_lt_of_pos n (by omega : (0 : Int) < (modK k : Int))
  omega
theorem bitN_bv (k : IntKind) (n : Int) : (BitVec.ofInt k.bits n).toNat = bitN k n := by
  have h := bitN_eq k n
  rw [BitVec.toNat_ofInt, ← modK_eq]
  omega
theorem ltI_eq (a b : Int) : ltI a b = decide (a < b) := by
  rw [Bool.eq_iff_iff, decide_eq_true_eq]
  cases a <;> cases b <;> simp only [ltI, blt_eq, decide_eq_true_eq, Int.negSucc_eq, Int.ofNat_eq_natCast, Bool.false_eq_true, iff_true, iff_false, true_iff, false_iff] <;> omega
theorem eqI_eq (a b : Int) : eqI a b = (a == b) := by
  rw [Bool.eq_iff_iff, beq_iff_eq]
  cases a <;> cases b <;> simp only [eqI, beq_eq, decide_eq_true_eq, Int.negSucc_eq, Int.ofNat_eq_natCast, Bool.false_eq_true, iff_true, iff_false, true_iff, false_iff] <;> omega

def binI (op : BinOp) (k : IntKind) (a b : Int) : Option Int :=
  match op with
  | .add => some (k.wrap (a + b))
  | .sub => some (k.wrap (a - b))
  | .mul => some (k.wrap (a * b))
  | .quo => if b = 0 then none else some (k.wrap (a.tdiv b))
  | .rem => if b = 0 then none else some (a.tmod b)
  | .and => some (k.wrap (BitVec.ofInt k.bits a &&& BitVec.ofInt k.bits b).toNat)
  | .or => some (k.wrap (BitVec.ofInt k.bits a ||| BitVec.ofInt k.bits b).toNat)
  | .xor => some (k.wrap (BitVec.ofInt k.bits a ^^^ BitVec.ofInt k.bits b).toNat)
  | .andNot => some (k.wrap (BitVec.ofInt k.bits a &&& ~~~ (BitVec.ofInt k.bits b)).toNat)
  | _ => none

/-- Comparisons. -/
def cmpI (op : BinOp) (a b : Int) : Option Bool :=
  match op with
  | .eql => some (a == b) | .neq => some (a != b) | .lss => some (decide (a < b)) | .leq => some (decide (a ≤ b)) | .gtr => some (decide (a > b)) | .geq => some (decide (a ≥ b))
  | _ => none
def cmpT (op : BinOp) (a b : ByteArray) : Option Bool :=
  match op with
  | .eql => some (a.toList == b.toList) | .neq => some (!(a.toList == b.toList)) | .lss => some (Op.bytesLess a.toList b.toList)
  | .leq => some (Op.bytesLess a.toList b.toList || a.toList == b.toList) | .gtr => some (!(Op.bytesLess a.toList b.toList || a.toList == b.toList)) | .geq => some (!(Op.bytesLess a.toList b.toList))
  | _ => none
/-- Arithmetic. -/
theorem binI_ok {op : BinOp} {k : IntKind} {a b : Int} {v : V} (h : arith op k a b = some v) :
    (∃ r, v = .i k r ∧ binI op k a b = some r) ∨ (∃ r, v = .b r ∧ cmpI op a b = some r) := by
  have hk : k.bits = k.bits := rfl
  have hb := fun n => bitN_bv k n
  have hlt := fun n => bitN_lt k n
  have e1 : ∀ a b, Nat.land a b = a &&& b := fun _ _ => rfl
  have e2 : ∀ a b, Nat.lor a b = a ||| b := fun _ _ => rfl
  have e3 : ∀ a b, Nat.xor a b = a ^^^ b := fun _ _ => rfl
  have es : ∀ a b : Nat, Nat.sub a b = a - b := fun _ _ => rfl
  cases op <;> simp only [arith, reduceCtorEq, Option.some.injEq] at h
  case add => subst h; left; exact ⟨_, rfl, by rw [wrapV_eq]; rfl⟩
  case sub => subst h; left; exact ⟨_, rfl, by rw [wrapV_eq]; rfl⟩
  case mul => subst h; left; exact ⟨_, rfl, by rw [wrapV_eq]; rfl⟩
  case quo =>
    left
    rw [eqI_eq] at h
    by_cases h0 : b = 0
    · subst h0; simp at h
    · have : (b == Int.ofNat 0) = false := by simpa using h0
      simp only [this, cond_false, Option.some.injEq] at h; subst h
      exact ⟨_, rfl, by simp [binI, h0, wrapV_eq]⟩
  case rem =>
    left
    rw [eqI_eq] at h
    by_cases h0 : b = 0
    · subst h0; simp at h
    · have : (b == Int.ofNat 0) = false := by simpa using h0
      simp only [this, cond_false, Option.some.injEq] at h; subst h
      exact ⟨_, rfl, by simp [binI, h0]⟩
  case and =>
    subst h; left
    refine ⟨_, rfl, ?_⟩
    rw [e1, ofBits_eq k _ (Nat.lt_of_le_of_lt Nat.and_le_left (hlt a))]
    simp [binI, hb]
  case or =>
    subst h; left
    refine ⟨_, rfl, ?_⟩
    rw [e2, ofBits_eq k _ (by rw [modK_eq]; exact Nat.or_lt_two_pow (by rw [← modK_eq]; exact hlt a) (by rw [← modK_eq]; exact hlt b))]
    simp [binI, hb]
  case xor =>
    subst h; left
    refine ⟨_, rfl, ?_⟩
    rw [e3, ofBits_eq k _ (by rw [modK_eq]; exact Nat.xor_lt_two_pow (by rw [← modK_eq]; exact hlt a) (by rw [← modK_eq]; exact hlt b))]
    simp [binI, hb]
  case andNot =>
    subst h; left
    refine ⟨_, rfl, ?_⟩
    rw [e1, e3, es, ofBits_eq k _ (Nat.lt_of_le_of_lt Nat.and_le_left (hlt a))]
    have hx : bitN k b ^^^ (modK k - 1) = (~~~ (BitVec.ofInt k.bits b)).toNat := by
      rw [← BitVec.xor_allOnes, BitVec.toNat_xor, hb, BitVec.toNat_allOnes, modK_eq]
    simp only [binI, BitVec.toNat_and, hb, hx]
  all_goals (subst h; right; refine ⟨_, rfl, ?_⟩; simp only [cmpI, ltI_eq, eqI_eq, Option.some.injEq])
  all_goals first | rfl | (rw [Bool.eq_iff_iff]; simp) | skip

/-- Strings. -/
theorem eqBs_eq : ∀ (a b : List UInt8), eqBs a b = (a == b)
  | [], [] => rfl
  | [], _ :: _ => rfl
  | _ :: _, [] => rfl
  | a :: as, b :: bs => by
    have h : (Nat.beq a.toNat b.toNat) = (a == b) := by
      rw [beq_eq, Bool.eq_iff_iff]; simp [UInt8.toNat_inj]
    simp only [eqBs, h, eqBs_eq as bs]
    cases hh : a == b <;> simp [List.cons_beq_cons, hh]
theorem lessB_eq : ∀ (a b : List UInt8), lessB a b = Op.bytesLess a b
  | [], [] => rfl
  | [], _ :: _ => rfl
  | _ :: _, [] => rfl
  | a :: as, b :: bs => by
    simp only [lessB, Op.bytesLess, blt_eq, lessB_eq as bs]
    have h1 : (decide (a < b)) = decide (a.toNat < b.toNat) := by rw [Bool.eq_iff_iff]; simp [UInt8.lt_iff_toNat_lt]
    have h3 : (a == b) = decide (a.toNat = b.toNat) := by rw [Bool.eq_iff_iff]; simp [UInt8.toNat_inj]
    rw [h1, h3]
    rcases Nat.lt_trichotomy a.toNat b.toNat with h | h | h
    · simp [h]
    · simp [h]
    · have e1 : ¬ a.toNat < b.toNat := by omega
      have e2 : ¬ a.toNat = b.toNat := by omega
      simp [h, e1, e2]
end Go.Lx
