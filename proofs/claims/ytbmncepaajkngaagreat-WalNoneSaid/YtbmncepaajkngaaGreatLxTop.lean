/- From the runner to the kit's words; tables. -/
import Derived.Test.YtbmncepaajkngaaGreatLxSound
namespace Go.Lx
set_option linter.unusedSimpArgs false
set_option linter.unusedVariables false

/-! ### Tables -/
def TAll {α : Type} (Q : Nat → α → Prop) : (P8 → Nat) → T α → Prop
  | _, .nil => True
  | k, .nd v a b c d e f g h => (∀ x, v = some x → Q (k .z) x) ∧ TAll Q (fun n => k (.d0 n)) a ∧ TAll Q (fun n => k (.d1 n)) b ∧ TAll Q (fun n => k (.d2 n)) c ∧ TAll Q (fun n => k (.d3 n)) d ∧ TAll Q (fun n => k (.d4 n)) e ∧ TAll Q (fun n => k (.d5 n)) f ∧ TAll Q (fun n => k (.d6 n)) g ∧ TAll Q (fun n => k (.d7 n)) h
theorem okS {α : Type} {Q : Nat → α → Prop} {n : Nat} {a : α} (h : Q n a) : ∀ x, some a = some x → Q n x := fun x e => by cases e; exact h
theorem okN {α : Type} {Q : Nat → α → Prop} {n : Nat} : ∀ x, (none : Option α) = some x → Q n x := fun x e => by cases e
theorem TAll.getP {α : Type} {Q : Nat → α → Prop} : ∀ {t : T α} {k : P8 → Nat}, TAll Q k t → ∀ p x, Go.Lx.getP p t = some x → Q (k p) x
  | .nil, k, h, p, x, e => by rw [getP_nil] at e; cases e
  | .nd .., k, h, .z, x, e => h.1 x e
  | .nd .., k, h, .d0 p, x, e => TAll.getP h.2.1 p x e
  | .nd .., k, h, .d1 p, x, e => TAll.getP h.2.2.1 p x e
  | .nd .., k, h, .d2 p, x, e => TAll.getP h.2.2.2.1 p x e
  | .nd .., k, h, .d3 p, x, e => TAll.getP h.2.2.2.2.1 p x e
  | .nd .., k, h, .d4 p, x, e => TAll.getP h.2.2.2.2.2.1 p x e
  | .nd .., k, h, .d5 p, x, e => TAll.getP h.2.2.2.2.2.2.1 p x e
  | .nd .., k, h, .d6 p, x, e => TAll.getP h.2.2.2.2.2.2.2.1 p x e
  | .nd .., k, h, .d7 p, x, e => TAll.getP h.2.2.2.2.2.2.2.2 p x e
theorem TAll.get {α : Type} {Q : Nat → α → Prop} {t : T α} (h : TAll Q dec t) (n : Nat) (x : α) (e : t.get n = some x) : Q n x := by
  have := TAll.getP h _ _ e
  rwa [dec_pth] at this

def FnOK (P : Program) (f : Nat) (x : Fn') : Prop := ∃ fn c, P.funcs[f]? = some fn ∧ fn.body = some c ∧ resolveC drawSegs P fn.ntmps c = some x.rc ∧ fn.ntmps = x.n ∧ resolveR P fn.results.toList = some x.res ∧ hasBody P f = true
def XfOK (P : Program) (f : Nat) (x : Xf) : Prop := ∀ (a : Array Value) (w : World), (callFunc f a).run P w = (vv (xsem x a)).run P w

theorem xf_of {P : Program} {f : Nat} {x : Xf} {fn : Func} (hf : P.funcs[f]? = some fn) (h1 : (fn.name == "runtime.NumGoroutine") = false) (h2 : fn.body.isNone = true) (h3 : (Extern.findNext fn).isNone = true) (h4 : Extern.find fn = some (xsem x)) : XfOK P f x := by
  intro a w
  have h3' : Extern.findNext fn = none := by simpa using h3
  have hp : ∀ w, (program).run P w = .ok P w := fun _ => rfl
  simp only [callFunc, Sem.run_bind, hp, Result.andThen_ok, hf, h1, h2, Bool.false_eq_true, if_false, if_true, h3', h4]
  simp [vv, mark, Sem.run]
theorem xf_mark {P : Program} {f : Nat} {x : Xf} {fn : Func} {row : Array Value → Sem Value} (hf : P.funcs[f]? = some fn) (h1 : (fn.name == "runtime.NumGoroutine") = false) (h2 : fn.body.isNone = true) (h3 : (Extern.findNext fn).isNone = true) (h4 : Extern.find fn = some row)
    (h5 : ∀ a w, (row a).run P w = (xsem x a).run P w) : XfOK P f x := by
  intro a w
  have h3' : Extern.findNext fn = none := by simpa using h3
  have hp : ∀ w, (program).run P w = .ok P w := fun _ => rfl
  simp only [callFunc, Sem.run_bind, hp, Result.andThen_ok, hf, h1, h2, Bool.false_eq_true, if_false, if_true, h3', h4, vv, ← h5]
  simp [mark, Sem.run]

theorem xf_nop {P : Program} {f : Nat} {fn : Func} {m : Mark} (hf : P.funcs[f]? = some fn) (h1 : (fn.name == "runtime.NumGoroutine") = false) (h2 : fn.body.isNone = true) (h3 : (Extern.findNext fn).isNone = true) (h4 : Extern.find fn = some (fun _ => do mark m; pure Extern.Race.none_)) : XfOK P f .nop :=
  xf_mark hf h1 h2 h3 h4 fun a w => by simp [xsem, mark, Sem.run, Extern.Race.none_]
theorem xf_mrk {P : Program} {f : Nat} {fn : Func} {m : Addr → Mark} (hf : P.funcs[f]? = some fn) (h1 : (fn.name == "runtime.NumGoroutine") = false) (h2 : fn.body.isNone = true) (h3 : (Extern.findNext fn).isNone = true) (h4 : Extern.find fn = some (Extern.Race.marked m)) : XfOK P f .mrk :=
  xf_mark hf h1 h2 h3 h4 fun a w => by
    simp only [xsem, Extern.Race.marked, Sem.run_bind]
    cases h : (Extern.Race.at_ a).run P w <;> simp [mark, Sem.run, Extern.Race.none_]

/-! ### The kit's words -/
theorem calls_run {P : Program} {G : Pg} {F : Know} (hG : PgOK drawSegs P G) {ρ : Nm} {s s' : St} {L : Hp} {w : World} {f n : Nat} {args : List V} {us : List Value} {v : V} {rec : Bool} (ha : concL ρ args = some us) (hh : HR drawSegs P ρ s F L) (hs : Sat w F (L :: [])) (hF : Know.of w ≤ F)
    (hrun : enterV G (run G n) f none args s = .ret v rec s') :
    Calls P f us.toArray w fun e w' => ∃ u ρ' L', e = .returned u ∧ conc ρ' v = some u ∧ Went drawSegs P ρ ρ' s s' F L' [] w' ∧ Go.RowKit.Below w.heap.size w w' := by
  intro cs
  have hent0 : ∀ a b, enterV G (run G n) f none args s ≠ .bad a b := fun a b e => by rw [hrun] at e; cases e
  obtain ⟨e, fx, fn, cd, tmps, f0, f1, f3, f4, hent, hen, hsz, ht⟩ := enter_ok hG ha hent0 .normal
  have hS := sound (P := P) (F := F) hG n
  let Ψ : Machine → Prop := fun m => ∃ u ρ' L' w' tmps' todo, m = lone { (Sh.mk f fn.ntmps .normal none).fr tmps' todo [] with mode := .returning } cs w' ∧ (results fn tmps').run P w' = .ok u w' ∧ conc ρ' v = some u ∧ Went drawSegs P ρ ρ' s s' F L' [] w'
  have hfin : Fin P F Ψ [] none ⟨f, fn.ntmps, .normal, none⟩ ρ s cs (run G n f none none [] [.code fx.rc] e s (.op [])) := by
    rw [← hent, hrun]
    intro ρ' L' w' tmps' todo base' u fn' pv' hw hc hfn hr hb hbo _
    obtain rfl := hb.run
    have : fn' = fn := by simp only at hfn; rw [f1] at hfn; cases hfn; rfl
    subst this
    exact ⟨u, ρ', L', w', tmps', todo, rfl, hr, hc, hw⟩
  have hev := (hS.at (sh := ⟨f, fn.ntmps, .normal, none⟩) ⟨⟨rfl, ⟨fn, f1, rfl⟩, .inl ⟨rfl, rfl⟩⟩, rfl, fun hn => absurd rfl hn, .nil, hh⟩ hfin).2 rfl w tmps _ hs hsz ht (.cons (.code f3) .nil)
  obtain ⟨m', st, u, ρ', L', w', tmps', todo, rfl, hr, hc, hw⟩ := hev
  refine ⟨.returned u, w', { (Sh.mk f fn.ntmps .normal none).fr tmps' todo [] with mode := .returning }, ⟨u, ρ', L', rfl, hc, hw, hw.sat.below hF⟩, ?_, rfl, rfl, rfl, rfl, fn, f1, hr⟩
  rw [hen]
  exact st

/-- The answer true. -/
def isT : RR → Bool
  | .ret (.b true) _ _ => true
  | _ => false
theorem isT_ok {r : RR} (h : isT r = true) : ∃ rec s', r = .ret (.b true) rec s' := by
  unfold isT at h
  split at h
  · exact ⟨_, _, rfl⟩
  · cases h

/-- Nothing is named. -/
def nm0 : Nm := ⟨fun _ => none, []⟩
noncomputable def st0 : St := ⟨.nil, 0, 0⟩
theorem hr0 {P : Program} {F : Know} : HR drawSegs P nm0 st0 F [] := ⟨fun b x g => by simp [st0, T.get_nil] at g, fun b b' x x' i g => by simp [st0, T.get_nil] at g, fun _ _ => rfl, rfl⟩
theorem sat0 (w : World) : Sat w (Know.of w) ([] :: []) := (Sat.of w).perm (by simp)
/-- A run that begins with nothing. -/
theorem calls_run0 {P : Program} {G : Pg} (hG : PgOK drawSegs P G) {s' : St} {w : World} {f n : Nat} {args : List V} {us : List Value} {v : V} {rec : Bool} (ha : concL nm0 args = some us) (hrun : enterV G (run G n) f none args st0 = .ret v rec s') :
    Calls P f us.toArray w fun e w' => ∃ u ρ', e = .returned u ∧ conc ρ' v = some u ∧ Go.RowKit.Below w.heap.size w w' :=
  (calls_run hG ha hr0 (sat0 w) (Know.le_refl _) hrun).mono fun e w' ⟨u, ρ', L', h1, h2, _, h4⟩ => ⟨u, ρ', h1, h2, h4⟩
/-- A law without what it looks into: true. -/
theorem calls_true {P : Program} {G : Pg} (hG : PgOK drawSegs P G) {f n : Nat} {args : List V} {us : List Value} (ha : concL nm0 args = some us) (h : isT (enterV G (run G n) f none args st0) = true) (w : World) :
    Calls P f us.toArray w fun e w' => e = .returned (.bool true) ∧ Go.RowKit.Below w.heap.size w w' := by
  obtain ⟨rec, s', hr⟩ := isT_ok h
  refine (calls_run0 hG ha hr).mono fun e w' ⟨u, ρ', h1, h2, h3⟩ => ⟨?_, h3⟩
  simp only [conc, Option.some.injEq] at h2
  rw [h1, ← h2]
end Go.Lx
