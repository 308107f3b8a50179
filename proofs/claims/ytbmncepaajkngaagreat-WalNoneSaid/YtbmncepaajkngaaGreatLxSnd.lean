/- The runner does what the machine does: situations, calls. -/
import Derived.Test.YtbmncepaajkngaaGreatLxSteps
namespace Go.Lx
set_option linter.unusedSimpArgs false
set_option linter.unusedVariables false

noncomputable def putT (e : Lx.T V) (d : Option Nat) (v : V) : T V := match d with | none => e | some d => e.set d (some v)
theorem nxOp_eq (ih : RunT) (f : Nat) (rnd : Option Nat) (pv : Option V) (ds : List Dt) (k : List RI) (e : Lx.T V) (d : Option Nat) (gs : List GOp) (v : V) (s : St) : nxOp ih f rnd pv ds k e d gs v s = ih f rnd pv ds k (putT e d v) s (.op gs) := by
  simp only [nxOp, putKe_eq]; rfl
theorem TmR.put {ρ : Nm} {e : Lx.T V} {tmps : Array Value} (h : TmR ρ e tmps) {d : Option Nat} (hd : ∀ x, d = some x → x < tmps.size) {v : V} {u : Value} (c : conc ρ v = some u) : TmR ρ (putT e d v) (Lx.put tmps d u) := by
  cases d with
  | none => exact h
  | some d => exact h.set (hd d rfl) c
theorem size_put (tmps : Array Value) (d : Option Nat) (v : Value) : (put tmps d v).size = tmps.size := by cases d <;> simp [put]
theorem argK_get {β : Type} : ∀ (vs : List V) (t : T V) (i : Nat) (k : Lx.T V → β), ∃ e, argK t i vs k = k e ∧ ∀ j v, e.get j = some v → (i ≤ j ∧ vs[j - i]? = some v) ∨ t.get j = some v
  | [], t, i, k => ⟨t, rfl, fun j v h => .inr h⟩
  | x :: vs, t, i, k => by
    simp only [argK, Lx.T.setK_eq]
    obtain ⟨e, h1, h2⟩ := argK_get vs (t.set i (some x)) (Nat.succ i) k
    refine ⟨e, h1, fun j v h => ?_⟩
    rcases h2 j v h with ⟨a, b⟩ | a
    · left; refine ⟨by omega, ?_⟩
      rw [show j - i = (j - Nat.succ i) + 1 by omega]; simpa using b
    · rw [Lx.T.get_set] at a
      split at a
      · rename_i e2; subst e2; left; simpa using a
      · exact .inr a

/-- Whose frame it is. -/
structure FrOK (P : Program) (ρ : Nm) (f : Nat) (rnd : Option Nat) (sh : Sh) : Prop where
  fn : sh.fn = f
  n : ∃ fn, P.funcs[f]? = some fn ∧ fn.ntmps = sh.n
  rnd : (rnd = none ∧ sh.roundOf = none) ∨ ∃ l id, rnd = some l ∧ ρ.ids l = some id ∧ sh.roundOf = some id ∧ sh.kind = .normal

def BaseOK (ρ : Nm) (kind : CallKind) (pv : Option V) (base : List Frame) : Prop :=
  match kind with
  | .normal => pv = none
  | .deferred => ∃ c cs, base = c :: cs ∧ (match pv with
      | some v => ∃ u, conc ρ v = some u ∧ c.mode = .panicking [{ v := u, recovered := false }]
      | none => c.mode = .returning ∨ ∃ u, c.mode = .panicking [{ v := u, recovered := true }])
  | _ => False
theorem BaseOK.mono {ρ ρ' : Nm} (k : ρ ≤ ρ') {kind : CallKind} {pv : Option V} {base : List Frame} (h : BaseOK ρ kind pv base) : BaseOK ρ' kind pv base := by
  cases kind <;> simp only [BaseOK] at h ⊢ <;> try exact h
  obtain ⟨c, cs, e, h⟩ := h
  refine ⟨c, cs, e, ?_⟩
  cases pv with
  | none => exact h
  | some v => obtain ⟨u, a, b⟩ := h; exact ⟨u, conc_mono k _ a, b⟩

/-- How callers may have been changed. -/
def BaseTo (kind : CallKind) (base base' : List Frame) : Prop := base' = base ∨ kind = .deferred ∧ ∃ c cs u, base = c :: cs ∧ c.mode = .panicking [{ v := u, recovered := false }] ∧ base' = { c with mode := .panicking [{ v := u, recovered := true }] } :: cs
theorem BaseTo.refl (kd : CallKind) (b : List Frame) : BaseTo kd b b := .inl rfl
theorem BaseTo.trans {kd : CallKind} {a b c : List Frame} (h : BaseTo kd a b) (k : BaseTo kd b c) : BaseTo kd a c := by
  rcases k with rfl | ⟨hk, x, xs, u, rfl, hx, rfl⟩
  · exact h
  · rcases h with h | ⟨_, y, ys, u', rfl, hy, h⟩
    · subst h; exact .inr ⟨hk, x, xs, u, rfl, hx, rfl⟩
    · simp only [List.cons.injEq] at h
      obtain ⟨rfl, rfl⟩ := h
      simp at hx
theorem BaseTo.run {b base' : List Frame} (h : BaseTo .normal b base') : base' = b := by
  rcases h with h | ⟨h, _⟩
  · exact h
  · cases h

section
variable (P : Program) (F : Know)

/-- What is asked of a run's end. -/
def Fin (Φ : Machine → Prop) (T : SH) (rnd : Option Nat) (sh : Sh) (ρ : Nm) (s : St) (base : List Frame) : RR → Prop
  | .bad _ _ => False
  | .ret v rec s' => match rnd with
    | none => ∀ ρ' L' w' tmps todo base' u fn pv', Went drawSegs P ρ ρ' s s' F L' T w' → conc ρ' v = some u → P.funcs[sh.fn]? = some fn → (results fn tmps).run P w' = .ok u w' → BaseTo sh.kind base base' → BaseOK ρ' sh.kind pv' base' → rec = pv'.isNone →
        Φ (lone { sh.fr tmps todo [] with mode := .returning } base' w')
    | some _ => ∀ ρ' L' w' u c cs, Went drawSegs P ρ ρ' s s' F L' T w' → conc ρ' v = some u → base = c :: cs → Φ (lone (c.finish u) cs w')
  | .pan v s' => ∀ ρ' L' w' tmps todo base' u, Went drawSegs P ρ ρ' s s' F L' T w' → conc ρ' v = some u → BaseTo sh.kind base base' → Φ (lone { sh.fr tmps todo [] with mode := .panicking [{ v := u, recovered := false }] } base' w')

/-- A frame's situation. -/
structure Sit (f : Nat) (rnd : Option Nat) (pv : Option V) (ds : List Dt) (sh : Sh) (base : List Frame) (dss : List Deferred) (ρ : Nm) (s : St) (L : Hp) : Prop where
  fr : FrOK P ρ f rnd sh
  bs : BaseOK ρ sh.kind pv base
  nods : rnd ≠ none → ds = [] ∧ pv = none ∧ ∃ c cs, base = c :: cs
  dts : DtsOK P ρ ds dss
  hr : HR drawSegs P ρ s F L

/-- An operation of an open region that was reckoned and is still to be carried out. -/
inductive PdK where
  | skip
  | q (q : VE → St → Option V) (v : V)
  | a (s0 : St) (v : V) (x : E)
structure Pd where
  i : Nat
  g : GOp
  e : T V
  k : PdK
def Pd.val (p : Pd) : V := match p.k with | .skip => undV | .q _ v => v | .a _ v _ => v

/-- Blocks that are there and have no name's entry yet. -/
inductive UnR (ρ : Nm) : List (Nat × Nat × E) → Hp → Prop
  | nil : UnR ρ [] []
  | pend {i nm : Nat} {x : E} {un : List (Nat × Nat × E)} {U : Hp} : ρ.ids nm = none → UnR ρ un U → UnR ρ ((i, nm, x) :: un) U
  | done {i nm id : Nat} {x : E} {o : Obj} {un : List (Nat × Nat × E)} {U : Hp} : ρ.ids nm = some id → x.fz = false → EOK drawSegs P ρ x o → UnR ρ un U → UnR ρ ((i, nm, x) :: un) ((id, o) :: U)

def KdOK (G : Pg) (ρ : Nm) (s : St) (x : Dr) (i : Nat) (g : GOp) (e : T V) : PdK → Prop
  | .skip => guardV e g.g = some false
  | .q q v => guardV e g.g = some true ∧ actV G.hb G.xf G.me g.r = .q q ∧ q (evV e) s = some v ∧ (memB g.r = true → ∃ y ∈ x.pe, y.i = i ∧ y.q = q ∧ y.e = e ∧ y.v = v)
  | .a s0 v y => guardV e g.g = some true ∧ (∃ a, actV G.hb G.xf G.me g.r = .a a ∧ a (evV e) s0 = some (v, y)) ∧ ρ.ids s0.nb = none ∧ (i, s0.nb, y) ∈ x.un

structure PdOK (G : Pg) (sh : Sh) (opsA : Array Oper) (ρ : Nm) (s : St) (e : T V) (x : Dr) (p : Pd) : Prop where
  op : ∃ o, GOK P sh.n opsA p.i p.g o ∧ chkOp o p.g = true ∧ ∀ t ∈ rd o p.g, e.get t = p.e.get t
  val : ∀ d, p.g.d = some d → e.get d = some p.val
  kd : KdOK G ρ s x p.i p.g p.e p.k

/-- The situation within an open region. -/
structure DrI (lo : Nat) (G : Pg) (sh : Sh) (opsA : Array Oper) (m : List Nat) (eff : Nat → Bool) (sg : Nat → Nat) (ρ : Nm) (s : St) (e : Lx.T V) (x : Dr) (ops : List DOp) (pd : List Pd) (sn : Nat) (listed : Array Bool) (U : Hp) : Prop where
  reg : RegOK P sh opsA m sg
  inv : Inv P sh opsA m eff sg listed (pd.map (·.i)) ops x.segs sn
  pds : ∀ p ∈ pd, PdOK P G sh opsA ρ s e x p
  un : UnR P ρ x.un U
  nms : (x.un.map (·.2.1)).Nodup
  lt : ∀ y ∈ x.un, y.2.1 < s.nb
  ge : ∀ y ∈ x.un, lo ≤ y.2.1
  pend : ∀ y ∈ x.un, ρ.ids y.2.1 = none → ∃ p ∈ pd, p.i = y.1 ∧ ∃ s1 v, p.k = .a s1 v y.2.2 ∧ s1.nb = y.2.1

/-- What is known of the temporaries within an open region. -/
def NpR (ρ : Nm) (e : Lx.T V) (tmps : Array Value) (pd : List Pd) : Prop := ∀ t v, e.get t = some v → (∀ p ∈ pd, p.g.d ≠ some t) → ∃ u, tmps[t]? = some u ∧ conc ρ v = some u

/-- What is to be shown of a run. -/
def CL (lo : Nat) (G : Pg) (Φ : Machine → Prop) (T : SH) (k : List RI) (e : Lx.T V) (sh : Sh) (base : List Frame) (dss : List Deferred) (ρ : Nm) (s : St) (L : Hp) : Md → Prop
  | .op ops => (∀ w tmps items opsA idxs, Sat w F (L :: T) → tmps.size = sh.n → TmR ρ e tmps → ItsOK drawSegs P sh.n k items → OpsOK P sh.n opsA idxs ops → Ev P Φ (lone (sh.fr tmps (.inRegion opsA idxs :: items) dss) base w)) ∧
      (ops = [] → ∀ w tmps items, Sat w F (L :: T) → tmps.size = sh.n → TmR ρ e tmps → ItsOK drawSegs P sh.n k items → Ev P Φ (lone (sh.fr tmps items dss) base w))
  | .dr ops x => ∀ opsA m eff sg fuel pd sn listed t U w tmps items, DrI P lo G sh opsA m eff sg ρ s e x ops pd sn listed U → (idxs (pd.map (·.i)) ops x.segs).length ≤ fuel → Sat w F (L :: U :: T) → tmps.size = sh.n → NpR ρ e tmps pd → ItsOK drawSegs P sh.n k items →
      Ev P Φ (lone (sh.fr tmps (.inRegion opsA (Region.linearise.go .any opsA fuel t listed []) :: items) dss) base w)
  | .ret => ∀ w tmps todo, Sat w F (L :: T) → tmps.size = sh.n → TmR ρ e tmps → Ev P Φ (lone { sh.fr tmps todo dss with mode := .returning } base w)
  | .pan v => ∀ w tmps todo u, Sat w F (L :: T) → tmps.size = sh.n → TmR ρ e tmps → conc ρ v = some u → Ev P Φ (lone { sh.fr tmps todo dss with mode := .panicking [{ v := u, recovered := false }] } base w)

/-- From an earlier situation on. -/
structure Bey (ρ0 : Nm) (s0 : St) (ρ : Nm) (s : St) : Prop where
  le : ρ0 ≤ ρ
  same : ∀ b, b < s0.nb → ρ.ids b = ρ0.ids b
  nb : s0.nb ≤ s.nb

def Sound (G : Pg) (n : Nat) : Prop := ∀ f rnd pv ds k e s md sh base dss ρ L T Φ ρ0 s0, Bey ρ0 s0 ρ s → Sit P F f rnd pv ds sh base dss ρ s L → Fin P F Φ T rnd sh ρ0 s0 base (run G n f rnd pv ds k e s md) → CL P F s0.nb G Φ T k e sh base dss ρ s L md
end

section
variable {P : Program} {F : Know} {G : Pg} {Φ : Machine → Prop} {T : SH} {rnd : Option Nat} {sh : Sh} {ρ ρ1 : Nm} {s s1 : St} {base : List Frame} {f : Nat} {pv : Option V} {ds : List Dt} {dss : List Deferred} {L L1 : Hp} {w : World}

theorem Bey.refl (ρ : Nm) (s : St) : Bey ρ s ρ s := ⟨Nm.le_refl ρ, fun _ _ => rfl, Nat.le_refl _⟩
theorem Sound.at {n : Nat} (hS : Sound P F G n) {k : List RI} {e : Lx.T V} {md : Md} (st : Sit P F f rnd pv ds sh base dss ρ s L) (hfin : Fin P F Φ T rnd sh ρ s base (run G n f rnd pv ds k e s md)) : CL P F s.nb G Φ T k e sh base dss ρ s L md :=
  hS _ _ _ _ _ _ _ _ _ _ _ _ _ _ _ _ _ (.refl ρ s) st hfin

theorem Fin.went {w1 : World} {r : RR} (h : Fin P F Φ T rnd sh ρ s base r) (k : Went drawSegs P ρ ρ1 s s1 F L1 T w1) : Fin P F Φ T rnd sh ρ1 s1 base r := by
  cases r with
  | bad a b => exact h
  | ret v rec s' =>
    cases rnd with
    | none => exact fun ρ' L' w' tmps todo base' u fn pv' a => h ρ' L' w' tmps todo base' u fn pv' (k.trans a)
    | some l => exact fun ρ' L' w' u c cs a => h ρ' L' w' u c cs (k.trans a)
  | pan v s' => exact fun ρ' L' w' tmps todo base' u a => h ρ' L' w' tmps todo base' u (k.trans a)
theorem Fin.to {base1 : List Frame} {r : RR} (h : Fin P F Φ T none sh ρ s base r) (k : BaseTo sh.kind base base1) : Fin P F Φ T none sh ρ s base1 r := by
  cases r with
  | bad a b => exact h
  | ret v rec s' => exact fun ρ' L' w' tmps todo base' u fn pv' a b c d e => h ρ' L' w' tmps todo base' u fn pv' a b c d (k.trans e)
  | pan v s' => exact fun ρ' L' w' tmps todo base' u a b c => h ρ' L' w' tmps todo base' u a b (k.trans c)

theorem FrOK.mono {ρ ρ' : Nm} (h : FrOK P ρ f rnd sh) (k : ρ ≤ ρ') : FrOK P ρ' f rnd sh :=
  ⟨h.fn, h.n, by
    rcases h.rnd with h | ⟨l, id, a, b, c, d⟩
    · exact .inl h
    · exact .inr ⟨l, id, a, k.1 _ _ b, c, d⟩⟩
theorem Sit.went {w1 : World} (h : Sit P F f rnd pv ds sh base dss ρ s L) (k : Went drawSegs P ρ ρ1 s s1 F L1 T w1) : Sit P F f rnd pv ds sh base dss ρ1 s1 L1 :=
  ⟨h.fr.mono k.le, h.bs.mono k.le, h.nods, h.dts.mono k.le, k.hr⟩

theorem Ev.flat {m : Machine} (h : Ev P (Ev P Φ) m) : Ev P Φ m := let ⟨_, s, p⟩ := h; .steps s p

theorem concL_getElem {ρ : Nm} {l : List V} {us : List Value} (h : concL ρ l = some us) {i : Nat} {v : V} (e : l[i]? = some v) : ∃ u, us[i]? = some u ∧ conc ρ v = some u := concL_get h e

/-- How a function is entered. -/
theorem enter_ok {n : Nat} (hG : PgOK drawSegs P G) {g : Nat} {args : List V} {us : List Value} (ha : concL ρ args = some us) {pv : Option V} (h0 : ∀ a b, enterV G (run G n) g pv args s ≠ .bad a b) (kind : CallKind) :
    ∃ e fx fn cd tmps, G.fn g = some fx ∧ P.funcs[g]? = some fn ∧ resolveC drawSegs P fn.ntmps cd = some fx.rc ∧ resolveR P fn.results.toList = some fx.res ∧ enterV G (run G n) g pv args s = run G n g none pv [] [.code fx.rc] e s (.op []) ∧
      Frame.enter P g us.toArray kind = (Sh.mk g fn.ntmps kind none).fr tmps [.code cd] [] ∧ tmps.size = fn.ntmps ∧ TmR ρ e tmps := by
  cases hg : G.fn g with
  | none => simp only [enterV, hg] at h0; exact absurd rfl (h0 g 6)
  | some fx =>
    obtain ⟨fn, cd, f1, f2, f3, fnn, f4, f5⟩ := hG.fn g fx hg
    cases hb : Nat.ble args.length fx.n with
    | false => simp only [enterV, hg, hb, cond_false] at h0; exact absurd rfl (h0 g 27)
    | true =>
      have hle := Nat.le_of_ble_eq_true hb
      have hul := concL_len ha
      obtain ⟨e, e1, e2⟩ := argK_get (β := RR) args .nil 0 fun e => run G n g none pv [] [.code fx.rc] e s (.op [])
      refine ⟨e, fx, fn, cd, us.toArray ++ Array.replicate (fn.ntmps - us.toArray.size) undef, rfl, f1, f3, f4, by simp only [enterV, hg, hb, cond_true, e1], by simp [Frame.enter, Sh.fr, f1, f2], ?_, ?_⟩
      · simp; omega
      · intro t v h
        rcases e2 t v h with ⟨_, b⟩ | b
        · obtain ⟨u, c1, c2⟩ := concL_get ha b
          refine ⟨u, ?_, c2⟩
          simp only [Nat.sub_zero] at c1
          have := (List.getElem?_eq_some_iff.1 c1).1
          rw [Array.getElem?_append_left (by simpa using this)]
          simpa using c1
        · simp [Lx.T.get_nil] at b

/-- A call of the usual kind. -/
theorem call_ok {n : Nat} (hS : Sound P F G n) (hG : PgOK drawSegs P G) (hh : HR drawSegs P ρ s F L) {g : Nat} {args : List V} {us : List Value} (ha : concL ρ args = some us) {c : Frame} {cs : List Frame} (hc : c.mode = .run)
    (h0 : ∀ a b, enterV G (run G n) g none args s ≠ .bad a b)
    (h1 : ∀ v rec s', enterV G (run G n) g none args s = .ret v rec s' → ∀ ρ' L' w' u, Went drawSegs P ρ ρ' s s' F L' T w' → conc ρ' v = some u → Ev P Φ (lone (c.finish u) cs w'))
    (h2 : ∀ v s', enterV G (run G n) g none args s = .pan v s' → ∀ ρ' L' w' u, Went drawSegs P ρ ρ' s s' F L' T w' → conc ρ' v = some u → Ev P Φ (lone (c.raise [{ v := u, recovered := false }]) cs w'))
    (hs : Sat w F (L :: T)) : Ev P Φ (lone (Frame.enter P g us.toArray .normal) (c :: cs) w) := by
  obtain ⟨e, fx, fn, cd, tmps, f0, f1, f3, f4, hent, hen, hsz, ht⟩ := enter_ok hG ha h0 .normal
  rw [hen]
  rw [hent] at h0 h1 h2
  refine Ev.flat ?_
  refine (Sound.at hS (f := g) (rnd := none) (pv := none) (ds := []) (k := [.code fx.rc]) (e := e) (s := s) (md := .op []) (sh := ⟨g, fn.ntmps, .normal, none⟩) (base := c :: cs) (dss := []) (ρ := ρ) (L := L) (T := T) (Φ := Ev P Φ) ⟨⟨rfl, ⟨fn, f1, rfl⟩, .inl ⟨rfl, rfl⟩⟩, rfl, fun hn => absurd rfl hn, .nil, hh⟩ ?_).2 rfl w tmps _ hs hsz ht (.cons (.code f3) .nil)
  cases hres : run G n g none none [] [.code fx.rc] e s (.op []) with
  | bad a b => exact absurd hres (h0 a b)
  | ret v rec s' =>
    intro ρ' L' w' tmps' todo base' u fn' pv' hw hv hfn hr hb _ _
    obtain rfl := hb.run
    exact .step (st_return rfl hfn hr) (h1 v rec s' hres ρ' L' w' u hw hv)
  | pan v s' =>
    intro ρ' L' w' tmps' todo base' u hw hv hb
    obtain rfl := hb.run
    exact .step (st_raise f1) (h2 v s' hres ρ' L' w' u hw hv)

/-- A deferred call. -/
theorem callD_ok {n : Nat} (hS : Sound P F G n) (hG : PgOK drawSegs P G) (hh : HR drawSegs P ρ s F L) {g : Nat} {args : List V} {us : List Value} (ha : concL ρ args = some us) {c : Frame} {cs : List Frame} {pv : Option V}
    (hc : match pv with | some v => ∃ u, conc ρ v = some u ∧ c.mode = .panicking [{ v := u, recovered := false }] | none => c.mode = .returning)
    (h0 : ∀ a b, enterV G (run G n) g pv args s ≠ .bad a b) (hp : ∀ v s', enterV G (run G n) g pv args s ≠ .pan v s')
    (h1 : ∀ v rec s', enterV G (run G n) g pv args s = .ret v rec s' → ∀ ρ' L' w', Went drawSegs P ρ ρ' s s' F L' T w' → Ev P Φ (lone (if rec then { c with mode := .returning } else c) cs w'))
    (hs : Sat w F (L :: T)) : Ev P Φ (lone (Frame.enter P g us.toArray .deferred) (c :: cs) w) := by
  obtain ⟨e, fx, fn, cd, tmps, f0, f1, f3, f4, hent, hen, hsz, ht⟩ := enter_ok hG ha h0 .deferred
  rw [hen]
  rw [hent] at h0 h1 hp
  refine Ev.flat ?_
  have hbase : BaseOK ρ .deferred pv (c :: cs) := by
    refine ⟨c, cs, rfl, ?_⟩
    cases pv with
    | some v => exact hc
    | none => exact .inl hc
  refine (Sound.at hS (f := g) (rnd := none) (pv := pv) (ds := []) (k := [.code fx.rc]) (e := e) (s := s) (md := .op []) (sh := ⟨g, fn.ntmps, .deferred, none⟩) (base := c :: cs) (dss := []) (ρ := ρ) (L := L) (T := T) (Φ := Ev P Φ) ⟨⟨rfl, ⟨fn, f1, rfl⟩, .inl ⟨rfl, rfl⟩⟩, hbase, fun hn => absurd rfl hn, .nil, hh⟩ ?_).2 rfl w tmps _ hs hsz ht (.cons (.code f3) .nil)
  cases hres : run G n g none pv [] [.code fx.rc] e s (.op []) with
  | bad a b => exact absurd hres (h0 a b)
  | pan v s' => exact absurd hres (hp v s')
  | ret v rec s' =>
    intro ρ' L' w' tmps' todo base' u fn' pv' hw hv hfn hr hb hbo hrec
    have hfin := h1 v rec s' hres ρ' L' w' hw
    obtain ⟨c', cs', rfl, hm⟩ := hbo
    refine .step (st_returnD rfl hfn hr) ?_
    rcases hb with hb | ⟨_, x, xs, u', hb, hx, hb'⟩
    · simp only [List.cons.injEq] at hb
      obtain ⟨rfl, rfl⟩ := hb
      cases pv' with
      | some v' =>
        simp only [Option.isNone_some] at hrec
        subst hrec
        obtain ⟨q, _, hq⟩ := hm
        simp only [hq]
        simpa using hfin
      | none =>
        simp only [Option.isNone_none] at hrec
        subst hrec
        rcases hm with hm | ⟨q, hq⟩
        · simp only [hm]
          have : ({ c' with mode := .returning } : Frame) = c' := by cases c'; simp at hm; subst hm; rfl
          simp only [if_true, this] at hfin
          exact hfin
        · simp only [hq]
          simpa using hfin
    · simp only [List.cons.injEq] at hb hb'
      obtain ⟨rfl, rfl⟩ := hb
      obtain ⟨rfl, rfl⟩ := hb'
      cases pv' with
      | some v' =>
        obtain ⟨q, _, hq⟩ := hm
        simp at hq
      | none =>
        simp only [Option.isNone_none] at hrec
        subst hrec
        simpa using hfin

/-- The frame that a round is. -/
theorem round_ok {n : Nat} (hS : Sound P F G n) (hh : HR drawSegs P ρ s F L) {l id : Nat} (hl : ρ.ids l = some id) {args : List V} {us : List Value} (ha : concL ρ args = some us) {c : Frame} {cs : List Frame} (hc : c.mode = .run) {run0 : Result Next} (hr0 : run0 = (Instr.yield id us.toArray).run P w)
    (h0 : ∀ a b, roundV (run G n) f l args s ≠ .bad a b)
    (h1 : ∀ v rec s', roundV (run G n) f l args s = .ret v rec s' → ∀ ρ' L' w' u, Went drawSegs P ρ ρ' s s' F L' T w' → conc ρ' v = some u → Ev P Φ (lone (c.finish u) cs w'))
    (h2 : ∀ v s', roundV (run G n) f l args s = .pan v s' → ∀ ρ' L' w' u, Went drawSegs P ρ ρ' s s' F L' T w' → conc ρ' v = some u → Ev P Φ (lone (c.raise [{ v := u, recovered := false }]) cs w'))
    (hs : Sat w F (L :: T)) : ∃ g tm asg body, run0 = .ok (.round id g tm asg body) w ∧ Ev P Φ (lone (Frame.round id g tm asg body .normal) (c :: cs) w) := by
  simp only [roundV] at h0 h1 h2
  cases hx : s.h.get l with
  | none => simp only [hx] at h0; exact absurd rfl (h0 f 7)
  | some x =>
    cases x with
    | lp st pend g tm nn ps asg body df =>
      simp only [hx] at h0 h1 h2
      obtain ⟨id', o, i1, ⟨fn, cN, a, b, tmps, p, idd, rfl, k1, k2, k3, k4, k5, k6, k7, k8⟩, i3, i4⟩ := hh.at_ hs hx
      rw [hl] at i1; cases i1
      -- the arguments are laid in
      have key : ∀ (ps : List Nat) (vs : List V) (us : List Value) (e : Lx.T V) (tm : Array Value), (∀ t ∈ ps, t < tm.size) → concL ρ vs = some us → TmR ρ e tm → ∀ (kk : Lx.T V → RR) (r : RR), rndArgs e ps vs kk = some r →
          ∃ e', r = kk e' ∧ us.length = ps.length ∧ TmR ρ e' ((ps.zip us).foldl (fun tm (p : Nat × Value) => tm.setIfInBounds p.1 p.2) tm) ∧ ((ps.zip us).foldl (fun tm (p : Nat × Value) => tm.setIfInBounds p.1 p.2) tm).size = tm.size := by
        intro ps
        induction ps with
        | nil =>
          intro vs us e tm _ hv ht kk r h
          cases vs with
          | nil => simp [concL] at hv; subst hv; simp [rndArgs] at h; exact ⟨e, h.symm, rfl, ht, rfl⟩
          | cons => simp [rndArgs] at h
        | cons p ps ih =>
          intro vs us e tm hlt hv ht kk r h
          cases vs with
          | nil => simp [rndArgs] at h
          | cons v vs =>
            simp only [concL, Option.bind_eq_some_iff, Option.some.injEq] at hv
            obtain ⟨u, a1, us', a2, rfl⟩ := hv
            simp only [rndArgs, fV_eq, Lx.T.setK_eq] at h
            obtain ⟨e', b1, b2, b3, b4⟩ := ih vs us' (e.set p (some v)) (tm.setIfInBounds p u) (fun t m => by simp; exact hlt t (by simp [m])) a2 (ht.set (hlt p (by simp)) a1) kk r h
            exact ⟨e', b1, by simp [b2], by simpa using b3, by simpa using b4⟩
      cases hr : rndArgs tm ps args (fun e => run G n g (some l) none [] [.code asg, .beginRound, .code body] e s (.op [])) with
      | none => simp only [hr] at h0; exact absurd rfl (h0 f 7)
      | some r =>
        simp only [hr] at h0 h1 h2
        obtain ⟨e', b1, b2, b3, b4⟩ := key ps args us tm tmps (by rw [k2]; exact k7) ha k6 _ r hr
        have hfold : (ps.toArray.zip us.toArray).foldl (fun tmps (x : Nat × Value) => tmps.setIfInBounds x.1 x.2) tmps = (ps.zip us).foldl (fun tm (p : Nat × Value) => tm.setIfInBounds p.1 p.2) tmps := by
          rw [← Array.foldl_toList]; simp
        have hyield : (Instr.yield id us.toArray).run P w = .ok (.round id g ((ps.zip us).foldl (fun tm (p : Nat × Value) => tm.setIfInBounds p.1 p.2) tmps) a b) w := by
          rw [← hfold]
          simp [Instr.yield, Instr.getLoop, getObj, Sem.run, i3, b2]
        refine ⟨g, _, a, b, by rw [hr0, hyield], ?_⟩
        refine Ev.flat ?_
        have hfr : Frame.round id g ((ps.zip us).foldl (fun tm (p : Nat × Value) => tm.setIfInBounds p.1 p.2) tmps) a b .normal = (Sh.mk g cN .normal (some id)).fr ((ps.zip us).foldl (fun tm (p : Nat × Value) => tm.setIfInBounds p.1 p.2) tmps) [.code a, .beginRound, .code b] [] := rfl
        rw [hfr]
        refine (Sound.at hS (f := g) (rnd := some l) (pv := none) (ds := []) (k := [.code asg, .beginRound, .code body]) (e := e') (s := s) (md := .op []) (sh := ⟨g, cN, .normal, some id⟩) (base := c :: cs) (dss := []) (ρ := ρ) (L := L) (T := T) (Φ := Ev P Φ) ⟨⟨rfl, ⟨fn, k1, k3⟩, .inr ⟨l, id, rfl, hl, rfl, rfl⟩⟩, rfl, fun _ => ⟨rfl, rfl, _, _, rfl⟩, .nil, hh⟩ ?_).2 rfl w _ _ hs (by rw [b4]; exact k2) b3
          (.cons (.code k4) (.cons .beginRound (.cons (.code k5) .nil)))
        cases hres : run G n g (some l) none [] [.code asg, .beginRound, .code body] e' s (.op []) with
        | bad a b => exact absurd (b1.trans hres) (h0 a b)
        | ret v rec s' =>
          intro ρ' L' w' u c' cs' hw hv hb
          simp only [List.cons.injEq] at hb
          obtain ⟨rfl, rfl⟩ := hb
          exact h1 v rec s' (b1.trans hres) ρ' L' w' u hw hv
        | pan v s' =>
          intro ρ' L' w' tmps' todo base' u hw hv hb
          obtain rfl := hb.run
          exact .step (st_raise k1) (h2 v s' (b1.trans hres) ρ' L' w' u hw hv)
    | _ => simp only [hx] at h0; exact absurd rfl (h0 f 7)
end
end Go.Lx
