/- Regions whose order is open: whatever order is drawn, the run of the one order is what comes of it. -/
import Derived.Test.YtbmncepaajkngaaGreatLxCode
namespace Go.Lx
set_option linter.unusedSimpArgs false
set_option linter.unusedVariables false

section
variable {P : Program} {F : Know} {G : Pg} {Φ : Machine → Prop} {T : SH} {rnd : Option Nat} {sh : Sh} {ρ ρ0 ρ1 : Nm} {s s0 s1 : St} {base : List Frame} {f : Nat} {pv : Option V} {ds : List Dt} {dss : List Deferred} {L L1 : Hp} {w : World} {k : List RI} {e : Lx.T V} {n : Nat} {tmps : Array Value} {items : List Item}

theorem Bey.trans {ρ2 : Nm} {s2 : St} (h : Bey ρ0 s0 ρ s) (k : Bey ρ s ρ2 s2) : Bey ρ0 s0 ρ2 s2 :=
  ⟨Nm.le_trans h.le k.le, fun b hb => (k.same b (Nat.lt_of_lt_of_le hb h.nb)).trans (h.same b hb), Nat.le_trans h.nb k.nb⟩
theorem Went.bey {L' : Hp} {T' : SH} {w' : World} {ρ' : Nm} {s' : St} (h : Went drawSegs P ρ ρ' s s' F L' T' w') : Bey ρ s ρ' s' := ⟨h.le, h.same, h.nb⟩
theorem Fin.now {r : RR} (h : Fin P F Φ T rnd sh ρ0 s0 base r) (b : Bey ρ0 s0 ρ s) (hh : HR drawSegs P ρ s F L) (hs : Sat w F (L :: T)) : Fin P F Φ T rnd sh ρ s base r :=
  h.went ⟨b.le, b.same, b.nb, hh, hs⟩

theorem Sat.drop2 {L U : Hp} (hs : Sat w F (L :: U :: T)) : Sat w F (L :: T) :=
  (hs.perm (T := U :: L :: T) (by simp only [List.flatten_cons, ← List.append_assoc]; exact List.Perm.append_right _ List.perm_append_comm)).drop

theorem mem_rdT_iff {t : Nat} : ∀ {l : List Operand}, t ∈ rdT l ↔ .tmp t ∈ l
  | [] => by simp [rdT]
  | x :: r => by cases x <;> simp [rdT, mem_rdT_iff (t := t) (l := r)]

/-- What an operation looks at is known. -/
def RdR (ρ : Nm) (e : Lx.T V) (tmps : Array Value) (o : Oper) (g : GOp) : Prop := ∀ t ∈ rd o g, ∀ v, e.get t = some v → ∃ u, tmps[t]? = some u ∧ conc ρ v = some u
theorem RdR.ops {o : Oper} {g : GOp} (h : RdR ρ e tmps o g) (hc : chkOp o g = true) (dss : List Deferred) : OpR ρ (evV e) (Act.mk tmps dss).eval (opR g.r) := by
  intro x hx v hv
  cases x with
  | tmp t =>
    have : t ∈ rdT o.op.operands.toList := by
      simp only [chkOp, List.all_eq_true, List.contains_iff_mem] at hc
      exact hc t (mem_rdT_iff.2 hx)
    obtain ⟨u, a, b⟩ := h t (by unfold rd; exact List.mem_append_right _ this) v hv
    simp [Act.eval, Array.getD_eq_getD_getElem?, a, b]
  | const c => exact ofC_ok 4 c v hv
  | global n => simp [evV] at hv
  | func f => simp only [evV, Option.some.injEq] at hv; subst hv; simp [conc, concL, concF, Act.eval]
theorem RdR.wanted {opsA : Array Oper} {N i : Nat} {g : GOp} {o : Oper} (h : GOK P N opsA i g o) (he : RdR ρ e tmps o g) {c : Bool} (hg : guardV e g.g = some c) : Region.wanted o (yielded opsA tmps) = c := by
  rcases h.guard with ⟨h1, h2⟩ | ⟨j, b, t, h1, h2, h3⟩
  · simp [guardV, h2] at hg; simp [Region.wanted, h1, hg]
  · simp only [guardV, h2] at hg
    split at hg <;> simp at hg
    rename_i q hq
    obtain ⟨u, a1, a2⟩ := he t (by simp [rd, h2]) _ hq
    have := conc_b a2
    subst this
    simp [Region.wanted, h1, yielded, h3, a1, hg]

/-- What only computes does not hang on memory; what reads hangs on its entries. -/
theorem q_keep {hb : Nat → Bool} {xf : Nat → Option Xf} {me : Nat → String → Option Nat} {op : ROp} {q : VE → St → Option V} (ha : actV hb xf me op = .q q) (ve : VE) {s s' : St} (h : memB op = false ∨ s.h = s'.h) : q ve s = q ve s' := by
  cases op <;> simp only [actV, Act'.q.injEq, reduceCtorEq] at ha <;> subst ha <;> first
    | rfl
    | (rcases h with h | h
       · simp [memB] at h
       · simp [q_load1V, q_loadNV, q_cvB2SV, q_lenMV, q_cvUPV, getC, h])
theorem act_eff {hb : Nat → Bool} {xf : Nat → Option Xf} {me : Nat → String → Option Nat} {op : ROp} : (∀ x, actV hb xf me op = .x x → effR op = true) ∧ (∀ x, actV hb xf me op = .q x → effR op = false) ∧ (∀ x, actV hb xf me op = .a x → effR op = false ∧ newB op = true) := by
  refine ⟨fun x h => ?_, fun x h => ?_, fun x h => ?_⟩ <;> cases op <;> simp only [actV, reduceCtorEq] at h <;> first | rfl | exact ⟨rfl, rfl⟩

mutual
theorem eqV_ok : ∀ {a b : V}, eqV a b = true → a = b
  | .b x, b, h => by cases b <;> simp_all [eqV]
  | .i k n, b, h => by
    cases b with
    | i k' n' =>
      simp only [eqV, Bool.and_eq_true] at h
      obtain ⟨h1, h2⟩ := h
      have := kN_inj h1
      subst this
      rw [eqI_eq] at h2
      simp at h2; rw [h2]
    | _ => simp [eqV] at h
  | .s l, b, h => by
    cases b <;> simp [eqV] at h
    rw [eqBs_eq] at h
    simp at h; rw [h]
  | .p x, b, h => by
    cases b <;> simp [eqV] at h
    rename_i y
    cases x <;> cases y <;> simp [eqNO] at h <;> first | rfl | skip
    rename_i p q
    obtain ⟨p1, p2⟩ := p; obtain ⟨q1, q2⟩ := q
    simp [eqNO] at h
    simp [h.1, h.2]
  | .sl x n c, b, h => by
    cases b <;> simp [eqV] at h
    rename_i y n' c'
    obtain ⟨⟨h1, h2⟩, h3⟩ := h
    have e1 : x = y := by
      cases x <;> cases y <;> simp [eqNO] at h1 <;> first | rfl | skip
      rename_i p q
      obtain ⟨p1, p2⟩ := p; obtain ⟨q1, q2⟩ := q
      simp [eqNO] at h1
      simp [h1.1, h1.2]
    have e3 : c = c' := by
      cases c <;> cases c' <;> simp [eqCap] at h3 <;> simp [h3]
    subst e1 e3; simp [h2]
  | .m none, b, h => by
    cases b with
    | m y => cases y with
      | none => rfl
      | some y => simp [eqV] at h
    | _ => simp [eqV] at h
  | .m (some x), b, h => by
    cases b with
    | m y => cases y with
      | none => simp [eqV] at h
      | some y => simp [eqV] at h; rw [h]
    | _ => simp [eqV] at h
  | .fn f a c, b, h => by
    cases b <;> simp [eqV] at h
    rename_i f' a' c'
    obtain ⟨⟨h1, h2⟩, h3⟩ := h
    have e1 : f = f' := by cases f <;> cases f' <;> simp [eqFn] at h1 <;> simp [h1]
    rw [e1, eqVs_ok h2, eqVs_ok h3]
  | .nf, b, h => by cases b <;> simp_all [eqV]
  | .fc t v, b, h => by
    cases b <;> simp [eqV] at h
    rw [h.1, eqV_ok h.2]
  | .ni, b, h => by cases b <;> simp_all [eqV]
  | .ag l, b, h => by cases b <;> simp [eqV] at h; rw [eqVs_ok h]
  | .tp l, b, h => by cases b <;> simp [eqV] at h; rw [eqVs_ok h]
  | .o u, b, h => by cases b <;> simp [eqV] at h
theorem eqVs_ok : ∀ {a b : List V}, eqVs a b = true → a = b
  | [], b, h => by cases b <;> simp_all [eqVs]
  | x :: l, b, h => by
    cases b <;> simp [eqVs] at h
    rw [eqV_ok h.1, eqVs_ok h.2]
end

theorem chk_ok {ck : List Nat} {s : St} : ∀ {pe : List Pe}, chkV ck s pe = true → ∀ p ∈ pe, memN p.i ck = true → p.q (evV p.e) s = some p.v
  | [], _, p, m, _ => by cases m
  | x :: pe, h, p, m, hm => by
    simp only [chkV] at h
    cases hx : memN x.i ck with
    | false =>
      simp only [hx, cond_false] at h
      cases m with
      | head => rw [hx] at hm; cases hm
      | tail _ m => exact chk_ok h p m hm
    | true =>
      simp only [hx, cond_true] at h
      cases hv : x.q (evV x.e) s with
      | none => simp [hv] at h
      | some v =>
        simp only [hv] at h
        cases he : eqV x.v v with
        | false => simp [he] at h
        | true =>
          simp only [he, cond_true] at h
          cases m with
          | head => rw [hv, eqV_ok he]
          | tail _ m => exact chk_ok h p m hm

/-! ### Births -/
noncomputable def bornS : List (Nat × Nat × E) → St → St
  | [], s => s
  | y :: un, s => bornS un ⟨s.h.set y.2.1 (some y.2.2), s.nb, s.nc⟩
theorem bornK_eq {β : Type} : ∀ (un : List (Nat × Nat × E)) (s : St) (k : St → β), bornK un s k = k (bornS un s)
  | [], s, k => rfl
  | (i, b, x) :: un, s, k => by simp only [bornK, putK_eq', bornS]; exact bornK_eq un _ k
theorem birthK_eq {β : Type} (ck : List Nat) : ∀ (un : List (Nat × Nat × E)) (s : St) (k : List (Nat × Nat × E) → St → β), birthK ck un s k = k (un.filter fun y => memN y.1 ck) (bornS (un.filter fun y => !memN y.1 ck) s)
  | [], s, k => rfl
  | (i, b, x) :: un, s, k => by
    simp only [birthK]
    cases h : memN i ck with
    | true => simp only [cond_true]; rw [birthK_eq ck un]; simp [List.filter_cons, h]
    | false => simp only [cond_false, putK_eq']; rw [birthK_eq ck un]; simp [List.filter_cons, h, bornS]
theorem bornS_nb : ∀ (un : List (Nat × Nat × E)) (s : St), (bornS un s).nb = s.nb
  | [], s => rfl
  | y :: un, s => by simp only [bornS]; rw [bornS_nb un]

theorem HR.birth (hh : HR drawSegs P ρ s F L) {nm id : Nat} {x : E} {o : Obj} {U : Hp} (hs : Sat w F (L :: ((id, o) :: U) :: T)) (hf : x.fz = false) (hid : ρ.ids nm = some id) (ok : EOK drawSegs P ρ x o) :
    HR drawSegs P ρ ⟨s.h.set nm (some x), s.nb, s.nc⟩ F ((id, o) :: L) ∧ Sat w F (((id, o) :: L) :: U :: T) := by
  have hnL : ∀ ob, (id, ob) ∉ L := by
    intro ob hm
    have := hs.nodup
    simp only [List.flatten_cons, List.map_append, List.nodup_append] at this
    exact this.2.2 id (List.mem_map.2 ⟨(id, ob), hm, rfl⟩) id (by simp) rfl
  have hF : F.blk id = none := hs.apart id o (by simp)
  have hne : ∀ c y, s.h.get c = some y → ρ.ids c ≠ some id := by
    intro c y gy e
    obtain ⟨i, oy, a1, a2, a3⟩ := hh.ent c y gy
    rw [e] at a1; cases a1
    rcases a3 with ⟨_, a3⟩ | ⟨_, a3⟩
    · rw [hF] at a3; cases a3
    · exact hnL _ a3
  refine ⟨⟨fun c y gy => ?_, fun c c' y y' i gy gy' hi hi' => ?_, hh.fresh, hh.nc⟩, hs.perm (by
    simp only [List.flatten_cons, List.cons_append]
    exact List.perm_middle)⟩
  · simp only [Lx.T.get_set] at gy
    split at gy
    · rename_i e; subst e; cases gy; exact ⟨id, o, hid, ok, .inr ⟨hf, by simp⟩⟩
    · obtain ⟨i, oy, a1, a2, a3⟩ := hh.ent c y gy
      refine ⟨i, oy, a1, a2, ?_⟩
      rcases a3 with a3 | ⟨a3, a4⟩
      · exact .inl a3
      · exact .inr ⟨a3, by simp [a4]⟩
  · simp only [Lx.T.get_set] at gy gy'
    split at gy <;> split at gy' <;> rename_i e1 e2
    · rw [e1, e2]
    · exfalso; subst e1; rw [hid] at hi; cases hi; exact hne c' y' gy' hi'
    · exfalso; subst e2; rw [hid] at hi'; cases hi'; exact hne c y gy hi
    · exact hh.inj c c' y y' i gy gy' hi hi'

theorem born_ok (ck : List Nat) : ∀ {un : List (Nat × Nat × E)} {U : Hp} {T : SH} {s : St} {L : Hp}, HR drawSegs P ρ s F L → Sat w F (L :: U :: T) → UnR P ρ un U → (∀ y ∈ un, memN y.1 ck = false → ρ.ids y.2.1 ≠ none) →
    ∃ L' U', HR drawSegs P ρ (bornS (un.filter fun y => !memN y.1 ck) s) F L' ∧ Sat w F (L' :: U' :: T) ∧ UnR P ρ (un.filter fun y => memN y.1 ck) U'
  | [], U, T, s, L, hh, hs, hu, hb => ⟨L, U, hh, hs, hu⟩
  | (i, nm, x) :: un, U, T, s, L, hh, hs, hu, hb => by
    have hb' : ∀ y ∈ un, memN y.1 ck = false → ρ.ids y.2.1 ≠ none := fun y hy => hb y (by simp [hy])
    cases hm : memN i ck with
    | true =>
      simp only [List.filter_cons, hm, Bool.not_true, if_true, Bool.false_eq_true, if_false]
      cases hu with
      | pend h1 h2 =>
        obtain ⟨L', U', a, b, c⟩ := born_ok ck hh hs h2 hb'
        exact ⟨L', U', a, b, .pend h1 c⟩
      | @done _ _ id _ o _ U0 h1 h2 h3 h4 =>
        have hs2 : Sat w F (L :: U0 :: ([(id, o)] :: T)) := hs.perm (by
          simp only [List.flatten_cons, List.cons_append, List.nil_append]
          refine List.Perm.append_left _ ?_
          exact List.perm_middle.symm)
        obtain ⟨L', U', a, b, c⟩ := born_ok ck (T := [(id, o)] :: T) hh hs2 h4 hb'
        refine ⟨L', (id, o) :: U', a, b.perm ?_, .done h1 h2 h3 c⟩
        simp only [List.flatten_cons, List.cons_append, List.nil_append]
        refine List.Perm.append_left _ ?_
        exact List.perm_middle
    | false =>
      simp only [List.filter_cons, hm, Bool.not_false, if_true, Bool.false_eq_true, if_false, bornS]
      cases hu with
      | pend h1 h2 => exact absurd h1 (hb (i, nm, x) (by simp) hm)
      | @done _ _ id _ o _ U0 h1 h2 h3 h4 =>
        obtain ⟨hh', hs'⟩ := hh.birth hs h2 h1 h3
        exact born_ok ck hh' hs' h4 hb'

/-! ### What stays, when an operation more is reckoned -/
section
variable {opsA : Array Oper} {m : List Nat} {eff : Nat → Bool} {sg : Nat → Nat} {x : Dr} {o : DOp} {ops : List DOp} {pd : List Pd} {sn : Nat} {listed : Array Bool} {U : Hp} {lo : Nat} {oo : Oper}

theorem DrI.rel (h : DrI P lo G sh opsA m eff sg ρ s e x (o :: ops) pd sn listed U) {p : Pd} (hp : p ∈ pd) : Rel m eff sg p.i o.i ∧ p.i ≠ o.i := by
  have h1 := h.inv.pw
  have h2 := h.inv.nodup
  simp only [idxs, List.map_cons, List.append_assoc] at h1 h2
  rw [List.pairwise_append] at h1
  rw [List.nodup_append] at h2
  exact ⟨h1.2.2 p.i (List.mem_map.2 ⟨p, hp, rfl⟩) o.i (by simp), h2.2.2 p.i (List.mem_map.2 ⟨p, hp, rfl⟩) o.i (by simp)⟩

theorem putT_get (e : Lx.T V) (d : Option Nat) (v : V) (t : Nat) : (putT e d v).get t = if d = some t then some v else e.get t := by
  cases d with
  | none => simp [putT]
  | some d =>
    simp only [putT, Lx.T.get_set, Option.some.injEq]
    by_cases h : t = d
    · simp [h]
    · rw [if_neg h, if_neg (fun e => h e.symm)]

/-- Temporaries of operations still to be carried out stay. -/
theorem DrI.old (h : DrI P lo G sh opsA m eff sg ρ s e x (o :: ops) pd sn listed U) (hg : GOK P sh.n opsA o.i o.g oo) (v : V) {p : Pd} (hp : p ∈ pd) :
    (∃ op, GOK P sh.n opsA p.i p.g op ∧ chkOp op p.g = true ∧ ∀ t ∈ rd op p.g, (putT e o.g.d v).get t = p.e.get t) ∧ (∀ d, p.g.d = some d → (putT e o.g.d v).get d = some p.val) := by
  obtain ⟨hrel, hne⟩ := h.rel hp
  obtain ⟨⟨op, a1, a2, a3⟩, a4, _⟩ := h.pds p hp
  have hsg : sg o.i = sg p.i := by rw [h.inv.num.1 o (by simp), h.inv.here p.i (List.mem_map.2 ⟨p, hp, rfl⟩)]
  refine ⟨⟨op, a1, a2, fun t ht => ?_⟩, fun d hd => ?_⟩
  · rw [putT_get, if_neg, a3 t ht]
    intro hd
    have := (h.reg.read o.i p.i oo op p.g t hsg hg.at_ a1 (by rw [hg.dst]; exact hd) ht).2
    rw [hrel.1] at this; cases this
  · rw [putT_get, if_neg, a4 d hd]
    intro hd2
    exact h.reg.dst p.i o.i op oo d a1.at_ hg.at_ hne (by rw [a1.dst]; exact hd) (by rw [hg.dst]; exact hd2)
theorem DrI.self (h : DrI P lo G sh opsA m eff sg ρ s e x (o :: ops) pd sn listed U) (hg : GOK P sh.n opsA o.i o.g oo) (v : V) : ∀ t ∈ rd oo o.g, (putT e o.g.d v).get t = e.get t := by
  intro t ht
  rw [putT_get, if_neg]
  intro hd
  exact (h.reg.read o.i o.i oo oo o.g t rfl hg.at_ hg (by rw [hg.dst]; exact hd) ht).1 rfl

/-- One operation is reckoned ahead. -/
theorem DrI.push (h : DrI P lo G sh opsA m eff sg ρ s e x (o :: ops) pd sn listed U) (hg : GOK P sh.n opsA o.i o.g oo) (hco : chkOp oo o.g = true) {kd : PdK} {v : V} {s' : St} {x' : Dr}
    (hv : v = Pd.val ⟨o.i, o.g, e, kd⟩) (hsegs : x'.segs = x.segs) (hnb : s.nb ≤ s'.nb)
    (hq : ∀ (r : ROp) (q : VE → St → Option V) (ve : VE), actV G.hb G.xf G.me r = .q q → q ve s = q ve s')
    (hpe : ∀ y ∈ x.pe, y ∈ x'.pe) (hun : ∀ y ∈ x.un, y ∈ x'.un)
    (hnew : KdOK G ρ s' x' o.i o.g e kd)
    (hu : UnR P ρ x'.un U) (hnms : (x'.un.map (·.2.1)).Nodup) (hlt : ∀ y ∈ x'.un, y.2.1 < s'.nb) (hge : ∀ y ∈ x'.un, lo ≤ y.2.1)
    (hpend : ∀ y ∈ x'.un, ρ.ids y.2.1 = none → ∃ p ∈ pd ++ [(⟨o.i, o.g, e, kd⟩ : Pd)], p.i = y.1 ∧ ∃ s1 v, p.k = .a s1 v y.2.2 ∧ s1.nb = y.2.1) :
    DrI P lo G sh opsA m eff sg ρ s' (putT e o.g.d v) x' ops (pd ++ [(⟨o.i, o.g, e, kd⟩ : Pd)]) sn listed U := by
  have hidx : idxs ((pd ++ [(⟨o.i, o.g, e, kd⟩ : Pd)]).map (·.i)) ops x'.segs = idxs (pd.map (·.i)) (o :: ops) x.segs := by simp [idxs, hsegs]
  have inv := h.inv
  refine ⟨h.reg, ⟨inv.size, fun i hi => by rw [hidx]; exact inv.mem i hi, fun i hi => inv.lt i (by rw [← hidx]; exact hi), by rw [hidx]; exact inv.nodup, inv.down, by rw [hidx]; exact inv.pw, ?_, ?_, ?_⟩, ?_, hu, hnms, hlt, hge, hpend⟩
  · intro p hp
    simp only [List.map_append, List.map_cons, List.map_nil, List.mem_append, List.mem_singleton] at hp
    rcases hp with hp | rfl
    · exact inv.here p hp
    · exact inv.num.1 o (by simp)
  · rw [hsegs]; exact ⟨fun z hz => inv.num.1 z (by simp [hz]), inv.num.2⟩
  · intro z hz
    rw [hsegs] at hz
    exact inv.gok z (by simp only [List.mem_append, List.mem_cons] at hz ⊢; rcases hz with hz | hz <;> simp [hz])
  · intro p hp
    simp only [List.mem_append, List.mem_singleton] at hp
    rcases hp with hp | rfl
    · obtain ⟨b1, b2⟩ := h.old hg v hp
      refine ⟨b1, b2, ?_⟩
      have hk := (h.pds p hp).kd
      cases hpk : p.k with
      | skip => rw [hpk] at hk; exact hk
      | q q u =>
        rw [hpk] at hk
        obtain ⟨k1, k2, k3, k4⟩ := hk
        exact ⟨k1, k2, by rw [← hq _ q _ k2]; exact k3, fun hm => by obtain ⟨y, hy, hy2⟩ := k4 hm; exact ⟨y, hpe y hy, hy2⟩⟩
      | a s1 u y =>
        rw [hpk] at hk
        obtain ⟨k1, k2, k3, k4⟩ := hk
        exact ⟨k1, k2, k3, hun _ k4⟩
    · refine ⟨⟨oo, hg, hco, h.self hg v⟩, fun d hd => ?_, hnew⟩
      simp only at hd
      rw [putT_get, if_pos hd, hv]
theorem NpR.push (hnp : NpR ρ e tmps pd) {v : V} {p : Pd} (hd : p.g.d = o.g.d) : NpR ρ (putT e o.g.d v) tmps (pd ++ [p]) := by
  intro t u hu hq
  have hne : o.g.d ≠ some t := by rw [← hd]; exact hq p (by simp)
  rw [putT_get, if_neg hne] at hu
  exact hnp t u hu fun q hq2 => hq q (by simp [hq2])
end
end
end Go.Lx
