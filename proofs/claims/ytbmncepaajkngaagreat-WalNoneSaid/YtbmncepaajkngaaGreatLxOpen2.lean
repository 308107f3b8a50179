/- Regions whose order is open: the law. -/
import Derived.Test.YtbmncepaajkngaaGreatLxOpen
namespace Go.Lx
set_option linter.unusedSimpArgs false
set_option linter.unusedVariables false

section
variable {P : Program} {F : Know} {G : Pg} {Φ : Machine → Prop} {T : SH} {rnd : Option Nat} {sh : Sh} {ρ ρ0 ρ1 : Nm} {s s0 s1 : St} {base : List Frame} {f : Nat} {pv : Option V} {ds : List Dt} {dss : List Deferred} {L L1 : Hp} {w : World} {k : List RI} {e : Lx.T V} {n : Nat} {tmps : Array Value} {items : List Item}
variable {opsA : Array Oper} {m : List Nat} {eff : Nat → Bool} {sg : Nat → Nat} {x : Dr} {o : DOp} {ops : List DOp} {pd : List Pd} {sn : Nat} {listed : Array Bool} {U : Hp} {lo : Nat} {oo : Oper} {fuel t : Nat}

theorem lin_nil (inv : Inv P sh opsA m eff sg listed [] [] [] sn) : ∀ fuel t, Region.linearise.go .any opsA fuel t listed [] = []
  | 0, t => rfl
  | fuel + 1, t => by
    simp only [Region.linearise.go]
    change (match (Region.ready .any opsA listed)[t % (Region.ready .any opsA listed).length]? with
      | some i => Region.linearise.go .any opsA fuel (t / (Region.ready .any opsA listed).length) (listed.setIfInBounds i true) [i]
      | none => [].reverse) = []
    have hnil : Region.ready .any opsA listed = [] := by
      cases hr : Region.ready .any opsA listed with
      | nil => rfl
      | cons j js =>
        exfalso
        have hj : j ∈ Region.ready .any opsA listed := by rw [hr]; simp
        obtain ⟨hun, oj, hoj, _⟩ := mem_ready.1 hj
        have hlt := (Array.getElem?_eq_some_iff.1 hoj).1
        have := (inv.mem j hlt).1 hun
        simp [idxs] at this
    simp [hnil]

theorem Sit.to {s' : St} {L' : Hp} (st : Sit P F f rnd pv ds sh base dss ρ s L) (hh : HR drawSegs P ρ s' F L') : Sit P F f rnd pv ds sh base dss ρ s' L' := ⟨st.fr, st.bs, st.nods, st.dts, hh⟩
theorem Sit.mono {ρ' : Nm} {s' : St} {L' : Hp} (st : Sit P F f rnd pv ds sh base dss ρ s L) (le : ρ ≤ ρ') (hh : HR drawSegs P ρ' s' F L') : Sit P F f rnd pv ds sh base dss ρ' s' L' := ⟨st.fr.mono le, st.bs.mono le, st.nods, st.dts.mono le, hh⟩

/-- A part's end. -/
theorem drA_ok (hS : Sound P F G n) (hi : ItsOK drawSegs P sh.n k items) (hbey : Bey ρ0 s0 ρ s) (st : Sit P F f rnd pv ds sh base dss ρ s L) (h : DrI P s0.nb G sh opsA m eff sg ρ s e x [] [] sn listed U)
    (hlen : (idxs [] [] x.segs).length ≤ fuel) (hs : Sat w F (L :: U :: T)) (hn : tmps.size = sh.n) (hnp : NpR ρ e tmps []) (hfin : Fin P F Φ T rnd sh ρ0 s0 base (segEnd (run G n) f rnd pv ds k e x s)) :
    Ev P Φ (lone (sh.fr tmps (.inRegion opsA (Region.linearise.go .any opsA fuel t listed []) :: items) dss) base w) := by
  have hbound : ∀ y ∈ x.un, memN y.1 [] = false → ρ.ids y.2.1 ≠ none := by
    intro y hy _ hno
    obtain ⟨p, hp, _⟩ := h.pend y hy hno
    cases hp
  obtain ⟨L', U', hh', hs', hu'⟩ := born_ok [] st.hr hs h.un hbound
  have hf1 : (x.un.filter fun y => !memN y.1 []) = x.un := by
    rw [List.filter_eq_self]; intro y _; rfl
  have hf2 : (x.un.filter fun y => memN y.1 []) = [] := by
    rw [List.filter_eq_nil_iff]; intro y _; simp [memN]
  rw [hf1] at hh'
  rw [hf2] at hu'
  cases hu'
  have he : TmR ρ e tmps := fun t v ht => hnp t v ht (fun p hp => by cases hp)
  have hbey' : Bey ρ0 s0 ρ (bornS x.un s) := ⟨hbey.le, hbey.same, by rw [bornS_nb]; exact hbey.nb⟩
  simp only [segEnd, bornK_eq] at hfin
  cases hsg : x.segs with
  | nil =>
    simp only [hsg] at hfin
    have inv := h.inv
    rw [hsg] at inv
    rw [lin_nil (sn := sn) inv]
    exact (hS _ _ _ _ _ _ _ _ _ _ _ _ _ _ _ _ _ hbey' (st.to hh') hfin).1 w tmps items opsA [] hs'.drop2 hn he hi .nil
  | cons g gs =>
    simp only [hsg] at hfin
    have inv := h.inv
    rw [hsg] at inv
    have hidx : idxs [] [] (g :: gs) = idxs [] g gs := by simp [idxs]
    rw [hsg] at hlen
    refine hS _ _ _ _ _ _ _ (.dr g ⟨gs, [], []⟩) _ _ _ _ _ _ _ _ _ hbey' (st.to hh') hfin opsA m eff sg fuel [] (sn + 1) listed t [] w tmps items ⟨h.reg, ?_, fun p hp => (by cases hp), .nil, by simp, fun y hy => (by cases hy), fun y hy => (by cases hy), fun y hy => (by cases hy)⟩ (by rw [hidx] at hlen; exact hlen) hs' hn hnp hi
    exact ⟨inv.size, fun i hi => by have := inv.mem i hi; rw [List.map_nil, hidx] at this; exact this, fun i hi => inv.lt i (by rw [List.map_nil, hidx]; exact hi), by have := inv.nodup; rw [List.map_nil, hidx] at this; exact this, inv.down, by have := inv.pw; rw [List.map_nil, hidx] at this; exact this, (fun p hp => by cases hp), inv.num.2,
      fun z hz => inv.gok z (by simpa using hz)⟩

/-- An operation that only computes, reads or makes memory of known size is reckoned ahead. -/
theorem drB_ok (hS : Sound P F G n) (hi : ItsOK drawSegs P sh.n k items) (hbey : Bey ρ0 s0 ρ s) (st : Sit P F f rnd pv ds sh base dss ρ s L) (h : DrI P s0.nb G sh opsA m eff sg ρ s e x (o :: ops) pd sn listed U)
    (hlen : (idxs (pd.map (·.i)) (o :: ops) x.segs).length ≤ fuel) (hs : Sat w F (L :: U :: T)) (hn : tmps.size = sh.n) (hnp : NpR ρ e tmps pd) (hfin : Fin P F Φ T rnd sh ρ0 s0 base (stepOpD G (run G n) f rnd pv ds k e o ops x s))
    (hno : guardV e o.g.g = some true → ∀ y, actV G.hb G.xf G.me o.g.r ≠ .x y) :
    Ev P Φ (lone (sh.fr tmps (.inRegion opsA (Region.linearise.go .any opsA fuel t listed []) :: items) dss) base w) := by
  obtain ⟨⟨oo, hg, hco⟩, heff, hkeep, hck⟩ := h.inv.gok o (by simp)
  have hidx : ∀ kd, idxs ((pd ++ [(⟨o.i, o.g, e, kd⟩ : Pd)]).map (·.i)) ops x.segs = idxs (pd.map (·.i)) (o :: ops) x.segs := fun kd => by simp [idxs]
  simp only [stepOpD] at hfin
  cases hgd : guardV e o.g.g with
  | none => simp only [hgd, Fin] at hfin
  | some c =>
    cases c with
    | false =>
      simp only [hgd] at hfin
      simp only [putKe_eq] at hfin
      refine hS _ _ _ _ _ _ _ (.dr ops x) _ _ _ _ _ _ _ _ _ hbey st hfin opsA m eff sg fuel (pd ++ [(⟨o.i, o.g, e, .skip⟩ : Pd)]) sn listed t U w tmps items ?_ (by rw [hidx]; exact hlen) hs hn (hnp.push (v := undV) rfl) hi
      exact h.push (kd := .skip) (v := undV) (x' := x) hg hco rfl rfl (Nat.le_refl _) (fun _ _ _ _ => rfl) (fun _ hy => hy) (fun _ hy => hy) hgd h.un h.nms h.lt h.ge
        (fun y hy hno => by obtain ⟨p, hp, hp2⟩ := h.pend y hy hno; exact ⟨p, by simp [hp], hp2⟩)
    | true =>
      simp only [hgd] at hfin
      cases ha : actV G.hb G.xf G.me o.g.r with
      | no => simp only [stepActD, ha, Fin] at hfin
      | x y => exact absurd ha (hno hgd y)
      | q q =>
        simp only [stepActD, ha] at hfin
        cases hq : q (evV e) s with
        | none => simp only [hq, Fin] at hfin
        | some v =>
          simp only [hq, fV_eq, putKe_eq] at hfin
          refine hS _ _ _ _ _ _ _ (.dr ops ⟨x.segs, x.un, bif o.keep then ⟨o.i, q, e, v⟩ :: x.pe else x.pe⟩) _ _ _ _ _ _ _ _ _ hbey st hfin opsA m eff sg fuel (pd ++ [(⟨o.i, o.g, e, .q q v⟩ : Pd)]) sn listed t U w tmps items ?_ (by rw [hidx]; exact hlen) hs hn (hnp.push (v := v) rfl) hi
          refine h.push (kd := .q q v) (v := v) hg hco rfl rfl (Nat.le_refl _) (fun _ _ _ _ => rfl) (fun y hy => ?_) (fun _ hy => hy) ⟨hgd, ha, hq, fun hm => ?_⟩ h.un h.nms h.lt h.ge
            (fun y hy hno => by obtain ⟨p, hp, hp2⟩ := h.pend y hy hno; exact ⟨p, by simp [hp], hp2⟩)
          · cases o.keep <;> simp [hy]
          · rw [hkeep, hm]; exact ⟨⟨o.i, q, e, v⟩, by simp, rfl, rfl, rfl, rfl⟩
      | a a =>
        simp only [stepActD, ha] at hfin
        cases hq : a (evV e) s with
        | none => simp only [hq, Fin] at hfin
        | some vy =>
          obtain ⟨v, y⟩ := vy
          simp only [hq, putKe_eq, keepK_eq] at hfin
          have hfresh := st.hr.fresh s.nb (Nat.le_refl _)
          refine hS _ _ _ _ _ _ _ (.dr ops ⟨x.segs, (o.i, s.nb, y) :: x.un, x.pe⟩) _ _ _ _ _ _ _ _ _ ⟨hbey.le, hbey.same, Nat.le_succ_of_le hbey.nb⟩ (st.to st.hr.keep) hfin opsA m eff sg fuel (pd ++ [(⟨o.i, o.g, e, .a s v y⟩ : Pd)]) sn listed t U w tmps items ?_ (by rw [hidx]; exact hlen) hs hn (hnp.push (v := v) rfl) hi
          refine h.push (kd := .a s v y) (v := v) (x' := ⟨x.segs, (o.i, s.nb, y) :: x.un, x.pe⟩) hg hco rfl rfl (Nat.le_succ _) (fun r q ve hq => q_keep hq ve (.inr rfl)) (fun _ hy => hy) (fun _ hy => by simp [hy]) ⟨hgd, ⟨a, ha, hq⟩, hfresh, by simp⟩ (.pend hfresh h.un) ?_ ?_ ?_ ?_
          · simp only [List.map_cons, List.nodup_cons]
            refine ⟨fun hm => ?_, h.nms⟩
            obtain ⟨z, hz, e1⟩ := List.mem_map.1 hm
            have := h.lt z hz
            omega
          · intro z hz
            simp only [List.mem_cons] at hz
            rcases hz with rfl | hz
            · simp
            · have := h.lt z hz; simp; omega
          · intro z hz
            simp only [List.mem_cons] at hz
            rcases hz with rfl | hz
            · exact hbey.nb
            · exact h.ge z hz
          · intro z hz hno
            simp only [List.mem_cons] at hz
            rcases hz with rfl | hz
            · exact ⟨⟨o.i, o.g, e, .a s v y⟩, by simp, rfl, s, v, rfl, rfl⟩
            · obtain ⟨p, hp, hp2⟩ := h.pend z hz hno; exact ⟨p, by simp [hp], hp2⟩

/-- A pending block is bound. -/
theorem UnR.bound {nm id : Nat} {z : E} {ob : Obj} {i0 : Nat} : ∀ {un : List (Nat × Nat × E)} {U : Hp}, UnR P ρ un U → (un.map (·.2.1)).Nodup → (i0, nm, z) ∈ un → ρ.ids nm = none → z.fz = false → EOK drawSegs P (ρ.bind nm id) z ob →
    ∃ U', UnR P (ρ.bind nm id) un U' ∧ U'.Perm ((id, ob) :: U)
  | [], U, hu, hnd, hm, h0, hf, ok => by cases hm
  | (i, b, y) :: un, U, hu, hnd, hm, h0, hf, ok => by
    have le := Nm.le_bind (id := id) h0
    simp only [List.map_cons, List.nodup_cons] at hnd
    have rest : ∀ {un : List (Nat × Nat × E)} {U : Hp}, UnR P ρ un U → nm ∉ un.map (·.2.1) → UnR P (ρ.bind nm id) un U := by
      intro un U hu
      induction hu with
      | nil => intro _; exact .nil
      | pend h1 h2 ih =>
        intro hn
        simp only [List.map_cons, List.mem_cons, not_or] at hn
        refine .pend ?_ (ih hn.2)
        simp only [Nm.bind]; rw [if_neg (fun e => hn.1 e.symm)]; exact h1
      | done h1 h2 h3 h4 ih =>
        intro hn
        simp only [List.map_cons, List.mem_cons, not_or] at hn
        exact .done (le.1 _ _ h1) h2 (h3.mono le) (ih hn.2)
    by_cases hb : b = nm
    · subst hb
      have hyz : y = z := by
        rcases List.mem_cons.1 hm with e | hm
        · simp only [Prod.mk.injEq] at e; exact e.2.2.symm
        · exact absurd (List.mem_map.2 ⟨_, hm, rfl⟩) hnd.1
      subst hyz
      cases hu with
      | pend h1 h2 => exact ⟨_, .done (Nm.bind_at _ _ _) hf ok (rest h2 hnd.1), List.Perm.refl _⟩
      | done h1 _ _ _ => rw [h0] at h1; cases h1
    · have hm' : (i0, nm, z) ∈ un := by
        rcases List.mem_cons.1 hm with e | hm
        · simp only [Prod.mk.injEq] at e; exact absurd e.2.1.symm hb
        · exact hm
      cases hu with
      | pend h1 h2 =>
        obtain ⟨U', a, c⟩ := UnR.bound h2 hnd.2 hm' h0 hf ok
        refine ⟨U', .pend ?_ a, c⟩
        simp only [Nm.bind]; rw [if_neg hb]; exact h1
      | @done _ _ id' _ o' _ U0 h1 h2 h3 h4 =>
        obtain ⟨U', a, c⟩ := UnR.bound h4 hnd.2 hm' h0 hf ok
        refine ⟨(id', o') :: U', .done (le.1 _ _ h1) h2 (h3.mono le) a, ?_⟩
        exact (c.cons _).trans (List.Perm.swap _ _ _)

/-- What stands at an index that may be carried out now. -/
theorem DrI.ready (h : DrI P lo G sh opsA m eff sg ρ s e x ops pd sn listed U) {j : Nat} (hj : j ∈ Region.ready .any opsA listed) :
    j < opsA.size ∧ (∀ c, need opsA j c → listed.getD c false = true) ∧ j ∈ idxs (pd.map (·.i)) ops x.segs ∧ ∀ c ∈ idxs (pd.map (·.i)) ops x.segs, bt m j c = false := by
  obtain ⟨hun, oj, hoj, hpre0⟩ := mem_ready.1 hj
  have hjlt : j < opsA.size := (Array.getElem?_eq_some_iff.1 hoj).1
  have hpre : ∀ c, need opsA j c → listed.getD c false = true := by
    rintro c ⟨o, ho, e, me, hb, rfl⟩
    rw [hoj] at ho; cases ho
    exact hpre0 e me hb
  refine ⟨hjlt, hpre, (h.inv.mem j hjlt).1 hun, fun c hc => ?_⟩
  cases hb : bt m j c with
  | false => rfl
  | true =>
    exfalso
    have h1 := tc_listed h.reg.inside h.inv.down h.inv.size (h.reg.sound _ _ hb) hpre
    have hclt := h.inv.lt c hc
    have h2 := (h.inv.mem c hclt).2 hc
    have : c < listed.size := by rw [h.inv.size]; exact hclt
    simp [Array.getD, this] at h1 h2
    rw [h1] at h2; cases h2

/-- Something can be carried out, as long as something is left. -/
theorem DrI.some_ready (h : DrI P lo G sh opsA m eff sg ρ s e x ops pd sn listed U) (hne : idxs (pd.map (·.i)) ops x.segs ≠ []) : Region.ready .any opsA listed ≠ [] := by
  intro hnil
  cases hix : idxs (pd.map (·.i)) ops x.segs with
  | nil => exact hne hix
  | cons a tl =>
    have hlt := h.inv.lt a (by rw [hix]; simp)
    have hun : listed.getD a true = false := (h.inv.mem a hlt).2 (by rw [hix]; simp)
    have hmem : a ∈ Region.ready .any opsA listed := by
      rw [mem_ready]
      refine ⟨hun, opsA[a], by simp [hlt], fun e me hb => ?_⟩
      have hnd : need opsA a e.on := ⟨opsA[a], by simp [hlt], e, me, hb, rfl⟩
      have hin := h.reg.inside _ _ hnd
      cases hl : listed.getD e.on true with
      | true =>
        have : e.on < listed.size := by rw [h.inv.size]; exact hin
        simp [Array.getD, this] at hl ⊢; exact hl
      | false =>
        have hm2 := (h.inv.mem _ hin).1 hl
        rw [hix] at hm2
        have hd := h.reg.direct _ _ hlt hnd
        have hpw := h.inv.pw
        rw [hix] at hpw
        rcases List.mem_cons.1 hm2 with heq | hm3
        · rw [heq, h.reg.irrefl] at hd; cases hd
        · have := (List.rel_of_pairwise_cons hpw hm3).1
          rw [hd] at this; cases this
    rw [hnil] at hmem; cases hmem

/-- The temporaries that an operation looks at are there, if nothing that is pending writes them. -/
theorem DrI.rdr (h : DrI P lo G sh opsA m eff sg ρ s e x ops pd sn listed U) (hnp : NpR ρ e tmps pd) {j : Nat} {g : GOp} {oj : Oper} {e1 : Lx.T V} (hg : GOK P sh.n opsA j g oj) (hsg : sg j = sn) (hnot : ∀ c ∈ idxs (pd.map (·.i)) ops x.segs, bt m j c = false)
    (he : ∀ t ∈ rd oj g, e.get t = e1.get t) : RdR ρ e1 tmps oj g := by
  intro t ht v hv
  refine hnp t v (by rw [he t ht]; exact hv) fun q hq hd => ?_
  obtain ⟨⟨oq, q1, _, _⟩, _, _⟩ := h.pds q hq
  have hqm : q.i ∈ pd.map (·.i) := List.mem_map.2 ⟨q, hq, rfl⟩
  have := (h.reg.read q.i j oq oj g t (by rw [h.inv.here q.i hqm, hsg]) q1.at_ hg (by rw [q1.dst]; exact hd) ht).2
  rw [hnot q.i (by simp only [idxs, List.mem_append]; exact .inl (.inl hqm))] at this
  cases this

theorem fn_eval (tmps : Array Value) (ds : List Deferred) : ∀ f, (Act.mk tmps ds).eval (.func f) = .func (.func f) #[] #[] := fun _ => rfl

/-- What was reckoned ahead is carried out. -/
theorem drP_ok (hi : ItsOK drawSegs P sh.n k items) (hbey : Bey ρ0 s0 ρ s) (st : Sit P F f rnd pv ds sh base dss ρ s L) (h : DrI P s0.nb G sh opsA m eff sg ρ s e x ops pd sn listed U)
    (hs : Sat w F (L :: U :: T)) (hn : tmps.size = sh.n) (hnp : NpR ρ e tmps pd) {p : Pd} (hp : p ∈ pd) (hlt : p.i < opsA.size) (hpre : ∀ c, need opsA p.i c → listed.getD c false = true) (hnot : ∀ c ∈ idxs (pd.map (·.i)) ops x.segs, bt m p.i c = false) {is : List Nat}
    (next : ∀ ρ' pd' U' w' tmps', pd'.length + 1 = pd.length → Bey ρ0 s0 ρ' s → Sit P F f rnd pv ds sh base dss ρ' s L → DrI P s0.nb G sh opsA m eff sg ρ' s e x ops pd' sn (listed.setIfInBounds p.i true) U' → Sat w' F (L :: U' :: T) → tmps'.size = sh.n → NpR ρ' e tmps' pd' →
      Ev P Φ (lone (sh.fr tmps' (.inRegion opsA is :: items) dss) base w')) :
    Ev P Φ (lone (sh.fr tmps (.inRegion opsA (p.i :: is) :: items) dss) base w) := by
  obtain ⟨l1, l2, rfl⟩ := List.append_of_mem hp
  obtain ⟨⟨op, g1, g2, g3⟩, hval, hkd⟩ := h.pds p hp
  have hpm : p.i ∈ (l1 ++ p :: l2).map (·.i) := List.mem_map.2 ⟨p, hp, rfl⟩
  have hrd : RdR ρ p.e tmps op p.g := h.rdr hnp g1 (h.inv.here p.i hpm) hnot g3
  have hrest : idxs ((l1 ++ p :: l2).map (·.i)) ops x.segs = l1.map (·.i) ++ p.i :: (l2.map (·.i) ++ ops.map (·.i) ++ x.segs.flatten.map (·.i)) := by simp [idxs]
  have hrest2 : idxs ((l1 ++ l2).map (·.i)) ops x.segs = l1.map (·.i) ++ (l2.map (·.i) ++ ops.map (·.i) ++ x.segs.flatten.map (·.i)) := by simp [idxs]
  have inv' := inv_remove (pd' := (l1 ++ l2).map (·.i)) (seg' := ops) h.inv hlt hpre hrest hrest2 (fun q hq => h.inv.here q (by simp only [List.map_append, List.map_cons, List.mem_append, List.mem_cons] at hq ⊢; rcases hq with h | h <;> simp [h])) h.inv.num h.inv.gok
  have hsub : ∀ q ∈ l1 ++ l2, q ∈ l1 ++ p :: l2 := fun q hq => by simp only [List.mem_append, List.mem_cons] at hq ⊢; rcases hq with h | h <;> simp [h]
  have hback : ∀ q ∈ l1 ++ p :: l2, q ≠ p → q ∈ l1 ++ l2 := fun q hq hne => by
    simp only [List.mem_append, List.mem_cons] at hq ⊢
    rcases hq with h | h | h
    · exact .inl h
    · exact absurd h hne
    · exact .inr h
  have hnei : ∀ q ∈ l1 ++ l2, q.i ≠ p.i := by
    intro q hq e0
    have hnd := h.inv.nodup
    rw [hrest, List.nodup_append] at hnd
    obtain ⟨_, n2, n3⟩ := hnd
    rw [List.nodup_cons] at n2
    rcases List.mem_append.1 hq with hq | hq
    · exact n3 q.i (List.mem_map.2 ⟨q, hq, rfl⟩) p.i (by simp) e0
    · exact n2.1 (by rw [← e0]; simp only [List.mem_append]; exact .inl (.inl (List.mem_map.2 ⟨q, hq, rfl⟩)))
  -- the temporaries behind it
  have hnp' : ∀ {ρ' : Nm} {u : Value}, ρ ≤ ρ' → conc ρ' p.val = some u → NpR ρ' e (put tmps p.g.d u) (l1 ++ l2) := by
    intro ρ' u le hc t v hv hq
    cases hd : p.g.d with
    | none =>
      obtain ⟨u', a, b⟩ := hnp t v hv fun q hq2 => by
        by_cases e0 : q = p
        · subst e0; rw [hd]; simp
        · exact hq q (hback q hq2 e0)
      exact ⟨u', a, conc_mono le _ b⟩
    | some d =>
      by_cases e0 : d = t
      · subst e0
        have := hval d hd
        rw [hv] at this; cases this
        have hlt2 := g1.lt d hd
        exact ⟨u, by simp [put, hn, hlt2], hc⟩
      · obtain ⟨u', a, b⟩ := hnp t v hv fun q hq2 => by
          by_cases e1 : q = p
          · subst e1; rw [hd]; simp [e0]
          · exact hq q (hback q hq2 e1)
        refine ⟨u', ?_, conc_mono le _ b⟩
        simp only [put]
        rw [Array.getElem?_setIfInBounds_ne e0]; exact a
  have hlen : (l1 ++ l2).length + 1 = (l1 ++ p :: l2).length := by simp; omega
  -- where no block is made
  have plain : ∀ {u : Value}, conc ρ p.val = some u → (∀ s1 v y, p.k ≠ .a s1 v y) → Ev P Φ (lone (sh.fr (put tmps p.g.d u) (.inRegion opsA is :: items) dss) base w) := by
    intro u hc hk
    refine next ρ (l1 ++ l2) U w _ hlen hbey st ⟨h.reg, inv', fun q hq => h.pds q (hsub q hq), h.un, h.nms, h.lt, h.ge, fun y hy hno => ?_⟩ hs (by rw [size_put]; exact hn) (hnp' (Nm.le_refl ρ) hc)
    obtain ⟨q, hq, hq2, s1, v, hq3, hq4⟩ := h.pend y hy hno
    exact ⟨q, hback q hq (fun e0 => by subst e0; exact hk _ _ _ hq3), hq2, s1, v, hq3, hq4⟩
  cases hpk : p.k with
  | skip =>
    rw [hpk] at hkd
    have hw := hrd.wanted g1 (c := false) hkd
    have hst := st_op_skip (P := P) (s := sh) (tmps := tmps) (k := items) (ds := dss) (cs := base) (w := w) (ops := opsA) (i := p.i) (rest := is) (by simp [g1.at_, hw])
    simp only [g1.at_, Option.bind_some, g1.dst] at hst
    have hv : p.val = undV := by simp [Pd.val, hpk]
    exact .step hst (plain (by rw [hv]; rfl) (fun s1 v y e0 => by rw [hpk] at e0; cases e0))
  | q q v =>
    rw [hpk] at hkd
    obtain ⟨k1, k2, k3, _⟩ := hkd
    have hw := hrd.wanted g1 k1
    obtain ⟨u, hc, hrun⟩ := qok k2 st.hr hs (hrd.ops g2 dss) k3
    have hex := resX_ok g1.res _ (fn_eval tmps dss) w (by rw [hrun]; trivial)
    rw [hrun] at hex
    refine .step (st_value g1.at_ hw (.inr (not_defer hex (by simp))) hex) ?_
    rw [g1.dst]
    have hv : p.val = v := by simp [Pd.val, hpk]
    exact plain (by rw [hv]; exact hc) (fun s1 v y e0 => by rw [hpk] at e0; cases e0)
  | a s1 v y =>
    rw [hpk] at hkd
    obtain ⟨k1, ⟨a, k2, k3⟩, k4, k5⟩ := hkd
    have hw := hrd.wanted g1 k1
    obtain ⟨u, ob, hrun, hfz, hc, hok⟩ := aok (s := s1) k2 (hrd.ops g2 dss) k4 k3 (w := w) (P := P) (D := drawSegs)
    have hex := resX_ok g1.res _ (fn_eval tmps dss) w (by rw [hrun]; trivial)
    rw [hrun] at hex
    refine .step (st_value g1.at_ hw (.inr (not_defer hex (by simp))) hex) ?_
    rw [g1.dst]
    have hv : p.val = v := by simp [Pd.val, hpk]
    have le := Nm.le_bind (id := w.heap.size) k4
    obtain ⟨U', hu', hperm⟩ := h.un.bound h.nms k5 k4 hfz hok
    have hltn := h.lt _ k5
    have hgen := h.ge _ k5
    have hh' : HR drawSegs P (ρ.bind s1.nb w.heap.size) s F L := by
      refine st.hr.mono le (fun b z hz => ?_) (fun b hb => ?_) st.hr.nc
      · obtain ⟨id, _, a1, _⟩ := st.hr.ent b z hz
        simp only [Nm.bind]; rw [if_neg (fun e0 => by rw [e0, k4] at a1; cases a1)]
      · simp only [Nm.bind]; rw [if_neg (by simp at hltn; omega)]; exact st.hr.fresh b hb
    have hs' : Sat { w with heap := w.heap.push ob } F (L :: U' :: T) := (hs.push ob).perm (by
      simp only [pt, List.flatten_cons, List.cons_append, List.nil_append]
      refine List.perm_middle.symm.trans (List.Perm.append_left _ ?_)
      exact (hperm.symm.append_right _))
    refine next _ (l1 ++ l2) U' _ _ hlen ⟨Nm.le_trans hbey.le le, fun b hb => ?_, hbey.nb⟩ (st.mono le hh') ⟨h.reg, inv', fun q hq => ?_, hu', h.nms, h.lt, h.ge, fun z hz hno => ?_⟩ hs' (by rw [size_put]; exact hn) (hnp' le (by rw [hv]; exact hc))
    · simp only [Nm.bind]; rw [if_neg (by simp at hgen; omega)]; exact hbey.same b hb
    · obtain ⟨q1, q2, q3⟩ := h.pds q (hsub q hq)
      refine ⟨q1, q2, ?_⟩
      cases hqk : q.k with
      | skip => rw [hqk] at q3; exact q3
      | q _ _ => rw [hqk] at q3; exact q3
      | a s2 v2 y2 =>
        rw [hqk] at q3
        obtain ⟨r1, r2, r3, r4⟩ := q3
        refine ⟨r1, r2, ?_, r4⟩
        simp only [Nm.bind]
        rw [if_neg]
        · exact r3
        · intro e0
          have hinj : ∀ {l : List (Nat × Nat × E)}, (l.map (·.2.1)).Nodup → ∀ a ∈ l, ∀ b ∈ l, a.2.1 = b.2.1 → a = b := by
            intro l
            induction l with
            | nil => intro _ a ha; cases ha
            | cons c l ih =>
              intro hnd a ha b hb hab
              simp only [List.map_cons, List.nodup_cons] at hnd
              rcases List.mem_cons.1 ha with ha' | ha' <;> rcases List.mem_cons.1 hb with hb' | hb'
              · rw [ha', hb']
              · exact absurd (List.mem_map.2 ⟨b, hb', by rw [← hab, ha']⟩) hnd.1
              · exact absurd (List.mem_map.2 ⟨a, ha', by rw [hab, hb']⟩) hnd.1
              · exact ih hnd.2 a ha' b hb' hab
          have := hinj h.nms _ r4 _ k5 e0
          simp only [Prod.mk.injEq] at this
          exact hnei q hq this.1
    · have hne : z.2.1 ≠ s1.nb := by
        intro e0; rw [e0, Nm.bind_at] at hno; cases hno
      simp only [Nm.bind] at hno
      rw [if_neg hne] at hno
      obtain ⟨q, hq, hq2, s2, v2, hq3, hq4⟩ := h.pend z hz hno
      refine ⟨q, hback q hq (fun e0 => ?_), hq2, s2, v2, hq3, hq4⟩
      subst e0
      rw [hpk] at hq3
      simp only [PdK.a.injEq] at hq3
      exact hne (by rw [← hq4, hq3.1])
end
end Go.Lx
