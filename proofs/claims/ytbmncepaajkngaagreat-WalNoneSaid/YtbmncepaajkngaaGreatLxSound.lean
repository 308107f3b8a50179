/- The runner does what the machine does: the law. -/
import Derived.Test.YtbmncepaajkngaaGreatLxOpen2
namespace Go.Lx
set_option linter.unusedSimpArgs false
set_option linter.unusedVariables false

section
variable {P : Program} {F : Know} {G : Pg} {Φ : Machine → Prop} {T : SH} {rnd : Option Nat} {sh : Sh} {ρ ρ0 ρ1 : Nm} {s s0 s1 : St} {base : List Frame} {f : Nat} {pv : Option V} {ds : List Dt} {dss : List Deferred} {L L1 : Hp} {w : World} {k : List RI} {e : Lx.T V} {n : Nat} {tmps : Array Value} {items : List Item}
variable {opsA : Array Oper} {m : List Nat} {eff : Nat → Bool} {sg : Nat → Nat} {x : Dr} {o : DOp} {ops : List DOp} {pd : List Pd} {sn : Nat} {listed : Array Bool} {U : Hp} {lo : Nat} {oo : Oper} {fuel t : Nat}

/-- Behind an operation that wrote or called. -/
theorem DrI.done1 (h : DrI P s0.nb G sh opsA m eff sg ρ s e x (o :: ops) pd sn listed U) (hg : GOK P sh.n opsA o.i o.g oo) (hlt : o.i < opsA.size) (hpre : ∀ c, need opsA o.i c → listed.getD c false = true) (hnot : ∀ c ∈ idxs (pd.map (·.i)) (o :: ops) x.segs, bt m o.i c = false) (heffr : effR o.g.r = true)
    {ρ' : Nm} {s' : St} {v : V} {U' : Hp} (le : ρ ≤ ρ') (same : ∀ b, b < s.nb → ρ'.ids b = ρ.ids b) (hnb : s.nb ≤ s'.nb) (hu : UnR P ρ (x.un.filter fun y => memN y.1 o.ck) U') (hchk : chkV o.ck s' x.pe = true) :
    DrI P s0.nb G sh opsA m eff sg ρ' s' (putT e o.g.d v) ⟨x.segs, x.un.filter fun y => memN y.1 o.ck, x.pe⟩ ops pd sn (listed.setIfInBounds o.i true) U' := by
  have inv := h.inv
  have hrest : idxs (pd.map (·.i)) (o :: ops) x.segs = pd.map (·.i) ++ o.i :: (ops.map (·.i) ++ x.segs.flatten.map (·.i)) := by simp [idxs]
  have hrest2 : idxs (pd.map (·.i)) ops x.segs = pd.map (·.i) ++ (ops.map (·.i) ++ x.segs.flatten.map (·.i)) := by simp [idxs]
  have inv' := inv_remove (pd' := pd.map (·.i)) (seg' := ops) inv hlt hpre hrest hrest2 inv.here ⟨fun z hz => inv.num.1 z (by simp [hz]), inv.num.2⟩ (fun z hz => inv.gok z (by simp only [List.mem_append, List.mem_cons] at hz ⊢; rcases hz with hz | hz <;> simp [hz]))
  obtain ⟨_, _, hkeep, hck⟩ := inv.gok o (by simp)
  have hsub : ∀ y ∈ (x.un.filter fun y => memN y.1 o.ck), y ∈ x.un := fun y hy => (List.mem_filter.1 hy).1
  have hu' : ∀ {un : List (Nat × Nat × E)} {U' : Hp}, (∀ y ∈ un, y.2.1 < s.nb) → UnR P ρ un U' → UnR P ρ' un U' := by
    intro un U' hlt hu
    induction hu with
    | nil => exact .nil
    | @pend i nm z un U h1 h2 ih => exact .pend ((same nm (hlt (i, nm, z) (by simp))).trans h1) (ih fun y hy => hlt y (by simp [hy]))
    | done h1 h2 h3 h4 ih => exact .done (le.1 _ _ h1) h2 (h3.mono le) (ih fun y hy => hlt y (by simp [hy]))
  refine ⟨h.reg, inv', fun p hp => ?_, hu' (fun y hy => h.lt y (hsub y hy)) hu, ?_, fun y hy => Nat.lt_of_lt_of_le (h.lt y (hsub y hy)) hnb, fun y hy => h.ge y (hsub y hy), fun y hy hno => ?_⟩
  · obtain ⟨b1, b2⟩ := h.old hg v hp
    refine ⟨b1, b2, ?_⟩
    have hk := (h.pds p hp).kd
    obtain ⟨op, g1, _, _⟩ := b1
    have hpi : bt m o.i p.i = false := hnot p.i (by rw [hrest]; simp only [List.mem_append]; exact .inl (List.mem_map.2 ⟨p, hp, rfl⟩))
    cases hpk : p.k with
    | skip => rw [hpk] at hk; exact hk
    | q q u =>
      rw [hpk] at hk
      obtain ⟨k1, k2, k3, k4⟩ := hk
      refine ⟨k1, k2, ?_, k4⟩
      cases hm : memB p.g.r with
      | false => rw [← q_keep k2 (evV p.e) (s := s) (.inl hm)]; exact k3
      | true =>
        obtain ⟨y, hy, y1, y2, y3, y4⟩ := k4 hm
        have hin := hck heffr p.i p.g op g1 (by rw [hm]; rfl) hpi
        have := chk_ok hchk y hy (by rw [y1]; exact hin)
        rw [y2, y3, y4] at this
        exact this
    | a s1 u y =>
      rw [hpk] at hk
      obtain ⟨k1, ⟨a, k2, k2'⟩, k3, k4⟩ := hk
      refine ⟨k1, ⟨a, k2, k2'⟩, ?_, ?_⟩
      · rw [same _ (by have := h.lt _ k4; simpa using this)]; exact k3
      · refine List.mem_filter.2 ⟨k4, ?_⟩
        exact hck heffr p.i p.g op g1 (by rw [(act_eff.2.2 a k2).2]; simp) hpi
  · exact (List.Sublist.map _ List.filter_sublist).nodup h.nms
  · have hy' := hsub y hy
    rw [same _ (h.lt y hy')] at hno
    exact h.pend y hy' hno

/-- An operation that writes or calls is carried out. -/
theorem drE_ok (hS : Sound P F G n) (hG : PgOK drawSegs P G) (hi : ItsOK drawSegs P sh.n k items) (hbey : Bey ρ0 s0 ρ s) (st : Sit P F f rnd pv ds sh base dss ρ s L) (h : DrI P s0.nb G sh opsA m eff sg ρ s e x (o :: ops) pd sn listed U)
    (hlen : (idxs (pd.map (·.i)) (o :: ops) x.segs).length ≤ fuel + 1) (hs : Sat w F (L :: U :: T)) (hn : tmps.size = sh.n) (hnp : NpR ρ e tmps pd) (hlt : o.i < opsA.size) (hpre : ∀ c, need opsA o.i c → listed.getD c false = true) (hnot : ∀ c ∈ idxs (pd.map (·.i)) (o :: ops) x.segs, bt m o.i c = false)
    (hfin : Fin P F Φ T rnd sh ρ0 s0 base (stepOpD G (run G n) f rnd pv ds k e o ops x s)) {y : VE → St → Option OR} (hgd : guardV e o.g.g = some true) (ha : actV G.hb G.xf G.me o.g.r = .x y) :
    Ev P Φ (lone (sh.fr tmps (.inRegion opsA (o.i :: Region.linearise.go .any opsA fuel t (listed.setIfInBounds o.i true) []) :: items) dss) base w) := by
  obtain ⟨⟨oo, hg, hco⟩, heff, hkeep, hck⟩ := h.inv.gok o (by simp)
  have heffr := act_eff.1 y ha
  have hrd : RdR ρ e tmps oo o.g := h.rdr hnp hg (h.inv.num.1 o (by simp)) hnot (fun _ _ => rfl)
  have hw := hrd.wanted hg hgd
  have hd : ∀ z, o.g.d = some z → z < tmps.size := fun z e0 => by rw [hn]; exact hg.lt z e0
  -- what it may look into is born
  have hbound : ∀ z ∈ x.un, memN z.1 o.ck = false → ρ.ids z.2.1 ≠ none := by
    intro z hz hm hno
    obtain ⟨p, hp, hp2, s1, v, hp3, _⟩ := h.pend z hz hno
    have hk := h.pds p hp
    obtain ⟨op, g1, _, _⟩ := hk.op
    have hkk := hk.kd
    rw [hp3] at hkk
    obtain ⟨_, ⟨a, k2, _⟩, _, _⟩ := hkk
    have hpi : bt m o.i p.i = false := hnot p.i (by simp only [idxs, List.mem_append]; exact .inl (.inl (List.mem_map.2 ⟨p, hp, rfl⟩)))
    have := hck heffr p.i p.g op g1 (by rw [(act_eff.2.2 a k2).2]; simp) hpi
    rw [hp2, hm] at this; cases this
  obtain ⟨L', U', hh', hs', hu'⟩ := born_ok o.ck st.hr hs h.un hbound
  have hnb' : (bornS (x.un.filter fun y => !memN y.1 o.ck) s).nb = s.nb := bornS_nb _ _
  simp only [stepOpD, hgd, stepActD, ha, birthK_eq] at hfin
  generalize bornS (x.un.filter fun y => !memN y.1 o.ck) s = sb at *
  have st' : Sit P F f rnd pv ds sh base dss ρ sb L' := st.to hh'
  have hbey' : Bey ρ0 s0 ρ sb := ⟨hbey.le, hbey.same, by rw [hnb']; exact hbey.nb⟩
  cases hq : y (evV e) sb with
  | none => simp only [hq, Fin] at hfin
  | some out =>
    simp only [hq] at hfin
    have hxr := xok (T := U' :: T) (w := w) (r := (Act.mk tmps dss).eval) hG hh' hs' ha (hrd.ops hco dss) hq
    -- how it goes on with a value
    have nx : ∀ (v : V) (u : Value) (s2 : St) (ρ' : Nm) (L2 : Hp) (w' : World), Went drawSegs P ρ ρ' sb s2 F L2 (U' :: T) w' → conc ρ' v = some u →
        Fin P F Φ T rnd sh ρ0 s0 base (nxDr (run G n) f rnd pv ds k e o.g.d o.ck ops ⟨x.segs, x.un.filter fun y => memN y.1 o.ck, x.pe⟩ v s2) →
        Ev P Φ (lone (sh.fr (put tmps o.g.d u) (.inRegion opsA (Region.linearise.go .any opsA fuel t (listed.setIfInBounds o.i true) []) :: items) dss) base w') := by
      intro v u s2 ρ' L2 w' hwent hc hf
      simp only [nxDr] at hf
      cases hch : chkV o.ck s2 x.pe with
      | false => simp only [hch, cond_false, Fin] at hf
      | true =>
        simp only [hch, cond_true, putKe_eq] at hf
        refine hS _ _ _ _ _ _ _ (.dr ops ⟨x.segs, x.un.filter fun y => memN y.1 o.ck, x.pe⟩) _ _ _ _ _ _ _ _ _ (hbey'.trans hwent.bey) (st'.mono hwent.le hwent.hr) hf opsA m eff sg fuel pd sn _ t U' w' _ items
          (h.done1 (v := v) hg hlt hpre hnot heffr hwent.le (fun b hb => hwent.same b (by rw [hnb']; exact hb)) (by rw [← hnb']; exact hwent.nb) hu' hch) ?_ hwent.sat (by rw [size_put]; exact hn) ?_ hi
        · simp [idxs] at hlen ⊢; omega
        · intro t2 v2 hv2 hq2
          change (putT e o.g.d v).get t2 = some v2 at hv2
          rw [putT_get] at hv2
          split at hv2
          · rename_i e0
            cases hv2
            refine ⟨u, ?_, hc⟩
            have := hd t2 e0
            simp [put, e0, this]
          · rename_i e0
            obtain ⟨u2, a1, a2⟩ := hnp t2 v2 hv2 hq2
            refine ⟨u2, ?_, conc_mono hwent.le _ a2⟩
            cases hdd : o.g.d with
            | none => simpa [put] using a1
            | some d =>
              simp only [put]
              rw [Array.getElem?_setIfInBounds_ne (fun e1 => e0 (by rw [hdd, e1]))]; exact a1
    have px : ∀ (v : V) (u : Value) (s2 : St) (ρ' : Nm) (L2 : Hp) (w' : World) (todo : List Item), Went drawSegs P ρ ρ' sb s2 F L2 (U' :: T) w' → conc ρ' v = some u → Fin P F Φ T rnd sh ρ0 s0 base (run G n f rnd pv ds k .nil s2 (.pan v)) →
        Ev P Φ (lone { sh.fr tmps todo dss with mode := .panicking [{ v := u, recovered := false }] } base w') := by
      intro v u s2 ρ' L2 w' todo hwent hc hf
      exact hS _ _ _ _ _ _ _ _ _ _ _ _ _ _ _ _ _ (hbey'.trans hwent.bey) (st'.mono hwent.le hwent.hr) hf w' tmps todo u hwent.sat.drop2 hn (TmR.nil ρ' tmps) hc
    have hfn := fn_eval tmps dss
    -- the machine's own run of it
    have hgood : Good ((rsem P (Act.mk tmps dss).eval o.g.r).run P w) := by
      cases out with
      | v v s' => obtain ⟨u, w', _, _, h | ⟨h, _⟩, _⟩ := hxr <;> rw [h] <;> trivial
      | call g args => obtain ⟨us, _, h⟩ := hxr; rw [h]; trivial
      | round l args =>
        obtain ⟨us, id, a1, a2, h⟩ := hxr
        simp only [stepOutD] at hfin
        obtain ⟨g', tm, asg, body, hr, _⟩ := round_ok (ρ := ρ) (s := sb) (L := L') (T := U' :: T) (Φ := fun _ => True) (f := f) (c := sh.fr tmps (.inRegion opsA (o.i :: []) :: items) dss) (cs := base) hS hh' a2 a1 rfl h
          (fun a b hb => by simp only [hb, goOn] at hfin; exact hfin) (fun v rec s' _ _ _ _ _ _ _ => .now trivial) (fun v s' _ _ _ _ _ _ _ => .now trivial) hs'
        rw [hr]; trivial
      | pan v => obtain ⟨u, _, h⟩ := hxr; rw [h]; trivial
      | dfr d => obtain ⟨x, _, h⟩ := hxr; rw [h]; trivial
      | rcv => simp only [XR] at hxr; rw [hxr]; trivial
    have hex := resX_ok hg.res _ hfn w hgood
    rw [← hex] at hxr
    cases out with
    | v v s' =>
      obtain ⟨u, w', ρ', L2, hrun, hwent, hc⟩ := hxr
      simp only [stepOutD] at hfin
      have hnext := nx v u s' ρ' L2 w' hwent hc hfin
      rcases hrun with hrun | ⟨hrun, rfl⟩
      · refine .step (st_value hg.at_ hw (.inr (not_defer hrun (by simp))) hrun) ?_
        rw [hg.dst]; exact hnext
      · refine .step (st_skipped hg.at_ hw (.inr (not_defer hrun (by simp))) hrun) ?_
        rw [hg.dst]; exact hnext
    | call g' args =>
      obtain ⟨us, hargs, hrun⟩ := hxr
      simp only [stepOutD] at hfin
      refine .step (st_enter hg.at_ hw (.inr (not_defer hrun (by simp))) hrun) ?_
      refine call_ok (ρ := ρ) (s := sb) (L := L') (T := U' :: T) hS hG hh' hargs rfl ?_ ?_ ?_ hs'
      · intro a b hb; simp only [hb, goOn, Fin] at hfin
      · intro v rec s' hres ρ' L2 w' u hwent hc
        simp only [hres, goOn] at hfin
        have hf := finish_fr (s := sh) (tmps := tmps) (k := items) (ds := dss) (ops := opsA) (i := o.i) (rest := Region.linearise.go .any opsA fuel t (listed.setIfInBounds o.i true) []) u
        rw [hg.at_] at hf
        simp only [Option.bind_some, hg.dst] at hf
        rw [hf]
        exact nx v u s' ρ' L2 w' hwent hc hfin
      · intro v s' hres ρ' L2 w' u hwent hc
        simp only [hres, goOn] at hfin
        exact px v u s' ρ' L2 w' _ hwent hc hfin
    | round l args =>
      obtain ⟨us, id, hargs, hl, hrun⟩ := hxr
      simp only [stepOutD] at hfin
      obtain ⟨g', tm, asg, body, hr, hev⟩ := round_ok (ρ := ρ) (s := sb) (L := L') (T := U' :: T) (Φ := Φ) (f := f) (c := sh.fr tmps (.inRegion opsA (o.i :: Region.linearise.go .any opsA fuel t (listed.setIfInBounds o.i true) []) :: items) dss) (cs := base) hS hh' hl hargs rfl hrun
        (fun a b hb => by simp only [hb, goOn, Fin] at hfin)
        (fun v rec s' hres ρ' L2 w' u hwent hc => by
          simp only [hres, goOn] at hfin
          have hf := finish_fr (s := sh) (tmps := tmps) (k := items) (ds := dss) (ops := opsA) (i := o.i) (rest := Region.linearise.go .any opsA fuel t (listed.setIfInBounds o.i true) []) u
          rw [hg.at_] at hf
          simp only [Option.bind_some, hg.dst] at hf
          rw [hf]
          exact nx v u s' ρ' L2 w' hwent hc hfin)
        (fun v s' hres ρ' L2 w' u hwent hc => by
          simp only [hres, goOn] at hfin
          exact px v u s' ρ' L2 w' _ hwent hc hfin) hs'
      exact .step (st_round hg.at_ hw (.inr (not_defer hr (by simp))) hr) hev
    | pan v =>
      obtain ⟨u, hc, hrun⟩ := hxr
      simp only [stepOutD] at hfin
      exact .step (st_panic hg.at_ hw (.inr (not_defer_pan hrun)) hrun) (px v u sb ρ L' w _ (Went.refl hh' hs') hc hfin)
    | dfr d => simp only [stepOutD, Fin] at hfin
    | rcv => simp only [stepOutD, Fin] at hfin

/-- THE LAW of regions whose order is open. -/
theorem dr_ok (hS : Sound P F G n) (hG : PgOK drawSegs P G) (hi : ItsOK drawSegs P sh.n k items) : ∀ (fuel : Nat) (ρ : Nm) (pd : List Pd) (listed : Array Bool) (t : Nat) (U : Hp) (w : World) (tmps : Array Value), Bey ρ0 s0 ρ s → Sit P F f rnd pv ds sh base dss ρ s L → DrI P s0.nb G sh opsA m eff sg ρ s e x ops pd sn listed U →
    (idxs (pd.map (·.i)) ops x.segs).length ≤ fuel → Sat w F (L :: U :: T) → tmps.size = sh.n → NpR ρ e tmps pd → Fin P F Φ T rnd sh ρ0 s0 base (run G (n + 1) f rnd pv ds k e s (.dr ops x)) →
    Ev P Φ (lone (sh.fr tmps (.inRegion opsA (Region.linearise.go .any opsA fuel t listed []) :: items) dss) base w) := by
  intro fuel
  induction fuel with
  | zero =>
    intro ρ pd listed t U w tmps hbey st h hlen hs hn hnp hfin
    have h0 : idxs (pd.map (·.i)) ops x.segs = [] := List.length_eq_zero_iff.1 (by omega)
    simp only [idxs, List.append_eq_nil_iff, List.map_eq_nil_iff] at h0
    obtain ⟨⟨rfl, rfl⟩, _⟩ := h0
    rw [run_succ] at hfin
    exact drA_ok hS hi hbey st h hlen hs hn hnp hfin
  | succ fuel ih =>
    intro ρ pd listed t U w tmps hbey st h hlen hs hn hnp hfin
    have hfin0 := hfin
    rw [run_succ] at hfin
    -- one that can be carried out
    have act : (ops = [] → pd ≠ []) → idxs (pd.map (·.i)) ops x.segs ≠ [] → (∀ o ops', ops = o :: ops' → ∃ y, guardV e o.g.g = some true ∧ actV G.hb G.xf G.me o.g.r = .x y) →
        Ev P Φ (lone (sh.fr tmps (.inRegion opsA (Region.linearise.go .any opsA (fuel + 1) t listed []) :: items) dss) base w) := by
      intro hnp0 hne hhead
      have hrne := h.some_ready hne
      simp only [Region.linearise.go]
      change Ev P Φ (lone (sh.fr tmps (.inRegion opsA (match (Region.ready .any opsA listed)[t % (Region.ready .any opsA listed).length]? with
        | some i => Region.linearise.go .any opsA fuel (t / (Region.ready .any opsA listed).length) (listed.setIfInBounds i true) [i]
        | none => [].reverse) :: items) dss) base w)
      cases hpick : (Region.ready .any opsA listed)[t % (Region.ready .any opsA listed).length]? with
      | none =>
        exfalso
        have hlt : t % (Region.ready .any opsA listed).length < (Region.ready .any opsA listed).length := Nat.mod_lt _ (List.length_pos_iff.2 hrne)
        rw [List.getElem?_eq_none_iff] at hpick
        omega
      | some j =>
        have hjr : j ∈ Region.ready .any opsA listed := List.mem_of_getElem? hpick
        obtain ⟨hjlt, hpre, hjm, hnot⟩ := h.ready hjr
        simp only
        rw [linearise_go_acc]
        simp only [List.reverse_cons, List.reverse_nil, List.nil_append, List.cons_append]
        by_cases hjpd : ∃ p ∈ pd, p.i = j
        · obtain ⟨p, hp, rfl⟩ := hjpd
          refine drP_ok hi hbey st h hs hn hnp hp hjlt hpre hnot fun ρ' pd' U' w' tmps' hlen' hbey' st' h' hs' hn' hnp' => ?_
          refine ih ρ' pd' _ _ U' w' tmps' hbey' st' h' ?_ hs' hn' hnp' hfin0
          simp [idxs] at hlen ⊢; omega
        · cases ops with
          | nil =>
            exfalso
            simp only [idxs, List.map_nil, List.append_nil, List.mem_append] at hjm
            rcases hjm with hm | hm
            · obtain ⟨q, hq, e0⟩ := List.mem_map.1 hm; exact hjpd ⟨q, hq, e0⟩
            · cases hpd : pd with
              | nil =>
                exact hnp0 rfl hpd
              | cons p pd2 =>
                have hp : p ∈ pd := by rw [hpd]; simp
                have hrel : Rel m eff sg p.i j := by
                  have := h.inv.pw
                  simp only [idxs, List.map_nil, List.append_nil, List.pairwise_append] at this
                  exact this.2.2 p.i (List.mem_map.2 ⟨p, hp, rfl⟩) j hm
                obtain ⟨z, hz, rfl⟩ := List.mem_map.1 hm
                have h1 := h.inv.here p.i (List.mem_map.2 ⟨p, hp, rfl⟩)
                have h2 := Num.ge h.inv.num.2 z hz
                have := hrel.2 (.inr (by omega))
                rw [hnot p.i (by simp only [idxs, List.mem_append]; exact .inl (.inl (List.mem_map.2 ⟨p, hp, rfl⟩)))] at this; cases this
          | cons o ops' =>
            obtain ⟨y, hgd, ha⟩ := hhead o ops' rfl
            have hjc : j = o.i := by
              by_cases e0 : j = o.i
              · exact e0
              · exfalso
                obtain ⟨_, heff, _, _⟩ := h.inv.gok o (by simp)
                have hrel : Rel m eff sg o.i j := by
                  have := h.inv.pw
                  simp only [idxs, List.map_cons, List.append_assoc] at this hjm
                  rw [List.pairwise_append] at this
                  have h2 := this.2.1
                  simp only [List.cons_append] at h2
                  refine List.rel_of_pairwise_cons h2 ?_
                  rcases List.mem_append.1 hjm with hm | hm
                  · obtain ⟨q, hq, e2⟩ := List.mem_map.1 hm; exact absurd ⟨q, hq, e2⟩ hjpd
                  · simp only [List.cons_append, List.mem_cons] at hm
                    rcases hm with hm | hm
                    · exact absurd hm e0
                    · exact hm
                have := hrel.2 (.inl (by rw [heff]; exact act_eff.1 y ha))
                rw [hnot o.i (by simp [idxs])] at this; cases this
            subst hjc
            exact drE_ok hS hG hi hbey st h hlen hs hn hnp hjlt hpre hnot hfin hgd ha
    cases ops with
    | nil =>
      cases pd with
      | nil => exact drA_ok hS hi hbey st h hlen hs hn hnp hfin
      | cons p pd2 => exact act (fun _ => by simp) (by simp [idxs]) (fun o ops' e0 => by cases e0)
    | cons o ops' =>
      by_cases hx : ∃ y, guardV e o.g.g = some true ∧ actV G.hb G.xf G.me o.g.r = .x y
      · exact act (fun e0 => by cases e0) (by simp [idxs]) (fun o2 ops2 e0 => by simp only [List.cons.injEq] at e0; obtain ⟨rfl, rfl⟩ := e0; exact hx)
      · exact drB_ok hS hi hbey st h hlen hs hn hnp hfin (fun hgd y ha => hx ⟨y, hgd, ha⟩)

/-- THE LAW: a run of the runner is a run of the machine. -/
theorem sound (hG : PgOK drawSegs P G) : ∀ n, Sound P F G n
  | 0 => by
    intro f rnd pv ds k e s md sh base dss ρ L T Φ ρ0 s0 _ _ hfin
    exact absurd hfin (by simp [run, Fin])
  | n + 1 => by
    have hS := sound hG n
    intro f rnd pv ds k e s md sh base dss ρ L T Φ ρ0 s0 hbey st hfin
    cases md with
    | op ops =>
      cases ops with
      | nil =>
        have plain : ∀ w tmps items, Sat w F (L :: T) → tmps.size = sh.n → TmR ρ e tmps → ItsOK drawSegs P sh.n k items → Ev P Φ (lone (sh.fr tmps items dss) base w) := fun w tmps items hs hn he hi =>
          code_ok hS hG st hs hn he hi (hfin.now hbey st.hr hs)
        refine ⟨fun w tmps items opsA idxs hs hn he hi ho => ?_, fun _ => plain⟩
        cases ho
        exact .step st_region_end (plain w tmps items hs hn he hi)
      | cons g gs =>
        refine ⟨fun w tmps items opsA idxs hs hn he hi ho => ?_, fun e0 => by cases e0⟩
        cases ho with
        | cons h1 h2 => exact op_ok hS hG st h1 h2 hs hn he hi (hfin.now hbey st.hr hs)
    | dr ops x =>
      intro opsA m eff sg fuel pd sn listed t U w tmps items h hlen hs hn hnp hi
      exact dr_ok hS hG hi fuel ρ pd listed t U w tmps hbey st h hlen hs hn hnp hfin
    | ret =>
      intro w tmps todo hs hn he
      rw [run_succ] at hfin
      cases rnd with
      | some l => simp only [stepV, Fin] at hfin
      | none => exact leaveM_ok hS hG st hs hn he (.inl ⟨rfl, rfl, rfl⟩) (hfin.now hbey st.hr hs)
    | pan v =>
      intro w tmps todo u hs hn he hc
      exact leaveM_ok hS hG st hs hn he (.inr ⟨v, u, rfl, hc, rfl⟩) (hfin.now hbey st.hr hs)
end
end Go.Lx
