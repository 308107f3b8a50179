/- The runner does what the machine does. -/
import Derived.Test.YtbmncepaajkngaaGreatLxSnd
namespace Go.Lx
set_option linter.unusedSimpArgs false
set_option linter.unusedVariables false

section
variable {P : Program} {F : Know} {G : Pg} {Φ : Machine → Prop} {T : SH} {rnd : Option Nat} {sh : Sh} {ρ ρ1 : Nm} {s s1 : St} {base : List Frame} {f : Nat} {pv : Option V} {ds : List Dt} {dss : List Deferred} {L L1 : Hp} {w : World} {k : List RI} {e : Lx.T V} {n : Nat} {tmps : Array Value} {items : List Item}

theorem run_succ (G : Pg) (n : Nat) : run G (n + 1) = stepV G (run G n) := rfl

theorem wanted_guard {opsA : Array Oper} {N i : Nat} {g : GOp} {o : Oper} (h : GOK P N opsA i g o) (he : TmR ρ e tmps) {c : Bool} (hg : guardV e g.g = some c) : Region.wanted o (yielded opsA tmps) = c := by
  rcases h.guard with ⟨h1, h2⟩ | ⟨j, b, t, h1, h2, h3⟩
  · simp [guardV, h2] at hg; simp [Region.wanted, h1, hg]
  · simp only [guardV, h2] at hg
    split at hg <;> simp at hg
    rename_i q hq
    obtain ⟨u, a1, a2⟩ := he t _ hq
    have := conc_b a2
    subst this
    simp [Region.wanted, h1, yielded, h3, a1, hg]

theorem not_defer {ρ : Operand → Value} {o : Oper} {w w' : World} {x : Next} (h : (execOp ρ o).run P w = .ok x w') (hx : ∀ d, x ≠ .defer d) : ∀ c, o.op ≠ .defer c := by
  intro c e
  simp only [execOp, e, Sem.run_bind] at h
  cases hr : (resolve ρ c o.type).run P w with
  | ok d w2 => simp [hr] at h; exact hx d h.1.symm
  | halt hh w2 => simp [hr] at h
theorem resolve_nopanic {ρ : Operand → Value} {c : Call} {t : TypeId} {w w' : World} {v : Value} (h : (resolve ρ c t).run P w = .halt (.panic v) w') : False := by
  unfold resolve at h
  cases hc : c.callee with
  | value f =>
    simp only [hc] at h
    cases hf : ρ f <;> simp [hf, Deferred.ofValue, stuck] at h
  | invoke r n => simp [hc] at h
  | builtin b => simp [hc] at h
theorem not_defer_pan {ρ : Operand → Value} {o : Oper} {w w' : World} {v : Value} (h : (execOp ρ o).run P w = .halt (.panic v) w') : ∀ c, o.op ≠ .defer c := by
  intro c e
  simp only [execOp, e, Sem.run_bind] at h
  cases hr : (resolve ρ c o.type).run P w with
  | ok d w2 => simp [hr] at h
  | halt hh w2 =>
    simp [hr] at h
    rw [h.1] at hr
    exact resolve_nopanic hr

/-- What an operation came to, and the rest of the run. -/
theorem out_ok (hS : Sound P F G n) (hG : PgOK drawSegs P G) (st : Sit P F f rnd pv ds sh base dss ρ s L) {opsA : Array Oper} {i : Nat} {is : List Nat} {g : GOp} {o : Oper} {gs : List GOp} (h1 : GOK P sh.n opsA i g o) (h2 : OpsOK P sh.n opsA is gs)
    (hw : Region.wanted o (yielded opsA tmps) = true) (hs : Sat w F (L :: T)) (hn : tmps.size = sh.n) (he : TmR ρ e tmps) (hi : ItsOK drawSegs P sh.n k items) {out : OR}
    (hx : XR drawSegs P ρ s F T w ((execOp (Act.mk tmps dss).eval o).run P w) out) (hfin : Fin P F Φ T rnd sh ρ s base (stepOut G (run G n) f rnd pv ds k e g.d gs s out)) :
    Ev P Φ (lone (sh.fr tmps (.inRegion opsA (i :: is) :: items) dss) base w) := by
  have hd : ∀ x, g.d = some x → x < tmps.size := fun x e => by rw [hn]; exact h1.lt x e
  cases out with
  | v v s' =>
    obtain ⟨u, w', ρ', L', hrun, hwent, hc⟩ := hx
    simp only [stepOut, nxOp_eq] at hfin
    have hnext : Ev P Φ (lone (sh.fr (put tmps g.d u) (.inRegion opsA is :: items) dss) base w') :=
      (hS.at (st.went hwent) (hfin.went hwent)).1 w' _ items opsA is hwent.sat (by rw [size_put]; exact hn) ((he.mono hwent.le).put hd hc) hi h2
    rcases hrun with hrun | ⟨hrun, rfl⟩
    · refine .step (st_value h1.at_ hw (.inr (not_defer hrun (by simp))) hrun) ?_
      rw [h1.dst]; exact hnext
    · refine .step (st_skipped h1.at_ hw (.inr (not_defer hrun (by simp))) hrun) ?_
      rw [h1.dst]; exact hnext
  | call g' args =>
    obtain ⟨us, ha, hrun⟩ := hx
    simp only [stepOut] at hfin
    refine .step (st_enter h1.at_ hw (.inr (not_defer hrun (by simp))) hrun) ?_
    refine call_ok (ρ := ρ) (s := s) (L := L) (T := T) hS hG st.hr ha rfl ?_ ?_ ?_ hs
    · intro a b hb; simp only [hb, goOn] at hfin; exact hfin
    · intro v rec s' hres ρ' L' w' u hwent hc
      simp only [hres, goOn, nxOp_eq] at hfin
      have hf := finish_fr (s := sh) (tmps := tmps) (k := items) (ds := dss) (ops := opsA) (i := i) (rest := is) u
      rw [h1.at_] at hf
      simp only [Option.bind_some, h1.dst] at hf
      rw [hf]
      exact (hS.at (st.went hwent) (hfin.went hwent)).1 w' _ items opsA is hwent.sat (by rw [size_put]; exact hn) ((he.mono hwent.le).put hd hc) hi h2
    · intro v s' hres ρ' L' w' u hwent hc
      simp only [hres, goOn] at hfin
      exact (hS.at (st.went hwent) (hfin.went hwent)) w' tmps _ u hwent.sat hn (he.mono hwent.le) hc
  | round l args =>
    obtain ⟨us, id, ha, hl, hrun⟩ := hx
    simp only [stepOut] at hfin
    obtain ⟨g', tm, asg, body, hr, hev⟩ := round_ok (ρ := ρ) (s := s) (L := L) (T := T) (Φ := Φ) (f := f) (c := sh.fr tmps (.inRegion opsA (i :: is) :: items) dss) (cs := base) hS st.hr hl ha rfl hrun
      (fun a b hb => by simp only [hb, goOn] at hfin; exact hfin)
      (fun v rec s' hres ρ' L' w' u hwent hc => by
        simp only [hres, goOn, nxOp_eq] at hfin
        have hf := finish_fr (s := sh) (tmps := tmps) (k := items) (ds := dss) (ops := opsA) (i := i) (rest := is) u
        rw [h1.at_] at hf
        simp only [Option.bind_some, h1.dst] at hf
        rw [hf]
        exact (hS.at (st.went hwent) (hfin.went hwent)).1 w' _ items opsA is hwent.sat (by rw [size_put]; exact hn) ((he.mono hwent.le).put hd hc) hi h2)
      (fun v s' hres ρ' L' w' u hwent hc => by
        simp only [hres, goOn] at hfin
        exact (hS.at (st.went hwent) (hfin.went hwent)) w' tmps _ u hwent.sat hn (he.mono hwent.le) hc) hs
    exact .step (st_round h1.at_ hw (.inr (not_defer hr (by simp))) hr) hev
  | pan v =>
    obtain ⟨u, hc, hrun⟩ := hx
    simp only [stepOut] at hfin
    exact .step (st_panic h1.at_ hw (.inr (not_defer_pan hrun)) hrun) ((hS.at st hfin) w tmps _ u hs hn he hc)
  | dfr d =>
    obtain ⟨x, hd2, hrun⟩ := hx
    simp only [stepOut] at hfin
    cases rnd with
    | some l => simp only [Fin] at hfin
    | none =>
      simp only [putKe_eq] at hfin
      have hr0 : sh.roundOf = none := by rcases st.fr.rnd with ⟨_, h⟩ | ⟨_, _, h, _⟩ <;> first | exact h | cases h
      refine .step (st_defer h1.at_ hw (.inl hr0) hrun) ?_
      rw [h1.dst]
      exact (hS.at ⟨st.fr, st.bs, fun hn => absurd rfl hn, .cons hd2 st.dts, st.hr⟩ hfin).1 w _ items opsA is hs (by rw [size_put]; exact hn) (TmR.put he hd (v := undV) (u := undef) rfl) hi h2
  | rcv =>
    simp only [stepOut] at hfin
    cases rnd with
    | some l => simp only [Fin] at hfin
    | none =>
      have hr0 : sh.roundOf = none := by rcases st.fr.rnd with ⟨_, h⟩ | ⟨_, _, h, _⟩ <;> first | exact h | cases h
      have hb := st.bs
      cases hkd : sh.kind with
      | normal =>
        simp only [BaseOK, hkd] at hb
        subst hb
        simp only [putKe_eq] at hfin
        refine .step (st_recover_nil h1.at_ hw hr0 (fun todo => by simp [tryRecover, Sh.fr, hkd]) hx) ?_
        rw [h1.dst]
        exact (hS.at st hfin).1 w _ items opsA is hs (by rw [size_put]; exact hn) (TmR.put he hd (v := .ni) (u := .nilIface) rfl) hi h2
      | deferred =>
        simp only [BaseOK, hkd] at hb
        obtain ⟨c, cs, rfl, hm⟩ := hb
        cases pv with
        | none =>
          simp only [putKe_eq] at hfin
          refine .step (st_recover_nil h1.at_ hw hr0 (fun todo => ?_) hx) ?_
          · rcases hm with hm | ⟨u, hm⟩ <;> simp [tryRecover, Sh.fr, hkd, hm]
          · rw [h1.dst]
            exact (hS.at st hfin).1 w _ items opsA is hs (by rw [size_put]; exact hn) (TmR.put he hd (v := .ni) (u := .nilIface) rfl) hi h2
        | some v =>
          simp only [putKe_eq] at hfin
          obtain ⟨u, hc, hm⟩ := hm
          refine .step (st_recover h1.at_ hw hr0 hkd hm hx) ?_
          rw [h1.dst]
          have hto : BaseTo sh.kind (c :: cs) ({ c with mode := .panicking [{ v := u, recovered := true }] } :: cs) := .inr ⟨hkd, c, cs, u, rfl, hm, rfl⟩
          exact (hS.at ⟨st.fr, by rw [hkd]; exact ⟨_, _, rfl, .inr ⟨u, rfl⟩⟩, fun hn => absurd rfl hn, st.dts, st.hr⟩ (hfin.to hto)).1 w _ items opsA is hs (by rw [size_put]; exact hn) (TmR.put he hd hc) hi h2
      | _ => simp only [BaseOK, hkd] at hb

/-- An operation of a region in the order of its text. -/
theorem op_ok (hS : Sound P F G n) (hG : PgOK drawSegs P G) (st : Sit P F f rnd pv ds sh base dss ρ s L) {opsA : Array Oper} {i : Nat} {is : List Nat} {g : GOp} {o : Oper} {gs : List GOp} (h1 : GOK P sh.n opsA i g o) (h2 : OpsOK P sh.n opsA is gs)
    (hs : Sat w F (L :: T)) (hn : tmps.size = sh.n) (he : TmR ρ e tmps) (hi : ItsOK drawSegs P sh.n k items) (hfin : Fin P F Φ T rnd sh ρ s base (stepOp G (run G n) f rnd pv ds k e g gs s)) :
    Ev P Φ (lone (sh.fr tmps (.inRegion opsA (i :: is) :: items) dss) base w) := by
  have hd : ∀ x, g.d = some x → x < tmps.size := fun x e => by rw [hn]; exact h1.lt x e
  simp only [stepOp] at hfin
  cases hg : guardV e g.g with
  | none => simp only [hg, Fin] at hfin
  | some b =>
    have hw := wanted_guard h1 he hg
    have hfn : ∀ f, (Act.mk tmps dss).eval (.func f) = .func (.func f) #[] #[] := fun _ => rfl
    cases b with
    | false =>
      simp only [hg, nxOp_eq] at hfin
      have hst := st_op_skip (P := P) (s := sh) (tmps := tmps) (k := items) (ds := dss) (cs := base) (w := w) (ops := opsA) (i := i) (rest := is) (by simp [h1.at_, hw])
      simp only [h1.at_, Option.bind_some, h1.dst] at hst
      exact .step hst ((hS.at st hfin).1 w _ items opsA is hs (by rw [size_put]; exact hn) (TmR.put he hd (v := undV) (u := undef) rfl) hi h2)
    | true =>
      simp only [hg, stepAct] at hfin
      have hop := opR_ok he dss (opR g.r)
      cases ha : actV G.hb G.xf G.me g.r with
      | no => simp only [ha, Fin] at hfin
      | q q =>
        simp only [ha] at hfin
        cases hq : q (evV e) s with
        | none => simp only [hq, Fin] at hfin
        | some v =>
          simp only [hq] at hfin
          obtain ⟨u, hc, hrun⟩ := qok ha st.hr hs hop hq
          have hex := resX_ok h1.res _ hfn w (by rw [hrun]; trivial)
          rw [hrun] at hex
          exact out_ok (out := .v v s) hS hG st h1 h2 hw hs hn he hi ⟨u, w, ρ, L, .inl hex, Went.refl st.hr hs, hc⟩ hfin
      | a a =>
        simp only [ha] at hfin
        cases hq : a (evV e) s with
        | none => simp only [hq, Fin] at hfin
        | some vx =>
          obtain ⟨v, x⟩ := vx
          simp only [hq, newK_eq] at hfin
          obtain ⟨u, ob, hrun, hfz, hc, hok⟩ := aok ha hop (st.hr.fresh _ (Nat.le_refl _)) hq (w := w) (P := P) (D := drawSegs)
          have hex := resX_ok h1.res _ hfn w (by rw [hrun]; trivial)
          rw [hrun] at hex
          exact out_ok (out := .v v _) hS hG st h1 h2 hw hs hn he hi ⟨u, _, _, _, .inl hex, Went.new st.hr hs hfz hok, hc⟩ hfin
      | x x =>
        simp only [ha] at hfin
        cases hq : x (evV e) s with
        | none => simp only [hq, Fin] at hfin
        | some out =>
          simp only [hq] at hfin
          have hxr := xok (T := T) (w := w) (r := (Act.mk tmps dss).eval) hG st.hr hs ha hop hq
          have hgood : Good ((rsem P (Act.mk tmps dss).eval g.r).run P w) := by
            cases out with
            | v v s' => obtain ⟨u, w', _, _, h | ⟨h, _⟩, _⟩ := hxr <;> rw [h] <;> trivial
            | call g args => obtain ⟨us, _, h⟩ := hxr; rw [h]; trivial
            | round l args =>
              obtain ⟨us, id, a1, a2, h⟩ := hxr
              simp only [stepOut] at hfin
              obtain ⟨g', tm, asg, body, hr, _⟩ := round_ok (ρ := ρ) (s := s) (L := L) (T := T) (Φ := fun _ => True) (f := f) (c := sh.fr tmps (.inRegion opsA (i :: is) :: items) dss) (cs := base) hS st.hr a2 a1 rfl h
                (fun a b hb => by simp only [hb, goOn] at hfin; exact hfin) (fun v rec s' _ _ _ _ _ _ _ => .now trivial) (fun v s' _ _ _ _ _ _ _ => .now trivial) hs
              rw [hr]; trivial
            | pan v => obtain ⟨u, _, h⟩ := hxr; rw [h]; trivial
            | dfr d => obtain ⟨x, _, h⟩ := hxr; rw [h]; trivial
            | rcv => simp only [XR] at hxr; rw [hxr]; trivial
          have hex := resX_ok h1.res _ hfn w hgood
          rw [← hex] at hxr
          exact out_ok hS hG st h1 h2 hw hs hn he hi hxr hfin
end
end Go.Lx
