/- The runner does what the machine does: control, leaving. -/
import Derived.Test.YtbmncepaajkngaaGreatLxMain
namespace Go.Lx
set_option linter.unusedSimpArgs false
set_option linter.unusedVariables false

section
variable {P : Program} {F : Know} {G : Pg} {Φ : Machine → Prop} {T : SH} {rnd : Option Nat} {sh : Sh} {ρ ρ1 : Nm} {s s1 : St} {base : List Frame} {f : Nat} {pv : Option V} {ds : List Dt} {dss : List Deferred} {L L1 : Hp} {w : World} {k : List RI} {e : Lx.T V} {n : Nat} {tmps : Array Value} {items : List Item}

theorem Fin.notbad {r : RR} (h : Fin P F Φ T rnd sh ρ s base r) : ∀ a b, r ≠ .bad a b := by
  intro a b e; subst e; exact h

/-- A loop's block is turned. -/
theorem put_loop (hh : HR drawSegs P ρ s F L) (hs : Sat w F (L :: T)) {l : Nat} {st st' : LoopState} {pend pend' : Option RC} {g : Nat} {tm : Lx.T V} {nn : Nat} {ps : List Nat} {asg body : RC} {df : Nat} (hx : s.h.get l = some (.lp st pend g tm nn ps asg body df)) {id : Nat} (hl : ρ.ids l = some id) :
    ∃ r : Loop, w.heap[id]? = some (.loop r) ∧ r.state = st ∧ PendR pend r.pending ∧
      (∀ p : Option Code, PendR pend' p →
        Went drawSegs P ρ ρ s ⟨s.h.set l (some (.lp st' pend' g tm nn ps asg body df)), s.nb, s.nc⟩ F (updL L id (.loop { r with state := st', pending := p })) T { w with heap := w.heap.setIfInBounds id (.loop { r with state := st', pending := p }) }) := by
  obtain ⟨id', o, i1, ⟨fn, cN, a, b, tmps, p, idd, rfl, k1, k2, k3, k4, k5, k6, k7, k8⟩, i3, i4⟩ := hh.at_ hs hx
  rw [hl] at i1; cases i1
  refine ⟨_, i3, rfl, k8, fun q hq => ?_⟩
  have hlt := (Array.getElem?_eq_some_iff.1 i3).1
  refine Went.put hh hs hx rfl rfl hl (x' := .lp st' pend' g tm nn ps asg body df) ⟨fn, cN, a, b, tmps, q, idd, rfl, k1, k2, k3, k4, k5, k6, k7, hq⟩ ⟨rfl, rfl, rfl, by simp [hlt], fun i hi => ?_⟩
  simp only [Array.getElem?_setIfInBounds]
  rw [if_neg (fun e => hi e.symm)]

/-- A frame's code has come to an end, or returns, or jumps out of a round. -/
theorem leave_ok (hS : Sound P F G n) (st : Sit P F f rnd pv ds sh base dss ρ s L) (hs : Sat w F (L :: T)) (hn : tmps.size = sh.n) (he : TmR ρ e tmps) {jump : Option RC} {todo : List Item} {p : Option Code}
    (hj : PendR jump p)
    (h1 : sh.roundOf = none → (∀ i, jump ≠ some (.exit i)) → step P (lone (sh.fr tmps todo dss) base w) = .next (lone { sh.fr tmps todo dss with mode := .returning } base w))
    (h2 : ∀ (l : Nat) (r : Loop) (c : Frame) (cs : List Frame), sh.roundOf = some l → sh.kind = .normal → base = c :: cs → w.heap[l]? = some (.loop r) →
      step P (lone (sh.fr tmps todo dss) base w) = .next (lone (c.finish (.bool p.isNone)) cs { w with heap := w.heap.setIfInBounds l (.loop { r with state := if p.isNone then .ready else .done, pending := p }) }))
    (hfin : Fin P F Φ T rnd sh ρ s base (leaveV (run G n) f rnd pv ds k e jump s)) : Ev P Φ (lone (sh.fr tmps todo dss) base w) := by
  rcases st.fr.rnd with ⟨rfl, hr⟩ | ⟨l, id, rfl, hl, hr, hk⟩
  · have hne : ∀ i, jump ≠ some (.exit i) := by
      intro i e0; subst e0; simp only [leaveV, Fin] at hfin
    have hfin' : Fin P F Φ T none sh ρ s base (run G n f none pv ds k e s .ret) := by
      cases jump with
      | none => exact hfin
      | some j => cases j <;> first | exact hfin | (rename_i i; exact absurd rfl (hne i))
    exact .step (h1 hr hne) ((hS.at st hfin') w tmps todo hs hn he)
  · obtain ⟨_, _, c, cs, rfl⟩ := st.nods (by simp)
    simp only [leaveV] at hfin
    cases hx : s.h.get l with
    | none => simp only [hx, Fin] at hfin
    | some x =>
      cases x with
      | lp stt pend g tm nn ps asg body df =>
        simp only [hx] at hfin
        cases jump with
        | none =>
          cases p with
          | some q => simp [PendR] at hj
          | none =>
            simp only [putK_eq'] at hfin
            obtain ⟨r, hb, _, _, hput⟩ := put_loop (st' := .ready) (pend' := none) st.hr hs hx hl
            refine .step (h2 id r c cs hr hk rfl hb) (.now ?_)
            exact hfin ρ _ _ _ c cs (hput none trivial) rfl rfl
        | some j =>
          cases p with
          | none => cases j <;> simp [PendR] at hj
          | some q =>
            simp only [putK_eq'] at hfin
            obtain ⟨r, hb, _, _, hput⟩ := put_loop (st' := .done) (pend' := some j) st.hr hs hx hl
            refine .step (h2 id r c cs hr hk rfl hb) (.now ?_)
            exact hfin ρ _ _ _ c cs (hput (some q) hj) rfl rfl
      | _ => simp only [hx, Fin] at hfin

/-- Code. -/
theorem code_ok (hS : Sound P F G n) (hG : PgOK drawSegs P G) (st : Sit P F f rnd pv ds sh base dss ρ s L) (hs : Sat w F (L :: T)) (hn : tmps.size = sh.n) (he : TmR ρ e tmps) (hi : ItsOK drawSegs P sh.n k items)
    (hfin : Fin P F Φ T rnd sh ρ s base (stepCode G (run G n) f rnd pv ds e s k)) : Ev P Φ (lone (sh.fr tmps items dss) base w) := by
  have plain : ∀ {k' : List RI} {items' : List Item}, Fin P F Φ T rnd sh ρ s base (run G n f rnd pv ds k' e s (.op [])) → ItsOK drawSegs P sh.n k' items' → Ev P Φ (lone (sh.fr tmps items' dss) base w) :=
    fun hf hi' => (hS.at st hf).2 rfl w tmps _ hs hn he hi'
  cases hi with
  | nil =>
    simp only [stepCode] at hfin
    exact leave_ok hS st hs hn he (jump := none) (p := none) trivial (fun hr _ => st_end hr) (fun l r c cs hl hk hb hw => by subst hb; simpa using st_leaveE hl hk hw) hfin
  | @cons ri it rs its h1 h2 =>
    cases h1 with
    | inBlock id => exact .step st_inBlock (plain hfin h2)
    | inScope c => exact .step st_inScope (plain hfin h2)
    | @inLoop c r hc => exact .step st_inLoop (plain hfin (.cons (.code hc) (.cons (.inLoop hc) h2)))
    | endRange l => simp only [stepCode, Fin] at hfin
    | beginRound =>
      simp only [stepCode, beginV] at hfin
      rcases st.fr.rnd with ⟨rfl, hr⟩ | ⟨l, id, rfl, hl, hr, hk⟩
      · simp only [Fin] at hfin
      · simp only at hfin
        cases hx : s.h.get l with
        | none => simp only [hx, Fin] at hfin
        | some x =>
          cases x with
          | lp stt pend g tm nn ps asg body df =>
            cases stt with
            | ready =>
              simp only [hx, putK_eq'] at hfin
              obtain ⟨r, hb, hst, hp, hput⟩ := put_loop (st' := .busy) (pend' := pend) st.hr hs hx hl
              refine .step (st_begin hr hb hst) ?_
              have hw := hput r.pending hp
              exact (hS.at (st.went hw) (hfin.went hw)).2 rfl _ tmps _ hw.sat hn (he.mono hw.le) h2
            | _ => simp only [hx, Fin] at hfin
          | _ => simp only [hx, Fin] at hfin
    | @code c r hc =>
      simp only [stepCode] at hfin
      cases r with
      | skip => obtain rfl := inv_skip hc; exact .step st_skip (plain hfin h2)
      | label l => obtain rfl := inv_label hc; exact .step st_label (plain hfin h2)
      | reg ops =>
        obtain ⟨id, opsA, rfl, hg⟩ := inv_reg hc
        refine .step st_region ?_
        refine (hS.at st hfin).1 w tmps _ opsA _ hs hn he h2 ?_
        rw [List.range_eq_range']
        have := OpsOK.of (P := P) (n := sh.n) (ops := opsA) opsA.toList 0 ops (fun j => by left; simp) hg
        simpa using this
      | draw ops segs =>
        obtain ⟨id, opsA, rfl, hg, hD⟩ := inv_draw hc
        refine .step st_region_draw ?_
        obtain ⟨m, eff, sg, hreg, hinv, hsch, hlen⟩ := draw_ok (sh := sh) rfl hg hD id (w.tape w.drawn (.order sh.fn id))
        rw [hsch]
        refine hS.at st hfin opsA m eff sg opsA.size [] 0 _ _ [] _ tmps _ ⟨hreg, hinv, fun p hp => (by cases hp), .nil, by simp, fun y hy => (by cases hy), fun y hy => (by cases hy), fun y hy => (by cases hy)⟩ hlen ?_ hn (fun t v ht _ => he t v ht) h2
        exact (hs.drew).perm (by simp)
      | seq a b => obtain ⟨x, y, rfl, h3, h4⟩ := inv_seq hc; exact .step st_seq (plain hfin (.cons (.code h3) (.cons (.code h4) h2)))
      | cond c a b =>
        obtain ⟨x, y, rfl, h3, h4⟩ := inv_cond hc
        simp only [stepRC] at hfin
        cases hv : evV e c with
        | none => simp only [hv, condV, Fin] at hfin
        | some v =>
          have hc2 := opR_ok he dss [c] c (by simp) v hv
          cases v with
          | b t =>
            have hc3 := conc_b hc2
            cases t with
            | true => simp only [hv, condV] at hfin; exact .step (st_cond hc3) (plain hfin (.cons (.code h3) h2))
            | false => simp only [hv, condV] at hfin; exact .step (st_cond hc3) (plain hfin (.cons (.code h4) h2))
          | _ => simp only [hv, condV, Fin] at hfin
      | block id b => obtain ⟨x, rfl, h3⟩ := inv_block hc; exact .step st_block (plain hfin (.cons (.code h3) (.cons (.inBlock id) h2)))
      | loop b => obtain ⟨x, rfl, h3⟩ := inv_loop hc; exact .step st_loop (plain hfin (.cons (.code h3) (.cons (.inLoop h3) h2)))
      | scope b => obtain ⟨x, rfl, h3⟩ := inv_scope hc; exact .step st_scope (plain hfin (.cons (.code h3) (.cons (.inScope x) h2)))
      | exit id =>
        obtain rfl := inv_exit hc
        simp only [stepRC] at hfin
        cases hx : rexit id rs with
        | some k' =>
          simp only [hx, exitV] at hfin
          obtain ⟨items', e1, e2⟩ := rexit_ok h2 hx
          exact .step (st_exit e1) (plain hfin e2)
        | none =>
          simp only [hx, exitV] at hfin
          have hx2 := rexit_none h2 hx
          exact leave_ok hS st hs hn he (jump := some (.exit id)) (p := some (.exit id)) rfl (fun _ hne => absurd rfl (hne id)) (fun l r c cs hl hk hb hw => by subst hb; simpa using st_leaveX hl hk hw hx2) hfin
      | ret =>
        obtain rfl := inv_ret hc
        exact leave_ok hS st hs hn he (jump := some .ret) (p := some .ret) trivial (fun hr _ => st_ret hr) (fun l r c cs hl hk hb hw => by subst hb; simpa using st_leaveR hl hk hw) hfin
      | range fx ps asg body =>
        obtain ⟨x, y, rfl, h3, h4⟩ := inv_range hc
        simp only [stepRC] at hfin
        cases hv : evV e fx with
        | none => simp only [hv, rangeV, Fin] at hfin
        | some v =>
          have hc2 := opR_ok he dss [fx] fx (by simp) v hv
          simp only [hv] at hfin
          unfold rangeV at hfin
          split at hfin <;> first | (simp only [Fin] at hfin; done) | skip
          rename_i g a b heq
          simp only [Option.some.injEq] at heq; subst heq
          cases rnd with
          | some l => simp only [Fin] at hfin
          | none =>
            have hr0 : sh.roundOf = none := by rcases st.fr.rnd with ⟨_, h⟩ | ⟨_, _, h, _⟩ <;> first | exact h | cases h
            cases hb : (G.hb g && ltAll (G.fn f) ps.toList) with
            | false => simp only [hb, cond_false, Fin] at hfin
            | true =>
              simp only [hb, cond_true, fN_eq, newK_eq] at hfin
              simp only [Bool.and_eq_true] at hb
              obtain ⟨hb1, hb2⟩ := hb
              obtain ⟨f', a', b', e1, e2, e3, hev⟩ := conc_fn hc2
              simp only [concF, Option.some.injEq] at e1; subst e1
              obtain ⟨fn, hfn, hnn⟩ := st.fr.n
              have hlt : ∀ t ∈ ps.toList, t < sh.n := by
                have key : ∀ l : List Nat, ltAll (G.fn f) l = true → ∀ t ∈ l, t < sh.n := by
                  intro l
                  induction l with
                  | nil => intro _ t m; cases m
                  | cons q l ih =>
                    intro hq t m
                    cases hg : G.fn f with
                    | none => simp [ltAll, hg] at hq
                    | some fx =>
                      obtain ⟨fn', _, q1, _, _, q2, _⟩ := hG.fn f fx hg
                      rw [hfn] at q1; cases q1
                      cases hlt2 : Nat.blt q fx.n with
                      | false => simp [ltAll, hg, hlt2] at hq
                      | true =>
                        rw [blt_eq, decide_eq_true_eq] at hlt2
                        have hq2 : ltAll (G.fn f) l = true := by
                          simp only [ltAll, hg] at hq ⊢
                          cases hc0 : Nat.blt q fx.n with
                          | false => simp [hc0] at hq
                          | true => simpa [hc0] using hq
                        cases m with
                        | head => omega
                        | tail _ m => exact ih hq2 t m
                exact key _ hb2
              -- the two blocks
              have w1 := Went.new (x := .df (some [])) (o := .deferred (some [])) st.hr hs rfl rfl
              have w2 := Went.new (x := .lp .ready none f e 0 ps.toList asg body s.nb) (o := .loop { state := .ready, pending := none, fn := f, tmps, params := ps, assign := x, body := y, defers := w.heap.size }) w1.hr w1.sat rfl
                ⟨fn, sh.n, x, y, tmps, none, w.heap.size, by simp, hfn, hn, hnn, h3, h4, he.mono (Nm.le_trans w1.le (Nm.le_bind (w1.hr.fresh _ (Nat.le_refl _)))), hlt, trivial⟩
              have w12 := w1.trans w2
              have hst := st_range (P := P) (s := sh) (tmps := tmps) (k := its) (ds := dss) (cs := base) (w := w) (ps := ps) (asg := x) (body := y) hr0 hev (hG.hb hb1)
              rw [st.fr.fn] at hst
              refine .step hst ?_
              have hid1 : ∀ {ρ' : Nm}, (((ρ.bind s.nb w.heap.size).bind (s.nb + 1) (w.heap.size + 1)) ≤ ρ') → ρ'.ids (s.nb + 1) = some (w.heap.size + 1) := fun h => h.1 _ _ (Nm.bind_at _ _ _)
              have hid0 : ((ρ.bind s.nb w.heap.size).bind (s.nb + 1) (w.heap.size + 1)).ids s.nb = some w.heap.size := by simp [Nm.bind]
              have hw12 : Went drawSegs P ρ ((ρ.bind s.nb w.heap.size).bind (s.nb + 1) (w.heap.size + 1)) s ⟨(s.h.set s.nb (some (.df (some [])))).set (s.nb + 1) (some (.lp .ready none f e 0 ps.toList asg body s.nb)), s.nb + 1 + 1, s.nc⟩ F
                  ((w.heap.size + 1, .loop { state := .ready, pending := none, fn := f, tmps, params := ps, assign := x, body := y, defers := w.heap.size }) :: (w.heap.size, .deferred (some [])) :: L) T
                  { w with heap := (w.heap.push (.deferred (some []))).push (.loop { state := .ready, pending := none, fn := f, tmps, params := ps, assign := x, body := y, defers := w.heap.size }) } := by
                have : (w.heap.push (.deferred (some []))).size = w.heap.size + 1 := by simp
                simpa [this] using w12
              have hargs : concL ((ρ.bind s.nb w.heap.size).bind (s.nb + 1) (w.heap.size + 1)) (a ++ .fn (.yield (s.nb + 1)) [] [] :: b) = some (a' ++ .func (.yield (w.heap.size + 1)) #[] #[] :: b') := by
                refine concL_append (concL_mono hw12.le _ e2) ?_
                have := concL_mono hw12.le _ e3
                simp [concL, conc, concF, hid1 (Nm.le_refl _), this]
              have harr : a'.toArray ++ #[.func (.yield (w.heap.size + 1)) #[] #[]] ++ b'.toArray = (a' ++ .func (.yield (w.heap.size + 1)) #[] #[] :: b').toArray := by apply Array.ext'; simp
              rw [harr]
              have hdts : ∀ {ρ' : Nm}, (((ρ.bind s.nb w.heap.size).bind (s.nb + 1) (w.heap.size + 1)) ≤ ρ') → ρ ≤ ρ' → DtsOK P ρ' (.coll s.nb :: ds) (⟨.collected w.heap.size, #[]⟩ :: dss) :=
                fun h h' => .cons ⟨w.heap.size, h.1 _ _ hid0, rfl⟩ (st.dts.mono h')
              refine call_ok (ρ := _) (T := T) hS hG hw12.hr hargs (c := sh.fr tmps (.inRangeFunc (w.heap.size + 1) :: its) (⟨.collected w.heap.size, #[]⟩ :: dss)) rfl ?_ ?_ ?_ hw12.sat
              · intro p q hpq; simp only [Nat.succ_eq_add_one, hpq, rangeBack, Fin] at hfin
              · intro v rec s' hres ρ' L' w' u hwent hcv
                simp only [Nat.succ_eq_add_one, hres, rangeBack] at hfin
                rw [st_back]
                have hall := hw12.trans hwent
                unfold endLoopV at hfin
                cases hx : s'.h.get (s.nb + 1) with
                | none => simp only [hx, Fin] at hfin
                | some z =>
                  cases z with
                  | lp stt pend g' tm nn ps' asg' body' df =>
                    simp only [hx] at hfin
                    obtain ⟨r, hbk, hstt, hp, hput⟩ := put_loop (st' := .exhausted) (pend' := pend) hwent.hr hwent.sat hx (hid1 hwent.le)
                    have hw3 := hall.trans (hput r.pending hp)
                    have go : ∀ {k' : List RI}, stt ≠ .busy → Fin P F Φ T none sh ρ s base (run G n f none pv (.coll s.nb :: ds) k' e ⟨s'.h.set (s.nb + 1) (some (.lp .exhausted pend g' tm nn ps' asg' body' df)), s'.nb, s'.nc⟩ (.op [])) →
                        ItsOK drawSegs P sh.n k' ((r.pending.map Item.code).toList ++ its) → Ev P Φ (lone (sh.fr tmps (.endRangeFunc (w.heap.size + 1) :: its) (⟨.collected w.heap.size, #[]⟩ :: dss)) base w') := by
                      intro k' hbusy hf hi'
                      refine .step (st_endRange hbk (by rw [hstt]; exact hbusy)) ?_
                      exact (hS.at ⟨st.fr.mono hw3.le, st.bs.mono hw3.le, fun hn => absurd rfl hn, hdts hwent.le hw3.le, hw3.hr⟩ (hf.went hw3)).2 rfl _ tmps _ hw3.sat hn (he.mono hw3.le) hi'
                    cases pend with
                    | none =>
                      have hpn : r.pending = none := by cases hq : r.pending <;> simp [PendR, hq] at hp ⊢
                      rw [hpn] at go
                      cases stt <;> simp only [Fin, putK_eq'] at hfin <;> first | exact go (by simp) hfin h2 | cases hfin
                    | some cc =>
                      have hpc : ∃ c0, r.pending = some c0 ∧ resolveC drawSegs P sh.n c0 = some cc := by
                        cases hq : r.pending with
                        | none => cases cc <;> simp [PendR, hq] at hp
                        | some c0 => cases cc <;> cases c0 <;> simp [PendR, hq] at hp <;> first | exact ⟨_, rfl, by simp [resolveC, hp]⟩ | exact ⟨_, rfl, rfl⟩
                      obtain ⟨c0, hpc1, hpc2⟩ := hpc
                      rw [hpc1] at go
                      cases stt <;> simp only [Fin, putK_eq'] at hfin <;> first | exact go (by simp) hfin (.cons (.code hpc2) h2) | cases hfin
                  | _ => simp only [hx, Fin] at hfin
              · intro v s' hres ρ' L' w' u hwent hcv
                simp only [Nat.succ_eq_add_one, hres, rangeBack] at hfin
                have hall := hw12.trans hwent
                exact (hS.at ⟨st.fr.mono hall.le, st.bs.mono hall.le, fun hn => absurd rfl hn, hdts hwent.le hall.le, hall.hr⟩ (hfin.went hall)) w' tmps _ u hall.sat hn (he.mono hall.le) hcv

def rdR (tmps : Array Value) : ResultVar → Sem Value
  | .tmp t => pure (tmps.getD t undef)
  | .cell a t => do loadVar t (← asAddr (tmps.getD a undef))

theorem run_resultsV (hh : HR drawSegs P ρ s F L) (hs : Sat w F (L :: T)) (he : TmR ρ e tmps) : ∀ (rs : List ResultVar) (rv : List RV) (vs : List V), resolveR P rs = some rv → rvV e s rv = some vs →
    ∃ us, (rs.mapM (rdR tmps)).run P w = .ok us w ∧ concL ρ vs = some us
  | [], rv, vs, h, q => by simp [resolveR] at h; subst h; simp [rvV] at q; subst q; exact ⟨[], by simp, rfl⟩
  | .tmp t :: rs, rv, vs, h, q => by
    simp only [resolveR] at h
    cases hr : resolveR P rs with
    | none => simp [hr] at h
    | some x =>
      simp [hr] at h; subst h
      simp only [rvV, Option.bind_eq_some_iff, Option.some.injEq] at q
      obtain ⟨v, h1, vs', h2, rfl⟩ := q
      obtain ⟨u, a1, a2⟩ := he t v h1
      obtain ⟨us, b1, b2⟩ := run_resultsV hh hs he rs x vs' hr h2
      have e1 : tmps.getD t undef = u := by rw [Array.getD_eq_getD_getElem?, a1]; rfl
      have e2 : (rdR tmps (.tmp t)).run P w = .ok u w := by simp only [rdR, e1, Sem.run_pure]
      exact ⟨u :: us, by simp [List.mapM_cons, e2, b1], by simp [concL, a2, b2]⟩
  | .cell a t :: rs, rv, vs, h, q => by
    simp only [resolveR] at h
    cases ha : isagg P t with
    | none => simp [ha] at h
    | some b =>
      cases hn : siz P t with
      | none => cases b <;> simp [ha, hn] at h
      | some n =>
        cases hr : resolveR P rs with
        | none => cases b <;> simp [ha, hn, hr] at h
        | some x =>
          cases b with
          | false =>
            simp [ha, hn, hr] at h; subst h
            unfold rvV at q
            split at q <;> first | (cases q; done) | skip
            rename_i bb oo hx
            simp only [Option.bind_eq_some_iff, Option.some.injEq] at q
            obtain ⟨l, g1, v, g2, vs', g3, rfl⟩ := q
            obtain ⟨u0, a1, a2⟩ := he a _ hx
            obtain ⟨id, i1, rfl⟩ := conc_p a2
            obtain ⟨id', us0, rest, et, fz, j1, j2, j3⟩ := hh.getC hs g1
            rw [i1] at j1; cases j1
            obtain ⟨u, n1, n2⟩ := nthV_ok j2 g2
            obtain ⟨us, b1, b2⟩ := run_resultsV hh hs he rs x vs' hr g3
            have e1 : tmps.getD a undef = .pointer (some ⟨id, oo, none⟩) := by rw [Array.getD_eq_getD_getElem?, a1]; rfl
            have hcell : w.cell? ⟨id, oo, none⟩ = some u := by
              rw [cell_of_block j3]
              have := (List.getElem?_eq_some_iff.1 n1).1
              simp [List.getElem?_append_left this, n1]
            have e2 : (rdR tmps (.cell a t)).run P w = .ok u w := by
              simp only [rdR, e1]; simp [asAddr, loadVar, run_isagg w ha, hcell]
            exact ⟨u :: us, by simp [List.mapM_cons, e2, b1], by simp [concL, n2, b2]⟩
          | true =>
            simp [ha, hn, hr] at h; subst h
            unfold rvV at q
            split at q <;> first | (cases q; done) | skip
            rename_i bb oo hx
            simp only [Option.bind_eq_some_iff, Option.some.injEq] at q
            obtain ⟨l, g1, v, g2, vs', g3, rfl⟩ := q
            obtain ⟨u0, a1, a2⟩ := he a _ hx
            obtain ⟨id, i1, rfl⟩ := conc_p a2
            obtain ⟨id', us0, rest, et, fz, j1, j2, j3⟩ := hh.getC hs g1
            rw [i1] at j1; cases j1
            obtain ⟨ws, n1, n2⟩ := partV_ok j2 g2
            obtain ⟨us, b1, b2⟩ := run_resultsV hh hs he rs x vs' hr g3
            have e1 : tmps.getD a undef = .pointer (some ⟨id, oo, none⟩) := by rw [Array.getD_eq_getD_getElem?, a1]; rfl
            have e2 : (rdR tmps (.cell a t)).run P w = .ok (.agg ws.toArray) w := by
              simp only [rdR, e1]; simp [asAddr, loadVar, run_isagg w ha, run_siz w hn, run_cells j3 n1]
            exact ⟨.agg ws.toArray :: us, by simp [List.mapM_cons, e2, b1], by simp [concL, conc, n2, b2]⟩

theorem results_ok (hh : HR drawSegs P ρ s F L) (hs : Sat w F (L :: T)) (he : TmR ρ e tmps) {fn : Func} {rv : List RV} {vs : List V} (hr : resolveR P fn.results.toList = some rv) (q : rvV e s rv = some vs) : ∃ u, (results fn tmps).run P w = .ok u w ∧ conc ρ (tupVV vs) = some u := by
  obtain ⟨us, h, hc⟩ := run_resultsV hh hs he _ rv vs hr q
  have e0 : results fn tmps = (do let vs ← fn.results.mapM (rdR tmps); pure (if h : vs.size = 1 then vs[0] else .tuple vs)) := by
    unfold results
    congr 1
  rw [e0, Array.mapM_eq_mapM_toList]
  simp only [Sem.run_bind, Sem.run_map, h, Result.andThen_ok, Sem.run_pure]
  have hl := concL_len hc
  match vs, us, hc, hl with
  | [], us, hc, hl => simp [concL] at hc; subst hc; exact ⟨_, by simp; rfl, by simp [tupVV, conc, concL]⟩
  | [v], us, hc, hl =>
    simp only [concL, Option.bind_eq_some_iff, Option.some.injEq] at hc
    obtain ⟨u, a, _, rfl, rfl⟩ := hc
    exact ⟨u, by simp, by simpa [tupVV] using a⟩
  | _ :: _ :: _, us, hc, hl =>
    have : us.toArray.size ≠ 1 := by simp [hl]
    refine ⟨.tuple us.toArray, by simp [hl], ?_⟩
    simp only [tupVV, conc, hc, Option.bind_some]

/-- Leaving. -/
theorem leaveM_ok (hS : Sound P F G n) (hG : PgOK drawSegs P G) (st : Sit P F f rnd pv ds sh base dss ρ s L) (hs : Sat w F (L :: T)) (hn : tmps.size = sh.n) (he : TmR ρ e tmps) {md : Md} {mode : FrameMode} {todo : List Item}
    (hm : (md = .ret ∧ mode = .returning ∧ rnd = none) ∨ ∃ v u, md = .pan v ∧ conc ρ v = some u ∧ mode = .panicking [{ v := u, recovered := false }])
    (hfin : Fin P F Φ T rnd sh ρ s base (stepLeave G (run G n) f rnd pv k e md s ds)) : Ev P Φ (lone { sh.fr tmps todo dss with mode := mode } base w) := by
  -- how it goes on in the same mode
  have same : ∀ {ρ' : Nm} {s' : St} {L' : Hp} {w' : World} {ds' : List Dt} {xs : List Deferred}, Went drawSegs P ρ ρ' s s' F L' T w' → Sit P F f rnd pv ds' sh base xs ρ' s' L' → Fin P F Φ T rnd sh ρ s base (run G n f rnd pv ds' k e s' md) →
      Ev P Φ (lone { sh.fr tmps todo xs with mode := mode } base w') := by
    intro ρ' s' L' w' ds' xs hw hst hf
    have := hS.at hst (hf.went hw)
    rcases hm with ⟨rfl, rfl, _⟩ | ⟨v, u, rfl, hc, rfl⟩
    · exact this w' tmps todo hw.sat hn (he.mono hw.le)
    · exact this w' tmps todo u hw.sat hn (he.mono hw.le) (conc_mono hw.le _ hc)
  cases hdt : st.dts with
  | nil =>
    simp only [stepLeave] at hfin
    rcases hm with ⟨rfl, rfl, rfl⟩ | ⟨v, u, rfl, hc, rfl⟩
    · simp only [finV] at hfin
      cases hg : G.fn f with
      | none => simp only [hg, Fin] at hfin
      | some fx =>
        simp only [hg] at hfin
        cases hv : rvV e s fx.res with
        | none => simp only [hv, Fin] at hfin
        | some vs =>
          simp only [hv, fV_eq] at hfin
          obtain ⟨fn, cd, f1, f2, f3, fnn, f4, f5⟩ := hG.fn f fx hg
          obtain ⟨u, hr, hc⟩ := results_ok st.hr hs he f4 hv
          exact .now (hfin ρ L w tmps todo base u fn pv (Went.refl st.hr hs) hc (by rw [st.fr.fn]; exact f1) hr (.refl _ _) st.bs rfl)
    · simp only [finV] at hfin
      exact .now (hfin ρ L w tmps todo base u (Went.refl st.hr hs) hc (.refl _ _))
  | @cons d x ds' xs hd hds =>
    have hst' : ∀ {ρ' : Nm} {s' : St} {L' : Hp} {w' : World}, Went drawSegs P ρ ρ' s s' F L' T w' → Sit P F f rnd pv ds' sh base xs ρ' s' L' :=
      fun hw => ⟨st.fr.mono hw.le, st.bs.mono hw.le, fun hn => (by have := (st.nods hn).1; cases this), hds.mono hw.le, hw.hr⟩
    cases d with
    | coll b =>
      obtain ⟨id, hid, rfl⟩ := hd
      simp only [stepLeave] at hfin
      cases hx : s.h.get b with
      | none => simp only [hx, Fin] at hfin
      | some z =>
        cases z with
        | df l =>
          cases l with
          | none => simp only [hx, Fin] at hfin
          | some l =>
            cases l with
            | cons => simp only [hx, Fin] at hfin
            | nil =>
              simp only [hx, putK_eq'] at hfin
              obtain ⟨id', o, i1, hok, i3, i4⟩ := st.hr.at_ hs hx
              rw [hid] at i1; cases i1
              simp only [EOK] at hok
              subst hok
              have hlt := (Array.getElem?_eq_some_iff.1 i3).1
              have hw := Went.put (x' := .df none) (o' := .deferred none) (w' := { w with heap := w.heap.setIfInBounds id (.deferred none) }) st.hr hs hx rfl rfl hid rfl ⟨rfl, rfl, rfl, by simp [hlt], fun i hi => by
                simp only [Array.getElem?_setIfInBounds]; rw [if_neg (fun e => hi e.symm)]⟩
              have hnext := same hw (hst' hw) hfin
              rcases hm with ⟨rfl, rfl, _⟩ | ⟨v, u, rfl, hc, rfl⟩
              · exact .step (st_collR i3) hnext
              · exact .step (st_collP i3) hnext
        | _ => simp only [hx, Fin] at hfin
    | fn g args =>
      obtain ⟨a, c, us, rfl, hc1, hc2, hb⟩ := hd
      simp only [stepLeave] at hfin
      cases rnd with
      | some l => simp only [Fin] at hfin
      | none =>
        simp only at hfin
        have key : ∀ (pv' : Option V), mdPv md = pv' → (match pv' with | some v => ∃ u, conc ρ v = some u ∧ mode = .panicking [{ v := u, recovered := false }] | none => mode = .returning) →
            Ev P Φ (lone (Frame.enter P g us.toArray .deferred) ({ sh.fr tmps todo xs with mode := mode } :: base) w) := by
          intro pv' hpv hmode
          rw [hpv] at hfin
          refine callD_ok (T := T) (c := { sh.fr tmps todo xs with mode := mode }) hS hG st.hr hc1 (pv := pv') hmode ?_ ?_ ?_ hs
          · intro p q hpq; simp only [hpq, deferBack, Fin] at hfin
          · intro v s' hpq; simp only [hpq, deferBack, Fin] at hfin
          · intro v rec s' hres ρ' L' w' hw
            simp only [hres, deferBack] at hfin
            cases rec with
            | false => simp only [cond_false] at hfin; exact same hw (hst' hw) hfin
            | true =>
              simp only [cond_true] at hfin
              exact (hS.at (hst' hw) (hfin.went hw)) w' tmps todo hw.sat hn (he.mono hw.le)
        rcases hm with ⟨rfl, rfl, _⟩ | ⟨v, u, rfl, hc, rfl⟩
        · refine .step (st_deferR hb) ?_
          rw [← hc2]
          exact key none rfl rfl
        · refine .step (st_deferP hb) ?_
          rw [← hc2]
          exact key (some v) rfl ⟨u, hc, rfl⟩
end
end Go.Lx
