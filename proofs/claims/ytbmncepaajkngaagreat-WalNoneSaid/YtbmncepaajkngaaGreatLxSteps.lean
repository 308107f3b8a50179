/- Further steps of the machine: panics that are ended, deferred calls, loops over functions. -/
import Derived.Test.YtbmncepaajkngaaGreatLxDraw
namespace Go.Lx
set_option linter.unusedSimpArgs false
set_option linter.unusedVariables false

section
variable {P : Program} {s : Sh} {tmps : Array Value} {k : List Item} {ds : List Deferred} {cs : List Frame} {w : World}

theorem st_recover {ops : Array Oper} {i : Nat} {rest : List Nat} {o : Oper} (ho : ops[i]? = some o) (hw : Region.wanted o (yielded ops tmps) = true)
    (hr0 : s.roundOf = none) {c : Frame} {v : Value} {w' : World} (hk : s.kind = .deferred) (hc : c.mode = .panicking [{ v, recovered := false }]) (hr : (execOp (Act.mk tmps ds).eval o).run P w = .ok .recover w') :
    step P (lone (s.fr tmps (.inRegion ops (i :: rest) :: k) ds) (c :: cs) w) = .next (lone (s.fr (put tmps o.dst v) (.inRegion ops rest :: k) ds) ({ c with mode := .panicking [{ v, recovered := true }] } :: cs) w') := by
  have hf := finish_fr (s := s) (tmps := tmps) (k := k) (ds := ds) (ops := ops) (i := i) (rest := rest) v
  rw [ho] at hf
  simp only [Option.bind_some] at hf
  rw [← hf]
  refine step_lone_go ?_
  rw [stepG_fr ho hw (.inl hr0)]
  simp [stepG.apply, hr, Sh.fr, hr0, hk, tryRecover, hc]
theorem st_recover_nil {ops : Array Oper} {i : Nat} {rest : List Nat} {o : Oper} (ho : ops[i]? = some o) (hw : Region.wanted o (yielded ops tmps) = true)
    (hr0 : s.roundOf = none) {w' : World} (hn : ∀ todo, tryRecover (s.fr tmps todo ds) cs = none) (hr : (execOp (Act.mk tmps ds).eval o).run P w = .ok .recover w') :
    step P (lone (s.fr tmps (.inRegion ops (i :: rest) :: k) ds) cs w) = .next (lone (s.fr (put tmps o.dst .nilIface) (.inRegion ops rest :: k) ds) cs w') := by
  have hf := finish_fr (s := s) (tmps := tmps) (k := k) (ds := ds) (ops := ops) (i := i) (rest := rest) .nilIface
  rw [ho] at hf
  simp only [Option.bind_some] at hf
  rw [← hf]
  refine step_lone_go ?_
  rw [stepG_fr ho hw (.inl hr0)]
  have h1 := hn (.inRegion ops (i :: rest) :: k)
  simp only [Sh.fr, hr0] at h1
  simp [stepG.apply, hr, Sh.fr, hr0, h1]

/-! ### Leaving -/
theorem st_return {todo : List Item} {c : Frame} {fn : Func} {v : Value} (hk : s.kind = .normal) (hf : P.funcs[s.fn]? = some fn) (hr : (results fn tmps).run P w = .ok v w) :
    step P (lone { s.fr tmps todo [] with mode := .returning } (c :: cs) w) = .next (lone (c.finish v) cs w) :=
  step_lone_go (by simp [stepG, unwind, doReturn, Sh.fr, hk, hf, hr])
theorem st_returnD {todo : List Item} {c : Frame} {fn : Func} {v : Value} (hk : s.kind = .deferred) (hf : P.funcs[s.fn]? = some fn) (hr : (results fn tmps).run P w = .ok v w) :
    step P (lone { s.fr tmps todo [] with mode := .returning } (c :: cs) w) = .next (lone (match c.mode with
      | .panicking ({ recovered := true, .. } :: older) => match older.dropWhile (!·.goexit) with | [] => { c with mode := .returning } | rest => { c with mode := .panicking rest }
      | _ => c) cs w) :=
  step_lone_go (by simp [stepG, unwind, doReturn, Sh.fr, hk, hf, hr]; rfl)
theorem st_raise {todo : List Item} {c : Frame} {fn : Func} {ch : List PanicEntry} (hf : P.funcs[s.fn]? = some fn) :
    step P (lone { s.fr tmps todo [] with mode := .panicking ch } (c :: cs) w) = .next (lone (c.raise ch) cs w) :=
  step_lone_go (by simp [stepG, unwind, Frame.catches, Sh.fr, hf])

/-- A deferred call is begun. -/
theorem st_deferR {todo : List Item} {f : FuncId} {c a : Array Value} (hb : hasBody P f = true) :
    step P (lone { s.fr tmps todo (⟨.fn (.func f) c, a⟩ :: ds) with mode := .returning } cs w) = .next (lone (Frame.enter P f (a ++ c) .deferred) ({ s.fr tmps todo ds with mode := .returning } :: cs) w) := by
  refine step_lone_go ?_
  simp [stepG, unwind, Sh.fr, callDeferred, invoke, run_hasBody hb]
theorem st_deferP {todo : List Item} {f : FuncId} {c a : Array Value} {ch : List PanicEntry} (hb : hasBody P f = true) :
    step P (lone { s.fr tmps todo (⟨.fn (.func f) c, a⟩ :: ds) with mode := .panicking ch } cs w) = .next (lone (Frame.enter P f (a ++ c) .deferred) ({ s.fr tmps todo ds with mode := .panicking ch } :: cs) w) := by
  refine step_lone_go ?_
  simp [stepG, unwind, Sh.fr, callDeferred, invoke, run_hasBody hb]

/-- The deferred calls of a loop over a function. -/
theorem st_collR {todo : List Item} {b : Nat} {a : Array Value} (hb : w.heap[b]? = some (.deferred (some []))) :
    step P (lone { s.fr tmps todo (⟨.collected b, a⟩ :: ds) with mode := .returning } cs w) = .next (lone { s.fr tmps todo ds with mode := .returning } cs { w with heap := w.heap.setIfInBounds b (.deferred none) }) := by
  refine step_lone_go ?_
  simp [stepG, unwind, Sh.fr, Instr.takeDeferred, getObj, setObj, Sem.run, hb]
theorem st_collP {todo : List Item} {b : Nat} {a : Array Value} {ch : List PanicEntry} (hb : w.heap[b]? = some (.deferred (some []))) :
    step P (lone { s.fr tmps todo (⟨.collected b, a⟩ :: ds) with mode := .panicking ch } cs w) = .next (lone { s.fr tmps todo ds with mode := .panicking ch } cs { w with heap := w.heap.setIfInBounds b (.deferred none) }) := by
  refine step_lone_go ?_
  simp [stepG, unwind, Sh.fr, Instr.takeDeferred, getObj, setObj, Sem.run, hb]

/-! ### Loops over functions -/
theorem st_range {f : Operand} {ps : Array Tmp} {asg body : Code} {g : FuncId} {a c : Array Value} (hr0 : s.roundOf = none) (hf : (Act.mk tmps ds).eval f = .func (.func g) a c) (hb : hasBody P g = true) :
    step P (lone (s.fr tmps (.code (.rangeFunc f ps asg body) :: k) ds) cs w) =
      .next (lone (Frame.enter P g (a ++ #[.func (.yield (w.heap.size + 1)) #[] #[]] ++ c) .normal)
        (s.fr tmps (.inRangeFunc (w.heap.size + 1) :: k) (⟨.collected w.heap.size, #[]⟩ :: ds) :: cs)
        { w with heap := (w.heap.push (.deferred (some []))).push (.loop { state := .ready, pending := none, fn := s.fn, tmps, params := ps, assign := asg, body, defers := w.heap.size }) }) := by
  refine step_lone_go ?_
  have he : ∀ todo ds', (s.fr tmps todo ds').eval f = .func (.func g) a c := fun todo ds' => by
    rw [eval_fr]; rw [← hf]; cases f <;> rfl
  have he1 := he (.code (.rangeFunc f ps asg body) :: k) ds
  have he2 := he (.inRangeFunc (w.heap.size + 1) :: k) (⟨.collected w.heap.size, #[]⟩ :: ds)
  simp only [Sh.fr, hr0] at he1 he2
  simp [stepG, stepG.exec, Sh.fr, hr0, Instr.enterLoop, newObj, Sem.run, stepG.apply, resolve, he2, Deferred.ofValue, invoke, run_hasBody hb]
  exact ⟨rfl, rfl⟩

theorem st_back {l : Nat} {v : Value} : (s.fr tmps (.inRangeFunc l :: k) ds).finish v = s.fr tmps (.endRangeFunc l :: k) ds := by simp [Frame.finish, Sh.fr]

theorem st_endRange {l : Nat} {r : Loop} (hb : w.heap[l]? = some (.loop r)) (hs : r.state ≠ .busy) :
    step P (lone (s.fr tmps (.endRangeFunc l :: k) ds) cs w) = .next (lone (s.fr tmps ((r.pending.map Item.code).toList ++ k) ds) cs { w with heap := w.heap.setIfInBounds l (.loop { r with state := .exhausted }) }) := by
  refine step_lone_go ?_
  have hs' : (r.state == .busy) = false := by cases h : r.state <;> simp_all <;> rfl
  simp [stepG, stepG.exec, Sh.fr, Instr.endLoop, Instr.getLoop, getObj, setObj, Sem.run, hb, hs', hs]

theorem st_begin {l : Nat} {r : Loop} (hl : s.roundOf = some l) (hb : w.heap[l]? = some (.loop r)) (hs : r.state = .ready) :
    step P (lone (s.fr tmps (.beginRound :: k) ds) cs w) = .next (lone (s.fr tmps k ds) cs { w with heap := w.heap.setIfInBounds l (.loop { r with state := .busy }) }) := by
  refine step_lone_go ?_
  simp [stepG, stepG.exec, Sh.fr, hl, stepG.apply, Instr.beginRound, Instr.getLoop, getObj, setObj, Sem.run, hb, hs, Frame.finish]

/-- A round is left. -/
theorem st_leaveE {l : Nat} {r : Loop} {c : Frame} (hl : s.roundOf = some l) (hk : s.kind = .normal) (hb : w.heap[l]? = some (.loop r)) :
    step P (lone (s.fr tmps [] ds) (c :: cs) w) = .next (lone (c.finish (.bool true)) cs { w with heap := w.heap.setIfInBounds l (.loop { r with state := .ready, pending := none }) }) := by
  refine step_lone_go ?_
  simp [stepG, stepG.exec, Sh.fr, hl, hk, Instr.endRound, Instr.getLoop, getObj, setObj, Sem.run, hb, doReturn]
theorem st_leaveR {l : Nat} {r : Loop} {c : Frame} (hl : s.roundOf = some l) (hk : s.kind = .normal) (hb : w.heap[l]? = some (.loop r)) :
    step P (lone (s.fr tmps (.code .ret :: k) ds) (c :: cs) w) = .next (lone (c.finish (.bool false)) cs { w with heap := w.heap.setIfInBounds l (.loop { r with state := .done, pending := some .ret }) }) := by
  refine step_lone_go ?_
  simp [stepG, stepG.exec, Sh.fr, hl, hk, Instr.endRound, Instr.getLoop, getObj, setObj, Sem.run, hb, doReturn]
theorem st_leaveX {l id : Nat} {r : Loop} {c : Frame} (hl : s.roundOf = some l) (hk : s.kind = .normal) (hb : w.heap[l]? = some (.loop r)) (hx : exitTo id k = none) :
    step P (lone (s.fr tmps (.code (.exit id) :: k) ds) (c :: cs) w) = .next (lone (c.finish (.bool false)) cs { w with heap := w.heap.setIfInBounds l (.loop { r with state := .done, pending := some (.exit id) }) }) := by
  refine step_lone_go ?_
  simp [stepG, stepG.exec, Sh.fr, hl, hk, Instr.endRound, Instr.getLoop, getObj, setObj, Sem.run, hb, doReturn, hx]
end
end Go.Lx
