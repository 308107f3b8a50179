/- The ground of the walks of this claim: what is known of memory (sealed and owned blocks), symbolic frames, and how a frame of the machine goes on. -/
import Derived.Calls
import Derived.Below
namespace Go.Lx

/-- What is known of memory and will not change: blocks that nobody writes any more; the streams. -/
structure Know where
  blk : Nat → Option Obj
  os : Os
  tape : Nat → Question → Nat
  out : Array (Nat × ByteArray)

def Know.le (F G : Know) : Prop := (∀ b o, F.blk b = some o → G.blk b = some o) ∧ G.os = F.os ∧ G.tape = F.tape ∧ G.out = F.out
instance : LE Know := ⟨Know.le⟩
theorem Know.le_refl (F : Know) : F ≤ F := ⟨fun _ _ h => h, rfl, rfl, rfl⟩
theorem Know.le_trans {F G K : Know} (h : F ≤ G) (k : G ≤ K) : F ≤ K :=
  ⟨fun b o e => k.1 b o (h.1 b o e), k.2.1.trans h.2.1, k.2.2.1.trans h.2.2.1, k.2.2.2.trans h.2.2.2⟩
theorem Know.le_blk {F G : Know} (h : F ≤ G) {b : Nat} {o : Obj} (e : F.blk b = some o) : G.blk b = some o := h.1 b o e

/-- A block more is sealed. -/
def Know.add (F : Know) (b : Nat) (o : Obj) : Know := { F with blk := fun i => if i = b then some o else F.blk i }

/-- Owned blocks: a list of chunks. -/
abbrev Hp := List (Nat × Obj)
abbrev SH := List Hp
def pt (b : Nat) (o : Obj) : Hp := [(b, o)]

structure Sat (w : World) (F : Know) (S : SH) : Prop where
  os : w.os = F.os
  tape : w.tape = F.tape
  out : w.output = F.out
  know : ∀ b o, F.blk b = some o → w.heap[b]? = some o
  own : ∀ b o, (b, o) ∈ S.flatten → w.heap[b]? = some o
  apart : ∀ b o, (b, o) ∈ S.flatten → F.blk b = none
  nodup : (S.flatten.map (·.1)).Nodup

theorem Sat.perm {w : World} {F : Know} {S T : SH} (h : Sat w F S) (p : S.flatten.Perm T.flatten) : Sat w F T :=
  ⟨h.os, h.tape, h.out, h.know, fun b o m => h.own b o (p.mem_iff.2 m), fun b o m => h.apart b o (p.mem_iff.2 m), (p.map _).nodup_iff.1 h.nodup⟩

theorem Sat.drew {w : World} {F : Know} {S : SH} (h : Sat w F S) : Sat { w with drawn := w.drawn + 1 } F S :=
  ⟨h.os, h.tape, h.out, h.know, h.own, h.apart, h.nodup⟩
theorem Sat.drawn {w : World} {F : Know} {S : SH} (h : Sat w F S) (n : Nat) : Sat { w with drawn := n } F S :=
  ⟨h.os, h.tape, h.out, h.know, h.own, h.apart, h.nodup⟩

theorem Sat.lt_own {w : World} {F : Know} {S : SH} (h : Sat w F S) {b : Nat} {o : Obj} (m : (b, o) ∈ S.flatten) : b < w.heap.size := by
  have := h.own b o m
  exact (Array.getElem?_eq_some_iff.1 this).1
theorem Sat.lt_know {w : World} {F : Know} {S : SH} (h : Sat w F S) {b : Nat} {o : Obj} (m : F.blk b = some o) : b < w.heap.size := by
  have := h.know b o m
  exact (Array.getElem?_eq_some_iff.1 this).1

/-- A new block. -/
theorem Sat.push {w : World} {F : Know} {S : SH} (h : Sat w F S) (o : Obj) : Sat { w with heap := w.heap.push o } F (pt w.heap.size o :: S) := by
  have hl : ∀ b o', w.heap[b]? = some o' → (w.heap.push o)[b]? = some o' := fun b o' e => by
    have hlt := (Array.getElem?_eq_some_iff.1 e).1
    rw [Array.getElem?_push, if_neg (by omega)]; exact e
  refine ⟨h.os, h.tape, h.out, fun b o' e => hl b o' (h.know b o' e), ?_, ?_, ?_⟩
  · intro b o' m
    simp only [pt, List.flatten_cons, List.cons_append, List.nil_append, List.mem_cons, Prod.mk.injEq] at m
    rcases m with ⟨rfl, rfl⟩ | m
    · simp
    · exact hl b o' (h.own b o' m)
  · intro b o' m
    simp only [pt, List.flatten_cons, List.cons_append, List.nil_append, List.mem_cons, Prod.mk.injEq] at m
    rcases m with ⟨rfl, rfl⟩ | m
    · cases e : F.blk w.heap.size with
      | none => rfl
      | some o2 => have := h.lt_know e; omega
    · exact h.apart b o' m
  · simp only [pt, List.flatten_cons, List.cons_append, List.nil_append, List.map_cons, List.nodup_cons]
    refine ⟨fun m => ?_, h.nodup⟩
    obtain ⟨⟨b, o'⟩, m, e⟩ := List.mem_map.1 m
    have := h.lt_own m
    simp at e
    omega

/-- An owned block is turned. -/
theorem Sat.set {w w' : World} {F : Know} {S : SH} {b : Nat} {o o' : Obj} (h : Sat w F (pt b o :: S)) (hos : w'.os = w.os) (htape : w'.tape = w.tape) (hout : w'.output = w.output)
    (hb : w'.heap[b]? = some o') (hne : ∀ i, i ≠ b → w'.heap[i]? = w.heap[i]?) : Sat w' F (pt b o' :: S) := by
  have hnd := h.nodup
  simp only [pt, List.flatten_cons, List.cons_append, List.nil_append, List.map_cons, List.nodup_cons] at hnd
  have ha : F.blk b = none := h.apart b o (by simp [pt])
  have hn : ∀ i x, (i, x) ∈ S.flatten → i ≠ b := fun i x m e => hnd.1 (List.mem_map.2 ⟨(i, x), m, e⟩)
  refine ⟨hos.trans h.os, htape.trans h.tape, hout.trans h.out, ?_, ?_, ?_, ?_⟩
  · intro i x e
    rw [hne i (fun e2 => by subst e2; rw [ha] at e; cases e)]; exact h.know i x e
  · intro i x m
    simp only [pt, List.flatten_cons, List.cons_append, List.nil_append, List.mem_cons, Prod.mk.injEq] at m
    rcases m with ⟨rfl, rfl⟩ | m
    · exact hb
    · rw [hne i (hn i x m)]; exact h.own i x (by simp [pt, m])
  · intro i x m
    simp only [pt, List.flatten_cons, List.cons_append, List.nil_append, List.mem_cons, Prod.mk.injEq] at m
    rcases m with ⟨rfl, rfl⟩ | m
    · exact ha
    · exact h.apart i x (by simp [pt, m])
  · simp only [pt, List.flatten_cons, List.cons_append, List.nil_append, List.map_cons, List.nodup_cons]
    exact hnd

/-- What is known less. -/
theorem Sat.less {w : World} {F G : Know} {S : SH} (h : Sat w G S) (k : F ≤ G) : Sat w F S :=
  ⟨h.os.trans k.2.1, h.tape.trans k.2.2.1, h.out.trans k.2.2.2, fun b o e => h.know b o (k.1 b o e), h.own, (fun b o m => by
    cases e : F.blk b with
    | none => rfl
    | some x => have := k.1 b x e; rw [h.apart b o m] at this; cases this), h.nodup⟩

/-- A chunk is dropped. -/
theorem Sat.drop {w : World} {F : Know} {S : SH} {h : Hp} (s : Sat w F (h :: S)) : Sat w F S :=
  ⟨s.os, s.tape, s.out, s.know, fun b o m => s.own b o (by simp [m]), fun b o m => s.apart b o (by simp [m]), by
    have := s.nodup
    simp only [List.flatten_cons, List.map_append] at this
    exact (List.nodup_append.1 this).2.1⟩

/-- Everything that a world holds. -/
def Know.of (w : World) : Know := ⟨fun b => w.heap[b]?, w.os, w.tape, w.output⟩
theorem Sat.of (w : World) : Sat w (Know.of w) [] := ⟨rfl, rfl, rfl, fun _ _ h => h, fun _ _ m => by simp at m, fun _ _ m => by simp at m, by simp⟩

theorem Sat.below {w w' : World} {F : Know} {S : SH} (h : Sat w' F S) (k : Know.of w ≤ F) : Go.RowKit.Below w.heap.size w w' := by
  refine ⟨h.os.trans k.2.1, h.tape.trans k.2.2.1, h.out.trans k.2.2.2, ?_, fun i hi => ?_⟩
  · rcases Nat.eq_zero_or_pos w.heap.size with e | e
    · omega
    · have e2 : w.heap[w.heap.size - 1]? = some w.heap[w.heap.size - 1] := by simp
      have := h.know _ _ (k.1 _ _ e2)
      have := (Array.getElem?_eq_some_iff.1 this).1
      omega
  · have e2 : w.heap[i]? = some w.heap[i] := by simp [hi]
    rw [h.know _ _ (k.1 _ _ e2), e2]

/-! ### Chunks picked -/

inductive Pick : SH → Hp → SH → Prop
  | here (h : Hp) (S : SH) : Pick (h :: S) h S
  | there {S : SH} {h : Hp} {T : SH} (g : Hp) : Pick S h T → Pick (g :: S) h (g :: T)

theorem Pick.perm {S T : SH} {h : Hp} (p : Pick S h T) : S.flatten.Perm (h :: T).flatten := by
  induction p with
  | here => exact List.Perm.refl _
  | @there S h T g _ ih =>
    simp only [List.flatten_cons] at ih ⊢
    refine (List.Perm.append_left g ih).trans ?_
    rw [← List.append_assoc, ← List.append_assoc]
    exact List.Perm.append_right _ List.perm_append_comm

theorem Sat.pick {w : World} {F : Know} {S T : SH} {h : Hp} (s : Sat w F S) (p : Pick S h T) : Sat w F (h :: T) := s.perm p.perm
theorem Sat.unpick {w : World} {F : Know} {S T : SH} {h : Hp} (s : Sat w F (h :: T)) (p : Pick S h T) : Sat w F S := s.perm p.perm.symm

/-- A chunk is put in another's place. -/
inductive Put : SH → Hp → Hp → SH → Prop
  | here (h g : Hp) (S : SH) : Put (h :: S) h g (g :: S)
  | there {S T : SH} {h g : Hp} (x : Hp) : Put S h g T → Put (x :: S) h g (x :: T)

theorem Put.picks {S T : SH} {h g : Hp} (p : Put S h g T) : ∃ U, Pick S h U ∧ Pick T g U := by
  induction p with
  | here h g S => exact ⟨S, .here _ _, .here _ _⟩
  | there x _ ih => obtain ⟨U, a, b⟩ := ih; exact ⟨x :: U, .there _ a, .there _ b⟩

/-- Several chunks picked. -/
inductive Picks : SH → SH → SH → Prop
  | nil (S : SH) : Picks S [] S
  | cons {S T U : SH} {h : Hp} {hs : SH} : Pick S h T → Picks T hs U → Picks S (h :: hs) U

theorem Picks.perm {S T hs : SH} (p : Picks S hs T) : S.flatten.Perm (hs ++ T).flatten := by
  induction p with
  | nil => exact List.Perm.refl _
  | cons a _ ih =>
    refine a.perm.trans ?_
    simp only [List.cons_append, List.flatten_cons]
    exact List.Perm.append_left _ ih

/-! ### Symbolic temporaries -/

abbrev Env := List (Nat × Value)
def lk : Env → Nat → Option Value
  | [], _ => none
  | (s, v) :: e, t => bif Nat.beq s t then some v else lk e t

theorem lk_cons (s : Nat) (v : Value) (e : Env) (t : Nat) : lk ((s, v) :: e) t = if s = t then some v else lk e t := by
  simp only [lk]
  by_cases h : s = t
  · subst h; simp
  · have : Nat.beq s t = false := by
      cases hb : Nat.beq s t
      · rfl
      · exact absurd (Nat.eq_of_beq_eq_true hb) h
    simp [this, h]

def EnvOK (e : Env) (tmps : Array Value) : Prop := ∀ t v, lk e t = some v → tmps[t]? = some v

theorem EnvOK.put {e : Env} {tmps : Array Value} (h : EnvOK e tmps) {d : Nat} (hd : d < tmps.size) (v : Value) : EnvOK ((d, v) :: e) (tmps.setIfInBounds d v) := by
  intro t u hu
  rw [lk_cons] at hu
  split at hu
  · rename_i e2; subst e2; cases hu; simp [hd]
  · rename_i e2
    rw [Array.getElem?_setIfInBounds_ne e2]
    exact h t u hu

def ev (e : Env) : Operand → Option Value
  | .tmp t => lk e t
  | .const v => some v
  | .global g => some (.pointer (some ⟨g, 0, none⟩))
  | .func f => some (.func (.func f) #[] #[])

def evs (e : Env) : List Operand → Option (List Value)
  | [] => some []
  | x :: xs => match ev e x with
    | none => none
    | some v => match evs e xs with
      | none => none
      | some vs => some (v :: vs)

/-- What is asked of a weaker list of temporaries. -/
def Sub (e : Env) : Env → Prop
  | [] => True
  | (t, v) :: r => lk e t = some v ∧ Sub e r
theorem Sub.lk {e r : Env} (h : Sub e r) : ∀ t v, Lx.lk r t = some v → Lx.lk e t = some v := by
  induction r with
  | nil => intro t v hv; simp [Lx.lk] at hv
  | cons x r ih =>
    obtain ⟨s, u⟩ := x
    intro t v hv
    rw [lk_cons] at hv
    split at hv
    · rename_i e2; subst e2; cases hv; exact h.1
    · exact ih h.2 t v hv
theorem Sub.ok {e r : Env} (h : Sub e r) {tmps : Array Value} (k : EnvOK e tmps) : EnvOK r tmps := fun t v hv => k t v (h.lk t v hv)

/-! ### Steps of the machine, a frame of whatever kind -/

structure Sh where
  fn : FuncId
  n : Nat
  kind : CallKind
  roundOf : Option Nat

def Sh.fr (s : Sh) (tmps : Array Value) (todo : List Item) (ds : List Deferred) : Frame := { fn := s.fn, tmps, todo, defers := ds, mode := .run, kind := s.kind, roundOf := s.roundOf }

def Ev (P : Program) (Φ : Machine → Prop) (m : Machine) : Prop := ∃ m', Steps P m m' ∧ Φ m'
theorem Ev.now {P : Program} {Φ : Machine → Prop} {m : Machine} (h : Φ m) : Ev P Φ m := ⟨m, .refl _ _, h⟩
theorem Ev.step {P : Program} {Φ : Machine → Prop} {m m₁ : Machine} (hs : step P m = .next m₁) (h : Ev P Φ m₁) : Ev P Φ m :=
  let ⟨m', s, p⟩ := h; ⟨m', .head hs s, p⟩
theorem Ev.steps {P : Program} {Φ : Machine → Prop} {m m₁ : Machine} (hs : Steps P m m₁) (h : Ev P Φ m₁) : Ev P Φ m :=
  let ⟨m', s, p⟩ := h; ⟨m', hs.trans s, p⟩

section steps
variable {P : Program} {s : Sh} {tmps : Array Value} {k : List Item} {ds : List Deferred} {cs : List Frame} {w : World}

theorem eval_fr (x : Operand) : (s.fr tmps k ds).eval x = (Act.mk tmps ds).eval x := by cases x <;> rfl

theorem st_skip : step P (lone (s.fr tmps (.code .skip :: k) ds) cs w) = .next (lone (s.fr tmps k ds) cs w) :=
  step_lone_go (by simp [stepG, stepG.exec, Sh.fr])
theorem st_label {l : Nat} : step P (lone (s.fr tmps (.code (.label l) :: k) ds) cs w) = .next (lone (s.fr tmps k ds) cs w) :=
  step_lone_go (by simp [stepG, stepG.exec, Sh.fr])
theorem st_inBlock {l : Nat} : step P (lone (s.fr tmps (.inBlock l :: k) ds) cs w) = .next (lone (s.fr tmps k ds) cs w) :=
  step_lone_go (by simp [stepG, stepG.exec, Sh.fr])
theorem st_inScope {c : Code} : step P (lone (s.fr tmps (.inScope c :: k) ds) cs w) = .next (lone (s.fr tmps k ds) cs w) :=
  step_lone_go (by simp [stepG, stepG.exec, Sh.fr])
theorem st_seq {x y : Code} : step P (lone (s.fr tmps (.code (.seq x y) :: k) ds) cs w) = .next (lone (s.fr tmps (.code x :: .code y :: k) ds) cs w) :=
  step_lone_go (by simp [stepG, stepG.exec, Sh.fr])
theorem st_cond {c : Operand} {x y : Code} {t : Bool} (h : (Act.mk tmps ds).eval c = .bool t) :
    step P (lone (s.fr tmps (.code (.cond c x y) :: k) ds) cs w) = .next (lone (s.fr tmps (.code (if t then x else y) :: k) ds) cs w) :=
  step_lone_go (by
    have := eval_fr (s := s) (tmps := tmps) (k := .code (.cond c x y) :: k) (ds := ds) c
    simp only [Sh.fr] at this
    simp [stepG, stepG.exec, Sh.fr, this, h])
theorem st_block {id : Nat} {c : Code} : step P (lone (s.fr tmps (.code (.block id c) :: k) ds) cs w) = .next (lone (s.fr tmps (.code c :: .inBlock id :: k) ds) cs w) :=
  step_lone_go (by simp [stepG, stepG.exec, Sh.fr])
theorem st_scope {c : Code} : step P (lone (s.fr tmps (.code (.scope c) :: k) ds) cs w) = .next (lone (s.fr tmps (.code c :: .inScope c :: k) ds) cs w) :=
  step_lone_go (by simp [stepG, stepG.exec, Sh.fr])
theorem st_loop {c : Code} : step P (lone (s.fr tmps (.code (.loop c) :: k) ds) cs w) = .next (lone (s.fr tmps (.code c :: .inLoop c :: k) ds) cs w) :=
  step_lone_go (by simp [stepG, stepG.exec, Sh.fr])
theorem st_inLoop {c : Code} : step P (lone (s.fr tmps (.inLoop c :: k) ds) cs w) = .next (lone (s.fr tmps (.code c :: .inLoop c :: k) ds) cs w) :=
  step_lone_go (by simp [stepG, stepG.exec, Sh.fr])
theorem st_exit {id : Nat} {k' : List Item} (h : exitTo id k = some k') :
    step P (lone (s.fr tmps (.code (.exit id) :: k) ds) cs w) = .next (lone (s.fr tmps k' ds) cs w) :=
  step_lone_go (by simp [stepG, stepG.exec, Sh.fr, h])
theorem st_ret (hr : s.roundOf = none) :
    step P (lone (s.fr tmps (.code .ret :: k) ds) cs w) = .next (lone { s.fr tmps (.code .ret :: k) ds with mode := .returning } cs w) :=
  step_lone_go (by simp [stepG, stepG.exec, Sh.fr, hr])
theorem st_end (hr : s.roundOf = none) :
    step P (lone (s.fr tmps [] ds) cs w) = .next (lone { s.fr tmps [] ds with mode := .returning } cs w) :=
  step_lone_go (by simp [stepG, stepG.exec, Sh.fr, hr])
theorem st_region {id : Nat} {ops : Array Oper} :
    step P (lone (s.fr tmps (.code (.region id ops false) :: k) ds) cs w) = .next (lone (s.fr tmps (.inRegion ops (List.range ops.size) :: k) ds) cs w) :=
  step_lone_go (by simp [stepG, stepG.exec, Sh.fr])
theorem st_region_draw {id : Nat} {ops : Array Oper} :
    step P (lone (s.fr tmps (.code (.region id ops true) :: k) ds) cs w) =
      .next (lone (s.fr tmps (.inRegion ops (Region.schedule (P.follows .mixedOrders) ops (w.tape w.drawn (.order s.fn id))) :: k) ds) cs { w with drawn := w.drawn + 1 }) :=
  step_lone_go (by simp [stepG, stepG.exec, Sh.fr, choose, Sem.run, Question.forced, Question.cut])
theorem st_region_end {ops : Array Oper} : step P (lone (s.fr tmps (.inRegion ops [] :: k) ds) cs w) = .next (lone (s.fr tmps k ds) cs w) :=
  step_lone_go (by simp [stepG, stepG.exec, Sh.fr])

def put (tmps : Array Value) (d : Option Nat) (v : Value) : Array Value := match d with | some d => tmps.setIfInBounds d v | none => tmps

theorem finish_fr {ops : Array Oper} {i : Nat} {rest : List Nat} (v : Value) :
    (s.fr tmps (.inRegion ops (i :: rest) :: k) ds).finish v = s.fr (put tmps ((ops[i]?).bind (·.dst)) v) (.inRegion ops rest :: k) ds := by
  cases h : (ops[i]?).bind (·.dst) <;> simp [Frame.finish, Sh.fr, put, h]

theorem st_op_skip {ops : Array Oper} {i : Nat} {rest : List Nat} (h : ((ops[i]?).map (Region.wanted · (yielded ops tmps))).getD false = false) :
    step P (lone (s.fr tmps (.inRegion ops (i :: rest) :: k) ds) cs w) =
      .next (lone (s.fr (put tmps ((ops[i]?).bind (·.dst)) undef) (.inRegion ops rest :: k) ds) cs w) := by
  rw [← finish_fr]
  exact step_lone_go (by simp only [Sh.fr] at *; simp [stepG, stepG.exec, h])

/-- An operation that is no defer in a round. -/
theorem stepG_fr {ops : Array Oper} {i : Nat} {rest : List Nat} {o : Oper} (ho : ops[i]? = some o) (hw : Region.wanted o (yielded ops tmps) = true)
    (hd : s.roundOf = none ∨ ∀ c, o.op ≠ .defer c) :
    stepG P true { frame := s.fr tmps (.inRegion ops (i :: rest) :: k) ds, callers := cs, status := .running, dying := none } w =
      stepG.apply P true (s.fr tmps (.inRegion ops (i :: rest) :: k) ds) cs none (execOp (Act.mk tmps ds).eval o) w := by
  have he : (s.fr tmps (.inRegion ops (i :: rest) :: k) ds).eval = (Act.mk tmps ds).eval := funext eval_fr
  simp only [Sh.fr] at he ⊢
  rcases hd with hd | hd
  · simp only [hd] at he; simp [stepG, stepG.exec, stepG.oper, Frame.oper?, ho, hw, he, hd]
  · cases hr : s.roundOf with
    | none => simp only [hr] at he; simp [stepG, stepG.exec, stepG.oper, Frame.oper?, ho, hw, he]
    | some l =>
      simp only [hr] at he
      simp only [stepG, stepG.exec, ho, Option.map_some, hw, Option.getD_some, if_true, stepG.oper, Frame.oper?, he]
      cases hop : o.op <;> first | rfl | (exact absurd hop (hd _))

theorem st_value {ops : Array Oper} {i : Nat} {rest : List Nat} {o : Oper} (ho : ops[i]? = some o) (hw : Region.wanted o (yielded ops tmps) = true)
    (hd : s.roundOf = none ∨ ∀ c, o.op ≠ .defer c) {v : Value} {w' : World} (hr : (execOp (Act.mk tmps ds).eval o).run P w = .ok (.value v) w') :
    step P (lone (s.fr tmps (.inRegion ops (i :: rest) :: k) ds) cs w) = .next (lone (s.fr (put tmps o.dst v) (.inRegion ops rest :: k) ds) cs w') := by
  have hf := finish_fr (s := s) (tmps := tmps) (k := k) (ds := ds) (ops := ops) (i := i) (rest := rest) v
  rw [ho] at hf
  simp only [Option.bind_some] at hf
  rw [← hf]
  exact step_lone_go (by rw [stepG_fr ho hw hd]; simp [stepG.apply, hr])

theorem st_skipped {ops : Array Oper} {i : Nat} {rest : List Nat} {o : Oper} (ho : ops[i]? = some o) (hw : Region.wanted o (yielded ops tmps) = true)
    (hd : s.roundOf = none ∨ ∀ c, o.op ≠ .defer c) {w' : World} (hr : (execOp (Act.mk tmps ds).eval o).run P w = .ok .skip w') :
    step P (lone (s.fr tmps (.inRegion ops (i :: rest) :: k) ds) cs w) = .next (lone (s.fr (put tmps o.dst undef) (.inRegion ops rest :: k) ds) cs w') := by
  have hf := finish_fr (s := s) (tmps := tmps) (k := k) (ds := ds) (ops := ops) (i := i) (rest := rest) undef
  rw [ho] at hf
  simp only [Option.bind_some] at hf
  rw [← hf]
  exact step_lone_go (by rw [stepG_fr ho hw hd]; simp [stepG.apply, hr])

theorem st_enter {ops : Array Oper} {i : Nat} {rest : List Nat} {o : Oper} (ho : ops[i]? = some o) (hw : Region.wanted o (yielded ops tmps) = true)
    (hd : s.roundOf = none ∨ ∀ c, o.op ≠ .defer c) {f : FuncId} {args : Array Value} {w' : World} (hr : (execOp (Act.mk tmps ds).eval o).run P w = .ok (.enter f args) w') :
    step P (lone (s.fr tmps (.inRegion ops (i :: rest) :: k) ds) cs w) =
      .next (lone (Frame.enter P f args .normal) (s.fr tmps (.inRegion ops (i :: rest) :: k) ds :: cs) w') :=
  step_lone_go (by rw [stepG_fr ho hw hd]; simp [stepG.apply, hr, Sh.fr])

theorem st_round {ops : Array Oper} {i : Nat} {rest : List Nat} {o : Oper} (ho : ops[i]? = some o) (hw : Region.wanted o (yielded ops tmps) = true)
    (hd : s.roundOf = none ∨ ∀ c, o.op ≠ .defer c) {l : Nat} {f : FuncId} {tm : Array Value} {assign body : Code} {w' : World}
    (hr : (execOp (Act.mk tmps ds).eval o).run P w = .ok (.round l f tm assign body) w') :
    step P (lone (s.fr tmps (.inRegion ops (i :: rest) :: k) ds) cs w) =
      .next (lone (Frame.round l f tm assign body .normal) (s.fr tmps (.inRegion ops (i :: rest) :: k) ds :: cs) w') :=
  step_lone_go (by rw [stepG_fr ho hw hd]; simp [stepG.apply, hr, Sh.fr])

theorem st_panic {ops : Array Oper} {i : Nat} {rest : List Nat} {o : Oper} (ho : ops[i]? = some o) (hw : Region.wanted o (yielded ops tmps) = true)
    (hd : s.roundOf = none ∨ ∀ c, o.op ≠ .defer c) {v : Value} {w' : World} (hr : (execOp (Act.mk tmps ds).eval o).run P w = .halt (.panic v) w') :
    step P (lone (s.fr tmps (.inRegion ops (i :: rest) :: k) ds) cs w) =
      .next (lone { s.fr tmps (.inRegion ops (i :: rest) :: k) ds with mode := .panicking [{ v, recovered := false }] } cs w') :=
  step_lone_go (by rw [stepG_fr ho hw hd]; simp [stepG.apply, hr, Sh.fr, Frame.raise])

theorem st_defer {ops : Array Oper} {i : Nat} {rest : List Nat} {o : Oper} (ho : ops[i]? = some o) (hw : Region.wanted o (yielded ops tmps) = true)
    (hd : s.roundOf = none ∨ ∀ c, o.op ≠ .defer c) {d : Deferred} {w' : World} (hr : (execOp (Act.mk tmps ds).eval o).run P w = .ok (.defer d) w') :
    step P (lone (s.fr tmps (.inRegion ops (i :: rest) :: k) ds) cs w) = .next (lone (s.fr (put tmps o.dst undef) (.inRegion ops rest :: k) (d :: ds)) cs w') := by
  have hf := finish_fr (s := s) (tmps := tmps) (k := k) (ds := d :: ds) (ops := ops) (i := i) (rest := rest) undef
  rw [ho] at hf
  simp only [Option.bind_some] at hf
  rw [← hf]
  exact step_lone_go (by rw [stepG_fr ho hw hd]; simp [stepG.apply, hr, Sh.fr])

end steps
end Go.Lx
