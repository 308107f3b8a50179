/- Memory with names, and the machine's. -/
import Derived.Test.YtbmncepaajkngaaGreatLxVc
namespace Go.Lx
set_option linter.unusedSimpArgs false
set_option linter.unusedVariables false

/-- One block is turned, all else is as it was. -/
structure Turned (w w' : World) (b : Nat) (o : Obj) : Prop where
  os : w'.os = w.os
  tape : w'.tape = w.tape
  out : w'.output = w.output
  at_ : w'.heap[b]? = some o
  ne : ∀ i, i ≠ b → w'.heap[i]? = w.heap[i]?

theorem add_none (b o n : Nat) : (⟨b, o, none⟩ : Addr).add n = ⟨b, o + n, none⟩ := by unfold Addr.add; split <;> simp_all
theorem cell_of_block {w : World} {b o : Nat} {c : Array Value} {e : TypeId} {fz : Nat × Nat} (h : w.heap[b]? = some (.cells c e fz)) : w.cell? ⟨b, o, none⟩ = c[o]? := by
  simp [World.cell?, h]

theorem layL_nil {α : Type} : ∀ (cs : List α) (n : Nat) (r : List α), layL cs n [] = some r → r = cs := by
  intro cs n
  induction n generalizing cs with
  | zero => intro r h; simp [layL] at h; exact h.symm
  | succ n ih =>
    intro r h
    cases cs with
    | nil => simp [layL] at h
    | cons c cs =>
      simp only [layL] at h
      cases hr : layL cs n [] with
      | none => simp [hr] at h
      | some r' => simp [hr] at h; subst h; rw [ih cs r' hr]

/-- Nothing of the row is frozen. -/
def frOK (fz : Nat × Nat) (n : Nat) : Prop := fz.1 = fz.2 ∨ n ≤ fz.1
theorem frOK.not {fz : Nat × Nat} {n i : Nat} (h : frOK fz n) (hi : i < n) : (decide (fz.1 ≤ i) && decide (i < fz.2)) = false := by
  rw [Bool.and_eq_false_iff]
  rcases h with h | h
  · by_cases hh : fz.1 ≤ i
    · right; simp; omega
    · left; simp; omega
  · left; simp; omega

theorem run_storeCells_turned {P : Program} {b off : Nat} {e : TypeId} {fz : Nat × Nat} : ∀ (vs : List Value) (i : Nat) (cs r : List Value) (w : World), w.heap[b]? = some (.cells cs.toArray e fz) → frOK fz cs.length → layL cs (off + i) vs = some r → (∀ v ∈ vs, v.oneCell' = true) →
    ∃ w', (storeCells ⟨b, off, none⟩ vs i).run P w = .ok () w' ∧ Turned w w' b (.cells r.toArray e fz)
  | [], i, cs, r, w, hb, hz, hl, _ => by
    have := layL_nil _ _ _ hl
    subst this
    exact ⟨w, by simp [storeCells], rfl, rfl, rfl, hb, fun _ _ => rfl⟩
  | v :: vs, i, cs, r, w, hb, hz, hl, h1 => by
    have hlen := (layL_len _ _ _ _ hl).1
    simp at hlen
    have hlt : off + i < cs.length := by omega
    have hcell : w.cell? ⟨b, off + i, none⟩ = some cs[off + i] := by
      rw [cell_of_block hb]; simp [hlt]
    have hfz : w.frozen? ⟨b, off + i, none⟩ = false := by
      simp only [World.frozen?, hb]
      exact hz.not hlt
    have hst : (store ((⟨b, off, none⟩ : Addr).add i) v).run P w = .ok () (w.setCell ⟨b, off + i, none⟩ v) := by
      rw [add_none, run_store P w _ v _ (h1 v (by simp)), hcell]
      simp [hfz]
    have hb' : (w.setCell ⟨b, off + i, none⟩ v).heap[b]? = some (.cells (cs.set (off + i) v).toArray e fz) := by
      simp [World.setCell, Array.getElem?_modify, hb]
    obtain ⟨w', hrun, ht⟩ := run_storeCells_turned (P := P) (b := b) (off := off) (e := e) vs (i + 1) (cs.set (off + i) v) r (w.setCell ⟨b, off + i, none⟩ v) hb' (by simpa using hz) (by have := layL_step _ _ _ _ _ hl; rwa [Nat.add_assoc] at this) (fun x m => h1 x (by simp [m]))
    refine ⟨w', by simp only [storeCells, Sem.run_bind, hst, Result.andThen_ok, hrun], ht.os, ht.tape, ht.out, ht.at_, fun j hj => ?_⟩
    rw [ht.ne j hj]
    simp [World.setCell, Array.getElem?_modify, hj.symm]

theorem growBy_le (need : Nat) : ∀ (r c : Nat), c ≤ need + (need + 768) / 4 → Builtin.growBy need r c ≤ need + (need + 768) / 4
  | 0, c, h => by simpa [Builtin.growBy] using h
  | r + 1, c, h => by
    simp only [Builtin.growBy]
    split
    · exact h
    · exact growBy_le need r _ (by omega)
theorem nextslicecap_le {need cap : Nat} (h : cap < need) : Builtin.nextslicecap need cap ≤ 2 * need := by
  unfold Builtin.nextslicecap
  split
  · omega
  · split
    · omega
    · have := growBy_le need 4 cap (by omega); omega
theorem run_askRoom (P : Program) (n : Nat) (w : World) : (askRoom n).run P w = .ok () w := by unfold askRoom; split <;> rfl
theorem run_newRow {P : Program} (e : TypeId) (cells : Array Value) (w : World) : (newRow e cells).run P w = .ok ⟨w.heap.size, 0, none⟩ { w with heap := w.heap.push (.cells cells e) } := rfl

theorem layL_append (xs : List Value) : ∀ (spare ys : List Value), ys.length ≤ spare.length → layL (xs ++ spare) xs.length ys = some (xs ++ ys ++ spare.drop ys.length) := by
  induction xs with
  | nil =>
    intro spare ys
    induction ys generalizing spare with
    | nil => intro _; simp [layL]
    | cons y ys ih =>
      intro h
      cases spare with
      | nil => simp at h
      | cons s spare =>
        have := ih spare (by simpa using h)
        simp at this
        simp [layL, this]
  | cons x xs ih => intro spare ys h; have := ih spare ys h; simp [layL, this]
theorem layL_more {α : Type} : ∀ (cs : List α) (o : Nat) (vs r rest : List α), layL cs o vs = some r → layL (cs ++ rest) o vs = some (r ++ rest)
  | cs, 0, [], r, rest, h => by simp [layL] at h ⊢; rw [h]
  | [], 0, _ :: _, r, rest, h => by simp [layL] at h
  | [], _ + 1, _, r, rest, h => by simp [layL] at h
  | c :: cs, 0, v :: vs, r, rest, h => by
    simp only [layL] at h
    cases hr : layL cs 0 vs with
    | none => simp [hr] at h
    | some r' => simp [hr] at h; subst h; simp [layL, layL_more cs 0 vs r' rest hr]
  | c :: cs, o + 1, vs, r, rest, h => by
    simp only [layL] at h
    cases hr : layL cs o vs with
    | none => simp [hr] at h
    | some r' => simp [hr] at h; subst h; simp [layL, layL_more cs o vs r' rest hr]

/-! ### What entries stand for -/
def E.fz : E → Bool
  | .c _ _ _ z => z
  | _ => false

/-- What an entry stands for (cells). -/
def CellsOK (ρ : Nm) (l : List V) (e : TypeId) (tl : Option (Nat × Nat)) (z : Bool) (o : Obj) : Prop :=
  ∃ us rest fz, concL ρ l = some us ∧ o = .cells (us ++ rest).toArray e fz ∧ (z = false → frOK fz (us ++ rest).length) ∧ (match tl with | none => rest = [] | some (j, n) => ∃ c, ρ.caps[j]? = some c ∧ us.length + rest.length = c * n)

/-- What a deferred call stands for. -/
def DtOK (P : Program) (ρ : Nm) : Dt → Deferred → Prop
  | .fn f args, d => ∃ a c us, d = ⟨.fn (.func f) c, a⟩ ∧ concL ρ args = some us ∧ us.toArray = a ++ c ∧ hasBody P f = true
  | .coll b, d => ∃ id, ρ.ids b = some id ∧ d = ⟨.collected id, #[]⟩
inductive DtsOK (P : Program) (ρ : Nm) : List Dt → List Deferred → Prop
  | nil : DtsOK P ρ [] []
  | cons {d : Dt} {x : Deferred} {ds : List Dt} {xs : List Deferred} : DtOK P ρ d x → DtsOK P ρ ds xs → DtsOK P ρ (d :: ds) (x :: xs)
theorem DtOK.mono {P : Program} {ρ ρ' : Nm} (k : ρ ≤ ρ') : ∀ {d : Dt} {x : Deferred}, DtOK P ρ d x → DtOK P ρ' d x
  | .fn f args, x, ⟨a, c, us, h1, h2, h3⟩ => ⟨a, c, us, h1, concL_mono k _ h2, h3⟩
  | .coll b, x, ⟨id, h1, h2⟩ => ⟨id, k.1 _ _ h1, h2⟩
theorem DtsOK.mono {P : Program} {ρ ρ' : Nm} (k : ρ ≤ ρ') {ds : List Dt} {xs : List Deferred} (h : DtsOK P ρ ds xs) : DtsOK P ρ' ds xs := by
  induction h with
  | nil => exact .nil
  | cons a _ ih => exact .cons (a.mono k) ih

/-- The jump that a round was left by. -/
def PendR : Option RC → Option Code → Prop
  | none, none => True
  | some .ret, some .ret => True
  | some (.exit i), some (.exit j) => i = j
  | _, _ => False
def EOK (D : DrawFn) (P : Program) (ρ : Nm) : E → Obj → Prop
  | .c l e tl z, o => CellsOK ρ l e tl z o
  | .m l ck, o => l = [] ∧ o = .map #[] ck
  | .df l, o => (match l with | none => o = .deferred none | some [] => o = .deferred (some []) | some _ => False)
  | .lp st pend f tm n ps asg body df, o => ∃ fn c a b tmps p id, o = .loop { state := st, pending := p, fn := f, tmps := tmps, params := ps.toArray, assign := a, body := b, defers := id } ∧
      P.funcs[f]? = some fn ∧ tmps.size = c ∧ fn.ntmps = c ∧ resolveC D P c a = some asg ∧ resolveC D P c b = some body ∧ TmR ρ tm tmps ∧ (∀ t ∈ ps, t < c) ∧
      PendR pend p

theorem CellsOK.mono {ρ ρ' : Nm} (k : ρ ≤ ρ') {l : List V} {e : TypeId} {tl : Option (Nat × Nat)} {z : Bool} {o : Obj} (h : CellsOK ρ l e tl z o) : CellsOK ρ' l e tl z o := by
  obtain ⟨us, rest, fz, a, b, b2, c⟩ := h
  refine ⟨us, rest, fz, concL_mono k _ a, b, b2, ?_⟩
  cases tl with
  | none => exact c
  | some p => obtain ⟨cc, x, y⟩ := c; exact ⟨cc, pre_get k.2 x, y⟩
theorem EOK.mono {D : DrawFn} {P : Program} {ρ ρ' : Nm} (k : ρ ≤ ρ') : ∀ {x : E} {o : Obj}, EOK D P ρ x o → EOK D P ρ' x o
  | .c l e tl z, o, h => CellsOK.mono k h
  | .m l ck, o, h => h
  | .df l, o, h => h
  | .lp .., o, ⟨fn, c, a, b, tmps, p, id, h1, h2, h3, h4, h5, h6, h7, h8⟩ => ⟨fn, c, a, b, tmps, p, id, h1, h2, h3, h4, h5, h6, h7.mono k, h8⟩

/-- The memory with names, and the machine's. -/
structure HR (D : DrawFn) (P : Program) (ρ : Nm) (s : St) (F : Know) (L : Hp) : Prop where
  ent : ∀ b x, s.h.get b = some x → ∃ id o, ρ.ids b = some id ∧ EOK D P ρ x o ∧ ((x.fz = true ∧ F.blk id = some o) ∨ (x.fz = false ∧ (id, o) ∈ L))
  inj : ∀ b b' x x' id, s.h.get b = some x → s.h.get b' = some x' → ρ.ids b = some id → ρ.ids b' = some id → b = b'
  fresh : ∀ b, s.nb ≤ b → ρ.ids b = none
  nc : ρ.caps.length = s.nc

/-! ### Turns of memory -/
/-- Blocks of a list of owned ones, one of them turned. -/
def updL (L : Hp) (id : Nat) (o : Obj) : Hp := L.map fun p => if p.1 = id then (id, o) else p
theorem updL_keys (L : Hp) (id : Nat) (o : Obj) : (updL L id o).map (·.1) = L.map (·.1) := by
  unfold updL
  rw [List.map_map]
  apply List.map_congr_left
  intro p _
  simp only [Function.comp]
  split <;> simp_all
theorem mem_updL {L : Hp} {id b : Nat} {o x : Obj} (h : (b, x) ∈ updL L id o) : (b = id ∧ x = o) ∨ (b ≠ id ∧ (b, x) ∈ L) := by
  obtain ⟨p, hp, e⟩ := List.mem_map.1 h
  split at e
  · cases e; exact .inl ⟨rfl, rfl⟩
  · rename_i hn
    subst e; exact .inr ⟨hn, hp⟩
theorem updL_mem {L : Hp} {id : Nat} {o o' : Obj} (h : (id, o) ∈ L) : (id, o') ∈ updL L id o' := by
  refine List.mem_map.2 ⟨(id, o), h, by simp⟩
theorem updL_ne {L : Hp} {id b : Nat} {o x : Obj} (h : (b, x) ∈ L) (hn : b ≠ id) : (b, x) ∈ updL L id o := List.mem_map.2 ⟨(b, x), h, by simp [hn]⟩

theorem Sat.upd {w w' : World} {F : Know} {L : Hp} {T : SH} {id : Nat} {o o' : Obj} (h : Sat w F (L :: T)) (m : (id, o) ∈ L) (t : Turned w w' id o') : Sat w' F (updL L id o' :: T) := by
  have hT : ∀ b x, (b, x) ∈ T.flatten → b ≠ id := by
    intro b x hm e
    subst e
    have := h.nodup
    simp only [List.flatten_cons, List.map_append, List.nodup_append] at this
    exact this.2.2 b (List.mem_map.2 ⟨(b, o), m, rfl⟩) b (List.mem_map.2 ⟨(b, x), hm, rfl⟩) rfl
  have hF : F.blk id = none := h.apart id o (by simp [m])
  refine ⟨t.os.trans h.os, t.tape.trans h.tape, t.out.trans h.out, fun b x e => ?_, fun b x hm => ?_, fun b x hm => ?_, ?_⟩
  · rw [t.ne b (fun e2 => by subst e2; rw [hF] at e; cases e)]; exact h.know b x e
  · simp only [List.flatten_cons, List.mem_append] at hm
    rcases hm with hm | hm
    · rcases mem_updL hm with ⟨rfl, rfl⟩ | ⟨hn, hm⟩
      · exact t.at_
      · rw [t.ne b hn]; exact h.own b x (by simp [hm])
    · rw [t.ne b (hT b x hm)]; exact h.own b x (by simp [hm])
  · simp only [List.flatten_cons, List.mem_append] at hm
    rcases hm with hm | hm
    · rcases mem_updL hm with ⟨rfl, rfl⟩ | ⟨hn, hm⟩
      · exact hF
      · exact h.apart b x (by simp [hm])
    · exact h.apart b x (by simp [hm])
  · have := h.nodup
    simp only [List.flatten_cons, List.map_append, updL_keys] at this ⊢
    exact this
theorem Sat.new {w : World} {F : Know} {L : Hp} {T : SH} (h : Sat w F (L :: T)) (o : Obj) : Sat { w with heap := w.heap.push o } F (((w.heap.size, o) :: L) :: T) :=
  (h.push o).perm (by simp [pt])

section
variable {D : DrawFn} {P : Program} {ρ : Nm} {s : St} {F : Know} {L : Hp} {T : SH} {w : World}

theorem Hp.uniq {id : Nat} {o o' : Obj} (hs : Sat w F (L :: T)) (h : (id, o) ∈ L) (h' : (id, o') ∈ L) : o = o' := by
  have a := hs.own id o (by simp [h])
  have b := hs.own id o' (by simp [h'])
  rw [a] at b; cases b; rfl

theorem HR.at_ (h : HR D P ρ s F L) (hs : Sat w F (L :: T)) {b : Nat} {x : E} (g : s.h.get b = some x) : ∃ id o, ρ.ids b = some id ∧ EOK D P ρ x o ∧ w.heap[id]? = some o ∧ (x.fz = false → (id, o) ∈ L) := by
  obtain ⟨id, o, h1, h2, h4⟩ := h.ent _ _ g
  refine ⟨id, o, h1, h2, ?_, ?_⟩
  · rcases h4 with ⟨_, h4⟩ | ⟨_, h4⟩
    · exact hs.know _ _ h4
    · exact hs.own _ _ (by simp [h4])
  · intro hf
    rcases h4 with ⟨h4, _⟩ | ⟨_, h4⟩
    · rw [hf] at h4; cases h4
    · exact h4

theorem HR.getC (h : HR D P ρ s F L) (hs : Sat w F (L :: T)) {b : Nat} {l : List V} (g : getC s b = some l) :
    ∃ id us rest e fz, ρ.ids b = some id ∧ concL ρ l = some us ∧ w.heap[id]? = some (.cells (us ++ rest).toArray e fz) := by
  unfold Lx.getC at g
  split at g
  · rename_i l' e tl z he
    simp at g; subst g
    obtain ⟨id, o, h1, ⟨us, rest, fz, h2, rfl, _, h3⟩, h4, _⟩ := h.at_ hs he
    exact ⟨id, us, rest, e, fz, h1, h2, h4⟩
  · cases g

theorem ids_lt (h : HR D P ρ s F L) {b id : Nat} (e : ρ.ids b = some id) : b < s.nb := by
  apply Nat.lt_of_not_le
  intro hle
  rw [h.fresh b hle] at e; cases e

/-- An entry is turned (names and capacities stay). -/
theorem HR.put (h : HR D P ρ s F L) (hs : Sat w F (L :: T)) {b : Nat} {x x' : E} (g : s.h.get b = some x) (hf : x.fz = false) (hf' : x'.fz = false) {id : Nat} (hid : ρ.ids b = some id) {o' : Obj} (ok : EOK D P ρ x' o') :
    HR D P ρ ⟨s.h.set b (some x'), s.nb, s.nc⟩ F (updL L id o') := by
  obtain ⟨id0, o, h1, h2, h3, h4⟩ := h.at_ hs g
  rw [hid] at h1; cases h1
  have hm := h4 hf
  have hF : F.blk id = none := hs.apart id o (by simp [hm])
  refine ⟨fun c y gy => ?_, fun c c' y y' i gy gy' => ?_, h.fresh, h.nc⟩
  · simp only [Lx.T.get_set] at gy
    split at gy
    · rename_i e; subst e; cases gy
      exact ⟨id, o', hid, ok, .inr ⟨hf', updL_mem hm⟩⟩
    · rename_i hn
      obtain ⟨i, oy, a1, a2, a3⟩ := h.ent c y gy
      refine ⟨i, oy, a1, a2, ?_⟩
      rcases a3 with a3 | ⟨a3, a4⟩
      · exact .inl a3
      · refine .inr ⟨a3, updL_ne a4 fun e => ?_⟩
        subst e
        exact hn (h.inj c b y x i gy g a1 hid)
  · simp only [Lx.T.get_set] at gy gy'
    intro hi hi'
    split at gy <;> split at gy' <;> rename_i e1 e2
    · rw [e1, e2]
    · subst e1; exact h.inj c c' x y' i g gy' hi hi'
    · subst e2; exact h.inj c c' y x i gy g hi hi'
    · exact h.inj c c' y y' i gy gy' hi hi'

/-- A name is given up. -/
theorem HR.del (h : HR D P ρ s F L) (b : Nat) : HR D P ρ ⟨s.h.set b none, s.nb, s.nc⟩ F L := by
  refine ⟨fun c y gy => ?_, fun c c' y y' i gy gy' => ?_, h.fresh, h.nc⟩
  · simp only [Lx.T.get_set] at gy
    split at gy
    · cases gy
    · exact h.ent c y gy
  · simp only [Lx.T.get_set] at gy gy'
    split at gy <;> split at gy' <;> first | (cases gy; done) | (cases gy'; done) | exact h.inj c c' y y' i gy gy'

/-- A name is bound. -/
def Nm.bind (ρ : Nm) (b id : Nat) : Nm := ⟨fun i => if i = b then some id else ρ.ids i, ρ.caps⟩
theorem Nm.le_bind {ρ : Nm} {b id : Nat} (h : ρ.ids b = none) : ρ ≤ ρ.bind b id :=
  ⟨fun i x e => by
    simp only [Nm.bind]
    split
    · rename_i e2; subst e2; rw [h] at e; cases e
    · exact e, List.prefix_rfl⟩
theorem Nm.bind_at (ρ : Nm) (b id : Nat) : (ρ.bind b id).ids b = some id := by simp [Nm.bind]
/-- A capacity more. -/
def Nm.cap (ρ : Nm) (c : Nat) : Nm := ⟨ρ.ids, ρ.caps ++ [c]⟩
theorem Nm.le_cap (ρ : Nm) (c : Nat) : ρ ≤ ρ.cap c := ⟨fun _ _ e => e, List.prefix_append _ _⟩

theorem HR.mono {ρ' : Nm} (h : HR D P ρ s F L) (k : ρ ≤ ρ') (hids : ∀ b x, s.h.get b = some x → ρ'.ids b = ρ.ids b) (hf : ∀ b, s.nb ≤ b → ρ'.ids b = none) (hn : ρ'.caps.length = s.nc) : HR D P ρ' s F L := by
  refine ⟨fun b x g => ?_, fun b b' x x' i g g' => ?_, hf, hn⟩
  · obtain ⟨id, o, a1, a2, a3⟩ := h.ent b x g
    exact ⟨id, o, k.1 _ _ a1, a2.mono k, a3⟩
  · rw [hids b x g, hids b' x' g']
    exact h.inj b b' x x' i g g'

theorem Nm.caps_len_le {ρ ρ' : Nm} (k : ρ ≤ ρ') : ρ.caps.length ≤ ρ'.caps.length := k.2.length_le

/-- A new block with a new name: the block is in the machine's list already. -/
theorem HR.add (h : HR D P ρ s F L) (hs : Sat w F (L :: T)) {b id : Nat} {x : E} {o : Obj} (hf : x.fz = false) (hb : ρ.ids b = none) (hnb : b < s.nb) (hm : (id, o) ∈ L) (hfr : ∀ c y, s.h.get c = some y → ρ.ids c ≠ some id)
    (ok : EOK D P (ρ.bind b id) x o) : HR D P (ρ.bind b id) ⟨s.h.set b (some x), s.nb, s.nc⟩ F L := by
  have le := Nm.le_bind (id := id) hb
  have hne : ∀ c i, ρ.ids c = some i → c ≠ b := fun c i e e2 => by subst e2; rw [hb] at e; cases e
  refine ⟨fun c y gy => ?_, fun c c' y y' i gy gy' hi hi' => ?_, fun c hc => ?_, h.nc⟩
  · simp only [Lx.T.get_set] at gy
    split at gy
    · rename_i e; subst e; cases gy
      exact ⟨id, o, Nm.bind_at _ _ _, ok, .inr ⟨hf, hm⟩⟩
    · obtain ⟨i, oy, a1, a2, a3⟩ := h.ent c y gy
      exact ⟨i, oy, le.1 _ _ a1, a2.mono le, a3⟩
  · simp only [Lx.T.get_set] at gy gy'
    have e0 : ∀ c y, s.h.get c = some y → (ρ.bind b id).ids c = ρ.ids c := by
      intro c y g
      obtain ⟨j, _, a1, _⟩ := h.ent c y g
      simp only [Nm.bind]; rw [if_neg (hne c j a1)]
    split at gy <;> split at gy' <;> rename_i e1 e2
    · rw [e1, e2]
    · exfalso
      subst e1
      rw [Nm.bind_at] at hi; cases hi
      rw [e0 c' y' gy'] at hi'
      exact hfr c' y' gy' hi'
    · exfalso
      subst e2
      rw [Nm.bind_at] at hi'; cases hi'
      rw [e0 c y gy] at hi
      exact hfr c y gy hi
    · rw [e0 c y gy] at hi; rw [e0 c' y' gy'] at hi'
      exact h.inj c c' y y' i gy gy' hi hi'
  · simp only [Nm.bind]
    rw [if_neg (by simp at hc; omega)]
    exact h.fresh c hc

/-- More blocks that nobody has a name for. -/
theorem HR.more (h : HR D P ρ s F L) (p : Nat × Obj) : HR D P ρ s F (p :: L) :=
  ⟨fun b x g => by
    obtain ⟨id, o, a1, a2, a3⟩ := h.ent b x g
    refine ⟨id, o, a1, a2, ?_⟩
    rcases a3 with a3 | ⟨a3, a4⟩
    · exact .inl a3
    · exact .inr ⟨a3, by simp [a4]⟩, h.inj, h.fresh, h.nc⟩
theorem HR.keep (h : HR D P ρ s F L) : HR D P ρ ⟨s.h, s.nb + 1, s.nc⟩ F L := ⟨h.ent, h.inj, fun b hb => h.fresh b (by simp at hb; omega), h.nc⟩

/-- A new block. -/
theorem HR.new (h : HR D P ρ s F L) (hs : Sat w F (L :: T)) {x : E} {o : Obj} (hf : x.fz = false) (ok : EOK D P (ρ.bind s.nb w.heap.size) x o) :
    HR D P (ρ.bind s.nb w.heap.size) ⟨s.h.set s.nb (some x), s.nb + 1, s.nc⟩ F ((w.heap.size, o) :: L) ∧ Sat { w with heap := w.heap.push o } F (((w.heap.size, o) :: L) :: T) := by
  refine ⟨(((h.more (w.heap.size, o)).keep).add (hs.new o) hf (h.fresh _ (Nat.le_refl _)) (by simp) (by simp) (fun c y gy e => ?_) ok), hs.new o⟩
  obtain ⟨i, oy, a1, a2, a3⟩ := h.ent c y gy
  rw [a1] at e; cases e
  rcases a3 with ⟨_, a3⟩ | ⟨_, a3⟩
  · have := hs.lt_know a3; omega
  · have := hs.lt_own (b := w.heap.size) (o := oy) (by simp [a3]); omega
theorem HR.cap (h : HR D P ρ s F L) (c : Nat) : HR D P (ρ.cap c) ⟨s.h, s.nb, s.nc + 1⟩ F L :=
  ⟨fun b x g => by
    obtain ⟨id, o, a1, a2, a3⟩ := h.ent b x g
    exact ⟨id, o, a1, a2.mono (Nm.le_cap ρ c), a3⟩, h.inj, h.fresh, by simp [Nm.cap, h.nc]⟩

theorem newK_eq {β : Type} (s : St) (x : E) (k : St → β) : s.newK x k = k ⟨s.h.set s.nb (some x), s.nb + 1, s.nc⟩ := by
  cases s; simp [St.newK, Lx.T.setK_eq, fN_eq]
theorem putK_eq' {β : Type} (s : St) (b : Nat) (x : Option E) (k : St → β) : s.putK b x k = k ⟨s.h.set b x, s.nb, s.nc⟩ := by
  cases s; simp [St.putK, Lx.T.setK_eq]
theorem growK_eq {β : Type} (s : St) (l : List V) (t : TypeId) (n : Nat) (k : St → β) : s.growK l t n k = k ⟨s.h.set s.nb (some (.c l t (some (s.nc, n)) false)), s.nb + 1, s.nc + 1⟩ := by
  cases s; simp [St.growK, Lx.T.setK_eq, fN_eq, fL_eq]
theorem keepK_eq {β : Type} (s : St) (k : St → β) : s.keepK k = k ⟨s.h, s.nb + 1, s.nc⟩ := by
  cases s; simp [St.keepK, fN_eq]
theorem putKe_eq {β : Type} (e : Lx.T V) (d : Option Nat) (v : V) (k : Lx.T V → β) : putK e d v k = k (match d with | none => e | some d => e.set d (some v)) := by
  cases d <;> simp [putK, fV_eq, Lx.T.setK_eq]
end
end Go.Lx
