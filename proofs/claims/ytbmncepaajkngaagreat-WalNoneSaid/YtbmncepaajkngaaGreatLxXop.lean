/- Operations that make memory, write or call, on values with names. -/
import Derived.Test.YtbmncepaajkngaaGreatLxQop
import Derived.Lib.Bytealg
namespace Go.Lx
set_option linter.unusedSimpArgs false
set_option linter.unusedVariables false

/-- What external functions do. -/
def xsem : Xf → Array Value → Sem Value
  | .cmp => Extern.BytealgCompare.compare
  | .ld k => Extern.Atomic.loadT (.int k)
  | .st => Extern.Atomic.storeT
  | .add k => Extern.Atomic.update (Op.intArith .add) k true
  | .cas k => Extern.Atomic.casT (.int k)
  | .mrk => fun a => do let _ ← Extern.Race.at_ a; pure (.tuple #[])
  | .nop => fun _ => pure (.tuple #[])

/-- What is asked of the tables that a run leans on. -/
structure PgOK (D : DrawFn) (P : Program) (G : Pg) : Prop where
  fn : ∀ f x, G.fn f = some x → ∃ fn c, P.funcs[f]? = some fn ∧ fn.body = some c ∧ resolveC D P fn.ntmps c = some x.rc ∧ fn.ntmps = x.n ∧ resolveR P fn.results.toList = some x.res ∧ hasBody P f = true
  xf : ∀ f x, G.xf f = some x → ∀ (a : Array Value) (w : World), (callFunc f a).run P w = (vv (xsem x a)).run P w
  me : ∀ t name f, G.me t name = some f → hasBody P f = true ∧ ∀ (u : Value) (w : World), (method (P.types.size + Made.depth) t u name).run P w = .ok (f, u) w

theorem PgOK.hb {D : DrawFn} {P : Program} {G : Pg} (h : PgOK D P G) {f : Nat} (e : G.hb f = true) : hasBody P f = true := by
  unfold Pg.hb at e
  split at e
  · rename_i x hx; obtain ⟨_, _, _, _, _, _, _, a⟩ := h.fn f x hx; exact a
  · cases e

section
variable {D : DrawFn} {P : Program} {G : Pg} {ρ : Nm} {s : St} {F : Know} {L : Hp} {T : SH} {w : World} {e : VE} {r : Operand → Value}

theorem cells_of {ρ : Nm} {t : TypeId} {v : V} {u : Value} (hc : conc ρ v = some u) (h1 : onesV (cellsV v) = true) : CellsOK ρ (cellsV v) t none false (.cells u.cells t) := by
  refine ⟨cellsL u, [], (0, 0), cellsV_ok hc, ?_, fun _ => .inl rfl, rfl⟩
  rw [← cellsL_eq]; simp

theorem range_rep (zs : List Value) : ∀ cap : Nat, (List.range (cap * zs.length)).map (fun i => zs.toArray[i % zs.length]!) = (List.replicate cap zs).flatten
  | 0 => by simp
  | cap + 1 => by
    rcases Nat.eq_zero_or_pos zs.length with h0 | h0
    · have : zs = [] := List.length_eq_zero_iff.1 h0
      subst this
      simp
    · rw [Nat.succ_mul, List.range_add, List.map_append, range_rep zs cap, List.replicate_succ', List.flatten_append]
      congr 1
      rw [List.map_map]
      apply List.ext_getElem?
      intro i
      simp only [List.getElem?_map, Function.comp_def]
      by_cases hi : i < zs.length
      · have e : (cap * zs.length + i) % zs.length = i := by
          rw [Nat.mul_comm, Nat.mul_add_mod]; exact Nat.mod_eq_of_lt hi
        simp [List.getElem?_range hi, e, hi, Nat.mod_eq_of_lt hi]
      · simp [hi]
theorem array_rep (zs : List Value) (cap : Nat) : ((Array.range (cap * zs.length)).map fun i => zs.toArray[i % zs.length]!) = ((List.replicate cap zs).flatten).toArray := by
  apply Array.ext'
  rw [← range_rep zs cap]
  simp

/-- THE LAW of what makes memory of known size. -/
theorem aok {hb : Nat → Bool} {xf : Nat → Option Xf} {me : Nat → String → Option Nat} {op : ROp} {a : VE → St → Option (V × E)} (ha : actV hb xf me op = .a a) (he : OpR ρ e r (opR op)) (hf : ρ.ids s.nb = none) {v : V} {x : E} (h : a e s = some (v, x)) :
    ∃ u o, (rsem P r op).run P w = .ok (.value u) { w with heap := w.heap.push o } ∧ x.fz = false ∧ conc (ρ.bind s.nb w.heap.size) v = some u ∧ EOK D P (ρ.bind s.nb w.heap.size) x o := by
  have le := Nm.le_bind (id := w.heap.size) hf
  cases op <;> simp only [actV, Act'.a.injEq, reduceCtorEq] at ha <;> subst ha
  case newv t z =>
    simp only [a_newvV, Option.bind_eq_some_iff] at h
    obtain ⟨q, h1, h⟩ := h
    cases ho : onesV (cellsV q) with
    | false => simp [ho] at h
    | true =>
      simp only [ho, cond_true, Option.some.injEq, Prod.mk.injEq] at h
      obtain ⟨rfl, rfl⟩ := h
      refine ⟨.pointer (some ⟨w.heap.size, 0, none⟩), .cells z.cells t, by simp [rsem, vv, newVar, run_newRow], rfl, by simp [conc, Nm.bind_at], ?_⟩
      exact (cells_of (ofC_ok _ _ _ h1) ho)
  case box t x0 =>
    simp only [a_boxV, Option.bind_eq_some_iff] at h
    obtain ⟨q, h1, h⟩ := h
    cases ho : onesV (cellsV q) with
    | false => simp [ho] at h
    | true =>
      simp only [ho, cond_true, Option.some.injEq, Prod.mk.injEq] at h
      obtain ⟨rfl, rfl⟩ := h
      refine ⟨.pointer (some ⟨w.heap.size, 0, none⟩), .cells (r x0).cells t, by simp [rsem, vv, Instr.box, newVar, run_newRow], rfl, by simp [conc, Nm.bind_at], ?_⟩
      exact (cells_of (conc_mono le _ (he x0 (by simp [opR]) _ h1)) ho)
  case mkSl t n len cells parts =>
    simp only [a_mkSlV, Option.bind_eq_some_iff, Option.some.injEq, Prod.mk.injEq] at h
    obtain ⟨z, h1, vs, h2, q, h3, rfl, rfl⟩ := h
    obtain ⟨rs, a1, a2⟩ := bld_parts (by simpa [opR] using he) h1 h2 h3
    refine ⟨.slice (some ⟨w.heap.size, 0, none⟩) len len, .cells rs.toArray t, ?_, rfl, by simp [conc, Nm.bind_at], ?_⟩
    · simp only [rsem, vv, a1]; simp [run_newRow]
    · exact ⟨rs, [], (0, 0), concL_mono le _ a2, by simp, fun _ => .inl rfl, rfl⟩
  case mkSlice t n bytes z l c =>
    unfold a_mkSliceV at h
    split at h <;> first | (cases h; done) | skip
    rename_i k1 len k2 cap hl hc
    have h1 := conc_i (he l (by simp [opR]) _ hl)
    have h2 := conc_i (he c (by simp [opR]) _ hc)
    simp only [Option.bind_eq_some_iff] at h
    obtain ⟨q, hq, h⟩ := h
    cases hcc : (Nat.ble len cap && Nat.ble cap 1152921504606846976 && Nat.ble (bytes * cap) 140737488355328 && Nat.beq (cellsV q).length n && onesV (cellsV q)) with
    | false => simp [hcc] at h
    | true =>
      simp only [hcc, cond_true, Option.some.injEq, Prod.mk.injEq] at h
      obtain ⟨rfl, rfl⟩ := h
      simp only [Bool.and_eq_true] at hcc
      obtain ⟨⟨⟨⟨c1, c2⟩, c3⟩, c4⟩, c5⟩ := hcc
      have c1 := Nat.le_of_ble_eq_true c1
      have c2 := Nat.le_of_ble_eq_true c2
      have c3 := Nat.le_of_ble_eq_true c3
      have c4 := Nat.eq_of_beq_eq_true c4
      have k1 := cellsV_ok (ofC_ok (ρ := ρ.bind s.nb w.heap.size) _ _ _ hq)
      have hlen : (cellsL z).length = n := by rw [concL_len k1]; exact c4
      have hzs : z.cells = (cellsL z).toArray := by rw [← cellsL_eq]
      have hb : (0 : Int) ≤ len ∧ (len : Int) ≤ cap ∧ (cap : Int) ≤ 1152921504606846976 ∧ (bytes : Int) * cap ≤ 140737488355328 := by
        refine ⟨by omega, by omega, by omega, ?_⟩
        have : ((bytes * cap : Nat) : Int) ≤ 140737488355328 := by omega
        simpa using this
      have hcells : ((Array.range (((cap : Int).toNat) * n)).map ((if ((cap : Int).toNat) * n = 0 then #[] else z.cells)[· % (if ((cap : Int).toNat) * n = 0 then #[] else z.cells).size]!)) = ((List.replicate cap (cellsL z)).flatten).toArray := by
        rw [Int.toNat_natCast, ← array_rep, hlen]
        by_cases h0 : cap * n = 0
        · rw [h0]; apply Array.ext'; simp
        · simp only [h0, if_false, hzs]
          simp [hlen]
      refine ⟨.slice (some ⟨w.heap.size, 0, none⟩) len cap, .cells ((List.replicate cap (cellsL z)).flatten).toArray t, ?_, rfl, by simp [conc, Nm.bind_at], ?_⟩
      · simp only [rsem, vv, h1, h2, Int.ofNat_eq_natCast]
        rw [if_pos hb, hcells]
        simp [run_newRow]
      · exact ⟨_, [], (0, 0), repV_ok k1 cap, by simp, fun _ => .inl rfl, rfl⟩
  case mkMap =>
    simp only [a_mkMapV, Option.some.injEq, Prod.mk.injEq] at h
    obtain ⟨rfl, rfl⟩ := h
    exact ⟨.map (some w.heap.size), .map #[] 0, rfl, rfl, by simp [conc, Nm.bind_at], rfl, rfl⟩

theorem concL_take {ρ : Nm} : ∀ {l : List V} {us : List Value}, concL ρ l = some us → ∀ n, concL ρ (l.take n) = some (us.take n)
  | [], us, h, n => by simp [concL] at h; subst h; simp [concL]
  | v :: vs, us, h, 0 => by simp [concL]
  | v :: vs, us, h, n + 1 => by
    simp only [concL, Option.bind_eq_some_iff, Option.some.injEq] at h
    obtain ⟨u, a, us', b, rfl⟩ := h
    simp [concL, a, concL_take b n]

/-- What came of memory. -/
structure Went (D : DrawFn) (P : Program) (ρ ρ' : Nm) (s s' : St) (F : Know) (L' : Hp) (T : SH) (w' : World) : Prop where
  le : ρ ≤ ρ'
  same : ∀ b, b < s.nb → ρ'.ids b = ρ.ids b
  nb : s.nb ≤ s'.nb
  hr : HR D P ρ' s' F L'
  sat : Sat w' F (L' :: T)

theorem Went.refl (hh : HR D P ρ s F L) (hs : Sat w F (L :: T)) : Went D P ρ ρ s s F L T w := ⟨Nm.le_refl ρ, fun _ _ => rfl, Nat.le_refl _, hh, hs⟩
theorem Went.trans {ρ1 ρ2 : Nm} {s1 s2 : St} {L1 L2 : Hp} {w1 w2 : World} (a : Went D P ρ ρ1 s s1 F L1 T w1) (b : Went D P ρ1 ρ2 s1 s2 F L2 T w2) : Went D P ρ ρ2 s s2 F L2 T w2 :=
  ⟨Nm.le_trans a.le b.le, fun n h => (b.same n (Nat.lt_of_lt_of_le h a.nb)).trans (a.same n h), Nat.le_trans a.nb b.nb, b.hr, b.sat⟩

theorem Went.new (hh : HR D P ρ s F L) (hs : Sat w F (L :: T)) {x : E} {o : Obj} (hf : x.fz = false) (ok : EOK D P (ρ.bind s.nb w.heap.size) x o) :
    Went D P ρ (ρ.bind s.nb w.heap.size) s ⟨s.h.set s.nb (some x), s.nb + 1, s.nc⟩ F ((w.heap.size, o) :: L) T { w with heap := w.heap.push o } :=
  ⟨Nm.le_bind (hh.fresh _ (Nat.le_refl _)), fun b hb => by simp only [Nm.bind]; rw [if_neg (by omega)], by simp, (hh.new hs hf ok).1, (hh.new hs hf ok).2⟩
theorem Went.put (hh : HR D P ρ s F L) (hs : Sat w F (L :: T)) {w' : World} {b : Nat} {x x' : E} (g : s.h.get b = some x) (hf : x.fz = false) (hf' : x'.fz = false) {id : Nat} (hid : ρ.ids b = some id) {o' : Obj} (ok : EOK D P ρ x' o') (t : Turned w w' id o') :
    Went D P ρ ρ s ⟨s.h.set b (some x'), s.nb, s.nc⟩ F (updL L id o') T w' := by
  obtain ⟨id0, o, h1, h2, h3, h4⟩ := hh.at_ hs g
  rw [hid] at h1; cases h1
  exact ⟨Nm.le_refl ρ, fun _ _ => rfl, Nat.le_refl _, hh.put hs g hf hf' hid ok, hs.upd (h4 hf) t⟩

/-- A store into cells. -/
theorem put_cells (hh : HR D P ρ s F L) (hs : Sat w F (L :: T)) {b off : Nat} {l q vs : List V} {t : TypeId} {tl : Option (Nat × Nat)} (g : s.h.get b = some (.c l t tl false)) {id : Nat} (hid : ρ.ids b = some id) {us : List Value} (hvs : concL ρ vs = some us) (hl : layV l off vs = some q) :
    ∃ w' o', (storeCells ⟨id, off, none⟩ us).run P w = .ok () w' ∧ Went D P ρ ρ s ⟨s.h.set b (some (.c q t tl false)), s.nb, s.nc⟩ F (updL L id o') T w' := by
  obtain ⟨id0, o, h1, ⟨ws, rest, fz, k1, rfl, k2, k3⟩, h3, h4⟩ := hh.at_ hs g
  rw [hid] at h1; cases h1
  obtain ⟨rs, l1, l2, l3⟩ := layV_ok k1 hvs hl
  have hlay := layL_more _ _ _ _ rest l1
  obtain ⟨w', hrun, ht⟩ := run_storeCells_turned (P := P) (b := id) (off := off) (e := t) us 0 (ws ++ rest) (rs ++ rest) w h3 (k2 rfl) (by simpa using hlay) l3
  have hlen := (layL_len _ _ _ _ l1).2
  refine ⟨w', _, hrun, Went.put hh hs g rfl rfl hid ?_ ht⟩
  refine ⟨rs, rest, fz, l2, rfl, fun _ => by have := k2 rfl; simpa [hlen] using this, ?_⟩
  cases tl with
  | none => exact k3
  | some p => obtain ⟨c, a, b'⟩ := k3; exact ⟨c, a, by rw [hlen]; exact b'⟩

/-- A new row of which the capacity is drawn. -/
theorem put_grow (hh : HR D P ρ s F L) (hs : Sat w F (L :: T)) {l : List V} {t : TypeId} {n c : Nat} {us rest : List Value} {fz : Nat × Nat} (hl : concL ρ l = some us) (hlen : us.length + rest.length = c * n) (hz : frOK fz (us ++ rest).length) :
    Went D P ρ ((ρ.cap c).bind s.nb w.heap.size) s ⟨s.h.set s.nb (some (.c l t (some (s.nc, n)) false)), s.nb + 1, s.nc + 1⟩ F ((w.heap.size, .cells (us ++ rest).toArray t fz) :: L) T { w with heap := w.heap.push (.cells (us ++ rest).toArray t fz) } := by
  have h1 := hh.cap c
  have le1 := Nm.le_cap ρ c
  have le2 : ρ.cap c ≤ (ρ.cap c).bind s.nb w.heap.size := Nm.le_bind (hh.fresh _ (Nat.le_refl _))
  have w2 := Went.new (s := ⟨s.h, s.nb, s.nc + 1⟩) (x := .c l t (some (s.nc, n)) false) (o := .cells (us ++ rest).toArray t fz) h1 hs rfl
    ⟨us, rest, fz, concL_mono (Nm.le_trans le1 le2) _ hl, rfl, fun _ => hz, c, by
      show (ρ.caps ++ [c])[s.nc]? = some c
      rw [← hh.nc]; simp, hlen⟩
  exact ⟨Nm.le_trans le1 w2.le, fun b hb => w2.same b hb, w2.nb, w2.hr, w2.sat⟩

theorem src_ok (hh : HR D P ρ s F L) (hs : Sat w F (L :: T)) {sz m : Nat} {v : V} {u : Value} {ys : List V} (hc : conc ρ v = some u) (h : srcV s sz v = some (ys, m)) :
    ∃ us, concL ρ ys = some us ∧ us.length = m * sz ∧ ∀ w1, w1.heap = w.heap → (Builtin.lenOf u).run P w1 = .ok m w1 ∧ (∀ j, j ≤ m → (Builtin.firstCells sz j u).run P w1 = .ok (us.take (j * sz)).toArray w1) := by
  unfold srcV at h
  split at h
  · rename_i l
    cases hb : Nat.beq sz 1 with
    | false => simp [hb] at h
    | true =>
      have := Nat.eq_of_beq_eq_true hb
      subst this
      simp only [hb, cond_true, Option.some.injEq, Prod.mk.injEq] at h
      obtain ⟨rfl, rfl⟩ := h
      have h1 := conc_s hc
      subst h1
      refine ⟨l.map fun c => .int .u8 c.toNat, ?_, by simp, fun w1 _ => ⟨by simp [Builtin.lenOf, ByteArray.size], fun j _ => ?_⟩⟩
      · clear hc
        induction l with
        | nil => rfl
        | cons c l ih => simp [concL, conc, ih]
      · simp only [Builtin.firstCells, Sem.run_pure]
        congr 1
        apply Array.ext'
        simp [List.map_take]
  · rename_i n cap
    cases hb : Nat.beq n 0 with
    | false => simp [hb] at h
    | true =>
      have := Nat.eq_of_beq_eq_true hb
      subst this
      simp only [hb, cond_true, Option.some.injEq, Prod.mk.injEq] at h
      obtain ⟨rfl, rfl⟩ := h
      obtain ⟨c, _, rfl⟩ := conc_slnil hc
      exact ⟨[], rfl, by simp, fun w1 _ => ⟨by simp [Builtin.lenOf], fun j _ => by simp [Builtin.firstCells]⟩⟩
  · rename_i b o n cap
    simp only [Option.bind_eq_some_iff, Option.some.injEq, Prod.mk.injEq] at h
    obtain ⟨l, h1, q, h2, rfl, rfl⟩ := h
    obtain ⟨id, us, rest, et, fz, i1, i2, i3⟩ := hh.getC hs h1
    obtain ⟨ws, n1, n2⟩ := partV_ok i2 h2
    obtain ⟨id', a, c, d, rfl, ha, _⟩ := conc_sl hc
    rw [i1] at d; cases d
    have hlen := (partL_eq _ _ _ _ n1).2
    have heq := (partL_eq _ _ _ _ n1).1
    refine ⟨ws, n2, hlen, fun w1 hw1 => ⟨by simp [Builtin.lenOf], fun j hj => ?_⟩⟩
    have hrun : (loadCells ⟨id, a, none⟩ (j * sz)).run P w1 = .ok (ws.take (j * sz)).toArray w1 := by
      have hjs : j * sz ≤ n * sz := Nat.mul_le_mul_right _ hj
      by_cases h0 : 0 < n
      · rw [ha h0]
        have hlt : (ws.take (j * sz)).length = j * sz := by rw [List.length_take, hlen]; exact Nat.min_eq_left hjs
        have := run_loadCells_list (P := P) w1 ⟨id, o, none⟩ (ws.take (j * sz)) (fun i v hi => by
          rw [add_none, cell_of_block (by rw [hw1]; exact i3)]
          rw [List.getElem?_take] at hi
          split at hi
          · rw [heq, List.getElem?_take] at hi
            split at hi
            · rw [List.getElem?_drop] at hi
              have := (List.getElem?_eq_some_iff.1 hi).1
              simp [List.getElem?_append_left this, hi]
            · cases hi
          · cases hi)
        rwa [hlt] at this
      · have h0' : n = 0 := by omega
        subst h0'
        have hz : j * sz = 0 := by omega
        rw [hz]
        exact run_loadCells_list (P := P) w1 ⟨id, a, none⟩ [] (fun i v hi => by simp at hi)
    simp [Builtin.firstCells, hrun]
  · cases h

/-- What an operation that writes or calls comes to. -/
def XR (D : DrawFn) (P : Program) (ρ : Nm) (s : St) (F : Know) (T : SH) (w : World) (run : Result Next) : OR → Prop
  | .v v s' => ∃ u w' ρ' L', (run = .ok (.value u) w' ∨ (run = .ok .skip w' ∧ u = undef)) ∧ Went D P ρ ρ' s s' F L' T w' ∧ conc ρ' v = some u
  | .call f args => ∃ us, concL ρ args = some us ∧ run = .ok (.enter f us.toArray) w
  | .round l args => ∃ us id, concL ρ args = some us ∧ ρ.ids l = some id ∧ run = (Instr.yield id us.toArray).run P w
  | .pan v => ∃ u, conc ρ v = some u ∧ run = .halt (.panic u) w
  | .dfr d => ∃ x, DtOK P ρ d x ∧ run = .ok (.defer x) w
  | .rcv => run = .ok .recover w

theorem conc_und : conc ρ undV = some undef := rfl

theorem xok_store (hh : HR D P ρ s F L) (hs : Sat w F (L :: T)) {n : Nat} {a x : Operand} {o : OR} (he : OpR ρ e r (opR (.store n a x))) (h : x_storeV n a x e s = some o) : XR D P ρ s F T w ((rsem P r (.store n a x)).run P w) o := by
  unfold x_storeV at h
  split at h <;> first | (cases h; done) | skip
  rename_i b off ha
  obtain ⟨id, i1, h1⟩ := conc_p (he a (by simp [opR]) _ ha)
  simp only [Option.bind_eq_some_iff] at h
  obtain ⟨v, hx, h⟩ := h
  have h2 := he x (by simp [opR]) _ hx
  have h3 := cellsV_ok h2
  cases hb : Nat.beq (cellsV v).length n with
  | false => simp [hb] at h
  | true =>
    simp only [hb, cond_true] at h
    split at h <;> first | (cases h; done) | skip
    rename_i l t tl hg
    simp only [Option.bind_eq_some_iff, putK_eq', Option.some.injEq] at h
    obtain ⟨q, hl, rfl⟩ := h
    obtain ⟨w', o', hrun, hw⟩ := put_cells hh hs hg i1 h3 hl
    refine ⟨undef, w', ρ, _, .inr ⟨?_, rfl⟩, hw, conc_und⟩
    have e1 : (r x).cells.size = n := by rw [← Array.length_toList, cellsL_eq, concL_len h3]; exact Nat.eq_of_beq_eq_true hb
    have e2 : (r x).cells.toList = cellsL (r x) := cellsL_eq _
    simp [rsem, uu, h1, Instr.sureAddr, e1, e2, hrun]

theorem xok_call {f : FuncId} {xs : List Operand} {o : OR} (he : OpR ρ e r (opR (.call f xs))) (h : x_callV f xs e s = some o) : XR D P ρ s F T w ((rsem P r (.call f xs)).run P w) o := by
  simp only [x_callV, Option.bind_eq_some_iff, Option.some.injEq] at h
  obtain ⟨vs, h1, rfl⟩ := h
  exact ⟨_, evs_ok (by simpa [opR] using he) h1, by simp [rsem]⟩

theorem xok_callV (hG : PgOK D P G) {x : Operand} {xs : List Operand} {o : OR} (he : OpR ρ e r (opR (.callV x xs))) (h : x_callVV G.hb x xs e s = some o) : XR D P ρ s F T w ((rsem P r (.callV x xs)).run P w) o := by
  simp only [x_callVV, Option.bind_eq_some_iff] at h
  obtain ⟨vs, h1, h⟩ := h
  have k1 := evs_ok (fun y m => he y (by simp [opR, m])) h1
  split at h <;> first | (cases h; done) | skip
  · rename_i f a c hx
    cases hb : G.hb f with
    | false => simp [hb] at h
    | true =>
      simp only [hb, cond_true, Option.some.injEq] at h; subst h
      obtain ⟨f', a', c', e1, e2, e3, hr⟩ := conc_fn (he x (by simp [opR]) _ hx)
      simp only [concF, Option.some.injEq] at e1; subst e1
      refine ⟨_, concL_append (concL_append e2 k1) e3, ?_⟩
      have e4 : a'.toArray ++ (xs.map r).toArray ++ c'.toArray = (a' ++ xs.map r ++ c').toArray := by apply Array.ext'; simp
      simp only [rsem, hr, Deferred.ofValue, pure_bind, invoke]
      rw [run_hasBody (hG.hb hb), e4]
  · rename_i l hx
    simp only [Option.some.injEq] at h; subst h
    obtain ⟨f', a', c', e1, e2, e3, hr⟩ := conc_fn (he x (by simp [opR]) _ hx)
    simp only [concF, Option.map_eq_some_iff] at e1
    obtain ⟨id, hid, rfl⟩ := e1
    simp only [concL, Option.some.injEq] at e2 e3
    subst e2; subst e3
    exact ⟨_, id, k1, hid, by simp [rsem, hr, Deferred.ofValue, invoke]⟩

theorem xok_inv (hG : PgOK D P G) {x : Operand} {name : String} {xs : List Operand} {o : OR} (he : OpR ρ e r (opR (.inv x name xs))) (h : x_invV G.me x name xs e s = some o) : XR D P ρ s F T w ((rsem P r (.inv x name xs)).run P w) o := by
  simp only [x_invV, Option.bind_eq_some_iff] at h
  obtain ⟨vs, h1, h⟩ := h
  have k1 := evs_ok (fun y m => he y (by simp [opR, m])) h1
  split at h <;> first | (cases h; done) | skip
  rename_i t v hx
  simp only [Option.bind_eq_some_iff, Option.some.injEq] at h
  obtain ⟨f, hm, rfl⟩ := h
  obtain ⟨u, e1, hr⟩ := conc_fc (he x (by simp [opR]) _ hx)
  obtain ⟨m1, m2⟩ := hG.me _ _ _ hm
  refine ⟨u :: xs.map r, by simp [concL, e1, k1], ?_⟩
  have hp : ∀ w, (program).run P w = .ok P w := fun _ => rfl
  have e4 : #[u] ++ (xs.map r).toArray = (u :: xs.map r).toArray := by apply Array.ext'; simp
  simp only [rsem, hr, callMethod, Sem.run_bind, hp, Result.andThen_ok, m2]
  rw [run_hasBody m1, e4]

theorem xok_panic {x : Operand} {o : OR} (he : OpR ρ e r (opR (.panic x))) (h : x_panicV x e s = some o) : XR D P ρ s F T w ((rsem P r (.panic x)).run P w) o := by
  unfold x_panicV at h
  split at h <;> first | (cases h; done) | skip
  rename_i t v hx
  simp only [Option.some.injEq] at h; subst h
  have h1 := he x (by simp [opR]) _ hx
  obtain ⟨u, e1, hr⟩ := conc_fc h1
  exact ⟨_, h1, by simp [rsem, vv, hr, Instr.panic, goPanic]⟩

theorem xok_defr (hG : PgOK D P G) {c : Call} {t : TypeId} {o : OR} (he : OpR ρ e r (opR (.defr c t))) (h : x_defrV G.hb c e s = some o) : XR D P ρ s F T w ((rsem P r (.defr c t)).run P w) o := by
  simp only [x_defrV, Option.bind_eq_some_iff] at h
  obtain ⟨vs, h1, h⟩ := h
  split at h <;> first | (cases h; done) | skip
  rename_i f hc
  have k1 := evs_ok (fun y m => he y (by simp [opR]; right; simpa using m)) h1
  split at h <;> first | (cases h; done) | skip
  rename_i g a b hx
  cases hb : G.hb g with
  | false => simp [hb] at h
  | true =>
    simp only [hb, cond_true, Option.some.injEq] at h; subst h
    obtain ⟨f', a', c', e1, e2, e3, hr⟩ := conc_fn (he f (by simp [opR, hc]) _ hx)
    simp only [concF, Option.some.injEq] at e1; subst e1
    refine ⟨⟨.fn (.func g) c'.toArray, a'.toArray ++ c.args.map r⟩, ⟨_, _, _, rfl, concL_append (concL_append e2 k1) e3, ?_, hG.hb hb⟩, ?_⟩
    · apply Array.ext'; simp
    · simp [rsem, resolve, hc, hr, Deferred.ofValue]

theorem zero_len {z : Value} {n : Nat} (h : z.cells.size = n) (k : Nat) : (Builtin.zeroCells z.cells k).size = k * n := by simp [Builtin.zeroCells, h]

/-- Appending: the row is full, or may be. -/
theorem grow_ok (hh : HR D P ρ s F L) (hs : Sat w F (L :: T)) {len m n : Nat} {cap : Cap} {a : Option (Nat × Nat)} {t : TypeId} {ys : List V} {o : OR} {u : Value} {us : List Value} (hx : conc ρ (.sl a len cap) = some u) (hy : concL ρ ys = some us) (hlen : us.length = m * n) (h1 : ∀ x ∈ us, x.oneCell' = true)
    (h : grow s len m cap a n t ys = some o) (hcap : ∀ k, cap = .k k → k < len + m) :
    ∃ base sLen sCap, u = .slice base sLen sCap ∧ sLen = len ∧
      (len + m ≤ sCap → ∃ w', (match base with | some ad => storeCells (ad.add (len * n)) us | none => pure ()).run P w = .ok () w' ∧ ∃ v s' ρ' L', o = .v v s' ∧ Went D P ρ ρ' s s' F L' T w' ∧ conc ρ' v = some (.slice base (len + m) sCap)) ∧
      (¬ len + m ≤ sCap → ∃ xs : List Value, xs.length = len * n ∧ (∀ w1, w1.heap = w.heap → (Builtin.firstCells n len u).run P w1 = .ok xs.toArray w1) ∧ ∀ (c : Nat) (rest : List Value) (w1 : World), w1.heap = w.heap → Sat w1 F (L :: T) → (xs ++ us).length + rest.length = c * n → len + m ≤ c →
        ∃ v s' ρ' L', o = .v v s' ∧ Went D P ρ ρ' s s' F L' T { w1 with heap := w1.heap.push (.cells (xs ++ us ++ rest).toArray t) } ∧ conc ρ' v = some (.slice (some ⟨w1.heap.size, 0, none⟩) (len + m) c)) := by
  have fin : ∀ (xs : List Value) (l : List V) (s1 : St) (c : Nat) (rest : List Value) (w1 : World), HR D P ρ s1 F L → s1.nb = s.nb → s1.nc = s.nc → concL ρ l = some (xs ++ us) → Sat w1 F (L :: T) → (xs ++ us).length + rest.length = c * n → len + m ≤ c →
      ∃ v s' ρ' L', (some (OR.v (.sl (some (s.nb, 0)) (len + m) (.v s.nc 0 0)) ⟨s1.h.set s1.nb (some (.c l t (some (s1.nc, n)) false)), s1.nb + 1, s1.nc + 1⟩)) = some (.v v s') ∧ Went D P ρ ρ' s s' F L' T { w1 with heap := w1.heap.push (.cells (xs ++ us ++ rest).toArray t) } ∧ conc ρ' v = some (.slice (some ⟨w1.heap.size, 0, none⟩) (len + m) c) := by
    intro xs l s1 c rest w1 hh1 e1 e2 hl hs1 hlen2 hle
    have hw := put_grow hh1 hs1 (n := n) (t := t) (fz := (0, 0)) hl hlen2 (.inl rfl)
    refine ⟨_, _, _, _, rfl, ⟨hw.le, fun b hb => hw.same b (by omega), by rw [← e1]; exact hw.nb, hw.hr, hw.sat⟩, ?_⟩
    have hc : (ρ.cap c).caps[s.nc]? = some c := by
      show (ρ.caps ++ [c])[s.nc]? = some c
      rw [← hh.nc]; simp
    simp only [conc, Nm.bind]
    rw [← e1]
    simp only [if_true, Option.bind_some]
    rw [hc]
    simp only [Option.bind_some]
    rw [if_pos (by omega)]
    simp
  unfold grow at h
  cases a with
  | none =>
    obtain ⟨c, rfl, rfl⟩ := conc_slnil hx
    simp only at h
    cases hb : Nat.beq len 0 with
    | false => simp [hb] at h
    | true =>
      have := Nat.eq_of_beq_eq_true hb
      subst this
      simp only [hb, cond_true, growK_eq, Option.some.injEq] at h
      refine ⟨none, 0, c, rfl, rfl, fun hle => ?_, fun _ => ⟨[], by simp, fun w1 _ => by simp [Builtin.firstCells], fun c' rest w1 hw1 hs1 hlen2 hle => ?_⟩⟩
      · have := hcap c rfl; omega
      · obtain ⟨v, s', ρ', L', e, hw, hv⟩ := fin [] ys s c' rest w1 hh rfl rfl (by simpa using hy) hs1 hlen2 hle
        rw [h] at e
        exact ⟨v, s', ρ', L', by simpa using e, hw, hv⟩
  | some q =>
    obtain ⟨b, off⟩ := q
    obtain ⟨id, ad, c, i1, rfl, ha, hk, hv⟩ := conc_sl hx
    refine ⟨_, _, _, rfl, rfl, ?_⟩
    cases cap with
    | k k =>
      obtain ⟨rfl, rfl⟩ := hk k rfl
      simp only [Option.bind_eq_some_iff, growK_eq] at h
      obtain ⟨l, hl, xs, hxs, h⟩ := h
      obtain ⟨id', us0, rest0, et, fz, j1, j2, j3⟩ := hh.getC hs hl
      rw [i1] at j1; cases j1
      obtain ⟨ws, n1, n2⟩ := partV_ok j2 hxs
      refine ⟨fun hle => ?_, fun _ => ⟨ws, (partL_eq _ _ _ _ n1).2, fun w1 hw1 => ?_, fun c' rest w1 hw1 hs1 hlen2 hle => ?_⟩⟩
      · have := hcap c rfl; omega
      · simp [Builtin.firstCells, run_cells (P := P) (w := w1) (by rw [hw1]; exact j3) n1]
      · obtain ⟨v, s', ρ', L', e, hw, hv⟩ := fin ws (xs ++ ys) s c' rest w1 hh rfl rfl (concL_append n2 hy) hs1 hlen2 hle
        rw [h] at e
        exact ⟨v, s', ρ', L', by simpa using e, hw, hv⟩
    | v j d o' =>
      obtain ⟨cc, c1, c2, c3, c4⟩ := hv j d o' rfl
      simp only at h
      split at h <;> first | (cases h; done) | skip
      rename_i l t' j' n' hg
      cases hb : (Nat.beq d 0 && Nat.beq o' 0 && Nat.beq off 0 && Nat.beq j j' && Nat.beq n n' && Nat.beq t t' && Nat.blt 0 n) with
      | false => simp [hb] at h
      | true =>
        simp only [hb, cond_true, Option.bind_eq_some_iff, putK_eq', growK_eq] at h
        simp only [Bool.and_eq_true] at hb
        obtain ⟨⟨⟨⟨⟨⟨b1, b0⟩, b2⟩, b3⟩, b4⟩, b5⟩, b6⟩ := hb
        have b0 := Nat.eq_of_beq_eq_true b0
        have b1 := Nat.eq_of_beq_eq_true b1
        have b2 := Nat.eq_of_beq_eq_true b2
        have b3 := Nat.eq_of_beq_eq_true b3
        have b4 := Nat.eq_of_beq_eq_true b4
        have b5 := Nat.eq_of_beq_eq_true b5
        rw [blt_eq, decide_eq_true_eq] at b6
        subst b1 b0 b2 b3 b4 b5
        obtain ⟨xs, hxs, h⟩ := h
        obtain ⟨id', ob, j1, ⟨us0, rest0, fz, k1, rfl, k2, cc', k3, k4⟩, j3, j4⟩ := hh.at_ hs hg
        rw [i1] at j1; cases j1
        rw [c1] at k3; cases k3
        obtain ⟨ws, n1, n2⟩ := partV_ok k1 hxs
        have hwl := (partL_eq _ _ _ _ n1).2
        have hwe := (partL_eq _ _ _ _ n1).1
        have had : ad = 0 ∨ len = 0 := by
          rcases Nat.eq_zero_or_pos len with h0 | h0
          · exact .inr h0
          · exact .inl (ha h0)
        refine ⟨fun hle => ?_, fun _ => ⟨ws, (partL_eq _ _ _ _ n1).2, fun w1 hw1 => ?_, fun c' rest w1 hw1 hs1 hlen2 hle => ?_⟩⟩
        · -- there is room: it may lie in the same block
          simp only [Nat.sub_zero] at c3
          subst c3
          have hadz : ad = 0 := by
            rw [c4]
            split <;> rfl
          subst hadz
          have hsp : us.length ≤ (us0.drop (len * n) ++ rest0).length := by
            have h2 : (len + m) * n ≤ c * n := Nat.mul_le_mul_right _ hle
            rw [Nat.add_mul] at h2
            have h3 : len * n ≤ us0.length := by
              rw [hwe] at hwl
              simp at hwl
              omega
            simp
            omega
          have hsplit : us0 ++ rest0 = ws ++ (us0.drop (len * n) ++ rest0) := by
            rw [← List.append_assoc, hwe]
            simp
          have hlay := layL_append ws _ us hsp
          rw [← hsplit, hwl] at hlay
          obtain ⟨w', hrun, ht⟩ := run_storeCells_turned (P := P) (b := id) (off := len * n) (e := t) us 0 (us0 ++ rest0) (ws ++ us ++ (us0.drop (len * n) ++ rest0).drop us.length) w j3 (k2 rfl) (by simpa using hlay) h1
          refine ⟨w', ?_, ?_⟩
          · show (storeCells ((⟨id, 0, none⟩ : Addr).add (len * n)) us).run P w = _
            rw [add_none, Nat.zero_add]; exact hrun
          · have hsz : (ws ++ us ++ (us0.drop (len * n) ++ rest0).drop us.length).length = (us0 ++ rest0).length := by
              rw [hsplit]; simp only [List.length_append, List.length_drop]; simp only [List.length_append, List.length_drop] at hsp; omega
            have hrow : ∃ rest, ws ++ us ++ (us0.drop (len * n) ++ rest0).drop us.length = (ws ++ us) ++ rest ∧ (ws ++ us).length + rest.length = c * n := by
              refine ⟨_, rfl, ?_⟩
              rw [← List.length_append, hsz, List.length_append]; exact k4
            obtain ⟨rest, er, el⟩ := hrow
            -- the old name is given up, the block has a new one
            have hm : (id, Obj.cells (us0 ++ rest0).toArray t fz) ∈ L := j4 rfl
            have hsat := hs.upd hm ht
            have hdel := hh.del b
            have hup : HR D P ρ ⟨s.h.set b none, s.nb, s.nc⟩ F (updL L id (.cells (ws ++ us ++ (us0.drop (len * n) ++ rest0).drop us.length).toArray t fz)) := by
              refine ⟨fun c y gy => ?_, hdel.inj, hdel.fresh, hdel.nc⟩
              obtain ⟨i, oy, a1, a2, a3⟩ := hdel.ent c y gy
              refine ⟨i, oy, a1, a2, ?_⟩
              rcases a3 with a3 | ⟨a3, a4⟩
              · exact .inl a3
              · refine .inr ⟨a3, updL_ne a4 fun e => ?_⟩
                subst e
                simp only [Lx.T.get_set] at gy
                split at gy
                · cases gy
                · rename_i hne; exact hne (hh.inj c b y _ i gy hg a1 i1)
            have hcap2 := hup.cap c
            have hkeep := hcap2.keep
            have le1 := Nm.le_cap ρ c
            have hfresh : (ρ.cap c).ids s.nb = none := hh.fresh _ (Nat.le_refl _)
            have le2 : ρ.cap c ≤ (ρ.cap c).bind s.nb id := Nm.le_bind hfresh
            have hfin := hkeep.add hsat (b := s.nb) (id := id) (x := .c (xs ++ ys) t (some (s.nc, n)) false) rfl hfresh (by simp) (updL_mem hm) (fun c y gy e => by
                simp only [Lx.T.get_set] at gy
                split at gy
                · cases gy
                · rename_i hne; exact hne (hh.inj c b y _ id gy hg e i1))
              ⟨ws ++ us, rest, fz, concL_mono (Nm.le_trans le1 le2) _ (concL_append n2 hy), by rw [er], fun _ => by rw [← er, hsz]; exact k2 rfl, c, by
                show (ρ.caps ++ [c])[s.nc]? = some c
                rw [← hh.nc]; simp, el⟩
            refine ⟨_, _, (ρ.cap c).bind s.nb id, _, (Option.some.inj h).symm, ⟨Nm.le_trans le1 le2, fun b' hb' => ?_, by simp, hfin, hsat⟩, ?_⟩
            · simp only [Nm.bind, Nm.cap]; rw [if_neg (by omega)]
            · have hc : (ρ.cap c).caps[s.nc]? = some c := by
                show (ρ.caps ++ [c])[s.nc]? = some c
                rw [← hh.nc]; simp
              simp only [conc, Nm.bind, if_true, Option.bind_some]
              rw [hc]
              simp only [Option.bind_some]
              rw [if_pos (by omega)]
              simp
        · have : (loadCells ⟨id, ad, none⟩ (len * n)).run P w1 = .ok ws.toArray w1 := by
            rcases had with h0 | h0
            · subst h0; exact run_cells (P := P) (w := w1) (by rw [hw1]; exact j3) n1
            · subst h0
              simp only [Nat.zero_mul] at hwl ⊢
              have : ws = [] := List.length_eq_zero_iff.1 hwl
              subst this
              exact run_loadCells_list (P := P) w1 ⟨id, ad, none⟩ [] (fun i v hi => by simp at hi)
          simp [Builtin.firstCells, this]
        · obtain ⟨v, s', ρ', L', e, hw, hv⟩ := fin ws (xs ++ ys) ⟨s.h.set b none, s.nb, s.nc⟩ c' rest w1 (hh.del b) rfl rfl (concL_append n2 hy) hs1 hlen2 hle
          rw [h] at e
          exact ⟨v, s', ρ', L', by simpa using e, hw, hv⟩

theorem xok_app (hh : HR D P ρ s F L) (hs : Sat w F (L :: T)) {t n bytes : Nat} {z : Value} {x y : Operand} {o : OR} (he : OpR ρ e r (opR (.app t n bytes z x y))) (h : x_appV t n bytes z x y e s = some o) : XR D P ρ s F T w ((rsem P r (.app t n bytes z x y)).run P w) o := by
  unfold x_appV at h
  split at h <;> first | (cases h; done) | skip
  rename_i a len cap hx
  have h1 := he x (by simp [opR]) _ hx
  simp only [Option.bind_eq_some_iff] at h
  obtain ⟨yv, hy, ⟨ys, m⟩, hsrc, h⟩ := h
  have h2 := he y (by simp [opR]) _ hy
  obtain ⟨us, k1, k2, k3⟩ := src_ok (P := P) hh hs h2 hsrc
  cases hc : (onesV ys && Nat.beq z.cells.size n && fits (len + m) bytes) with
  | false => simp [hc] at h
  | true =>
    simp only [hc, cond_true] at h
    simp only [fits, Bool.and_eq_true] at hc
    obtain ⟨⟨c1, c2⟩, c3, c4⟩ := hc
    have c1 := onesV_ok k1 c1
    have c2 := Nat.eq_of_beq_eq_true c2
    have c3 := Nat.le_of_ble_eq_true c3
    rw [blt_eq, decide_eq_true_eq] at c4
    have hk := k3 w rfl
    have hfull := hk.2 m (Nat.le_refl m)
    rw [← k2, List.take_length] at hfull
    cases hroom : capRoom cap (len + m) with
    | true =>
      simp only [hroom, cond_true] at h
      cases cap with
      | v => simp [capRoom] at hroom
      | k c =>
        simp only [capRoom] at hroom
        have hle := Nat.le_of_ble_eq_true hroom
        cases a with
        | none =>
          obtain ⟨c', e1, hr1⟩ := conc_slnil h1
          cases e1
          simp only at h
          cases hb : Nat.beq (len + m) 0 with
          | false => simp [hb] at h
          | true =>
            simp only [hb, cond_true, Option.some.injEq] at h; subst h
            have := Nat.eq_of_beq_eq_true hb
            obtain ⟨rfl, rfl⟩ : len = 0 ∧ m = 0 := by omega
            refine ⟨_, w, ρ, L, .inl ?_, Went.refl hh hs, by simp [conc]; rfl⟩
            simp [rsem, vv, hr1, hk.1, hfull]
        | some q =>
          obtain ⟨b, off⟩ := q
          obtain ⟨id, ad, cc, i1, hr1, _, hkk, _⟩ := conc_sl h1
          obtain ⟨rfl, rfl⟩ := hkk c rfl
          simp only at h
          split at h <;> first | (cases h; done) | skip
          rename_i l t' tl hg
          simp only [Option.bind_eq_some_iff, putK_eq', Option.some.injEq] at h
          obtain ⟨q, hl, rfl⟩ := h
          obtain ⟨w', o', hrun, hw⟩ := put_cells hh hs hg i1 k1 hl
          refine ⟨_, w', ρ, _, .inl ?_, hw, by simp [conc, i1]; rfl⟩
          simp only [rsem, vv, hr1, Sem.run_bind, hk.1, Result.andThen_ok, hle, if_true, hfull, add_none, hrun, Sem.run_pure]
    | false =>
      simp only [hroom, cond_false] at h
      have hcap : ∀ k, cap = .k k → k < len + m := by
        intro k e
        subst e
        simp only [capRoom] at hroom
        have : ¬ len + m ≤ k := fun hle => by rw [Nat.ble_eq_true_of_le hle] at hroom; cases hroom
        omega
      obtain ⟨base, sLen, sCap, e1, e2, g1, g2⟩ := grow_ok (P := P) hh hs h1 k1 k2 c1 h hcap
      subst e2
      by_cases hle : sLen + m ≤ sCap
      · obtain ⟨w', hrun, v, s', ρ', L', rfl, hw, hv⟩ := g1 hle
        refine ⟨_, w', ρ', L', .inl ?_, hw, hv⟩
        simp only [rsem, vv, e1, Sem.run_bind, hk.1, Result.andThen_ok, hle, if_true, hfull]
        cases base with
        | none => simp only [Sem.run_pure, Result.ok.injEq, true_and] at hrun; subst hrun; simp
        | some ad => simp only at hrun; simp [hrun]
      · obtain ⟨xs, hxl, hold, g3⟩ := g2 hle
        have hnc : Builtin.nextslicecap (sLen + m) sCap * bytes ≤ 2 ^ 48 := by
          have h1 := nextslicecap_le (need := sLen + m) (cap := sCap) (by omega)
          have h2 := Nat.mul_le_mul_right bytes h1
          rw [Nat.mul_assoc] at h2
          omega
        have hcond : ¬ (bytes = 0 ∨ Builtin.nextslicecap (sLen + m) sCap * bytes > 2 ^ 48) := by
          intro hh; rcases hh with hh | hh <;> omega
        let tt := (Question.appendCap (sLen + m) sCap t).cut (w.tape w.drawn (.appendCap (sLen + m) sCap t))
        let w1 : World := { w with drawn := w.drawn + 1 }
        have hs1 : Sat w1 F (L :: T) := hs.drew
        have hk1 := k3 w1 rfl
        have hfull1 := hk1.2 m (Nat.le_refl m)
        rw [← k2, List.take_length] at hfull1
        have ht : sLen + m ≤ tt := by simp [tt, Question.cut]
        obtain ⟨v, s', ρ', L', rfl, hw, hv⟩ := g3 tt (Builtin.zeroCells z.cells (tt - (sLen + m))).toList w1 rfl hs1 (by
          simp only [List.length_append, hxl, k2, Array.length_toList, zero_len c2]
          rw [← Nat.add_mul, ← Nat.add_mul]
          congr 1
          omega) ht
        refine ⟨_, _, ρ', L', .inl ?_, hw, hv⟩
        have hch : (choose (.appendCap (sLen + m) sCap t)).run P w = .ok tt w1 := by simp [choose, Sem.run, Question.forced, tt, w1]
        rw [e1] at hold
        simp only [rsem, vv, e1, Sem.run_bind, hk.1, Result.andThen_ok, hle, if_false, hcond, hch, run_askRoom, hold w1 rfl, hfull1, run_newRow, Sem.run_pure]
        have : xs.toArray ++ us.toArray ++ Builtin.zeroCells z.cells (tt - (sLen + m)) = (xs ++ us ++ (Builtin.zeroCells z.cells (tt - (sLen + m))).toList).toArray := by apply Array.ext'; simp
        rw [this]

theorem xok_appZ (hh : HR D P ρ s F L) (hs : Sat w F (L :: T)) {t n bytes : Nat} {z : Value} {x y : Operand} {o : OR} (he : OpR ρ e r (opR (.appZ t n bytes z x y))) (h : x_appZV t n bytes z x y e s = some o) : XR D P ρ s F T w ((rsem P r (.appZ t n bytes z x y)).run P w) o := by
  unfold x_appZV at h
  split at h <;> first | (cases h; done) | skip
  rename_i a len cap ky m hx hy
  have h1 := he x (by simp [opR]) _ hx
  have h2 := conc_i (he y (by simp [opR]) _ hy)
  simp only [Option.bind_eq_some_iff] at h
  obtain ⟨q, hq, h⟩ := h
  have kq := cellsV_ok (ofC_ok (ρ := ρ) _ _ _ hq)
  cases hc : (onesV (cellsV q) && Nat.beq (cellsV q).length n && Nat.blt 0 n && Nat.ble m 70368744177664 && fits (len + m) bytes) with
  | false => simp [hc] at h
  | true =>
    simp only [hc, cond_true] at h
    simp only [fits, Bool.and_eq_true] at hc
    obtain ⟨⟨⟨⟨c1, c2⟩, cn⟩, cm⟩, c3, c4⟩ := hc
    have c1 := onesV_ok kq c1
    have c2 := Nat.eq_of_beq_eq_true c2
    have cm := Nat.le_of_ble_eq_true cm
    have c3 := Nat.le_of_ble_eq_true c3
    rw [blt_eq, decide_eq_true_eq] at c4 cn
    have hzs : z.cells = (cellsL z).toArray := by rw [← cellsL_eq]
    have hzn : z.cells.size = n := by rw [hzs]; simp [concL_len kq, c2]
    let us : List Value := (List.replicate m (cellsL z)).flatten
    have k1 : concL ρ (repV m (cellsV q) []) = some us := repV_ok kq m
    have hul : us.length = m * n := by
      have : (cellsL z).length = n := by rw [concL_len kq]; exact c2
      simp [us, List.length_flatten, this]
    have hu1 : ∀ u ∈ us, u.oneCell' = true := by
      intro u hu
      obtain ⟨l, hl, hu⟩ := List.mem_flatten.1 hu
      have := (List.mem_replicate.1 hl).2
      subst this
      exact c1 u hu
    have hzc : (if m * n = 0 then #[] else Builtin.zeroCells z.cells m) = us.toArray := by
      have hl : (cellsL z).length = n := by rw [concL_len kq]; exact c2
      split
      · rename_i h0
        have : us = [] := List.length_eq_zero_iff.1 (by omega)
        rw [this]
      · show Builtin.zeroCells z.cells m = ((List.replicate m (cellsL z)).flatten).toArray
        rw [← array_rep, hl]
        simp [Builtin.zeroCells, hzs, hl]
    have hbs : m * bytes ≤ 70368744177664 := Nat.le_trans (Nat.mul_le_mul_right _ (by omega)) c3
    have hlen46 : len ≤ 70368744177664 := by
      have : len * 1 ≤ (len + m) * bytes := Nat.mul_le_mul (by omega) c4
      omega
    have hcond0 : ∀ sLen, sLen = len → ¬ ¬ ((0 : Int) ≤ (m : Int) ∧ (m : Int) ≤ 70368744177664 ∧ (m : Int) * (bytes : Int) ≤ 70368744177664 ∧ bytes ≠ 0 ∧ n ≠ 0 ∧ sLen ≤ 70368744177664) := by
      intro sLen e hh
      subst e
      refine hh ⟨by omega, by omega, ?_, by omega, by omega, hlen46⟩
      have : ((m * bytes : Nat) : Int) ≤ 70368744177664 := by omega
      simpa using this
    cases hroom : capRoom cap (len + m) with
    | true =>
      simp only [hroom, cond_true] at h
      cases cap with
      | v => simp [capRoom] at hroom
      | k c =>
        simp only [capRoom] at hroom
        have hle := Nat.le_of_ble_eq_true hroom
        cases a with
        | none =>
          obtain ⟨c', e1, hr1⟩ := conc_slnil h1
          cases e1
          simp only at h
          cases hb : Nat.beq (len + m) 0 with
          | false => simp [hb] at h
          | true =>
            simp only [hb, cond_true, Option.some.injEq] at h; subst h
            have := Nat.eq_of_beq_eq_true hb
            obtain ⟨rfl, rfl⟩ : len = 0 ∧ m = 0 := by omega
            refine ⟨_, w, ρ, L, .inl ?_, Went.refl hh hs, by simp [conc]; rfl⟩
            have hq := hcond0 0 rfl
            simp only [rsem, vv, hr1, h2, Int.ofNat_eq_natCast] at hq ⊢
            simp only [hq, if_false]
            simp
        | some q =>
          obtain ⟨b, off⟩ := q
          obtain ⟨id, ad, cc, i1, hr1, _, hkk, _⟩ := conc_sl h1
          obtain ⟨rfl, rfl⟩ := hkk c rfl
          simp only at h
          split at h <;> first | (cases h; done) | skip
          rename_i l t' tl hg
          simp only [Option.bind_eq_some_iff, putK_eq', Option.some.injEq] at h
          obtain ⟨q, hl, rfl⟩ := h
          obtain ⟨w', o', hrun, hw⟩ := put_cells hh hs hg i1 k1 hl
          refine ⟨_, w', ρ, _, .inl ?_, hw, by simp [conc, i1]; rfl⟩
          have hq := hcond0 len rfl
          simp only [rsem, vv, hr1, h2, Int.ofNat_eq_natCast] at hq ⊢
          simp only [hq, if_false, Int.toNat_natCast, hle, if_true, hzc, Sem.run_bind, add_none, hrun, Result.andThen_ok, Sem.run_pure]
    | false =>
      simp only [hroom, cond_false] at h
      have hcap : ∀ k, cap = .k k → k < len + m := by
        intro k e
        subst e
        simp only [capRoom] at hroom
        have : ¬ len + m ≤ k := fun hle => by rw [Nat.ble_eq_true_of_le hle] at hroom; cases hroom
        omega
      obtain ⟨base, sLen, sCap, e1, e2, g1, g2⟩ := grow_ok (P := P) hh hs h1 k1 hul hu1 h hcap
      subst e2
      have hq := hcond0 sLen rfl
      by_cases hle : sLen + m ≤ sCap
      · obtain ⟨w', hrun, v, s', ρ', L', rfl, hw, hv⟩ := g1 hle
        refine ⟨_, w', ρ', L', .inl ?_, hw, hv⟩
        simp only [rsem, vv, e1, h2, Int.ofNat_eq_natCast] at hq ⊢
        simp only [hq, if_false, Int.toNat_natCast, hle, if_true, hzc, Sem.run_bind]
        cases base with
        | none => simp only [Sem.run_pure, Result.ok.injEq, true_and] at hrun; subst hrun; simp
        | some ad => simp only at hrun; simp [hrun]
      · obtain ⟨xs, hxl, hold, g3⟩ := g2 hle
        have hnc : Builtin.nextslicecap (sLen + m) sCap * bytes ≤ 2 ^ 48 := by
          have h1 := nextslicecap_le (need := sLen + m) (cap := sCap) (by omega)
          have h2 := Nat.mul_le_mul_right bytes h1
          rw [Nat.mul_assoc] at h2
          omega
        have hcond : ¬ (Builtin.nextslicecap (sLen + m) sCap * bytes > 2 ^ 48) := by omega
        let tt := (Question.appendCap (sLen + m) sCap t).cut (w.tape w.drawn (.appendCap (sLen + m) sCap t))
        let w1 : World := { w with drawn := w.drawn + 1 }
        have hs1 : Sat w1 F (L :: T) := hs.drew
        have ht : sLen + m ≤ tt := by simp [tt, Question.cut]
        obtain ⟨v, s', ρ', L', rfl, hw, hv⟩ := g3 tt (Builtin.zeroCells z.cells (tt - (sLen + m))).toList w1 rfl hs1 (by
          simp only [List.length_append, hxl, hul, Array.length_toList, zero_len hzn]
          rw [← Nat.add_mul, ← Nat.add_mul]
          congr 1
          omega) ht
        refine ⟨_, _, ρ', L', .inl ?_, hw, hv⟩
        have hch : (choose (.appendCap (sLen + m) sCap t)).run P w = .ok tt w1 := by simp [choose, Sem.run, Question.forced, tt, w1]
        rw [e1] at hold
        simp only [rsem, vv, e1, h2, Int.ofNat_eq_natCast] at hq ⊢
        simp only [hq, if_false, Int.toNat_natCast, Sem.run_bind, hle, hcond, hch, Result.andThen_ok, run_askRoom, hold w1 rfl, hzc, run_newRow, Sem.run_pure]
        have : xs.toArray ++ us.toArray ++ Builtin.zeroCells z.cells (tt - (sLen + m)) = (xs ++ us ++ (Builtin.zeroCells z.cells (tt - (sLen + m))).toList).toArray := by apply Array.ext'; simp
        rw [this]

theorem xok_copy (hh : HR D P ρ s F L) (hs : Sat w F (L :: T)) {n : Nat} {x y : Operand} {o : OR} (he : OpR ρ e r (opR (.copy n x y))) (h : x_copyV n x y e s = some o) : XR D P ρ s F T w ((rsem P r (.copy n x y)).run P w) o := by
  unfold x_copyV at h
  simp only [minN_eq] at h
  split at h <;> first | (cases h; done) | skip
  rename_i a len cap hx
  have h1 := he x (by simp [opR]) _ hx
  simp only [Option.bind_eq_some_iff] at h
  obtain ⟨yv, hy, ⟨ys, m⟩, hsrc, h⟩ := h
  have h2 := he y (by simp [opR]) _ hy
  obtain ⟨us, k1, k2, k3⟩ := src_ok (P := P) hh hs h2 hsrc
  have hk := k3 w rfl
  have hmin : Nat.min m len = min m len := rfl
  have hfull := hk.2 (min m len) (by omega)
  cases a with
  | none =>
    obtain ⟨c, rfl, hr1⟩ := conc_slnil h1
    simp only at h
    cases hb : Nat.beq len 0 with
    | false => simp [hb] at h
    | true =>
      simp only [hb, cond_true, Option.some.injEq] at h; subst h
      have := Nat.eq_of_beq_eq_true hb
      subst this
      refine ⟨_, w, ρ, L, .inl ?_, Went.refl hh hs, by simp [conc]; rfl⟩
      simp only [rsem, vv, hr1, Sem.run_bind, hk.1, Result.andThen_ok, hmin, hfull]
      simp [goInt]
  | some q =>
    obtain ⟨b, off⟩ := q
    obtain ⟨id, ad, cc, i1, hr1, ha, _⟩ := conc_sl h1
    simp only at h
    split at h <;> first | (cases h; done) | skip
    rename_i l t' tl hg
    simp only [Option.bind_eq_some_iff, putK_eq', Option.some.injEq] at h
    obtain ⟨q, hl, rfl⟩ := h
    have ktake := concL_take k1 (min m len * n)
    obtain ⟨w', o', hrun, hw⟩ := put_cells hh hs hg i1 ktake hl
    refine ⟨_, w', ρ, _, .inl ?_, hw, by simp [conc]; rfl⟩
    have hrun' : (storeCells ⟨id, ad, none⟩ (us.take (min m len * n))).run P w = .ok () w' := by
      by_cases h0 : 0 < len
      · rw [ha h0]; exact hrun
      · have e0 : len = 0 := by omega
        subst e0
        simp only [Nat.min_zero, Nat.zero_mul, List.take_zero] at hrun ⊢
        simp only [storeCells] at hrun ⊢
        exact hrun
    simp only [rsem, vv, hr1, Sem.run_bind, hk.1, Result.andThen_ok, hmin, hfull, hrun', Sem.run_pure]
    simp [goInt]

/-- A mark behind a row's end. -/
theorem freeze_turned {id : Nat} {c : Array Value} {t : TypeId} {fz : Nat × Nat} (hb : w.heap[id]? = some (.cells c t fz)) (hz : frOK fz c.size) :
    ∃ fz', Turned w (w.freeze ⟨id, c.size, none⟩ 1) id (.cells c t fz') ∧ frOK fz' c.size := by
  obtain ⟨lo, hi⟩ := fz
  refine ⟨if lo == hi then (c.size, c.size + 1) else (min lo c.size, max hi (c.size + 1)), ⟨rfl, rfl, rfl, ?_, fun j hj => ?_⟩, ?_⟩
  · simp [World.freeze, Array.getElem?_modify, hb]
  · simp [World.freeze, Array.getElem?_modify, hj.symm]
  · by_cases h : lo = hi
    · simp [h, frOK]
    · simp [h, frOK]
      right
      simp [frOK, h] at hz
      omega
theorem run_mark {id o n : Nat} {e' : TypeId} (hs : w.shape? id = some (e', n)) : (markStringish ⟨id, o, none⟩).run P w = .ok () (w.freeze ⟨id, n, none⟩ 1) := by
  simp [markStringish, shape, freeze, Sem.run, hs]
theorem xok_cvMark (hh : HR D P ρ s F L) (hs : Sat w F (L :: T)) {x : Operand} {o : OR} (he : OpR ρ e r (opR (.cvMark x))) (h : x_cvMarkV x e s = some o) : XR D P ρ s F T w ((rsem P r (.cvMark x)).run P w) o := by
  unfold x_cvMarkV at h
  split at h <;> first | (cases h; done) | skip
  rename_i b off n cap hx
  have h1 := he x (by simp [opR]) _ hx
  split at h <;> first | (cases h; done) | skip
  rename_i l t tl hg
  simp only [Option.some.injEq] at h; subst h
  obtain ⟨id, ad, c, i1, hr, _⟩ := conc_sl h1
  obtain ⟨id0, ob, j1, ⟨us, rest, fz, k1, rfl, k2, k3⟩, j3, j4⟩ := hh.at_ hs hg
  rw [i1] at j1; cases j1
  obtain ⟨fz', ht, hz⟩ := freeze_turned j3 (by simpa using k2 rfl)
  have hput := Went.put hh hs (x' := .c l t tl false) hg rfl rfl i1 ⟨us, rest, fz', k1, rfl, fun _ => by simpa using hz, k3⟩ ht
  refine ⟨_, _, ρ, _, .inl ?_, ⟨hput.le, hput.same, hput.nb, ?_, hput.sat⟩, h1⟩
  · have hsh : w.shape? id = some (t, (us ++ rest).toArray.size) := by simp [World.shape?, j3]
    simp only [rsem, vv, hr, Sem.run_bind, run_mark hsh, Result.andThen_ok, Sem.run_pure]
  · have hp := hput.hr
    refine ⟨fun b' x' g' => ?_, fun b1 b2 x1 x2 i g1 g2 => ?_, hp.fresh, hp.nc⟩
    · refine hp.ent b' x' ?_
      simp only [Lx.T.get_set]
      split
      · rename_i e1; subst e1; rw [hg] at g'; exact g'
      · exact g'
    · refine hp.inj b1 b2 x1 x2 i ?_ ?_
      · simp only [Lx.T.get_set]
        split
        · rename_i e1; subst e1; rw [hg] at g1; exact g1
        · exact g1
      · simp only [Lx.T.get_set]
        split
        · rename_i e1; subst e1; rw [hg] at g2; exact g2
        · exact g2
theorem xok_cvS2B (hh : HR D P ρ s F L) (hs : Sat w F (L :: T)) {t : Nat} {x : Operand} {o : OR} (he : OpR ρ e r (opR (.cvS2B t x))) (h : x_cvS2BV t x e s = some o) : XR D P ρ s F T w ((rsem P r (.cvS2B t x)).run P w) o := by
  unfold x_cvS2BV at h
  split at h <;> first | (cases h; done) | skip
  rename_i l hx
  have h1 := conc_s (he x (by simp [opR]) _ hx)
  simp only [growK_eq, Option.some.injEq] at h; subst h
  let us : List Value := l.map fun c => .int .u8 c.toNat
  have hus : concL ρ (l.map fun c => V.i .u8 c.toNat) = some us := by
    simp only [us]
    clear h1 hx
    induction l with
    | nil => rfl
    | cons c l ih => simp [concL, conc, ih]
  have hsz : (ByteArray.mk l.toArray).size = l.length := by simp [ByteArray.size]
  let q : Question := .appendCap l.length 0 t
  let c := q.cut (w.tape w.drawn q)
  let w1 : World := { w with drawn := w.drawn + 1 }
  have hs1 : Sat w1 F (L :: T) := hs.drew
  have hc : l.length ≤ c := by simp [c, q, Question.cut]
  let rest : List Value := List.replicate (c - l.length) (.int .u8 0)
  have hlen : us.length + rest.length = c * 1 := by simp [us, rest]; omega
  let w2 : World := { w1 with heap := w1.heap.push (.cells (us ++ rest).toArray t) }
  have hblk : w2.heap[w1.heap.size]? = some (.cells (us ++ rest).toArray t) := by simp [w2]
  obtain ⟨fz', ht, hz⟩ := freeze_turned (w := w2) hblk (.inl rfl)
  have hw := put_grow (t := t) (n := 1) (c := c) (rest := rest) hh hs1 hus hlen (fz := (0, 0)) (.inl rfl)
  have hwr := hw.hr
  have hget : (⟨s.h.set s.nb (some (.c (l.map fun c => V.i .u8 c.toNat) t (some (s.nc, 1)) false)), s.nb + 1, s.nc + 1⟩ : St).h.get s.nb = some (.c (l.map fun c => V.i .u8 c.toNat) t (some (s.nc, 1)) false) := by simp [Lx.T.get_set]
  have hid : ((ρ.cap c).bind s.nb w1.heap.size).ids s.nb = some w1.heap.size := Nm.bind_at _ _ _
  have hcap : ((ρ.cap c).bind s.nb w1.heap.size).caps[s.nc]? = some c := by
    show (ρ.caps ++ [c])[s.nc]? = some c
    rw [← hh.nc]; simp
  have hput := Went.put hwr hw.sat (x' := .c (l.map fun c => V.i .u8 c.toNat) t (some (s.nc, 1)) false) hget rfl rfl hid
    ⟨us, rest, fz', concL_mono hw.le _ hus, rfl, fun _ => by simpa using hz, c, hcap, hlen⟩ ht
  have hfin : HR D P ((ρ.cap c).bind s.nb w1.heap.size) ⟨s.h.set s.nb (some (.c (l.map fun c => V.i .u8 c.toNat) t (some (s.nc, 1)) false)), s.nb + 1, s.nc + 1⟩ F (updL ((w1.heap.size, .cells (us ++ rest).toArray t) :: L) w1.heap.size (.cells (us ++ rest).toArray t fz')) := by
    have hp := hput.hr
    have key : ∀ b' x', (s.h.set s.nb (some (.c (l.map fun c => V.i .u8 c.toNat) t (some (s.nc, 1)) false))).get b' = some x' →
        ((s.h.set s.nb (some (.c (l.map fun c => V.i .u8 c.toNat) t (some (s.nc, 1)) false))).set s.nb (some (.c (l.map fun c => V.i .u8 c.toNat) t (some (s.nc, 1)) false))).get b' = some x' := by
      intro b' x' g'
      simp only [Lx.T.get_set] at g' ⊢
      split
      · rename_i e1; simpa [e1] using g'
      · rename_i e1; simpa [e1] using g'
    exact ⟨fun b' x' g' => hp.ent b' x' (key b' x' g'), fun b1 b2 x1 x2 i g1 g2 => hp.inj b1 b2 x1 x2 i (key _ _ g1) (key _ _ g2), hp.fresh, hp.nc⟩
  refine ⟨.slice (some ⟨w1.heap.size, 0, none⟩) l.length c, w2.freeze ⟨w1.heap.size, (us ++ rest).toArray.size, none⟩ 1, (ρ.cap c).bind s.nb w1.heap.size, _, .inl ?_, ⟨hw.le, hw.same, hw.nb, hfin, hput.sat⟩, ?_⟩
  · have hch : (choose (.appendCap l.length 0 t)).run P w = .ok c w1 := by simp [choose, Sem.run, Question.forced, c, q, w1]
    have harr : ((ByteArray.mk l.toArray).data.map fun b => Value.int .u8 b.toNat) ++ Array.replicate (c - l.length) (.int .u8 0) = (us ++ rest).toArray := by
      apply Array.ext'; simp [us, rest]
    have hsh : w2.shape? w1.heap.size = some (t, (us ++ rest).toArray.size) := by simp [World.shape?, hblk]
    simp only [rsem, vv, h1, Conv.stringToBytes, hsz, Sem.run_bind, hch, Result.andThen_ok, Sem.run_pure, harr, run_newRow]
    rw [show ({ w1 with heap := w1.heap.push (.cells (us ++ rest).toArray t) } : World) = w2 from rfl, run_mark hsh]
    simp
  · simp only [conc, hid, Option.bind_some, hcap]
    rw [if_pos (by omega)]
    simp
theorem xok_bi (hh : HR D P ρ s F L) (hs : Sat w F (L :: T)) {b : Builtin} {ts : Array TypeId} {t : TypeId} {cs : Array Bool} {xs : List Operand} {o : OR} (he : OpR ρ e r (opR (.bi b ts t cs xs))) (h : x_biV b xs e s = some o) : XR D P ρ s F T w ((rsem P r (.bi b ts t cs xs)).run P w) o := by
  simp only [x_biV, Option.bind_eq_some_iff] at h
  obtain ⟨vs, hv, h⟩ := h
  have k1 := evs_ok (by simpa [opR] using he) hv
  split at h <;> first | (cases h; done) | skip
  · simp only [Option.some.injEq] at h; subst h
    simp [XR, rsem, builtin]
  · rename_i k a k' b'
    simp only [Option.some.injEq] at h; subst h
    have hxs : [Value.int k a, Value.int k' b'] = xs.map r := by simpa [concL, conc] using k1
    refine ⟨.int k (if b' < a then b' else a), w, ρ, L, .inl ?_, Went.refl hh hs, ?_⟩
    · simp only [rsem, builtin, ← hxs, Builtin.min_]
      simp [List.foldlM, Builtin.min2]
    · simp only [minI, ltI_eq, conc]
      by_cases hlt : b' < a <;> simp [hlt]
  · rename_i k a k' b'
    simp only [Option.some.injEq] at h; subst h
    have hxs : [Value.int k a, Value.int k' b'] = xs.map r := by simpa [concL, conc] using k1
    refine ⟨.int k (if a < b' then b' else a), w, ρ, L, .inl ?_, Went.refl hh hs, ?_⟩
    · simp only [rsem, builtin, ← hxs, Builtin.max_]
      simp [List.foldlM, Builtin.max2]
    · simp only [maxI, ltI_eq, conc]
      by_cases hlt : a < b' <;> simp [hlt]

theorem run_loadBytes : ∀ (xs : List Int) (a : Addr) (acc : ByteArray), (∀ (j : Nat) (v : Value), (xs.map (Value.int .u8))[j]? = some v → w.cell? (a.add j) = some v) →
    (Extern.Bytes.loadBytes a xs.length acc).run P w = .ok ⟨acc.data ++ (xs.map fun n => UInt8.ofNat n.toNat).toArray⟩ w
  | [], a, acc, _ => by simp [Extern.Bytes.loadBytes]
  | x :: l, a, acc, h => by
    have h0 : w.cell? a = some (.int .u8 x) := by
      have := h 0 (.int .u8 x) rfl
      simpa [Addr.add] using this
    have ih := run_loadBytes l (a.add 1) (acc.push x.toNat.toUInt8) (fun j y hy => by
      have := h (j + 1) y (by simpa using hy)
      have e : (a.add 1).add j = a.add (j + 1) := by
        unfold Addr.add
        by_cases hj : j = 0
        · subst hj; simp
        · simp [hj]; omega
      rw [e]; exact this)
    simp only [List.length_cons, Extern.Bytes.loadBytes, Sem.run_bind, run_load, h0, Result.andThen]
    rw [ih]
    congr 1
    apply ByteArray.ext
    apply Array.ext'
    simp [ByteArray.push]
theorem src_bytes (hh : HR D P ρ s F L) (hs : Sat w F (L :: T)) {m : Nat} {v : V} {u : Value} {ys : List V} {t : List UInt8} (hc : conc ρ v = some u) (h : srcV s 1 v = some (ys, m)) (hb : bytesOf ys = some t) : (Extern.Bytes.bytesOf u).run P w = .ok ⟨t.toArray⟩ w := by
  unfold srcV at h
  split at h
  · rename_i l
    simp only [Nat.beq_refl, cond_true, Option.some.injEq, Prod.mk.injEq] at h
    obtain ⟨rfl, rfl⟩ := h
    have h1 := conc_s hc
    subst h1
    have : t = l := by
      clear hc
      induction l generalizing t with
      | nil => simpa [bytesOf] using hb
      | cons c l ih =>
        simp only [List.map_cons, bytesOf, Option.bind_eq_some_iff, Option.some.injEq] at hb
        obtain ⟨t', h1, rfl⟩ := hb
        rw [ih h1]
        simp
    subst this
    rfl
  · rename_i n cap
    cases hb0 : Nat.beq n 0 with
    | false => simp [hb0] at h
    | true =>
      simp only [hb0, cond_true, Option.some.injEq, Prod.mk.injEq] at h
      obtain ⟨rfl, rfl⟩ := h
      obtain ⟨c, _, rfl⟩ := conc_slnil hc
      simp [bytesOf] at hb; subst hb
      rfl
  · rename_i b o n cap
    simp only [Option.bind_eq_some_iff, Option.some.injEq, Prod.mk.injEq] at h
    obtain ⟨l, h1, q, h2, rfl, rfl⟩ := h
    obtain ⟨id, us, rest, et, fz, i1, i2, i3⟩ := hh.getC hs h1
    obtain ⟨ws, n1, n2⟩ := partV_ok i2 h2
    obtain ⟨id', a, c, d, rfl, ha, _⟩ := conc_sl hc
    rw [i1] at d; cases d
    obtain ⟨ns, rfl, rfl⟩ := bytesOf_ok n2 hb
    have hlen := (partL_eq _ _ _ _ n1).2
    simp at hlen
    have hrun : (Extern.Bytes.loadBytes ⟨id, a, none⟩ ns.length .empty).run P w = .ok ⟨ByteArray.empty.data ++ (ns.map fun n => UInt8.ofNat n.toNat).toArray⟩ w := by
      refine run_loadBytes ns _ _ ?_
      by_cases h0 : 0 < n
      · rw [ha h0]; exact cells_at i3 n1
      · have : ns = [] := List.length_eq_zero_iff.1 (by omega)
        subst this
        intro j v hj; simp at hj
    rw [hlen] at hrun
    simp only [Extern.Bytes.bytesOf, hrun]
    congr 1
    apply ByteArray.ext
    show (#[] : Array UInt8) ++ _ = _
    simp
  · cases h
theorem cmp_bytes : ∀ a b : List UInt8, (bif eqBs a b then (0 : Int) else bif lessB a b then -1 else 1) = Lib.compareBytes a b
  | [], [] => rfl
  | [], _ :: _ => rfl
  | _ :: _, [] => rfl
  | a :: as, b :: bs => by
    have ih := cmp_bytes as bs
    simp only [eqBs, lessB, Lib.compareBytes, blt_eq, beq_eq, UInt8.lt_iff_toNat_lt]
    rcases Nat.lt_trichotomy a.toNat b.toNat with h | h | h
    · have : ¬ a.toNat = b.toNat := by omega
      simp [h, this]
    · simp only [h, decide_true, cond_true, Nat.lt_irrefl, decide_false, cond_false, if_false]
      exact ih
    · have h1 : ¬ a.toNat = b.toNat := by omega
      have h2 : ¬ a.toNat < b.toNat := by omega
      simp [h, h1, h2]

theorem run_loadA {a : Addr} {c : Value} (hc : w.cell? a = some c) : (load a .atomic).run P w = .ok c w := by simp [load, Sem.run, hc]
theorem run_storeA {w' : World} {a : Addr} {v c : Value} (hc : w.cell? a = some c) (h : (storeCells a [v]).run P w = .ok () w') : (store a v .atomic).run P w = .ok () w' := by
  have h2 : (store (a.add 0) v).run P w = .ok () w' := by
    simp only [storeCells, Sem.run_bind] at h
    cases hr : (store (a.add 0) v).run P w with
    | ok u w2 => simp [hr] at h; rw [h]
    | halt x w2 => simp [hr] at h
  have h3 : a.add 0 = a := by simp [Addr.add]
  rw [h3] at h2
  rw [← h2]
  cases v <;> simp [store, Sem.run, hc]
theorem cell_lay (hh : HR D P ρ s F L) (hs : Sat w F (L :: T)) {b off : Nat} {l q vs : List V} {v : V} (h1 : getC s b = some l) (hl : layV l off (v :: vs) = some q) {id : Nat} (hid : ρ.ids b = some id) : ∃ c, w.cell? ⟨id, off, none⟩ = some c := by
  obtain ⟨id', us, rest, et, fz, j1, j2, j3⟩ := hh.getC hs h1
  rw [hid] at j1; cases j1
  have hlt : off < l.length := by
    have key : ∀ (l : List V) (off : Nat) (q : List V), layV l off (v :: vs) = some q → off < l.length := by
      intro l
      induction l with
      | nil => intro off q h; cases off <;> simp [layV] at h
      | cons c l ih =>
        intro off q h
        cases off with
        | zero => simp
        | succ off =>
          simp only [layV, Option.bind_eq_some_iff] at h
          obtain ⟨r', h, _⟩ := h
          have := ih off r' h
          simp; omega
    exact key l off q hl
  have hul := concL_len j2
  refine ⟨us[off]'(by omega), ?_⟩
  rw [cell_of_block j3]
  have : off < us.length := by omega
  simp [List.getElem?_append_left this, this]
theorem xok_ext (hG : PgOK D P G) (hh : HR D P ρ s F L) (hs : Sat w F (L :: T)) {f : Nat} {xs : List Operand} {o : OR} (he : OpR ρ e r (opR (.ext f xs))) (h : x_extV G.xf f xs e s = some o) : XR D P ρ s F T w ((rsem P r (.ext f xs)).run P w) o := by
  simp only [x_extV, Option.bind_eq_some_iff, Option.some.injEq] at h
  obtain ⟨vs, hv, x, hx, ⟨v, s'⟩, hext, rfl⟩ := h
  have k1 := evs_ok (by simpa [opR] using he) hv
  have hrun := hG.xf f x hx (xs.map r).toArray w
  simp only [rsem, hrun]
  clear hrun
  cases x with
  | cmp =>
    simp only [extV, extCmp] at hext
    split at hext <;> first | (cases hext; done) | skip
    rename_i a b
    simp only [Option.bind_eq_some_iff, Option.some.injEq, Prod.mk.injEq] at hext
    obtain ⟨⟨ya, ma⟩, h1, ⟨yb, mb⟩, h2, ta, h3, tb, h4, rfl, rfl⟩ := hext
    simp only [concL, Option.bind_eq_some_iff, Option.some.injEq] at k1
    obtain ⟨ua, c1, q1, ⟨ub, c2, q2, rfl, rfl⟩, hxs⟩ := k1
    have r1 := src_bytes (P := P) hh hs c1 h1 h3
    have r2 := src_bytes (P := P) hh hs c2 h2 h4
    refine ⟨.int .i64 (Lib.compareBytes ta tb), w, ρ, L, .inl ?_, Went.refl hh hs, ?_⟩
    · rw [← hxs]
      have : (vv (xsem .cmp [ua, ub].toArray)) = (do let r ← (do pure (goInt (Extern.BytealgCompare.cmp (← Extern.Bytes.bytesOf ua) (← Extern.Bytes.bytesOf ub))) : Sem Value); pure (.value r)) := rfl
      rw [this]
      simp only [Sem.run_bind, r1, r2, Result.andThen_ok, Sem.run_pure, Lib.cmp_eq]
      rfl
    · simp only [conc]; rw [cmp_bytes]
  | ld kk =>
    simp only [extV, extLd] at hext
    split at hext <;> first | (cases hext; done) | skip
    rename_i b off
    simp only [Option.bind_eq_some_iff] at hext
    obtain ⟨l, h1, hext⟩ := hext
    split at hext <;> first | (cases hext; done) | skip
    rename_i k' nn hnth
    cases hk : Nat.beq (kN kk) (kN k') with
    | false => simp [hk] at hext
    | true =>
      have := kN_inj hk
      subst this
      simp only [hk, cond_true, Option.some.injEq, Prod.mk.injEq] at hext
      obtain ⟨rfl, rfl⟩ := hext
      simp only [concL, Option.bind_eq_some_iff, Option.some.injEq] at k1
      obtain ⟨ua, c1, _, rfl, hxs⟩ := k1
      obtain ⟨id, i1, rfl⟩ := conc_p c1
      obtain ⟨id', us, rest, et, fz, j1, j2, j3⟩ := hh.getC hs h1
      rw [i1] at j1; cases j1
      obtain ⟨u, n1, n2⟩ := nthV_ok j2 hnth
      have hu := conc_i n2
      have hc : w.cell? ⟨id, off, none⟩ = some (.int kk nn) := by
        rw [cell_of_block j3]
        have := (List.getElem?_eq_some_iff.1 n1).1
        simp [List.getElem?_append_left this, n1, hu]
      refine ⟨.int kk nn, w, ρ, L, .inl ?_, Went.refl hh hs, by simp [conc]⟩
      rw [← hxs]
      have e0 : xsem (.ld kk) [Value.pointer (some ⟨id, off, none⟩)].toArray = Extern.Atomic.read (.int kk) ⟨id, off, none⟩ := rfl
      rw [e0]
      simp [vv, Extern.Atomic.read, run_loadA hc]
  | st =>
    simp only [extV, extSt] at hext
    split at hext <;> first | (cases hext; done) | skip
    rename_i b off v0
    split at hext <;> first | (cases hext; done) | skip
    rename_i l et tl hg
    simp only [Option.bind_eq_some_iff, putK_eq', Option.some.injEq, Prod.mk.injEq] at hext
    obtain ⟨q, hl, rfl, rfl⟩ := hext
    simp only [concL, Option.bind_eq_some_iff, Option.some.injEq] at k1
    obtain ⟨ua, c1, _, ⟨ub, c2, _, rfl, rfl⟩, hxs⟩ := k1
    obtain ⟨id, i1, rfl⟩ := conc_p c1
    obtain ⟨w', o', hrun, hw⟩ := put_cells (P := P) hh hs hg i1 (vs := [v0]) (us := [ub]) (by simp [concL, c2]) hl
    refine ⟨undef, w', ρ, _, .inl ?_, hw, conc_und⟩
    rw [← hxs]
    obtain ⟨c0, hc0⟩ := cell_lay hh hs (by simp [getC, hg]) hl i1
    have hst := run_storeA (P := P) (w := w) (w' := w') (a := ⟨id, off, none⟩) (v := ub) hc0 hrun
    have e0 : xsem .st [Value.pointer (some ⟨id, off, none⟩), ub].toArray = (do store ⟨id, off, none⟩ ub .atomic; pure (.tuple #[])) := rfl
    rw [e0]
    simp [vv, hst, undef]
  | add kk =>
    simp only [extV, extAdd] at hext
    split at hext <;> first | (cases hext; done) | skip
    rename_i b off kd dd
    split at hext <;> first | (cases hext; done) | skip
    rename_i l et tl hg
    split at hext <;> first | (cases hext; done) | skip
    rename_i k' nn hnth
    cases hk : Nat.beq (kN kk) (kN k') with
    | false => simp [hk] at hext
    | true =>
      have := kN_inj hk
      subst this
      simp only [hk, cond_true, fI_eq, Option.bind_eq_some_iff, putK_eq', Option.some.injEq, Prod.mk.injEq] at hext
      obtain ⟨q, hl, rfl, rfl⟩ := hext
      simp only [concL, Option.bind_eq_some_iff, Option.some.injEq] at k1
      obtain ⟨ua, c1, _, ⟨ub, c2, _, rfl, rfl⟩, hxs⟩ := k1
      obtain ⟨id, i1, rfl⟩ := conc_p c1
      have hub := conc_i c2
      subst hub
      have h1 : getC s b = some l := by simp [getC, hg]
      obtain ⟨id', us, rest, et', fz, j1, j2, j3⟩ := hh.getC hs h1
      rw [i1] at j1; cases j1
      obtain ⟨u, n1, n2⟩ := nthV_ok j2 hnth
      have hu := conc_i n2
      have hc : w.cell? ⟨id, off, none⟩ = some (.int kk nn) := by
        rw [cell_of_block j3]
        have := (List.getElem?_eq_some_iff.1 n1).1
        simp [List.getElem?_append_left this, n1, hu]
      obtain ⟨w', o', hrun, hw⟩ := put_cells (P := P) hh hs hg i1 (vs := [.i kk (wrapV kk (Int.add nn dd))]) (us := [.int kk (wrapV kk (Int.add nn dd))]) (by simp [concL, conc]) hl
      refine ⟨.int kk (wrapV kk (Int.add nn dd)), w', ρ, _, .inl ?_, hw, by simp [conc]⟩
      rw [← hxs]
      have hst := run_storeA (P := P) (w := w) (w' := w') (a := ⟨id, off, none⟩) hc hrun
      rw [wrapV_eq] at hst ⊢
      have hadd : Int.add nn dd = nn + dd := rfl
      rw [hadd] at hst ⊢
      have e0 : xsem (.add kk) [Value.pointer (some ⟨id, off, none⟩), .int kd dd].toArray = (do
          let old ← Extern.Atomic.read (.int kk) ⟨id, off, none⟩
          let new ← Op.intArith .add kk (← asInt old) (← asInt (.int kd dd))
          store ⟨id, off, none⟩ new .atomic
          pure (if true then new else old)) := rfl
      rw [e0]
      simp [vv, Extern.Atomic.read, run_loadA hc, asInt, asIntOf, Op.intArith, hst]
  | cas kk =>
    simp only [extV, extCas] at hext
    split at hext <;> first | (cases hext; done) | skip
    rename_i b off kx xx ky yy
    split at hext <;> first | (cases hext; done) | skip
    rename_i l et tl hg
    split at hext <;> first | (cases hext; done) | skip
    rename_i k' nn hnth
    cases hk : Nat.beq (kN kk) (kN k') with
    | false => simp [hk] at hext
    | true =>
      have := kN_inj hk
      subst this
      simp only [hk, cond_true] at hext
      simp only [concL, Option.bind_eq_some_iff, Option.some.injEq] at k1
      obtain ⟨ua, c1, _, ⟨ub, c2, _, ⟨uc, c3, _, rfl, rfl⟩, rfl⟩, hxs⟩ := k1
      obtain ⟨id, i1, rfl⟩ := conc_p c1
      have hub := conc_i c2
      subst hub
      have huc := conc_i c3
      subst huc
      obtain ⟨id0, ob, q1, ⟨us0, rest0, fz0, q2, rfl, q3, _⟩, q4, _⟩ := hh.at_ hs hg
      rw [i1] at q1; cases q1
      obtain ⟨u, n1, n2⟩ := nthV_ok q2 hnth
      have hu := conc_i n2
      have hlt := (List.getElem?_eq_some_iff.1 n1).1
      have hc : w.cell? ⟨id, off, none⟩ = some (.int kk nn) := by
        rw [cell_of_block q4]
        simp [List.getElem?_append_left hlt, n1, hu]
      have hsh : w.shape? id = some (et, (us0 ++ rest0).toArray.size) := by simp [World.shape?, q4]
      have hfz : w.frozen? ⟨id, off, none⟩ = false := by
        simp only [World.frozen?, q4]
        exact (q3 rfl).not (by simp; omega)
      have htf : (Extern.Atomic.touchesFrozen ⟨id, off, none⟩).run P w = .ok false w := by
        simp [Extern.Atomic.touchesFrozen, viewAt, shape, frozen, Sem.run, hsh, hfz]
      have hcas : (vv (xsem (.cas kk) [Value.pointer (some ⟨id, off, none⟩), .int kx xx, .int ky yy].toArray)).run P w = (if nn == xx then ((store ⟨id, off, none⟩ (.int ky yy) .atomic).run P w).andThen (fun _ w' => .ok (.value (.bool true)) w') else .ok (.value (.bool false)) w) := by
        have e0 : xsem (.cas kk) [Value.pointer (some ⟨id, off, none⟩), .int kx xx, .int ky yy].toArray = (do
            if ← Extern.Atomic.touchesFrozen ⟨id, off, none⟩ then unsupported (.unsafePointer "a write to bytes that a string shares")
            let eq ← match Extern.Atomic.T.int kk, ← Extern.Atomic.read (.int kk) ⟨id, off, none⟩, Value.int kx xx with
              | _, .int _ x, .int _ y => pure (x == y)
              | .ptr, .pointer x, .pointer y => samePointer x y
              | .int _, .pointer (some _), .int _ 0 | .int _, .int _ 0, .pointer (some _) => pure false
              | .int _, .pointer (some _), _ | .int _, _, .pointer (some _) => unsupported .addressObserved
              | _, _, _ => stuck "atomic.CompareAndSwap: old is no T"
            if eq then store ⟨id, off, none⟩ (.int ky yy) .atomic
            pure (.bool eq)) := rfl
        rw [e0]
        have hld := run_loadA (P := P) hc
        simp only [vv, Sem.run_bind, htf, Result.andThen_ok, Extern.Atomic.read, hld]
        by_cases hnx : nn = xx
        · subst hnx; simp [andThen_assoc, hld, hc]
        · have hnx2 : (nn == xx) = false := by simpa using hnx
          simp [andThen_assoc, hld, hc, hnx, hnx2]
      rw [eqI_eq] at hext
      cases he0 : (nn == xx) with
      | true =>
        simp only [he0, cond_true, Option.bind_eq_some_iff, putK_eq', Option.some.injEq, Prod.mk.injEq] at hext
        obtain ⟨q, hl, rfl, rfl⟩ := hext
        obtain ⟨w', o', hrun, hw⟩ := put_cells (P := P) hh hs hg i1 (vs := [.i ky yy]) (us := [.int ky yy]) (by simp [concL, conc]) hl
        refine ⟨.bool true, w', ρ, _, .inl ?_, hw, by simp [conc]⟩
        rw [← hxs]
        have hst := run_storeA (P := P) (w := w) (w' := w') (a := ⟨id, off, none⟩) hc hrun
        rw [hcas]
        simp [he0, hst]
      | false =>
        simp only [he0, cond_false, Option.some.injEq, Prod.mk.injEq] at hext
        obtain ⟨rfl, rfl⟩ := hext
        refine ⟨.bool false, w, ρ, L, .inl ?_, Went.refl hh hs, by simp [conc]⟩
        rw [← hxs]
        rw [hcas]
        simp [he0]
  | mrk =>
    simp only [extV, extMrk] at hext
    split at hext <;> first | (cases hext; done) | skip
    rename_i q r'
    simp only [Option.some.injEq, Prod.mk.injEq] at hext
    obtain ⟨rfl, rfl⟩ := hext
    simp only [concL, Option.bind_eq_some_iff, Option.some.injEq] at k1
    obtain ⟨ua, c1, us2, _, hxs⟩ := k1
    obtain ⟨bb, oo⟩ := q
    obtain ⟨id, i1, rfl⟩ := conc_p c1
    refine ⟨undef, w, ρ, L, .inl ?_, Went.refl hh hs, conc_und⟩
    rw [← hxs]
    have e0 : xsem .mrk (Value.pointer (some ⟨id, oo, none⟩) :: us2).toArray = (do let _ ← (pure ⟨id, oo, none⟩ : Sem Addr); pure (.tuple #[])) := by
      simp [xsem, Extern.Race.at_]
    rw [e0]
    simp [vv, undef]
  | nop =>
    simp only [extV, Option.some.injEq, Prod.mk.injEq] at hext
    obtain ⟨rfl, rfl⟩ := hext
    exact ⟨undef, w, ρ, L, .inl (by simp [vv, xsem, undef]), Went.refl hh hs, conc_und⟩

/-- THE LAW of what writes or calls. -/
theorem xok (hG : PgOK D P G) (hh : HR D P ρ s F L) (hs : Sat w F (L :: T)) {op : ROp} {x : VE → St → Option OR} (ha : actV G.hb G.xf G.me op = .x x) {o : OR} (he : OpR ρ e r (opR op)) (h : x e s = some o) : XR D P ρ s F T w ((rsem P r op).run P w) o := by
  cases op <;> simp only [actV, Act'.x.injEq, reduceCtorEq] at ha <;> subst ha
  case store => exact xok_store hh hs he h
  case call => exact xok_call he h
  case ext => exact xok_ext hG hh hs he h
  case callV => exact xok_callV hG he h
  case inv => exact xok_inv hG he h
  case app => exact xok_app hh hs he h
  case appZ => exact xok_appZ hh hs he h
  case copy => exact xok_copy hh hs he h
  case cvS2B => exact xok_cvS2B hh hs he h
  case cvMark => exact xok_cvMark hh hs he h
  case bi => exact xok_bi hh hs he h
  case panic => exact xok_panic he h
  case defr => exact xok_defr hG he h
end
end Go.Lx
