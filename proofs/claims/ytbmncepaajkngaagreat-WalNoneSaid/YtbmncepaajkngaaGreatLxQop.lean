/- Quiet operations on values with names: each yields what the machine's does. -/
import Derived.Test.YtbmncepaajkngaaGreatLxHeap
import Derived.Laws.Strings
namespace Go.Lx
set_option linter.unusedSimpArgs false
set_option linter.unusedVariables false

theorem conc_sl {ρ : Nm} {b o n : Nat} {cap : Cap} {u : Value} (h : conc ρ (.sl (some (b, o)) n cap) = some u) :
    ∃ id a c, ρ.ids b = some id ∧ u = .slice (some ⟨id, a, none⟩) n c ∧ (0 < n → a = o) ∧ (∀ k, cap = .k k → a = o ∧ c = k) ∧ (∀ j d o', cap = .v j d o' → ∃ cc, ρ.caps[j]? = some cc ∧ d + n ≤ cc ∧ c = cc - d ∧ a = if cc = d then o' else o) := by
  cases cap with
  | k c =>
    simp only [conc, Option.bind_eq_some_iff, Option.some.injEq] at h
    obtain ⟨id, h1, rfl⟩ := h
    exact ⟨id, o, c, h1, rfl, fun _ => rfl, fun k e => by cases e; exact ⟨rfl, rfl⟩, fun j d o' e => by cases e⟩
  | v j d o' =>
    simp only [conc, Option.bind_eq_some_iff] at h
    obtain ⟨id, h1, c, h2, h3⟩ := h
    split at h3 <;> simp at h3
    rename_i hle
    subst h3
    refine ⟨id, if c = d then o' else o, c - d, h1, rfl, fun hn => ?_, fun k e => (by cases e), fun j' d' o2 e => ?_⟩
    · rw [if_neg (by omega)]
    · cases e; exact ⟨c, h2, hle, rfl, rfl⟩
theorem conc_slnil {ρ : Nm} {n : Nat} {cap : Cap} {u : Value} (h : conc ρ (.sl none n cap) = some u) : ∃ c, cap = .k c ∧ u = .slice none n c := by
  cases cap with
  | k c => simp only [conc, Option.some.injEq] at h; exact ⟨c, rfl, h.symm⟩
  | v j d o' => simp [conc] at h
theorem conc_p {ρ : Nm} {b o : Nat} {u : Value} (h : conc ρ (.p (some (b, o))) = some u) : ∃ id, ρ.ids b = some id ∧ u = .pointer (some ⟨id, o, none⟩) := by
  simp only [conc, Option.bind_eq_some_iff, Option.some.injEq] at h
  obtain ⟨id, a, rfl⟩ := h; exact ⟨id, a, rfl⟩

section
variable {P : Program} {ρ : Nm} {e : VE} {r : Operand → Value}

theorem bnd_ok {X : List Operand} (he : OpR ρ e r X) {x : Operand} (hx : x ∈ X) {d n : Nat} (h : bndV e (some x) d = some n) : ∃ k, r x = .int k n := by
  simp only [bndV] at h
  split at h
  · rename_i k m hx2
    simp at h; subst h
    have := he x hx _ hx2
    simp only [conc, Option.some.injEq] at this
    exact ⟨k, this.symm⟩
  · cases h

theorem run_boundsV {lo hi mx : Option Operand} {l h m len cap : Nat} {isS : Bool} (he : OpR ρ e r (opt lo ++ opt hi ++ opt mx)) (hl : bndV e lo 0 = some l) (hh : bndV e hi len = some h) (hm : mx = none ∧ m = cap ∨ mx ≠ none ∧ bndV e mx 0 = some m) (hmx : mx = none ∨ hi ≠ none)
    (h1 : l ≤ h) (h2 : h ≤ m) (h3 : m ≤ cap) (w : World) :
    (Instr.sliceBounds isS len cap (lo.map r) (hi.map r) (mx.map r)).run P w = .ok (l, h, m) w := by
  have sb : ∀ (x : Value) (k : IntKind) (n y : Nat) (code : BoundsCode), x = .int k n → n ≤ y → (Instr.sliceBound x y code).run P w = .ok n w := by
    intro x k n y code e b
    subst e
    have : ((n : Int) ≤ (y : Int)) := by omega
    simp [Instr.sliceBound, asIntOf, this]
  cases mx with
  | none =>
    obtain ⟨_, rfl⟩ | ⟨hc, _⟩ := hm
    · cases hi with
      | none =>
        simp [bndV] at hh; subst hh
        cases lo with
        | none => simp [bndV] at hl; subst hl; simp [Instr.sliceBounds]
        | some xl =>
          obtain ⟨k, el⟩ := bnd_ok he (x := xl) (by simp [opt]) hl
          simp [Instr.sliceBounds, sb _ _ l _ _ el h1]
      | some xh =>
        obtain ⟨kh, eh⟩ := bnd_ok he (x := xh) (by simp [opt]) hh
        cases lo with
        | none => simp [bndV] at hl; subst hl; simp [Instr.sliceBounds, sb _ _ h _ _ eh h2]
        | some xl =>
          obtain ⟨k, el⟩ := bnd_ok he (x := xl) (by simp [opt]) hl
          simp [Instr.sliceBounds, sb _ _ h _ _ eh h2, sb _ _ l h _ el h1]
    · exact absurd rfl hc
  | some xm =>
    obtain ⟨hc, _⟩ | ⟨_, hm⟩ := hm
    · cases hc
    · obtain ⟨km, em⟩ := bnd_ok he (x := xm) (by simp [opt]) hm
      cases hi with
      | none => rcases hmx with e | e <;> simp at e
      | some xh =>
        obtain ⟨kh, eh⟩ := bnd_ok he (x := xh) (by simp [opt]) hh
        cases lo with
        | none => simp [bndV] at hl; subst hl; simp [Instr.sliceBounds, sb _ _ m _ _ em h3, sb _ _ h m _ eh h2]
        | some xl =>
          obtain ⟨k, el⟩ := bnd_ok he (x := xl) (by simp [opt]) hl
          simp [Instr.sliceBounds, sb _ _ m _ _ em h3, sb _ _ h m _ eh h2, sb _ _ l h _ el h1]
end

section
variable {D : DrawFn} {P : Program} {ρ : Nm} {s : St} {F : Know} {L : Hp} {T : SH} {w : World} {e : VE} {r : Operand → Value}

/-- What is meant by: an operation yields this value. -/
def Yld (P : Program) (ρ : Nm) (r : Operand → Value) (w : World) (op : ROp) (v : V) : Prop := ∃ u, conc ρ v = some u ∧ (rsem P r op).run P w = .ok (.value u) w

theorem qok_pick {c a b : Operand} {v : V} (he : OpR ρ e r (opR (.pick c a b))) (h : q_pickV c a b e s = some v) : Yld P ρ r w (.pick c a b) v := by
  unfold q_pickV at h
  split at h
  · rename_i hc
    have h1 := he c (by simp [opR]) _ hc
    have h2 := he a (by simp [opR]) _ h
    simp only [conc, Option.some.injEq] at h1
    exact ⟨_, h2, by simp [rsem, ← h1, asBool]⟩
  · rename_i hc
    have h1 := he c (by simp [opR]) _ hc
    have h2 := he b (by simp [opR]) _ h
    simp only [conc, Option.some.injEq] at h1
    exact ⟨_, h2, by simp [rsem, ← h1, asBool]⟩
  · cases h

theorem nthV_fun {α : Type} (pl : List α) : (fun i => pl[i]?) = nthV pl := by funext i; rw [nthV_eq]

theorem bld_parts {pl : Nat → Option (Nat × Nat)} {zero : Array Value} {parts : List (Nat × Operand)} {z : V} {vs : List (Nat × V)} {q : List V} (he : OpR ρ e r (parts.map (·.2))) (hz : ofC 4 (.agg zero) = some z) (hv : evpV e parts = some vs) (hb : bldV pl (cellsV z) vs = some q) :
    ∃ rs, Instr.fill pl zero (parts.map fun (i, x) => (i, r x)) = some rs.toArray ∧ concL ρ q = some rs := by
  have h1 := cellsV_ok (ofC_ok (ρ := ρ) _ _ _ hz)
  obtain ⟨k1, k2⟩ := evp_ok he hv
  have e2 : (parts.map fun (p : Nat × Operand) => (p.1, r p.2)).map (·.1) = vs.map (·.1) := by rw [k1]; simp [Function.comp_def]
  have e3 : concL ρ (vs.map (·.2)) = some ((parts.map fun (p : Nat × Operand) => (p.1, r p.2)).map (·.2)) := by rw [k2]; simp [Function.comp_def]
  obtain ⟨rs, b1, b2⟩ := bldV_ok pl e2 e3 h1 hb
  refine ⟨rs, ?_, b2⟩
  have := bld_ok _ _ _ _ b1
  simp only [cellsL] at this
  simpa using this

theorem qok_build {pl : List (Nat × Nat)} {zero : Array Value} {parts : List (Nat × Operand)} {v : V} (he : OpR ρ e r (opR (.build pl zero parts))) (h : q_buildV pl zero parts e s = some v) : Yld P ρ r w (.build pl zero parts) v := by
  simp only [q_buildV, Option.bind_eq_some_iff, Option.some.injEq] at h
  obtain ⟨z, h1, vs, h2, q, h3, rfl⟩ := h
  obtain ⟨rs, a, b⟩ := bld_parts (by simpa [opR] using he) h1 h2 h3
  refine ⟨.agg rs.toArray, by simp [conc, b], ?_⟩
  simp only [rsem, vv, nthV_fun, a]; simp
theorem qok_buildA {n : Nat} {zero : Array Value} {parts : List (Nat × Operand)} {v : V} (he : OpR ρ e r (opR (.buildA n zero parts))) (h : q_buildAV n zero parts e s = some v) : Yld P ρ r w (.buildA n zero parts) v := by
  simp only [q_buildAV, Option.bind_eq_some_iff, Option.some.injEq] at h
  obtain ⟨z, h1, vs, h2, q, h3, rfl⟩ := h
  obtain ⟨rs, a, b⟩ := bld_parts (by simpa [opR] using he) h1 h2 h3
  refine ⟨.agg rs.toArray, by simp [conc, b], ?_⟩
  simp only [rsem, vv, a]; simp

theorem qok_load1 (hh : HR D P ρ s F L) (hs : Sat w F (L :: T)) {a : Operand} {v : V} (he : OpR ρ e r (opR (.load1 a))) (h : q_load1V a e s = some v) : Yld P ρ r w (.load1 a) v := by
  unfold q_load1V at h
  split at h
  · rename_i b o hx
    simp only [Option.bind_eq_some_iff] at h
    obtain ⟨l, h1, h2⟩ := h
    obtain ⟨id, us, rest, et, fz, i1, i2, i3⟩ := hh.getC hs h1
    obtain ⟨u, n1, n2⟩ := nthV_ok i2 h2
    obtain ⟨id', d, hr⟩ := conc_p (he a (by simp [opR]) _ hx)
    rw [i1] at d; cases d
    refine ⟨u, n2, ?_⟩
    have hc : w.cell? ⟨id, o, none⟩ = some u := by
      rw [cell_of_block i3]
      have := (List.getElem?_eq_some_iff.1 n1).1
      simp [List.getElem?_append_left this, n1]
    simp [rsem, vv, hr, Instr.sureAddr, hc]
  · cases h

theorem cells_at {us rest : List Value} {et : TypeId} {fz : Nat × Nat} {id o n : Nat} {ws : List Value} (hb : w.heap[id]? = some (.cells (us ++ rest).toArray et fz)) (hp : partL o n us = some ws) :
    ∀ (j : Nat) (v : Value), ws[j]? = some v → w.cell? ((⟨id, o, none⟩ : Addr).add j) = some v := by
  obtain ⟨m1, m2⟩ := partL_eq _ _ _ _ hp
  intro j v hj
  rw [add_none, cell_of_block hb]
  subst m1
  rw [List.getElem?_take] at hj
  split at hj
  · rw [List.getElem?_drop] at hj
    have := (List.getElem?_eq_some_iff.1 hj).1
    simp [List.getElem?_append_left this, hj]
  · cases hj
theorem run_cells {us rest : List Value} {et : TypeId} {fz : Nat × Nat} {id o n : Nat} {ws : List Value} (hb : w.heap[id]? = some (.cells (us ++ rest).toArray et fz)) (hp : partL o n us = some ws) : (loadCells ⟨id, o, none⟩ n).run P w = .ok ws.toArray w := by
  have := run_loadCells_list (P := P) w ⟨id, o, none⟩ ws (cells_at hb hp)
  rw [(partL_eq _ _ _ _ hp).2] at this
  exact this

theorem qok_loadN (hh : HR D P ρ s F L) (hs : Sat w F (L :: T)) {n : Nat} {a : Operand} {v : V} (he : OpR ρ e r (opR (.loadN n a))) (h : q_loadNV n a e s = some v) : Yld P ρ r w (.loadN n a) v := by
  unfold q_loadNV at h
  split at h
  · rename_i b o hx
    simp only [Option.bind_eq_some_iff, Option.some.injEq] at h
    obtain ⟨l, h1, q, h2, rfl⟩ := h
    obtain ⟨id, us, rest, et, fz, i1, i2, i3⟩ := hh.getC hs h1
    obtain ⟨ws, n1, n2⟩ := partV_ok i2 h2
    obtain ⟨id', d, hr⟩ := conc_p (he a (by simp [opR]) _ hx)
    rw [i1] at d; cases d
    refine ⟨.agg ws.toArray, by simp [conc, n2], ?_⟩
    simp [rsem, vv, hr, Instr.sureAddr, run_cells i3 n1]
  · cases h
theorem qok_nilck {a : Operand} {v : V} (he : OpR ρ e r (opR (.nilck a))) (h : q_nilckV a e s = some v) : Yld P ρ r w (.nilck a) v := by
  unfold q_nilckV at h
  split at h
  · rename_i x hx
    simp only [Option.some.injEq] at h; subst h
    obtain ⟨b, o⟩ := x
    have := he a (by simp [opR]) _ hx
    obtain ⟨id, d, hr⟩ := conc_p this
    exact ⟨_, this, by simp [rsem, execOp, hr]⟩
  · rename_i f x y hx
    simp only [Option.some.injEq] at h; subst h
    have := he a (by simp [opR]) _ hx
    have t := this
    simp only [conc, concF, Option.bind_eq_some_iff, Option.some.injEq, exists_eq_left'] at t
    obtain ⟨a1, _, c1, _, hr⟩ := t
    exact ⟨_, this, by simp [rsem, execOp, ← hr]⟩
  · rename_i f x y hx
    simp only [Option.some.injEq] at h; subst h
    have := he a (by simp [opR]) _ hx
    have t := this
    simp only [conc, concF, Option.bind_eq_some_iff, Option.map_eq_some_iff, Option.some.injEq] at t
    obtain ⟨_, ⟨id, _, rfl⟩, a1, _, c1, _, hr⟩ := t
    exact ⟨_, this, by simp [rsem, execOp, ← hr]⟩
  · rename_i t x hx
    simp only [Option.some.injEq] at h; subst h
    have := he a (by simp [opR]) _ hx
    have t := this
    simp only [conc, Option.bind_eq_some_iff, Option.some.injEq] at t
    obtain ⟨u, _, hr⟩ := t
    exact ⟨_, this, by simp [rsem, execOp, ← hr]⟩
  · cases h

theorem kN_inj {k k' : IntKind} (h : Nat.beq (kN k) (kN k') = true) : k = k' := by cases k <;> cases k' <;> first | rfl | (simp [kN] at h)

theorem minN_eq (a b : Nat) : minN a b = min a b := by
  unfold minN; rw [blt_eq]
  by_cases h : a < b
  · simp [h]; omega
  · simp [h]; omega
theorem bitsK_eq (k : IntKind) : bitsK k = k.bits := by cases k <;> rfl

theorem run_bin_ii {op : BinOp} {t : TypeId} {x y : Operand} {k : IntKind} {a b : Int} {v : V} (hx : r x = .int k a) (hy : r y = .int k b) (h : arith op k a b = some v) : Yld P ρ r w (.bin op t x y) v := by
  rcases binI_ok h with ⟨q, rfl, h2⟩ | ⟨q, rfl, h2⟩
  · refine ⟨_, by simp [conc]; rfl, ?_⟩
    cases op <;> simp only [binI, reduceCtorEq] at h2 <;>
      first
      | (simp only [Option.some.injEq] at h2; subst h2; simp [rsem, vv, hx, hy, eqGuard, binOp, Op.intArith, Op.intBits]; done)
      | (split at h2 <;> simp at h2; subst h2; rename_i h0; simp [rsem, vv, hx, hy, eqGuard, binOp, Op.intDiv, h0])
  · refine ⟨_, by simp [conc]; rfl, ?_⟩
    cases op <;> simp only [cmpI, Option.some.injEq, reduceCtorEq] at h2 <;> subst h2 <;> simp [rsem, vv, hx, hy, eqGuard, binOp, Op.intCmp]
theorem run_bin_sh {op : BinOp} {t : TypeId} {x y : Operand} {k k' : IntKind} {a b : Int} {v : V} (hx : r x = .int k a) (hy : r y = .int k' b) (h : shiftV op k a b = some v) : Yld P ρ r w (.bin op t x y) v := by
  unfold shiftV at h
  cases b with
  | negSucc n => cases h
  | ofNat n =>
    simp only at h
    have hn : ¬ ((n : Int) < 0) := by omega
    cases op <;> simp only [reduceCtorEq] at h
    · simp only [Option.some.injEq] at h; subst h
      refine ⟨_, by simp [conc]; rfl, ?_⟩
      simp [rsem, vv, hx, hy, eqGuard, binOp, Op.shift, hn, wrapV_eq, minN_eq, bitsK_eq]
    · cases a with
      | ofNat m =>
        simp only [Option.some.injEq] at h; subst h
        refine ⟨_, by simp [conc]; rfl, ?_⟩
        have e : (Int.ofNat m).fdiv (2 ^ min n k.bits) = Int.ofNat (Nat.div m (Nat.pow 2 (min n k.bits))) := by
          rw [show ((2 : Int) ^ min n k.bits) = ((2 ^ min n k.bits : Nat) : Int) by simp]
          rw [Int.fdiv_eq_ediv_of_nonneg _ (Int.natCast_nonneg _)]
          rfl
        simp [rsem, vv, hx, hy, eqGuard, binOp, Op.shift, hn, minN_eq, bitsK_eq] at e ⊢
        exact e
      | negSucc m =>
        simp only [Option.some.injEq] at h; subst h
        refine ⟨_, by simp [conc]; rfl, ?_⟩
        have e : (Int.negSucc m).fdiv (2 ^ min n k.bits) = Int.negSucc (Nat.div m (Nat.pow 2 (min n k.bits))) := by
          rw [show ((2 : Int) ^ min n k.bits) = ((2 ^ min n k.bits : Nat) : Int) by simp]
          have hp : 0 < 2 ^ min n k.bits := Nat.two_pow_pos _
          rw [Int.fdiv_eq_ediv_of_nonneg _ (Int.natCast_nonneg _), Int.negSucc_ediv _ (by exact Int.natCast_pos.2 hp)]
          simp [Int.negSucc_eq]
          rfl
        simp [rsem, vv, hx, hy, eqGuard, binOp, Op.shift, hn, minN_eq, bitsK_eq] at e ⊢
        exact e
theorem toList_mk (l : List UInt8) : (ByteArray.mk l.toArray).toList = l := by rw [ByteArray.toList_eq]
theorem run_bin_ss {op : BinOp} {t : TypeId} {x y : Operand} {a b : List UInt8} {v : V} (hx : r x = .string ⟨a.toArray⟩) (hy : r y = .string ⟨b.toArray⟩) (h : strOp op a b = some v) : Yld P ρ r w (.bin op t x y) v := by
  have e1 := toList_mk a
  have e2 := toList_mk b
  have e3 : (ByteArray.mk a.toArray ++ ByteArray.mk b.toArray) = ByteArray.mk (a ++ b).toArray := by
    apply ByteArray.ext; simp
  have s1 : (ByteArray.mk a.toArray).size = a.length := by simp [ByteArray.size]
  have s2 : (ByteArray.mk b.toArray).size = b.length := by simp [ByteArray.size]
  cases op <;> simp only [strOp, Option.some.injEq, reduceCtorEq] at h
  case add =>
    cases hb : Nat.ble (a.length + b.length) 9223372036854775807 with
    | false => simp [hb] at h
    | true =>
      simp only [hb, cond_true, Option.some.injEq] at h; subst h
      have hle := Nat.le_of_ble_eq_true hb
      have hm : ¬ ((a.length + b.length : Nat) : Int) > IntKind.i64.max := by
        have : IntKind.i64.max = 9223372036854775807 := rfl
        omega
      refine ⟨_, by simp [conc]; rfl, ?_⟩
      simp only [rsem, vv, hx, hy, eqGuard, binOp, Op.stringOp, s1, s2, hm, if_false, e3]
      simp
  all_goals (subst h; refine ⟨_, by simp [conc]; rfl, ?_⟩; simp [rsem, vv, hx, hy, eqGuard, binOp, Op.stringOp, e1, e2, eqBs_eq, lessB_eq])

theorem conc_i {k : IntKind} {n : Int} {u : Value} (h : conc ρ (.i k n) = some u) : u = .int k n := by simp only [conc, Option.some.injEq] at h; exact h.symm
theorem conc_b {n : Bool} {u : Value} (h : conc ρ (.b n) = some u) : u = .bool n := by simp only [conc, Option.some.injEq] at h; exact h.symm
theorem conc_s {n : List UInt8} {u : Value} (h : conc ρ (.s n) = some u) : u = .string ⟨n.toArray⟩ := by simp only [conc, Option.some.injEq] at h; exact h.symm
theorem conc_fn {f : Fn} {a c : List V} {u : Value} (h : conc ρ (.fn f a c) = some u) : ∃ f' a' c', concF ρ f = some f' ∧ concL ρ a = some a' ∧ concL ρ c = some c' ∧ u = .func f' a'.toArray c'.toArray := by
  simp only [conc, Option.bind_eq_some_iff, Option.some.injEq] at h
  obtain ⟨f', h1, a', h2, c', h3, rfl⟩ := h
  exact ⟨f', a', c', h1, h2, h3, rfl⟩
theorem conc_fc {t : Nat} {v : V} {u : Value} (h : conc ρ (.fc t v) = some u) : ∃ x, conc ρ v = some x ∧ u = .iface t x := by
  simp only [conc, Option.bind_eq_some_iff, Option.some.injEq] at h
  obtain ⟨x, h1, rfl⟩ := h
  exact ⟨x, h1, rfl⟩
theorem conc_ag {l : List V} {u : Value} (h : conc ρ (.ag l) = some u) : ∃ x, concL ρ l = some x ∧ u = .agg x.toArray := by
  simp only [conc, Option.bind_eq_some_iff, Option.some.injEq] at h
  obtain ⟨x, h1, rfl⟩ := h
  exact ⟨x, h1, rfl⟩
theorem conc_tp {l : List V} {u : Value} (h : conc ρ (.tp l) = some u) : ∃ x, concL ρ l = some x ∧ u = .tuple x.toArray := by
  simp only [conc, Option.bind_eq_some_iff, Option.some.injEq] at h
  obtain ⟨x, h1, rfl⟩ := h
  exact ⟨x, h1, rfl⟩
theorem conc_m {b : Nat} {u : Value} (h : conc ρ (.m (some b)) = some u) : ∃ id, ρ.ids b = some id ∧ u = .map (some id) := by
  simp only [conc, Option.bind_eq_some_iff, Option.some.injEq] at h
  obtain ⟨id, a, rfl⟩ := h; exact ⟨id, a, rfl⟩

theorem qok_bin {op : BinOp} {t : TypeId} {x y : Operand} {v : V} (he : OpR ρ e r (opR (.bin op t x y))) (h : q_binV op x y e s = some v) : Yld P ρ r w (.bin op t x y) v := by
  unfold q_binV at h
  split at h
  · rename_i k a k' b hx hy
    have h1 := conc_i (he x (by simp [opR]) _ hx)
    have h2 := conc_i (he y (by simp [opR]) _ hy)
    split at h
    · exact run_bin_sh h1 h2 h
    · exact run_bin_sh h1 h2 h
    · cases hk : Nat.beq (kN k) (kN k') with
      | false => simp [hk] at h
      | true =>
        have := kN_inj hk
        subst this
        simp only [hk, cond_true] at h
        exact run_bin_ii h1 h2 h
  · rename_i a b hx hy
    exact run_bin_ss (conc_s (he x (by simp [opR]) _ hx)) (conc_s (he y (by simp [opR]) _ hy)) h
  · cases h

theorem qok_eqB {neg : Bool} {x y : Operand} {v : V} (he : OpR ρ e r (opR (.eqB neg x y))) (h : q_eqBV neg x y e s = some v) : Yld P ρ r w (.eqB neg x y) v := by
  unfold q_eqBV at h
  split at h
  · rename_i a b hx hy
    have h1 := conc_b (he x (by simp [opR]) _ hx)
    have h2 := conc_b (he y (by simp [opR]) _ hy)
    simp only [Option.some.injEq] at h; subst h
    refine ⟨_, by simp [conc, ngV]; rfl, ?_⟩
    cases neg <;> simp [rsem, vv, h1, h2]
  · cases h
theorem qok_eqP {neg : Bool} {x y : Operand} {v : V} (he : OpR ρ e r (opR (.eqP neg x y))) (h : q_eqPV neg x y e s = some v) : Yld P ρ r w (.eqP neg x y) v := by
  unfold q_eqPV at h
  split at h
  · rename_i hx hy
    have h1 := he x (by simp [opR]) _ hx
    have h2 := he y (by simp [opR]) _ hy
    simp only [conc, Option.some.injEq] at h1 h2 h; subst h
    refine ⟨_, by simp [conc, ngV]; rfl, ?_⟩
    cases neg <;> simp [rsem, vv, ← h1, ← h2]
  · rename_i q hx hy
    obtain ⟨b, o⟩ := q
    have h1 := he x (by simp [opR]) _ hx
    obtain ⟨id, _, h2⟩ := conc_p (he y (by simp [opR]) _ hy)
    simp only [conc, Option.some.injEq] at h1 h; subst h
    refine ⟨_, by simp [conc, ngV]; rfl, ?_⟩
    cases neg <;> simp [rsem, vv, ← h1, h2]
  · rename_i q hx hy
    obtain ⟨b, o⟩ := q
    obtain ⟨id, _, h1⟩ := conc_p (he x (by simp [opR]) _ hx)
    have h2 := he y (by simp [opR]) _ hy
    simp only [conc, Option.some.injEq] at h2 h; subst h
    refine ⟨_, by simp [conc, ngV]; rfl, ?_⟩
    cases neg <;> simp [rsem, vv, h1, ← h2]
  · rename_i a o b u hx hy
    obtain ⟨id, i1, h1⟩ := conc_p (he x (by simp [opR]) _ hx)
    obtain ⟨id', i2, h2⟩ := conc_p (he y (by simp [opR]) _ hy)
    cases hb : Nat.beq a b with
    | false => simp [hb] at h
    | true =>
      have := Nat.eq_of_beq_eq_true hb
      subst this
      rw [i1] at i2; cases i2
      simp only [hb, cond_true, Option.some.injEq] at h; subst h
      have e1 : ((⟨id, o, none⟩ : Addr) == ⟨id, u, none⟩) = Nat.beq o u := by
        rw [beq_eq, Bool.eq_iff_iff]; simp
      refine ⟨_, by simp [conc, ngV]; rfl, ?_⟩
      cases neg <;> simp [rsem, vv, h1, h2, sameAddr, e1]
  · cases h

theorem qok_eqF {neg : Bool} {x y : Operand} {v : V} (he : OpR ρ e r (opR (.eqF neg x y))) (h : q_eqFV neg x y e s = some v) : Yld P ρ r w (.eqF neg x y) v := by
  unfold q_eqFV at h
  split at h <;> first | (cases h; done) | skip
  all_goals
    rename_i hx hy
    have h1 := he x (by simp [opR]) _ hx
    have h2 := he y (by simp [opR]) _ hy
    simp only [Option.some.injEq] at h; subst h
    refine ⟨_, by simp [conc, ngV]; rfl, ?_⟩
  · simp only [conc, Option.some.injEq] at h1 h2
    cases neg <;> simp [rsem, vv, ← h1, ← h2]
  · obtain ⟨_, _, _, _, _, _, h2⟩ := conc_fn h2
    simp only [conc, Option.some.injEq] at h1
    cases neg <;> simp [rsem, vv, ← h1, h2]
  · obtain ⟨_, _, _, _, _, _, h1⟩ := conc_fn h1
    simp only [conc, Option.some.injEq] at h2
    cases neg <;> simp [rsem, vv, h1, ← h2]
theorem qok_eqI {neg : Bool} {x y : Operand} {v : V} (he : OpR ρ e r (opR (.eqI neg x y))) (h : q_eqIV neg x y e s = some v) : Yld P ρ r w (.eqI neg x y) v := by
  unfold q_eqIV at h
  split at h <;> first | (cases h; done) | skip
  all_goals
    rename_i hx hy
    have h1 := he x (by simp [opR]) _ hx
    have h2 := he y (by simp [opR]) _ hy
    simp only [Option.some.injEq] at h; subst h
    refine ⟨_, by simp [conc, ngV]; rfl, ?_⟩
  · simp only [conc, Option.some.injEq] at h1 h2
    cases neg <;> simp [rsem, vv, ← h1, ← h2]
  · obtain ⟨_, _, h2⟩ := conc_fc h2
    simp only [conc, Option.some.injEq] at h1
    cases neg <;> simp [rsem, vv, ← h1, h2]
  · obtain ⟨_, _, h1⟩ := conc_fc h1
    simp only [conc, Option.some.injEq] at h2
    cases neg <;> simp [rsem, vv, h1, ← h2]
theorem qok_eqS {neg : Bool} {x y : Operand} {v : V} (he : OpR ρ e r (opR (.eqS neg x y))) (h : q_eqSV neg x y e s = some v) : Yld P ρ r w (.eqS neg x y) v := by
  unfold q_eqSV at h
  split at h <;> first | (cases h; done) | skip
  · rename_i hx hy
    have h1 := he x (by simp [opR]) _ hx
    have h2 := he y (by simp [opR]) _ hy
    simp only [Option.some.injEq] at h; subst h
    refine ⟨_, by simp [conc, ngV]; rfl, ?_⟩
    obtain ⟨_, _, h1⟩ := conc_slnil h1
    obtain ⟨_, _, h2⟩ := conc_slnil h2
    cases neg <;> simp [rsem, vv, h1, h2]
  · rename_i q _ _ hx hy
    obtain ⟨b, o⟩ := q
    have h1 := he x (by simp [opR]) _ hx
    have h2 := he y (by simp [opR]) _ hy
    simp only [Option.some.injEq] at h; subst h
    refine ⟨_, by simp [conc, ngV]; rfl, ?_⟩
    obtain ⟨_, _, h1⟩ := conc_slnil h1
    obtain ⟨_, _, _, _, h2, _⟩ := conc_sl h2
    cases neg <;> simp [rsem, vv, h1, h2]
  · rename_i q _ _ _ _ hx hy
    obtain ⟨b, o⟩ := q
    have h1 := he x (by simp [opR]) _ hx
    have h2 := he y (by simp [opR]) _ hy
    simp only [Option.some.injEq] at h; subst h
    refine ⟨_, by simp [conc, ngV]; rfl, ?_⟩
    obtain ⟨_, _, h2⟩ := conc_slnil h2
    obtain ⟨_, _, _, _, h1, _⟩ := conc_sl h1
    cases neg <;> simp [rsem, vv, h1, h2]
theorem qok_eqM {neg : Bool} {x y : Operand} {v : V} (he : OpR ρ e r (opR (.eqM neg x y))) (h : q_eqMV neg x y e s = some v) : Yld P ρ r w (.eqM neg x y) v := by
  unfold q_eqMV at h
  split at h <;> first | (cases h; done) | skip
  all_goals
    rename_i hx hy
    have h1 := he x (by simp [opR]) _ hx
    have h2 := he y (by simp [opR]) _ hy
    simp only [Option.some.injEq] at h; subst h
    refine ⟨_, by simp [conc, ngV]; rfl, ?_⟩
  · simp only [conc, Option.some.injEq] at h1 h2
    cases neg <;> simp [rsem, vv, ← h1, ← h2]
  · obtain ⟨_, _, h2⟩ := conc_m h2
    simp only [conc, Option.some.injEq] at h1
    cases neg <;> simp [rsem, vv, ← h1, h2]
  · obtain ⟨_, _, h1⟩ := conc_m h1
    simp only [conc, Option.some.injEq] at h2
    cases neg <;> simp [rsem, vv, h1, ← h2]

theorem qok_un {op : UnOp} {x : Operand} {v : V} (he : OpR ρ e r (opR (.un op x))) (h : q_unV op x e s = some v) : Yld P ρ r w (.un op x) v := by
  unfold q_unV at h
  split at h <;> first | (cases h; done) | skip
  · rename_i b hx
    have h1 := conc_b (he x (by simp [opR]) _ hx)
    simp only [Option.some.injEq] at h; subst h
    exact ⟨_, by simp [conc]; rfl, by simp [rsem, vv, h1, Op.unary]⟩
  · rename_i k n hx
    have h1 := conc_i (he x (by simp [opR]) _ hx)
    simp only [Option.some.injEq] at h; subst h
    refine ⟨_, by simp [conc]; rfl, ?_⟩
    have e : Int.neg n = 0 - n := by rw [Int.zero_sub]; rfl
    simp [rsem, vv, h1, Op.unary, Op.intArith, wrapV_eq, e]
  · rename_i k n hx
    have h1 := conc_i (he x (by simp [opR]) _ hx)
    simp only [Option.some.injEq] at h; subst h
    refine ⟨_, by simp [conc]; rfl, ?_⟩
    have hlt := bitN_lt k n
    have es : ∀ a b : Nat, Nat.sub a b = a - b := fun _ _ => rfl
    have e : (BitVec.ofInt k.bits (if k.signed then -1 else k.max) ^^^ BitVec.ofInt k.bits n).toNat = modK k - 1 - bitN k n := by
      have hall : BitVec.ofInt k.bits (if k.signed then -1 else k.max) = BitVec.allOnes k.bits := by cases k <;> decide
      rw [hall, BitVec.allOnes_xor, BitVec.toNat_not, bitN_bv, modK_eq]
    simp only [rsem, vv, h1, Op.unary, Op.intBits]
    simp only [es, ofBits_eq k _ (show modK k - 1 - bitN k n < modK k by omega)]
    simp [e]
theorem qok_cvInt {k : IntKind} {x : Operand} {v : V} (he : OpR ρ e r (opR (.cvInt k x))) (h : q_cvIntV k x e s = some v) : Yld P ρ r w (.cvInt k x) v := by
  unfold q_cvIntV at h
  split at h <;> first | (cases h; done) | skip
  rename_i k' n hx
  have h1 := conc_i (he x (by simp [opR]) _ hx)
  simp only [Option.some.injEq] at h; subst h
  exact ⟨_, by simp [conc]; rfl, by simp [rsem, vv, h1, Conv.intToInt, wrapV_eq]⟩

theorem bytesOf_ok {ρ : Nm} : ∀ {l : List V} {us : List Value} {t : List UInt8}, concL ρ l = some us → bytesOf l = some t → ∃ ns : List Int, us = ns.map (Value.int .u8) ∧ t = ns.map fun n => UInt8.ofNat n.toNat
  | [], us, t, h, g => by simp [concL] at h; simp [bytesOf] at g; subst h; subst g; exact ⟨[], rfl, rfl⟩
  | v :: vs, us, t, h, g => by
    unfold bytesOf at g
    split at g <;> first | (cases g; done) | skip
    · rename_i e; cases e
    · rename_i n q e
      simp only [List.cons.injEq] at e
      obtain ⟨rfl, rfl⟩ := e
      simp only [Option.bind_eq_some_iff, Option.some.injEq] at g
      obtain ⟨t', h1, rfl⟩ := g
      simp only [concL, conc, Option.bind_eq_some_iff, Option.some.injEq, exists_eq_left'] at h
      obtain ⟨us', h2, rfl⟩ := h
      obtain ⟨ns, rfl, rfl⟩ := bytesOf_ok h2 h1
      exact ⟨n :: ns, rfl, rfl⟩
theorem push_bytes (ns : List Int) : ∀ r : ByteArray, ns.foldl (fun r n => r.push (UInt8.ofNat n.toNat)) r = ⟨r.data ++ (ns.map fun n => UInt8.ofNat n.toNat).toArray⟩ := by
  induction ns with
  | nil => intro r; simp
  | cons n ns ih =>
    intro r
    rw [List.foldl_cons, ih]
    apply ByteArray.ext
    apply Array.ext'
    simp [ByteArray.push]
theorem run_bytes (ns : List Int) (id o c : Nat) (w' : World) (hc : (loadCells ⟨id, o, none⟩ ns.length).run P w' = .ok (ns.map (Value.int .u8)).toArray w') :
    (Conv.bytesToString (.slice (some ⟨id, o, none⟩) ns.length c)).run P w' = .ok (.string ⟨(ns.map fun n => UInt8.ofNat n.toNat).toArray⟩) w' := by
  rw [run_bytesToString w' _ _ _ ns hc, push_bytes]
  congr 2
  apply ByteArray.ext
  show (#[] : Array UInt8) ++ _ = _
  simp
theorem qok_cvB2S (hh : HR D P ρ s F L) (hs : Sat w F (L :: T)) {x : Operand} {v : V} (he : OpR ρ e r (opR (.cvB2S x))) (h : q_cvB2SV x e s = some v) : Yld P ρ r w (.cvB2S x) v := by
  unfold q_cvB2SV at h
  split at h <;> first | (cases h; done) | skip
  · rename_i hx
    obtain ⟨c, _, h1⟩ := conc_slnil (he x (by simp [opR]) _ hx)
    simp only [Option.some.injEq] at h; subst h
    exact ⟨_, by simp [conc]; rfl, by simp [rsem, vv, h1, Conv.bytesToString]; rfl⟩
  · rename_i b o n cap hx
    simp only [Option.bind_eq_some_iff, Option.some.injEq] at h
    obtain ⟨l, h1, q, h2, t, h3, rfl⟩ := h
    obtain ⟨id, us, rest, et, fz, i1, i2, i3⟩ := hh.getC hs h1
    obtain ⟨ws, n1, n2⟩ := partV_ok i2 h2
    obtain ⟨id', a, c, d, hr, ha, _⟩ := conc_sl (he x (by simp [opR]) _ hx)
    rw [i1] at d; cases d
    obtain ⟨ns, rfl, rfl⟩ := bytesOf_ok n2 h3
    have hlen := (partL_eq _ _ _ _ n1).2
    simp at hlen
    refine ⟨_, by simp [conc]; rfl, ?_⟩
    have hrun : (loadCells ⟨id, a, none⟩ ns.length).run P w = .ok (ns.map (Value.int .u8)).toArray w := by
      by_cases h0 : 0 < n
      · rw [ha h0, hlen]; exact run_cells i3 n1
      · have : ns = [] := List.length_eq_zero_iff.1 (by omega)
        subst this
        exact run_loadCells_list (P := P) w ⟨id, a, none⟩ [] (fun j v hj => by simp at hj)
    have := run_bytes (P := P) ns id a c w hrun
    rw [hlen] at this
    simp [rsem, vv, hr, this]
theorem qok_cvId {x : Operand} {v : V} (he : OpR ρ e r (opR (.cvId x))) (h : q_cvIdV x e s = some v) : Yld P ρ r w (.cvId x) v := by
  unfold q_cvIdV at h
  split at h <;> first | (cases h; done) | skip
  rename_i l hx
  have h1 := conc_s (he x (by simp [opR]) _ hx)
  simp only [Option.some.injEq] at h; subst h
  exact ⟨_, by simp [conc]; rfl, by simp [rsem, vv, h1]⟩
theorem qok_cvUP (hh : HR D P ρ s F L) (hs : Sat w F (L :: T)) {x : Operand} {v : V} (he : OpR ρ e r (opR (.cvUP x))) (h : q_cvUPV x e s = some v) : Yld P ρ r w (.cvUP x) v := by
  unfold q_cvUPV at h
  split at h <;> first | (cases h; done) | skip
  · rename_i hx
    have h1 := he x (by simp [opR]) _ hx
    simp only [conc, Option.some.injEq] at h1 h; subst h
    exact ⟨_, by simp [conc]; rfl, by simp [rsem, vv, ← h1]⟩
  · rename_i b o hx
    have h0 := he x (by simp [opR]) _ hx
    simp only [Option.bind_eq_some_iff] at h
    obtain ⟨l, h1, h⟩ := h
    obtain ⟨id, us, rest, et, fz, i1, i2, i3⟩ := hh.getC hs h1
    obtain ⟨id', d, hr⟩ := conc_p h0
    rw [i1] at d; cases d
    rw [blt_eq] at h
    by_cases hlt : o < l.length
    · simp only [hlt, decide_true, cond_true, Option.some.injEq] at h; subst h
      have hsh : (shape id).run P w = .ok (w.shape? id) w := rfl
      have hlen := concL_len i2
      have he2 : w.shape? id = some (et, (us ++ rest).length) := by simp [World.shape?, i3]
      have hlt2 : o < (us ++ rest).length := by simp; omega
      refine ⟨_, h0, ?_⟩
      simp only [rsem, vv, hr, Sem.run_bind, hsh, he2, Result.andThen_ok, hlt2, and_self, if_true, Sem.run_pure]
    · simp [hlt] at h
theorem qok_mkIf {t : TypeId} {x : Operand} {v : V} (he : OpR ρ e r (opR (.mkIf t x))) (h : q_mkIfV t x e s = some v) : Yld P ρ r w (.mkIf t x) v := by
  simp only [q_mkIfV, Option.bind_eq_some_iff, Option.some.injEq] at h
  obtain ⟨u, hx, rfl⟩ := h
  have h1 := he x (by simp [opR]) _ hx
  exact ⟨_, by simp [conc, h1]; rfl, by simp [rsem]⟩
theorem qok_mkFn {fn : Fn} {a c : List Operand} {v : V} (he : OpR ρ e r (opR (.mkFn fn a c))) (h : q_mkFnV fn a c e s = some v) : Yld P ρ r w (.mkFn fn a c) v := by
  unfold q_mkFnV at h
  split at h <;> first | (cases h; done) | skip
  rename_i f
  simp only [Option.bind_eq_some_iff, Option.some.injEq] at h
  obtain ⟨x, h1, y, h2, rfl⟩ := h
  have k1 := evs_ok (fun z m => he z (by simp [opR, m])) h1
  have k2 := evs_ok (fun z m => he z (by simp [opR, m])) h2
  exact ⟨_, by simp [conc, concF, k1, k2]; rfl, by simp [rsem]⟩
theorem extract_mk (l : List UInt8) (a b : Nat) : (ByteArray.mk l.toArray).extract a b = ByteArray.mk ((l.take b).drop a).toArray := by
  apply ByteArray.ext
  rw [ByteArray.data_extract]
  apply Array.ext'
  simp [List.drop_take]
theorem qok_slcS {x : Operand} {lo hi : Option Operand} {v : V} (he : OpR ρ e r (opR (.slcS x lo hi))) (h : q_slcSV x lo hi e s = some v) : Yld P ρ r w (.slcS x lo hi) v := by
  unfold q_slcSV at h
  split at h <;> first | (cases h; done) | skip
  rename_i l hx
  have h1 := conc_s (he x (by simp [opR]) _ hx)
  simp only [Option.bind_eq_some_iff] at h
  obtain ⟨a, ha, b, hb, h⟩ := h
  cases hc : Nat.ble a b && Nat.ble b l.length with
  | false => simp [hc] at h
  | true =>
    simp only [hc, cond_true, Option.some.injEq] at h; subst h
    simp only [Bool.and_eq_true] at hc
    have c1 := Nat.le_of_ble_eq_true hc.1
    have c2 := Nat.le_of_ble_eq_true hc.2
    have hrun := run_boundsV (P := P) (isS := false) (mx := none) (fun z m => he z (by simp [opR, opt] at m ⊢; exact .inr m)) ha hb (.inl ⟨rfl, rfl⟩) (.inl rfl) c1 c2 (Nat.le_refl _) w
    have hsz : (ByteArray.mk l.toArray).size = l.length := by simp [ByteArray.size]
    refine ⟨_, by simp [conc]; rfl, ?_⟩
    simp only [Option.map_none] at hrun
    simp [rsem, vv, h1, hsz, hrun, extract_mk]
theorem qok_slcL {n : Nat} {x : Operand} {lo hi mx : Option Operand} {v : V} (he : OpR ρ e r (opR (.slcL n x lo hi mx))) (h : q_slcLV n x lo hi mx e s = some v) : Yld P ρ r w (.slcL n x lo hi mx) v := by
  unfold q_slcLV at h
  split at h <;> first | (cases h; done) | skip
  rename_i a len cap hx
  have h1 := he x (by simp [opR]) _ hx
  have he' : OpR ρ e r (opt lo ++ opt hi ++ opt mx) := fun z m => he z (by simp [opR] at m ⊢; exact .inr m)
  simp only [Option.bind_eq_some_iff] at h
  obtain ⟨l, hl, hh, hhi, h⟩ := h
  split at h
  · rename_i c
    cases hc : Nat.ble l hh && Nat.ble hh c with
    | false => simp [hc] at h
    | true =>
      simp only [hc, cond_true, Option.some.injEq] at h; subst h
      simp only [Bool.and_eq_true] at hc
      have c1 := Nat.le_of_ble_eq_true hc.1
      have c2 := Nat.le_of_ble_eq_true hc.2
      have hrun := run_boundsV (P := P) (isS := true) he' hl hhi (.inl ⟨rfl, rfl⟩) (.inl rfl) c1 c2 (Nat.le_refl c) w
      simp only [Option.map_none] at hrun
      cases a with
      | none =>
        obtain ⟨c', e1, hr1⟩ := conc_slnil h1
        cases e1
        refine ⟨_, by cases Nat.beq c l <;> simp [conc] <;> rfl, ?_⟩
        simp only [rsem, vv, hr1, Sem.run_bind, Option.map_none, hrun, Result.andThen_ok, Sem.run_pure]
        by_cases e : c = l <;> simp [e]
      | some q =>
        obtain ⟨b, o⟩ := q
        obtain ⟨id, a', c', i1, hr1, _, hk, _⟩ := conc_sl h1
        obtain ⟨rfl, rfl⟩ := hk c rfl
        simp only [rsem, vv, hr1, Sem.run_bind, Option.map_none, hrun, Result.andThen_ok, Sem.run_pure, Yld]
        rw [beq_eq]
        by_cases e : c' = l
        · simp [e, conc, i1]
        · simp [e, conc, i1, add_none]
  · rename_i j d o'
    cases hc : Nat.ble l hh && Nat.ble hh len with
    | false => simp [hc] at h
    | true =>
      simp only [hc, cond_true] at h
      simp only [Bool.and_eq_true] at hc
      have c1 := Nat.le_of_ble_eq_true hc.1
      have c2 := Nat.le_of_ble_eq_true hc.2
      cases a with
      | none => cases h
      | some q =>
        obtain ⟨b, o⟩ := q
        obtain ⟨id, a', c', i1, hr1, ha, _, hv⟩ := conc_sl h1
        obtain ⟨cc, j1, j2, j3, j4⟩ := hv j d o' rfl
        have hrun := run_boundsV (P := P) (isS := true) (cap := c') he' hl hhi (.inl ⟨rfl, rfl⟩) (.inl rfl) c1 (by omega) (Nat.le_refl c') w
        simp only [Option.map_none] at hrun
        simp only [rsem, vv, hr1, Sem.run_bind, Option.map_none, hrun, Result.andThen_ok, Sem.run_pure, Yld]
        simp only [beq_eq] at h
        by_cases e0 : l = 0
        · subst e0
          simp only [decide_true, cond_true, Option.some.injEq] at h; subst h
          simp only [conc, i1, j1, Option.bind_some]
          rw [if_pos (by omega)]
          refine ⟨_, rfl, ?_⟩
          subst j3 j4
          by_cases e : cc = d
          · simp [e]
          · have : ¬ cc - d = 0 := by omega
            simp [e, this, Addr.add]
        · simp only [e0, decide_false, cond_false] at h
          by_cases e1 : l = len
          · subst e1
            simp only [decide_true, cond_true, Option.some.injEq] at h; subst h
            have hlh : hh = l := by omega
            subst hlh
            simp only [conc, i1, j1, Option.bind_some]
            rw [if_pos (by omega)]
            refine ⟨_, rfl, ?_⟩
            have ha' := ha (by omega)
            subst ha'
            subst j3
            by_cases e : cc = d + hh
            · have e2 : cc - d = hh := by omega
              simp [e, e2]
            · have e2 : ¬ cc - d = hh := by omega
              have e3 : cc - d - hh = cc - (d + hh) := by omega
              simp [e, e2, add_none, e3]
          · simp only [e1, decide_false, cond_false, Option.some.injEq] at h; subst h
            simp only [conc, i1, j1, Option.bind_some]
            rw [if_pos (by omega)]
            refine ⟨_, rfl, ?_⟩
            have ha' := ha (by omega)
            subst ha'
            subst j3
            have e2 : ¬ cc - d = l := by omega
            have e3 : cc - d - l = cc - (d + l) := by omega
            simp [e2, add_none, e3]
  · rename_i xm
    simp only [Option.bind_eq_some_iff] at h
    obtain ⟨m, hm, h⟩ := h
    cases hc : (hi.isSome && Nat.ble l hh && Nat.ble hh m && capMx cap m len) with
    | false => simp [hc] at h
    | true =>
      simp only [hc, cond_true, Option.some.injEq] at h; subst h
      simp only [Bool.and_eq_true] at hc
      obtain ⟨⟨⟨c0, c1⟩, c2⟩, c3⟩ := hc
      have c1 := Nat.le_of_ble_eq_true c1
      have c2 := Nat.le_of_ble_eq_true c2
      have hi0 : hi ≠ none := by intro e; subst e; simp at c0
      cases a with
      | none =>
        obtain ⟨c', e1, hr1⟩ := conc_slnil h1
        subst e1
        simp only [capMx] at c3
        have c3 := Nat.le_of_ble_eq_true c3
        have hrun := run_boundsV (P := P) (isS := true) he' hl hhi (.inr ⟨by simp, hm⟩) (.inr hi0) c1 c2 c3 w
        refine ⟨_, by cases Nat.beq m l <;> simp [conc] <;> rfl, ?_⟩
        simp only [rsem, vv, hr1, Sem.run_bind, hrun, Result.andThen_ok, Sem.run_pure]
        by_cases e : m = l <;> simp [e]
      | some q =>
        obtain ⟨b, o⟩ := q
        obtain ⟨id, a', c', i1, hr1, ha, hk, hv⟩ := conc_sl h1
        have hmc : m ≤ c' ∧ a' = o := by
          cases cap with
          | k c =>
            obtain ⟨rfl, rfl⟩ := hk c rfl
            simp only [capMx] at c3
            exact ⟨Nat.le_of_ble_eq_true c3, rfl⟩
          | v j d o' =>
            obtain ⟨cc, j1, j2, j3, j4⟩ := hv j d o' rfl
            simp only [capMx, Bool.and_eq_true] at c3
            have c4 := Nat.le_of_ble_eq_true c3.1
            have c5 := c3.2
            rw [blt_eq] at c5
            simp at c5
            exact ⟨by omega, ha c5⟩
        obtain ⟨hmc, rfl⟩ := hmc
        have hrun := run_boundsV (P := P) (isS := true) he' hl hhi (.inr ⟨by simp, hm⟩) (.inr hi0) c1 c2 hmc w
        simp only [rsem, vv, hr1, Sem.run_bind, hrun, Result.andThen_ok, Sem.run_pure, Yld]
        rw [beq_eq]
        by_cases e : m = l
        · simp [e, conc, i1]
        · simp [e, conc, i1, add_none]
theorem qok_slcA {sz n : Nat} {x : Operand} {lo hi mx : Option Operand} {v : V} (he : OpR ρ e r (opR (.slcA sz n x lo hi mx))) (h : q_slcAV sz n x lo hi mx e s = some v) : Yld P ρ r w (.slcA sz n x lo hi mx) v := by
  unfold q_slcAV at h
  split at h <;> first | (cases h; done) | skip
  rename_i b o hx
  obtain ⟨id, i1, h1⟩ := conc_p (he x (by simp [opR]) _ hx)
  have he' : OpR ρ e r (opt lo ++ opt hi ++ opt mx) := fun z m => he z (by simp [opR] at m ⊢; exact .inr m)
  simp only [Option.bind_eq_some_iff] at h
  obtain ⟨l, hl, hh, hhi, m, hm, h⟩ := h
  cases hc : ((hi.isSome || mx.isNone) && Nat.ble l hh && Nat.ble hh m && Nat.ble m n) with
  | false => simp [hc] at h
  | true =>
    simp only [hc, cond_true, Option.some.injEq] at h; subst h
    simp only [Bool.and_eq_true] at hc
    obtain ⟨⟨⟨c0, c1⟩, c2⟩, c3⟩ := hc
    have c1 := Nat.le_of_ble_eq_true c1
    have c2 := Nat.le_of_ble_eq_true c2
    have c3 := Nat.le_of_ble_eq_true c3
    have hm' : mx = none ∧ m = n ∨ mx ≠ none ∧ bndV e mx 0 = some m := by
      cases mx with
      | none => simp [bndV] at hm; exact .inl ⟨rfl, hm.symm⟩
      | some z => exact .inr ⟨by simp, hm⟩
    have hmx : mx = none ∨ hi ≠ none := by
      cases mx with
      | none => exact .inl rfl
      | some z => right; intro e; subst e; simp at c0
    have hrun := run_boundsV (P := P) (isS := false) he' hl hhi hm' hmx c1 c2 c3 w
    simp only [rsem, vv, h1, Instr.sureAddr, pure_bind, Sem.run_bind, Sem.run_pure, hrun, Result.andThen_ok, Yld]
    rw [beq_eq]
    by_cases e : m = l
    · simp [e, conc, i1]
    · simp [e, conc, i1, add_none]
theorem qok_faddr {off : Nat} {x : Operand} {v : V} (he : OpR ρ e r (opR (.faddr off x))) (h : q_faddrV off x e s = some v) : Yld P ρ r w (.faddr off x) v := by
  unfold q_faddrV at h
  split at h <;> first | (cases h; done) | skip
  rename_i b o hx
  obtain ⟨id, i1, h1⟩ := conc_p (he x (by simp [opR]) _ hx)
  simp only [Option.some.injEq] at h; subst h
  exact ⟨_, by simp [conc, i1]; rfl, by simp [rsem, vv, h1, Instr.sureAddr, add_none]⟩
theorem qok_fld1 {off : Nat} {x : Operand} {v : V} (he : OpR ρ e r (opR (.fld1 off x))) (h : q_fld1V off x e s = some v) : Yld P ρ r w (.fld1 off x) v := by
  unfold q_fld1V at h
  split at h <;> first | (cases h; done) | skip
  rename_i l hx
  obtain ⟨us, i1, h1⟩ := conc_ag (he x (by simp [opR]) _ hx)
  obtain ⟨u, n1, n2⟩ := nthV_ok i1 h
  exact ⟨u, n2, by simp [rsem, vv, h1, asAgg, n1]⟩
theorem qok_fldN {off n : Nat} {x : Operand} {v : V} (he : OpR ρ e r (opR (.fldN off n x))) (h : q_fldNV off n x e s = some v) : Yld P ρ r w (.fldN off n x) v := by
  unfold q_fldNV at h
  split at h <;> first | (cases h; done) | skip
  rename_i l hx
  simp only [Option.bind_eq_some_iff, Option.some.injEq] at h
  obtain ⟨q, h2, rfl⟩ := h
  obtain ⟨us, i1, h1⟩ := conc_ag (he x (by simp [opR]) _ hx)
  obtain ⟨ws, n1, n2⟩ := partV_ok i1 h2
  obtain ⟨m1, m2⟩ := partL_eq _ _ _ _ n1
  refine ⟨.agg ws.toArray, by simp [conc, n2], ?_⟩
  simp [rsem, vv, h1, asAgg]
  first | exact m1.symm | (apply Array.ext'; simp [m1, List.drop_take])
theorem qok_ixS {n : Nat} {x i : Operand} {v : V} (he : OpR ρ e r (opR (.ixS n x i))) (h : q_ixSV n x i e s = some v) : Yld P ρ r w (.ixS n x i) v := by
  unfold q_ixSV at h
  split at h <;> first | (cases h; done) | skip
  rename_i b o len cap k j hx hi
  obtain ⟨id, a, c, i1, h1, ha, _⟩ := conc_sl (he x (by simp [opR]) _ hx)
  have h2 := conc_i (he i (by simp [opR]) _ hi)
  rw [blt_eq] at h
  by_cases hlt : j < len
  · simp only [hlt, decide_true, cond_true, Option.some.injEq] at h; subst h
    have := ha (by omega)
    subst this
    have e1 : (j : Int) < (len : Int) := by omega
    refine ⟨_, by simp [conc, i1]; rfl, ?_⟩
    simp [rsem, vv, h1, h2, asIntOf, e1, add_none]
  · simp [hlt] at h
theorem qok_ixA {n len : Nat} {x i : Operand} {v : V} (he : OpR ρ e r (opR (.ixA n len x i))) (h : q_ixAV n len x i e s = some v) : Yld P ρ r w (.ixA n len x i) v := by
  unfold q_ixAV at h
  split at h <;> first | (cases h; done) | skip
  rename_i b o k j hx hi
  obtain ⟨id, i1, h1⟩ := conc_p (he x (by simp [opR]) _ hx)
  have h2 := conc_i (he i (by simp [opR]) _ hi)
  rw [blt_eq] at h
  by_cases hlt : j < len
  · simp only [hlt, decide_true, cond_true, Option.some.injEq] at h; subst h
    have e1 : (j : Int) < (len : Int) := by omega
    refine ⟨_, by simp [conc, i1]; rfl, ?_⟩
    simp [rsem, vv, h1, h2, asIntOf, e1, add_none, Instr.sureAddr]
  · simp [hlt] at h
theorem qok_ixAg {n len : Nat} {x i : Operand} {v : V} (he : OpR ρ e r (opR (.ixAg n len x i))) (h : q_ixAgV n len x i e s = some v) : Yld P ρ r w (.ixAg n len x i) v := by
  unfold q_ixAgV at h
  split at h <;> first | (cases h; done) | skip
  rename_i l k j hx hi
  obtain ⟨us, i1, h1⟩ := conc_ag (he x (by simp [opR]) _ hx)
  have h2 := conc_i (he i (by simp [opR]) _ hi)
  rw [blt_eq] at h
  by_cases hlt : j < len
  · simp only [hlt, decide_true, cond_true] at h
    obtain ⟨u, n1, n2⟩ := nthV_ok i1 h
    have e1 : (j : Int) < (len : Int) := by omega
    exact ⟨u, n2, by simp [rsem, vv, h1, h2, asIntOf, e1, n1]⟩
  · simp [hlt] at h
theorem qok_ixStr {x i : Operand} {v : V} (he : OpR ρ e r (opR (.ixStr x i))) (h : q_ixStrV x i e s = some v) : Yld P ρ r w (.ixStr x i) v := by
  unfold q_ixStrV at h
  split at h <;> first | (cases h; done) | skip
  rename_i l k j hx hi
  have h1 := conc_s (he x (by simp [opR]) _ hx)
  have h2 := conc_i (he i (by simp [opR]) _ hi)
  simp only [Option.bind_eq_some_iff, Option.some.injEq] at h
  obtain ⟨c, hc, rfl⟩ := h
  rw [nthV_eq] at hc
  have hlt := (List.getElem?_eq_some_iff.1 hc).1
  have e1 : (ByteArray.mk l.toArray)[j]? = some c := by
    rw [ByteArray.getElem?_lt' _ _ (by simpa [ByteArray.size] using hlt)]
    have := (List.getElem?_eq_some_iff.1 hc).2
    simp [ByteArray.getElem_eq_getElem_data, this]
  exact ⟨_, by simp [conc]; rfl, by simp [rsem, vv, h1, h2, asIntOf, e1]⟩
theorem qok_extr {i : Nat} {x : Operand} {v : V} (he : OpR ρ e r (opR (.extr x i))) (h : q_extrV x i e s = some v) : Yld P ρ r w (.extr x i) v := by
  unfold q_extrV at h
  split at h <;> first | (cases h; done) | skip
  rename_i l hx
  obtain ⟨us, i1, h1⟩ := conc_tp (he x (by simp [opR]) _ hx)
  obtain ⟨u, n1, n2⟩ := nthV_ok i1 h
  exact ⟨u, n2, by simp [rsem, vv, h1, Instr.extract, n1]⟩
theorem qok_lenS {x : Operand} {v : V} (he : OpR ρ e r (opR (.lenS x))) (h : q_lenSV x e s = some v) : Yld P ρ r w (.lenS x) v := by
  unfold q_lenSV at h
  split at h <;> first | (cases h; done) | skip
  rename_i a n cap hx
  have h1 := he x (by simp [opR]) _ hx
  simp only [Option.some.injEq] at h; subst h
  refine ⟨_, by simp [conc]; rfl, ?_⟩
  cases a with
  | none => obtain ⟨c, _, h1⟩ := conc_slnil h1; simp [rsem, vv, h1, goInt]
  | some q => obtain ⟨b, o⟩ := q; obtain ⟨id, a, c, _, h1, _⟩ := conc_sl h1; simp [rsem, vv, h1, goInt]
theorem qok_lenT {x : Operand} {v : V} (he : OpR ρ e r (opR (.lenT x))) (h : q_lenTV x e s = some v) : Yld P ρ r w (.lenT x) v := by
  unfold q_lenTV at h
  split at h <;> first | (cases h; done) | skip
  rename_i l hx
  have h1 := conc_s (he x (by simp [opR]) _ hx)
  simp only [Option.some.injEq] at h; subst h
  exact ⟨_, by simp [conc]; rfl, by simp [rsem, vv, h1, goInt, ByteArray.size]⟩
theorem qok_lenM (hh : HR D P ρ s F L) (hs : Sat w F (L :: T)) {x : Operand} {v : V} (he : OpR ρ e r (opR (.lenM x))) (h : q_lenMV x e s = some v) : Yld P ρ r w (.lenM x) v := by
  unfold q_lenMV at h
  split at h <;> first | (cases h; done) | skip
  · rename_i hx
    have h1 := he x (by simp [opR]) _ hx
    simp only [conc, Option.some.injEq] at h1 h; subst h
    exact ⟨_, by simp [conc]; rfl, by simp [rsem, vv, ← h1, goInt]⟩
  · rename_i b hx
    obtain ⟨id, i1, h1⟩ := conc_m (he x (by simp [opR]) _ hx)
    split at h <;> first | (cases h; done) | skip
    rename_i l ck hg
    obtain ⟨id', o, j1, ⟨rfl, rfl⟩, j3, _⟩ := hh.at_ hs hg
    rw [i1] at j1; cases j1
    simp only [Option.some.injEq] at h; subst h
    exact ⟨_, by simp [conc]; rfl, by simp [rsem, vv, h1, goInt, getObj, Sem.run, j3]⟩
theorem qok_capS {x : Operand} {v : V} (he : OpR ρ e r (opR (.capS x))) (h : q_capSV x e s = some v) : Yld P ρ r w (.capS x) v := by
  unfold q_capSV at h
  split at h <;> first | (cases h; done) | skip
  rename_i a n c hx
  have h1 := he x (by simp [opR]) _ hx
  simp only [Option.some.injEq] at h; subst h
  refine ⟨_, by simp [conc]; rfl, ?_⟩
  cases a with
  | none => obtain ⟨c, e, h1⟩ := conc_slnil h1; cases e; simp [rsem, vv, h1, goInt]
  | some q => obtain ⟨b, o⟩ := q; obtain ⟨id, a, c', _, hr1, _, hk, _⟩ := conc_sl h1; obtain ⟨_, rfl⟩ := hk c rfl; simp [rsem, vv, hr1, goInt]
theorem qok_tass {x : Operand} {xt a : TypeId} {ok : Bool} {v : V} (he : OpR ρ e r (opR (.tass x xt a ok))) (h : q_tassV x a ok e s = some v) : Yld P ρ r w (.tass x xt a ok) v := by
  unfold q_tassV at h
  split at h <;> first | (cases h; done) | skip
  rename_i t u hx
  obtain ⟨q, i1, h1⟩ := conc_fc (he x (by simp [opR]) _ hx)
  split at h <;> first | (cases h; done) | skip
  · rename_i hb
    have := Nat.eq_of_beq_eq_true hb
    subst this
    simp only [Option.some.injEq] at h; subst h
    exact ⟨_, by simp [conc, concL, i1]; rfl, by simp [rsem, vv, h1]⟩
  · rename_i hb
    have := Nat.eq_of_beq_eq_true hb
    subst this
    simp only [Option.some.injEq] at h; subst h
    exact ⟨_, i1, by simp [rsem, vv, h1]⟩

/-- THE LAW of what only computes or reads. -/
theorem qok {hb : Nat → Bool} {xf : Nat → Option Xf} {me : Nat → String → Option Nat} {op : ROp} {q : VE → St → Option V} (ha : actV hb xf me op = .q q) (hh : HR D P ρ s F L) (hs : Sat w F (L :: T)) {v : V} (he : OpR ρ e r (opR op)) (h : q e s = some v) : Yld P ρ r w op v := by
  cases op <;> simp only [actV, Act'.q.injEq, reduceCtorEq] at ha <;> subst ha
  case mov x => exact ⟨_, he x (by simp [opR]) _ h, by simp [rsem]⟩
  case pick => exact qok_pick he h
  case build => exact qok_build he h
  case buildA => exact qok_buildA he h
  case load1 => exact qok_load1 hh hs he h
  case loadN => exact qok_loadN hh hs he h
  case nilck => exact qok_nilck he h
  case bin => exact qok_bin he h
  case eqB => exact qok_eqB he h
  case eqP => exact qok_eqP he h
  case eqF => exact qok_eqF he h
  case eqS => exact qok_eqS he h
  case eqM => exact qok_eqM he h
  case eqI => exact qok_eqI he h
  case un => exact qok_un he h
  case cvInt => exact qok_cvInt he h
  case cvB2S => exact qok_cvB2S hh hs he h
  case cvId => exact qok_cvId he h
  case cvUP => exact qok_cvUP hh hs he h
  case mkIf => exact qok_mkIf he h
  case mkFn => exact qok_mkFn he h
  case slcS => exact qok_slcS he h
  case slcL => exact qok_slcL he h
  case slcA => exact qok_slcA he h
  case faddr => exact qok_faddr he h
  case fld1 => exact qok_fld1 he h
  case fldN => exact qok_fldN he h
  case ixS => exact qok_ixS he h
  case ixA => exact qok_ixA he h
  case ixAg => exact qok_ixAg he h
  case ixStr => exact qok_ixStr he h
  case extr => exact qok_extr he h
  case lenS => exact qok_lenS he h
  case lenT => exact qok_lenT he h
  case lenC n => simp only [q_lenCV, Option.some.injEq] at h; subst h; exact ⟨_, by simp [conc]; rfl, by simp [rsem, vv, goInt]⟩
  case lenM => exact qok_lenM hh hs he h
  case capS => exact qok_capS he h
  case tass => exact qok_tass he h
end
end Go.Lx
