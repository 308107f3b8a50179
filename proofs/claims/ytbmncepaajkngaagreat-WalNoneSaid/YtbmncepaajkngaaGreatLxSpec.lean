/- Operations that the first table leaves: comparisons of interface values with nil, an array's part, make behind append, addresses without a type. -/
import Derived.Test.YtbmncepaajkngaaGreatLxRes
namespace Go.Lx
set_option linter.unusedSimpArgs false
set_option linter.unusedVariables false

theorem eq_ifc {P : Program} {t : TypeId} {ms : Array (String × TypeId)} (hu : und P t = some (.interface ms)) (w : World) : (Op.equal t .nilIface .nilIface).run P w = .ok true w := by
  have h : ∀ d, (Op.equalIn (d + 1) t .nilIface .nilIface).run P w = .ok true w := fun d => by simp [Op.equalIn, run_und w hu]
  exact h 9999
theorem eq_ifc1 {P : Program} {t : TypeId} {ms : Array (String × TypeId)} (hu : und P t = some (.interface ms)) (a : TypeId) (v : Value) (w : World) : (Op.equal t .nilIface (.iface a v)).run P w = .ok false w := by
  have h : ∀ d, (Op.equalIn (d + 1) t .nilIface (.iface a v)).run P w = .ok false w := fun d => by simp [Op.equalIn, run_und w hu]
  exact h 9999
theorem eq_ifc2 {P : Program} {t : TypeId} {ms : Array (String × TypeId)} (hu : und P t = some (.interface ms)) (a : TypeId) (v : Value) (w : World) : (Op.equal t (.iface a v) .nilIface).run P w = .ok false w := by
  have h : ∀ d, (Op.equalIn (d + 1) t (.iface a v) .nilIface).run P w = .ok false w := fun d => by simp [Op.equalIn, run_und w hu]
  exact h 9999

theorem cst_of {x : Operand} (h : cst x = true) : ∃ c, x = .const c := by cases x <;> simp [cst] at h; exact ⟨_, rfl⟩

theorem spec_eqI {P : Program} {o : Oper} {neg : Bool} {t yt : TypeId} {x y : Operand} {ms : Array (String × TypeId)} (ho : o.op = .binOp (if neg then .neq else .eql) t x y yt) (hu : und P t = some (.interface ms)) (hc : (cst x || cst y) = true)
    (ρ : Operand → Value) (w : World) (g : Good ((rsem P ρ (.eqI neg x y)).run P w)) : (execOp ρ o).run P w = (rsem P ρ (.eqI neg x y)).run P w := by
  have hg : ∀ (op : BinOp), (eqGuard op t x y .nilIface .nilIface).run P w = .ok () w := by
    intro op
    simp only [Bool.or_eq_true] at hc
    rcases hc with h | h <;> obtain ⟨c, rfl⟩ := cst_of h <;> cases op <;> simp [eqGuard]
  cases hx : ρ x <;> first | (simp [rsem, vv, hx, stuck, Good] at g; done) | skip
  all_goals
    cases hy : ρ y <;> first | (simp [rsem, vv, hx, hy, stuck, Good] at g; done) | skip
  case nilIface.nilIface =>
    cases neg <;> simp only [Bool.false_eq_true, if_false, if_true] at ho <;> simp [execOp, ho, rsem, vv, hx, hy, hg, binOp, eq_ifc hu]
  all_goals
    cases neg <;> simp only [Bool.false_eq_true, if_false, if_true] at ho <;> simp [execOp, ho, rsem, vv, hx, hy, eqGuard, binOp, eq_ifc hu, eq_ifc1 hu, eq_ifc2 hu]

theorem spec_cvUP {P : Program} {s d t n : Nat} (hs : und P s = some (.pointer t)) (hd : und P d = some .unsafePointer) (hn : siz P t = some (n + 1)) (ρ : Operand → Value) (x : Operand) (w : World)
    (g : Good ((rsem P ρ (.cvUP x)).run P w)) : (vv (convert s d (ρ x))).run P w = (rsem P ρ (.cvUP x)).run P w := by
  cases hx : ρ x <;> first | (simp [rsem, vv, hx, stuck, Good] at g; done) | skip
  rename_i a
  cases a with
  | none => simp [rsem, vv, hx, convert, run_und w hs, run_und w hd, Conv.unsafePointer]
  | some a =>
    simp only [rsem, vv, hx, Sem.run_bind] at g ⊢
    have hsh : (shape a.block).run P w = .ok (w.shape? a.block) w := rfl
    cases he : w.shape? a.block with
    | none => simp [hsh, he, stuck, Good] at g
    | some p =>
      obtain ⟨e, m⟩ := p
      by_cases hc : a.off < m ∧ a.spot = none
      · have h1 : ¬ (m ≤ a.off) := by omega
        simp [hsh, he, hc, convert, run_und w hs, run_und w hd, Conv.unsafePointer, Conv.seenAt, viewAt, cellsIn, run_siz w hn, h1]
      · simp [hsh, he, hc, stuck, Good] at g

theorem spec_appZ {P : Program} {ats : Array TypeId} {ty t u e : TypeId} {k : IntKind} {n b : Nat} {z : Value} (h0 : ats[0]? = some t) (h1 : ats[1]? = some u) (ht : und P t = some (.slice e))
    (hn : siz P e = some n) (hb : byt P e = some b) (hz : zer P e = some z) (hu : und P u = some (.int k)) (x y : Value) (w : World) (ρ : Operand → Value) (ox oy : Operand) (hx : ρ ox = x) (hy : ρ oy = y)
    (g : Good ((rsem P ρ (.appZ e n b z ox oy)).run P w)) : (vv (Builtin.append_ ats ty #[x, y])).run P w = (rsem P ρ (.appZ e n b z ox oy)).run P w := by
  obtain ⟨ti, hti, htb⟩ := info_byt hb
  subst htb
  have hti' := fun w' => run_ti (P := P) w' hti
  cases x with
  | slice base sLen sCap =>
    cases y with
    | int ky l =>
      simp only [rsem, hx, hy, vv] at g ⊢
      by_cases hc : 0 ≤ l ∧ l ≤ 70368744177664 ∧ l * ti.bytes ≤ 70368744177664 ∧ ti.bytes ≠ 0 ∧ n ≠ 0 ∧ sLen ≤ 70368744177664
      · obtain ⟨c1, c2, c3, c4, c5, c6⟩ := hc
        have hw : IntKind.i64.wrap l = l := wrap64_in _ (by omega) (by omega)
        have d1 : ¬ l < 0 := by omega
        have d2 : ¬ l * (ti.bytes : Int) > 2 ^ 48 := by omega
        unfold Builtin.append_
        have hq : ¬ ¬ (0 ≤ l ∧ l ≤ 70368744177664 ∧ l * (ti.bytes : Int) ≤ 70368744177664 ∧ ti.bytes ≠ 0 ∧ n ≠ 0 ∧ sLen ≤ 70368744177664) := fun hh => hh ⟨c1, c2, c3, c4, c5, c6⟩
        simp only [hq, if_false] at g ⊢
        simp only [h0, h1, List.getElem?_toArray, List.getElem?_cons_zero, List.getElem?_cons_succ, Sem.run_bind, run_und w ht, run_und w hu, run_siz w hn, Result.andThen_ok, Sem.run_pure, if_true, asInt, asIntOf, hw, hti', d1, d2, if_false, Bool.not_true, Bool.false_eq_true] at g ⊢
        by_cases hle : sLen + l.toNat ≤ sCap
        · simp only [hle, if_true, Sem.run_bind] at g ⊢
          by_cases hm : l.toNat * n = 0
          · simp only [hm, if_true, Sem.run_pure, Result.andThen_ok]
            cases base <;> rfl
          · simp only [hm, if_false, Sem.run_bind, run_zer _ hz, Sem.run_pure, Result.andThen_ok]
            cases base <;> rfl
        · simp only [hle, if_false] at g ⊢
          by_cases hcc : Builtin.nextslicecap (sLen + l.toNat) sCap * ti.bytes > 2 ^ 48
          · simp [hcc, stuck, Good] at g
          · have e1 : ¬ ((sLen + l.toNat : Nat) : Int) > IntKind.i64.max := by
              have : IntKind.i64.max = 9223372036854775807 := by rfl
              omega
            simp only [Sem.run_bind, hti', Result.andThen_ok, e1, false_and, if_false, hcc, run_zer _ hz]
            have hgo : ∀ (w1 : World) (a : Nat), ((askRoom a).run P w1) = .ok () w1 := fun w1 a => by unfold askRoom; split <;> rfl
            cases hch : (choose (.appendCap (sLen + l.toNat) sCap e)).run P w with
            | halt hh w1 => simp [hch]
            | ok nc w1 =>
              simp only [hch, Result.andThen_ok, hgo, Sem.run_bind]
              cases hf : (Builtin.firstCells n sLen (.slice base sLen sCap)).run P w1 with
              | halt hh w2 => simp [hf]
              | ok old w2 =>
                simp only [hf, Result.andThen_ok, Sem.run_bind]
                by_cases hm : l.toNat * n = 0
                · simp only [hm, if_true, Sem.run_pure, Result.andThen_ok, run_zer _ hz]
                · simp only [hm, if_false, Sem.run_bind, run_zer _ hz, Sem.run_pure, Result.andThen_ok]
      · simp [hc, stuck, Good] at g
    | _ => simp [rsem, hx, hy, vv, stuck, Good] at g
  | _ => simp [rsem, hx, hy, vv, stuck, Good] at g

theorem spec_ok {P : Program} {o : Oper} {r : ROp} (h : special P o = some r) (ρ : Operand → Value) (w : World)
    (g : Good ((rsem P ρ r).run P w)) : (execOp ρ o).run P w = (rsem P ρ r).run P w := by
  unfold special at h
  split at h
  · rename_i op t x y yt ho
    split at h
    · rename_i ms hu
      split at h
      · rename_i hc; simp at h; subst h; exact spec_eqI (neg := false) ho hu hc ρ w g
      · rename_i hc; simp at h; subst h; exact spec_eqI (neg := true) ho hu hc ρ w g
      · cases h
    · cases h
  · rename_i t x i ho
    split at h
    · rename_i l e hu
      split at h
      · rename_i n ha hn
        simp at h; subst h
        cases hi : (asIntOf (ρ i)).run P w with
        | halt hh w' => simp [execOp, ho, rsem, vv, Instr.index, hi]
        | ok ki w' =>
          obtain ⟨k, iv⟩ := ki
          have hw' : w' = w := by cases hv : ρ i <;> simp [hv, asIntOf, stuck] at hi <;> first | exact hi.2.symm | (rename_i q; cases q <;> simp [asIntOf, stuck, unsupported] at hi)
          subst hw'
          cases hx : ρ x <;> first | (simp [rsem, vv, hx, hi, stuck, Good] at g; done) | skip
          rename_i cs
          by_cases hr : 0 ≤ iv ∧ iv < l
          · simp [execOp, ho, rsem, vv, Instr.index, hi, hx, run_und w' hu, hr, run_siz w' hn, part, run_isagg w' ha]
            cases cs[iv.toNat * n]? <;> simp
          · simp [rsem, vv, hx, hi, hr, stuck, Good] at g
      · cases h
    · cases h
  · rename_i s d x ho
    split at h
    · rename_i t hs hd
      split at h
      · rename_i n hn
        simp at h; subst h
        have hex : execOp ρ o = vv (convert s d (ρ x)) := by simp [execOp, ho]; rfl
        rw [hex]
        exact spec_cvUP hs hd hn ρ x w g
      · cases h
    · cases h
  · rename_i c ho
    split at h
    · rename_i hcal
      split at h
      · rename_i t u x y h0 h1 hl
        split at h
        · rename_i e k ht hu
          split at h
          · rename_i n b z hn hb hz
            simp at h; subst h
            have hex : execOp ρ o = builtin .append c.argTypes o.type (c.args.map cst) (c.args.toList.map ρ).toArray := by
              simp only [execOp, ho, resolve, hcal, invoke, pure_bind, map_toList]
              rfl
            rw [hex, hl]
            exact spec_appZ h0 h1 ht hn hb hz hu (ρ x) (ρ y) w ρ x y rfl rfl g
          · cases h
        · cases h
      · cases h
    · cases h
  · cases h

/-- What is not looked up stays as it is. -/
def resolveX (P : Program) (o : Oper) : Option ROp := match special P o with
  | some r => some r
  | none => match resolveOp P o with | some r => some r | none => some (.raw o.op o.type)
theorem resX_ok {P : Program} {o : Oper} {r : ROp} (h : resolveX P o = some r) (ρ : Operand → Value) (hρ : ∀ f, ρ (.func f) = .func (.func f) #[] #[]) (w : World)
    (g : Good ((rsem P ρ r).run P w)) : (execOp ρ o).run P w = (rsem P ρ r).run P w := by
  unfold resolveX at h
  cases hs : special P o with
  | some r' => simp [hs] at h; subst h; exact spec_ok hs ρ w g
  | none =>
    simp only [hs] at h
    cases hr : resolveOp P o with
    | some r' => simp [hr] at h; subst h; exact res_ok hr ρ hρ w g
    | none =>
      simp [hr] at h; subst h
      have hex : execOp ρ o = execOp ρ ⟨none, o.op, o.type, "", #[], none⟩ := by cases o; rfl
      rw [hex]; rfl
end Go.Lx
