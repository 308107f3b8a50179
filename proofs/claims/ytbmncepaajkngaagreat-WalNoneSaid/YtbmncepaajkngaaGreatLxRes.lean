/- An operation whose types were looked up does what the machine's own does. -/
import Derived.Test.YtbmncepaajkngaaGreatLxOp
import Derived.Laws.BitsLemmas
namespace Go.Lx
set_option linter.unusedSimpArgs false
set_option linter.unusedVariables false

theorem wrap64_in (n : Int) (h : -9223372036854775808 ≤ n) (k : n < 9223372036854775808) : IntKind.i64.wrap n = n := by rw [IntKind.wrap_i64]; omega

def Good {α : Type} : Result α → Prop
  | .ok _ _ => True
  | .halt (.panic _) _ => True
  | _ => False

section
variable {P : Program} {t : TypeId} (w : World)
theorem run_und {d : TypeDesc} (h : und P t = some d) : (underlying t).run P w = .ok d w := run_underlying h w
theorem run_siz {n : Nat} (h : siz P t = some n) : (sizeOf t).run P w = .ok n w := by
  unfold siz at h
  cases hi : P.info? t with
  | none => simp [hi] at h
  | some i => simp [hi] at h; simp [sizeOf, typeInfo, hi, h]
theorem run_zer {v : Value} (h : zer P t = some v) : (zeroValue t).run P w = .ok v w := by
  unfold zer at h
  cases hi : P.info? t with
  | none => simp [hi] at h
  | some i => simp [hi] at h; simp [zeroValue, typeInfo, hi, h]
theorem run_byt {n : Nat} (h : byt P t = some n) : ∃ i, (typeInfo t).run P w = .ok i w ∧ i.bytes = n := by
  unfold byt at h
  cases hi : P.info? t with
  | none => simp [hi] at h
  | some i => simp [hi] at h; exact ⟨i, by simp [typeInfo, hi], h⟩
theorem run_ti {i : TypeInfo} (h : P.info? t = some i) : (typeInfo t).run P w = .ok i w := by simp [typeInfo, h]
theorem info_byt {n : Nat} (h : byt P t = some n) : ∃ i, P.info? t = some i ∧ i.bytes = n := by
  unfold byt at h
  cases hi : P.info? t with
  | none => simp [hi] at h
  | some i => simp [hi] at h; exact ⟨i, rfl, h⟩
theorem run_isagg {b : Bool} (h : isagg P t = some b) : (isAgg t).run P w = .ok b w := by
  unfold isagg at h
  cases hu : und P t with
  | none => simp [hu] at h
  | some d => simp [hu] at h; simp [isAgg, run_und w hu]; cases d <;> simp_all
end

theorem run_mapM_places {P : Program} (w : World) {g : Field → Sem (Nat × Nat)} (hg : ∀ (f : Field) (n : Nat), siz P f.type = some n → (g f).run P w = .ok (f.offset, n) w) :
    ∀ (fs : List Field) (pl : List (Nat × Nat)), placesOf P fs = some pl → (fs.mapM g).run P w = .ok pl w
  | [], pl, h => by simp [placesOf] at h; subst h; simp
  | f :: fs, pl, h => by
    simp only [placesOf] at h
    cases h1 : siz P f.type with
    | none => simp [h1] at h
    | some n =>
      cases h2 : placesOf P fs with
      | none => simp [h1, h2] at h
      | some r =>
        simp [h1, h2] at h; subst h
        simp [List.mapM_cons, hg f n h1, run_mapM_places w hg fs r h2]

theorem andThen_assoc {α β γ : Type} (r : Result α) (f : α → World → Result β) (g : β → World → Result γ) :
    (r.andThen f).andThen g = r.andThen fun a w => (f a w).andThen g := by cases r <;> rfl
theorem map_toList {α β : Type} (f : α → β) (a : Array α) : (a.toList.map f).toArray = a.map f := by
  apply Array.ext'; simp

theorem res_build {P : Program} {o : Oper} {r : ROp} (h : resolveOp P o = some r) {t : TypeId} {parts : Array (Nat × Operand)} (ho : o.op = .build t parts) (ρ : Operand → Value) (w : World)
    (g : Good ((rsem P ρ r).run P w)) : (execOp ρ o).run P w = (rsem P ρ r).run P w := by
  simp only [resolveOp, ho] at h
  cases hu : und P t with
  | none => simp [hu] at h
  | some d =>
    cases hz : zer P t with
    | none => cases d <;> simp [hu, hz] at h
    | some z =>
      cases d with
      | struct fs =>
        simp only [hu, hz] at h
        cases hp : placesOf P fs.toList with
        | none => simp [hp] at h
        | some pl =>
          simp [hp] at h; subst h
          have hm := run_mapM_places (P := P) w (g := fun f => (do pure (f.offset, ← sizeOf f.type) : Sem (Nat × Nat))) (fun f n hn => by simp [run_siz w hn]) fs.toList pl hp
          have hm' : (fs.mapM fun f => (do pure (f.offset, ← sizeOf f.type) : Sem (Nat × Nat))).run P w = .ok pl.toArray w := by
            rw [Array.mapM_eq_mapM_toList]
            simp only [Sem.run_map]
            rw [hm]; rfl
          simp only [execOp, ho, Instr.build, rsem, vv, Sem.run_bind, run_zer w hz, run_und w hu, Result.andThen_ok] at *
          rw [hm']
          simp
          cases Instr.fill (fun x => pl[x]?) z.cells (parts.toList.map fun x => (x.1, ρ x.2)) <;> simp [stuck]
      | array n e =>
        simp only [hu, hz] at h
        cases hn : siz P e with
        | none => simp [hn] at h
        | some m =>
          simp [hn] at h; subst h
          simp [execOp, ho, Instr.build, rsem, vv, run_zer w hz, run_und w hu, run_siz w hn]
          cases Instr.fill (fun i => some (i * m, m)) z.cells (parts.toList.map fun x => (x.1, ρ x.2)) <;> simp [stuck]
      | _ => simp [hu, hz] at h

section
variable {P : Program} {t : TypeId} (w : World)
theorem eq_bool (hu : und P t = some .bool) (a b : Bool) : (Op.equal t (.bool a) (.bool b)).run P w = .ok (a == b) w := by
  have h : ∀ d, (Op.equalIn (d + 1) t (.bool a) (.bool b)).run P w = .ok (a == b) w := fun d => by simp [Op.equalIn, run_und w hu]
  exact h 9999
theorem eq_ptr_nil {e : TypeId} (hu : und P t = some (.pointer e)) (b : Option Addr) : (Op.equal t (.pointer none) (.pointer b)).run P w = .ok b.isNone w := by
  have h : ∀ d, (Op.equalIn (d + 1) t (.pointer none) (.pointer b)).run P w = .ok b.isNone w := fun d => by simp [Op.equalIn, run_und w hu]
  exact h 9999
theorem eq_ptr_nil' {e : TypeId} (hu : und P t = some (.pointer e)) (a : Addr) : (Op.equal t (.pointer (some a)) (.pointer none)).run P w = .ok false w := by
  have h : ∀ d, (Op.equalIn (d + 1) t (.pointer (some a)) (.pointer none)).run P w = .ok false w := fun d => by simp [Op.equalIn, run_und w hu]
  exact h 9999
theorem eq_ptr {e n : Nat} (hu : und P t = some (.pointer e)) (hn : siz P e = some (n + 1)) (a b : Addr) : (Op.equal t (.pointer (some a)) (.pointer (some b))).run P w = (sameAddr a b).run P w := by
  have h : ∀ d, (Op.equalIn (d + 1) t (.pointer (some a)) (.pointer (some b))).run P w = (sameAddr a b).run P w := fun d => by simp [Op.equalIn, run_und w hu, run_siz w hn]
  exact h 9999
theorem eq_fn {a b : Array TypeId} {c : Bool} (hu : und P t = some (.func a b c)) : (Op.equal t .nilFunc .nilFunc).run P w = .ok true w := by
  have h : ∀ d, (Op.equalIn (d + 1) t .nilFunc .nilFunc).run P w = .ok true w := fun d => by simp [Op.equalIn, run_und w hu]
  exact h 9999
theorem eq_fn1 {a b : Array TypeId} {c : Bool} (hu : und P t = some (.func a b c)) (f : Fn) (x y : Array Value) : (Op.equal t .nilFunc (.func f x y)).run P w = .ok false w := by
  have h : ∀ d, (Op.equalIn (d + 1) t .nilFunc (.func f x y)).run P w = .ok false w := fun d => by simp [Op.equalIn, run_und w hu]
  exact h 9999
theorem eq_fn2 {a b : Array TypeId} {c : Bool} (hu : und P t = some (.func a b c)) (f : Fn) (x y : Array Value) : (Op.equal t (.func f x y) .nilFunc).run P w = .ok false w := by
  have h : ∀ d, (Op.equalIn (d + 1) t (.func f x y) .nilFunc).run P w = .ok false w := fun d => by simp [Op.equalIn, run_und w hu]
  exact h 9999
theorem eq_sl {e : TypeId} (hu : und P t = some (.slice e)) (n c n' c' : Nat) (b : Option Addr) : (Op.equal t (.slice none n c) (.slice b n' c')).run P w = .ok b.isNone w := by
  have h : ∀ d, (Op.equalIn (d + 1) t (.slice none n c) (.slice b n' c')).run P w = .ok b.isNone w := fun d => by simp [Op.equalIn, run_und w hu]
  exact h 9999
theorem eq_sl' {e : TypeId} (hu : und P t = some (.slice e)) (n c n' c' : Nat) (a : Addr) : (Op.equal t (.slice (some a) n c) (.slice none n' c')).run P w = .ok false w := by
  have h : ∀ d, (Op.equalIn (d + 1) t (.slice (some a) n c) (.slice none n' c')).run P w = .ok false w := fun d => by simp [Op.equalIn, run_und w hu]
  exact h 9999
theorem eq_mp {e f : TypeId} (hu : und P t = some (.map e f)) (b : Option Nat) : (Op.equal t (.map none) (.map b)).run P w = .ok b.isNone w := by
  have h : ∀ d, (Op.equalIn (d + 1) t (.map none) (.map b)).run P w = .ok b.isNone w := fun d => by simp [Op.equalIn, run_und w hu]
  exact h 9999
theorem eq_mp' {e f : TypeId} (hu : und P t = some (.map e f)) (a : Nat) : (Op.equal t (.map (some a)) (.map none)).run P w = .ok false w := by
  have h : ∀ d, (Op.equalIn (d + 1) t (.map (some a)) (.map none)).run P w = .ok false w := fun d => by simp [Op.equalIn, run_und w hu]
  exact h 9999
end

theorem res_bin {P : Program} {o : Oper} {r : ROp} (h : resolveOp P o = some r) {op : BinOp} {t yt : TypeId} {x y : Operand} (ho : o.op = .binOp op t x y yt) (ρ : Operand → Value) (w : World)
    (g : Good ((rsem P ρ r).run P w)) : (execOp ρ o).run P w = (rsem P ρ r).run P w := by
  simp only [resolveOp, ho] at h
  cases hu : und P t with
  | none => simp [hu] at h
  | some d =>
    cases d with
    | int k => simp [hu] at h; subst h; simp [execOp, ho, rsem, vv]
    | string => simp [hu] at h; subst h; simp [execOp, ho, rsem, vv]
    | bool =>
      cases op <;> simp [hu] at h <;> subst h <;> first | (simp [execOp, ho, rsem]; done) | skip
      all_goals
        cases hx : ρ x <;> first | (simp [rsem, vv, hx, stuck, Good] at g; done) | skip
        cases hy : ρ y <;> first | (simp [rsem, vv, hx, hy, stuck, Good] at g; done) | skip
        simp [execOp, ho, rsem, vv, hx, hy, eqGuard, binOp, eq_bool w hu]
    | pointer e =>
      cases hn : siz P e with
      | none => cases op <;> simp [hu, hn] at h <;> subst h <;> simp [execOp, ho, rsem]
      | some n =>
        cases n with
        | zero => cases op <;> simp [hu, hn] at h <;> subst h <;> simp [execOp, ho, rsem]
        | succ n =>
          cases op <;> simp [hu, hn] at h <;> subst h <;> first | (simp [execOp, ho, rsem]; done) | skip
          all_goals
            cases hx : ρ x <;> first | (simp [rsem, vv, hx, stuck, Good] at g; done) | skip
            rename_i a
            cases hy : ρ y <;> first | (cases a <;> simp [rsem, vv, hx, hy, stuck, Good] at g; done) | skip
            rename_i b
            cases a <;> cases b <;> simp [execOp, ho, rsem, vv, hx, hy, eqGuard, binOp, eq_ptr_nil w hu, eq_ptr_nil' w hu, eq_ptr w hu hn, andThen_assoc]
    | func a b c =>
      cases op <;> simp [hu] at h <;> subst h <;> first | (simp [execOp, ho, rsem]; done) | skip
      all_goals
        cases hx : ρ x <;> first | (simp [rsem, vv, hx, stuck, Good] at g; done) | skip
        all_goals
          cases hy : ρ y <;> first | (simp [rsem, vv, hx, hy, stuck, Good] at g; done) | skip
          all_goals simp [execOp, ho, rsem, vv, hx, hy, eqGuard, binOp, eq_fn w hu, eq_fn1 w hu, eq_fn2 w hu]
    | slice e =>
      cases op <;> simp [hu] at h <;> subst h <;> first | (simp [execOp, ho, rsem]; done) | skip
      all_goals
        cases hx : ρ x <;> first | (simp [rsem, vv, hx, stuck, Good] at g; done) | skip
        rename_i a n c
        cases hy : ρ y <;> first | (cases a <;> simp [rsem, vv, hx, hy, stuck, Good] at g; done) | skip
        rename_i b n' c'
        cases a <;> cases b <;> first | (simp [rsem, vv, hx, hy, stuck, Good] at g; done) | simp [execOp, ho, rsem, vv, hx, hy, eqGuard, binOp, eq_sl w hu, eq_sl' w hu]
    | map e f =>
      cases op <;> simp [hu] at h <;> subst h <;> first | (simp [execOp, ho, rsem]; done) | skip
      all_goals
        cases hx : ρ x <;> first | (simp [rsem, vv, hx, stuck, Good] at g; done) | skip
        rename_i a
        cases hy : ρ y <;> first | (cases a <;> simp [rsem, vv, hx, hy, stuck, Good] at g; done) | skip
        rename_i b
        cases a <;> cases b <;> first | (simp [rsem, vv, hx, hy, stuck, Good] at g; done) | simp [execOp, ho, rsem, vv, hx, hy, eqGuard, binOp, eq_mp w hu, eq_mp' w hu]
    | _ => cases op <;> simp [hu] at h <;> subst h <;> simp [execOp, ho, rsem]

set_option maxHeartbeats 1000000 in
/-- Whatever is no build. -/
theorem res_simple {P : Program} {o : Oper} {r : ROp} (h : resolveOp P o = some r) (ρ : Operand → Value) (w : World)
    (g : Good ((rsem P ρ r).run P w)) (hb : ∀ t ps, o.op ≠ .build t ps) (hc : ∀ c, o.op ≠ .call c) : (execOp ρ o).run P w = (rsem P ρ r).run P w := by
  simp only [resolveOp] at h
  cases hop : o.op with
  | build t ps => exact absurd hop (hb t ps)
  | call c => exact absurd hop (hc c)
  | move x => simp [hop] at h; subst h; simp [execOp, hop, rsem]
  | assign x => simp [hop] at h; subst h; simp [execOp, hop, rsem]
  | pick c a b => simp [hop] at h; subst h; simp [execOp, hop, rsem]
  | alloc e =>
    simp only [hop] at h
    cases hz : zer P e with
    | none => simp [hz] at h
    | some z => simp [hz] at h; subst h; simp [execOp, hop, rsem, Instr.alloc, run_zer w hz, vv]
  | box e x => simp [hop] at h; subst h; simp [execOp, hop, rsem, vv]
  | buildSlice t len parts =>
    simp only [hop] at h
    cases hu : und P t with
    | none => simp [hu] at h
    | some d =>
      cases d with
      | slice e =>
        simp only [hu] at h
        cases hn : siz P e with
        | none => simp [hn] at h
        | some n =>
          cases hz : zer P e with
          | none => simp [hn, hz] at h
          | some z =>
            simp only [hn, hz] at h
            split at h
            · rename_i hle
              simp only [Option.some.injEq] at h; subst h
              have h2 : ¬ (2 ^ 24 < len * n) := by omega
              have hzr : ((if len * n = 0 then pure #[] else do pure (← zeroValue e).cells : Sem (Array Value))).run P w = .ok (if len * n = 0 then #[] else z.cells) w := by
                split <;> simp [run_zer w hz]
              by_cases h0 : len * n = 0
              · simp [execOp, hop, rsem, Instr.buildSlice, vv, run_und w hu, run_siz w hn, h0]
                cases Instr.fill (fun i => some (i * n, n)) _ (parts.toList.map fun x => (x.1, ρ x.2)) <;> simp [stuck]
              · simp [execOp, hop, rsem, Instr.buildSlice, vv, run_und w hu, run_siz w hn, h0, run_zer w hz, h2]
                cases Instr.fill (fun i => some (i * n, n)) _ (parts.toList.map fun x => (x.1, ρ x.2)) <;> simp [stuck]
            · cases h
      | _ => simp [hu] at h
  | load t a =>
    simp only [hop] at h
    cases ha : isagg P t with
    | none => simp [ha] at h
    | some b =>
      cases hn : siz P t with
      | none => cases b <;> simp [ha, hn] at h
      | some n => cases b <;> simp [ha, hn] at h <;> subst h <;> cases hx : ρ a <;> simp [execOp, hop, rsem, vv, Instr.loadAt, Instr.sureAddr, loadVar, hx, stuck] <;> (rename_i q; cases q <;> simp [run_isagg w ha, run_siz w hn, andThen_assoc])
  | store t a x =>
    simp only [hop] at h
    cases hn : siz P t with
    | none => simp [hn] at h
    | some n =>
      simp [hn] at h; subst h
      cases hx : ρ a <;> simp [execOp, hop, rsem, uu, Instr.storeAt, Instr.sureAddr, storeVar, hx, stuck]
      rename_i q; cases q <;> simp [run_siz w hn]
  | nilCheck x => simp [hop] at h; subst h; simp [execOp, hop, rsem]
  | unOp op t x => simp [hop] at h; subst h; simp [execOp, hop, rsem, vv]
  | makeInterface t x =>
    simp only [hop] at h
    cases hu : und P t with
    | none => simp [hu] at h
    | some d => cases d <;> simp [hu] at h <;> subst h <;> simp [execOp, hop, rsem, vv, Instr.makeInterface, run_und w hu]
  | makeFunc fn first caps => simp [hop] at h; subst h; simp [execOp, hop, rsem, vv, Instr.makeFunc, map_toList]
  | makeMap t rsv => cases rsv <;> simp [hop] at h <;> subst h <;> simp [execOp, hop, rsem, vv, Instr.makeMap]
  | extract x i => simp [hop] at h; subst h; simp [execOp, hop, rsem, vv]
  | panic x => simp [hop] at h; subst h; simp [execOp, hop, rsem, vv]
  | defer c => simp [hop] at h; subst h; simp [execOp, hop, rsem]
  | binOp op t x y yt =>
    exact res_bin (by rw [resolveOp, hop]; rw [hop] at h; exact h) hop ρ w g
  | convert s d x =>
    simp only [hop] at h
    cases hs : und P s with
    | none => simp [hs] at h
    | some d1 =>
      cases hd : und P d with
      | none => cases d1 <;> simp [hs, hd] at h
      | some d2 =>
        cases d1 with
        | int k1 =>
          cases d2 <;> simp [hs, hd] at h
          subst h
          cases hx : ρ x <;> first | (simp [rsem, vv, hx, stuck, Good] at g; done) | simp [execOp, hop, rsem, vv, hx, convert, run_und w hs, run_und w hd]
        | string =>
          cases d2 with
          | string =>
            simp [hs, hd] at h; subst h
            cases hx : ρ x <;> first | (simp [rsem, vv, hx, stuck, Good] at g; done) | simp [execOp, hop, rsem, vv, hx, convert, run_und w hs, run_und w hd]
          | slice e =>
            simp only [hs, hd] at h
            split at h
            · rename_i he
              simp at h; subst h
              cases hx : ρ x <;> first | (simp [rsem, vv, hx, stuck, Good] at g; done) | simp [execOp, hop, rsem, vv, hx, convert, run_und w hs, run_und w hd, run_und w he]
            · cases h
          | _ => simp [hs, hd] at h
        | slice e =>
          cases d2 with
          | string =>
            simp only [hs, hd] at h
            split at h
            · rename_i he
              simp at h; subst h
              cases hx : ρ x <;> first | (simp [rsem, vv, hx, stuck, Good] at g; done) | simp [execOp, hop, rsem, vv, hx, convert, run_und w hs, run_und w hd, run_und w he]
            · cases h
          | slice e2 =>
            simp only [hs, hd] at h
            split at h
            · rename_i hsd he
              simp at h; subst h
              cases hx : ρ x <;> first | (simp [rsem, vv, hx, stuck, Good] at g; done) | skip
              rename_i a n c
              cases a <;> first | (simp [rsem, vv, hx, stuck, Good] at g; done) | simp [execOp, hop, rsem, vv, hx, convert, run_und w hs, run_und w hd, run_und w he, hsd, andThen_assoc]
            · cases h
          | _ => simp [hs, hd] at h
        | _ => cases d2 <;> simp [hs, hd] at h
  | makeSlice t l c =>
    simp only [hop] at h
    cases hu : und P t with
    | none => simp [hu] at h
    | some d =>
      cases d with
      | slice e =>
        simp only [hu] at h
        cases hn : siz P e with
        | none => simp [hn] at h
        | some n =>
          cases hb2 : byt P e with
          | none => simp [hn, hb2] at h
          | some b =>
            cases hz : zer P e with
            | none => simp [hn, hb2, hz] at h
            | some z =>
              simp [hn, hb2, hz] at h; subst h
              obtain ⟨ti, hti, htb⟩ := run_byt w hb2
              subst htb
              cases hl : ρ l <;> first | (simp [rsem, vv, hl, stuck, Good] at g; done) | skip
              rename_i kl len
              cases hcp : ρ c <;> first | (simp [rsem, vv, hl, hcp, stuck, Good] at g; done) | skip
              rename_i kc cap
              by_cases hr : 0 ≤ len ∧ len ≤ cap ∧ cap ≤ 1152921504606846976 ∧ ti.bytes * cap ≤ 140737488355328
              · have e1 : IntKind.i64.wrap len = len := wrap64_in _ (by omega) (by omega)
                have e2 : IntKind.i64.wrap cap = cap := wrap64_in _ (by omega) (by omega)
                have e3 : ¬ (cap < 0) := by omega
                have e4 : ¬ (len < 0) := by omega
                have e5 : ¬ (cap < len) := by omega
                have e6 : ¬ (281474976710656 < ↑ti.bytes * cap) := by omega
                have e7 : ¬ (roomBytes < cap.toNat * ti.bytes) := by
                  have : ((cap.toNat * ti.bytes : Nat) : Int) = ti.bytes * cap := by
                    rw [Int.natCast_mul, Int.toNat_of_nonneg (by omega), Int.mul_comm]
                  simp [roomBytes]; omega
                by_cases hm : cap.toNat * n = 0
                · simp [execOp, hop, rsem, Instr.makeSlice, vv, run_und w hu, hti, hl, hcp, asInt, asIntOf, e1, e2, e3, e4, e5, e6, e7, askRoom, run_siz w hn, hm, hr, andThen_assoc]
                · simp [execOp, hop, rsem, Instr.makeSlice, vv, run_und w hu, hti, hl, hcp, asInt, asIntOf, e1, e2, e3, e4, e5, e6, e7, askRoom, run_siz w hn, hm, hr, run_zer w hz, andThen_assoc]
              · simp [rsem, vv, hl, hcp, stuck, hr, Good] at g
      | _ => simp [hu] at h
  | slice t x lo hi mx =>
    simp only [hop] at h
    cases hu : und P t with
    | none => simp [hu] at h
    | some d =>
      cases d with
      | string =>
        simp only [hu] at h
        cases mx with
        | some m => simp at h
        | none =>
          simp at h; subst h
          cases hx : ρ x <;> simp [execOp, hop, rsem, vv, Instr.sliceAt, Instr.slice, run_und w hu, hx, stuck] <;> simp [rsem, vv, hx, stuck, Good] at g
          simp [andThen_assoc]
      | slice e =>
        simp only [hu] at h
        cases hn : siz P e with
        | none => simp [hn] at h
        | some n =>
          simp [hn] at h; subst h
          cases hx : ρ x <;> simp [execOp, hop, rsem, vv, Instr.sliceAt, Instr.slice, run_und w hu, hx, stuck] <;> simp [rsem, vv, hx, stuck, Good] at g
          simp [run_siz _ hn, andThen_assoc]
      | array n e =>
        simp only [hu] at h
        cases hn : siz P e with
        | none => simp [hn] at h
        | some s =>
          simp [hn] at h; subst h
          simp [execOp, hop, rsem, vv, Instr.sliceAt, run_und w hu, run_siz _ hn, andThen_assoc]
      | _ => simp [hu] at h
  | fieldAddr s x f =>
    simp only [hop] at h
    cases hu : und P s with
    | none => simp [hu] at h
    | some d =>
      cases d with
      | struct fs =>
        simp only [hu] at h
        cases hf : fs[f]? with
        | none => simp [hf] at h
        | some fd =>
          simp only [hf] at h
          cases hn : siz P fd.type with
          | none => simp [hn] at h
          | some n =>
            cases n with
            | zero => simp [hn] at h
            | succ n =>
              simp [hn] at h; subst h
              cases hx : ρ x <;> simp [execOp, hop, rsem, vv, Instr.fieldAt, run_und w hu, hf, Instr.sureAddr, hx, stuck] <;> simp [rsem, vv, hx, stuck, Good] at g
              rename_i q; cases q <;> simp [fieldPlace, run_siz w hn]
      | _ => simp [hu] at h
  | field t x f =>
    simp only [hop] at h
    cases hu : und P t with
    | none => simp [hu] at h
    | some d =>
      cases d with
      | struct fs =>
        simp only [hu] at h
        cases hf : fs[f]? with
        | none => simp [hf] at h
        | some fd =>
          simp only [hf] at h
          cases ha : isagg P fd.type with
          | none => simp [ha] at h
          | some b =>
            cases hn : siz P fd.type with
            | none => cases b <;> simp [ha, hn] at h
            | some n =>
              cases b <;> simp [ha, hn] at h <;> subst h <;> cases hx : ρ x <;> simp [execOp, hop, rsem, vv, Instr.field, run_und w hu, hf, asAgg, hx, stuck, part, run_isagg w ha, run_siz w hn] <;> simp [rsem, vv, hx, stuck, Good, asAgg] at g
              all_goals (rename_i cs; cases cs[fd.offset]? <;> simp)
      | _ => simp [hu] at h
  | indexAddr t x i =>
    simp only [hop] at h
    cases hu : und P t with
    | none => simp [hu] at h
    | some d =>
      cases d with
      | slice e =>
        simp only [hu] at h
        cases hn : siz P e with
        | none => simp [hn] at h
        | some n =>
          simp [hn] at h; subst h
          cases hi : (asIntOf (ρ i)).run P w with
          | halt hh w' => simp [execOp, hop, rsem, vv, Instr.indexAt, hi]
          | ok ki w' =>
            obtain ⟨k, iv⟩ := ki
            have hw' : w' = w := by cases hv : ρ i <;> simp [hv, asIntOf, stuck] at hi <;> first | exact hi.2.symm | (rename_i q; cases q <;> simp [asIntOf, stuck, unsupported] at hi)
            subst hw'
            cases hx : ρ x <;> first | (simp [rsem, vv, hx, hi, stuck, Good] at g; done) | skip
            rename_i a len cap
            cases a with
            | none => simp [execOp, hop, rsem, vv, Instr.indexAt, hi, hx, run_und w' hu]
            | some a => by_cases hr : 0 ≤ iv ∧ iv < len <;> simp [execOp, hop, rsem, vv, Instr.indexAt, hi, hx, run_und w' hu, run_siz w' hn, hr]
      | array l e =>
        simp only [hu] at h
        cases hn : siz P e with
        | none => simp [hn] at h
        | some n =>
          simp [hn] at h; subst h
          cases hi : (asIntOf (ρ i)).run P w with
          | halt hh w' => simp [execOp, hop, rsem, vv, Instr.indexAt, hi]
          | ok ki w' =>
            obtain ⟨k, iv⟩ := ki
            have hw' : w' = w := by cases hv : ρ i <;> simp [hv, asIntOf, stuck] at hi <;> first | exact hi.2.symm | (rename_i q; cases q <;> simp [asIntOf, stuck, unsupported] at hi)
            subst hw'
            cases hx : ρ x <;> first | (simp [rsem, vv, hx, hi, stuck, Good, Instr.sureAddr] at g; done) | skip
            rename_i a
            cases a with
            | none => simp [rsem, vv, hx, hi, stuck, Good, Instr.sureAddr] at g
            | some a => by_cases hr : 0 ≤ iv ∧ iv < l <;> by_cases hl : l ≤ 1 <;> simp [execOp, hop, rsem, vv, Instr.indexAt, hi, hx, run_und w' hu, run_siz w' hn, hr, hl, Instr.sureAddr, unsupported]
      | _ => simp [hu] at h
  | index t x i =>
    simp only [hop] at h
    cases hu : und P t with
    | none => simp [hu] at h
    | some d =>
      cases d with
      | string =>
        simp [hu] at h; subst h
        cases hi : (asIntOf (ρ i)).run P w with
        | halt hh w' => simp [execOp, hop, rsem, vv, Instr.index, hi]
        | ok ki w' =>
          obtain ⟨k, iv⟩ := ki
          have hw' : w' = w := by cases hv : ρ i <;> simp [hv, asIntOf, stuck] at hi <;> first | exact hi.2.symm | (rename_i q; cases q <;> simp [asIntOf, stuck, unsupported] at hi)
          subst hw'
          cases hx : ρ x <;> first | (simp [rsem, vv, hx, hi, stuck, Good] at g; done) | skip
          simp [execOp, hop, rsem, vv, Instr.index, hi, hx, run_und w' hu]
          split <;> simp_all
      | _ => simp [hu] at h; subst h; simp [execOp, hop, rsem]
  | typeAssert x xt a ok =>
    simp only [hop] at h
    cases hu : und P a with
    | none => simp [hu] at h
    | some d =>
      by_cases hd : ∃ ms, d = .interface ms
      · obtain ⟨ms, rfl⟩ := hd
        simp [hu] at h; subst h; simp [execOp, hop, rsem]
      · have h2 : r = .tass x xt a ok := by cases d <;> simp [hu] at h <;> first | exact h.symm | exact absurd ⟨_, rfl⟩ hd
        subst h2
        cases hx : ρ x <;> simp [execOp, hop, rsem, vv, hx]
        rename_i tt v
        by_cases e : tt = a
        · cases d <;> first | exact absurd ⟨_, rfl⟩ hd | (cases ok <;> simp [Instr.typeAssert, run_und w hu, e])
        · simp [e]
  | _ => simp [hop] at h <;> subst h <;> simp [execOp, hop, rsem]

theorem run_hasBody {P : Program} {f : FuncId} (h : hasBody P f = true) (args : Array Value) (w : World) : (callFunc f args).run P w = .ok (.enter f args) w := by
  unfold hasBody at h
  cases hf : P.funcs[f]? with
  | none => simp [hf] at h
  | some fn =>
    simp [hf] at h
    obtain ⟨c, hc⟩ := Option.isSome_iff_exists.1 h.1
    simp [callFunc, hf, h.2, hc]

theorem run_append {P : Program} {ats : Array TypeId} {ty t u e : TypeId} {d : TypeDesc} {n b : Nat} {z : Value} (h0 : ats[0]? = some t) (h1 : ats[1]? = some u) (ht : und P t = some (.slice e))
    (hn : siz P e = some n) (hb : byt P e = some b) (hz : zer P e = some z) (hu : und P u = some d) (hd : ∀ k, d ≠ .int k) (x y : Value) (w : World) (ρ : Operand → Value) (ox oy : Operand) (hx : ρ ox = x) (hy : ρ oy = y)
    (g : Good ((rsem P ρ (.app e n b z ox oy)).run P w)) : (vv (Builtin.append_ ats ty #[x, y])).run P w = (rsem P ρ (.app e n b z ox oy)).run P w := by
  obtain ⟨ti, hti, htb⟩ := info_byt hb
  subst htb
  have hti' := fun w' => run_ti (P := P) w' hti
  cases x with
  | slice base sLen sCap =>
    have hm : (match d with | .int _ => true | _ => false) = false := by cases d <;> simp; exact absurd rfl (hd _)
    simp only [rsem, hx, hy, vv] at g ⊢
    unfold Builtin.append_
    simp only [h0, h1, List.getElem?_toArray, List.getElem?_cons_zero, List.getElem?_cons_succ, Sem.run_bind, run_und w ht, run_und w hu, run_siz w hn, Result.andThen_ok, hm, Sem.run_pure, Bool.false_eq_true, if_false] at g ⊢
    cases hl : (Builtin.lenOf y).run P w with
    | halt hh w' => simp only [hl, Result.andThen_halt]
    | ok m w1 =>
      simp only [hl, Sem.run_bind, Result.andThen_ok, Bool.not_false, if_true] at g ⊢
      by_cases hle : sLen + m ≤ sCap
      · simp only [hle, if_true, Sem.run_bind] at g ⊢
        cases base <;> rfl
      · simp only [hle, if_false] at g ⊢
        by_cases hc : ti.bytes = 0 ∨ Builtin.nextslicecap (sLen + m) sCap * ti.bytes > 2 ^ 48
        · simp [hc, stuck, Good] at g
        · have c1 : ti.bytes ≠ 0 := fun e => hc (.inl e)
          have c2 : ¬ (Builtin.nextslicecap (sLen + m) sCap * ti.bytes > 2 ^ 48) := fun e => hc (.inr e)
          simp only [Sem.run_bind, hti', Result.andThen_ok, c1, c2, hc, false_or, or_false, and_false, if_false, run_zer _ hz]
  | _ => simp [rsem, hx, hy, vv, stuck, Good] at g

theorem res_call {P : Program} {o : Oper} {r : ROp} (h : resolveOp P o = some r) {c : Call} (ho : o.op = .call c) (ρ : Operand → Value) (hρ : ∀ f, ρ (.func f) = .func (.func f) #[] #[]) (w : World)
    (g : Good ((rsem P ρ r).run P w)) : (execOp ρ o).run P w = (rsem P ρ r).run P w := by
  simp only [resolveOp, ho] at h
  cases hcal : c.callee with
  | value x =>
    simp only [hcal] at h
    cases x with
    | func f =>
      by_cases hb : hasBody P f = true
      · simp [hb] at h; subst h
        simp [execOp, ho, resolve, hcal, hρ, Deferred.ofValue, invoke, rsem, run_hasBody hb, map_toList]
      · simp [hb] at h; subst h
        simp [execOp, ho, resolve, hcal, hρ, Deferred.ofValue, invoke, rsem, map_toList]
    | _ => simp at h; subst h; simp [execOp, ho, resolve, hcal, rsem, map_toList]
  | invoke x name =>
    simp only [hcal] at h
    simp at h; subst h
    have e1 : (#[ρ x] ++ Array.map ρ c.args)[0]? = some (ρ x) := by simp [Array.getElem?_append]
    have e2 : (#[ρ x] ++ Array.map ρ c.args).extract 1 (#[ρ x] ++ Array.map ρ c.args).size = Array.map ρ c.args := by
      apply Array.ext'; simp [List.take_of_length_le]
    simp only [execOp, ho, resolve, hcal, rsem, invoke, map_toList, pure_bind, e1, e2]
  | builtin b =>
    simp only [hcal] at h
    have hex : execOp ρ o = builtin b c.argTypes o.type (c.args.map cst) (c.args.toList.map ρ).toArray := by
      simp only [execOp, ho, resolve, hcal, invoke, pure_bind, map_toList]
      rfl
    cases b with
    | len =>
      rw [hex]
      simp only at h
      split at h
      · rename_i t x h0 hl
        rw [hl]
        cases hu : und P t with
        | none => simp [hu] at h
        | some d =>
          cases d with
          | slice e =>
            simp [hu] at h; subst h
            cases hx : ρ x <;> first | (simp [rsem, vv, hx, stuck, Good] at g; done) | simp [builtin, Builtin.len_, h0, run_und w hu, rsem, vv, hx]
          | string =>
            simp [hu] at h; subst h
            cases hx : ρ x <;> first | (simp [rsem, vv, hx, stuck, Good] at g; done) | simp [builtin, Builtin.len_, h0, run_und w hu, rsem, vv, hx]
          | array n e => simp [hu] at h; subst h; simp [builtin, Builtin.len_, h0, run_und w hu, rsem, vv]
          | map k e =>
            simp [hu] at h; subst h
            cases hx : ρ x <;> first | (simp [rsem, vv, hx, stuck, Good] at g; done) | skip
            rename_i a; cases a <;> simp [builtin, Builtin.len_, h0, run_und w hu, rsem, vv, hx, andThen_assoc]
            congr 1
          | pointer a =>
            simp only [hu] at h
            cases hu2 : und P a with
            | none => simp [hu2] at h
            | some d2 =>
              cases d2 with
              | array n e => simp [hu2] at h; subst h; simp [builtin, Builtin.len_, h0, run_und w hu, run_und w hu2, rsem, vv]
              | _ => simp [hu2] at h
          | _ => simp [hu] at h
      · cases h
    | cap =>
      rw [hex]
      simp only at h
      split at h
      · rename_i t x h0 hl
        rw [hl]
        cases hu : und P t with
        | none => simp [hu] at h
        | some d =>
          cases d with
          | slice e =>
            simp [hu] at h; subst h
            cases hx : ρ x <;> first | (simp [rsem, vv, hx, stuck, Good] at g; done) | simp [builtin, Builtin.cap_, h0, run_und w hu, rsem, vv, hx]
          | _ => simp [hu] at h
      · cases h
    | append =>
      rw [hex]
      simp only at h
      split at h
      · rename_i t u x y h0 h1 hl
        rw [hl]
        cases ht : und P t with
        | none => simp [ht] at h
        | some d =>
          cases d with
          | slice e =>
            simp only [ht] at h
            cases hn : siz P e with
            | none => simp [hn] at h
            | some n =>
              cases hb : byt P e with
              | none => simp [hn, hb] at h
              | some b =>
                cases hz : zer P e with
                | none => simp [hn, hb, hz] at h
                | some z =>
                  cases hu : und P u with
                  | none => simp [hn, hb, hz, hu] at h
                  | some d2 =>
                    have hd : ∀ k, d2 ≠ .int k := fun k e2 => by subst e2; simp [hn, hb, hz, hu] at h
                    have hr : r = .app e n b z x y := by cases d2 <;> simp [hn, hb, hz, hu] at h <;> exact h.symm
                    subst hr
                    exact run_append h0 h1 ht hn hb hz hu hd (ρ x) (ρ y) w ρ x y rfl rfl g
          | _ => simp [ht] at h
      · cases h
    | copy =>
      rw [hex]
      simp only at h
      split at h
      · rename_i t x y h0 hl
        rw [hl]
        cases ht : und P t with
        | none => simp [ht] at h
        | some d =>
          cases d with
          | slice e =>
            simp only [ht] at h
            cases hn : siz P e with
            | none => simp [hn] at h
            | some n =>
              simp [hn] at h; subst h
              cases hx : ρ x <;> first | (simp [rsem, vv, hx, stuck, Good] at g; done) | skip
              rename_i base dl dc
              simp only [builtin, Builtin.copy_, h0, rsem, vv, hx, List.map_cons, List.map_nil, List.getElem?_toArray, List.getElem?_cons_zero, List.getElem?_cons_succ, Sem.run_bind, run_und w ht, Result.andThen_ok]
              cases hl2 : (Builtin.lenOf (ρ y)).run P w with
              | halt hh w' => simp [hl2]
              | ok m w1 => simp only [Result.andThen_ok, run_siz _ hn, Sem.run_bind]; cases base <;> rfl
          | _ => simp [ht] at h
      · cases h
    | _ => simp at h; subst h; rw [hex]; simp [rsem]

/-- THE LAW: an operation whose types were looked up does what the machine's own does. -/
theorem res_ok {P : Program} {o : Oper} {r : ROp} (h : resolveOp P o = some r) (ρ : Operand → Value) (hρ : ∀ f, ρ (.func f) = .func (.func f) #[] #[]) (w : World)
    (g : Good ((rsem P ρ r).run P w)) : (execOp ρ o).run P w = (rsem P ρ r).run P w := by
  by_cases hb : ∃ t ps, o.op = .build t ps
  · obtain ⟨t, ps, hb⟩ := hb; exact res_build h hb ρ w g
  · by_cases hc : ∃ c, o.op = .call c
    · obtain ⟨c, hc⟩ := hc; exact res_call h hc ρ hρ w g
    · exact res_simple h ρ w g (fun t ps e => hb ⟨t, ps, e⟩) (fun c e => hc ⟨c, e⟩)

end Go.Lx
