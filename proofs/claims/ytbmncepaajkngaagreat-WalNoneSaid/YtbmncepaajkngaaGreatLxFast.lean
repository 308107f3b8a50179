/- The same runner, in words that the kernel reckons faster. -/
import Derived.Test.YtbmncepaajkngaaGreatLxTop
namespace Go.Lx
set_option linter.unusedVariables false
set_option linter.unusedSimpArgs false
noncomputable section

/-! ### Tries, lists, numbers -/
inductive GBV where
  | mk (f : T V → Option V)
def GBV.ap (b : GBV) (t : T V) : Option V := GBV.rec (motive := fun _ => Option V) (fun f => f t) b
def gV (p : P8) : GBV := P8.rec (motive := fun _ => GBV) (.mk fun t => T.rec (motive := fun _ => Option V) none (fun v _ _ _ _ _ _ _ _ _ _ _ _ _ _ _ _ => v) t)
    (fun _ ih => .mk fun t => T.rec (motive := fun _ => Option V) none (fun _ a _ _ _ _ _ _ _ _ _ _ _ _ _ _ _ => GBV.ap ih a) t)
    (fun _ ih => .mk fun t => T.rec (motive := fun _ => Option V) none (fun _ _ b _ _ _ _ _ _ _ _ _ _ _ _ _ _ => GBV.ap ih b) t)
    (fun _ ih => .mk fun t => T.rec (motive := fun _ => Option V) none (fun _ _ _ c _ _ _ _ _ _ _ _ _ _ _ _ _ => GBV.ap ih c) t)
    (fun _ ih => .mk fun t => T.rec (motive := fun _ => Option V) none (fun _ _ _ _ d _ _ _ _ _ _ _ _ _ _ _ _ => GBV.ap ih d) t)
    (fun _ ih => .mk fun t => T.rec (motive := fun _ => Option V) none (fun _ _ _ _ _ e _ _ _ _ _ _ _ _ _ _ _ => GBV.ap ih e) t)
    (fun _ ih => .mk fun t => T.rec (motive := fun _ => Option V) none (fun _ _ _ _ _ _ f _ _ _ _ _ _ _ _ _ _ => GBV.ap ih f) t)
    (fun _ ih => .mk fun t => T.rec (motive := fun _ => Option V) none (fun _ _ _ _ _ _ _ g _ _ _ _ _ _ _ _ _ => GBV.ap ih g) t)
    (fun _ ih => .mk fun t => T.rec (motive := fun _ => Option V) none (fun _ _ _ _ _ _ _ _ h _ _ _ _ _ _ _ _ => GBV.ap ih h) t) p
theorem gV_eq : ∀ (p : P8) (t : T V), (gV p).ap t = getP p t
  | .z, .nil => rfl
  | .z, .nd .. => rfl
  | .d0 _, .nil => rfl
  | .d0 p, .nd .. => gV_eq p _
  | .d1 _, .nil => rfl
  | .d1 p, .nd .. => gV_eq p _
  | .d2 _, .nil => rfl
  | .d2 p, .nd .. => gV_eq p _
  | .d3 _, .nil => rfl
  | .d3 p, .nd .. => gV_eq p _
  | .d4 _, .nil => rfl
  | .d4 p, .nd .. => gV_eq p _
  | .d5 _, .nil => rfl
  | .d5 p, .nd .. => gV_eq p _
  | .d6 _, .nil => rfl
  | .d6 p, .nd .. => gV_eq p _
  | .d7 _, .nil => rfl
  | .d7 p, .nd .. => gV_eq p _
def getV (t : T V) (n : Nat) : Option V := (gV (pth n)).ap t
theorem getV_eq (t : T V) (n : Nat) : getV t n = t.get n := gV_eq _ _
inductive SBV where
  | mk (f : T V → Option V → (T V → RR) → RR)
def SBV.ap (b : SBV) (t : T V) (x : Option V) (k : T V → RR) : RR := SBV.rec (motive := fun _ => RR) (fun f => f t x k) b
def sV (p : P8) : SBV := P8.rec (motive := fun _ => SBV) (.mk fun t x k => T.rec (motive := fun _ => RR) (k (.nd x .nil .nil .nil .nil .nil .nil .nil .nil)) (fun _ a b c d e f g h _ _ _ _ _ _ _ _ => k (.nd x a b c d e f g h)) t)
    (fun _ ih => .mk fun t x k => T.rec (motive := fun _ => RR) (SBV.ap ih .nil x fun y => k (.nd none y .nil .nil .nil .nil .nil .nil .nil)) (fun v a b c d e f g h _ _ _ _ _ _ _ _ => SBV.ap ih a x fun y => k (.nd v y b c d e f g h)) t)
    (fun _ ih => .mk fun t x k => T.rec (motive := fun _ => RR) (SBV.ap ih .nil x fun y => k (.nd none .nil y .nil .nil .nil .nil .nil .nil)) (fun v a b c d e f g h _ _ _ _ _ _ _ _ => SBV.ap ih b x fun y => k (.nd v a y c d e f g h)) t)
    (fun _ ih => .mk fun t x k => T.rec (motive := fun _ => RR) (SBV.ap ih .nil x fun y => k (.nd none .nil .nil y .nil .nil .nil .nil .nil)) (fun v a b c d e f g h _ _ _ _ _ _ _ _ => SBV.ap ih c x fun y => k (.nd v a b y d e f g h)) t)
    (fun _ ih => .mk fun t x k => T.rec (motive := fun _ => RR) (SBV.ap ih .nil x fun y => k (.nd none .nil .nil .nil y .nil .nil .nil .nil)) (fun v a b c d e f g h _ _ _ _ _ _ _ _ => SBV.ap ih d x fun y => k (.nd v a b c y e f g h)) t)
    (fun _ ih => .mk fun t x k => T.rec (motive := fun _ => RR) (SBV.ap ih .nil x fun y => k (.nd none .nil .nil .nil .nil y .nil .nil .nil)) (fun v a b c d e f g h _ _ _ _ _ _ _ _ => SBV.ap ih e x fun y => k (.nd v a b c d y f g h)) t)
    (fun _ ih => .mk fun t x k => T.rec (motive := fun _ => RR) (SBV.ap ih .nil x fun y => k (.nd none .nil .nil .nil .nil .nil y .nil .nil)) (fun v a b c d e f g h _ _ _ _ _ _ _ _ => SBV.ap ih f x fun y => k (.nd v a b c d e y g h)) t)
    (fun _ ih => .mk fun t x k => T.rec (motive := fun _ => RR) (SBV.ap ih .nil x fun y => k (.nd none .nil .nil .nil .nil .nil .nil y .nil)) (fun v a b c d e f g h _ _ _ _ _ _ _ _ => SBV.ap ih g x fun y => k (.nd v a b c d e f y h)) t)
    (fun _ ih => .mk fun t x k => T.rec (motive := fun _ => RR) (SBV.ap ih .nil x fun y => k (.nd none .nil .nil .nil .nil .nil .nil .nil y)) (fun v a b c d e f g h _ _ _ _ _ _ _ _ => SBV.ap ih h x fun y => k (.nd v a b c d e f g y)) t) p
theorem sV_eq : ∀ (p : P8) (t : T V) (x : Option V) (k : T V → RR), (sV p).ap t x k = setP p t x k
  | .z, .nil, x, k => rfl
  | .z, .nd .., x, k => rfl
  | .d0 p, .nil, x, k => sV_eq p _ x _
  | .d0 p, .nd .., x, k => sV_eq p _ x _
  | .d1 p, .nil, x, k => sV_eq p _ x _
  | .d1 p, .nd .., x, k => sV_eq p _ x _
  | .d2 p, .nil, x, k => sV_eq p _ x _
  | .d2 p, .nd .., x, k => sV_eq p _ x _
  | .d3 p, .nil, x, k => sV_eq p _ x _
  | .d3 p, .nd .., x, k => sV_eq p _ x _
  | .d4 p, .nil, x, k => sV_eq p _ x _
  | .d4 p, .nd .., x, k => sV_eq p _ x _
  | .d5 p, .nil, x, k => sV_eq p _ x _
  | .d5 p, .nd .., x, k => sV_eq p _ x _
  | .d6 p, .nil, x, k => sV_eq p _ x _
  | .d6 p, .nd .., x, k => sV_eq p _ x _
  | .d7 p, .nil, x, k => sV_eq p _ x _
  | .d7 p, .nd .., x, k => sV_eq p _ x _
def setV (t : T V) (n : Nat) (x : Option V) (k : T V → RR) : RR := (sV (pth n)).ap t x k
theorem setV_eq (t : T V) (n : Nat) (x : Option V) (k : T V → RR) : setV t n x k = k (T.set t n x) := (sV_eq _ _ _ _).trans (T.setK_eq _ _ _ _)
inductive GBE where
  | mk (f : T E → Option E)
def GBE.ap (b : GBE) (t : T E) : Option E := GBE.rec (motive := fun _ => Option E) (fun f => f t) b
def gE (p : P8) : GBE := P8.rec (motive := fun _ => GBE) (.mk fun t => T.rec (motive := fun _ => Option E) none (fun v _ _ _ _ _ _ _ _ _ _ _ _ _ _ _ _ => v) t)
    (fun _ ih => .mk fun t => T.rec (motive := fun _ => Option E) none (fun _ a _ _ _ _ _ _ _ _ _ _ _ _ _ _ _ => GBE.ap ih a) t)
    (fun _ ih => .mk fun t => T.rec (motive := fun _ => Option E) none (fun _ _ b _ _ _ _ _ _ _ _ _ _ _ _ _ _ => GBE.ap ih b) t)
    (fun _ ih => .mk fun t => T.rec (motive := fun _ => Option E) none (fun _ _ _ c _ _ _ _ _ _ _ _ _ _ _ _ _ => GBE.ap ih c) t)
    (fun _ ih => .mk fun t => T.rec (motive := fun _ => Option E) none (fun _ _ _ _ d _ _ _ _ _ _ _ _ _ _ _ _ => GBE.ap ih d) t)
    (fun _ ih => .mk fun t => T.rec (motive := fun _ => Option E) none (fun _ _ _ _ _ e _ _ _ _ _ _ _ _ _ _ _ => GBE.ap ih e) t)
    (fun _ ih => .mk fun t => T.rec (motive := fun _ => Option E) none (fun _ _ _ _ _ _ f _ _ _ _ _ _ _ _ _ _ => GBE.ap ih f) t)
    (fun _ ih => .mk fun t => T.rec (motive := fun _ => Option E) none (fun _ _ _ _ _ _ _ g _ _ _ _ _ _ _ _ _ => GBE.ap ih g) t)
    (fun _ ih => .mk fun t => T.rec (motive := fun _ => Option E) none (fun _ _ _ _ _ _ _ _ h _ _ _ _ _ _ _ _ => GBE.ap ih h) t) p
theorem gE_eq : ∀ (p : P8) (t : T E), (gE p).ap t = getP p t
  | .z, .nil => rfl
  | .z, .nd .. => rfl
  | .d0 _, .nil => rfl
  | .d0 p, .nd .. => gE_eq p _
  | .d1 _, .nil => rfl
  | .d1 p, .nd .. => gE_eq p _
  | .d2 _, .nil => rfl
  | .d2 p, .nd .. => gE_eq p _
  | .d3 _, .nil => rfl
  | .d3 p, .nd .. => gE_eq p _
  | .d4 _, .nil => rfl
  | .d4 p, .nd .. => gE_eq p _
  | .d5 _, .nil => rfl
  | .d5 p, .nd .. => gE_eq p _
  | .d6 _, .nil => rfl
  | .d6 p, .nd .. => gE_eq p _
  | .d7 _, .nil => rfl
  | .d7 p, .nd .. => gE_eq p _
def getE (t : T E) (n : Nat) : Option E := (gE (pth n)).ap t
theorem getE_eq (t : T E) (n : Nat) : getE t n = t.get n := gE_eq _ _
inductive SBE where
  | mk (f : T E → Option E → (T E → RR) → RR)
def SBE.ap (b : SBE) (t : T E) (x : Option E) (k : T E → RR) : RR := SBE.rec (motive := fun _ => RR) (fun f => f t x k) b
def sE (p : P8) : SBE := P8.rec (motive := fun _ => SBE) (.mk fun t x k => T.rec (motive := fun _ => RR) (k (.nd x .nil .nil .nil .nil .nil .nil .nil .nil)) (fun _ a b c d e f g h _ _ _ _ _ _ _ _ => k (.nd x a b c d e f g h)) t)
    (fun _ ih => .mk fun t x k => T.rec (motive := fun _ => RR) (SBE.ap ih .nil x fun y => k (.nd none y .nil .nil .nil .nil .nil .nil .nil)) (fun v a b c d e f g h _ _ _ _ _ _ _ _ => SBE.ap ih a x fun y => k (.nd v y b c d e f g h)) t)
    (fun _ ih => .mk fun t x k => T.rec (motive := fun _ => RR) (SBE.ap ih .nil x fun y => k (.nd none .nil y .nil .nil .nil .nil .nil .nil)) (fun v a b c d e f g h _ _ _ _ _ _ _ _ => SBE.ap ih b x fun y => k (.nd v a y c d e f g h)) t)
    (fun _ ih => .mk fun t x k => T.rec (motive := fun _ => RR) (SBE.ap ih .nil x fun y => k (.nd none .nil .nil y .nil .nil .nil .nil .nil)) (fun v a b c d e f g h _ _ _ _ _ _ _ _ => SBE.ap ih c x fun y => k (.nd v a b y d e f g h)) t)
    (fun _ ih => .mk fun t x k => T.rec (motive := fun _ => RR) (SBE.ap ih .nil x fun y => k (.nd none .nil .nil .nil y .nil .nil .nil .nil)) (fun v a b c d e f g h _ _ _ _ _ _ _ _ => SBE.ap ih d x fun y => k (.nd v a b c y e f g h)) t)
    (fun _ ih => .mk fun t x k => T.rec (motive := fun _ => RR) (SBE.ap ih .nil x fun y => k (.nd none .nil .nil .nil .nil y .nil .nil .nil)) (fun v a b c d e f g h _ _ _ _ _ _ _ _ => SBE.ap ih e x fun y => k (.nd v a b c d y f g h)) t)
    (fun _ ih => .mk fun t x k => T.rec (motive := fun _ => RR) (SBE.ap ih .nil x fun y => k (.nd none .nil .nil .nil .nil .nil y .nil .nil)) (fun v a b c d e f g h _ _ _ _ _ _ _ _ => SBE.ap ih f x fun y => k (.nd v a b c d e y g h)) t)
    (fun _ ih => .mk fun t x k => T.rec (motive := fun _ => RR) (SBE.ap ih .nil x fun y => k (.nd none .nil .nil .nil .nil .nil .nil y .nil)) (fun v a b c d e f g h _ _ _ _ _ _ _ _ => SBE.ap ih g x fun y => k (.nd v a b c d e f y h)) t)
    (fun _ ih => .mk fun t x k => T.rec (motive := fun _ => RR) (SBE.ap ih .nil x fun y => k (.nd none .nil .nil .nil .nil .nil .nil .nil y)) (fun v a b c d e f g h _ _ _ _ _ _ _ _ => SBE.ap ih h x fun y => k (.nd v a b c d e f g y)) t) p
theorem sE_eq : ∀ (p : P8) (t : T E) (x : Option E) (k : T E → RR), (sE p).ap t x k = setP p t x k
  | .z, .nil, x, k => rfl
  | .z, .nd .., x, k => rfl
  | .d0 p, .nil, x, k => sE_eq p _ x _
  | .d0 p, .nd .., x, k => sE_eq p _ x _
  | .d1 p, .nil, x, k => sE_eq p _ x _
  | .d1 p, .nd .., x, k => sE_eq p _ x _
  | .d2 p, .nil, x, k => sE_eq p _ x _
  | .d2 p, .nd .., x, k => sE_eq p _ x _
  | .d3 p, .nil, x, k => sE_eq p _ x _
  | .d3 p, .nd .., x, k => sE_eq p _ x _
  | .d4 p, .nil, x, k => sE_eq p _ x _
  | .d4 p, .nd .., x, k => sE_eq p _ x _
  | .d5 p, .nil, x, k => sE_eq p _ x _
  | .d5 p, .nd .., x, k => sE_eq p _ x _
  | .d6 p, .nil, x, k => sE_eq p _ x _
  | .d6 p, .nd .., x, k => sE_eq p _ x _
  | .d7 p, .nil, x, k => sE_eq p _ x _
  | .d7 p, .nd .., x, k => sE_eq p _ x _
def setE (t : T E) (n : Nat) (x : Option E) (k : T E → RR) : RR := (sE (pth n)).ap t x k
theorem setE_eq (t : T E) (n : Nat) (x : Option E) (k : T E → RR) : setE t n x k = k (T.set t n x) := (sE_eq _ _ _ _).trans (T.setK_eq _ _ _ _)
def nthF {α : Type} (l : List α) (n : Nat) : Option α :=
  List.rec (motive := fun _ => Nat → Option α) (fun _ => none) (fun x _ ih n => Nat.rec (motive := fun _ => Option α) (some x) (fun m _ => ih m) n) l n
theorem nthF_eq {α : Type} : ∀ (l : List α) (n : Nat), nthF l n = nthV l n
  | [], _ => by simp [nthV]; rfl
  | x :: l, 0 => by simp [nthV]; rfl
  | x :: l, n + 1 => by simp only [nthV, ← nthF_eq l n]; rfl
/-- One cell is laid. -/
def lay1 (l : List V) (n : Nat) (x : V) (k : List V → RR) (no : RR) : RR :=
  List.rec (motive := fun _ => Nat → (List V → RR) → RR) (fun _ _ => no) (fun y l ih n k => Nat.rec (motive := fun _ => RR) (k (x :: l)) (fun m _ => ih m fun r => k (y :: r)) n) l n k
theorem layV_nil : ∀ (l : List V), layV l 0 [] = some l
  | [] => by simp [layV]
  | _ :: _ => by simp [layV]
theorem lay1_eq (x : V) (hx : oneV x = true) (no : RR) : ∀ (l : List V) (n : Nat) (k : List V → RR), (∀ r, layV l n [x] = some r → k r = no) → lay1 l n x k no = no
  | [], n, k, h => rfl
  | y :: l, 0, k, h => h _ (by simp [layV, layV_nil, hx])
  | y :: l, n + 1, k, h => lay1_eq x hx no l n (fun r => k (y :: r)) fun r hr => h _ (by simp [layV, hr])
def fF (n : Nat) (k : Nat → RR) : RR := Nat.rec (motive := fun _ => RR) (k 0) (fun m _ => k (Nat.succ m)) n
theorem fF_eq (n : Nat) (k : Nat → RR) : fF n k = k n := by cases n <;> rfl
def bF (b : Bool) (x y : RR) : RR := Bool.rec (motive := fun _ => RR) y x b
theorem bF_t (x y : RR) : bF true x y = x := rfl
theorem bF_f (x y : RR) : bF false x y = y := rfl
theorem bF_no {b : Bool} {x y no : RR} (h1 : b = true → x = no) (h2 : b = false → y = no) : bF b x y = no := by cases b <;> simp_all [bF_t, bF_f]
/-- What is, or nothing. -/
def oF {α : Type} (o : Option α) (k : α → RR) (no : RR) : RR := Option.rec (motive := fun _ => RR) no k o
theorem oF_no {α : Type} {o : Option α} {k : α → RR} {no : RR} (h : ∀ x, o = some x → k x = no) : oF o k no = no := by cases o with
  | none => rfl
  | some x => exact h x rfl

/-! ### Values -/
def isI (v : V) (k : IntKind → Int → RR) (no : RR) : RR :=
  V.rec (motive_1 := fun _ => RR) (motive_2 := fun _ => RR) (fun _ => no) k (fun _ => no) (fun _ => no) (fun _ _ _ => no) (fun _ => no) (fun _ _ _ _ _ => no) no (fun _ _ _ => no) no (fun _ _ => no) (fun _ _ => no) (fun _ => no) no (fun _ _ _ _ => no) v
theorem isI_no {v : V} {k : IntKind → Int → RR} {no : RR} (h : ∀ a n, v = .i a n → k a n = no) : isI v k no = no := by cases v <;> first | rfl | exact h _ _ rfl
def isB (v : V) (k : Bool → RR) (no : RR) : RR :=
  V.rec (motive_1 := fun _ => RR) (motive_2 := fun _ => RR) k (fun _ _ => no) (fun _ => no) (fun _ => no) (fun _ _ _ => no) (fun _ => no) (fun _ _ _ _ _ => no) no (fun _ _ _ => no) no (fun _ _ => no) (fun _ _ => no) (fun _ => no) no (fun _ _ _ _ => no) v
theorem isB_no {v : V} {k : Bool → RR} {no : RR} (h : ∀ a, v = .b a → k a = no) : isB v k no = no := by cases v <;> first | rfl | exact h _ rfl
def isP (v : V) (k : Option (Nat × Nat) → RR) (no : RR) : RR :=
  V.rec (motive_1 := fun _ => RR) (motive_2 := fun _ => RR) (fun _ => no) (fun _ _ => no) (fun _ => no) k (fun _ _ _ => no) (fun _ => no) (fun _ _ _ _ _ => no) no (fun _ _ _ => no) no (fun _ _ => no) (fun _ _ => no) (fun _ => no) no (fun _ _ _ _ => no) v
theorem isP_no {v : V} {k : Option (Nat × Nat) → RR} {no : RR} (h : ∀ a, v = .p a → k a = no) : isP v k no = no := by cases v <;> first | rfl | exact h _ rfl
def isSl (v : V) (k : Option (Nat × Nat) → Nat → Cap → RR) (no : RR) : RR :=
  V.rec (motive_1 := fun _ => RR) (motive_2 := fun _ => RR) (fun _ => no) (fun _ _ => no) (fun _ => no) (fun _ => no) k (fun _ => no) (fun _ _ _ _ _ => no) no (fun _ _ _ => no) no (fun _ _ => no) (fun _ _ => no) (fun _ => no) no (fun _ _ _ _ => no) v
theorem isSl_no {v : V} {k : Option (Nat × Nat) → Nat → Cap → RR} {no : RR} (h : ∀ a b c, v = .sl a b c → k a b c = no) : isSl v k no = no := by cases v <;> first | rfl | exact h _ _ _ rfl
def isAg (v : V) (k : List V → RR) (no : RR) : RR :=
  V.rec (motive_1 := fun _ => RR) (motive_2 := fun _ => RR) (fun _ => no) (fun _ _ => no) (fun _ => no) (fun _ => no) (fun _ _ _ => no) (fun _ => no) (fun _ _ _ _ _ => no) no (fun _ _ _ => no) no (fun l _ => k l) (fun _ _ => no) (fun _ => no) no (fun _ _ _ _ => no) v
theorem isAg_no {v : V} {k : List V → RR} {no : RR} (h : ∀ a, v = .ag a → k a = no) : isAg v k no = no := by cases v <;> first | rfl | exact h _ rfl
def isTp (v : V) (k : List V → RR) (no : RR) : RR :=
  V.rec (motive_1 := fun _ => RR) (motive_2 := fun _ => RR) (fun _ => no) (fun _ _ => no) (fun _ => no) (fun _ => no) (fun _ _ _ => no) (fun _ => no) (fun _ _ _ _ _ => no) no (fun _ _ _ => no) no (fun _ _ => no) (fun l _ => k l) (fun _ => no) no (fun _ _ _ _ => no) v
theorem isTp_no {v : V} {k : List V → RR} {no : RR} (h : ∀ a, v = .tp a → k a = no) : isTp v k no = no := by cases v <;> first | rfl | exact h _ rfl
/-- A value of one cell. -/
def is1 (v : V) (k : RR) (no : RR) : RR :=
  V.rec (motive_1 := fun _ => RR) (motive_2 := fun _ => RR) (fun _ => k) (fun _ _ => k) (fun _ => k) (fun _ => k) (fun _ _ _ => k) (fun _ => k) (fun _ _ _ _ _ => k) k (fun _ _ _ => k) k (fun _ _ => no) (fun _ _ => no) (fun _ => no) k (fun _ _ _ _ => k) v
theorem is1_no {v : V} {k no : RR} (h : oneV v = true → cellsV v = [v] → k = no) : is1 v k no = no := by cases v <;> first | rfl | exact h rfl rfl
def isNat (n : Int) (k : Nat → RR) (no : RR) : RR := Int.rec (motive := fun _ => RR) k (fun _ => no) n
theorem isNat_no {n : Int} {k : Nat → RR} {no : RR} (h : ∀ m, n = .ofNat m → k m = no) : isNat n k no = no := by cases n <;> first | rfl | exact h _ rfl
def halfF (k : IntKind) : Nat := IntKind.rec (motive := fun _ => Nat) 128 32768 2147483648 9223372036854775808 256 65536 4294967296 18446744073709551616 k
theorem halfF_eq (k : IntKind) : halfF k = halfK k := by cases k <;> rfl
def modF (k : IntKind) : Nat := IntKind.rec (motive := fun _ => Nat) 256 65536 4294967296 18446744073709551616 256 65536 4294967296 18446744073709551616 k
theorem modF_eq (k : IntKind) : modF k = modK k := by cases k <;> rfl
def kF (k : IntKind) : Nat := IntKind.rec (motive := fun _ => Nat) 0 1 2 3 4 5 6 7 k
theorem kF_eq (k : IntKind) : kF k = kN k := by cases k <;> rfl
def bitsF (k : IntKind) : Nat := IntKind.rec (motive := fun _ => Nat) 8 16 32 64 8 16 32 64 k
theorem bitsF_eq (k : IntKind) : bitsF k = bitsK k := by cases k <;> rfl

/-- A natural number that fits. -/
def wrF (k : IntKind) (n : Nat) (K : V → RR) (no : RR) : RR := fF (Nat.mod n (modF k)) fun m => bF (Nat.ble (Nat.succ m) (halfF k)) (K (.i k (.ofNat m))) no
theorem blt_of {m n : Nat} (h : Nat.ble (Nat.succ m) n = true) : Nat.blt m n = true := h
theorem wrF_no {k : IntKind} {n : Nat} {K : V → RR} {no : RR} (h : K (.i k (wrapV k (.ofNat n))) = no) : wrF k n K no = no := by
  unfold wrF
  rw [fF_eq, modF_eq, halfF_eq]
  refine bF_no (fun hb => ?_) fun _ => rfl
  rw [← h]
  have hb' : Nat.mod n (modK k) < halfK k := Nat.le_of_ble_eq_true hb
  have h2 : halfK k ≤ modK k := by cases k <;> decide
  have hm : ∀ a b : Nat, Nat.mod a b = a % b := fun _ _ => rfl
  congr 2
  simp only [wrapV]
  cases hc : Nat.blt n (halfK k) with
  | true =>
    have : n < halfK k := Nat.le_of_ble_eq_true hc
    simp [hm, Nat.mod_eq_of_lt (Nat.lt_of_lt_of_le this h2)]
  | false =>
    have : Nat.blt (Nat.mod n (modK k)) (halfK k) = true := hb
    simp only [ofBits, this, cond_true, cond_false]
def opd (x : Operand) (e : T V) (k : V → RR) (no : RR) : RR :=
  Operand.rec (motive := fun _ => T V → (V → RR) → RR → RR) (fun t e k no => oF (getV e t) k no)
    (fun c e k no => Value.rec (motive_1 := fun _ => RR) (motive_2 := fun _ => RR) (motive_3 := fun _ => RR) (fun b => k (.b b)) (fun a n => k (.i a n)) (fun _ _ => no) (fun _ _ _ => no) (fun _ => no) (fun a => Option.rec (motive := fun _ => RR) (k (.p none)) (fun _ => no) a) (fun a l c => Option.rec (motive := fun _ => RR) (k (.sl none l (.k c))) (fun _ => no) a) (fun _ => no) (fun _ => no) (fun _ _ _ _ _ => no) (k .nf) (fun _ _ _ => no) (k .ni) (fun _ _ => no) (fun _ _ => no) (fun _ _ => no) no (fun _ _ _ _ => no) c)
    (fun _ _ _ no => no) (fun f e k no => k (.fn (.func f) [] [])) x e k no
theorem opd_no {x : Operand} {e : T V} {k : V → RR} {no : RR} (h : ∀ v, evV e x = some v → k v = no) : opd x e k no = no := by
  cases x with
  | tmp t => exact oF_no fun v hv => h v (by rw [getV_eq] at hv; exact hv)
  | const c =>
    cases c with
    | bool b => exact h _ (by simp [evV, ofC])
    | int a n => exact h _ (by simp [evV, ofC])
    | pointer a => cases a with
      | none => exact h _ (by simp [evV, ofC])
      | some _ => rfl
    | slice a l c => cases a with
      | none => exact h _ (by simp [evV, ofC])
      | some _ => rfl
    | nilFunc => exact h _ (by simp [evV, ofC])
    | nilIface => exact h _ (by simp [evV, ofC])
    | _ => rfl
  | global g => rfl
  | func f => exact h _ rfl

/-! ### Operations -/
def hBin (op : BinOp) (x y : Operand) (e : T V) (K : V → RR) (no : RR) : RR :=
  opd x e (fun a => opd y e (fun b => isI a (fun k m => isI b (fun k' n => isNat m (fun m => isNat n (fun n =>
    BinOp.rec (motive := fun _ => Nat → Nat → IntKind → IntKind → (V → RR) → RR → RR)
      (fun m n k k' K no => bF (Nat.beq (kF k) (kF k')) (wrF k (Nat.add m n) K no) no)
      (fun m n k k' K no => bF (Nat.beq (kF k) (kF k')) (bF (Nat.ble n m) (wrF k (Nat.sub m n) K no) no) no)
      (fun m n k k' K no => bF (Nat.beq (kF k) (kF k')) (wrF k (Nat.mul m n) K no) no)
      (fun m n k k' K no => no) (fun m n k k' K no => no)
      (fun m n k k' K no => bF (Nat.beq (kF k) (kF k')) (bF (Nat.ble (Nat.succ m) (halfF k)) (bF (Nat.ble (Nat.succ n) (halfF k)) (fF (Nat.land m n) fun r => bF (Nat.ble (Nat.succ r) (halfF k)) (K (.i k (.ofNat r))) no) no) no) no)
      (fun m n k k' K no => bF (Nat.beq (kF k) (kF k')) (bF (Nat.ble (Nat.succ m) (halfF k)) (bF (Nat.ble (Nat.succ n) (halfF k)) (fF (Nat.lor m n) fun r => bF (Nat.ble (Nat.succ r) (halfF k)) (K (.i k (.ofNat r))) no) no) no) no)
      (fun m n k k' K no => bF (Nat.beq (kF k) (kF k')) (bF (Nat.ble (Nat.succ m) (halfF k)) (bF (Nat.ble (Nat.succ n) (halfF k)) (fF (Nat.xor m n) fun r => bF (Nat.ble (Nat.succ r) (halfF k)) (K (.i k (.ofNat r))) no) no) no) no)
      (fun m n k k' K no => no)
      (fun m n k k' K no => bF (Nat.ble (Nat.succ n) (bitsF k)) (fF (Nat.div m (Nat.pow 2 n)) fun r => K (.i k (.ofNat r))) no)
      (fun m n k k' K no => no)
      (fun m n k k' K no => bF (Nat.beq (kF k) (kF k')) (bF (Nat.beq m n) (K (.b true)) (K (.b false))) no)
      (fun m n k k' K no => bF (Nat.beq (kF k) (kF k')) (bF (Nat.beq m n) (K (.b false)) (K (.b true))) no)
      (fun m n k k' K no => bF (Nat.beq (kF k) (kF k')) (bF (Nat.ble (Nat.succ m) n) (K (.b true)) (K (.b false))) no)
      (fun m n k k' K no => bF (Nat.beq (kF k) (kF k')) (bF (Nat.ble (Nat.succ n) m) (K (.b false)) (K (.b true))) no)
      (fun m n k k' K no => bF (Nat.beq (kF k) (kF k')) (bF (Nat.ble (Nat.succ n) m) (K (.b true)) (K (.b false))) no)
      (fun m n k k' K no => bF (Nat.beq (kF k) (kF k')) (bF (Nat.ble (Nat.succ m) n) (K (.b false)) (K (.b true))) no)
      op m n k k' K no) no) no) no) no) no) no
theorem hBin_no {op : BinOp} {x y : Operand} {e : T V} {s : St} {K : V → RR} {no : RR} (h : ∀ v, q_binV op x y (evV e) s = some v → K v = no) : hBin op x y e K no = no := by
  refine opd_no fun a ha => opd_no fun b hb => isI_no fun k m em => isI_no fun k' n en => isNat_no fun m' e1 => isNat_no fun n' e2 => ?_
  subst em en e1 e2
  simp only [q_binV, ha, hb] at h
  have hs : ∀ m n : Nat, Nat.ble (Nat.succ m) n = Nat.blt m n := fun _ _ => rfl
  cases op with
  | add => exact bF_no (fun hk => wrF_no (h _ (by rw [kF_eq, kF_eq] at hk; simp only [hk, cond_true, arith]; rfl))) fun _ => rfl
  | sub =>
    refine bF_no (fun hk => bF_no (fun hl => wrF_no (h _ ?_)) fun _ => rfl) fun _ => rfl
    rw [kF_eq, kF_eq] at hk
    have hl' : n' ≤ m' := Nat.le_of_ble_eq_true hl
    have : Int.sub (Int.ofNat m') (Int.ofNat n') = Int.ofNat (Nat.sub m' n') := (Int.ofNat_sub hl').symm
    simp only [hk, cond_true, arith, this]
  | mul => exact bF_no (fun hk => wrF_no (h _ (by rw [kF_eq, kF_eq] at hk; simp only [hk, cond_true, arith]; rfl))) fun _ => rfl
  | and =>
    refine bF_no (fun hk => bF_no (fun h1 => bF_no (fun h2 => ?_) fun _ => rfl) fun _ => rfl) fun _ => rfl
    rw [kF_eq, kF_eq] at hk; rw [hs, halfF_eq] at h1 h2
    rw [fF_eq]
    refine bF_no (fun h3 => h _ ?_) fun _ => rfl
    rw [hs, halfF_eq] at h3
    simp only [hk, cond_true, arith, bitN, h1, h2, ofBits, h3]
  | or =>
    refine bF_no (fun hk => bF_no (fun h1 => bF_no (fun h2 => ?_) fun _ => rfl) fun _ => rfl) fun _ => rfl
    rw [kF_eq, kF_eq] at hk; rw [hs, halfF_eq] at h1 h2
    rw [fF_eq]
    refine bF_no (fun h3 => h _ ?_) fun _ => rfl
    rw [hs, halfF_eq] at h3
    simp only [hk, cond_true, arith, bitN, h1, h2, ofBits, h3]
  | xor =>
    refine bF_no (fun hk => bF_no (fun h1 => bF_no (fun h2 => ?_) fun _ => rfl) fun _ => rfl) fun _ => rfl
    rw [kF_eq, kF_eq] at hk; rw [hs, halfF_eq] at h1 h2
    rw [fF_eq]
    refine bF_no (fun h3 => h _ ?_) fun _ => rfl
    rw [hs, halfF_eq] at h3
    simp only [hk, cond_true, arith, bitN, h1, h2, ofBits, h3]
  | shr =>
    refine bF_no (fun h1 => ?_) fun _ => rfl
    rw [fF_eq]
    refine h _ ?_
    rw [hs, bitsF_eq] at h1
    simp only [shiftV, minN, h1, cond_true]
  | eql => exact bF_no (fun hk => by rw [kF_eq, kF_eq] at hk; simp only [hk, cond_true, arith, eqI] at h; exact bF_no (fun hb => h _ (by rw [hb])) fun hb => h _ (by rw [hb])) fun _ => rfl
  | neq => exact bF_no (fun hk => by rw [kF_eq, kF_eq] at hk; simp only [hk, cond_true, arith, eqI] at h; exact bF_no (fun hb => h _ (by rw [hb]; rfl)) fun hb => h _ (by rw [hb]; rfl)) fun _ => rfl
  | lss => exact bF_no (fun hk => by rw [kF_eq, kF_eq] at hk; simp only [hk, cond_true, arith, ltI] at h; exact bF_no (fun hb => h _ (by rw [← hs, hb])) fun hb => h _ (by rw [← hs, hb])) fun _ => rfl
  | leq => exact bF_no (fun hk => by rw [kF_eq, kF_eq] at hk; simp only [hk, cond_true, arith, ltI] at h; exact bF_no (fun hb => h _ (by rw [← hs, hb]; rfl)) fun hb => h _ (by rw [← hs, hb]; rfl)) fun _ => rfl
  | gtr => exact bF_no (fun hk => by rw [kF_eq, kF_eq] at hk; simp only [hk, cond_true, arith, ltI] at h; exact bF_no (fun hb => h _ (by rw [← hs, hb])) fun hb => h _ (by rw [← hs, hb])) fun _ => rfl
  | geq => exact bF_no (fun hk => by rw [kF_eq, kF_eq] at hk; simp only [hk, cond_true, arith, ltI] at h; exact bF_no (fun hb => h _ (by rw [← hs, hb]; rfl)) fun hb => h _ (by rw [← hs, hb]; rfl)) fun _ => rfl
  | _ => rfl
def hMov (x : Operand) (e : T V) (K : V → RR) (no : RR) : RR := opd x e K no
theorem hMov_no {x : Operand} {e : T V} {s : St} {K : V → RR} {no : RR} (h : ∀ v, q_movV x (evV e) s = some v → K v = no) : hMov x e K no = no := opd_no h
def hCvt (k : IntKind) (x : Operand) (e : T V) (K : V → RR) (no : RR) : RR := opd x e (fun v => isI v (fun _ n => isNat n (fun n => wrF k n K no) no) no) no
theorem hCvt_no {k : IntKind} {x : Operand} {e : T V} {s : St} {K : V → RR} {no : RR} (h : ∀ v, q_cvIntV k x (evV e) s = some v → K v = no) : hCvt k x e K no = no :=
  opd_no fun v hv => isI_no fun a n e1 => isNat_no fun m e2 => wrF_no (h _ (by subst e1 e2; simp only [q_cvIntV, hv]))
def cellsF (s : St) (b : Nat) (k : List V → TypeId → Option (Nat × Nat) → Bool → RR) (no : RR) : RR :=
  St.rec (motive := fun _ => RR) (fun h _ _ => oF (getE h b) (fun x => E.rec (motive := fun _ => RR) k (fun _ _ => no) (fun _ _ _ _ _ _ _ _ _ => no) (fun _ => no) x) no) s
theorem cellsF_no {s : St} {b : Nat} {k : List V → TypeId → Option (Nat × Nat) → Bool → RR} {no : RR} (h : ∀ l t tl z, s.h.get b = some (.c l t tl z) → k l t tl z = no) : cellsF s b k no = no := by
  cases s with
  | mk hh nb nc =>
    refine oF_no fun x hx => ?_
    rw [getE_eq] at hx
    cases x with
    | c l t tl z => exact h _ _ _ _ hx
    | _ => rfl
def prF (o : Option (Nat × Nat)) (k : Nat → Nat → RR) (no : RR) : RR := oF o (fun p => Prod.rec (motive := fun _ => RR) k p) no
theorem prF_no {o : Option (Nat × Nat)} {k : Nat → Nat → RR} {no : RR} (h : ∀ a b, o = some (a, b) → k a b = no) : prF o k no = no := oF_no fun p hp => by cases p; exact h _ _ hp
def hLoad (a : Operand) (e : T V) (s : St) (K : V → RR) (no : RR) : RR := opd a e (fun v => isP v (fun o => prF o (fun b o => cellsF s b (fun l _ _ _ => oF (nthF l o) K no) no) no) no) no
theorem hLoad_no {a : Operand} {e : T V} {s : St} {K : V → RR} {no : RR} (h : ∀ v, q_load1V a (evV e) s = some v → K v = no) : hLoad a e s K no = no :=
  opd_no fun v hv => isP_no fun o e1 => prF_no fun b o e2 => cellsF_no fun l t tl z hc => oF_no fun x hx => h _ (by
    subst e1 e2; simp only [q_load1V, hv, getC, hc, Option.bind_some]; rw [← nthF_eq]; exact hx)
def hNil (x : Operand) (e : T V) (K : V → RR) (no : RR) : RR := opd x e (fun v => isP v (fun o => oF o (fun a => K (.p (some a))) no) no) no
theorem hNil_no {x : Operand} {e : T V} {s : St} {K : V → RR} {no : RR} (h : ∀ v, q_nilckV x (evV e) s = some v → K v = no) : hNil x e K no = no :=
  opd_no fun v hv => isP_no fun o e1 => oF_no fun a e2 => h _ (by subst e1 e2; simp only [q_nilckV, hv])
def hFaddr (off : Nat) (x : Operand) (e : T V) (K : V → RR) (no : RR) : RR := opd x e (fun v => isP v (fun o => prF o (fun b o => fF (Nat.add o off) fun o => K (.p (some (b, o)))) no) no) no
theorem hFaddr_no {off : Nat} {x : Operand} {e : T V} {s : St} {K : V → RR} {no : RR} (h : ∀ v, q_faddrV off x (evV e) s = some v → K v = no) : hFaddr off x e K no = no :=
  opd_no fun v hv => isP_no fun o e1 => prF_no fun b o e2 => by rw [fF_eq]; exact h _ (by subst e1 e2; simp only [q_faddrV, hv]; rfl)
def hIxS (n : Nat) (x i : Operand) (e : T V) (K : V → RR) (no : RR) : RR := opd x e (fun v => isSl v (fun a len _ => prF a (fun b o => opd i e (fun w => isI w (fun _ j => isNat j (fun j => bF (Nat.ble (Nat.succ j) len) (fF (Nat.add o (Nat.mul j n)) fun o => K (.p (some (b, o)))) no) no) no) no) no) no) no
theorem hIxS_no {n : Nat} {x i : Operand} {e : T V} {s : St} {K : V → RR} {no : RR} (h : ∀ v, q_ixSV n x i (evV e) s = some v → K v = no) : hIxS n x i e K no = no :=
  opd_no fun v hv => isSl_no fun a len c e1 => prF_no fun b o e2 => opd_no fun w hw => isI_no fun k j e3 => isNat_no fun m e4 => bF_no (fun hb => by
    rw [fF_eq]
    refine h _ ?_
    subst e1 e2 e3 e4
    simp only [q_ixSV, hv, hw, blt_of hb, cond_true]; rfl) fun _ => rfl
def hIxA (n len : Nat) (x i : Operand) (e : T V) (K : V → RR) (no : RR) : RR := opd x e (fun v => isP v (fun a => prF a (fun b o => opd i e (fun w => isI w (fun _ j => isNat j (fun j => bF (Nat.ble (Nat.succ j) len) (fF (Nat.add o (Nat.mul j n)) fun o => K (.p (some (b, o)))) no) no) no) no) no) no) no
theorem hIxA_no {n len : Nat} {x i : Operand} {e : T V} {s : St} {K : V → RR} {no : RR} (h : ∀ v, q_ixAV n len x i (evV e) s = some v → K v = no) : hIxA n len x i e K no = no :=
  opd_no fun v hv => isP_no fun a e1 => prF_no fun b o e2 => opd_no fun w hw => isI_no fun k j e3 => isNat_no fun m e4 => bF_no (fun hb => by
    rw [fF_eq]
    refine h _ ?_
    subst e1 e2 e3 e4
    simp only [q_ixAV, hv, hw, blt_of hb, cond_true]; rfl) fun _ => rfl
def hLen (x : Operand) (e : T V) (K : V → RR) (no : RR) : RR := opd x e (fun v => isSl v (fun _ n _ => K (.i .i64 (.ofNat n))) no) no
theorem hLen_no {x : Operand} {e : T V} {s : St} {K : V → RR} {no : RR} (h : ∀ v, q_lenSV x (evV e) s = some v → K v = no) : hLen x e K no = no :=
  opd_no fun v hv => isSl_no fun a n c e1 => h _ (by subst e1; simp only [q_lenSV, hv]; rfl)
def hUn (op : UnOp) (x : Operand) (e : T V) (K : V → RR) (no : RR) : RR := opd x e (fun v => isB v (fun b => UnOp.rec (motive := fun _ => RR) no no (bF b (K (.b false)) (K (.b true))) no op) no) no
theorem hUn_no {op : UnOp} {x : Operand} {e : T V} {s : St} {K : V → RR} {no : RR} (h : ∀ v, q_unV op x (evV e) s = some v → K v = no) : hUn op x e K no = no :=
  opd_no fun v hv => isB_no fun b e1 => by
    subst e1
    cases op with
    | not => exact bF_no (fun hb => h _ (by subst hb; simp [q_unV, hv])) fun hb => h _ (by subst hb; simp [q_unV, hv])
    | _ => rfl
def hFld (off : Nat) (x : Operand) (e : T V) (K : V → RR) (no : RR) : RR := opd x e (fun v => isAg v (fun l => oF (nthF l off) K no) no) no
theorem hFld_no {off : Nat} {x : Operand} {e : T V} {s : St} {K : V → RR} {no : RR} (h : ∀ v, q_fld1V off x (evV e) s = some v → K v = no) : hFld off x e K no = no :=
  opd_no fun v hv => isAg_no fun l e1 => oF_no fun w hw => h _ (by subst e1; simp only [q_fld1V, hv]; rw [← nthF_eq]; exact hw)
def hExtr (x : Operand) (i : Nat) (e : T V) (K : V → RR) (no : RR) : RR := opd x e (fun v => isTp v (fun l => oF (nthF l i) K no) no) no
theorem hExtr_no {i : Nat} {x : Operand} {e : T V} {s : St} {K : V → RR} {no : RR} (h : ∀ v, q_extrV x i (evV e) s = some v → K v = no) : hExtr x i e K no = no :=
  opd_no fun v hv => isTp_no fun l e1 => oF_no fun w hw => h _ (by subst e1; simp only [q_extrV, hv]; rw [← nthF_eq]; exact hw)
/-- One cell is stored. -/
def hStore (n : Nat) (a x : Operand) (e : T V) (s : St) (K : St → RR) (no : RR) : RR := opd a e (fun v => isP v (fun o => prF o (fun b o => opd x e (fun w => is1 w (bF (Nat.beq n 1) (cellsF s b (fun l t tl z => bF z no (lay1 l o w (fun l => St.rec (motive := fun _ => RR) (fun h nb nc => setE h b (some (.c l t tl false)) fun h => K ⟨h, nb, nc⟩) s) no)) no) no) no) no) no) no) no
theorem hStore_no {n : Nat} {a x : Operand} {e : T V} {s : St} {K : St → RR} {no : RR} (h : ∀ s', x_storeV n a x (evV e) s = some (.v undV s') → K s' = no) : hStore n a x e s K no = no := by
  refine opd_no fun v hv => isP_no fun o e1 => prF_no fun b o e2 => opd_no fun w hw => is1_no fun h1 h2 => bF_no (fun hn => cellsF_no fun l t tl z hc => bF_no (fun _ => rfl) fun hz => lay1_eq w h1 no l o _ fun r hr => ?_) fun _ => rfl
  subst e1 e2 hz
  have hn' : n = 1 := Nat.eq_of_beq_eq_true hn
  subst hn'
  cases s with
  | mk hh nb nc =>
    show setE hh b (some (.c r t tl false)) (fun h => K ⟨h, nb, nc⟩) = no
    rw [setE_eq]
    refine h _ ?_
    simp only [x_storeV, hv, hw, h2, Option.bind_some, List.length_singleton, hc, hr, St.putK, T.setK_eq]
    rfl

/-! ### The runner -/
abbrev JT := List RI → T V → St → Md → RR
def putF (d : Option Nat) (e : T V) (v : V) (k : T V → RR) : RR := Option.rec (motive := fun _ => RR) (k e) (fun d => setV e d (some v) k) d
theorem putF_eq (d : Option Nat) (e : T V) (v : V) (k : T V → RR) : putF d e v k = putK e d v k := by
  cases d with
  | none => rfl
  | some d => show setV e d (some v) k = fV v fun v => e.setK d (some v) k; rw [setV_eq, fV_eq, T.setK_eq]
inductive HB where
  | mk (f : T V → St → (V → RR) → (St → RR) → RR → RR)
def hotB (r : ROp) : HB :=
  ROp.rec (motive := fun _ => HB)
    (fun x => .mk fun e s K KS no => hMov x e K no)
    (fun _ _ _ => .mk fun _ _ _ _ no => no)
    (fun _ _ => .mk fun _ _ _ _ no => no)
    (fun _ _ => .mk fun _ _ _ _ no => no)
    (fun _ _ _ => .mk fun _ _ _ _ no => no)
    (fun _ _ _ => .mk fun _ _ _ _ no => no)
    (fun _ _ _ _ _ => .mk fun _ _ _ _ no => no)
    (fun a => .mk fun e s K KS no => hLoad a e s K no)
    (fun _ _ => .mk fun _ _ _ _ no => no)
    (fun n a x => .mk fun e s K KS no => hStore n a x e s KS no)
    (fun x => .mk fun e s K KS no => hNil x e K no)
    (fun op t x y => .mk fun e s K KS no => hBin op x y e K no)
    (fun _ _ _ => .mk fun _ _ _ _ no => no)
    (fun _ _ _ => .mk fun _ _ _ _ no => no)
    (fun _ _ _ => .mk fun _ _ _ _ no => no)
    (fun _ _ _ => .mk fun _ _ _ _ no => no)
    (fun _ _ _ => .mk fun _ _ _ _ no => no)
    (fun op x => .mk fun e s K KS no => hUn op x e K no)
    (fun k x => .mk fun e s K KS no => hCvt k x e K no)
    (fun _ => .mk fun _ _ _ _ no => no)
    (fun _ _ => .mk fun _ _ _ _ no => no)
    (fun _ => .mk fun _ _ _ _ no => no)
    (fun _ => .mk fun _ _ _ _ no => no)
    (fun _ _ => .mk fun _ _ _ _ no => no)
    (fun _ _ _ => .mk fun _ _ _ _ no => no)
    (.mk fun _ _ _ _ no => no)
    (fun _ _ _ _ _ _ => .mk fun _ _ _ _ no => no)
    (fun _ _ _ => .mk fun _ _ _ _ no => no)
    (fun _ _ _ _ _ => .mk fun _ _ _ _ no => no)
    (fun _ _ _ _ _ _ => .mk fun _ _ _ _ no => no)
    (fun n x => .mk fun e s K KS no => hFaddr n x e K no)
    (fun n x => .mk fun e s K KS no => hFld n x e K no)
    (fun _ _ _ => .mk fun _ _ _ _ no => no)
    (fun n x i => .mk fun e s K KS no => hIxS n x i e K no)
    (fun n l x i => .mk fun e s K KS no => hIxA n l x i e K no)
    (fun _ _ => .mk fun _ _ _ _ no => no)
    (fun x i => .mk fun e s K KS no => hExtr x i e K no)
    (fun _ _ => .mk fun _ _ _ _ no => no)
    (fun _ _ => .mk fun _ _ _ _ no => no)
    (fun _ _ => .mk fun _ _ _ _ no => no)
    (fun _ _ _ => .mk fun _ _ _ _ no => no)
    (fun x => .mk fun e s K KS no => hLen x e K no)
    (fun _ => .mk fun _ _ _ _ no => no)
    (fun _ => .mk fun _ _ _ _ no => no)
    (fun _ => .mk fun _ _ _ _ no => no)
    (fun _ => .mk fun _ _ _ _ no => no)
    (fun _ _ _ _ _ _ => .mk fun _ _ _ _ no => no)
    (fun _ _ _ => .mk fun _ _ _ _ no => no)
    (fun _ _ _ _ _ => .mk fun _ _ _ _ no => no)
    (fun _ => .mk fun _ _ _ _ no => no)
    (fun _ _ => .mk fun _ _ _ _ no => no)
    (fun _ _ _ _ => .mk fun _ _ _ _ no => no)
    (fun _ _ _ => .mk fun _ _ _ _ no => no)
    (fun _ _ _ _ => .mk fun _ _ _ _ no => no)
    (fun _ _ _ _ _ _ => .mk fun _ _ _ _ no => no)
    (fun _ => .mk fun _ _ _ _ no => no)
    (fun _ _ => .mk fun _ _ _ _ no => no)
    r
def hot (r : ROp) (e : T V) (s : St) (K : V → RR) (KS : St → RR) (no : RR) : RR := HB.rec (motive := fun _ => RR) (fun f => f e s K KS no) (hotB r)
def stepCodeF (J : JT) (k : List RI) (e : T V) (s : St) (no : RR) : RR :=
  List.rec (motive := fun _ => JT → T V → St → RR → RR) (fun J e s no => no) (fun i k _ J e s no =>
    RI.rec (motive := fun _ => JT → List RI → T V → St → RR → RR)
      (fun c J k e s no => RC.rec (motive := fun _ => JT → List RI → T V → St → RR → RR)
        (fun J k e s no => J k e s (.op []))
        (fun ops J k e s no => J k e s (.op ops))
        (fun ops segs J k e s no => no)
        (fun a b _ _ J k e s no => J (.code a :: .code b :: k) e s (.op []))
        (fun c a b _ _ J k e s no => opd c e (fun v => isB v (fun x => bF x (J (.code a :: k) e s (.op [])) (J (.code b :: k) e s (.op []))) no) no)
        (fun id b _ J k e s no => J (.code b :: .inBlock id :: k) e s (.op []))
        (fun b _ J k e s no => J (.code b :: .inLoop b :: k) e s (.op []))
        (fun f ps assign body _ _ J k e s no => no)
        (fun id J k e s no => List.rec (motive := fun _ => RR) no (fun i k ih => RI.rec (motive := fun _ => RR) (fun _ => ih) (fun id' => bF (Nat.beq id' id) (J k e s (.op [])) ih) (fun _ => ih) ih (fun _ => ih) ih i) k)
        (fun b _ J k e s no => J (.code b :: .inScope :: k) e s (.op []))
        (fun l J k e s no => J k e s (.op []))
        (fun J k e s no => no)
        c J k e s no)
      (fun _ J k e s no => J k e s (.op []))
      (fun b J k e s no => J (.code b :: .inLoop b :: k) e s (.op []))
      (fun J k e s no => J k e s (.op []))
      (fun l J k e s no => no)
      (fun J k e s no => no) i J k e s no) k J e s no
def stepF (P : Pg) (ih : RunT) : RunT := fun f rnd pv ds k e s md =>
  Md.rec (motive := fun _ => JT → List RI → T V → St → RR → RR)
    (fun ops J k e s no => List.rec (motive := fun _ => RR) (stepCodeF J k e s no) (fun g gs _ => GOp.rec (motive := fun _ => RR) (fun d g r => Option.rec (motive := fun _ => RR) (hot r e s (fun v => putF d e v fun e => J k e s (.op gs)) (fun s => putF d e undV fun e => J k e s (.op gs)) no) (fun _ => no) g) g) ops)
    (fun ops d J k e s no => no) (fun J k e s no => no) (fun v J k e s no => no) md (ih f rnd pv ds) k e s (stepV P ih f rnd pv ds k e s md)

theorem rexit_no (id : Nat) (K : List RI → RR) (no : RR) : ∀ (k : List RI), (∀ k', rexit id k = some k' → K k' = no) →
    List.rec (motive := fun _ => RR) no (fun i k ih => RI.rec (motive := fun _ => RR) (fun _ => ih) (fun id' => bF (Nat.beq id' id) (K k) ih) (fun _ => ih) ih (fun _ => ih) ih i) k = no
  | [], h => rfl
  | i :: k, h => by
    have ih := rexit_no id K no k
    cases i with
    | inBlock id' =>
      refine bF_no (fun hb => h _ (by simp [rexit, hb])) fun hb => ih fun k' hk => h _ (by simp [rexit, hb, hk])
    | code c => exact ih fun k' hk => h _ (by simp [rexit, hk])
    | inLoop c => exact ih fun k' hk => h _ (by simp [rexit, hk])
    | inScope => exact ih fun k' hk => h _ (by simp [rexit, hk])
    | endRange l => exact ih fun k' hk => h _ (by simp [rexit, hk])
    | beginRound => exact ih fun k' hk => h _ (by simp [rexit, hk])
theorem stepCodeF_eq (P : Pg) (ih : RunT) (f : Nat) (rnd : Option Nat) (pv : Option V) (ds : List Dt) (k : List RI) (e : T V) (s : St) :
    stepCodeF (ih f rnd pv ds) k e s (stepCode P ih f rnd pv ds e s k) = stepCode P ih f rnd pv ds e s k := by
  cases k with
  | nil => rfl
  | cons i k =>
    cases i with
    | code c =>
      cases c with
      | cond c a b =>
        refine opd_no fun v hv => isB_no fun x hx => ?_
        subst hx
        simp only [stepCode, stepRC, hv]
        cases x <;> rfl
      | exit id =>
        refine rexit_no id (fun k => ih f rnd pv ds k e s (.op [])) _ k fun k' hk => ?_
        simp only [stepCode, stepRC, hk, exitV]
      | _ => rfl
    | _ => rfl
theorem hot_eq (P : Pg) (ih : RunT) (f : Nat) (rnd : Option Nat) (pv : Option V) (ds : List Dt) (k : List RI) (e : T V) (s : St) (d : Option Nat) (r : ROp) (gs : List GOp) :
    hot r e s (fun v => putF d e v fun e => ih f rnd pv ds k e s (.op gs)) (fun s => putF d e undV fun e => ih f rnd pv ds k e s (.op gs)) (stepOp P ih f rnd pv ds k e ⟨d, none, r⟩ gs s) = stepOp P ih f rnd pv ds k e ⟨d, none, r⟩ gs s := by
  have q : ∀ (q : VE → St → Option V), actV P.hb P.xf P.me r = .q q → ∀ v, q (evV e) s = some v → (putF d e v fun e => ih f rnd pv ds k e s (.op gs)) = stepOp P ih f rnd pv ds k e ⟨d, none, r⟩ gs s := by
    intro q hq v hv
    simp only [stepOp, guardV, stepAct, hq, hv, nxOp, putF_eq]
  have x : ∀ (x : VE → St → Option OR), actV P.hb P.xf P.me r = .x x → ∀ s', x (evV e) s = some (.v undV s') → (putF d e undV fun e => ih f rnd pv ds k e s' (.op gs)) = stepOp P ih f rnd pv ds k e ⟨d, none, r⟩ gs s := by
    intro x hx s' hv
    simp only [stepOp, guardV, stepAct, hx, hv, stepOut, nxOp, putF_eq]
  cases r with
  | mov a => exact hMov_no (s := s) (q _ rfl)
  | load1 a => exact hLoad_no (q _ rfl)
  | nilck a => exact hNil_no (s := s) (q _ rfl)
  | bin op t a b => exact hBin_no (s := s) (q _ rfl)
  | un op a => exact hUn_no (s := s) (q _ rfl)
  | cvInt k a => exact hCvt_no (s := s) (q _ rfl)
  | faddr n a => exact hFaddr_no (s := s) (q _ rfl)
  | fld1 n a => exact hFld_no (s := s) (q _ rfl)
  | ixS n a b => exact hIxS_no (s := s) (q _ rfl)
  | ixA n l a b => exact hIxA_no (s := s) (q _ rfl)
  | extr a n => exact hExtr_no (s := s) (q _ rfl)
  | lenS a => exact hLen_no (s := s) (q _ rfl)
  | store n a b => exact hStore_no (x _ rfl)
  | _ => rfl
theorem stepF_eq (P : Pg) (ih : RunT) : stepF P ih = stepV P ih := by
  funext f rnd pv ds k e s md
  cases md with
  | op ops =>
    cases ops with
    | nil => exact stepCodeF_eq P ih f rnd pv ds k e s
    | cons g gs =>
      obtain ⟨d, g, r⟩ := g
      cases g with
      | none => exact hot_eq P ih f rnd pv ds k e s d r gs
      | some g => rfl
  | _ => rfl
def runF (P : Pg) (n : Nat) : RunT := Nat.rec (motive := fun _ => RunT) (fun f _ _ _ _ _ _ _ => .bad f 0) (fun _ ih => stepF P ih) n
theorem runF_eq (P : Pg) : ∀ n, runF P n = run P n
  | 0 => rfl
  | n + 1 => by
    show stepF P (runF P n) = stepV P (run P n)
    rw [stepF_eq, runF_eq P n]
end
end Go.Lx
