/- The run of WalNone: the runner answers true, whatever the argument. -/
import Derived.Test.YtbmncepaajkngaaGreatWalTabB
import Derived.KernelRfl
namespace Go.Proofs.YtbmncepaajkngaaGreat
open Go.Lx
noncomputable def walG : Pg := ⟨fun i => tab.get i, fun i => xfT.get i, fun _ _ => none⟩
/-- Steps enough. -/
noncomputable def walN : Nat := 100000000
theorem wal_run (u : Value) : isT (enterV walG (runF walG walN) 4 none [.o u] st0) = true := by kernel_rfl
end Go.Proofs.YtbmncepaajkngaaGreat
