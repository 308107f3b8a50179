/- The run of SstNone: the runner answers true, whatever the argument. -/
import Derived.Test.YtbmncepaajkngaaGreatSstCodeB
import Derived.Test.YtbmncepaajkngaaGreatLxFast
namespace Go.Proofs.YtbmncepaajkngaaGreat
open Go.Lx
noncomputable def sstG : Pg := ⟨fun i => tab.get i, fun i => xfT.get i, fun _ _ => none⟩
theorem sstG_ok : PgOK drawSegs Tryz.prog sstG := ⟨fun f x h => TAll.get tab_ok f x h, fun f x h => TAll.get xfT_ok f x h, fun t n f h => by cases h⟩
/-- Steps enough. -/
noncomputable def sstN : Nat := 100000000
theorem sst_run (u : Value) : isT (enterV sstG (runF sstG sstN) 3 none [.o u] st0) = true := by kernel_rfl
end Go.Proofs.YtbmncepaajkngaaGreat
