/-
  Texts of this claim's own, laid into one: NodeLw.
-/
import Derived.Test.YtlomfgiokkhioaaGreatDoorXNodeNoneA
import Derived.Test.YtlomfgiokkhioaaGreatDoorXNodeNoneB
import Derived.Test.YtlomfgiokkhioaaGreatDoorXNodeNoneC
import Derived.Test.YtlomfgiokkhioaaGreatDoorXNodeNoneD
set_option linter.all false
/-
  The node's first look: true.
-/
namespace Go.Ev
open Go Go.Vc Go.RowKit Go.Proofs.YtlomfgiokkhioaaGreatDoor Go.Proofs
set_option maxRecDepth 1000000
theorem live_run : okR (callN ⟨Tryz.prog, tyT Tryz.prog, fs0⟩ 100 7 [] m0) = true := by kernel_rfl
theorem live_true (w : World) : Calls Tryz.prog 7 #[] w fun e w' => e = .returned (.bool true) ∧ St w [old w] w' := closed live_run (by kernel_rfl) w
end Go.Ev
