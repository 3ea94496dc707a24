/-
  The given statement: a nil cluster, and nodes that there are not, answer so: every step and number. Its conditions: the row's own: the two listed tables of Go's library are laid as the program's text lays them.
-/
import Derived.Test.YtaocnfjhfmapkaaGreatDoorCards
import Derived.Test.YtaocnfjhfmapkaaGreatDoorTie
import Derived.Test.YtaocnfjhfmapkaaGreatDoorXClusterNoneA
import Derived.Test.YtaocnfjhfmapkaaGreatDoorXClusterNoneB
import Derived.Test.YtaocnfjhfmapkaaGreatDoorXClusterNoneC
import Derived.Test.YtaocnfjhfmapkaaGreatDoorXClusterNoneD
import Derived.Test.YtaocnfjhfmapkaaGreatDoorXClusterNoneE
import Derived.Test.YtaocnfjhfmapkaaGreatDoorXClusterNoneF
import Derived.Test.YtaocnfjhfmapkaaGreatDoorXClusterNoneG
import Derived.Test.YtaocnfjhfmapkaaGreatDoorXClusterNoneH
import Derived.Test.YtaocnfjhfmapkaaGreatDoorXClusterNoneI
import Derived.Test.YtaocnfjhfmapkaaGreatDoorXClusterNoneJ
import Derived.Test.YtaocnfjhfmapkaaGreatDoorXClusterNoneK
import Derived.Test.YtaocnfjhfmapkaaGreatDoorXClusterNoneL
import Derived.Test.YtaocnfjhfmapkaaGreatDoorXClusterNoneM
namespace Go.Proofs.YtaocnfjhfmapkaaGreatDoor.clusterNone
open Go Go.RowKit
set_option maxRecDepth 100000
theorem progEq : Tryz.pinned.checked.prog = Tryz.prog := by kernel_rfl
theorem closed2 : joinedFacts Tryz.pinned.checked.prog 3 Tryz.f3 (OpenSpec.ofChange Rows.clusterNoneSpec).bare Rows.clusterNoneRow = true := by rw [progEq]; exact closed
theorem named_ : Tryz.pinned.checked.prog.funcNamed Rows.clusterNoneRow.func = some 3 := by kernel_rfl
theorem inst_ : Tryz.f3.isInstance Tryz.pinned.checked.prog Rows.clusterNoneRow.origin Rows.clusterNoneRow.targs := of_decide_eq_true (by kernel_rfl)
theorem wrap_ : Tryz.f3.isWrapper Tryz.pinned.checked.prog Rows.clusterNoneRow.wrapper Rows.clusterNoneRow.mainSum := by unfold Func.isWrapper; first | (rw [if_pos (by decide +kernel)]; kernel_rfl) | (rw [if_neg (by decide +kernel)]; exact ⟨rfl, rfl⟩)
theorem said : Rows.ClusterNoneSaid :=
  OpenClaim.holds_of_cond 3 Tryz.f3 rfl rfl rfl rfl rfl rfl rfl ⟨rfl, rfl, rfl, rfl, rfl⟩ rfl rfl rfl rfl rfl named_ Tryz.func3 closed inst_ wrap_
    (fun os started H enc _ F => by rw [OpenClaim.pre_eq_preRow]; exact lifted os started H enc F)
theorem stand0 : Tryz.pinned.checked.prog.wantsStandIn 32 = false := by kernel_rfl
theorem stand1 : Tryz.pinned.checked.prog.wantsStandIn 3 = false := by kernel_rfl
theorem byText : Rows.clusterNoneRow.wfByText (OpenSpec.ofChange Rows.clusterNoneSpec) = true := by kernel_rfl
/-- No parameter wants a stand-in; the program's own looks are off: what the card asks. -/
theorem plain (f : FuncId) (fn : Func) (hf : Tryz.pinned.checked.prog.funcNamed Rows.clusterNoneRow.func = some f) (hfn : Tryz.pinned.checked.prog.funcs[f]? = some fn) :
    true = Tryz.pinned.checked.prog.looks [] ∧ ∀ (j : Nat) t, fn.params[j]? = some t → Tryz.pinned.checked.prog.wantsStandIn t = false := by
  obtain rfl : f = 3 := Option.some.inj (named_.symm.trans hf) |>.symm
  obtain rfl : fn = Tryz.f3 := (Option.some.inj (Tryz.func3.symm.trans hfn)).symm
  refine ⟨looks_, fun j t ht => ?_⟩
  rw [Tryz.params3] at ht
  have hm := Array.mem_of_getElem? ht
  simp only [List.mem_toArray, List.mem_cons, List.not_mem_nil, or_false] at hm
  rcases hm with rfl | rfl
  · exact stand0
  · exact stand1
/-- The given statement. -/
theorem proved : Rows.ClusterNoneCardSaid :=
  Claim7.holds_tied_plain_at .later [] _ _ _ _ said (fun _ h => by cases h) byText (fun _ h => by cases h) clusterNone_row_tie rfl ⟨rfl, rfl⟩ main_ rfl plain goes_
#print axioms proved
end Go.Proofs.YtaocnfjhfmapkaaGreatDoor.clusterNone
