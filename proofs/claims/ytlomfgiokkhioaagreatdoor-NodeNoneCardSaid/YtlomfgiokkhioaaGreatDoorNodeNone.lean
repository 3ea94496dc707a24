/-
  The given statement: a nil node answers so: every deed and number. Its conditions: the row's own: the two listed tables of Go's library are laid as the program's text lays them.
-/
import Derived.Test.YtlomfgiokkhioaaGreatDoorCards
import Derived.Test.YtlomfgiokkhioaaGreatDoorTie
import Derived.Test.YtlomfgiokkhioaaGreatDoorXNodeNoneA
import Derived.Test.YtlomfgiokkhioaaGreatDoorXNodeNoneB
import Derived.Test.YtlomfgiokkhioaaGreatDoorXNodeNoneC
import Derived.Test.YtlomfgiokkhioaaGreatDoorXNodeNoneD
import Derived.Test.YtlomfgiokkhioaaGreatDoorXNodeNoneE
import Derived.Test.YtlomfgiokkhioaaGreatDoorXNodeNoneF
import Derived.Test.YtlomfgiokkhioaaGreatDoorXNodeNoneG
import Derived.Test.YtlomfgiokkhioaaGreatDoorXNodeNoneH
import Derived.Test.YtlomfgiokkhioaaGreatDoorXNodeNoneI
namespace Go.Proofs.YtlomfgiokkhioaaGreatDoor.nodeNone
open Go Go.RowKit
set_option maxRecDepth 100000
theorem progEq : Tryz.pinned.checked.prog = Tryz.prog := by kernel_rfl
theorem closed2 : joinedFacts Tryz.pinned.checked.prog 4 Tryz.f4 (OpenSpec.ofChange Rows.nodeNoneSpec).bare Rows.nodeNoneRow = true := by rw [progEq]; exact closed
theorem named_ : Tryz.pinned.checked.prog.funcNamed Rows.nodeNoneRow.func = some 4 := by kernel_rfl
theorem inst_ : Tryz.f4.isInstance Tryz.pinned.checked.prog Rows.nodeNoneRow.origin Rows.nodeNoneRow.targs := of_decide_eq_true (by kernel_rfl)
theorem wrap_ : Tryz.f4.isWrapper Tryz.pinned.checked.prog Rows.nodeNoneRow.wrapper Rows.nodeNoneRow.mainSum := by unfold Func.isWrapper; first | (rw [if_pos (by decide +kernel)]; kernel_rfl) | (rw [if_neg (by decide +kernel)]; exact ⟨rfl, rfl⟩)
theorem said : Rows.NodeNoneSaid :=
  OpenClaim.holds_of_cond 4 Tryz.f4 rfl rfl rfl rfl rfl rfl rfl ⟨rfl, rfl, rfl, rfl, rfl⟩ rfl rfl rfl rfl rfl named_ Tryz.func4 closed inst_ wrap_
    (fun os started H enc _ F => by rw [OpenClaim.pre_eq_preRow]; exact lifted os started H enc F)
theorem looks_ : true = Tryz.pinned.checked.prog.looks [] := by kernel_rfl
theorem stand0 : Tryz.pinned.checked.prog.wantsStandIn 40 = false := by kernel_rfl
theorem stand1 : Tryz.pinned.checked.prog.wantsStandIn 3 = false := by kernel_rfl
theorem byText : Rows.nodeNoneRow.wfByText (OpenSpec.ofChange Rows.nodeNoneSpec) = true := by kernel_rfl
theorem main_ : Tryz.pinned.checked.prog.mainIs = some (Rows.nodeNoneCard.stood.harness.1, Rows.nodeNoneCard.stood.harness.2.toList) := by kernel_rfl
theorem goes_ : false = Rows.nodeNoneRow.goesBy Tryz.pinned.checked.prog := by kernel_rfl
/-- No parameter wants a stand-in; the program's own looks are off: what the card asks. -/
theorem plain (f : FuncId) (fn : Func) (hf : Tryz.pinned.checked.prog.funcNamed Rows.nodeNoneRow.func = some f) (hfn : Tryz.pinned.checked.prog.funcs[f]? = some fn) :
    true = Tryz.pinned.checked.prog.looks [] ∧ ∀ (j : Nat) t, fn.params[j]? = some t → Tryz.pinned.checked.prog.wantsStandIn t = false := by
  obtain rfl : f = 4 := Option.some.inj (named_.symm.trans hf) |>.symm
  obtain rfl : fn = Tryz.f4 := (Option.some.inj (Tryz.func4.symm.trans hfn)).symm
  refine ⟨looks_, fun j t ht => ?_⟩
  rw [Tryz.params4] at ht
  have hm := Array.mem_of_getElem? ht
  simp only [List.mem_toArray, List.mem_cons, List.not_mem_nil, or_false] at hm
  rcases hm with rfl | rfl
  · exact stand0
  · exact stand1
/-- The given statement. -/
theorem proved : Rows.NodeNoneCardSaid :=
  Claim7.holds_tied_plain_at .later [] _ _ _ _ said (fun _ h => by cases h) byText (fun _ h => by cases h) nodeNone_row_tie rfl ⟨rfl, rfl⟩ main_ rfl plain goes_
#print axioms proved
end Go.Proofs.YtlomfgiokkhioaaGreatDoor.nodeNone
