/-
  Texts of this claim's own, laid into one: NodeNf.
-/
import Derived.Test.YtlomfgiokkhioaaGreatDoorRows
import Derived.JoinedOf
import Derived.KernelRfl
import Derived.Test.YtlomfgiokkhioaaGreatDoorXNodeNoneA
import Derived.Test.YtlomfgiokkhioaaGreatDoorXNodeNoneB
import Derived.Test.YtlomfgiokkhioaaGreatDoorXNodeNoneC
import Derived.Test.YtlomfgiokkhioaaGreatDoorXNodeNoneD
import Derived.Test.YtlomfgiokkhioaaGreatDoorXNodeNoneE
import Derived.Test.YtlomfgiokkhioaaGreatDoorXNodeNoneF
import Derived.Test.YtlomfgiokkhioaaGreatDoorXNodeNoneG
import Derived.Test.YtlomfgiokkhioaaGreatDoorXNodeNoneH
set_option linter.all false
/-
  The row's closed facts, one by one.
-/
namespace Go.Proofs.YtlomfgiokkhioaaGreatDoor.nodeNone
open Go
set_option maxRecDepth 100000
theorem and_ {a b : Bool} (h : a = true) (k : b = true) : (a && b) = true := by rw [h, k]; rfl
theorem fact0 : (Rows.nodeNoneRow.wf (OpenSpec.ofChange Rows.nodeNoneSpec)) = true := by kernel_rfl
theorem fact1 : (laidOutB Tryz.prog) = true := by kernel_rfl
theorem fact2 : (mapsRowed Tryz.prog) = true := by kernel_rfl
theorem fact3 : (Tryz.f4.params.all (Tryz.prog.readableRec ·)) = true := by kernel_rfl
theorem fact4 : (namedTie Tryz.prog Rows.nodeNoneRow.named Rows.nodeNoneSpec.vars) = true := by kernel_rfl
theorem fact5 : ((Rows.nodeNoneRow.stops == [])) = true := by kernel_rfl
theorem fact6 : ((Tryz.prog.stops == [])) = true := by kernel_rfl
theorem fact7 : ((Rows.nodeNoneRow.knobs == [])) = true := by kernel_rfl
theorem fact8 : ((Tryz.prog.stopKnobs == [])) = true := by kernel_rfl
theorem fact9 : ((Rows.nodeNoneRow.inPlace == Tryz.prog.inPlace 4)) = true := by kernel_rfl
theorem fact10 : ((Rows.nodeNoneRow.unfollowed == Tryz.prog.unfollowed 4)) = true := by kernel_rfl
theorem fact11 : ((Rows.nodeNoneRow.recurses == Tryz.prog.recurses 4)) = true := by kernel_rfl
theorem fact12 : ((Rows.nodeNoneRow.named == Tryz.prog.varsNamed 4)) = true := by kernel_rfl
theorem fact13 : ((Rows.nodeNoneRow.maps == (Tryz.f4.params.toList ++ Rows.nodeNoneSpec.plain.varTypes Tryz.prog).any (Tryz.prog.mapsRec ·))) = true := by kernel_rfl
theorem fact14 : ((Rows.nodeNoneRow.ifaces == (Tryz.f4.params.toList ++ Rows.nodeNoneSpec.plain.varTypes Tryz.prog).any (Tryz.prog.ifacesRec ·))) = true := by kernel_rfl
theorem fact15 : ((Rows.nodeNoneRow.mapsOut == Tryz.prog.mapsAmong Tryz.f4.resultTypes.toList)) = true := by kernel_rfl
theorem fact16 : ((Rows.nodeNoneRow.loops == (Tryz.f4.params.toList ++ Rows.nodeNoneSpec.plain.varTypes Tryz.prog).any (Tryz.prog.loopsFrom ·))) = true := by kernel_rfl
theorem fact17 : ((Rows.nodeNoneRow.wideKeys == (Tryz.f4.params.toList ++ Rows.nodeNoneSpec.plain.varTypes Tryz.prog ++ Tryz.f4.resultTypes.toList).any (Tryz.prog.wideKeysFrom ·))) = true := by kernel_rfl
theorem fact18 : (Rows.nodeNoneSpec.vars.all (Tryz.prog.varReadable ·)) = true := by kernel_rfl
theorem fact19 : (Tryz.f4.resultTypes.all (fun t => Tryz.prog.readableRec t && decide (t < Tryz.prog.types.size))) = true := by kernel_rfl
theorem fact20 : ((Rows.nodeNoneRow.ifacesOut == Tryz.f4.resultTypes.toList.any (Tryz.prog.ifacesRec ·))) = true := by kernel_rfl
theorem fact21 : ((Rows.nodeNoneRow.loopsOut == Tryz.f4.resultTypes.toList.any (Tryz.prog.loopsFrom ·))) = true := by kernel_rfl
theorem fact22 : ((Rows.nodeNoneRow.plainKeys == Tryz.prog.plainKeys)) = true := by kernel_rfl
theorem fact23 : (Rows.nodeNoneRow.shortTexts.isNone) = true := by kernel_rfl
theorem fact24 : (Tryz.prog.stopsHeard) = true := by kernel_rfl
theorem fact25 : (Tryz.prog.mayEnter) = true := by kernel_rfl
theorem fact26 : ((Rows.nodeNoneRow.lifted == Tryz.prog.liftsFinal)) = true := by kernel_rfl
theorem fact27 : ((Tryz.prog.make == some Rows.nodeNoneRow.make)) = true := by kernel_rfl
theorem fact28 : ((Rows.nodeNoneRow.kinds == (if Rows.nodeNoneRow.domain.isEmpty then [] else Tryz.f4.params.toList.map fun t => match Tryz.prog.underlying t with | some (.int k) => some k | _ => none))) = true := by kernel_rfl
theorem fact29 : ((Rows.nodeNoneRow.pinned == Rows.nodeNoneRow.pinnedBy)) = true := by kernel_rfl
theorem fact30 : ((Rows.nodeNoneRow.veiled == (Tryz.f4.params.toList ++ Rows.nodeNoneSpec.plain.varTypes Tryz.prog ++ Tryz.f4.resultTypes.toList).any (Tryz.prog.veiledRec ·))) = true := by kernel_rfl
theorem fact31 : (Rows.nodeNoneRow.veiledFits Tryz.prog Tryz.f4.params.toList (Tryz.f4.params.toList ++ Rows.nodeNoneSpec.plain.varTypes Tryz.prog ++ Tryz.f4.resultTypes.toList)) = true := by kernel_rfl
theorem closed : joinedFacts Tryz.prog 4 Tryz.f4 Rows.nodeNoneSpec Rows.nodeNoneRow = true := (and_ (and_ (and_ (and_ (and_ (and_ (and_ (and_ (and_ (and_ (and_ (and_ (and_ (and_ (and_ (and_ (and_ (and_ (and_ (and_ (and_ (and_ (and_ (and_ (and_ (and_ (and_ (and_ (and_ (and_ (and_ fact0 fact1) fact2) fact3) fact4) fact5) fact6) fact7) fact8) fact9) fact10) fact11) fact12) fact13) fact14) fact15) fact16) fact17) fact18) fact19) fact20) fact21) fact22) fact23) fact24) fact25) fact26) fact27) fact28) fact29) fact30) fact31)
end Go.Proofs.YtlomfgiokkhioaaGreatDoor.nodeNone
