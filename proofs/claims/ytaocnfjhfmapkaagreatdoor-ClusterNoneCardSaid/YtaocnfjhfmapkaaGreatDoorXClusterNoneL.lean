/-
  Texts of this claim's own, laid into one: ClusNf.
-/
import Derived.Test.YtaocnfjhfmapkaaGreatDoorRows
import Derived.JoinedOf
import Derived.KernelRfl
import Derived.Test.YtaocnfjhfmapkaaGreatDoorXClusterNoneA
import Derived.Test.YtaocnfjhfmapkaaGreatDoorXClusterNoneB
import Derived.Test.YtaocnfjhfmapkaaGreatDoorXClusterNoneC
import Derived.Test.YtaocnfjhfmapkaaGreatDoorXClusterNoneD
import Derived.Test.YtaocnfjhfmapkaaGreatDoorXClusterNoneE
import Derived.Test.YtaocnfjhfmapkaaGreatDoorXClusterNoneF
import Derived.Test.YtaocnfjhfmapkaaGreatDoorXClusterNoneG
import Derived.Test.YtaocnfjhfmapkaaGreatDoorXClusterNoneH
import Derived.Test.YtaocnfjhfmapkaaGreatDoorXClusterNoneI
import Derived.Test.YtaocnfjhfmapkaaGreatDoorXClusterNoneJ
import Derived.Test.YtaocnfjhfmapkaaGreatDoorXClusterNoneK
set_option linter.all false
/-
  The row's closed facts, one by one.
-/
namespace Go.Proofs.YtaocnfjhfmapkaaGreatDoor.clusterNone
open Go
set_option maxRecDepth 100000
theorem and_ {a b : Bool} (h : a = true) (k : b = true) : (a && b) = true := by rw [h, k]; rfl
theorem fact0 : (Rows.clusterNoneRow.wf (OpenSpec.ofChange Rows.clusterNoneSpec)) = true := by kernel_rfl
theorem fact1 : (laidOutB Tryz.prog) = true := by kernel_rfl
theorem fact2 : (mapsRowed Tryz.prog) = true := by kernel_rfl
theorem fact3 : (Tryz.f3.params.all (Tryz.prog.readableRec ·)) = true := by kernel_rfl
theorem fact4 : (namedTie Tryz.prog Rows.clusterNoneRow.named Rows.clusterNoneSpec.vars) = true := by kernel_rfl
theorem fact5 : ((Rows.clusterNoneRow.stops == [])) = true := by kernel_rfl
theorem fact6 : ((Tryz.prog.stops == [])) = true := by kernel_rfl
theorem fact7 : ((Rows.clusterNoneRow.knobs == [])) = true := by kernel_rfl
theorem fact8 : ((Tryz.prog.stopKnobs == [])) = true := by kernel_rfl
theorem fact9 : ((Rows.clusterNoneRow.inPlace == Tryz.prog.inPlace 3)) = true := by kernel_rfl
theorem fact10 : ((Rows.clusterNoneRow.unfollowed == Tryz.prog.unfollowed 3)) = true := by kernel_rfl
theorem fact11 : ((Rows.clusterNoneRow.recurses == Tryz.prog.recurses 3)) = true := by kernel_rfl
theorem fact12 : ((Rows.clusterNoneRow.named == Tryz.prog.varsNamed 3)) = true := by kernel_rfl
theorem fact13 : ((Rows.clusterNoneRow.maps == (Tryz.f3.params.toList ++ Rows.clusterNoneSpec.plain.varTypes Tryz.prog).any (Tryz.prog.mapsRec ·))) = true := by kernel_rfl
theorem fact14 : ((Rows.clusterNoneRow.ifaces == (Tryz.f3.params.toList ++ Rows.clusterNoneSpec.plain.varTypes Tryz.prog).any (Tryz.prog.ifacesRec ·))) = true := by kernel_rfl
theorem fact15 : ((Rows.clusterNoneRow.mapsOut == Tryz.prog.mapsAmong Tryz.f3.resultTypes.toList)) = true := by kernel_rfl
theorem fact16 : ((Rows.clusterNoneRow.loops == (Tryz.f3.params.toList ++ Rows.clusterNoneSpec.plain.varTypes Tryz.prog).any (Tryz.prog.loopsFrom ·))) = true := by kernel_rfl
theorem fact17 : ((Rows.clusterNoneRow.wideKeys == (Tryz.f3.params.toList ++ Rows.clusterNoneSpec.plain.varTypes Tryz.prog ++ Tryz.f3.resultTypes.toList).any (Tryz.prog.wideKeysFrom ·))) = true := by kernel_rfl
theorem fact18 : (Rows.clusterNoneSpec.vars.all (Tryz.prog.varReadable ·)) = true := by kernel_rfl
theorem fact19 : (Tryz.f3.resultTypes.all (fun t => Tryz.prog.readableRec t && decide (t < Tryz.prog.types.size))) = true := by kernel_rfl
theorem fact20 : ((Rows.clusterNoneRow.ifacesOut == Tryz.f3.resultTypes.toList.any (Tryz.prog.ifacesRec ·))) = true := by kernel_rfl
theorem fact21 : ((Rows.clusterNoneRow.loopsOut == Tryz.f3.resultTypes.toList.any (Tryz.prog.loopsFrom ·))) = true := by kernel_rfl
theorem fact22 : ((Rows.clusterNoneRow.plainKeys == Tryz.prog.plainKeys)) = true := by kernel_rfl
theorem fact23 : (Rows.clusterNoneRow.shortTexts.isNone) = true := by kernel_rfl
theorem fact24 : (Tryz.prog.stopsHeard) = true := by kernel_rfl
theorem fact25 : (Tryz.prog.mayEnter) = true := by kernel_rfl
theorem fact26 : ((Rows.clusterNoneRow.lifted == Tryz.prog.liftsFinal)) = true := by kernel_rfl
theorem fact27 : ((Tryz.prog.make == some Rows.clusterNoneRow.make)) = true := by kernel_rfl
theorem fact28 : ((Rows.clusterNoneRow.kinds == (if Rows.clusterNoneRow.domain.isEmpty then [] else Tryz.f3.params.toList.map fun t => match Tryz.prog.underlying t with | some (.int k) => some k | _ => none))) = true := by kernel_rfl
theorem fact29 : ((Rows.clusterNoneRow.pinned == Rows.clusterNoneRow.pinnedBy)) = true := by kernel_rfl
theorem fact30 : ((Rows.clusterNoneRow.veiled == (Tryz.f3.params.toList ++ Rows.clusterNoneSpec.plain.varTypes Tryz.prog ++ Tryz.f3.resultTypes.toList).any (Tryz.prog.veiledRec ·))) = true := by kernel_rfl
theorem fact31 : (Rows.clusterNoneRow.veiledFits Tryz.prog Tryz.f3.params.toList (Tryz.f3.params.toList ++ Rows.clusterNoneSpec.plain.varTypes Tryz.prog ++ Tryz.f3.resultTypes.toList)) = true := by kernel_rfl
theorem closed : joinedFacts Tryz.prog 3 Tryz.f3 Rows.clusterNoneSpec Rows.clusterNoneRow = true := (and_ (and_ (and_ (and_ (and_ (and_ (and_ (and_ (and_ (and_ (and_ (and_ (and_ (and_ (and_ (and_ (and_ (and_ (and_ (and_ (and_ (and_ (and_ (and_ (and_ (and_ (and_ (and_ (and_ (and_ (and_ fact0 fact1) fact2) fact3) fact4) fact5) fact6) fact7) fact8) fact9) fact10) fact11) fact12) fact13) fact14) fact15) fact16) fact17) fact18) fact19) fact20) fact21) fact22) fact23) fact24) fact25) fact26) fact27) fact28) fact29) fact30) fact31)
end Go.Proofs.YtaocnfjhfmapkaaGreatDoor.clusterNone
