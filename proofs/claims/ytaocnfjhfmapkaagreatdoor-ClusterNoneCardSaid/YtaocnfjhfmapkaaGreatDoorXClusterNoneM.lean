/-
  Texts of this claim's own, laid into one: ClusNg.
-/
import Derived.Test.YtaocnfjhfmapkaaGreatDoorCards
import Derived.Test.YtaocnfjhfmapkaaGreatDoorRows
import Derived.Test.YtaocnfjhfmapkaaGreatDoorTie
import Derived.KernelRfl
import Derived.Test.YtaocnfjhfmapkaaGreatDoorXClusterNoneA
import Derived.Test.YtaocnfjhfmapkaaGreatDoorXClusterNoneB
import Derived.Test.YtaocnfjhfmapkaaGreatDoorXClusterNoneC
import Derived.Test.YtaocnfjhfmapkaaGreatDoorXClusterNoneD
import Derived.Test.YtaocnfjhfmapkaaGreatDoorXClusterNoneE
import Derived.Test.YtaocnfjhfmapkaaGreatDoorXClusterNoneF
import Derived.Test.YtaocnfjhfmapkaaGreatDoorXClusterNoneG
import Derived.Test.YtaocnfjhfmapkaaGreatDoorXClusterNoneH
import Derived.Test.YtaocnfjhfmapkaaGreatDoorXClusterNoneI
import Derived.Test.YtaocnfjhfmapkaaGreatDoorXClusterNoneJ
import Derived.Test.YtaocnfjhfmapkaaGreatDoorXClusterNoneK
import Derived.Test.YtaocnfjhfmapkaaGreatDoorXClusterNoneL
set_option linter.all false
/-
  The card's closed facts that take much memory.
-/
namespace Go.Proofs.YtaocnfjhfmapkaaGreatDoor.clusterNone
open Go
set_option maxRecDepth 100000
theorem goes_none {P : Program} (h : P.funcs.any Func.goes = false) (f : FuncId) : P.goes f = false := by
  have ha : ∀ g : Nat, (P.funcs[g]?).any Func.goes = false := fun g => by
    cases hg : P.funcs[g]? with
    | none => rfl
    | some fn =>
      rw [Array.any_eq_false] at h
      obtain ⟨hl, he⟩ := Array.getElem?_eq_some_iff.1 hg
      have := h g hl
      rw [he] at this
      simpa using this
  unfold Program.goes
  rw [h, Bool.and_false, Bool.or_false]
  have : ∀ l : List FuncId, (l.any fun g => (P.funcs[g]?).any Func.goes) = false := fun l => by
    induction l with
    | nil => rfl
    | cons g l ih => rw [List.any_cons, ih, ha]; rfl
  first | exact this _ | (rw [← Array.any_toList]; exact this _)
theorem goes_by {P : Program} (h : P.funcs.any Func.goes = false) (c : OpenClaim) : c.goesBy P = false := by
  unfold OpenClaim.goesBy Program.goesAt Program.goesFrom
  have e : P.goes = fun _ => false := funext (goes_none h)
  have e2 : (P.funcNamed c.func).any P.goes = false := by rw [e]; cases P.funcNamed c.func <;> rfl
  have e3 : P.inits.toList.any P.goes = false := by rw [e]; induction P.inits.toList <;> simp_all
  rw [e2, e3]
  cases c.start <;> rfl
theorem looks_ : true = Tryz.pinned.checked.prog.looks [] := by kernel_rfl
theorem main_ : Tryz.pinned.checked.prog.mainIs = some (Rows.clusterNoneCard.stood.harness.1, Rows.clusterNoneCard.stood.harness.2.toList) := by kernel_rfl
theorem none_goes : Tryz.pinned.checked.prog.funcs.any Func.goes = false := by kernel_rfl
theorem goes_ : false = Rows.clusterNoneRow.goesBy Tryz.pinned.checked.prog := (goes_by none_goes _).symm
end Go.Proofs.YtaocnfjhfmapkaaGreatDoor.clusterNone
