/-
  DERIVED. GIVEN WITH THE SEED: THE CARDS: each row of YtaocnfjhfmapkaaGreatDoorRows.lean that lists a variable, with what it lists TIED to the program's text (the seventh form; the later family's looks); each row that meets fmt, with fmt's text TOLD by the authors' own Lean function (tested against real Go, not proved from fmt's source: count such statements apart). THE CARD IS WHAT COUNTS. Prove the row's statement (the work); the ties are given (YtaocnfjhfmapkaaGreatDoorTie.lean); close each card by the builder's one call (the guide's Derived/Test/ToyasCard.lean, 'card_holds'). Laid BY PROGRAM, IN A SANDBOX (cutbox-door.mjs). By AI agents, Wed Nov 11 2026. No macro, syntax, notation, axiom, sorry.
-/
import Derived.Test.YtaocnfjhfmapkaaGreatDoorRows
import GoSem.ClaimSeven
namespace Go.Proofs.YtaocnfjhfmapkaaGreatDoor
namespace Rows

/-- THE TIED CARD OF 'tollgatelaw13.ClusterNone'. -/
def clusterNoneCard : Claim7 := { stood := { row := clusterNoneRow, standIns := [], harness := (true, "3862dd7ea0ef49c8f82478cb533c08543c164897bb04fdd15caf1c91202271ea"), looks := true }, kinds := [], alts := [], laidByText := true, laidKinds := [.data, .pinned], laidTests := true, laidLooks := .later }
def ClusterNoneCardSaid : Prop := Claim7.holds Tryz.pinned (.plain (OpenSpec.ofChange clusterNoneSpec)) clusterNoneCard

/-- THE SECOND FORM's CARD OF 'tollgatelaw13.ClusterNone'. -/
def clusterNoneUptoCard : Claim7 := { stood := { row := clusterNoneUptoRow, standIns := [], harness := (true, "3862dd7ea0ef49c8f82478cb533c08543c164897bb04fdd15caf1c91202271ea"), looks := true }, kinds := [], alts := [], laidByText := true, laidKinds := [.data, .pinned], laidTests := true, laidLooks := .later }
def ClusterNoneUptoCardSaid : Prop := Claim7.holds Tryz.pinned (.plain (OpenSpec.upto clusterNoneSpec)) clusterNoneUptoCard
end Rows
end Go.Proofs.YtaocnfjhfmapkaaGreatDoor
