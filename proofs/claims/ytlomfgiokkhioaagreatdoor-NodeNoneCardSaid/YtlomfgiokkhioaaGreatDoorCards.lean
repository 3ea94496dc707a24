/-
  DERIVED. GIVEN WITH THE SEED: THE CARDS: each row of YtlomfgiokkhioaaGreatDoorRows.lean that lists a variable, with what it lists TIED to the program's text (the seventh form; the later family's looks); each row that meets fmt, with fmt's text TOLD by the authors' own Lean function (tested against real Go, not proved from fmt's source: count such statements apart). THE CARD IS WHAT COUNTS. Prove the row's statement (the work); the ties are given (YtlomfgiokkhioaaGreatDoorTie.lean); close each card by the builder's one call (the guide's Derived/Test/ToyasCard.lean, 'card_holds'). Laid BY PROGRAM, IN A SANDBOX (cutbox-door.mjs). By AI agents, Wed Nov 11 2026. No macro, syntax, notation, axiom, sorry.
-/
import Derived.Test.YtlomfgiokkhioaaGreatDoorRows
import GoSem.ClaimSeven
namespace Go.Proofs.YtlomfgiokkhioaaGreatDoor
namespace Rows

/-- THE TIED CARD OF 'tollgatelaw12.NodeServes'. -/
def nodeServesCard : Claim7 := { stood := { row := nodeServesRow, standIns := [], harness := (true, "866a09fbe08e8703bc684287478a3a9ccd3b352e46f6df4763ddb27038633b9c"), looks := true }, kinds := [], alts := [], laidByText := true, laidKinds := [.data, .pinned], laidTests := true, laidLooks := .later }
def NodeServesCardSaid : Prop := Claim7.holds Tryz.pinned (.plain (OpenSpec.ofChange nodeServesSpec)) nodeServesCard

/-- THE TIED CARD OF 'tollgatelaw12.NodeNone'. -/
def nodeNoneCard : Claim7 := { stood := { row := nodeNoneRow, standIns := [], harness := (true, "866a09fbe08e8703bc684287478a3a9ccd3b352e46f6df4763ddb27038633b9c"), looks := true }, kinds := [], alts := [], laidByText := true, laidKinds := [.data, .pinned], laidTests := true, laidLooks := .later }
def NodeNoneCardSaid : Prop := Claim7.holds Tryz.pinned (.plain (OpenSpec.ofChange nodeNoneSpec)) nodeNoneCard

/-- THE SECOND FORM's CARD OF 'tollgatelaw12.NodeServes'. -/
def nodeServesUptoCard : Claim7 := { stood := { row := nodeServesUptoRow, standIns := [], harness := (true, "866a09fbe08e8703bc684287478a3a9ccd3b352e46f6df4763ddb27038633b9c"), looks := true }, kinds := [], alts := [], laidByText := true, laidKinds := [.data, .pinned], laidTests := true, laidLooks := .later }
def NodeServesUptoCardSaid : Prop := Claim7.holds Tryz.pinned (.plain (OpenSpec.upto nodeServesSpec)) nodeServesUptoCard

/-- THE SECOND FORM's CARD OF 'tollgatelaw12.NodeNone'. -/
def nodeNoneUptoCard : Claim7 := { stood := { row := nodeNoneUptoRow, standIns := [], harness := (true, "866a09fbe08e8703bc684287478a3a9ccd3b352e46f6df4763ddb27038633b9c"), looks := true }, kinds := [], alts := [], laidByText := true, laidKinds := [.data, .pinned], laidTests := true, laidLooks := .later }
def NodeNoneUptoCardSaid : Prop := Claim7.holds Tryz.pinned (.plain (OpenSpec.upto nodeNoneSpec)) nodeNoneUptoCard
end Rows
end Go.Proofs.YtlomfgiokkhioaaGreatDoor
