/-
  No cell of these rows narrows 'for every input' (looked for: loops, veiled, ifaces, maps, wideKeys, modest, calm, conditions, laid).
  DERIVED. THE GIVEN ROWS OF THIS SEAT. 5 by the template 'for every input the law returns true; each argument reads behind the call as it read before'; 0 by the template 'total and deterministic' (their statements: YtclinifclfahfaaGreatTotals.lean).
  GIVEN WITH THE SEED: the statements are not yours to turn. If you find one false, say at which input.
  Laid BY PROGRAM, IN A SANDBOX (cutbox-rows.mjs): the forced cells as the released guide's own fill.sh prints them over the translation 47f52fca087c8365… (all of the seat's roots in one cut). By AI agents, Wed Nov 11 2026. No macro, syntax, notation, axiom, sorry.
-/
import Derived.Test.YtclinifclfahfaaGreatChecked
import GoSem.Claim
import GoSem.ClaimJoined
import GoSem.ClaimMapViews
import Derived.JoinedTies
import Derived.KernelRfl
namespace Go.Proofs.YtclinifclfahfaaGreat
/- THE CELL 'sum', in the pinned program and in every row, IS THE sha256 OF THE DUMP (.gsa) THAT YtclinifclfahfaaGreatProg.lean LOADS. Nothing in Lean hashes anything: it is a label: what it is worth is what the hold of that sum in a sandbox is worth. -/
noncomputable def Tryz.pinned : Pinned := { name := "ytclinifclfahfaagreat", sum := "47f52fca087c8365a0e5dafabbe43805a39d5981cc02cc0c834fdd47afeafd86", checked := Tryz.checked }
namespace Rows
def none {H : Type} : Left H := { results := [], args := [] }

/-- 'tollgatelaw07.SnapPuts': WHATEVER THE INPUT: true; the input reads as it did. -/
def snapPutsSpec : ChangeSpec := { name := "snapPuts", fn := fun _ => fun
  | [d] => { results := [.lit (.bool true)], args := [d] }
  | _ => none }
def snapPutsRow : OpenClaim := { program := "ytclinifclfahfaagreat", sum := "47f52fca087c8365a0e5dafabbe43805a39d5981cc02cc0c834fdd47afeafd86", func := "tollgate/tollgatelaw07.SnapPuts", spec := "snapPuts", unfollowed := true, recurses := true, apart := false }
def SnapPutsSaid : Prop := snapPutsRow.holds Tryz.pinned (OpenSpec.ofChange snapPutsSpec)

/-- ITS FALSE NEIGHBOUR: 'it returns false'. Refute it at one input. -/
def snapPutsWrong : ChangeSpec := { name := "snapPuts", fn := fun _ => fun
  | [d] => { results := [.lit (.bool false)], args := [d] }
  | _ => none }
def SnapPutsWrongFalsely : Prop := snapPutsRow.holds Tryz.pinned (OpenSpec.ofChange snapPutsWrong)

/-- 'tollgatelaw07.SnapGets': WHATEVER THE INPUT: true; the input reads as it did. -/
def snapGetsSpec : ChangeSpec := { name := "snapGets", fn := fun _ => fun
  | [d] => { results := [.lit (.bool true)], args := [d] }
  | _ => none }
def snapGetsRow : OpenClaim := { program := "ytclinifclfahfaagreat", sum := "47f52fca087c8365a0e5dafabbe43805a39d5981cc02cc0c834fdd47afeafd86", func := "tollgate/tollgatelaw07.SnapGets", spec := "snapGets", unfollowed := true, recurses := true, apart := false }
def SnapGetsSaid : Prop := snapGetsRow.holds Tryz.pinned (OpenSpec.ofChange snapGetsSpec)

/-- ITS FALSE NEIGHBOUR: 'it returns false'. Refute it at one input. -/
def snapGetsWrong : ChangeSpec := { name := "snapGets", fn := fun _ => fun
  | [d] => { results := [.lit (.bool false)], args := [d] }
  | _ => none }
def SnapGetsWrongFalsely : Prop := snapGetsRow.holds Tryz.pinned (OpenSpec.ofChange snapGetsWrong)

/-- 'tollgatelaw07.SnapFramed': WHATEVER THE INPUT: true; the input reads as it did. -/
def snapFramedSpec : ChangeSpec := { name := "snapFramed", fn := fun _ => fun
  | [d] => { results := [.lit (.bool true)], args := [d] }
  | _ => none }
def snapFramedRow : OpenClaim := { program := "ytclinifclfahfaagreat", sum := "47f52fca087c8365a0e5dafabbe43805a39d5981cc02cc0c834fdd47afeafd86", func := "tollgate/tollgatelaw07.SnapFramed", spec := "snapFramed", unfollowed := true, recurses := true, apart := false }
def SnapFramedSaid : Prop := snapFramedRow.holds Tryz.pinned (OpenSpec.ofChange snapFramedSpec)

/-- ITS FALSE NEIGHBOUR: 'it returns false'. Refute it at one input. -/
def snapFramedWrong : ChangeSpec := { name := "snapFramed", fn := fun _ => fun
  | [d] => { results := [.lit (.bool false)], args := [d] }
  | _ => none }
def SnapFramedWrongFalsely : Prop := snapFramedRow.holds Tryz.pinned (OpenSpec.ofChange snapFramedWrong)

/-- 'tollgatelaw07.SnapSaves': WHATEVER THE INPUT: true; the input reads as it did. -/
def snapSavesSpec : ChangeSpec := { name := "snapSaves", fn := fun _ => fun
  | [d1, d2] => { results := [.lit (.bool true)], args := [d1, d2] }
  | _ => none }
def snapSavesRow : OpenClaim := { program := "ytclinifclfahfaagreat", sum := "47f52fca087c8365a0e5dafabbe43805a39d5981cc02cc0c834fdd47afeafd86", func := "tollgate/tollgatelaw07.SnapSaves", spec := "snapSaves", unfollowed := true, recurses := true, apart := false }
def SnapSavesSaid : Prop := snapSavesRow.holds Tryz.pinned (OpenSpec.ofChange snapSavesSpec)

/-- ITS FALSE NEIGHBOUR: 'it returns false'. Refute it at one input. -/
def snapSavesWrong : ChangeSpec := { name := "snapSaves", fn := fun _ => fun
  | [d1, d2] => { results := [.lit (.bool false)], args := [d1, d2] }
  | _ => none }
def SnapSavesWrongFalsely : Prop := snapSavesRow.holds Tryz.pinned (OpenSpec.ofChange snapSavesWrong)

/-- 'tollgatelaw07.SnapGathers': WHATEVER THE INPUT: true; the input reads as it did. -/
def snapGathersSpec : ChangeSpec := { name := "snapGathers", fn := fun _ => fun
  | [d] => { results := [.lit (.bool true)], args := [d] }
  | _ => none }
def snapGathersRow : OpenClaim := { program := "ytclinifclfahfaagreat", sum := "47f52fca087c8365a0e5dafabbe43805a39d5981cc02cc0c834fdd47afeafd86", func := "tollgate/tollgatelaw07.SnapGathers", spec := "snapGathers", unfollowed := true, recurses := true, apart := false }
def SnapGathersSaid : Prop := snapGathersRow.holds Tryz.pinned (OpenSpec.ofChange snapGathersSpec)

/-- ITS FALSE NEIGHBOUR: 'it returns false'. Refute it at one input. -/
def snapGathersWrong : ChangeSpec := { name := "snapGathers", fn := fun _ => fun
  | [d] => { results := [.lit (.bool false)], args := [d] }
  | _ => none }
def SnapGathersWrongFalsely : Prop := snapGathersRow.holds Tryz.pinned (OpenSpec.ofChange snapGathersWrong)

/- THE SECOND FORM. 'bulk': how many values and letters a reading holds, each counted each time it is reached (what is shared counts as often as it is met; a slice's spare places count too). A statement '..UptoSaid' is the law's where the arguments, and the package variables that the reading takes, are together of bulk at most 1048576: NARROWER than '..Said'. Prove '..Said' where nothing that the law and all that it calls make is longer than what came in: it says more and counts as full. Else prove '..UptoSaid'. A law counts once. -/
mutual
def uptoBulk {H : Type} : DataW H → Nat
  | .lit (.string bytes) => bytes.length + 1
  | .lit _ => 1
  | .nil => 1
  | .ptr d => uptoBulk d + 1
  | .slice elems spare => uptoBulkAll elems + uptoBulkAll spare + 1
  | .agg parts => uptoBulkAll parts + 1
  | .iface _ d => uptoBulk d + 1
  | .map entries => uptoBulkEntries entries + 1
  | .held _ => 1
def uptoBulkAll {H : Type} : List (DataW H) → Nat
  | [] => 0
  | d :: r => uptoBulk d + uptoBulkAll r
def uptoBulkEntries {H : Type} : List (Lit × DataW H) → Nat
  | [] => 0
  | x :: r => uptoBulkEntry x + uptoBulkEntries r
def uptoBulkEntry {H : Type} : Lit × DataW H → Nat
  | (.string bytes, d) => bytes.length + uptoBulk d + 1
  | (_, d) => uptoBulk d + 1
 end
def uptoSmall : (H : Type) → List (DataW H) → Bool := fun _ ds => decide (uptoBulkAll ds ≤ 1048576)
def OpenSpec.upto (s : _root_.Go.ChangeSpec) : _root_.Go.OpenSpec := { _root_.Go.OpenSpec.ofChange s with cond := some uptoSmall }

/-- 'tollgatelaw07.SnapPuts', WHERE WHAT IT READS IS OF BULK AT MOST 1048576: true; the input reads as it did. -/
def snapPutsUptoRow : OpenClaim := { program := "ytclinifclfahfaagreat", sum := "47f52fca087c8365a0e5dafabbe43805a39d5981cc02cc0c834fdd47afeafd86", func := "tollgate/tollgatelaw07.SnapPuts", spec := "snapPuts", unfollowed := true, recurses := true, apart := false, narrowed := true }
def SnapPutsUptoSaid : Prop := snapPutsUptoRow.holds Tryz.pinned (OpenSpec.upto snapPutsSpec)

/-- 'tollgatelaw07.SnapGets', WHERE WHAT IT READS IS OF BULK AT MOST 1048576: true; the input reads as it did. -/
def snapGetsUptoRow : OpenClaim := { program := "ytclinifclfahfaagreat", sum := "47f52fca087c8365a0e5dafabbe43805a39d5981cc02cc0c834fdd47afeafd86", func := "tollgate/tollgatelaw07.SnapGets", spec := "snapGets", unfollowed := true, recurses := true, apart := false, narrowed := true }
def SnapGetsUptoSaid : Prop := snapGetsUptoRow.holds Tryz.pinned (OpenSpec.upto snapGetsSpec)

/-- 'tollgatelaw07.SnapFramed', WHERE WHAT IT READS IS OF BULK AT MOST 1048576: true; the input reads as it did. -/
def snapFramedUptoRow : OpenClaim := { program := "ytclinifclfahfaagreat", sum := "47f52fca087c8365a0e5dafabbe43805a39d5981cc02cc0c834fdd47afeafd86", func := "tollgate/tollgatelaw07.SnapFramed", spec := "snapFramed", unfollowed := true, recurses := true, apart := false, narrowed := true }
def SnapFramedUptoSaid : Prop := snapFramedUptoRow.holds Tryz.pinned (OpenSpec.upto snapFramedSpec)

/-- 'tollgatelaw07.SnapSaves', WHERE WHAT IT READS IS OF BULK AT MOST 1048576: true; the input reads as it did. -/
def snapSavesUptoRow : OpenClaim := { program := "ytclinifclfahfaagreat", sum := "47f52fca087c8365a0e5dafabbe43805a39d5981cc02cc0c834fdd47afeafd86", func := "tollgate/tollgatelaw07.SnapSaves", spec := "snapSaves", unfollowed := true, recurses := true, apart := false, narrowed := true }
def SnapSavesUptoSaid : Prop := snapSavesUptoRow.holds Tryz.pinned (OpenSpec.upto snapSavesSpec)

/-- 'tollgatelaw07.SnapGathers', WHERE WHAT IT READS IS OF BULK AT MOST 1048576: true; the input reads as it did. -/
def snapGathersUptoRow : OpenClaim := { program := "ytclinifclfahfaagreat", sum := "47f52fca087c8365a0e5dafabbe43805a39d5981cc02cc0c834fdd47afeafd86", func := "tollgate/tollgatelaw07.SnapGathers", spec := "snapGathers", unfollowed := true, recurses := true, apart := false, narrowed := true }
def SnapGathersUptoSaid : Prop := snapGathersUptoRow.holds Tryz.pinned (OpenSpec.upto snapGathersSpec)

end Rows
end Go.Proofs.YtclinifclfahfaaGreat
