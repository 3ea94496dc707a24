/-
  No cell of these rows narrows 'for every input' (looked for: loops, veiled, ifaces, maps, wideKeys, modest, calm, conditions, laid).
  DERIVED. THE GIVEN ROWS OF THIS SEAT. 6 by the template 'for every input the law returns true; each argument reads behind the call as it read before'; 0 by the template 'total and deterministic' (their statements: YtclinifclfahfaaTotals.lean).
  GIVEN WITH THE SEED: the statements are not yours to turn. If you find one false, say at which input.
  Laid BY PROGRAM, IN A SANDBOX (cutbox-rows.mjs): the forced cells as the released guide's own fill.sh prints them over the translation 38a04e79c523cf5f… (all of the seat's roots in one cut). By AI agents, Wed Nov 11 2026. No macro, syntax, notation, axiom, sorry.
-/
import Derived.Test.YtclinifclfahfaaChecked
import GoSem.Claim
import GoSem.ClaimJoined
import GoSem.ClaimMapViews
import Derived.JoinedTies
import Derived.KernelRfl
namespace Go.Proofs.Ytclinifclfahfaa
/- THE CELL 'sum', in the pinned program and in every row, IS THE sha256 OF THE DUMP (.gsa) THAT YtclinifclfahfaaProg.lean LOADS. Nothing in Lean hashes anything: it is a label: what it is worth is what the hold of that sum in a sandbox is worth. -/
noncomputable def Try.pinned : Pinned := { name := "ytclinifclfahfaa", sum := "38a04e79c523cf5ff73028e312293cc45e98c0bb2b698f36393731ec2a25c963", checked := Try.checked }
namespace Rows
def none {H : Type} : Left H := { results := [], args := [] }

/-- 'tollgatelaw07.SnapBack': WHATEVER THE INPUT: true; the input reads as it did. -/
def snapBackSpec : ChangeSpec := { name := "snapBack", fn := fun _ => fun
  | [d1, d2] => { results := [.lit (.bool true)], args := [d1, d2] }
  | _ => none }
def snapBackRow : OpenClaim := { program := "ytclinifclfahfaa", sum := "38a04e79c523cf5ff73028e312293cc45e98c0bb2b698f36393731ec2a25c963", func := "tollgate/tollgatelaw07.SnapBack", spec := "snapBack", unfollowed := true, recurses := true, apart := false }
def SnapBackSaid : Prop := snapBackRow.holds Try.pinned (OpenSpec.ofChange snapBackSpec)

/-- ITS FALSE NEIGHBOUR: 'it returns false'. Refute it at one input. -/
def snapBackWrong : ChangeSpec := { name := "snapBack", fn := fun _ => fun
  | [d1, d2] => { results := [.lit (.bool false)], args := [d1, d2] }
  | _ => none }
def SnapBackWrongFalsely : Prop := snapBackRow.holds Try.pinned (OpenSpec.ofChange snapBackWrong)

/-- 'tollgatelaw07.SnapTurned': WHATEVER THE INPUT: true; the input reads as it did. -/
def snapTurnedSpec : ChangeSpec := { name := "snapTurned", fn := fun _ => fun
  | [d1, d2] => { results := [.lit (.bool true)], args := [d1, d2] }
  | _ => none }
def snapTurnedRow : OpenClaim := { program := "ytclinifclfahfaa", sum := "38a04e79c523cf5ff73028e312293cc45e98c0bb2b698f36393731ec2a25c963", func := "tollgate/tollgatelaw07.SnapTurned", spec := "snapTurned", unfollowed := true, recurses := true, apart := false }
def SnapTurnedSaid : Prop := snapTurnedRow.holds Try.pinned (OpenSpec.ofChange snapTurnedSpec)

/-- ITS FALSE NEIGHBOUR: 'it returns false'. Refute it at one input. -/
def snapTurnedWrong : ChangeSpec := { name := "snapTurned", fn := fun _ => fun
  | [d1, d2] => { results := [.lit (.bool false)], args := [d1, d2] }
  | _ => none }
def SnapTurnedWrongFalsely : Prop := snapTurnedRow.holds Try.pinned (OpenSpec.ofChange snapTurnedWrong)

/-- 'tollgatelaw07.SnapCutsUp': WHATEVER THE INPUT: true; the input reads as it did. -/
def snapCutsUpSpec : ChangeSpec := { name := "snapCutsUp", fn := fun _ => fun
  | [d1, d2] => { results := [.lit (.bool true)], args := [d1, d2] }
  | _ => none }
def snapCutsUpRow : OpenClaim := { program := "ytclinifclfahfaa", sum := "38a04e79c523cf5ff73028e312293cc45e98c0bb2b698f36393731ec2a25c963", func := "tollgate/tollgatelaw07.SnapCutsUp", spec := "snapCutsUp", unfollowed := true, recurses := true, apart := false }
def SnapCutsUpSaid : Prop := snapCutsUpRow.holds Try.pinned (OpenSpec.ofChange snapCutsUpSpec)

/-- ITS FALSE NEIGHBOUR: 'it returns false'. Refute it at one input. -/
def snapCutsUpWrong : ChangeSpec := { name := "snapCutsUp", fn := fun _ => fun
  | [d1, d2] => { results := [.lit (.bool false)], args := [d1, d2] }
  | _ => none }
def SnapCutsUpWrongFalsely : Prop := snapCutsUpRow.holds Try.pinned (OpenSpec.ofChange snapCutsUpWrong)

/-- 'tollgatelaw07.SnapWhole': WHATEVER THE INPUT: true; the input reads as it did. -/
def snapWholeSpec : ChangeSpec := { name := "snapWhole", fn := fun _ => fun
  | [d1, d2, d3] => { results := [.lit (.bool true)], args := [d1, d2, d3] }
  | _ => none }
def snapWholeRow : OpenClaim := { program := "ytclinifclfahfaa", sum := "38a04e79c523cf5ff73028e312293cc45e98c0bb2b698f36393731ec2a25c963", func := "tollgate/tollgatelaw07.SnapWhole", spec := "snapWhole", unfollowed := true, recurses := true, apart := false }
def SnapWholeSaid : Prop := snapWholeRow.holds Try.pinned (OpenSpec.ofChange snapWholeSpec)

/-- ITS FALSE NEIGHBOUR: 'it returns false'. Refute it at one input. -/
def snapWholeWrong : ChangeSpec := { name := "snapWhole", fn := fun _ => fun
  | [d1, d2, d3] => { results := [.lit (.bool false)], args := [d1, d2, d3] }
  | _ => none }
def SnapWholeWrongFalsely : Prop := snapWholeRow.holds Try.pinned (OpenSpec.ofChange snapWholeWrong)

/-- 'tollgatelaw07.SnapNewest': WHATEVER THE INPUT: true; the input reads as it did. -/
def snapNewestSpec : ChangeSpec := { name := "snapNewest", fn := fun _ => fun
  | [d1, d2] => { results := [.lit (.bool true)], args := [d1, d2] }
  | _ => none }
def snapNewestRow : OpenClaim := { program := "ytclinifclfahfaa", sum := "38a04e79c523cf5ff73028e312293cc45e98c0bb2b698f36393731ec2a25c963", func := "tollgate/tollgatelaw07.SnapNewest", spec := "snapNewest", unfollowed := true, recurses := true, apart := false }
def SnapNewestSaid : Prop := snapNewestRow.holds Try.pinned (OpenSpec.ofChange snapNewestSpec)

/-- ITS FALSE NEIGHBOUR: 'it returns false'. Refute it at one input. -/
def snapNewestWrong : ChangeSpec := { name := "snapNewest", fn := fun _ => fun
  | [d1, d2] => { results := [.lit (.bool false)], args := [d1, d2] }
  | _ => none }
def SnapNewestWrongFalsely : Prop := snapNewestRow.holds Try.pinned (OpenSpec.ofChange snapNewestWrong)

/-- 'tollgatelaw07.SnapWays': WHATEVER THE INPUT: true; the input reads as it did. -/
def snapWaysSpec : ChangeSpec := { name := "snapWays", fn := fun _ => fun
  | [d1, d2, d3] => { results := [.lit (.bool true)], args := [d1, d2, d3] }
  | _ => none }
def snapWaysRow : OpenClaim := { program := "ytclinifclfahfaa", sum := "38a04e79c523cf5ff73028e312293cc45e98c0bb2b698f36393731ec2a25c963", func := "tollgate/tollgatelaw07.SnapWays", spec := "snapWays", unfollowed := true, recurses := true, apart := false }
def SnapWaysSaid : Prop := snapWaysRow.holds Try.pinned (OpenSpec.ofChange snapWaysSpec)

/-- ITS FALSE NEIGHBOUR: 'it returns false'. Refute it at one input. -/
def snapWaysWrong : ChangeSpec := { name := "snapWays", fn := fun _ => fun
  | [d1, d2, d3] => { results := [.lit (.bool false)], args := [d1, d2, d3] }
  | _ => none }
def SnapWaysWrongFalsely : Prop := snapWaysRow.holds Try.pinned (OpenSpec.ofChange snapWaysWrong)

/- THE SECOND FORM. 'bulk': how many values and letters a reading holds, each counted each time it is reached (what is shared counts as often as it is met; a slice's spare places count too). A statement '..UptoSaid' is the law's where the arguments, and the package variables that the reading takes, are together of bulk at most 1048576: NARROWER than '..Said'. Prove '..Said' where nothing that the law and all that it calls make is longer than what came in: it says more and counts as full. Else prove '..UptoSaid'. A law counts once. -/
mutual
def uptoBulk {H : Type} : DataW H → Nat
  | .lit (.string bytes) => bytes.length + 1
  | .lit _ => 1
  | .nil => 1
  | .ptr d => uptoBulk d + 1
  | .slice elems spare => uptoBulkAll elems + uptoBulkAll spare + 1
  | .agg parts => uptoBulkAll parts + 1
  | .iface _ d => uptoBulk d + 1
  | .map entries => uptoBulkEntries entries + 1
  | .held _ => 1
def uptoBulkAll {H : Type} : List (DataW H) → Nat
  | [] => 0
  | d :: r => uptoBulk d + uptoBulkAll r
def uptoBulkEntries {H : Type} : List (Lit × DataW H) → Nat
  | [] => 0
  | x :: r => uptoBulkEntry x + uptoBulkEntries r
def uptoBulkEntry {H : Type} : Lit × DataW H → Nat
  | (.string bytes, d) => bytes.length + uptoBulk d + 1
  | (_, d) => uptoBulk d + 1
 end
def uptoSmall : (H : Type) → List (DataW H) → Bool := fun _ ds => decide (uptoBulkAll ds ≤ 1048576)
def OpenSpec.upto (s : _root_.Go.ChangeSpec) : _root_.Go.OpenSpec := { _root_.Go.OpenSpec.ofChange s with cond := some uptoSmall }

/-- 'tollgatelaw07.SnapBack', WHERE WHAT IT READS IS OF BULK AT MOST 1048576: true; the input reads as it did. -/
def snapBackUptoRow : OpenClaim := { program := "ytclinifclfahfaa", sum := "38a04e79c523cf5ff73028e312293cc45e98c0bb2b698f36393731ec2a25c963", func := "tollgate/tollgatelaw07.SnapBack", spec := "snapBack", unfollowed := true, recurses := true, apart := false, narrowed := true }
def SnapBackUptoSaid : Prop := snapBackUptoRow.holds Try.pinned (OpenSpec.upto snapBackSpec)

/-- 'tollgatelaw07.SnapTurned', WHERE WHAT IT READS IS OF BULK AT MOST 1048576: true; the input reads as it did. -/
def snapTurnedUptoRow : OpenClaim := { program := "ytclinifclfahfaa", sum := "38a04e79c523cf5ff73028e312293cc45e98c0bb2b698f36393731ec2a25c963", func := "tollgate/tollgatelaw07.SnapTurned", spec := "snapTurned", unfollowed := true, recurses := true, apart := false, narrowed := true }
def SnapTurnedUptoSaid : Prop := snapTurnedUptoRow.holds Try.pinned (OpenSpec.upto snapTurnedSpec)

/-- 'tollgatelaw07.SnapCutsUp', WHERE WHAT IT READS IS OF BULK AT MOST 1048576: true; the input reads as it did. -/
def snapCutsUpUptoRow : OpenClaim := { program := "ytclinifclfahfaa", sum := "38a04e79c523cf5ff73028e312293cc45e98c0bb2b698f36393731ec2a25c963", func := "tollgate/tollgatelaw07.SnapCutsUp", spec := "snapCutsUp", unfollowed := true, recurses := true, apart := false, narrowed := true }
def SnapCutsUpUptoSaid : Prop := snapCutsUpUptoRow.holds Try.pinned (OpenSpec.upto snapCutsUpSpec)

/-- 'tollgatelaw07.SnapWhole', WHERE WHAT IT READS IS OF BULK AT MOST 1048576: true; the input reads as it did. -/
def snapWholeUptoRow : OpenClaim := { program := "ytclinifclfahfaa", sum := "38a04e79c523cf5ff73028e312293cc45e98c0bb2b698f36393731ec2a25c963", func := "tollgate/tollgatelaw07.SnapWhole", spec := "snapWhole", unfollowed := true, recurses := true, apart := false, narrowed := true }
def SnapWholeUptoSaid : Prop := snapWholeUptoRow.holds Try.pinned (OpenSpec.upto snapWholeSpec)

/-- 'tollgatelaw07.SnapNewest', WHERE WHAT IT READS IS OF BULK AT MOST 1048576: true; the input reads as it did. -/
def snapNewestUptoRow : OpenClaim := { program := "ytclinifclfahfaa", sum := "38a04e79c523cf5ff73028e312293cc45e98c0bb2b698f36393731ec2a25c963", func := "tollgate/tollgatelaw07.SnapNewest", spec := "snapNewest", unfollowed := true, recurses := true, apart := false, narrowed := true }
def SnapNewestUptoSaid : Prop := snapNewestUptoRow.holds Try.pinned (OpenSpec.upto snapNewestSpec)

/-- 'tollgatelaw07.SnapWays', WHERE WHAT IT READS IS OF BULK AT MOST 1048576: true; the input reads as it did. -/
def snapWaysUptoRow : OpenClaim := { program := "ytclinifclfahfaa", sum := "38a04e79c523cf5ff73028e312293cc45e98c0bb2b698f36393731ec2a25c963", func := "tollgate/tollgatelaw07.SnapWays", spec := "snapWays", unfollowed := true, recurses := true, apart := false, narrowed := true }
def SnapWaysUptoSaid : Prop := snapWaysUptoRow.holds Try.pinned (OpenSpec.upto snapWaysSpec)

end Rows
end Go.Proofs.Ytclinifclfahfaa
