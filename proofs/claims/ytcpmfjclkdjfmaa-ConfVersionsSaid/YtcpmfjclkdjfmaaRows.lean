/-
  No cell of these rows narrows 'for every input' (looked for: loops, veiled, ifaces, maps, wideKeys, modest, calm, conditions, laid).
  DERIVED. THE GIVEN ROWS OF THIS SEAT. 4 by the template 'for every input the law returns true; each argument reads behind the call as it read before'; 0 by the template 'total and deterministic' (their statements: YtcpmfjclkdjfmaaTotals.lean).
  GIVEN WITH THE SEED: the statements are not yours to turn. If you find one false, say at which input.
  Laid BY PROGRAM, IN A SANDBOX (cutbox-rows.mjs): the forced cells as the released guide's own fill.sh prints them over the translation f61968f35420f8d6… (all of the seat's roots in one cut). By AI agents, Wed Nov 11 2026. No macro, syntax, notation, axiom, sorry.
-/
import Derived.Test.YtcpmfjclkdjfmaaChecked
import GoSem.Claim
import GoSem.ClaimJoined
import GoSem.ClaimMapViews
import Derived.JoinedTies
import Derived.KernelRfl
namespace Go.Proofs.Ytcpmfjclkdjfmaa
/- THE CELL 'sum', in the pinned program and in every row, IS THE sha256 OF THE DUMP (.gsa) THAT YtcpmfjclkdjfmaaProg.lean LOADS. Nothing in Lean hashes anything: it is a label: what it is worth is what the hold of that sum in a sandbox is worth. -/
noncomputable def Try.pinned : Pinned := { name := "ytcpmfjclkdjfmaa", sum := "f61968f35420f8d6cde8ec4466f4de77d30bb90832a51a9c2c75877594b61559", checked := Try.checked }
namespace Rows
def none {H : Type} : Left H := { results := [], args := [] }

/-- 'tollgatelaw08.ConfVersions': WHATEVER THE INPUT: true; the input reads as it did. -/
def confVersionsSpec : ChangeSpec := { name := "confVersions", fn := fun _ => fun
  | [d] => { results := [.lit (.bool true)], args := [d] }
  | _ => none }
def confVersionsRow : OpenClaim := { program := "ytcpmfjclkdjfmaa", sum := "f61968f35420f8d6cde8ec4466f4de77d30bb90832a51a9c2c75877594b61559", func := "tollgate/tollgatelaw08.ConfVersions", spec := "confVersions", inPlace := ["math.Float64bits", "math.Float64frombits"], unfollowed := true, recurses := true, plainKeys := false, apart := false }
def ConfVersionsSaid : Prop := confVersionsRow.holds Try.pinned (OpenSpec.ofChange confVersionsSpec)

/-- ITS FALSE NEIGHBOUR: 'it returns false'. Refute it at one input. -/
def confVersionsWrong : ChangeSpec := { name := "confVersions", fn := fun _ => fun
  | [d] => { results := [.lit (.bool false)], args := [d] }
  | _ => none }
def ConfVersionsWrongFalsely : Prop := confVersionsRow.holds Try.pinned (OpenSpec.ofChange confVersionsWrong)

/-- 'tollgatelaw08.ConfChecks': WHATEVER THE INPUT: true; the input reads as it did. -/
def confChecksSpec : ChangeSpec := { name := "confChecks", fn := fun _ => fun
  | [d] => { results := [.lit (.bool true)], args := [d] }
  | _ => none }
def confChecksRow : OpenClaim := { program := "ytcpmfjclkdjfmaa", sum := "f61968f35420f8d6cde8ec4466f4de77d30bb90832a51a9c2c75877594b61559", func := "tollgate/tollgatelaw08.ConfChecks", spec := "confChecks", inPlace := ["math.Float64bits", "math.Float64frombits"], unfollowed := true, recurses := true, plainKeys := false, apart := false }
def ConfChecksSaid : Prop := confChecksRow.holds Try.pinned (OpenSpec.ofChange confChecksSpec)

/-- ITS FALSE NEIGHBOUR: 'it returns false'. Refute it at one input. -/
def confChecksWrong : ChangeSpec := { name := "confChecks", fn := fun _ => fun
  | [d] => { results := [.lit (.bool false)], args := [d] }
  | _ => none }
def ConfChecksWrongFalsely : Prop := confChecksRow.holds Try.pinned (OpenSpec.ofChange confChecksWrong)

/-- 'tollgatelaw08.ConfBack': WHATEVER THE INPUT: true; the input reads as it did. -/
def confBackSpec : ChangeSpec := { name := "confBack", fn := fun _ => fun
  | [d1, d2] => { results := [.lit (.bool true)], args := [d1, d2] }
  | _ => none }
def confBackRow : OpenClaim := { program := "ytcpmfjclkdjfmaa", sum := "f61968f35420f8d6cde8ec4466f4de77d30bb90832a51a9c2c75877594b61559", func := "tollgate/tollgatelaw08.ConfBack", spec := "confBack", inPlace := ["math.Float64bits", "math.Float64frombits"], unfollowed := true, recurses := true, plainKeys := false, apart := false }
def ConfBackSaid : Prop := confBackRow.holds Try.pinned (OpenSpec.ofChange confBackSpec)

/-- ITS FALSE NEIGHBOUR: 'it returns false'. Refute it at one input. -/
def confBackWrong : ChangeSpec := { name := "confBack", fn := fun _ => fun
  | [d1, d2] => { results := [.lit (.bool false)], args := [d1, d2] }
  | _ => none }
def ConfBackWrongFalsely : Prop := confBackRow.holds Try.pinned (OpenSpec.ofChange confBackWrong)

/-- 'tollgatelaw08.ConfWeights': WHATEVER THE INPUT: true; the input reads as it did. -/
def confWeightsSpec : ChangeSpec := { name := "confWeights", fn := fun _ => fun
  | [d] => { results := [.lit (.bool true)], args := [d] }
  | _ => none }
def confWeightsRow : OpenClaim := { program := "ytcpmfjclkdjfmaa", sum := "f61968f35420f8d6cde8ec4466f4de77d30bb90832a51a9c2c75877594b61559", func := "tollgate/tollgatelaw08.ConfWeights", spec := "confWeights", inPlace := ["math.Float64frombits", "math.Float64bits"], unfollowed := true, recurses := true, plainKeys := false, apart := false }
def ConfWeightsSaid : Prop := confWeightsRow.holds Try.pinned (OpenSpec.ofChange confWeightsSpec)

/-- ITS FALSE NEIGHBOUR: 'it returns false'. Refute it at one input. -/
def confWeightsWrong : ChangeSpec := { name := "confWeights", fn := fun _ => fun
  | [d] => { results := [.lit (.bool false)], args := [d] }
  | _ => none }
def ConfWeightsWrongFalsely : Prop := confWeightsRow.holds Try.pinned (OpenSpec.ofChange confWeightsWrong)

/- THE SECOND FORM. 'bulk': how many values and letters a reading holds, each counted each time it is reached (what is shared counts as often as it is met; a slice's spare places count too). A statement '..UptoSaid' is the law's where the arguments, and the package variables that the reading takes, are together of bulk at most 1048576: NARROWER than '..Said'. Prove '..Said' where nothing that the law and all that it calls make is longer than what came in: it says more and counts as full. Else prove '..UptoSaid'. A law counts once. -/
mutual
def uptoBulk {H : Type} : DataW H → Nat
  | .lit (.string bytes) => bytes.length + 1
  | .lit _ => 1
  | .nil => 1
  | .ptr d => uptoBulk d + 1
  | .slice elems spare => uptoBulkAll elems + uptoBulkAll spare + 1
  | .agg parts => uptoBulkAll parts + 1
  | .iface _ d => uptoBulk d + 1
  | .map entries => uptoBulkEntries entries + 1
  | .held _ => 1
def uptoBulkAll {H : Type} : List (DataW H) → Nat
  | [] => 0
  | d :: r => uptoBulk d + uptoBulkAll r
def uptoBulkEntries {H : Type} : List (Lit × DataW H) → Nat
  | [] => 0
  | x :: r => uptoBulkEntry x + uptoBulkEntries r
def uptoBulkEntry {H : Type} : Lit × DataW H → Nat
  | (.string bytes, d) => bytes.length + uptoBulk d + 1
  | (_, d) => uptoBulk d + 1
 end
def uptoSmall : (H : Type) → List (DataW H) → Bool := fun _ ds => decide (uptoBulkAll ds ≤ 1048576)
def OpenSpec.upto (s : _root_.Go.ChangeSpec) : _root_.Go.OpenSpec := { _root_.Go.OpenSpec.ofChange s with cond := some uptoSmall }

/-- 'tollgatelaw08.ConfVersions', WHERE WHAT IT READS IS OF BULK AT MOST 1048576: true; the input reads as it did. -/
def confVersionsUptoRow : OpenClaim := { program := "ytcpmfjclkdjfmaa", sum := "f61968f35420f8d6cde8ec4466f4de77d30bb90832a51a9c2c75877594b61559", func := "tollgate/tollgatelaw08.ConfVersions", spec := "confVersions", inPlace := ["math.Float64bits", "math.Float64frombits"], unfollowed := true, recurses := true, plainKeys := false, apart := false, narrowed := true }
def ConfVersionsUptoSaid : Prop := confVersionsUptoRow.holds Try.pinned (OpenSpec.upto confVersionsSpec)

/-- 'tollgatelaw08.ConfChecks', WHERE WHAT IT READS IS OF BULK AT MOST 1048576: true; the input reads as it did. -/
def confChecksUptoRow : OpenClaim := { program := "ytcpmfjclkdjfmaa", sum := "f61968f35420f8d6cde8ec4466f4de77d30bb90832a51a9c2c75877594b61559", func := "tollgate/tollgatelaw08.ConfChecks", spec := "confChecks", inPlace := ["math.Float64bits", "math.Float64frombits"], unfollowed := true, recurses := true, plainKeys := false, apart := false, narrowed := true }
def ConfChecksUptoSaid : Prop := confChecksUptoRow.holds Try.pinned (OpenSpec.upto confChecksSpec)

/-- 'tollgatelaw08.ConfBack', WHERE WHAT IT READS IS OF BULK AT MOST 1048576: true; the input reads as it did. -/
def confBackUptoRow : OpenClaim := { program := "ytcpmfjclkdjfmaa", sum := "f61968f35420f8d6cde8ec4466f4de77d30bb90832a51a9c2c75877594b61559", func := "tollgate/tollgatelaw08.ConfBack", spec := "confBack", inPlace := ["math.Float64bits", "math.Float64frombits"], unfollowed := true, recurses := true, plainKeys := false, apart := false, narrowed := true }
def ConfBackUptoSaid : Prop := confBackUptoRow.holds Try.pinned (OpenSpec.upto confBackSpec)

/-- 'tollgatelaw08.ConfWeights', WHERE WHAT IT READS IS OF BULK AT MOST 1048576: true; the input reads as it did. -/
def confWeightsUptoRow : OpenClaim := { program := "ytcpmfjclkdjfmaa", sum := "f61968f35420f8d6cde8ec4466f4de77d30bb90832a51a9c2c75877594b61559", func := "tollgate/tollgatelaw08.ConfWeights", spec := "confWeights", inPlace := ["math.Float64frombits", "math.Float64bits"], unfollowed := true, recurses := true, plainKeys := false, apart := false, narrowed := true }
def ConfWeightsUptoSaid : Prop := confWeightsUptoRow.holds Try.pinned (OpenSpec.upto confWeightsSpec)

end Rows
end Go.Proofs.Ytcpmfjclkdjfmaa
