/-
  No cell of these rows narrows 'for every input' (looked for: loops, veiled, ifaces, maps, wideKeys, modest, calm, conditions, laid).
  DERIVED. THE GIVEN ROWS OF THIS SEAT. 10 by the template 'for every input the law returns true; each argument reads behind the call as it read before'; 0 by the template 'total and deterministic' (their statements: YtcpmfjclkdjfmaaGreatTotals.lean).
  GIVEN WITH THE SEED: the statements are not yours to turn. If you find one false, say at which input.
  Laid BY PROGRAM, IN A SANDBOX (cutbox-rows.mjs): the forced cells as the released guide's own fill.sh prints them over the translation 54c1e4df813bc611… (all of the seat's roots in one cut). By AI agents, Wed Nov 11 2026. No macro, syntax, notation, axiom, sorry.
-/
import Derived.Test.YtcpmfjclkdjfmaaGreatChecked
import GoSem.Claim
import GoSem.ClaimJoined
import GoSem.ClaimMapViews
import Derived.JoinedTies
import Derived.KernelRfl
namespace Go.Proofs.YtcpmfjclkdjfmaaGreat
/- THE CELL 'sum', in the pinned program and in every row, IS THE sha256 OF THE DUMP (.gsa) THAT YtcpmfjclkdjfmaaGreatProg.lean LOADS. Nothing in Lean hashes anything: it is a label: what it is worth is what the hold of that sum in a sandbox is worth. -/
noncomputable def Tryz.pinned : Pinned := { name := "ytcpmfjclkdjfmaagreat", sum := "54c1e4df813bc6115c0195f48c405fddc2d46dd76ef8d4954d68921bd43ef86e", checked := Tryz.checked }
namespace Rows
def none {H : Type} : Left H := { results := [], args := [] }

/-- 'tollgatelaw08.ConfSorted': WHATEVER THE INPUT: true; the input reads as it did. -/
def confSortedSpec : ChangeSpec := { name := "confSorted", fn := fun _ => fun
  | [d] => { results := [.lit (.bool true)], args := [d] }
  | _ => none }
def confSortedRow : OpenClaim := { program := "ytcpmfjclkdjfmaagreat", sum := "54c1e4df813bc6115c0195f48c405fddc2d46dd76ef8d4954d68921bd43ef86e", func := "tollgate/tollgatelaw08.ConfSorted", spec := "confSorted", inPlace := ["math.Float64bits", "math.Float64frombits"], unfollowed := true, recurses := true, plainKeys := false, apart := false }
def ConfSortedSaid : Prop := confSortedRow.holds Tryz.pinned (OpenSpec.ofChange confSortedSpec)

/-- ITS FALSE NEIGHBOUR: 'it returns false'. Refute it at one input. -/
def confSortedWrong : ChangeSpec := { name := "confSorted", fn := fun _ => fun
  | [d] => { results := [.lit (.bool false)], args := [d] }
  | _ => none }
def ConfSortedWrongFalsely : Prop := confSortedRow.holds Tryz.pinned (OpenSpec.ofChange confSortedWrong)

/-- 'tollgatelaw08.ConfTells': WHATEVER THE INPUT: true; the input reads as it did. -/
def confTellsSpec : ChangeSpec := { name := "confTells", fn := fun _ => fun
  | [d1, d2, d3] => { results := [.lit (.bool true)], args := [d1, d2, d3] }
  | _ => none }
def confTellsRow : OpenClaim := { program := "ytcpmfjclkdjfmaagreat", sum := "54c1e4df813bc6115c0195f48c405fddc2d46dd76ef8d4954d68921bd43ef86e", func := "tollgate/tollgatelaw08.ConfTells", spec := "confTells", inPlace := ["math.Float64bits", "math.Float64frombits"], unfollowed := true, recurses := true, plainKeys := false, apart := false }
def ConfTellsSaid : Prop := confTellsRow.holds Tryz.pinned (OpenSpec.ofChange confTellsSpec)

/-- ITS FALSE NEIGHBOUR: 'it returns false'. Refute it at one input. -/
def confTellsWrong : ChangeSpec := { name := "confTells", fn := fun _ => fun
  | [d1, d2, d3] => { results := [.lit (.bool false)], args := [d1, d2, d3] }
  | _ => none }
def ConfTellsWrongFalsely : Prop := confTellsRow.holds Tryz.pinned (OpenSpec.ofChange confTellsWrong)

/-- 'tollgatelaw08.ConfOnce': WHATEVER THE INPUT: true; the input reads as it did. -/
def confOnceSpec : ChangeSpec := { name := "confOnce", fn := fun _ => fun
  | [d1, d2, d3] => { results := [.lit (.bool true)], args := [d1, d2, d3] }
  | _ => none }
def confOnceRow : OpenClaim := { program := "ytcpmfjclkdjfmaagreat", sum := "54c1e4df813bc6115c0195f48c405fddc2d46dd76ef8d4954d68921bd43ef86e", func := "tollgate/tollgatelaw08.ConfOnce", spec := "confOnce", inPlace := ["math.Float64bits", "math.Float64frombits"], unfollowed := true, recurses := true, plainKeys := false, apart := false }
def ConfOnceSaid : Prop := confOnceRow.holds Tryz.pinned (OpenSpec.ofChange confOnceSpec)

/-- ITS FALSE NEIGHBOUR: 'it returns false'. Refute it at one input. -/
def confOnceWrong : ChangeSpec := { name := "confOnce", fn := fun _ => fun
  | [d1, d2, d3] => { results := [.lit (.bool false)], args := [d1, d2, d3] }
  | _ => none }
def ConfOnceWrongFalsely : Prop := confOnceRow.holds Tryz.pinned (OpenSpec.ofChange confOnceWrong)

/-- 'tollgatelaw08.ConfExpects': WHATEVER THE INPUT: true; the input reads as it did. -/
def confExpectsSpec : ChangeSpec := { name := "confExpects", fn := fun _ => fun
  | [d1, d2] => { results := [.lit (.bool true)], args := [d1, d2] }
  | _ => none }
def confExpectsRow : OpenClaim := { program := "ytcpmfjclkdjfmaagreat", sum := "54c1e4df813bc6115c0195f48c405fddc2d46dd76ef8d4954d68921bd43ef86e", func := "tollgate/tollgatelaw08.ConfExpects", spec := "confExpects", inPlace := ["math.Float64bits", "math.Float64frombits"], unfollowed := true, recurses := true, plainKeys := false, apart := false }
def ConfExpectsSaid : Prop := confExpectsRow.holds Tryz.pinned (OpenSpec.ofChange confExpectsSpec)

/-- ITS FALSE NEIGHBOUR: 'it returns false'. Refute it at one input. -/
def confExpectsWrong : ChangeSpec := { name := "confExpects", fn := fun _ => fun
  | [d1, d2] => { results := [.lit (.bool false)], args := [d1, d2] }
  | _ => none }
def ConfExpectsWrongFalsely : Prop := confExpectsRow.holds Tryz.pinned (OpenSpec.ofChange confExpectsWrong)

/-- 'tollgatelaw08.ConfDoes': WHATEVER THE INPUT: true; the input reads as it did. -/
def confDoesSpec : ChangeSpec := { name := "confDoes", fn := fun _ => fun
  | [d] => { results := [.lit (.bool true)], args := [d] }
  | _ => none }
def confDoesRow : OpenClaim := { program := "ytcpmfjclkdjfmaagreat", sum := "54c1e4df813bc6115c0195f48c405fddc2d46dd76ef8d4954d68921bd43ef86e", func := "tollgate/tollgatelaw08.ConfDoes", spec := "confDoes", inPlace := ["math.Float64bits", "math.Float64frombits"], unfollowed := true, recurses := true, plainKeys := false, apart := false }
def ConfDoesSaid : Prop := confDoesRow.holds Tryz.pinned (OpenSpec.ofChange confDoesSpec)

/-- ITS FALSE NEIGHBOUR: 'it returns false'. Refute it at one input. -/
def confDoesWrong : ChangeSpec := { name := "confDoes", fn := fun _ => fun
  | [d] => { results := [.lit (.bool false)], args := [d] }
  | _ => none }
def ConfDoesWrongFalsely : Prop := confDoesRow.holds Tryz.pinned (OpenSpec.ofChange confDoesWrong)

/-- 'tollgatelaw08.ConfForks': WHATEVER THE INPUT: true; the input reads as it did. -/
def confForksSpec : ChangeSpec := { name := "confForks", fn := fun _ => fun
  | [d1, d2] => { results := [.lit (.bool true)], args := [d1, d2] }
  | _ => none }
def confForksRow : OpenClaim := { program := "ytcpmfjclkdjfmaagreat", sum := "54c1e4df813bc6115c0195f48c405fddc2d46dd76ef8d4954d68921bd43ef86e", func := "tollgate/tollgatelaw08.ConfForks", spec := "confForks", inPlace := ["math.Float64bits", "math.Float64frombits", "maps.clone"], unfollowed := true, recurses := true, plainKeys := false, apart := false }
def ConfForksSaid : Prop := confForksRow.holds Tryz.pinned (OpenSpec.ofChange confForksSpec)

/-- ITS FALSE NEIGHBOUR: 'it returns false'. Refute it at one input. -/
def confForksWrong : ChangeSpec := { name := "confForks", fn := fun _ => fun
  | [d1, d2] => { results := [.lit (.bool false)], args := [d1, d2] }
  | _ => none }
def ConfForksWrongFalsely : Prop := confForksRow.holds Tryz.pinned (OpenSpec.ofChange confForksWrong)

/-- 'tollgatelaw08.ConfNone': WHATEVER THE INPUT: true; the input reads as it did. -/
def confNoneSpec : ChangeSpec := { name := "confNone", fn := fun _ => fun
  | [d1, d2] => { results := [.lit (.bool true)], args := [d1, d2] }
  | _ => none }
def confNoneRow : OpenClaim := { program := "ytcpmfjclkdjfmaagreat", sum := "54c1e4df813bc6115c0195f48c405fddc2d46dd76ef8d4954d68921bd43ef86e", func := "tollgate/tollgatelaw08.ConfNone", spec := "confNone", inPlace := ["math.Float64bits", "math.Float64frombits", "maps.clone"], unfollowed := true, recurses := true, plainKeys := false, apart := false }
def ConfNoneSaid : Prop := confNoneRow.holds Tryz.pinned (OpenSpec.ofChange confNoneSpec)

/-- ITS FALSE NEIGHBOUR: 'it returns false'. Refute it at one input. -/
def confNoneWrong : ChangeSpec := { name := "confNone", fn := fun _ => fun
  | [d1, d2] => { results := [.lit (.bool false)], args := [d1, d2] }
  | _ => none }
def ConfNoneWrongFalsely : Prop := confNoneRow.holds Tryz.pinned (OpenSpec.ofChange confNoneWrong)

/-- 'tollgatelaw08.ConfReads': WHATEVER THE INPUT: true; the input reads as it did. -/
def confReadsSpec : ChangeSpec := { name := "confReads", fn := fun _ => fun
  | [d] => { results := [.lit (.bool true)], args := [d] }
  | _ => none }
def confReadsRow : OpenClaim := { program := "ytcpmfjclkdjfmaagreat", sum := "54c1e4df813bc6115c0195f48c405fddc2d46dd76ef8d4954d68921bd43ef86e", func := "tollgate/tollgatelaw08.ConfReads", spec := "confReads", inPlace := ["math.Float64frombits", "math.Float64bits"], unfollowed := true, recurses := true, plainKeys := false, apart := false }
def ConfReadsSaid : Prop := confReadsRow.holds Tryz.pinned (OpenSpec.ofChange confReadsSpec)

/-- ITS FALSE NEIGHBOUR: 'it returns false'. Refute it at one input. -/
def confReadsWrong : ChangeSpec := { name := "confReads", fn := fun _ => fun
  | [d] => { results := [.lit (.bool false)], args := [d] }
  | _ => none }
def ConfReadsWrongFalsely : Prop := confReadsRow.holds Tryz.pinned (OpenSpec.ofChange confReadsWrong)

/-- 'tollgatelaw08.ConfSaves': WHATEVER THE INPUT: true; the input reads as it did. -/
def confSavesSpec : ChangeSpec := { name := "confSaves", fn := fun _ => fun
  | [d1, d2] => { results := [.lit (.bool true)], args := [d1, d2] }
  | _ => none }
def confSavesRow : OpenClaim := { program := "ytcpmfjclkdjfmaagreat", sum := "54c1e4df813bc6115c0195f48c405fddc2d46dd76ef8d4954d68921bd43ef86e", func := "tollgate/tollgatelaw08.ConfSaves", spec := "confSaves", inPlace := ["math.Float64bits", "math.Float64frombits"], unfollowed := true, recurses := true, plainKeys := false, apart := false }
def ConfSavesSaid : Prop := confSavesRow.holds Tryz.pinned (OpenSpec.ofChange confSavesSpec)

/-- ITS FALSE NEIGHBOUR: 'it returns false'. Refute it at one input. -/
def confSavesWrong : ChangeSpec := { name := "confSaves", fn := fun _ => fun
  | [d1, d2] => { results := [.lit (.bool false)], args := [d1, d2] }
  | _ => none }
def ConfSavesWrongFalsely : Prop := confSavesRow.holds Tryz.pinned (OpenSpec.ofChange confSavesWrong)

/-- 'tollgatelaw08.ConfLoads': WHATEVER THE INPUT: true; the input reads as it did. -/
def confLoadsSpec : ChangeSpec := { name := "confLoads", fn := fun _ => fun
  | [d] => { results := [.lit (.bool true)], args := [d] }
  | _ => none }
def confLoadsRow : OpenClaim := { program := "ytcpmfjclkdjfmaagreat", sum := "54c1e4df813bc6115c0195f48c405fddc2d46dd76ef8d4954d68921bd43ef86e", func := "tollgate/tollgatelaw08.ConfLoads", spec := "confLoads", inPlace := ["math.Float64frombits", "math.Float64bits"], unfollowed := true, recurses := true, plainKeys := false, apart := false }
def ConfLoadsSaid : Prop := confLoadsRow.holds Tryz.pinned (OpenSpec.ofChange confLoadsSpec)

/-- ITS FALSE NEIGHBOUR: 'it returns false'. Refute it at one input. -/
def confLoadsWrong : ChangeSpec := { name := "confLoads", fn := fun _ => fun
  | [d] => { results := [.lit (.bool false)], args := [d] }
  | _ => none }
def ConfLoadsWrongFalsely : Prop := confLoadsRow.holds Tryz.pinned (OpenSpec.ofChange confLoadsWrong)

/- THE SECOND FORM. 'bulk': how many values and letters a reading holds, each counted each time it is reached (what is shared counts as often as it is met; a slice's spare places count too). A statement '..UptoSaid' is the law's where the arguments, and the package variables that the reading takes, are together of bulk at most 1048576: NARROWER than '..Said'. Prove '..Said' where nothing that the law and all that it calls make is longer than what came in: it says more and counts as full. Else prove '..UptoSaid'. A law counts once. -/
mutual
def uptoBulk {H : Type} : DataW H → Nat
  | .lit (.string bytes) => bytes.length + 1
  | .lit _ => 1
  | .nil => 1
  | .ptr d => uptoBulk d + 1
  | .slice elems spare => uptoBulkAll elems + uptoBulkAll spare + 1
  | .agg parts => uptoBulkAll parts + 1
  | .iface _ d => uptoBulk d + 1
  | .map entries => uptoBulkEntries entries + 1
  | .held _ => 1
def uptoBulkAll {H : Type} : List (DataW H) → Nat
  | [] => 0
  | d :: r => uptoBulk d + uptoBulkAll r
def uptoBulkEntries {H : Type} : List (Lit × DataW H) → Nat
  | [] => 0
  | x :: r => uptoBulkEntry x + uptoBulkEntries r
def uptoBulkEntry {H : Type} : Lit × DataW H → Nat
  | (.string bytes, d) => bytes.length + uptoBulk d + 1
  | (_, d) => uptoBulk d + 1
 end
def uptoSmall : (H : Type) → List (DataW H) → Bool := fun _ ds => decide (uptoBulkAll ds ≤ 1048576)
def OpenSpec.upto (s : _root_.Go.ChangeSpec) : _root_.Go.OpenSpec := { _root_.Go.OpenSpec.ofChange s with cond := some uptoSmall }

/-- 'tollgatelaw08.ConfSorted', WHERE WHAT IT READS IS OF BULK AT MOST 1048576: true; the input reads as it did. -/
def confSortedUptoRow : OpenClaim := { program := "ytcpmfjclkdjfmaagreat", sum := "54c1e4df813bc6115c0195f48c405fddc2d46dd76ef8d4954d68921bd43ef86e", func := "tollgate/tollgatelaw08.ConfSorted", spec := "confSorted", inPlace := ["math.Float64bits", "math.Float64frombits"], unfollowed := true, recurses := true, plainKeys := false, apart := false, narrowed := true }
def ConfSortedUptoSaid : Prop := confSortedUptoRow.holds Tryz.pinned (OpenSpec.upto confSortedSpec)

/-- 'tollgatelaw08.ConfTells', WHERE WHAT IT READS IS OF BULK AT MOST 1048576: true; the input reads as it did. -/
def confTellsUptoRow : OpenClaim := { program := "ytcpmfjclkdjfmaagreat", sum := "54c1e4df813bc6115c0195f48c405fddc2d46dd76ef8d4954d68921bd43ef86e", func := "tollgate/tollgatelaw08.ConfTells", spec := "confTells", inPlace := ["math.Float64bits", "math.Float64frombits"], unfollowed := true, recurses := true, plainKeys := false, apart := false, narrowed := true }
def ConfTellsUptoSaid : Prop := confTellsUptoRow.holds Tryz.pinned (OpenSpec.upto confTellsSpec)

/-- 'tollgatelaw08.ConfOnce', WHERE WHAT IT READS IS OF BULK AT MOST 1048576: true; the input reads as it did. -/
def confOnceUptoRow : OpenClaim := { program := "ytcpmfjclkdjfmaagreat", sum := "54c1e4df813bc6115c0195f48c405fddc2d46dd76ef8d4954d68921bd43ef86e", func := "tollgate/tollgatelaw08.ConfOnce", spec := "confOnce", inPlace := ["math.Float64bits", "math.Float64frombits"], unfollowed := true, recurses := true, plainKeys := false, apart := false, narrowed := true }
def ConfOnceUptoSaid : Prop := confOnceUptoRow.holds Tryz.pinned (OpenSpec.upto confOnceSpec)

/-- 'tollgatelaw08.ConfExpects', WHERE WHAT IT READS IS OF BULK AT MOST 1048576: true; the input reads as it did. -/
def confExpectsUptoRow : OpenClaim := { program := "ytcpmfjclkdjfmaagreat", sum := "54c1e4df813bc6115c0195f48c405fddc2d46dd76ef8d4954d68921bd43ef86e", func := "tollgate/tollgatelaw08.ConfExpects", spec := "confExpects", inPlace := ["math.Float64bits", "math.Float64frombits"], unfollowed := true, recurses := true, plainKeys := false, apart := false, narrowed := true }
def ConfExpectsUptoSaid : Prop := confExpectsUptoRow.holds Tryz.pinned (OpenSpec.upto confExpectsSpec)

/-- 'tollgatelaw08.ConfDoes', WHERE WHAT IT READS IS OF BULK AT MOST 1048576: true; the input reads as it did. -/
def confDoesUptoRow : OpenClaim := { program := "ytcpmfjclkdjfmaagreat", sum := "54c1e4df813bc6115c0195f48c405fddc2d46dd76ef8d4954d68921bd43ef86e", func := "tollgate/tollgatelaw08.ConfDoes", spec := "confDoes", inPlace := ["math.Float64bits", "math.Float64frombits"], unfollowed := true, recurses := true, plainKeys := false, apart := false, narrowed := true }
def ConfDoesUptoSaid : Prop := confDoesUptoRow.holds Tryz.pinned (OpenSpec.upto confDoesSpec)

/-- 'tollgatelaw08.ConfForks', WHERE WHAT IT READS IS OF BULK AT MOST 1048576: true; the input reads as it did. -/
def confForksUptoRow : OpenClaim := { program := "ytcpmfjclkdjfmaagreat", sum := "54c1e4df813bc6115c0195f48c405fddc2d46dd76ef8d4954d68921bd43ef86e", func := "tollgate/tollgatelaw08.ConfForks", spec := "confForks", inPlace := ["math.Float64bits", "math.Float64frombits", "maps.clone"], unfollowed := true, recurses := true, plainKeys := false, apart := false, narrowed := true }
def ConfForksUptoSaid : Prop := confForksUptoRow.holds Tryz.pinned (OpenSpec.upto confForksSpec)

/-- 'tollgatelaw08.ConfNone', WHERE WHAT IT READS IS OF BULK AT MOST 1048576: true; the input reads as it did. -/
def confNoneUptoRow : OpenClaim := { program := "ytcpmfjclkdjfmaagreat", sum := "54c1e4df813bc6115c0195f48c405fddc2d46dd76ef8d4954d68921bd43ef86e", func := "tollgate/tollgatelaw08.ConfNone", spec := "confNone", inPlace := ["math.Float64bits", "math.Float64frombits", "maps.clone"], unfollowed := true, recurses := true, plainKeys := false, apart := false, narrowed := true }
def ConfNoneUptoSaid : Prop := confNoneUptoRow.holds Tryz.pinned (OpenSpec.upto confNoneSpec)

/-- 'tollgatelaw08.ConfReads', WHERE WHAT IT READS IS OF BULK AT MOST 1048576: true; the input reads as it did. -/
def confReadsUptoRow : OpenClaim := { program := "ytcpmfjclkdjfmaagreat", sum := "54c1e4df813bc6115c0195f48c405fddc2d46dd76ef8d4954d68921bd43ef86e", func := "tollgate/tollgatelaw08.ConfReads", spec := "confReads", inPlace := ["math.Float64frombits", "math.Float64bits"], unfollowed := true, recurses := true, plainKeys := false, apart := false, narrowed := true }
def ConfReadsUptoSaid : Prop := confReadsUptoRow.holds Tryz.pinned (OpenSpec.upto confReadsSpec)

/-- 'tollgatelaw08.ConfSaves', WHERE WHAT IT READS IS OF BULK AT MOST 1048576: true; the input reads as it did. -/
def confSavesUptoRow : OpenClaim := { program := "ytcpmfjclkdjfmaagreat", sum := "54c1e4df813bc6115c0195f48c405fddc2d46dd76ef8d4954d68921bd43ef86e", func := "tollgate/tollgatelaw08.ConfSaves", spec := "confSaves", inPlace := ["math.Float64bits", "math.Float64frombits"], unfollowed := true, recurses := true, plainKeys := false, apart := false, narrowed := true }
def ConfSavesUptoSaid : Prop := confSavesUptoRow.holds Tryz.pinned (OpenSpec.upto confSavesSpec)

/-- 'tollgatelaw08.ConfLoads', WHERE WHAT IT READS IS OF BULK AT MOST 1048576: true; the input reads as it did. -/
def confLoadsUptoRow : OpenClaim := { program := "ytcpmfjclkdjfmaagreat", sum := "54c1e4df813bc6115c0195f48c405fddc2d46dd76ef8d4954d68921bd43ef86e", func := "tollgate/tollgatelaw08.ConfLoads", spec := "confLoads", inPlace := ["math.Float64frombits", "math.Float64bits"], unfollowed := true, recurses := true, plainKeys := false, apart := false, narrowed := true }
def ConfLoadsUptoSaid : Prop := confLoadsUptoRow.holds Tryz.pinned (OpenSpec.upto confLoadsSpec)

end Rows
end Go.Proofs.YtcpmfjclkdjfmaaGreat
