/-
  No cell of these rows narrows 'for every input' (looked for: loops, veiled, ifaces, maps, wideKeys, modest, calm, conditions, laid).
  DERIVED. THE GIVEN ROWS OF THIS SEAT. 9 by the template 'for every input the law returns true; each argument reads behind the call as it read before'; 0 by the template 'total and deterministic' (their statements: YtilhnmncbpnfjaaTotals.lean).
  GIVEN WITH THE SEED: the statements are not yours to turn. If you find one false, say at which input.
  Laid BY PROGRAM, IN A SANDBOX (cutbox-rows.mjs): the forced cells as the released guide's own fill.sh prints them over the translation c383a2cb8dc00117… (all of the seat's roots in one cut). By AI agents, Wed Nov 11 2026. No macro, syntax, notation, axiom, sorry.
-/
import Derived.Test.YtilhnmncbpnfjaaChecked
import GoSem.Claim
import GoSem.ClaimJoined
import GoSem.ClaimMapViews
import Derived.JoinedTies
import Derived.KernelRfl
namespace Go.Proofs.Ytilhnmncbpnfjaa
/- THE CELL 'sum', in the pinned program and in every row, IS THE sha256 OF THE DUMP (.gsa) THAT YtilhnmncbpnfjaaProg.lean LOADS. Nothing in Lean hashes anything: it is a label: what it is worth is what the hold of that sum in a sandbox is worth. -/
noncomputable def Try.pinned : Pinned := { name := "ytilhnmncbpnfjaa", sum := "c383a2cb8dc0011792cb71baa581ad00e72eba35993056bd8cac4573cb260a41", checked := Try.checked }
namespace Rows
def none {H : Type} : Left H := { results := [], args := [] }

/-- 'tollgatelaw04.FlightClocks': WHATEVER THE INPUT: true; the input reads as it did. -/
def flightClocksSpec : ChangeSpec := { name := "flightClocks", fn := fun _ => fun
  | [d] => { results := [.lit (.bool true)], args := [d] }
  | _ => none }
def flightClocksRow : OpenClaim := { program := "ytilhnmncbpnfjaa", sum := "c383a2cb8dc0011792cb71baa581ad00e72eba35993056bd8cac4573cb260a41", func := "tollgate/tollgatelaw04.FlightClocks", spec := "flightClocks", unfollowed := true, recurses := true, plainKeys := false, apart := false }
def FlightClocksSaid : Prop := flightClocksRow.holds Try.pinned (OpenSpec.ofChange flightClocksSpec)

/-- ITS FALSE NEIGHBOUR: 'it returns false'. Refute it at one input. -/
def flightClocksWrong : ChangeSpec := { name := "flightClocks", fn := fun _ => fun
  | [d] => { results := [.lit (.bool false)], args := [d] }
  | _ => none }
def FlightClocksWrongFalsely : Prop := flightClocksRow.holds Try.pinned (OpenSpec.ofChange flightClocksWrong)

/-- 'tollgatelaw04.FlightTaken': WHATEVER THE INPUT: true; the input reads as it did. -/
def flightTakenSpec : ChangeSpec := { name := "flightTaken", fn := fun _ => fun
  | [d] => { results := [.lit (.bool true)], args := [d] }
  | _ => none }
def flightTakenRow : OpenClaim := { program := "ytilhnmncbpnfjaa", sum := "c383a2cb8dc0011792cb71baa581ad00e72eba35993056bd8cac4573cb260a41", func := "tollgate/tollgatelaw04.FlightTaken", spec := "flightTaken", unfollowed := true, recurses := true, plainKeys := false, apart := false }
def FlightTakenSaid : Prop := flightTakenRow.holds Try.pinned (OpenSpec.ofChange flightTakenSpec)

/-- ITS FALSE NEIGHBOUR: 'it returns false'. Refute it at one input. -/
def flightTakenWrong : ChangeSpec := { name := "flightTaken", fn := fun _ => fun
  | [d] => { results := [.lit (.bool false)], args := [d] }
  | _ => none }
def FlightTakenWrongFalsely : Prop := flightTakenRow.holds Try.pinned (OpenSpec.ofChange flightTakenWrong)

/-- 'tollgatelaw04.FlightFull': WHATEVER THE INPUT: true; the input reads as it did. -/
def flightFullSpec : ChangeSpec := { name := "flightFull", fn := fun _ => fun
  | [d1, d2] => { results := [.lit (.bool true)], args := [d1, d2] }
  | _ => none }
def flightFullRow : OpenClaim := { program := "ytilhnmncbpnfjaa", sum := "c383a2cb8dc0011792cb71baa581ad00e72eba35993056bd8cac4573cb260a41", func := "tollgate/tollgatelaw04.FlightFull", spec := "flightFull", unfollowed := true, recurses := true, plainKeys := false, apart := false }
def FlightFullSaid : Prop := flightFullRow.holds Try.pinned (OpenSpec.ofChange flightFullSpec)

/-- ITS FALSE NEIGHBOUR: 'it returns false'. Refute it at one input. -/
def flightFullWrong : ChangeSpec := { name := "flightFull", fn := fun _ => fun
  | [d1, d2] => { results := [.lit (.bool false)], args := [d1, d2] }
  | _ => none }
def FlightFullWrongFalsely : Prop := flightFullRow.holds Try.pinned (OpenSpec.ofChange flightFullWrong)

/-- 'tollgatelaw04.FlightRises': WHATEVER THE INPUT: true; the input reads as it did. -/
def flightRisesSpec : ChangeSpec := { name := "flightRises", fn := fun _ => fun
  | [d] => { results := [.lit (.bool true)], args := [d] }
  | _ => none }
def flightRisesRow : OpenClaim := { program := "ytilhnmncbpnfjaa", sum := "c383a2cb8dc0011792cb71baa581ad00e72eba35993056bd8cac4573cb260a41", func := "tollgate/tollgatelaw04.FlightRises", spec := "flightRises", unfollowed := true, recurses := true, plainKeys := false, apart := false }
def FlightRisesSaid : Prop := flightRisesRow.holds Try.pinned (OpenSpec.ofChange flightRisesSpec)

/-- ITS FALSE NEIGHBOUR: 'it returns false'. Refute it at one input. -/
def flightRisesWrong : ChangeSpec := { name := "flightRises", fn := fun _ => fun
  | [d] => { results := [.lit (.bool false)], args := [d] }
  | _ => none }
def FlightRisesWrongFalsely : Prop := flightRisesRow.holds Try.pinned (OpenSpec.ofChange flightRisesWrong)

/-- 'tollgatelaw04.FlightParted': WHATEVER THE INPUT: true; the input reads as it did. -/
def flightPartedSpec : ChangeSpec := { name := "flightParted", fn := fun _ => fun
  | [d1, d2, d3] => { results := [.lit (.bool true)], args := [d1, d2, d3] }
  | _ => none }
def flightPartedRow : OpenClaim := { program := "ytilhnmncbpnfjaa", sum := "c383a2cb8dc0011792cb71baa581ad00e72eba35993056bd8cac4573cb260a41", func := "tollgate/tollgatelaw04.FlightParted", spec := "flightParted", unfollowed := true, recurses := true, plainKeys := false, apart := false }
def FlightPartedSaid : Prop := flightPartedRow.holds Try.pinned (OpenSpec.ofChange flightPartedSpec)

/-- ITS FALSE NEIGHBOUR: 'it returns false'. Refute it at one input. -/
def flightPartedWrong : ChangeSpec := { name := "flightParted", fn := fun _ => fun
  | [d1, d2, d3] => { results := [.lit (.bool false)], args := [d1, d2, d3] }
  | _ => none }
def FlightPartedWrongFalsely : Prop := flightPartedRow.holds Try.pinned (OpenSpec.ofChange flightPartedWrong)

/-- 'tollgatelaw04.FlightOwn': WHATEVER THE INPUT: true; the input reads as it did. -/
def flightOwnSpec : ChangeSpec := { name := "flightOwn", fn := fun _ => fun
  | [d] => { results := [.lit (.bool true)], args := [d] }
  | _ => none }
def flightOwnRow : OpenClaim := { program := "ytilhnmncbpnfjaa", sum := "c383a2cb8dc0011792cb71baa581ad00e72eba35993056bd8cac4573cb260a41", func := "tollgate/tollgatelaw04.FlightOwn", spec := "flightOwn", unfollowed := true, recurses := true, plainKeys := false, apart := false }
def FlightOwnSaid : Prop := flightOwnRow.holds Try.pinned (OpenSpec.ofChange flightOwnSpec)

/-- ITS FALSE NEIGHBOUR: 'it returns false'. Refute it at one input. -/
def flightOwnWrong : ChangeSpec := { name := "flightOwn", fn := fun _ => fun
  | [d] => { results := [.lit (.bool false)], args := [d] }
  | _ => none }
def FlightOwnWrongFalsely : Prop := flightOwnRow.holds Try.pinned (OpenSpec.ofChange flightOwnWrong)

/-- 'tollgatelaw04.FlightPlays': WHATEVER THE INPUT: true; the input reads as it did. -/
def flightPlaysSpec : ChangeSpec := { name := "flightPlays", fn := fun _ => fun
  | [d] => { results := [.lit (.bool true)], args := [d] }
  | _ => none }
def flightPlaysRow : OpenClaim := { program := "ytilhnmncbpnfjaa", sum := "c383a2cb8dc0011792cb71baa581ad00e72eba35993056bd8cac4573cb260a41", func := "tollgate/tollgatelaw04.FlightPlays", spec := "flightPlays", unfollowed := true, recurses := true, plainKeys := false, apart := false }
def FlightPlaysSaid : Prop := flightPlaysRow.holds Try.pinned (OpenSpec.ofChange flightPlaysSpec)

/-- ITS FALSE NEIGHBOUR: 'it returns false'. Refute it at one input. -/
def flightPlaysWrong : ChangeSpec := { name := "flightPlays", fn := fun _ => fun
  | [d] => { results := [.lit (.bool false)], args := [d] }
  | _ => none }
def FlightPlaysWrongFalsely : Prop := flightPlaysRow.holds Try.pinned (OpenSpec.ofChange flightPlaysWrong)

/-- 'tollgatelaw04.FlightForks': WHATEVER THE INPUT: true; the input reads as it did. -/
def flightForksSpec : ChangeSpec := { name := "flightForks", fn := fun _ => fun
  | [d1, d2] => { results := [.lit (.bool true)], args := [d1, d2] }
  | _ => none }
def flightForksRow : OpenClaim := { program := "ytilhnmncbpnfjaa", sum := "c383a2cb8dc0011792cb71baa581ad00e72eba35993056bd8cac4573cb260a41", func := "tollgate/tollgatelaw04.FlightForks", spec := "flightForks", inPlace := ["maps.clone"], unfollowed := true, recurses := true, plainKeys := false, apart := false }
def FlightForksSaid : Prop := flightForksRow.holds Try.pinned (OpenSpec.ofChange flightForksSpec)

/-- ITS FALSE NEIGHBOUR: 'it returns false'. Refute it at one input. -/
def flightForksWrong : ChangeSpec := { name := "flightForks", fn := fun _ => fun
  | [d1, d2] => { results := [.lit (.bool false)], args := [d1, d2] }
  | _ => none }
def FlightForksWrongFalsely : Prop := flightForksRow.holds Try.pinned (OpenSpec.ofChange flightForksWrong)

/-- 'tollgatelaw04.FlightNone': WHATEVER THE INPUT: true; the input reads as it did. -/
def flightNoneSpec : ChangeSpec := { name := "flightNone", fn := fun _ => fun
  | [d1, d2, d3] => { results := [.lit (.bool true)], args := [d1, d2, d3] }
  | _ => none }
def flightNoneRow : OpenClaim := { program := "ytilhnmncbpnfjaa", sum := "c383a2cb8dc0011792cb71baa581ad00e72eba35993056bd8cac4573cb260a41", func := "tollgate/tollgatelaw04.FlightNone", spec := "flightNone", inPlace := ["maps.clone"], unfollowed := true, recurses := true, plainKeys := false, apart := false }
def FlightNoneSaid : Prop := flightNoneRow.holds Try.pinned (OpenSpec.ofChange flightNoneSpec)

/-- ITS FALSE NEIGHBOUR: 'it returns false'. Refute it at one input. -/
def flightNoneWrong : ChangeSpec := { name := "flightNone", fn := fun _ => fun
  | [d1, d2, d3] => { results := [.lit (.bool false)], args := [d1, d2, d3] }
  | _ => none }
def FlightNoneWrongFalsely : Prop := flightNoneRow.holds Try.pinned (OpenSpec.ofChange flightNoneWrong)

/- THE SECOND FORM. 'bulk': how many values and letters a reading holds, each counted each time it is reached (what is shared counts as often as it is met; a slice's spare places count too). A statement '..UptoSaid' is the law's where the arguments, and the package variables that the reading takes, are together of bulk at most 1048576: NARROWER than '..Said'. Prove '..Said' where nothing that the law and all that it calls make is longer than what came in: it says more and counts as full. Else prove '..UptoSaid'. A law counts once. -/
mutual
def uptoBulk {H : Type} : DataW H → Nat
  | .lit (.string bytes) => bytes.length + 1
  | .lit _ => 1
  | .nil => 1
  | .ptr d => uptoBulk d + 1
  | .slice elems spare => uptoBulkAll elems + uptoBulkAll spare + 1
  | .agg parts => uptoBulkAll parts + 1
  | .iface _ d => uptoBulk d + 1
  | .map entries => uptoBulkEntries entries + 1
  | .held _ => 1
def uptoBulkAll {H : Type} : List (DataW H) → Nat
  | [] => 0
  | d :: r => uptoBulk d + uptoBulkAll r
def uptoBulkEntries {H : Type} : List (Lit × DataW H) → Nat
  | [] => 0
  | x :: r => uptoBulkEntry x + uptoBulkEntries r
def uptoBulkEntry {H : Type} : Lit × DataW H → Nat
  | (.string bytes, d) => bytes.length + uptoBulk d + 1
  | (_, d) => uptoBulk d + 1
 end
def uptoSmall : (H : Type) → List (DataW H) → Bool := fun _ ds => decide (uptoBulkAll ds ≤ 1048576)
def OpenSpec.upto (s : _root_.Go.ChangeSpec) : _root_.Go.OpenSpec := { _root_.Go.OpenSpec.ofChange s with cond := some uptoSmall }

/-- 'tollgatelaw04.FlightClocks', WHERE WHAT IT READS IS OF BULK AT MOST 1048576: true; the input reads as it did. -/
def flightClocksUptoRow : OpenClaim := { program := "ytilhnmncbpnfjaa", sum := "c383a2cb8dc0011792cb71baa581ad00e72eba35993056bd8cac4573cb260a41", func := "tollgate/tollgatelaw04.FlightClocks", spec := "flightClocks", unfollowed := true, recurses := true, plainKeys := false, apart := false, narrowed := true }
def FlightClocksUptoSaid : Prop := flightClocksUptoRow.holds Try.pinned (OpenSpec.upto flightClocksSpec)

/-- 'tollgatelaw04.FlightTaken', WHERE WHAT IT READS IS OF BULK AT MOST 1048576: true; the input reads as it did. -/
def flightTakenUptoRow : OpenClaim := { program := "ytilhnmncbpnfjaa", sum := "c383a2cb8dc0011792cb71baa581ad00e72eba35993056bd8cac4573cb260a41", func := "tollgate/tollgatelaw04.FlightTaken", spec := "flightTaken", unfollowed := true, recurses := true, plainKeys := false, apart := false, narrowed := true }
def FlightTakenUptoSaid : Prop := flightTakenUptoRow.holds Try.pinned (OpenSpec.upto flightTakenSpec)

/-- 'tollgatelaw04.FlightFull', WHERE WHAT IT READS IS OF BULK AT MOST 1048576: true; the input reads as it did. -/
def flightFullUptoRow : OpenClaim := { program := "ytilhnmncbpnfjaa", sum := "c383a2cb8dc0011792cb71baa581ad00e72eba35993056bd8cac4573cb260a41", func := "tollgate/tollgatelaw04.FlightFull", spec := "flightFull", unfollowed := true, recurses := true, plainKeys := false, apart := false, narrowed := true }
def FlightFullUptoSaid : Prop := flightFullUptoRow.holds Try.pinned (OpenSpec.upto flightFullSpec)

/-- 'tollgatelaw04.FlightRises', WHERE WHAT IT READS IS OF BULK AT MOST 1048576: true; the input reads as it did. -/
def flightRisesUptoRow : OpenClaim := { program := "ytilhnmncbpnfjaa", sum := "c383a2cb8dc0011792cb71baa581ad00e72eba35993056bd8cac4573cb260a41", func := "tollgate/tollgatelaw04.FlightRises", spec := "flightRises", unfollowed := true, recurses := true, plainKeys := false, apart := false, narrowed := true }
def FlightRisesUptoSaid : Prop := flightRisesUptoRow.holds Try.pinned (OpenSpec.upto flightRisesSpec)

/-- 'tollgatelaw04.FlightParted', WHERE WHAT IT READS IS OF BULK AT MOST 1048576: true; the input reads as it did. -/
def flightPartedUptoRow : OpenClaim := { program := "ytilhnmncbpnfjaa", sum := "c383a2cb8dc0011792cb71baa581ad00e72eba35993056bd8cac4573cb260a41", func := "tollgate/tollgatelaw04.FlightParted", spec := "flightParted", unfollowed := true, recurses := true, plainKeys := false, apart := false, narrowed := true }
def FlightPartedUptoSaid : Prop := flightPartedUptoRow.holds Try.pinned (OpenSpec.upto flightPartedSpec)

/-- 'tollgatelaw04.FlightOwn', WHERE WHAT IT READS IS OF BULK AT MOST 1048576: true; the input reads as it did. -/
def flightOwnUptoRow : OpenClaim := { program := "ytilhnmncbpnfjaa", sum := "c383a2cb8dc0011792cb71baa581ad00e72eba35993056bd8cac4573cb260a41", func := "tollgate/tollgatelaw04.FlightOwn", spec := "flightOwn", unfollowed := true, recurses := true, plainKeys := false, apart := false, narrowed := true }
def FlightOwnUptoSaid : Prop := flightOwnUptoRow.holds Try.pinned (OpenSpec.upto flightOwnSpec)

/-- 'tollgatelaw04.FlightPlays', WHERE WHAT IT READS IS OF BULK AT MOST 1048576: true; the input reads as it did. -/
def flightPlaysUptoRow : OpenClaim := { program := "ytilhnmncbpnfjaa", sum := "c383a2cb8dc0011792cb71baa581ad00e72eba35993056bd8cac4573cb260a41", func := "tollgate/tollgatelaw04.FlightPlays", spec := "flightPlays", unfollowed := true, recurses := true, plainKeys := false, apart := false, narrowed := true }
def FlightPlaysUptoSaid : Prop := flightPlaysUptoRow.holds Try.pinned (OpenSpec.upto flightPlaysSpec)

/-- 'tollgatelaw04.FlightForks', WHERE WHAT IT READS IS OF BULK AT MOST 1048576: true; the input reads as it did. -/
def flightForksUptoRow : OpenClaim := { program := "ytilhnmncbpnfjaa", sum := "c383a2cb8dc0011792cb71baa581ad00e72eba35993056bd8cac4573cb260a41", func := "tollgate/tollgatelaw04.FlightForks", spec := "flightForks", inPlace := ["maps.clone"], unfollowed := true, recurses := true, plainKeys := false, apart := false, narrowed := true }
def FlightForksUptoSaid : Prop := flightForksUptoRow.holds Try.pinned (OpenSpec.upto flightForksSpec)

/-- 'tollgatelaw04.FlightNone', WHERE WHAT IT READS IS OF BULK AT MOST 1048576: true; the input reads as it did. -/
def flightNoneUptoRow : OpenClaim := { program := "ytilhnmncbpnfjaa", sum := "c383a2cb8dc0011792cb71baa581ad00e72eba35993056bd8cac4573cb260a41", func := "tollgate/tollgatelaw04.FlightNone", spec := "flightNone", inPlace := ["maps.clone"], unfollowed := true, recurses := true, plainKeys := false, apart := false, narrowed := true }
def FlightNoneUptoSaid : Prop := flightNoneUptoRow.holds Try.pinned (OpenSpec.upto flightNoneSpec)

end Rows
end Go.Proofs.Ytilhnmncbpnfjaa
