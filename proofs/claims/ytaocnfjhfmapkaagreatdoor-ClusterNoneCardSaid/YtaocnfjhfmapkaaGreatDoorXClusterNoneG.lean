/-
  Texts of this claim's own, laid into one: ClusRn.
-/
import Derived.Test.YtaocnfjhfmapkaaGreatDoorXClusterNoneA
import Derived.Test.YtaocnfjhfmapkaaGreatDoorXClusterNoneB
import Derived.Test.YtaocnfjhfmapkaaGreatDoorXClusterNoneC
import Derived.Test.YtaocnfjhfmapkaaGreatDoorXClusterNoneD
import Derived.Test.YtaocnfjhfmapkaaGreatDoorXClusterNoneE
import Derived.Test.YtaocnfjhfmapkaaGreatDoorXClusterNoneF
set_option linter.all false
/-
  One step of a new cluster of two nodes, whatever step it is: runs of the kernel's, kind by kind.
-/
namespace Go.Ev
open Go Go.Vc Go.RowKit Go.Proofs.YtaocnfjhfmapkaaGreatDoor Go.Proofs
set_option maxRecDepth 1000000
abbrev k1 : Value := .pointer (some ⟨1, 0, none⟩)
/-- A step's cell by itself; a step's cell from lo to hi (both moved by 2^63). -/
abbrev eX (i : Nat) : Value := .chan (some (i + 1))
abbrev iX (i lo hi : Nat) : Value := .chan (some (1000 + ((i + 1) * 36893488147419103232 + lo) * 36893488147419103232 + hi))
abbrev loX (i n : Nat) : Value := iX i 0 (9223372036854775808 + n)
abbrev hiX (i n : Nat) : Value := iX i (9223372036854775808 + n) 18446744073709551615
abbrev aX (i : Nat) : Value := iX i 0 18446744073709551615
abbrev nX (n : Nat) : Value := .int .i64 n
def stA (kind node to at_ do_ nd : Value) : List Value := [kind, node, to, at_, aX 4, aX 5, eX 6, eX 7, eX 8, eX 9, eX 10, eX 11, eX 12, eX 13, eX 14, do_, nd]
/-- A number, or one between bounds; that is not 0. -/
noncomputable def intish (v : Value) : Bool := match v with | .int k _ => isK k .i64 | .chan (some j) => (match iv j with | some _ => true | none => false) | _ => false
noncomputable def notZ (v : Value) : Bool := match ivV v with | some (lo, hi) => Nat.blt 9223372036854775808 lo || Nat.blt hi 9223372036854775808 | none => false
def anyE (_ : Value) : Bool := true
noncomputable def isE (n : Nat) (v : Value) : Bool := match v with | .int k (.ofNat m) => isK k .i64 && Nat.beq m n | _ => false
noncomputable def tellsE (c : Value → Bool) (v : Value) : Bool := match v with
  | .agg ⟨[a, b, d, e, .slice _ _ _, .slice _ _ _, .slice _ _ _]⟩ => (c a && intish a) && (intish b && (intish d && intish e))
  | _ => false
/-- The step itself, as it lies there. -/
def sCells : List Value := [eX 0, eX 1, eX 2, eX 3, eX 4, eX 5, eX 6, eX 7, eX 8, eX 9, eX 10, eX 11, eX 12, eX 13, eX 14, eX 15, eX 16]
noncomputable abbrev kN : Nat := (kS 0).length
noncomputable abbrev sObj : AO := .cells kN 32 1 sCells
def rCells : List Value := [.int .i64 0, .int .i64 0, .string ⟨#[]⟩, .string ⟨#[]⟩]
/-- What a nil cluster served. -/
noncomputable abbrev aObj : AO := .cells (kN + 1) 35 1 rCells
noncomputable def kM : M := mOf (kS 0 ++ [sObj, aObj]) (kN + 2)
noncomputable def okD (c : Value → Bool) (r : Res) : Bool := match r with | some l => l.all fun p => tellsE c p.1 && takes (fun i => i) [.frm 0, sObj, aObj] p.2.t | none => false
noncomputable abbrev doK (s : List Value) : Res := callN ⟨Tryz.prog, tyT Tryz.prog, fs1⟩ 100 8 [k1, .agg ⟨s⟩] kM
noncomputable abbrev okS (c : Value → Bool) (kind node to at_ do_ nd : Value) : Bool := okD c (doK (stA kind node to at_ do_ nd))
theorem run_kind : (okS notZ (loX 0 0) (aX 1) (aX 2) (aX 3) (aX 15) (aX 16) && okS notZ (hiX 0 12) (aX 1) (aX 2) (aX 3) (aX 15) (aX 16)) = true := by kernel_rfl
theorem run_node : ([1, 7, 8, 9, 10, 11].all fun k => okS notZ (nX k) (loX 1 0) (aX 2) (aX 3) (aX 15) (aX 16) && okS notZ (nX k) (hiX 1 3) (aX 2) (aX 3) (aX 15) (aX 16)) = true := by kernel_rfl
theorem run_gone : ([2, 3, 4].all fun k => okS (isE 8) (nX k) (aX 1) (aX 2) (iX 3 0 9223372036854775807) (aX 15) (aX 16) && okS (isE 8) (nX k) (aX 1) (aX 2) (hiX 3 0) (aX 15) (aX 16)) = true := by kernel_rfl
abbrev nine : List Nat := [1, 2, 3, 4, 5, 6, 7, 8, 9]
theorem run_part : ([5, 6].all fun k => (okS anyE (nX k) (loX 1 0) (aX 2) (aX 3) (aX 15) (aX 16) && okS anyE (nX k) (hiX 1 10) (aX 2) (aX 3) (aX 15) (aX 16)) &&
    nine.all fun n => (okS anyE (nX k) (nX n) (loX 2 0) (aX 3) (aX 15) (aX 16) && okS anyE (nX k) (nX n) (hiX 2 10) (aX 3) (aX 15) (aX 16)) && nine.all fun o => okS anyE (nX k) (nX n) (nX o) (aX 3) (aX 15) (aX 16)) = true := by kernel_rfl
theorem run_good : ([1, 7, 8, 9, 11].all fun k => [1, 2].all fun n => okS anyE (nX k) (nX n) (aX 2) (aX 3) (aX 15) (aX 16)) = true := by kernel_rfl
theorem run_refo : ([1, 2].all fun n => (okS anyE (nX 10) (nX n) (aX 2) (aX 3) (loX 15 0) (aX 16) && okS anyE (nX 10) (nX n) (aX 2) (aX 3) (hiX 15 5) (aX 16)) &&
    [1, 2, 3, 4].all fun d => (okS anyE (nX 10) (nX n) (aX 2) (aX 3) (nX d) (loX 16 0) && okS anyE (nX 10) (nX n) (aX 2) (aX 3) (nX d) (hiX 16 10)) && (okS anyE (nX 10) (nX n) (aX 2) (aX 3) (nX d) (nX 1) && (okS anyE (nX 10) (nX n) (aX 2) (aX 3) (nX d) (nX 2) && okS anyE (nX 10) (nX n) (aX 2) (aX 3) (nX d) (iX 16 9223372036854775811 9223372036854775817)))) = true := by kernel_rfl
end Go.Ev
