/-
  Texts of this claim's own, laid into one: ClusLr.
-/
import Derived.Test.YtaocnfjhfmapkaaGreatDoorXClusterNoneA
import Derived.Test.YtaocnfjhfmapkaaGreatDoorXClusterNoneB
import Derived.Test.YtaocnfjhfmapkaaGreatDoorXClusterNoneC
import Derived.Test.YtaocnfjhfmapkaaGreatDoorXClusterNoneD
set_option linter.all false
/-
  The cluster's first look, in pieces: each a run of the kernel's.
-/
namespace Go.Ev
open Go Go.Vc Go.RowKit Go.Proofs.YtaocnfjhfmapkaaGreatDoor Go.Proofs
set_option maxRecDepth 1000000
abbrev j1 : Value := .pointer (some ⟨1, 0, none⟩)
abbrev kSt (k n : Int) : Value := .agg ⟨[.int .i64 k, .int .i64 n, .int .i64 0, .int .i64 0, .int .i64 0, .int .i64 0, .slice none 0 0, .int .i64 0, .int .i64 0, .int .i64 0, .int .i64 0, .string ⟨#[]⟩, .string ⟨#[]⟩, .string ⟨#[]⟩, .slice none 0 0, .int .i64 0, .int .i64 0]⟩
abbrev kTold (e n : Int) : Value := .agg ⟨[.int .i64 e, .int .i64 n, .int .i64 0, .int .i64 0, .slice none 0 0, .slice none 0 0, .slice none 0 0]⟩
noncomputable def isTold (v : Value) : Bool := match v with
  | .agg ⟨[.int a _, .int b _, .int c _, .int d _, .slice _ _ _, .slice _ _ _, .slice _ _ _]⟩ => isK a .i64 && (isK b .i64 && (isK c .i64 && isK d .i64))
  | _ => false
noncomputable def isSl (n : Nat) (v : Value) : Bool := match v with | .slice _ l _ => Nat.beq l n | _ => false
noncomputable abbrev kstp (g : Nat) (args : List Value) (k : Nat) : Res := callN ⟨Tryz.prog, tyT Tryz.prog, fs0⟩ 100 g args (mOf (kS k) (kS k).length)
noncomputable abbrev keptK (v : (Nat → Nat) → Value → Bool) : (Nat → Nat) → Value → Bool := fun σ x => Nat.beq (σ 1) 1 && v σ x
theorem lnew_run : goK (fun σ x => eqR σ (.tuple ⟨[j1, .int .i64 0]⟩) x) (kS 1) (kT 1) (callN ⟨Tryz.prog, tyT Tryz.prog, fs0⟩ 100 5 [.int .i64 3, .int .i64 65536] m0) = true := by kernel_rfl
theorem ltick_run0 : goK (keptK fun _ x => isTold x) (kS 2) (kT 2) (kstp 8 [j1, kSt 1 1] 1) = true := by kernel_rfl
theorem ltick_run1 : goK (keptK fun _ x => isTold x) (kS 3) (kT 3) (kstp 8 [j1, kSt 1 1] 2) = true := by kernel_rfl
theorem ltick_run2 : goK (keptK fun _ x => isTold x) (kS 4) (kT 4) (kstp 8 [j1, kSt 1 1] 3) = true := by kernel_rfl
theorem ltick_run3 : goK (keptK fun _ x => isTold x) (kS 5) (kT 5) (kstp 8 [j1, kSt 1 1] 4) = true := by kernel_rfl
theorem ltick_run4 : goK (keptK fun _ x => isTold x) (kS 6) (kT 6) (kstp 8 [j1, kSt 1 1] 5) = true := by kernel_rfl
theorem ltick_run5 : goK (keptK fun _ x => isTold x) (kS 7) (kT 7) (kstp 8 [j1, kSt 1 1] 6) = true := by kernel_rfl
theorem ltick_run6 : goK (keptK fun _ x => isTold x) (kS 8) (kT 8) (kstp 8 [j1, kSt 1 1] 7) = true := by kernel_rfl
theorem ltick_run7 : goK (keptK fun _ x => isTold x) (kS 9) (kT 9) (kstp 8 [j1, kSt 1 1] 8) = true := by kernel_rfl
theorem ltick_run8 : goK (keptK fun _ x => isTold x) (kS 10) (kT 10) (kstp 8 [j1, kSt 1 1] 9) = true := by kernel_rfl
theorem ltick_run9 : goK (keptK fun _ x => isTold x) (kS 11) (kT 11) (kstp 8 [j1, kSt 1 1] 10) = true := by kernel_rfl
theorem ltick_run10 : goK (keptK fun _ x => isTold x) (kS 12) (kT 12) (kstp 8 [j1, kSt 1 1] 11) = true := by kernel_rfl
theorem ltick_run11 : goK (keptK fun _ x => isTold x) (kS 13) (kT 13) (kstp 8 [j1, kSt 1 1] 12) = true := by kernel_rfl
theorem ltick_run12 : goK (keptK fun _ x => isTold x) (kS 14) (kT 14) (kstp 8 [j1, kSt 1 1] 13) = true := by kernel_rfl
theorem lcrash_run : goK (keptK fun _ x => eqV x (kTold 0 2)) (kS 15) (kT 15) (kstp 8 [j1, kSt 7 2] 14) = true := by kernel_rfl
theorem lunder_run : goK (keptK fun _ x => isSl 2 x) (kS 16) (kT 16) (kstp 14 [j1] 15) = true := by kernel_rfl
theorem ldeliver_run : goK (keptK fun _ x => eqV x (kTold 10 2)) (kS 17) (kT 17) (kstp 8 [j1, kSt 2 0] 16) = true := by kernel_rfl
theorem lup2_run : goK (keptK fun _ x => eqV x (.bool false)) (kS 18) (kT 18) (kstp 11 [j1, .int .i64 2] 17) = true := by kernel_rfl
theorem lup3_run : goK (keptK fun _ x => eqV x (.bool true)) (kS 19) (kT 19) (kstp 11 [j1, .int .i64 3] 18) = true := by kernel_rfl
theorem lnodes_run : goK (keptK fun _ x => eqV x (.int .i64 3)) (kS 20) (kT 20) (kstp 10 [j1] 19) = true := by kernel_rfl
end Go.Ev
