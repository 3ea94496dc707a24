/-
  Texts of this claim's own, laid into one: AdminRn.
-/
import Derived.Test.YtfkiolliegiocaaGreatXAdminNoneA
import Derived.Test.YtfkiolliegiocaaGreatXAdminNoneB
import Derived.Test.YtfkiolliegiocaaGreatXAdminNoneC
import Derived.Test.YtfkiolliegiocaaGreatXAdminNoneD
set_option linter.all false
/-
  The desk's first look, in pieces: each a run of the kernel's.
-/
namespace Go.Ev
open Go Go.Vc Go.RowKit Go.Proofs.YtfkiolliegiocaaGreat Go.Proofs
set_option maxRecDepth 1000000
abbrev d1 : Value := .pointer (some ⟨1, 0, none⟩)
noncomputable def isTold (v : Value) : Bool := match v with
  | .agg ⟨[.int a _, .int b _, .int c _, .int d _, .slice _ _ _, .slice _ _ _, .slice _ _ _]⟩ => isK a .i64 && (isK b .i64 && (isK c .i64 && isK d .i64))
  | _ => false
noncomputable abbrev stp (g : Nat) (args : List Value) (k : Nat) : Res := callN ⟨Tryz.prog, tyT Tryz.prog, fs0⟩ 100 g args (mOf (aS k) (aS k).length)
noncomputable abbrev kept (v : (Nat → Nat) → Value → Bool) : (Nat → Nat) → Value → Bool := fun σ x => Nat.beq (σ 1) 1 && v σ x
theorem new_run : goK (fun σ x => eqR σ (.tuple ⟨[d1, .int .i64 0]⟩) x) (aS 0) (aT 0) (callN ⟨Tryz.prog, tyT Tryz.prog, fs0⟩ 100 12 [.int .i64 1, .int .i64 65536] m0) = true := by kernel_rfl
theorem pool_run : goK (kept fun σ x => eqR σ aPool x) (aS 1) (aT 1) (stp 32 [.string ⟨#[97]⟩] 0) = true := by kernel_rfl
theorem ask_run : goK (kept fun _ x => eqV x (.tuple ⟨[.int .i64 1, .int .i64 0]⟩)) (aS 2) (aT 2) (stp 4 [d1, .int .i64 3, aOp] 1) = true := by kernel_rfl
theorem tick_run0 : goK (kept fun _ x => isTold x) (aS 3) (aT 3) (stp 6 [d1, aTick] 2) = true := by kernel_rfl
theorem tick_run1 : goK (kept fun _ x => isTold x) (aS 4) (aT 4) (stp 6 [d1, aTick] 3) = true := by kernel_rfl
theorem tick_run2 : goK (kept fun _ x => isTold x) (aS 5) (aT 5) (stp 6 [d1, aTick] 4) = true := by kernel_rfl
theorem tick_run3 : goK (kept fun _ x => isTold x) (aS 6) (aT 6) (stp 6 [d1, aTick] 5) = true := by kernel_rfl
theorem tick_run4 : goK (kept fun _ x => isTold x) (aS 7) (aT 7) (stp 6 [d1, aTick] 6) = true := by kernel_rfl
theorem tick_run5 : goK (kept fun _ x => isTold x) (aS 8) (aT 8) (stp 6 [d1, aTick] 7) = true := by kernel_rfl
theorem tick_run6 : goK (kept fun _ x => isTold x) (aS 9) (aT 9) (stp 6 [d1, aTick] 8) = true := by kernel_rfl
theorem tick_run7 : goK (kept fun _ x => isTold x) (aS 10) (aT 10) (stp 6 [d1, aTick] 9) = true := by kernel_rfl
theorem tick_run8 : goK (kept fun _ x => isTold x) (aS 11) (aT 11) (stp 6 [d1, aTick] 10) = true := by kernel_rfl
theorem tick_run9 : goK (kept fun _ x => isTold x) (aS 12) (aT 12) (stp 6 [d1, aTick] 11) = true := by kernel_rfl
theorem tick_run10 : goK (kept fun _ x => isTold x) (aS 13) (aT 13) (stp 6 [d1, aTick] 12) = true := by kernel_rfl
theorem tick_run11 : goK (kept fun _ x => isTold x) (aS 14) (aT 14) (stp 6 [d1, aTick] 13) = true := by kernel_rfl
theorem tick_run12 : goK (kept fun _ x => isTold x) (aS 15) (aT 15) (stp 6 [d1, aTick] 14) = true := by kernel_rfl
theorem try_run : goK (kept fun _ x => eqV x (.tuple ⟨[.int .i64 0, .int .i64 0]⟩)) (aS 16) (aT 16) (stp 5 [d1, .int .i64 1, .int .i64 1] 15) = true := by kernel_rfl
theorem hist_run : goK (kept fun σ x => eqR σ (.slice (some ⟨2, 0, none⟩) 1 1) x) (aS 17) (aT 17) (stp 7 [d1] 16) = true := by kernel_rfl
theorem lead_run : goK (kept fun _ x => eqV x (.int .i64 1)) (aS 18) (aT 18) (stp 9 [d1] 17) = true := by kernel_rfl
end Go.Ev
