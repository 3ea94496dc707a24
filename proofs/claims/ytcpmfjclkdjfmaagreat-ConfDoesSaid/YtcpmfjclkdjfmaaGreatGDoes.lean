/-
  What the functions' code comes to; printed by a program of this claim's own.
-/
import Derived.Test.YtcpmfjclkdjfmaaGreatProg
import Derived.KernelRfl
import Derived.Test.YtcpmfjclkdjfmaaGreatGi
namespace Go.Proofs.YtcpmfjclkdjfmaaGreat
open Go Go.Vc
set_option maxRecDepth 100000
set_option linter.unusedVariables false

/-! tollgate/tollgatelaw08.ConfDoes -/
def T_law08_ConfDoes (l1a : Option Addr) (l1l : Nat) (l1c : Nat) (w : World) (R : Ending → World → Prop) : Prop :=
  Calls Tryz.prog 13 #[.slice l1a l1l l1c] w (ret (fun r2 w3 => ∃ p4 : Option Addr, ∃ p5 : Option Addr, ∃ b6 : Bool, r2 = .tuple #[.pointer p4, .pointer p5, .bool b6] ∧ Calls Tryz.prog 15 #[] w3 (ret (fun r7 w8 => ∃ b9 : Bool, r7 = .bool b9 ∧ if b9 = true then (if b6 = true then (Calls Tryz.prog 26 #[.pointer p4, .pointer p5] w8 (ret (fun r10 w11 => ∃ b12 : Bool, r10 = .bool b12 ∧ R (.returned (.bool b12)) w11) (pan R))) else (R (.returned (.bool false)) w8)) else (R (.returned (.bool false)) w8)) (pan R))) (pan R))

theorem T_law08_ConfDoes_hl : allP (hokL Tryz.prog (hookAt []) (bodyOf Tryz.f7) 1) = (True) := by kernel_rfl

theorem T_law08_ConfDoes_eq (l1a : Option Addr) (l1l : Nat) (l1c : Nat) (w : World) (R : Ending → World → Prop) : vcCode Tryz.prog (hookAt []) (bodyOf Tryz.f7) 1 ⟨argEnv [.slice l1a l1l l1c] 0, Tryz.f7.ntmps, []⟩ w (finQ Tryz.prog Tryz.f7.results.toList R) = T_law08_ConfDoes l1a l1l l1c w R := by kernel_rfl

theorem T_law08_ConfDoes_b : Tryz.f7.body = some (bodyOf Tryz.f7) := by kernel_rfl
theorem T_law08_ConfDoes_s : (quietSel (bodyOf Tryz.f7) && Nat.ble 1 Tryz.f7.ntmps) = true := by kernel_rfl

theorem C_law08_ConfDoes {l1a : Option Addr} {l1l : Nat} {l1c : Nat} {w : World} {R : Ending → World → Prop} (h : T_law08_ConfDoes l1a l1l l1c w R) : Calls Tryz.prog 7 #[.slice l1a l1l l1c] w R :=
  calls_of_text (args := [.slice l1a l1l l1c]) mixed Tryz.func7 T_law08_ConfDoes_b T_law08_ConfDoes_s (HOk_of _ _ (by rw [T_law08_ConfDoes_hl]; exact trivial)) (by rw [T_law08_ConfDoes_eq]; exact h)

end Go.Proofs.YtcpmfjclkdjfmaaGreat
