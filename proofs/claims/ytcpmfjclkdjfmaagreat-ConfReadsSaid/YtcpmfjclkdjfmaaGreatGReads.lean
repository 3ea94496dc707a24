/-
  What the functions' code comes to; printed by a program of this claim's own.
-/
import Derived.Test.YtcpmfjclkdjfmaaGreatProg
import Derived.KernelRfl
import Derived.Test.YtcpmfjclkdjfmaaGreatGd
namespace Go.Proofs.YtcpmfjclkdjfmaaGreat
open Go Go.Vc
set_option maxRecDepth 100000
set_option linter.unusedVariables false

/-! tollgate/tollgatelaw08.ConfReads -/
def T_law08_ConfReads (b1a : Option Addr) (b1l : Nat) (b1c : Nat) (w : World) (R : Ending → World → Prop) : Prop :=
  Calls Tryz.prog 30 #[.slice b1a b1l b1c] w (ret (fun r2 w3 => ∃ x4 : Int, ∃ x5 : Int, ∃ x6 : Int, ∃ x7 : Int, ∃ s8 : ByteArray, ∃ s9 : ByteArray, ∃ s10 : ByteArray, ∃ s11a : Option Addr, ∃ s11l : Nat, ∃ s11c : Nat, ∃ x12 : Int, r2 = .tuple #[.agg #[.int .i64 x4, .int .i64 x5, .int .i64 x6, .int .i64 x7, .string s8, .string s9, .string s10, .slice s11a s11l s11c], .int .i64 x12] ∧ let w13 : World := w3.alloc (.cells #[.int .i64 0, .int .i64 0, .int .i64 0, .int .i64 0, .string (ByteArray.mk #[]), .string (ByteArray.mk #[]), .string (ByteArray.mk #[]), .slice none 0 0] 42)
  (.agg #[.int .i64 x4, .int .i64 x5, .int .i64 x6, .int .i64 x7, .string s8, .string s9, .string s10, .slice s11a s11l s11c] : Value).cells.size = 8 ∧ wrOk w13 (⟨w3.heap.size, 0, none⟩ : Addr) (.agg #[.int .i64 x4, .int .i64 x5, .int .i64 x6, .int .i64 x7, .string s8, .string s9, .string s10, .slice s11a s11l s11c]) ∧ let w14 : World := wr w13 (⟨w3.heap.size, 0, none⟩ : Addr) (.agg #[.int .i64 x4, .int .i64 x5, .int .i64 x6, .int .i64 x7, .string s8, .string s9, .string s10, .slice s11a s11l s11c])
  Calls Tryz.prog 31 #[.slice b1a b1l b1c] w14 (ret (fun r15 w16 => ∃ x17 : Int, ∃ x18 : Int, ∃ x19 : Int, ∃ x20 : Int, ∃ s21 : ByteArray, ∃ s22 : ByteArray, ∃ s23 : ByteArray, ∃ s24a : Option Addr, ∃ s24l : Nat, ∃ s24c : Nat, ∃ x25 : Int, r15 = .tuple #[.agg #[.int .i64 x17, .int .i64 x18, .int .i64 x19, .int .i64 x20, .string s21, .string s22, .string s23, .slice s24a s24l s24c], .int .i64 x25] ∧ let w26 : World := w16.alloc (.cells #[.int .i64 0, .int .i64 0, .int .i64 0, .int .i64 0, .string (ByteArray.mk #[]), .string (ByteArray.mk #[]), .string (ByteArray.mk #[]), .slice none 0 0] 42)
  (.agg #[.int .i64 x17, .int .i64 x18, .int .i64 x19, .int .i64 x20, .string s21, .string s22, .string s23, .slice s24a s24l s24c] : Value).cells.size = 8 ∧ wrOk w26 (⟨w16.heap.size, 0, none⟩ : Addr) (.agg #[.int .i64 x17, .int .i64 x18, .int .i64 x19, .int .i64 x20, .string s21, .string s22, .string s23, .slice s24a s24l s24c]) ∧ let w27 : World := wr w26 (⟨w16.heap.size, 0, none⟩ : Addr) (.agg #[.int .i64 x17, .int .i64 x18, .int .i64 x19, .int .i64 x20, .string s21, .string s22, .string s23, .slice s24a s24l s24c])
  Calls Tryz.prog 15 #[] w27 (ret (fun r28 w29 => ∃ b30 : Bool, r28 = .bool b30 ∧ if b30 = true then (∃ x31 : Int, ∃ x32 : Int, ∃ x33 : Int, ∃ x34 : Int, ∃ s35 : ByteArray, ∃ s36 : ByteArray, ∃ s37 : ByteArray, ∃ s38a : Option Addr, ∃ s38l : Nat, ∃ s38c : Nat, rd w29 (⟨w3.heap.size, 0, none⟩ : Addr) (.agg #[.int .i64 x31, .int .i64 x32, .int .i64 x33, .int .i64 x34, .string s35, .string s36, .string s37, .slice s38a s38l s38c]) ∧ ∃ x39 : Int, ∃ x40 : Int, ∃ x41 : Int, ∃ x42 : Int, ∃ s43 : ByteArray, ∃ s44 : ByteArray, ∃ s45 : ByteArray, ∃ s46a : Option Addr, ∃ s46l : Nat, ∃ s46c : Nat, rd w29 (⟨w16.heap.size, 0, none⟩ : Addr) (.agg #[.int .i64 x39, .int .i64 x40, .int .i64 x41, .int .i64 x42, .string s43, .string s44, .string s45, .slice s46a s46l s46c]) ∧ Calls Tryz.prog 32 #[.agg #[.int .i64 x31, .int .i64 x32, .int .i64 x33, .int .i64 x34, .string s35, .string s36, .string s37, .slice s38a s38l s38c], .agg #[.int .i64 x39, .int .i64 x40, .int .i64 x41, .int .i64 x42, .string s43, .string s44, .string s45, .slice s46a s46l s46c]] w29 (ret (fun r47 w48 => ∃ b49 : Bool, r47 = .bool b49 ∧ if b49 = true then (R (.returned (.bool ((x12 : Int) == x25))) w48) else (R (.returned (.bool false)) w48)) (pan R))) else (R (.returned (.bool false)) w29)) (pan R))) (pan R))) (pan R))

theorem T_law08_ConfReads_hl : allP (hokL Tryz.prog (hookAt []) (bodyOf Tryz.f10) 1) = (True) := by kernel_rfl

theorem T_law08_ConfReads_eq (b1a : Option Addr) (b1l : Nat) (b1c : Nat) (w : World) (R : Ending → World → Prop) : vcCode Tryz.prog (hookAt []) (bodyOf Tryz.f10) 1 ⟨argEnv [.slice b1a b1l b1c] 0, Tryz.f10.ntmps, []⟩ w (finQ Tryz.prog Tryz.f10.results.toList R) = T_law08_ConfReads b1a b1l b1c w R := by kernel_rfl

theorem T_law08_ConfReads_b : Tryz.f10.body = some (bodyOf Tryz.f10) := by kernel_rfl
theorem T_law08_ConfReads_s : (quietSel (bodyOf Tryz.f10) && Nat.ble 1 Tryz.f10.ntmps) = true := by kernel_rfl

theorem C_law08_ConfReads {b1a : Option Addr} {b1l : Nat} {b1c : Nat} {w : World} {R : Ending → World → Prop} (h : T_law08_ConfReads b1a b1l b1c w R) : Calls Tryz.prog 10 #[.slice b1a b1l b1c] w R :=
  calls_of_text (args := [.slice b1a b1l b1c]) mixed Tryz.func10 T_law08_ConfReads_b T_law08_ConfReads_s (HOk_of _ _ (by rw [T_law08_ConfReads_hl]; exact trivial)) (by rw [T_law08_ConfReads_eq]; exact h)

end Go.Proofs.YtcpmfjclkdjfmaaGreat
