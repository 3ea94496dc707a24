/-
  What the functions' code comes to; printed by a program of this claim's own.
-/
import Derived.Test.YtcpmfjclkdjfmaaGreatProg
import Derived.KernelRfl
import Derived.Test.YtcpmfjclkdjfmaaGreatGd
namespace Go.Proofs.YtcpmfjclkdjfmaaGreat
open Go Go.Vc
set_option maxRecDepth 100000
set_option linter.unusedVariables false

/-! tollgate/tollgatelaw08.ConfNone -/
def T_law08_ConfNone (x1 : Int) (x2 : Int) (x3 : Int) (x4 : Int) (s5 : ByteArray) (s6 : ByteArray) (s7 : ByteArray) (s8a : Option Addr) (s8l : Nat) (s8c : Nat) (n9 : Int) (w : World) (R : Ending → World → Prop) : Prop :=
  let w10 : World := w.alloc (.cells #[.int .i64 x1, .int .i64 x2, .int .i64 x3, .int .i64 x4, .string s5, .string s6, .string s7, .slice s8a s8l s8c] 42)
  Calls Tryz.prog 24 #[.pointer none, .int .i64 n9] w10 (ret (fun r11 w12 => ∃ x13 : Int, ∃ x14 : Int, ∃ x15 : Int, r11 = .tuple #[.int .i64 x13, .agg #[.int .i64 x14, .int .i64 x15]] ∧ let w16 : World := w12.alloc (.cells #[.int .i64 0, .int .i64 0] 45)
  (.agg #[.int .i64 x14, .int .i64 x15] : Value).cells.size = 2 ∧ wrOk w16 (⟨w12.heap.size, 0, none⟩ : Addr) (.agg #[.int .i64 x14, .int .i64 x15]) ∧ let w17 : World := wr w16 (⟨w12.heap.size, 0, none⟩ : Addr) (.agg #[.int .i64 x14, .int .i64 x15])
  Calls Tryz.prog 15 #[] w17 (ret (fun r18 w19 => ∃ b20 : Bool, r18 = .bool b20 ∧ if b20 = true then (∃ x21 : Int, ∃ x22 : Int, ∃ x23 : Int, ∃ x24 : Int, ∃ s25 : ByteArray, ∃ s26 : ByteArray, ∃ s27 : ByteArray, ∃ s28a : Option Addr, ∃ s28l : Nat, ∃ s28c : Nat, rd w19 (⟨w.heap.size, 0, none⟩ : Addr) (.agg #[.int .i64 x21, .int .i64 x22, .int .i64 x23, .int .i64 x24, .string s25, .string s26, .string s27, .slice s28a s28l s28c]) ∧ Calls Tryz.prog 17 #[.pointer none, .agg #[.int .i64 x21, .int .i64 x22, .int .i64 x23, .int .i64 x24, .string s25, .string s26, .string s27, .slice s28a s28l s28c]] w19 (ret (fun r29 w30 => ∃ x31 : Int, ∃ x32 : Int, r29 = .agg #[.int .i64 x31, .int .i64 x32] ∧ runV Tryz.prog (do eqGuard .eql 45 (.tmp 18) (.tmp 19) (.agg #[.int .i64 x31, .int .i64 x32]) (.agg #[.int .i64 1, .int .i64 0]); binOp .eql 45 (.agg #[.int .i64 x31, .int .i64 x32]) (.agg #[.int .i64 1, .int .i64 0])) w30 (fun r33 w34 => ∃ b35 : Bool, r33 = .bool b35 ∧ if b35 = true then (Calls Tryz.prog 14 #[.pointer none] w34 (ret (fun r36 w37 => ∃ x38 : Int, ∃ s39a : Option Addr, ∃ s39l : Nat, ∃ s39c : Nat, ∃ s40a : Option Addr, ∃ s40l : Nat, ∃ s40c : Nat, r36 = .agg #[.int .i64 x38, .slice s39a s39l s39c, .slice s40a s40l s40c] ∧ Calls Tryz.prog 20 #[.agg #[.int .i64 x38, .slice s39a s39l s39c, .slice s40a s40l s40c], .agg #[.int .i64 0, .slice none 0 0, .slice none 0 0]] w37 (ret (fun r41 w42 => ∃ b43 : Bool, r41 = .bool b43 ∧ if b43 = true then (if ((x13 : Int) == 0) = true then (∃ x44 : Int, ∃ x45 : Int, rd w42 (⟨w12.heap.size, 0, none⟩ : Addr) (.agg #[.int .i64 x44, .int .i64 x45]) ∧ runV Tryz.prog (do eqGuard .eql 45 (.tmp 33) (.tmp 34) (.agg #[.int .i64 x44, .int .i64 x45]) (.agg #[.int .i64 0, .int .i64 0]); binOp .eql 45 (.agg #[.int .i64 x44, .int .i64 x45]) (.agg #[.int .i64 0, .int .i64 0])) w42 (fun r46 w47 => ∃ b48 : Bool, r46 = .bool b48 ∧ if b48 = true then (Calls Tryz.prog 25 #[.pointer none] w47 (ret (fun r49 w50 => ∃ s51a : Option Addr, ∃ s51l : Nat, ∃ s51c : Nat, r49 = .slice s51a s51l s51c ∧ if (((s51l : Nat) : Int) == 0) = true then (Calls Tryz.prog 27 #[.pointer none] w50 (ret (fun r52 w53 => ∃ p54 : Option Addr, r52 = .pointer p54 ∧ R (.returned (.bool p54.isNone)) w53) (pan R))) else (R (.returned (.bool false)) w50)) (pan R))) else (R (.returned (.bool false)) w47)) (pan R)) else (R (.returned (.bool false)) w42)) else (R (.returned (.bool false)) w42)) (pan R))) (pan R))) else (R (.returned (.bool false)) w34)) (pan R)) (pan R))) else (R (.returned (.bool false)) w19)) (pan R))) (pan R))

theorem T_law08_ConfNone_hl : allP (hokL Tryz.prog (hookAt []) (bodyOf Tryz.f9) 1) = (True) := by kernel_rfl

theorem T_law08_ConfNone_eq (x1 : Int) (x2 : Int) (x3 : Int) (x4 : Int) (s5 : ByteArray) (s6 : ByteArray) (s7 : ByteArray) (s8a : Option Addr) (s8l : Nat) (s8c : Nat) (n9 : Int) (w : World) (R : Ending → World → Prop) : vcCode Tryz.prog (hookAt []) (bodyOf Tryz.f9) 1 ⟨argEnv [.agg #[.int .i64 x1, .int .i64 x2, .int .i64 x3, .int .i64 x4, .string s5, .string s6, .string s7, .slice s8a s8l s8c], .int .i64 n9] 0, Tryz.f9.ntmps, []⟩ w (finQ Tryz.prog Tryz.f9.results.toList R) = T_law08_ConfNone x1 x2 x3 x4 s5 s6 s7 s8a s8l s8c n9 w R := by kernel_rfl

theorem T_law08_ConfNone_b : Tryz.f9.body = some (bodyOf Tryz.f9) := by kernel_rfl
theorem T_law08_ConfNone_s : (quietSel (bodyOf Tryz.f9) && Nat.ble 2 Tryz.f9.ntmps) = true := by kernel_rfl

theorem C_law08_ConfNone {x1 : Int} {x2 : Int} {x3 : Int} {x4 : Int} {s5 : ByteArray} {s6 : ByteArray} {s7 : ByteArray} {s8a : Option Addr} {s8l : Nat} {s8c : Nat} {n9 : Int} {w : World} {R : Ending → World → Prop} (h : T_law08_ConfNone x1 x2 x3 x4 s5 s6 s7 s8a s8l s8c n9 w R) : Calls Tryz.prog 9 #[.agg #[.int .i64 x1, .int .i64 x2, .int .i64 x3, .int .i64 x4, .string s5, .string s6, .string s7, .slice s8a s8l s8c], .int .i64 n9] w R :=
  calls_of_text (args := [.agg #[.int .i64 x1, .int .i64 x2, .int .i64 x3, .int .i64 x4, .string s5, .string s6, .string s7, .slice s8a s8l s8c], .int .i64 n9]) mixed Tryz.func9 T_law08_ConfNone_b T_law08_ConfNone_s (HOk_of _ _ (by rw [T_law08_ConfNone_hl]; exact trivial)) (by rw [T_law08_ConfNone_eq]; exact h)

end Go.Proofs.YtcpmfjclkdjfmaaGreat
