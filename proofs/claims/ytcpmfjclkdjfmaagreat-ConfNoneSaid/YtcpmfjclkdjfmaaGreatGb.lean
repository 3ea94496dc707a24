/-
  What the functions' code comes to; printed by a program of this claim's own.
-/
import Derived.Test.YtcpmfjclkdjfmaaGreatProg
import Derived.KernelRfl
import Derived.Test.YtcpmfjclkdjfmaaGreatGa
namespace Go.Proofs.YtcpmfjclkdjfmaaGreat
open Go Go.Vc
set_option maxRecDepth 100000
set_option linter.unusedVariables false

/-! tollgate/conf.GetCommand -/
def T_conf_GetCommand (b1a : Option Addr) (b1l : Nat) (b1c : Nat) (w : World) (R : Ending → World → Prop) : Prop :=
  let w2 : World := w.alloc (.cells #[.int .i64 0, .int .i64 0, .int .i64 0, .int .i64 0, .string (ByteArray.mk #[]), .string (ByteArray.mk #[]), .string (ByteArray.mk #[]), .slice none 0 0] 42)
  let w3 : World := w2.alloc (.cells #[.slice b1a b1l b1c, .int .i64 0, .int .i64 0] 116)
  Calls Tryz.prog 63 #[.pointer (some (⟨w2.heap.size, 0, none⟩ : Addr)), .int .i64 1099511627776] w3 (ret (fun r4 w5 => ∃ x6 : Int, r4 = .int .i64 x6 ∧ Calls Tryz.prog 63 #[.pointer (some (⟨w2.heap.size, 0, none⟩ : Addr)), .int .i64 1099511627776] w5 (ret (fun r7 w8 => ∃ x9 : Int, r7 = .int .i64 x9 ∧ Calls Tryz.prog 63 #[.pointer (some (⟨w2.heap.size, 0, none⟩ : Addr)), .int .i64 1099511627776] w8 (ret (fun r10 w11 => ∃ x12 : Int, r10 = .int .i64 x12 ∧ Calls Tryz.prog 63 #[.pointer (some (⟨w2.heap.size, 0, none⟩ : Addr)), .int .i64 1099511627776] w11 (ret (fun r13 w14 => ∃ x15 : Int, r13 = .int .i64 x15 ∧ let w16 : World := w14.alloc (.cells #[.int .i64 0, .int .i64 0, .int .i64 0, .int .i64 0, .string (ByteArray.mk #[]), .string (ByteArray.mk #[]), .string (ByteArray.mk #[]), .slice none 0 0] 42)
  (.agg #[.int .i64 x6, .int .i64 x9, .int .i64 x12, .int .i64 (IntKind.wrap .i64 ((x15 : Int) - 1)), .string (ByteArray.mk #[]), .string (ByteArray.mk #[]), .string (ByteArray.mk #[]), .slice none 0 0] : Value).cells.size = 8 ∧ wrOk w16 (⟨w14.heap.size, 0, none⟩ : Addr) (.agg #[.int .i64 x6, .int .i64 x9, .int .i64 x12, .int .i64 (IntKind.wrap .i64 ((x15 : Int) - 1)), .string (ByteArray.mk #[]), .string (ByteArray.mk #[]), .string (ByteArray.mk #[]), .slice none 0 0]) ∧ let w17 : World := wr w16 (⟨w14.heap.size, 0, none⟩ : Addr) (.agg #[.int .i64 x6, .int .i64 x9, .int .i64 x12, .int .i64 (IntKind.wrap .i64 ((x15 : Int) - 1)), .string (ByteArray.mk #[]), .string (ByteArray.mk #[]), .string (ByteArray.mk #[]), .slice none 0 0])
  Calls Tryz.prog 64 #[.pointer (some (⟨w2.heap.size, 0, none⟩ : Addr))] w17 (ret (fun r18 w19 => ∃ s20 : ByteArray, r18 = .string s20 ∧ Calls Tryz.prog 64 #[.pointer (some (⟨w2.heap.size, 0, none⟩ : Addr))] w19 (ret (fun r21 w22 => ∃ s23 : ByteArray, r21 = .string s23 ∧ Calls Tryz.prog 64 #[.pointer (some (⟨w2.heap.size, 0, none⟩ : Addr))] w22 (ret (fun r24 w25 => ∃ s26 : ByteArray, r24 = .string s26 ∧ (.string s20 : Value).cells.size = 1 ∧ wrOk w25 ((⟨w14.heap.size, 0, none⟩ : Addr).add 4) (.string s20) ∧ let w27 : World := wr w25 ((⟨w14.heap.size, 0, none⟩ : Addr).add 4) (.string s20)
  (.string s23 : Value).cells.size = 1 ∧ wrOk w27 ((⟨w14.heap.size, 0, none⟩ : Addr).add 5) (.string s23) ∧ let w28 : World := wr w27 ((⟨w14.heap.size, 0, none⟩ : Addr).add 5) (.string s23)
  (.string s26 : Value).cells.size = 1 ∧ wrOk w28 ((⟨w14.heap.size, 0, none⟩ : Addr).add 6) (.string s26) ∧ let w29 : World := wr w28 ((⟨w14.heap.size, 0, none⟩ : Addr).add 6) (.string s26)
  Calls Tryz.prog 65 #[.pointer (some (⟨w2.heap.size, 0, none⟩ : Addr))] w29 (ret (fun r30 w31 => ∃ s32a : Option Addr, ∃ s32l : Nat, ∃ s32c : Nat, r30 = .slice s32a s32l s32c ∧ (.slice s32a s32l s32c : Value).cells.size = 1 ∧ wrOk w31 ((⟨w14.heap.size, 0, none⟩ : Addr).add 7) (.slice s32a s32l s32c) ∧ let w33 : World := wr w31 ((⟨w14.heap.size, 0, none⟩ : Addr).add 7) (.slice s32a s32l s32c)
  Calls Tryz.prog 66 #[.pointer (some (⟨w2.heap.size, 0, none⟩ : Addr)), .func (.func 67) #[] #[.pointer (some (⟨w14.heap.size, 0, none⟩ : Addr))]] w33 (ret (fun r34 w35 => ∃ x36 : Int, r34 = .int .i64 x36 ∧ if ((x36 : Int) != 0) = true then ((.agg #[.int .i64 0, .int .i64 0, .int .i64 0, .int .i64 0, .string (ByteArray.mk #[]), .string (ByteArray.mk #[]), .string (ByteArray.mk #[]), .slice none 0 0] : Value).cells.size = 8 ∧ wrOk w35 (⟨w.heap.size, 0, none⟩ : Addr) (.agg #[.int .i64 0, .int .i64 0, .int .i64 0, .int .i64 0, .string (ByteArray.mk #[]), .string (ByteArray.mk #[]), .string (ByteArray.mk #[]), .slice none 0 0]) ∧ let w37 : World := wr w35 (⟨w.heap.size, 0, none⟩ : Addr) (.agg #[.int .i64 0, .int .i64 0, .int .i64 0, .int .i64 0, .string (ByteArray.mk #[]), .string (ByteArray.mk #[]), .string (ByteArray.mk #[]), .slice none 0 0])
  ∃ x38 : Int, ∃ x39 : Int, ∃ x40 : Int, ∃ x41 : Int, ∃ s42 : ByteArray, ∃ s43 : ByteArray, ∃ s44 : ByteArray, ∃ s45a : Option Addr, ∃ s45l : Nat, ∃ s45c : Nat, rd w37 (⟨w.heap.size, 0, none⟩ : Addr) (.agg #[.int .i64 x38, .int .i64 x39, .int .i64 x40, .int .i64 x41, .string s42, .string s43, .string s44, .slice s45a s45l s45c]) ∧ R (.returned (.tuple #[.agg #[.int .i64 x38, .int .i64 x39, .int .i64 x40, .int .i64 x41, .string s42, .string s43, .string s44, .slice s45a s45l s45c], .int .i64 x36])) w37) else (∃ x46 : Int, ∃ x47 : Int, ∃ x48 : Int, ∃ x49 : Int, ∃ s50 : ByteArray, ∃ s51 : ByteArray, ∃ s52 : ByteArray, ∃ s53a : Option Addr, ∃ s53l : Nat, ∃ s53c : Nat, rd w35 (⟨w14.heap.size, 0, none⟩ : Addr) (.agg #[.int .i64 x46, .int .i64 x47, .int .i64 x48, .int .i64 x49, .string s50, .string s51, .string s52, .slice s53a s53l s53c]) ∧ (.agg #[.int .i64 x46, .int .i64 x47, .int .i64 x48, .int .i64 x49, .string s50, .string s51, .string s52, .slice s53a s53l s53c] : Value).cells.size = 8 ∧ wrOk w35 (⟨w.heap.size, 0, none⟩ : Addr) (.agg #[.int .i64 x46, .int .i64 x47, .int .i64 x48, .int .i64 x49, .string s50, .string s51, .string s52, .slice s53a s53l s53c]) ∧ let w54 : World := wr w35 (⟨w.heap.size, 0, none⟩ : Addr) (.agg #[.int .i64 x46, .int .i64 x47, .int .i64 x48, .int .i64 x49, .string s50, .string s51, .string s52, .slice s53a s53l s53c])
  ∃ x55 : Int, ∃ x56 : Int, ∃ x57 : Int, ∃ x58 : Int, ∃ s59 : ByteArray, ∃ s60 : ByteArray, ∃ s61 : ByteArray, ∃ s62a : Option Addr, ∃ s62l : Nat, ∃ s62c : Nat, rd w54 (⟨w.heap.size, 0, none⟩ : Addr) (.agg #[.int .i64 x55, .int .i64 x56, .int .i64 x57, .int .i64 x58, .string s59, .string s60, .string s61, .slice s62a s62l s62c]) ∧ R (.returned (.tuple #[.agg #[.int .i64 x55, .int .i64 x56, .int .i64 x57, .int .i64 x58, .string s59, .string s60, .string s61, .slice s62a s62l s62c], .int .i64 0])) w54)) (pan R))) (pan R))) (pan R))) (pan R))) (pan R))) (pan R))) (pan R))) (pan R))) (pan R))

theorem T_conf_GetCommand_hl : allP (hokL Tryz.prog (hookAt []) (bodyOf Tryz.f30) 1) = (True) := by kernel_rfl

theorem T_conf_GetCommand_eq (b1a : Option Addr) (b1l : Nat) (b1c : Nat) (w : World) (R : Ending → World → Prop) : vcCode Tryz.prog (hookAt []) (bodyOf Tryz.f30) 1 ⟨argEnv [.slice b1a b1l b1c] 0, Tryz.f30.ntmps, []⟩ w (finQ Tryz.prog Tryz.f30.results.toList R) = T_conf_GetCommand b1a b1l b1c w R := by kernel_rfl

theorem T_conf_GetCommand_b : Tryz.f30.body = some (bodyOf Tryz.f30) := by kernel_rfl
theorem T_conf_GetCommand_s : (quietSel (bodyOf Tryz.f30) && Nat.ble 1 Tryz.f30.ntmps) = true := by kernel_rfl

theorem C_conf_GetCommand {b1a : Option Addr} {b1l : Nat} {b1c : Nat} {w : World} {R : Ending → World → Prop} (h : T_conf_GetCommand b1a b1l b1c w R) : Calls Tryz.prog 30 #[.slice b1a b1l b1c] w R :=
  calls_of_text (args := [.slice b1a b1l b1c]) mixed Tryz.func30 T_conf_GetCommand_b T_conf_GetCommand_s (HOk_of _ _ (by rw [T_conf_GetCommand_hl]; exact trivial)) (by rw [T_conf_GetCommand_eq]; exact h)

/-! tollgate/tollgateref08.GetCommand -/
def T_ref08_GetCommand (b1a : Option Addr) (b1l : Nat) (b1c : Nat) (w : World) (R : Ending → World → Prop) : Prop :=
  let w2 : World := w.alloc (.cells #[.int .i64 0, .int .i64 0, .int .i64 0, .int .i64 0, .string (ByteArray.mk #[]), .string (ByteArray.mk #[]), .string (ByteArray.mk #[]), .slice none 0 0] 42)
  let w3 : World := w2.alloc (.cells #[.slice b1a b1l b1c, .int .i64 0, .int .i64 0] 123)
  let w4 : World := w3.alloc (.cells #[.int .i64 0, .int .i64 0, .int .i64 0, .int .i64 0, .string (ByteArray.mk #[]), .string (ByteArray.mk #[]), .string (ByteArray.mk #[]), .slice none 0 0] 42)
  (.agg #[.int .i64 0, .int .i64 0, .int .i64 0, .int .i64 0, .string (ByteArray.mk #[]), .string (ByteArray.mk #[]), .string (ByteArray.mk #[]), .slice none 0 0] : Value).cells.size = 8 ∧ wrOk w4 (⟨w3.heap.size, 0, none⟩ : Addr) (.agg #[.int .i64 0, .int .i64 0, .int .i64 0, .int .i64 0, .string (ByteArray.mk #[]), .string (ByteArray.mk #[]), .string (ByteArray.mk #[]), .slice none 0 0]) ∧ let w5 : World := wr w4 (⟨w3.heap.size, 0, none⟩ : Addr) (.agg #[.int .i64 0, .int .i64 0, .int .i64 0, .int .i64 0, .string (ByteArray.mk #[]), .string (ByteArray.mk #[]), .string (ByteArray.mk #[]), .slice none 0 0])
  Calls Tryz.prog 68 #[.pointer (some (⟨w2.heap.size, 0, none⟩ : Addr)), .int .i64 1099511627776] w5 (ret (fun r6 w7 => ∃ x8 : Int, r6 = .int .i64 x8 ∧ (.int .i64 x8 : Value).cells.size = 1 ∧ wrOk w7 (⟨w3.heap.size, 0, none⟩ : Addr) (.int .i64 x8) ∧ let w9 : World := wr w7 (⟨w3.heap.size, 0, none⟩ : Addr) (.int .i64 x8)
  Calls Tryz.prog 68 #[.pointer (some (⟨w2.heap.size, 0, none⟩ : Addr)), .int .i64 1099511627776] w9 (ret (fun r10 w11 => ∃ x12 : Int, r10 = .int .i64 x12 ∧ (.int .i64 x12 : Value).cells.size = 1 ∧ wrOk w11 ((⟨w3.heap.size, 0, none⟩ : Addr).add 1) (.int .i64 x12) ∧ let w13 : World := wr w11 ((⟨w3.heap.size, 0, none⟩ : Addr).add 1) (.int .i64 x12)
  Calls Tryz.prog 68 #[.pointer (some (⟨w2.heap.size, 0, none⟩ : Addr)), .int .i64 1099511627776] w13 (ret (fun r14 w15 => ∃ x16 : Int, r14 = .int .i64 x16 ∧ (.int .i64 x16 : Value).cells.size = 1 ∧ wrOk w15 ((⟨w3.heap.size, 0, none⟩ : Addr).add 2) (.int .i64 x16) ∧ let w17 : World := wr w15 ((⟨w3.heap.size, 0, none⟩ : Addr).add 2) (.int .i64 x16)
  Calls Tryz.prog 68 #[.pointer (some (⟨w2.heap.size, 0, none⟩ : Addr)), .int .i64 1099511627776] w17 (ret (fun r18 w19 => ∃ x20 : Int, r18 = .int .i64 x20 ∧ (.int .i64 (IntKind.wrap .i64 ((x20 : Int) - 1)) : Value).cells.size = 1 ∧ wrOk w19 ((⟨w3.heap.size, 0, none⟩ : Addr).add 3) (.int .i64 (IntKind.wrap .i64 ((x20 : Int) - 1))) ∧ let w21 : World := wr w19 ((⟨w3.heap.size, 0, none⟩ : Addr).add 3) (.int .i64 (IntKind.wrap .i64 ((x20 : Int) - 1)))
  Calls Tryz.prog 69 #[.pointer (some (⟨w2.heap.size, 0, none⟩ : Addr))] w21 (ret (fun r22 w23 => ∃ s24 : ByteArray, r22 = .string s24 ∧ (.string s24 : Value).cells.size = 1 ∧ wrOk w23 ((⟨w3.heap.size, 0, none⟩ : Addr).add 4) (.string s24) ∧ let w25 : World := wr w23 ((⟨w3.heap.size, 0, none⟩ : Addr).add 4) (.string s24)
  Calls Tryz.prog 69 #[.pointer (some (⟨w2.heap.size, 0, none⟩ : Addr))] w25 (ret (fun r26 w27 => ∃ s28 : ByteArray, r26 = .string s28 ∧ (.string s28 : Value).cells.size = 1 ∧ wrOk w27 ((⟨w3.heap.size, 0, none⟩ : Addr).add 5) (.string s28) ∧ let w29 : World := wr w27 ((⟨w3.heap.size, 0, none⟩ : Addr).add 5) (.string s28)
  Calls Tryz.prog 69 #[.pointer (some (⟨w2.heap.size, 0, none⟩ : Addr))] w29 (ret (fun r30 w31 => ∃ s32 : ByteArray, r30 = .string s32 ∧ (.string s32 : Value).cells.size = 1 ∧ wrOk w31 ((⟨w3.heap.size, 0, none⟩ : Addr).add 6) (.string s32) ∧ let w33 : World := wr w31 ((⟨w3.heap.size, 0, none⟩ : Addr).add 6) (.string s32)
  Calls Tryz.prog 70 #[.pointer (some (⟨w2.heap.size, 0, none⟩ : Addr))] w33 (ret (fun r34 w35 => ∃ s36a : Option Addr, ∃ s36l : Nat, ∃ s36c : Nat, r34 = .slice s36a s36l s36c ∧ (.slice s36a s36l s36c : Value).cells.size = 1 ∧ wrOk w35 ((⟨w3.heap.size, 0, none⟩ : Addr).add 7) (.slice s36a s36l s36c) ∧ let w37 : World := wr w35 ((⟨w3.heap.size, 0, none⟩ : Addr).add 7) (.slice s36a s36l s36c)
  ∃ a38, some (⟨w2.heap.size, 0, none⟩ : Addr) = some a38 ∧ ∃ x39 : Int, rd w37 (a38.add 2) (.int .i64 x39) ∧ if ((x39 : Int) != 0) = true then (let w40 : World := w37.drew
  ∃ a41, some (⟨w2.heap.size, 0, none⟩ : Addr) = some a41 ∧ ∃ x42 : Int, rd w40 (a41.add 2) (.int .i64 x42) ∧ (.agg #[.int .i64 0, .int .i64 0, .int .i64 0, .int .i64 0, .string (ByteArray.mk #[]), .string (ByteArray.mk #[]), .string (ByteArray.mk #[]), .slice none 0 0] : Value).cells.size = 8 ∧ wrOk w40 (⟨w.heap.size, 0, none⟩ : Addr) (.agg #[.int .i64 0, .int .i64 0, .int .i64 0, .int .i64 0, .string (ByteArray.mk #[]), .string (ByteArray.mk #[]), .string (ByteArray.mk #[]), .slice none 0 0]) ∧ let w43 : World := wr w40 (⟨w.heap.size, 0, none⟩ : Addr) (.agg #[.int .i64 0, .int .i64 0, .int .i64 0, .int .i64 0, .string (ByteArray.mk #[]), .string (ByteArray.mk #[]), .string (ByteArray.mk #[]), .slice none 0 0])
  (rd w43 (a41.add 2) (.int .i64 x42) ∧ True) ∧ ∃ x44 : Int, ∃ x45 : Int, ∃ x46 : Int, ∃ x47 : Int, ∃ s48 : ByteArray, ∃ s49 : ByteArray, ∃ s50 : ByteArray, ∃ s51a : Option Addr, ∃ s51l : Nat, ∃ s51c : Nat, rd w43 (⟨w.heap.size, 0, none⟩ : Addr) (.agg #[.int .i64 x44, .int .i64 x45, .int .i64 x46, .int .i64 x47, .string s48, .string s49, .string s50, .slice s51a s51l s51c]) ∧ R (.returned (.tuple #[.agg #[.int .i64 x44, .int .i64 x45, .int .i64 x46, .int .i64 x47, .string s48, .string s49, .string s50, .slice s51a s51l s51c], .int .i64 x42])) w43) else (∃ a52, some (⟨w2.heap.size, 0, none⟩ : Addr) = some a52 ∧ ∃ x53 : Int, rd w37 (a52.add 1) (.int .i64 x53) ∧ if ((x53 : Int) != ((b1l : Nat) : Int)) = true then ((.agg #[.int .i64 0, .int .i64 0, .int .i64 0, .int .i64 0, .string (ByteArray.mk #[]), .string (ByteArray.mk #[]), .string (ByteArray.mk #[]), .slice none 0 0] : Value).cells.size = 8 ∧ wrOk w37 (⟨w.heap.size, 0, none⟩ : Addr) (.agg #[.int .i64 0, .int .i64 0, .int .i64 0, .int .i64 0, .string (ByteArray.mk #[]), .string (ByteArray.mk #[]), .string (ByteArray.mk #[]), .slice none 0 0]) ∧ let w54 : World := wr w37 (⟨w.heap.size, 0, none⟩ : Addr) (.agg #[.int .i64 0, .int .i64 0, .int .i64 0, .int .i64 0, .string (ByteArray.mk #[]), .string (ByteArray.mk #[]), .string (ByteArray.mk #[]), .slice none 0 0])
  ∃ x55 : Int, ∃ x56 : Int, ∃ x57 : Int, ∃ x58 : Int, ∃ s59 : ByteArray, ∃ s60 : ByteArray, ∃ s61 : ByteArray, ∃ s62a : Option Addr, ∃ s62l : Nat, ∃ s62c : Nat, rd w54 (⟨w.heap.size, 0, none⟩ : Addr) (.agg #[.int .i64 x55, .int .i64 x56, .int .i64 x57, .int .i64 x58, .string s59, .string s60, .string s61, .slice s62a s62l s62c]) ∧ R (.returned (.tuple #[.agg #[.int .i64 x55, .int .i64 x56, .int .i64 x57, .int .i64 x58, .string s59, .string s60, .string s61, .slice s62a s62l s62c], .int .i64 4])) w54) else (∃ x63 : Int, ∃ x64 : Int, ∃ x65 : Int, ∃ x66 : Int, ∃ s67 : ByteArray, ∃ s68 : ByteArray, ∃ s69 : ByteArray, ∃ s70a : Option Addr, ∃ s70l : Nat, ∃ s70c : Nat, rd w37 (⟨w3.heap.size, 0, none⟩ : Addr) (.agg #[.int .i64 x63, .int .i64 x64, .int .i64 x65, .int .i64 x66, .string s67, .string s68, .string s69, .slice s70a s70l s70c]) ∧ Calls Tryz.prog 60 #[.agg #[.int .i64 x63, .int .i64 x64, .int .i64 x65, .int .i64 x66, .string s67, .string s68, .string s69, .slice s70a s70l s70c]] w37 (ret (fun r71 w72 => ∃ x73 : Int, r71 = .int .i64 x73 ∧ if ((x73 : Int) != 0) = true then ((.agg #[.int .i64 0, .int .i64 0, .int .i64 0, .int .i64 0, .string (ByteArray.mk #[]), .string (ByteArray.mk #[]), .string (ByteArray.mk #[]), .slice none 0 0] : Value).cells.size = 8 ∧ wrOk w72 (⟨w.heap.size, 0, none⟩ : Addr) (.agg #[.int .i64 0, .int .i64 0, .int .i64 0, .int .i64 0, .string (ByteArray.mk #[]), .string (ByteArray.mk #[]), .string (ByteArray.mk #[]), .slice none 0 0]) ∧ let w74 : World := wr w72 (⟨w.heap.size, 0, none⟩ : Addr) (.agg #[.int .i64 0, .int .i64 0, .int .i64 0, .int .i64 0, .string (ByteArray.mk #[]), .string (ByteArray.mk #[]), .string (ByteArray.mk #[]), .slice none 0 0])
  ∃ x75 : Int, ∃ x76 : Int, ∃ x77 : Int, ∃ x78 : Int, ∃ s79 : ByteArray, ∃ s80 : ByteArray, ∃ s81 : ByteArray, ∃ s82a : Option Addr, ∃ s82l : Nat, ∃ s82c : Nat, rd w74 (⟨w.heap.size, 0, none⟩ : Addr) (.agg #[.int .i64 x75, .int .i64 x76, .int .i64 x77, .int .i64 x78, .string s79, .string s80, .string s81, .slice s82a s82l s82c]) ∧ R (.returned (.tuple #[.agg #[.int .i64 x75, .int .i64 x76, .int .i64 x77, .int .i64 x78, .string s79, .string s80, .string s81, .slice s82a s82l s82c], .int .i64 4])) w74) else (∃ x83 : Int, ∃ x84 : Int, ∃ x85 : Int, ∃ x86 : Int, ∃ s87 : ByteArray, ∃ s88 : ByteArray, ∃ s89 : ByteArray, ∃ s90a : Option Addr, ∃ s90l : Nat, ∃ s90c : Nat, rd w72 (⟨w3.heap.size, 0, none⟩ : Addr) (.agg #[.int .i64 x83, .int .i64 x84, .int .i64 x85, .int .i64 x86, .string s87, .string s88, .string s89, .slice s90a s90l s90c]) ∧ (.agg #[.int .i64 x83, .int .i64 x84, .int .i64 x85, .int .i64 x86, .string s87, .string s88, .string s89, .slice s90a s90l s90c] : Value).cells.size = 8 ∧ wrOk w72 (⟨w.heap.size, 0, none⟩ : Addr) (.agg #[.int .i64 x83, .int .i64 x84, .int .i64 x85, .int .i64 x86, .string s87, .string s88, .string s89, .slice s90a s90l s90c]) ∧ let w91 : World := wr w72 (⟨w.heap.size, 0, none⟩ : Addr) (.agg #[.int .i64 x83, .int .i64 x84, .int .i64 x85, .int .i64 x86, .string s87, .string s88, .string s89, .slice s90a s90l s90c])
  ∃ x92 : Int, ∃ x93 : Int, ∃ x94 : Int, ∃ x95 : Int, ∃ s96 : ByteArray, ∃ s97 : ByteArray, ∃ s98 : ByteArray, ∃ s99a : Option Addr, ∃ s99l : Nat, ∃ s99c : Nat, rd w91 (⟨w.heap.size, 0, none⟩ : Addr) (.agg #[.int .i64 x92, .int .i64 x93, .int .i64 x94, .int .i64 x95, .string s96, .string s97, .string s98, .slice s99a s99l s99c]) ∧ R (.returned (.tuple #[.agg #[.int .i64 x92, .int .i64 x93, .int .i64 x94, .int .i64 x95, .string s96, .string s97, .string s98, .slice s99a s99l s99c], .int .i64 0])) w91)) (pan R))))) (pan R))) (pan R))) (pan R))) (pan R))) (pan R))) (pan R))) (pan R))) (pan R))

theorem T_ref08_GetCommand_hl : allP (hokL Tryz.prog (hookAt []) (bodyOf Tryz.f31) 1) = (True) := by kernel_rfl

theorem T_ref08_GetCommand_eq (b1a : Option Addr) (b1l : Nat) (b1c : Nat) (w : World) (R : Ending → World → Prop) : vcCode Tryz.prog (hookAt []) (bodyOf Tryz.f31) 1 ⟨argEnv [.slice b1a b1l b1c] 0, Tryz.f31.ntmps, []⟩ w (finQ Tryz.prog Tryz.f31.results.toList R) = T_ref08_GetCommand b1a b1l b1c w R := by kernel_rfl

theorem T_ref08_GetCommand_b : Tryz.f31.body = some (bodyOf Tryz.f31) := by kernel_rfl
theorem T_ref08_GetCommand_s : (quietSel (bodyOf Tryz.f31) && Nat.ble 1 Tryz.f31.ntmps) = true := by kernel_rfl

theorem C_ref08_GetCommand {b1a : Option Addr} {b1l : Nat} {b1c : Nat} {w : World} {R : Ending → World → Prop} (h : T_ref08_GetCommand b1a b1l b1c w R) : Calls Tryz.prog 31 #[.slice b1a b1l b1c] w R :=
  calls_of_text (args := [.slice b1a b1l b1c]) mixed Tryz.func31 T_ref08_GetCommand_b T_ref08_GetCommand_s (HOk_of _ _ (by rw [T_ref08_GetCommand_hl]; exact trivial)) (by rw [T_ref08_GetCommand_eq]; exact h)

/-! tollgate/conf.num -/
def T_conf_num (b1a : Option Addr) (b1l : Nat) (b1c : Nat) (n2 : Int) (w : World) (R : Ending → World → Prop) : Prop :=
  Calls Tryz.prog 88 #[.int .i64 n2] w (ret (fun r3 w4 => ∃ s5a : Option Addr, ∃ s5l : Nat, ∃ s5c : Nat, ∃ x6 : Int, r3 = .tuple #[.slice s5a s5l s5c, .int .i64 x6] ∧ runV Tryz.prog (Builtin.append_ #[56, 56] 56 #[.slice b1a b1l b1c, .slice s5a s5l s5c]) w4 (fun r7 w8 => ∃ s9a : Option Addr, ∃ s9l : Nat, ∃ s9c : Nat, r7 = .slice s9a s9l s9c ∧ R (.returned (.slice s9a s9l s9c)) w8) (pan R)) (pan R))

theorem T_conf_num_hl : allP (hokL Tryz.prog (hookAt []) (bodyOf Tryz.f49) 1) = (True) := by kernel_rfl

theorem T_conf_num_eq (b1a : Option Addr) (b1l : Nat) (b1c : Nat) (n2 : Int) (w : World) (R : Ending → World → Prop) : vcCode Tryz.prog (hookAt []) (bodyOf Tryz.f49) 1 ⟨argEnv [.slice b1a b1l b1c, .int .i64 n2] 0, Tryz.f49.ntmps, []⟩ w (finQ Tryz.prog Tryz.f49.results.toList R) = T_conf_num b1a b1l b1c n2 w R := by kernel_rfl

theorem T_conf_num_b : Tryz.f49.body = some (bodyOf Tryz.f49) := by kernel_rfl
theorem T_conf_num_s : (quietSel (bodyOf Tryz.f49) && Nat.ble 2 Tryz.f49.ntmps) = true := by kernel_rfl

theorem C_conf_num {b1a : Option Addr} {b1l : Nat} {b1c : Nat} {n2 : Int} {w : World} {R : Ending → World → Prop} (h : T_conf_num b1a b1l b1c n2 w R) : Calls Tryz.prog 49 #[.slice b1a b1l b1c, .int .i64 n2] w R :=
  calls_of_text (args := [.slice b1a b1l b1c, .int .i64 n2]) mixed Tryz.func49 T_conf_num_b T_conf_num_s (HOk_of _ _ (by rw [T_conf_num_hl]; exact trivial)) (by rw [T_conf_num_eq]; exact h)

/-! (*tollgate/conf.reader).num -/
def T_conf_reader_num_1 (most15 : Int) (n16 : Int) (e17 : Int) (w : World) (Kn : Bool → World → Prop) (Kp : List PanicEntry → World → Prop) : Prop :=
  if ((e17 : Int) == 0) = true then (Kn (decide ((n16 : Int) > most15)) w) else (Kn false w)

def T_conf_reader_num_1_outs : Exit → Option (List (Nat × Value)) := fun x => match x with | .normal => some [(32, .bool false)] | .panic _ => some [] | _ => none

def T_conf_reader_num_1_ks : Nat → Bool := ksOf [26, 27, 28, 29, 30, 31, 32]

def H_conf_reader_num_1 : Env → World → QT → Prop := unitHook 44 T_conf_reader_num_1_ks [(1, .int .i64 0), (5, .int .i64 0), (7, .int .i64 0)] T_conf_reader_num_1_outs fun l w C => match l with | [v0, v1, v2] => T_conf_reader_num_1 (pInt v0) (pInt v1) (pInt v2) w (fun b19 w => C .normal [.bool b19] w) (fun ch w => C (.panic ch) [] w) | _ => False

theorem T_conf_reader_num_1_hl : allP (hokL Tryz.prog (hookAt []) (at_ (bodyOf Tryz.f63) [1, 1, 1, 0, 0]) 60) = (True) := by kernel_rfl
theorem T_conf_reader_num_1_hok : HOk Tryz.prog (hookAt []) (at_ (bodyOf Tryz.f63) [1, 1, 1, 0, 0]) 60 := HOk_of _ _ (by rw [T_conf_reader_num_1_hl]; exact trivial)

theorem T_conf_reader_num_1_eq (C : Conts) (most15 : Int) (n16 : Int) (e17 : Int) (w : World) : vcCode Tryz.prog (hookAt []) (at_ (bodyOf Tryz.f63) [1, 1, 1, 0, 0]) 60 ⟨[(1, .int .i64 most15), (5, .int .i64 n16), (7, .int .i64 e17)], 44, []⟩ w (unitQ T_conf_reader_num_1_outs C) = T_conf_reader_num_1 most15 n16 e17 w (fun b20 w => C .normal [.bool b20] w) (fun ch w => C (.panic ch) [] w) := by kernel_rfl

theorem T_conf_reader_num_1_ok : UnitOk Tryz.prog H_conf_reader_num_1 (at_ (bodyOf Tryz.f63) [1, 1, 1, 0, 0]) 60 := unit_ok (H := (hookAt [])) (by kernel_rfl) T_conf_reader_num_1_hok fun l w C hk => by
    obtain ⟨v0, l_v0, rfl, k_v0, hk_v0⟩ := Kinds.cons_ hk
    obtain ⟨most15, rfl⟩ := kind_int k_v0
    obtain ⟨v1, l_v1, rfl, k_v1, hk_v1⟩ := Kinds.cons_ hk_v0
    obtain ⟨n16, rfl⟩ := kind_int k_v1
    obtain ⟨v2, l_v2, rfl, k_v2, hk_v2⟩ := Kinds.cons_ hk_v1
    obtain ⟨e17, rfl⟩ := kind_int k_v2
    obtain rfl := Kinds.nil_ hk_v2
    exact T_conf_reader_num_1_eq C most15 n16 e17 w

def T_conf_reader_num_2 (e23 : Int) (b24 : Bool) (w : World) (Kn : Int → World → Prop) (Kp : List PanicEntry → World → Prop) : Prop :=
  if b24 = true then (Kn 6 w) else (Kn e23 w)

def T_conf_reader_num_2_outs : Exit → Option (List (Nat × Value)) := fun x => match x with | .normal => some [(7, .int .i64 0)] | .panic _ => some [] | _ => none

def T_conf_reader_num_2_ks : Nat → Bool := ksOf [7]

def H_conf_reader_num_2 : Env → World → QT → Prop := unitHook 44 T_conf_reader_num_2_ks [(7, .int .i64 0), (32, .bool false)] T_conf_reader_num_2_outs fun l w C => match l with | [v0, v1] => T_conf_reader_num_2 (pInt v0) (pBool v1) w (fun e26 w => C .normal [.int .i64 e26] w) (fun ch w => C (.panic ch) [] w) | _ => False

theorem T_conf_reader_num_2_hl : allP (hokL Tryz.prog (hookAt []) (at_ (bodyOf Tryz.f63) [1, 1, 1, 0, 1]) 61) = (True) := by kernel_rfl
theorem T_conf_reader_num_2_hok : HOk Tryz.prog (hookAt []) (at_ (bodyOf Tryz.f63) [1, 1, 1, 0, 1]) 61 := HOk_of _ _ (by rw [T_conf_reader_num_2_hl]; exact trivial)

theorem T_conf_reader_num_2_eq (C : Conts) (e23 : Int) (b24 : Bool) (w : World) : vcCode Tryz.prog (hookAt []) (at_ (bodyOf Tryz.f63) [1, 1, 1, 0, 1]) 61 ⟨[(7, .int .i64 e23), (32, .bool b24)], 44, []⟩ w (unitQ T_conf_reader_num_2_outs C) = T_conf_reader_num_2 e23 b24 w (fun e27 w => C .normal [.int .i64 e27] w) (fun ch w => C (.panic ch) [] w) := by kernel_rfl

theorem T_conf_reader_num_2_ok : UnitOk Tryz.prog H_conf_reader_num_2 (at_ (bodyOf Tryz.f63) [1, 1, 1, 0, 1]) 61 := unit_ok (H := (hookAt [])) (by kernel_rfl) T_conf_reader_num_2_hok fun l w C hk => by
    obtain ⟨v0, l_v0, rfl, k_v0, hk_v0⟩ := Kinds.cons_ hk
    obtain ⟨e23, rfl⟩ := kind_int k_v0
    obtain ⟨v1, l_v1, rfl, k_v1, hk_v1⟩ := Kinds.cons_ hk_v0
    obtain ⟨b24, rfl⟩ := kind_bool k_v1
    obtain rfl := Kinds.nil_ hk_v1
    exact T_conf_reader_num_2_eq C e23 b24 w

def T_conf_reader_num (r1 : Option Addr) (most2 : Int) (w : World) (R : Ending → World → Prop) : Prop :=
  ∃ a3, r1 = some a3 ∧ ∃ x4 : Int, rd w (a3.add 2) (.int .i64 x4) ∧ if ((x4 : Int) != 0) = true then (R (.returned (.int .i64 0)) w) else (let w5 : World := w.drew
  ∃ a6, r1 = some a6 ∧ ∃ s7a : Option Addr, ∃ s7l : Nat, ∃ s7c : Nat, rd w5 a6 (.slice s7a s7l s7c) ∧ ∃ a8, r1 = some a8 ∧ ∃ x9 : Int, rd w5 (a8.add 1) (.int .i64 x9) ∧ Calls Tryz.prog 101 #[.slice s7a s7l s7c, .int .i64 x9] w5 (ret (fun r10 w11 => ∃ x12 : Int, ∃ x13 : Int, ∃ x14 : Int, r10 = .tuple #[.int .i64 x12, .int .i64 x13, .int .i64 x14] ∧ (True) ∧ T_conf_reader_num_1 most2 x12 x14 w11 (fun b21 w22 => T_conf_reader_num_2 x14 b21 w22 (fun e28 w29 => if ((e28 : Int) != 0) = true then (∃ a30, r1 = some a30 ∧ (.int .i64 e28 : Value).cells.size = 1 ∧ wrOk w29 (a30.add 2) (.int .i64 e28) ∧ let w31 : World := wr w29 (a30.add 2) (.int .i64 e28)
  R (.returned (.int .i64 0)) w31) else (∃ a32, r1 = some a32 ∧ (.int .i64 x13 : Value).cells.size = 1 ∧ wrOk w29 (a32.add 1) (.int .i64 x13) ∧ let w33 : World := wr w29 (a32.add 1) (.int .i64 x13)
  R (.returned (.int .i64 x12)) w33)) (pan R)) (pan R)) (pan R)))

theorem T_conf_reader_num_hl : allP (hokL Tryz.prog (hookAt [(60, H_conf_reader_num_1), (61, H_conf_reader_num_2)]) (bodyOf Tryz.f63) 1) = (UnitOk Tryz.prog H_conf_reader_num_1 (at_ (bodyOf Tryz.f63) [1, 1, 1, 0, 0]) 60 ∧ UnitOk Tryz.prog H_conf_reader_num_2 (at_ (bodyOf Tryz.f63) [1, 1, 1, 0, 1]) 61 ∧ True) := by kernel_rfl

theorem T_conf_reader_num_eq (r1 : Option Addr) (most2 : Int) (w : World) (R : Ending → World → Prop) : vcCode Tryz.prog (hookAt [(60, H_conf_reader_num_1), (61, H_conf_reader_num_2)]) (bodyOf Tryz.f63) 1 ⟨argEnv [.pointer r1, .int .i64 most2] 0, Tryz.f63.ntmps, []⟩ w (finQ Tryz.prog Tryz.f63.results.toList R) = T_conf_reader_num r1 most2 w R := by kernel_rfl

theorem T_conf_reader_num_b : Tryz.f63.body = some (bodyOf Tryz.f63) := by kernel_rfl
theorem T_conf_reader_num_s : (quietSel (bodyOf Tryz.f63) && Nat.ble 2 Tryz.f63.ntmps) = true := by kernel_rfl

theorem C_conf_reader_num {r1 : Option Addr} {most2 : Int} {w : World} {R : Ending → World → Prop} (h : T_conf_reader_num r1 most2 w R) : Calls Tryz.prog 63 #[.pointer r1, .int .i64 most2] w R :=
  calls_of_text (args := [.pointer r1, .int .i64 most2]) mixed Tryz.func63 T_conf_reader_num_b T_conf_reader_num_s (HOk_of _ _ (by rw [T_conf_reader_num_hl]; exact ⟨T_conf_reader_num_1_ok, T_conf_reader_num_2_ok, trivial⟩)) (by rw [T_conf_reader_num_eq]; exact h)

/-! (*tollgate/conf.reader).text -/
def T_conf_reader_text (r1 : Option Addr) (w : World) (R : Ending → World → Prop) : Prop :=
  Calls Tryz.prog 63 #[.pointer r1, .int .i64 128] w (ret (fun r2 w3 => ∃ x4 : Int, r2 = .int .i64 x4 ∧ Calls Tryz.prog 102 #[.pointer r1, .int .i64 x4] w3 (ret (fun r5 w6 => ∃ s7a : Option Addr, ∃ s7l : Nat, ∃ s7c : Nat, r5 = .slice s7a s7l s7c ∧ runV Tryz.prog (convert 56 9 (.slice s7a s7l s7c)) w6 (fun r8 w9 => ∃ s10 : ByteArray, r8 = .string s10 ∧ R (.returned (.string s10)) w9) (pan R)) (pan R))) (pan R))

theorem T_conf_reader_text_hl : allP (hokL Tryz.prog (hookAt []) (bodyOf Tryz.f64) 1) = (True) := by kernel_rfl

theorem T_conf_reader_text_eq (r1 : Option Addr) (w : World) (R : Ending → World → Prop) : vcCode Tryz.prog (hookAt []) (bodyOf Tryz.f64) 1 ⟨argEnv [.pointer r1] 0, Tryz.f64.ntmps, []⟩ w (finQ Tryz.prog Tryz.f64.results.toList R) = T_conf_reader_text r1 w R := by kernel_rfl

theorem T_conf_reader_text_b : Tryz.f64.body = some (bodyOf Tryz.f64) := by kernel_rfl
theorem T_conf_reader_text_s : (quietSel (bodyOf Tryz.f64) && Nat.ble 1 Tryz.f64.ntmps) = true := by kernel_rfl

theorem C_conf_reader_text {r1 : Option Addr} {w : World} {R : Ending → World → Prop} (h : T_conf_reader_text r1 w R) : Calls Tryz.prog 64 #[.pointer r1] w R :=
  calls_of_text (args := [.pointer r1]) mixed Tryz.func64 T_conf_reader_text_b T_conf_reader_text_s (HOk_of _ _ (by rw [T_conf_reader_text_hl]; exact trivial)) (by rw [T_conf_reader_text_eq]; exact h)

/-! (*tollgate/conf.reader).targets -/
def T_conf_reader_targets_2 (r8 : Option Addr) (n9 : Int) (w : World) (Kn : Bool → World → Prop) (Kp : List PanicEntry → World → Prop) : Prop :=
  if (decide ((n9 : Int) > 0)) = true then (∃ a10, r8 = some a10 ∧ ∃ x11 : Int, rd w (a10.add 2) (.int .i64 x11) ∧ Kn ((x11 : Int) == 0) w) else (Kn false w)

def T_conf_reader_targets_2_outs : Exit → Option (List (Nat × Value)) := fun x => match x with | .normal => some [(15, .bool false)] | .panic _ => some [] | _ => none

def T_conf_reader_targets_2_ks : Nat → Bool := ksOf [7, 8, 9, 10, 11, 12, 13, 14, 15]

def H_conf_reader_targets_2 : Env → World → QT → Prop := unitHook 27 T_conf_reader_targets_2_ks [(0, .pointer none), (4, .int .i64 0)] T_conf_reader_targets_2_outs fun l w C => match l with | [v0, v1] => T_conf_reader_targets_2 (pPtr v0) (pInt v1) w (fun b13 w => C .normal [.bool b13] w) (fun ch w => C (.panic ch) [] w) | _ => False

theorem T_conf_reader_targets_2_hl : allP (hokL Tryz.prog (hookAt []) (at_ (bodyOf Tryz.f65) [1, 1, 0, 1, 0, 0, 0, 0]) 464) = (True) := by kernel_rfl
theorem T_conf_reader_targets_2_hok : HOk Tryz.prog (hookAt []) (at_ (bodyOf Tryz.f65) [1, 1, 0, 1, 0, 0, 0, 0]) 464 := HOk_of _ _ (by rw [T_conf_reader_targets_2_hl]; exact trivial)

theorem T_conf_reader_targets_2_eq (C : Conts) (r8 : Option Addr) (n9 : Int) (w : World) : vcCode Tryz.prog (hookAt []) (at_ (bodyOf Tryz.f65) [1, 1, 0, 1, 0, 0, 0, 0]) 464 ⟨[(0, .pointer r8), (4, .int .i64 n9)], 27, []⟩ w (unitQ T_conf_reader_targets_2_outs C) = T_conf_reader_targets_2 r8 n9 w (fun b14 w => C .normal [.bool b14] w) (fun ch w => C (.panic ch) [] w) := by kernel_rfl

theorem T_conf_reader_targets_2_ok : UnitOk Tryz.prog H_conf_reader_targets_2 (at_ (bodyOf Tryz.f65) [1, 1, 0, 1, 0, 0, 0, 0]) 464 := unit_ok (H := (hookAt [])) (by kernel_rfl) T_conf_reader_targets_2_hok fun l w C hk => by
    obtain ⟨v0, l_v0, rfl, k_v0, hk_v0⟩ := Kinds.cons_ hk
    obtain ⟨r8, rfl⟩ := kind_pointer k_v0
    obtain ⟨v1, l_v1, rfl, k_v1, hk_v1⟩ := Kinds.cons_ hk_v0
    obtain ⟨n9, rfl⟩ := kind_int k_v1
    obtain rfl := Kinds.nil_ hk_v1
    exact T_conf_reader_targets_2_eq C r8 n9 w

def T_conf_reader_targets_1_body (X : Option Addr → Nat → Nat → Int → World → Prop) (l5a : Option Addr) (l5l : Nat) (l5c : Nat) (n6 : Int) (r7 : Option Addr) (w : World) (Kn : Option Addr → Nat → Nat → World → Prop) (Kp : List PanicEntry → World → Prop)  : Prop :=
  T_conf_reader_targets_2 r7 n6 w (fun b15 w16 => if b15 = true then (Calls Tryz.prog 64 #[.pointer r7] w16 (ret (fun r17 w18 => ∃ s19 : ByteArray, r17 = .string s19 ∧ Calls Tryz.prog 103 #[.pointer r7] w18 (ret (fun r20 w21 => ∃ f22 : Nat, r20 = .float .f64 f22 ∧ let w23 : World := w21.alloc (.cells #[.string s19, .float .f64 f22] 64)
  runV Tryz.prog (Builtin.append_ #[32, 32] 32 #[.slice l5a l5l l5c, .slice (some (⟨w21.heap.size, 0, none⟩ : Addr)) 1 1]) w23 (fun r24 w25 => ∃ s26a : Option Addr, ∃ s26l : Nat, ∃ s26c : Nat, r24 = .slice s26a s26l s26c ∧ X s26a s26l s26c (IntKind.wrap .i64 ((n6 : Int) - 1)) w25) Kp) Kp)) Kp)) else (Kn l5a l5l l5c w16)) Kp

def T_conf_reader_targets_1 (l5a : Option Addr) (l5l : Nat) (l5c : Nat) (n6 : Int) (r7 : Option Addr) (w : World) (Kn : Option Addr → Nat → Nat → World → Prop) (Kp : List PanicEntry → World → Prop) : Prop :=
  ∀ X : Option Addr → Nat → Nat → Int → World → Prop, (∀ (l5a : Option Addr) (l5l : Nat) (l5c : Nat) (n6 : Int) (w : World), T_conf_reader_targets_1_body X l5a l5l l5c n6 r7 w Kn Kp → X l5a l5l l5c n6 w) → X l5a l5l l5c n6 w

def T_conf_reader_targets_1_outs : Exit → Option (List (Nat × Value)) := fun x => match x with | .normal => some [(3, .slice none 0 0)] | .panic _ => some [] | _ => none

def T_conf_reader_targets_1_ks : Nat → Bool := ksOf [3, 4, 7, 8, 9, 10, 11, 12, 13, 14, 15, 16, 17, 18, 19, 20, 21, 22, 23, 24, 25]

def H_conf_reader_targets_1 : Env → World → QT → Prop := unitHook 27 T_conf_reader_targets_1_ks [(3, .slice none 0 0), (4, .int .i64 0), (0, .pointer none)] T_conf_reader_targets_1_outs fun l w C => match l with | [v0, v1, v2] => T_conf_reader_targets_1 (pA v0) (pL v0) (pC v0) (pInt v1) (pPtr v2) w (fun l28a l28l l28c w => C .normal [.slice l28a l28l l28c] w) (fun ch w => C (.panic ch) [] w) | _ => False

theorem T_conf_reader_targets_1_hl : allP (hokL Tryz.prog (hookAt [(464, H_conf_reader_targets_2)]) (at_ (bodyOf Tryz.f65) [1, 1, 0, 1, 0, 0]) 116) = (UnitOk Tryz.prog H_conf_reader_targets_2 (at_ (bodyOf Tryz.f65) [1, 1, 0, 1, 0, 0, 0, 0]) 464 ∧ True) := by kernel_rfl
theorem T_conf_reader_targets_1_hok : HOk Tryz.prog (hookAt [(464, H_conf_reader_targets_2)]) (at_ (bodyOf Tryz.f65) [1, 1, 0, 1, 0, 0]) 116 := HOk_of _ _ (by rw [T_conf_reader_targets_1_hl]; exact ⟨T_conf_reader_targets_2_ok, trivial⟩)

theorem T_conf_reader_targets_1_eq (C : Conts) (X : List Value → World → Prop) (l5a : Option Addr) (l5l : Nat) (l5c : Nat) (n6 : Int) (r7 : Option Addr) (w : World) : vcCode Tryz.prog (hookAt [(464, H_conf_reader_targets_2)]) (at_ (bodyOf Tryz.f65) [1, 1, 0, 1, 0, 0]) 116 ⟨[(3, .slice l5a l5l l5c), (4, .int .i64 n6)] ++ [(0, .pointer r7)], 27, []⟩ w (seqQ (fun e w => takeAll e [(3, .slice none 0 0), (4, .int .i64 0)] fun l => X l w) (blockQ 0 (unitQ T_conf_reader_targets_1_outs C))) = T_conf_reader_targets_1_body (fun l5a l5l l5c n6 w => X [.slice l5a l5l l5c, .int .i64 n6] w) l5a l5l l5c n6 r7 w (fun l29a l29l l29c w => C .normal [.slice l29a l29l l29c] w) (fun ch w => C (.panic ch) [] w) := by kernel_rfl

theorem T_conf_reader_targets_1_ok : UnitOk Tryz.prog H_conf_reader_targets_1 (at_ (bodyOf Tryz.f65) [1, 1, 0, 1]) 29 := by
  have hc : at_ (bodyOf Tryz.f65) [1, 1, 0, 1] = .block 0 (.loop (at_ (bodyOf Tryz.f65) [1, 1, 0, 1, 0, 0])) := by kernel_rfl
  rw [hc]
  refine loop_unit_ok (carr := [(3, .slice none 0 0), (4, .int .i64 0)]) (fix := [(0, .pointer none)]) (ks := T_conf_reader_targets_1_ks) (H := (hookAt [(464, H_conf_reader_targets_2)])) (B := fun C X l u w => match l, u with | [v0, v1], [v2] => T_conf_reader_targets_1_body (fun l5a l5l l5c n6 w => X [.slice l5a l5l l5c, .int .i64 n6] w) (pA v0) (pL v0) (pC v0) (pInt v1) (pPtr v2) w (fun l30a l30l l30c w => C .normal [.slice l30a l30l l30c] w) (fun ch w => C (.panic ch) [] w) | _, _ => False) (by kernel_rfl) (by kernel_rfl) T_conf_reader_targets_1_hok ?_ ?_
  · intro C X l u w hl hu
    obtain ⟨v0, l_v0, rfl, k_v0, hl_v0⟩ := Kinds.cons_ hl
    obtain ⟨l5a, l5l, l5c, rfl⟩ := kind_slice k_v0
    obtain ⟨v1, l_v1, rfl, k_v1, hl_v1⟩ := Kinds.cons_ hl_v0
    obtain ⟨n6, rfl⟩ := kind_int k_v1
    obtain rfl := Kinds.nil_ hl_v1
    obtain ⟨v2, l_v2, rfl, k_v2, hu_v2⟩ := Kinds.cons_ hu
    obtain ⟨r7, rfl⟩ := kind_pointer k_v2
    obtain rfl := Kinds.nil_ hu_v2
    exact T_conf_reader_targets_1_eq C X l5a l5l l5c n6 r7 w
  · intro l u w C hl hu
    obtain ⟨v0, l_v0, rfl, k_v0, hl_v0⟩ := Kinds.cons_ hl
    obtain ⟨l5a, l5l, l5c, rfl⟩ := kind_slice k_v0
    obtain ⟨v1, l_v1, rfl, k_v1, hl_v1⟩ := Kinds.cons_ hl_v0
    obtain ⟨n6, rfl⟩ := kind_int k_v1
    obtain rfl := Kinds.nil_ hl_v1
    obtain ⟨v2, l_v2, rfl, k_v2, hu_v2⟩ := Kinds.cons_ hu
    obtain ⟨r7, rfl⟩ := kind_pointer k_v2
    obtain rfl := Kinds.nil_ hu_v2
    constructor
    · intro h X hX
      exact h (fun l5a l5l l5c n6 w => X [.slice l5a l5l l5c, .int .i64 n6] w) (fun l5a l5l l5c n6 w hb => hX [.slice l5a l5l l5c, .int .i64 n6] w ⟨rfl, rfl, trivial⟩ hb)
    · intro h X hX
      exact h (fun l w => match l with | [v0, v1] => X (pA v0) (pL v0) (pC v0) (pInt v1) w | _ => True) (fun l w hl hb => by
        obtain ⟨v0, l_v0, rfl, k_v0, hl_v0⟩ := Kinds.cons_ hl
        obtain ⟨l5a, l5l, l5c, rfl⟩ := kind_slice k_v0
        obtain ⟨v1, l_v1, rfl, k_v1, hl_v1⟩ := Kinds.cons_ hl_v0
        obtain ⟨n6, rfl⟩ := kind_int k_v1
        obtain rfl := Kinds.nil_ hl_v1
        exact hX l5a l5l l5c n6 w hb)

def T_conf_reader_targets (r1 : Option Addr) (w : World) (R : Ending → World → Prop) : Prop :=
  Calls Tryz.prog 63 #[.pointer r1, .int .i64 16] w (ret (fun r2 w3 => ∃ x4 : Int, r2 = .int .i64 x4 ∧ T_conf_reader_targets_1 none 0 0 x4 r1 w3 (fun l31a l31l l31c w32 => R (.returned (.slice l31a l31l l31c)) w32) (pan R)) (pan R))

theorem T_conf_reader_targets_hl : allP (hokL Tryz.prog (hookAt [(29, H_conf_reader_targets_1)]) (bodyOf Tryz.f65) 1) = (UnitOk Tryz.prog H_conf_reader_targets_1 (at_ (bodyOf Tryz.f65) [1, 1, 0, 1]) 29 ∧ True) := by kernel_rfl

theorem T_conf_reader_targets_eq (r1 : Option Addr) (w : World) (R : Ending → World → Prop) : vcCode Tryz.prog (hookAt [(29, H_conf_reader_targets_1)]) (bodyOf Tryz.f65) 1 ⟨argEnv [.pointer r1] 0, Tryz.f65.ntmps, []⟩ w (finQ Tryz.prog Tryz.f65.results.toList R) = T_conf_reader_targets r1 w R := by kernel_rfl

theorem T_conf_reader_targets_b : Tryz.f65.body = some (bodyOf Tryz.f65) := by kernel_rfl
theorem T_conf_reader_targets_s : (quietSel (bodyOf Tryz.f65) && Nat.ble 1 Tryz.f65.ntmps) = true := by kernel_rfl

theorem C_conf_reader_targets {r1 : Option Addr} {w : World} {R : Ending → World → Prop} (h : T_conf_reader_targets r1 w R) : Calls Tryz.prog 65 #[.pointer r1] w R :=
  calls_of_text (args := [.pointer r1]) mixed Tryz.func65 T_conf_reader_targets_b T_conf_reader_targets_s (HOk_of _ _ (by rw [T_conf_reader_targets_hl]; exact ⟨T_conf_reader_targets_1_ok, trivial⟩)) (by rw [T_conf_reader_targets_eq]; exact h)

/-! (*tollgate/conf.reader).end -/
def T_conf_reader_end_1 (r3 : Option Addr) (right4g : FuncId) (right4i : Array Value) (right4c : Array Value) (w : World) (Kn : Bool → World → Prop) (Kp : List PanicEntry → World → Prop) : Prop :=
  let w5 : World := w.drew
  ∃ a6, r3 = some a6 ∧ ∃ x7 : Int, rd w5 (a6.add 2) (.int .i64 x7) ∧ if ((x7 : Int) == 0) = true then (∃ a8, r3 = some a8 ∧ ∃ x9 : Int, rd w5 (a8.add 1) (.int .i64 x9) ∧ ∃ a10, r3 = some a10 ∧ ∃ s11a : Option Addr, ∃ s11l : Nat, ∃ s11c : Nat, rd w5 a10 (.slice s11a s11l s11c) ∧ if (decide ((x9 : Int) < ((s11l : Nat) : Int))) = true then ((rd w5 a10 (.slice s11a s11l s11c) ∧ rd w5 (a6.add 2) (.int .i64 x7) ∧ True) ∧ Kn true w5) else (hasBody Tryz.prog right4g = true ∧ Calls Tryz.prog right4g ⟨right4i.toList ++ ([] ++ right4c.toList)⟩ w5 (ret (fun r12 w13 => ∃ b14 : Bool, r12 = .bool b14 ∧ (rd w13 a10 (.slice s11a s11l s11c) ∧ rd w13 (a6.add 2) (.int .i64 x7) ∧ True) ∧ Kn (!b14) w13) Kp))) else ((rd w5 (a6.add 2) (.int .i64 x7) ∧ True) ∧ Kn false w5)

def T_conf_reader_end_1_outs : Exit → Option (List (Nat × Value)) := fun x => match x with | .normal => some [(26, .bool false)] | .panic _ => some [] | _ => none

def T_conf_reader_end_1_ks : Nat → Bool := ksOf [5, 6, 7, 8, 9, 10, 11, 12, 13, 14, 15, 16, 17, 18, 19, 20, 21, 22, 23, 24, 25, 26]

def H_conf_reader_end_1 : Env → World → QT → Prop := unitHook 34 T_conf_reader_end_1_ks [(0, .pointer none), (1, .func (.func 0) #[] #[])] T_conf_reader_end_1_outs fun l w C => match l with | [v0, v1] => T_conf_reader_end_1 (pPtr v0) (pFn v1) (pFi v1) (pCa v1) w (fun b16 w => C .normal [.bool b16] w) (fun ch w => C (.panic ch) [] w) | _ => False

theorem T_conf_reader_end_1_hl : allP (hokL Tryz.prog (hookAt []) (at_ (bodyOf Tryz.f66) [1, 0, 0]) 12) = (True) := by kernel_rfl
theorem T_conf_reader_end_1_hok : HOk Tryz.prog (hookAt []) (at_ (bodyOf Tryz.f66) [1, 0, 0]) 12 := HOk_of _ _ (by rw [T_conf_reader_end_1_hl]; exact trivial)

theorem T_conf_reader_end_1_eq (C : Conts) (r3 : Option Addr) (right4g : FuncId) (right4i : Array Value) (right4c : Array Value) (w : World) : vcCode Tryz.prog (hookAt []) (at_ (bodyOf Tryz.f66) [1, 0, 0]) 12 ⟨[(0, .pointer r3), (1, .func (.func right4g) right4i right4c)], 34, []⟩ w (unitQ T_conf_reader_end_1_outs C) = T_conf_reader_end_1 r3 right4g right4i right4c w (fun b17 w => C .normal [.bool b17] w) (fun ch w => C (.panic ch) [] w) := by kernel_rfl

theorem T_conf_reader_end_1_ok : UnitOk Tryz.prog H_conf_reader_end_1 (at_ (bodyOf Tryz.f66) [1, 0, 0]) 12 := unit_ok (H := (hookAt [])) (by kernel_rfl) T_conf_reader_end_1_hok fun l w C hk => by
    obtain ⟨v0, l_v0, rfl, k_v0, hk_v0⟩ := Kinds.cons_ hk
    obtain ⟨r3, rfl⟩ := kind_pointer k_v0
    obtain ⟨v1, l_v1, rfl, k_v1, hk_v1⟩ := Kinds.cons_ hk_v0
    obtain ⟨right4g, right4i, right4c, rfl⟩ := kind_func k_v1
    obtain rfl := Kinds.nil_ hk_v1
    exact T_conf_reader_end_1_eq C r3 right4g right4i right4c w

def T_conf_reader_end (r1 : Option Addr) (right2g : FuncId) (right2i : Array Value) (right2c : Array Value) (w : World) (R : Ending → World → Prop) : Prop :=
  T_conf_reader_end_1 r1 right2g right2i right2c w (fun b18 w19 => if b18 = true then (∃ a20, r1 = some a20 ∧ (.int .i64 4 : Value).cells.size = 1 ∧ wrOk w19 (a20.add 2) (.int .i64 4) ∧ let w21 : World := wr w19 (a20.add 2) (.int .i64 4)
  ∃ a22, r1 = some a22 ∧ ∃ x23 : Int, rd w21 (a22.add 2) (.int .i64 x23) ∧ R (.returned (.int .i64 x23)) w21) else (∃ a24, r1 = some a24 ∧ ∃ x25 : Int, rd w19 (a24.add 2) (.int .i64 x25) ∧ R (.returned (.int .i64 x25)) w19)) (pan R)

theorem T_conf_reader_end_hl : allP (hokL Tryz.prog (hookAt [(12, H_conf_reader_end_1)]) (bodyOf Tryz.f66) 1) = (UnitOk Tryz.prog H_conf_reader_end_1 (at_ (bodyOf Tryz.f66) [1, 0, 0]) 12 ∧ True) := by kernel_rfl

theorem T_conf_reader_end_eq (r1 : Option Addr) (right2g : FuncId) (right2i : Array Value) (right2c : Array Value) (w : World) (R : Ending → World → Prop) : vcCode Tryz.prog (hookAt [(12, H_conf_reader_end_1)]) (bodyOf Tryz.f66) 1 ⟨argEnv [.pointer r1, .func (.func right2g) right2i right2c] 0, Tryz.f66.ntmps, []⟩ w (finQ Tryz.prog Tryz.f66.results.toList R) = T_conf_reader_end r1 right2g right2i right2c w R := by kernel_rfl

theorem T_conf_reader_end_b : Tryz.f66.body = some (bodyOf Tryz.f66) := by kernel_rfl
theorem T_conf_reader_end_s : (quietSel (bodyOf Tryz.f66) && Nat.ble 2 Tryz.f66.ntmps) = true := by kernel_rfl

theorem C_conf_reader_end {r1 : Option Addr} {right2g : FuncId} {right2i : Array Value} {right2c : Array Value} {w : World} {R : Ending → World → Prop} (h : T_conf_reader_end r1 right2g right2i right2c w R) : Calls Tryz.prog 66 #[.pointer r1, .func (.func right2g) right2i right2c] w R :=
  calls_of_text (args := [.pointer r1, .func (.func right2g) right2i right2c]) mixed Tryz.func66 T_conf_reader_end_b T_conf_reader_end_s (HOk_of _ _ (by rw [T_conf_reader_end_hl]; exact ⟨T_conf_reader_end_1_ok, trivial⟩)) (by rw [T_conf_reader_end_eq]; exact h)

/-! tollgate/conf.GetCommand$1 -/
def T_conf_GetCommand_c1 (cap1 : Addr) (w : World) (R : Ending → World → Prop) : Prop :=
  ∃ x2 : Int, ∃ x3 : Int, ∃ x4 : Int, ∃ x5 : Int, ∃ s6 : ByteArray, ∃ s7 : ByteArray, ∃ s8 : ByteArray, ∃ s9a : Option Addr, ∃ s9l : Nat, ∃ s9c : Nat, rd w cap1 (.agg #[.int .i64 x2, .int .i64 x3, .int .i64 x4, .int .i64 x5, .string s6, .string s7, .string s8, .slice s9a s9l s9c]) ∧ Calls Tryz.prog 23 #[.agg #[.int .i64 x2, .int .i64 x3, .int .i64 x4, .int .i64 x5, .string s6, .string s7, .string s8, .slice s9a s9l s9c]] w (ret (fun r10 w11 => ∃ x12 : Int, r10 = .int .i64 x12 ∧ R (.returned (.bool ((x12 : Int) == 0))) w11) (pan R))

theorem T_conf_GetCommand_c1_hl : allP (hokL Tryz.prog (hookAt []) (bodyOf Tryz.f67) 1) = (True) := by kernel_rfl

theorem T_conf_GetCommand_c1_eq (cap1 : Addr) (w : World) (R : Ending → World → Prop) : vcCode Tryz.prog (hookAt []) (bodyOf Tryz.f67) 1 ⟨argEnv [.pointer (some cap1)] 0, Tryz.f67.ntmps, []⟩ w (finQ Tryz.prog Tryz.f67.results.toList R) = T_conf_GetCommand_c1 cap1 w R := by kernel_rfl

theorem T_conf_GetCommand_c1_b : Tryz.f67.body = some (bodyOf Tryz.f67) := by kernel_rfl
theorem T_conf_GetCommand_c1_s : (quietSel (bodyOf Tryz.f67) && Nat.ble 1 Tryz.f67.ntmps) = true := by kernel_rfl

theorem C_conf_GetCommand_c1 {cap1 : Addr} {w : World} {R : Ending → World → Prop} (h : T_conf_GetCommand_c1 cap1 w R) : Calls Tryz.prog 67 #[.pointer (some cap1)] w R :=
  calls_of_text (args := [.pointer (some cap1)]) mixed Tryz.func67 T_conf_GetCommand_c1_b T_conf_GetCommand_c1_s (HOk_of _ _ (by rw [T_conf_GetCommand_c1_hl]; exact trivial)) (by rw [T_conf_GetCommand_c1_eq]; exact h)

/-! (*tollgate/tollgateref08.scan).num -/
def T_ref08_scan_num (s1 : Option Addr) (most2 : Int) (w : World) (R : Ending → World → Prop) : Prop :=
  ∃ a3, s1 = some a3 ∧ ∃ x4 : Int, rd w (a3.add 2) (.int .i64 x4) ∧ if ((x4 : Int) != 0) = true then (R (.returned (.int .i64 0)) w) else (let w5 : World := w.drew
  ∃ a6, s1 = some a6 ∧ ∃ s7a : Option Addr, ∃ s7l : Nat, ∃ s7c : Nat, rd w5 a6 (.slice s7a s7l s7c) ∧ ∃ a8, s1 = some a8 ∧ ∃ x9 : Int, rd w5 (a8.add 1) (.int .i64 x9) ∧ Calls Tryz.prog 104 #[.slice s7a s7l s7c, .int .i64 x9] w5 (ret (fun r10 w11 => ∃ x12 : Int, ∃ x13 : Int, ∃ x14 : Int, r10 = .tuple #[.int .i64 x12, .int .i64 x13, .int .i64 x14] ∧ (True) ∧ if ((x14 : Int) != 0) = true then (∃ a15, s1 = some a15 ∧ (.int .i64 x14 : Value).cells.size = 1 ∧ wrOk w11 (a15.add 2) (.int .i64 x14) ∧ let w16 : World := wr w11 (a15.add 2) (.int .i64 x14)
  R (.returned (.int .i64 0)) w16) else (if (decide ((x12 : Int) > most2)) = true then (∃ a17, s1 = some a17 ∧ (.int .i64 6 : Value).cells.size = 1 ∧ wrOk w11 (a17.add 2) (.int .i64 6) ∧ let w18 : World := wr w11 (a17.add 2) (.int .i64 6)
  R (.returned (.int .i64 0)) w18) else (∃ a19, s1 = some a19 ∧ (.int .i64 x13 : Value).cells.size = 1 ∧ wrOk w11 (a19.add 1) (.int .i64 x13) ∧ let w20 : World := wr w11 (a19.add 1) (.int .i64 x13)
  R (.returned (.int .i64 x12)) w20))) (pan R)))

theorem T_ref08_scan_num_hl : allP (hokL Tryz.prog (hookAt []) (bodyOf Tryz.f68) 1) = (True) := by kernel_rfl

theorem T_ref08_scan_num_eq (s1 : Option Addr) (most2 : Int) (w : World) (R : Ending → World → Prop) : vcCode Tryz.prog (hookAt []) (bodyOf Tryz.f68) 1 ⟨argEnv [.pointer s1, .int .i64 most2] 0, Tryz.f68.ntmps, []⟩ w (finQ Tryz.prog Tryz.f68.results.toList R) = T_ref08_scan_num s1 most2 w R := by kernel_rfl

theorem T_ref08_scan_num_b : Tryz.f68.body = some (bodyOf Tryz.f68) := by kernel_rfl
theorem T_ref08_scan_num_s : (quietSel (bodyOf Tryz.f68) && Nat.ble 2 Tryz.f68.ntmps) = true := by kernel_rfl

theorem C_ref08_scan_num {s1 : Option Addr} {most2 : Int} {w : World} {R : Ending → World → Prop} (h : T_ref08_scan_num s1 most2 w R) : Calls Tryz.prog 68 #[.pointer s1, .int .i64 most2] w R :=
  calls_of_text (args := [.pointer s1, .int .i64 most2]) mixed Tryz.func68 T_ref08_scan_num_b T_ref08_scan_num_s (HOk_of _ _ (by rw [T_ref08_scan_num_hl]; exact trivial)) (by rw [T_ref08_scan_num_eq]; exact h)

/-! (*tollgate/tollgateref08.scan).text -/
def T_ref08_scan_text (s1 : Option Addr) (w : World) (R : Ending → World → Prop) : Prop :=
  Calls Tryz.prog 68 #[.pointer s1, .int .i64 128] w (ret (fun r2 w3 => ∃ x4 : Int, r2 = .int .i64 x4 ∧ Calls Tryz.prog 105 #[.pointer s1, .int .i64 x4] w3 (ret (fun r5 w6 => ∃ s7a : Option Addr, ∃ s7l : Nat, ∃ s7c : Nat, r5 = .slice s7a s7l s7c ∧ runV Tryz.prog (convert 56 9 (.slice s7a s7l s7c)) w6 (fun r8 w9 => ∃ s10 : ByteArray, r8 = .string s10 ∧ R (.returned (.string s10)) w9) (pan R)) (pan R))) (pan R))

theorem T_ref08_scan_text_hl : allP (hokL Tryz.prog (hookAt []) (bodyOf Tryz.f69) 1) = (True) := by kernel_rfl

theorem T_ref08_scan_text_eq (s1 : Option Addr) (w : World) (R : Ending → World → Prop) : vcCode Tryz.prog (hookAt []) (bodyOf Tryz.f69) 1 ⟨argEnv [.pointer s1] 0, Tryz.f69.ntmps, []⟩ w (finQ Tryz.prog Tryz.f69.results.toList R) = T_ref08_scan_text s1 w R := by kernel_rfl

theorem T_ref08_scan_text_b : Tryz.f69.body = some (bodyOf Tryz.f69) := by kernel_rfl
theorem T_ref08_scan_text_s : (quietSel (bodyOf Tryz.f69) && Nat.ble 1 Tryz.f69.ntmps) = true := by kernel_rfl

theorem C_ref08_scan_text {s1 : Option Addr} {w : World} {R : Ending → World → Prop} (h : T_ref08_scan_text s1 w R) : Calls Tryz.prog 69 #[.pointer s1] w R :=
  calls_of_text (args := [.pointer s1]) mixed Tryz.func69 T_ref08_scan_text_b T_ref08_scan_text_s (HOk_of _ _ (by rw [T_ref08_scan_text_hl]; exact trivial)) (by rw [T_ref08_scan_text_eq]; exact h)

/-! (*tollgate/tollgateref08.scan).targets -/
def T_ref08_scan_targets_2 (s10 : Option Addr) (n11 : Int) (i12 : Int) (w : World) (Kn : Bool → World → Prop) (Kp : List PanicEntry → World → Prop) : Prop :=
  if (decide ((i12 : Int) < n11)) = true then (∃ a13, s10 = some a13 ∧ ∃ x14 : Int, rd w (a13.add 2) (.int .i64 x14) ∧ Kn ((x14 : Int) == 0) w) else (Kn false w)

def T_ref08_scan_targets_2_outs : Exit → Option (List (Nat × Value)) := fun x => match x with | .normal => some [(22, .bool false)] | .panic _ => some [] | _ => none

def T_ref08_scan_targets_2_ks : Nat → Bool := ksOf [13, 14, 15, 16, 17, 18, 19, 20, 21, 22]

def H_ref08_scan_targets_2 : Env → World → QT → Prop := unitHook 51 T_ref08_scan_targets_2_ks [(0, .pointer none), (4, .int .i64 0), (5, .int .i64 0)] T_ref08_scan_targets_2_outs fun l w C => match l with | [v0, v1, v2] => T_ref08_scan_targets_2 (pPtr v0) (pInt v1) (pInt v2) w (fun b16 w => C .normal [.bool b16] w) (fun ch w => C (.panic ch) [] w) | _ => False

theorem T_ref08_scan_targets_2_hl : allP (hokL Tryz.prog (hookAt []) (at_ (bodyOf Tryz.f70) [1, 1, 1, 0, 1, 0, 0, 0, 0]) 976) = (True) := by kernel_rfl
theorem T_ref08_scan_targets_2_hok : HOk Tryz.prog (hookAt []) (at_ (bodyOf Tryz.f70) [1, 1, 1, 0, 1, 0, 0, 0, 0]) 976 := HOk_of _ _ (by rw [T_ref08_scan_targets_2_hl]; exact trivial)

theorem T_ref08_scan_targets_2_eq (C : Conts) (s10 : Option Addr) (n11 : Int) (i12 : Int) (w : World) : vcCode Tryz.prog (hookAt []) (at_ (bodyOf Tryz.f70) [1, 1, 1, 0, 1, 0, 0, 0, 0]) 976 ⟨[(0, .pointer s10), (4, .int .i64 n11), (5, .int .i64 i12)], 51, []⟩ w (unitQ T_ref08_scan_targets_2_outs C) = T_ref08_scan_targets_2 s10 n11 i12 w (fun b17 w => C .normal [.bool b17] w) (fun ch w => C (.panic ch) [] w) := by kernel_rfl

theorem T_ref08_scan_targets_2_ok : UnitOk Tryz.prog H_ref08_scan_targets_2 (at_ (bodyOf Tryz.f70) [1, 1, 1, 0, 1, 0, 0, 0, 0]) 976 := unit_ok (H := (hookAt [])) (by kernel_rfl) T_ref08_scan_targets_2_hok fun l w C hk => by
    obtain ⟨v0, l_v0, rfl, k_v0, hk_v0⟩ := Kinds.cons_ hk
    obtain ⟨s10, rfl⟩ := kind_pointer k_v0
    obtain ⟨v1, l_v1, rfl, k_v1, hk_v1⟩ := Kinds.cons_ hk_v0
    obtain ⟨n11, rfl⟩ := kind_int k_v1
    obtain ⟨v2, l_v2, rfl, k_v2, hk_v2⟩ := Kinds.cons_ hk_v1
    obtain ⟨i12, rfl⟩ := kind_int k_v2
    obtain rfl := Kinds.nil_ hk_v2
    exact T_ref08_scan_targets_2_eq C s10 n11 i12 w

def T_ref08_scan_targets_3_body (X : Int → Int → World → Prop) (bits26 : Int) (k27 : Int) (w28a : Option Addr) (w28l : Nat) (w28c : Nat) (w : World) (Kn : Int → World → Prop) (Kp : List PanicEntry → World → Prop)  : Prop :=
  if (decide ((k27 : Int) < ((w28l : Nat) : Int))) = true then (0 ≤ (k27 : Int) ∧ (k27 : Int) < ((w28l : Nat) : Int) ∧ ∃ b29, w28a = some b29 ∧ ∃ x30 : Int, rd w (b29.add ((k27 : Int).toNat * 1)) (.int .u8 x30) ∧ X (IntKind.wrap .u64 ((IntKind.wrap .u64 ((bits26 : Int) * 256) : Int) + (IntKind.wrap .u64 x30))) (IntKind.wrap .i64 ((k27 : Int) + 1)) w) else (Kn bits26 w)

def T_ref08_scan_targets_3 (bits26 : Int) (k27 : Int) (w28a : Option Addr) (w28l : Nat) (w28c : Nat) (w : World) (Kn : Int → World → Prop) (Kp : List PanicEntry → World → Prop) : Prop :=
  ∀ X : Int → Int → World → Prop, (∀ (bits26 : Int) (k27 : Int) (w : World), T_ref08_scan_targets_3_body X bits26 k27 w28a w28l w28c w Kn Kp → X bits26 k27 w) → X bits26 k27 w

def T_ref08_scan_targets_3_outs : Exit → Option (List (Nat × Value)) := fun x => match x with | .normal => some [(8, .int .u64 0)] | .panic _ => some [] | _ => none

def T_ref08_scan_targets_3_ks : Nat → Bool := ksOf [8, 9, 29, 30, 31, 32, 33, 34, 35, 36, 37, 38, 39, 40, 41, 42]

def H_ref08_scan_targets_3 : Env → World → QT → Prop := unitHook 51 T_ref08_scan_targets_3_ks [(8, .int .u64 0), (9, .int .i64 0), (7, .slice none 0 0)] T_ref08_scan_targets_3_outs fun l w C => match l with | [v0, v1, v2] => T_ref08_scan_targets_3 (pInt v0) (pInt v1) (pA v2) (pL v2) (pC v2) w (fun bits32 w => C .normal [.int .u64 bits32] w) (fun ch w => C (.panic ch) [] w) | _ => False

theorem T_ref08_scan_targets_3_hl : allP (hokL Tryz.prog (hookAt []) (at_ (bodyOf Tryz.f70) [1, 1, 1, 0, 1, 0, 0, 1, 0, 0, 1, 1, 1, 0, 1, 0, 0]) 250484) = (True) := by kernel_rfl
theorem T_ref08_scan_targets_3_hok : HOk Tryz.prog (hookAt []) (at_ (bodyOf Tryz.f70) [1, 1, 1, 0, 1, 0, 0, 1, 0, 0, 1, 1, 1, 0, 1, 0, 0]) 250484 := HOk_of _ _ (by rw [T_ref08_scan_targets_3_hl]; exact trivial)

theorem T_ref08_scan_targets_3_eq (C : Conts) (X : List Value → World → Prop) (bits26 : Int) (k27 : Int) (w28a : Option Addr) (w28l : Nat) (w28c : Nat) (w : World) : vcCode Tryz.prog (hookAt []) (at_ (bodyOf Tryz.f70) [1, 1, 1, 0, 1, 0, 0, 1, 0, 0, 1, 1, 1, 0, 1, 0, 0]) 250484 ⟨[(8, .int .u64 bits26), (9, .int .i64 k27)] ++ [(7, .slice w28a w28l w28c)], 51, []⟩ w (seqQ (fun e w => takeAll e [(8, .int .u64 0), (9, .int .i64 0)] fun l => X l w) (blockQ 2 (unitQ T_ref08_scan_targets_3_outs C))) = T_ref08_scan_targets_3_body (fun bits26 k27 w => X [.int .u64 bits26, .int .i64 k27] w) bits26 k27 w28a w28l w28c w (fun bits33 w => C .normal [.int .u64 bits33] w) (fun ch w => C (.panic ch) [] w) := by kernel_rfl

theorem T_ref08_scan_targets_3_ok : UnitOk Tryz.prog H_ref08_scan_targets_3 (at_ (bodyOf Tryz.f70) [1, 1, 1, 0, 1, 0, 0, 1, 0, 0, 1, 1, 1, 0, 1]) 62621 := by
  have hc : at_ (bodyOf Tryz.f70) [1, 1, 1, 0, 1, 0, 0, 1, 0, 0, 1, 1, 1, 0, 1] = .block 2 (.loop (at_ (bodyOf Tryz.f70) [1, 1, 1, 0, 1, 0, 0, 1, 0, 0, 1, 1, 1, 0, 1, 0, 0])) := by kernel_rfl
  rw [hc]
  refine loop_unit_ok (carr := [(8, .int .u64 0), (9, .int .i64 0)]) (fix := [(7, .slice none 0 0)]) (ks := T_ref08_scan_targets_3_ks) (H := (hookAt [])) (B := fun C X l u w => match l, u with | [v0, v1], [v2] => T_ref08_scan_targets_3_body (fun bits26 k27 w => X [.int .u64 bits26, .int .i64 k27] w) (pInt v0) (pInt v1) (pA v2) (pL v2) (pC v2) w (fun bits34 w => C .normal [.int .u64 bits34] w) (fun ch w => C (.panic ch) [] w) | _, _ => False) (by kernel_rfl) (by kernel_rfl) T_ref08_scan_targets_3_hok ?_ ?_
  · intro C X l u w hl hu
    obtain ⟨v0, l_v0, rfl, k_v0, hl_v0⟩ := Kinds.cons_ hl
    obtain ⟨bits26, rfl⟩ := kind_int k_v0
    obtain ⟨v1, l_v1, rfl, k_v1, hl_v1⟩ := Kinds.cons_ hl_v0
    obtain ⟨k27, rfl⟩ := kind_int k_v1
    obtain rfl := Kinds.nil_ hl_v1
    obtain ⟨v2, l_v2, rfl, k_v2, hu_v2⟩ := Kinds.cons_ hu
    obtain ⟨w28a, w28l, w28c, rfl⟩ := kind_slice k_v2
    obtain rfl := Kinds.nil_ hu_v2
    exact T_ref08_scan_targets_3_eq C X bits26 k27 w28a w28l w28c w
  · intro l u w C hl hu
    obtain ⟨v0, l_v0, rfl, k_v0, hl_v0⟩ := Kinds.cons_ hl
    obtain ⟨bits26, rfl⟩ := kind_int k_v0
    obtain ⟨v1, l_v1, rfl, k_v1, hl_v1⟩ := Kinds.cons_ hl_v0
    obtain ⟨k27, rfl⟩ := kind_int k_v1
    obtain rfl := Kinds.nil_ hl_v1
    obtain ⟨v2, l_v2, rfl, k_v2, hu_v2⟩ := Kinds.cons_ hu
    obtain ⟨w28a, w28l, w28c, rfl⟩ := kind_slice k_v2
    obtain rfl := Kinds.nil_ hu_v2
    constructor
    · intro h X hX
      exact h (fun bits26 k27 w => X [.int .u64 bits26, .int .i64 k27] w) (fun bits26 k27 w hb => hX [.int .u64 bits26, .int .i64 k27] w ⟨rfl, rfl, trivial⟩ hb)
    · intro h X hX
      exact h (fun l w => match l with | [v0, v1] => X (pInt v0) (pInt v1) w | _ => True) (fun l w hl hb => by
        obtain ⟨v0, l_v0, rfl, k_v0, hl_v0⟩ := Kinds.cons_ hl
        obtain ⟨bits26, rfl⟩ := kind_int k_v0
        obtain ⟨v1, l_v1, rfl, k_v1, hl_v1⟩ := Kinds.cons_ hl_v0
        obtain ⟨k27, rfl⟩ := kind_int k_v1
        obtain rfl := Kinds.nil_ hl_v1
        exact hX bits26 k27 w hb)

def T_ref08_scan_targets_1_body (X : Option Addr → Nat → Nat → Int → World → Prop) (out6a : Option Addr) (out6l : Nat) (out6c : Nat) (i7 : Int) (s8 : Option Addr) (n9 : Int) (w : World) (Kn : Option Addr → Nat → Nat → World → Prop) (Kp : List PanicEntry → World → Prop)  : Prop :=
  T_ref08_scan_targets_2 s8 n9 i7 w (fun b18 w19 => if b18 = true then (Calls Tryz.prog 69 #[.pointer s8] w19 (ret (fun r20 w21 => ∃ s22 : ByteArray, r20 = .string s22 ∧ Calls Tryz.prog 105 #[.pointer s8, .int .i64 8] w21 (ret (fun r23 w24 => ∃ s25a : Option Addr, ∃ s25l : Nat, ∃ s25c : Nat, r23 = .slice s25a s25l s25c ∧ T_ref08_scan_targets_3 0 0 s25a s25l s25c w24 (fun bits35 w36 => runV Tryz.prog (callFunc 106 #[.int .u64 bits35]) w36 (nxv (fun r37 w38 => ∃ f39 : Nat, r37 = .float .f64 f39 ∧ let w40 : World := w38.alloc (.cells #[.string s22, .float .f64 f39] 64)
  runV Tryz.prog (Builtin.append_ #[32, 32] 32 #[.slice out6a out6l out6c, .slice (some (⟨w38.heap.size, 0, none⟩ : Addr)) 1 1]) w40 (fun r41 w42 => ∃ s43a : Option Addr, ∃ s43l : Nat, ∃ s43c : Nat, r41 = .slice s43a s43l s43c ∧ X s43a s43l s43c (IntKind.wrap .i64 ((i7 : Int) + 1)) w42) Kp)) Kp) Kp) Kp)) Kp)) else (Kn out6a out6l out6c w19)) Kp

def T_ref08_scan_targets_1 (out6a : Option Addr) (out6l : Nat) (out6c : Nat) (i7 : Int) (s8 : Option Addr) (n9 : Int) (w : World) (Kn : Option Addr → Nat → Nat → World → Prop) (Kp : List PanicEntry → World → Prop) : Prop :=
  ∀ X : Option Addr → Nat → Nat → Int → World → Prop, (∀ (out6a : Option Addr) (out6l : Nat) (out6c : Nat) (i7 : Int) (w : World), T_ref08_scan_targets_1_body X out6a out6l out6c i7 s8 n9 w Kn Kp → X out6a out6l out6c i7 w) → X out6a out6l out6c i7 w

def T_ref08_scan_targets_1_outs : Exit → Option (List (Nat × Value)) := fun x => match x with | .normal => some [(3, .slice none 0 0)] | .panic _ => some [] | _ => none

def T_ref08_scan_targets_1_ks : Nat → Bool := ksOf [3, 5, 6, 7, 8, 9, 13, 14, 15, 16, 17, 18, 19, 20, 21, 22, 23, 24, 25, 26, 27, 28, 29, 30, 31, 32, 33, 34, 35, 36, 37, 38, 39, 40, 41, 42, 43, 44, 45, 46, 47, 48, 49]

def H_ref08_scan_targets_1 : Env → World → QT → Prop := unitHook 51 T_ref08_scan_targets_1_ks [(3, .slice none 0 0), (5, .int .i64 0), (0, .pointer none), (4, .int .i64 0)] T_ref08_scan_targets_1_outs fun l w C => match l with | [v0, v1, v2, v3] => T_ref08_scan_targets_1 (pA v0) (pL v0) (pC v0) (pInt v1) (pPtr v2) (pInt v3) w (fun out45a out45l out45c w => C .normal [.slice out45a out45l out45c] w) (fun ch w => C (.panic ch) [] w) | _ => False

theorem T_ref08_scan_targets_1_hl : allP (hokL Tryz.prog (hookAt [(976, H_ref08_scan_targets_2), (62621, H_ref08_scan_targets_3)]) (at_ (bodyOf Tryz.f70) [1, 1, 1, 0, 1, 0, 0]) 244) = (UnitOk Tryz.prog H_ref08_scan_targets_2 (at_ (bodyOf Tryz.f70) [1, 1, 1, 0, 1, 0, 0, 0, 0]) 976 ∧ UnitOk Tryz.prog H_ref08_scan_targets_3 (at_ (bodyOf Tryz.f70) [1, 1, 1, 0, 1, 0, 0, 1, 0, 0, 1, 1, 1, 0, 1]) 62621 ∧ True) := by kernel_rfl
theorem T_ref08_scan_targets_1_hok : HOk Tryz.prog (hookAt [(976, H_ref08_scan_targets_2), (62621, H_ref08_scan_targets_3)]) (at_ (bodyOf Tryz.f70) [1, 1, 1, 0, 1, 0, 0]) 244 := HOk_of _ _ (by rw [T_ref08_scan_targets_1_hl]; exact ⟨T_ref08_scan_targets_2_ok, T_ref08_scan_targets_3_ok, trivial⟩)

theorem T_ref08_scan_targets_1_eq (C : Conts) (X : List Value → World → Prop) (out6a : Option Addr) (out6l : Nat) (out6c : Nat) (i7 : Int) (s8 : Option Addr) (n9 : Int) (w : World) : vcCode Tryz.prog (hookAt [(976, H_ref08_scan_targets_2), (62621, H_ref08_scan_targets_3)]) (at_ (bodyOf Tryz.f70) [1, 1, 1, 0, 1, 0, 0]) 244 ⟨[(3, .slice out6a out6l out6c), (5, .int .i64 i7)] ++ [(0, .pointer s8), (4, .int .i64 n9)], 51, []⟩ w (seqQ (fun e w => takeAll e [(3, .slice none 0 0), (5, .int .i64 0)] fun l => X l w) (blockQ 0 (unitQ T_ref08_scan_targets_1_outs C))) = T_ref08_scan_targets_1_body (fun out6a out6l out6c i7 w => X [.slice out6a out6l out6c, .int .i64 i7] w) out6a out6l out6c i7 s8 n9 w (fun out46a out46l out46c w => C .normal [.slice out46a out46l out46c] w) (fun ch w => C (.panic ch) [] w) := by kernel_rfl

theorem T_ref08_scan_targets_1_ok : UnitOk Tryz.prog H_ref08_scan_targets_1 (at_ (bodyOf Tryz.f70) [1, 1, 1, 0, 1]) 61 := by
  have hc : at_ (bodyOf Tryz.f70) [1, 1, 1, 0, 1] = .block 0 (.loop (at_ (bodyOf Tryz.f70) [1, 1, 1, 0, 1, 0, 0])) := by kernel_rfl
  rw [hc]
  refine loop_unit_ok (carr := [(3, .slice none 0 0), (5, .int .i64 0)]) (fix := [(0, .pointer none), (4, .int .i64 0)]) (ks := T_ref08_scan_targets_1_ks) (H := (hookAt [(976, H_ref08_scan_targets_2), (62621, H_ref08_scan_targets_3)])) (B := fun C X l u w => match l, u with | [v0, v1], [v2, v3] => T_ref08_scan_targets_1_body (fun out6a out6l out6c i7 w => X [.slice out6a out6l out6c, .int .i64 i7] w) (pA v0) (pL v0) (pC v0) (pInt v1) (pPtr v2) (pInt v3) w (fun out47a out47l out47c w => C .normal [.slice out47a out47l out47c] w) (fun ch w => C (.panic ch) [] w) | _, _ => False) (by kernel_rfl) (by kernel_rfl) T_ref08_scan_targets_1_hok ?_ ?_
  · intro C X l u w hl hu
    obtain ⟨v0, l_v0, rfl, k_v0, hl_v0⟩ := Kinds.cons_ hl
    obtain ⟨out6a, out6l, out6c, rfl⟩ := kind_slice k_v0
    obtain ⟨v1, l_v1, rfl, k_v1, hl_v1⟩ := Kinds.cons_ hl_v0
    obtain ⟨i7, rfl⟩ := kind_int k_v1
    obtain rfl := Kinds.nil_ hl_v1
    obtain ⟨v2, l_v2, rfl, k_v2, hu_v2⟩ := Kinds.cons_ hu
    obtain ⟨s8, rfl⟩ := kind_pointer k_v2
    obtain ⟨v3, l_v3, rfl, k_v3, hu_v3⟩ := Kinds.cons_ hu_v2
    obtain ⟨n9, rfl⟩ := kind_int k_v3
    obtain rfl := Kinds.nil_ hu_v3
    exact T_ref08_scan_targets_1_eq C X out6a out6l out6c i7 s8 n9 w
  · intro l u w C hl hu
    obtain ⟨v0, l_v0, rfl, k_v0, hl_v0⟩ := Kinds.cons_ hl
    obtain ⟨out6a, out6l, out6c, rfl⟩ := kind_slice k_v0
    obtain ⟨v1, l_v1, rfl, k_v1, hl_v1⟩ := Kinds.cons_ hl_v0
    obtain ⟨i7, rfl⟩ := kind_int k_v1
    obtain rfl := Kinds.nil_ hl_v1
    obtain ⟨v2, l_v2, rfl, k_v2, hu_v2⟩ := Kinds.cons_ hu
    obtain ⟨s8, rfl⟩ := kind_pointer k_v2
    obtain ⟨v3, l_v3, rfl, k_v3, hu_v3⟩ := Kinds.cons_ hu_v2
    obtain ⟨n9, rfl⟩ := kind_int k_v3
    obtain rfl := Kinds.nil_ hu_v3
    constructor
    · intro h X hX
      exact h (fun out6a out6l out6c i7 w => X [.slice out6a out6l out6c, .int .i64 i7] w) (fun out6a out6l out6c i7 w hb => hX [.slice out6a out6l out6c, .int .i64 i7] w ⟨rfl, rfl, trivial⟩ hb)
    · intro h X hX
      exact h (fun l w => match l with | [v0, v1] => X (pA v0) (pL v0) (pC v0) (pInt v1) w | _ => True) (fun l w hl hb => by
        obtain ⟨v0, l_v0, rfl, k_v0, hl_v0⟩ := Kinds.cons_ hl
        obtain ⟨out6a, out6l, out6c, rfl⟩ := kind_slice k_v0
        obtain ⟨v1, l_v1, rfl, k_v1, hl_v1⟩ := Kinds.cons_ hl_v0
        obtain ⟨i7, rfl⟩ := kind_int k_v1
        obtain rfl := Kinds.nil_ hl_v1
        exact hX out6a out6l out6c i7 w hb)

def T_ref08_scan_targets (s1 : Option Addr) (w : World) (R : Ending → World → Prop) : Prop :=
  let w2 : World := w.alloc (.cells #[] 64)
  Calls Tryz.prog 68 #[.pointer s1, .int .i64 16] w2 (ret (fun r3 w4 => ∃ x5 : Int, r3 = .int .i64 x5 ∧ T_ref08_scan_targets_1 (some (⟨w.heap.size, 0, none⟩ : Addr)) 0 0 0 s1 x5 w4 (fun out48a out48l out48c w49 => R (.returned (.slice out48a out48l out48c)) w49) (pan R)) (pan R))

theorem T_ref08_scan_targets_hl : allP (hokL Tryz.prog (hookAt [(61, H_ref08_scan_targets_1)]) (bodyOf Tryz.f70) 1) = (UnitOk Tryz.prog H_ref08_scan_targets_1 (at_ (bodyOf Tryz.f70) [1, 1, 1, 0, 1]) 61 ∧ True) := by kernel_rfl

theorem T_ref08_scan_targets_eq (s1 : Option Addr) (w : World) (R : Ending → World → Prop) : vcCode Tryz.prog (hookAt [(61, H_ref08_scan_targets_1)]) (bodyOf Tryz.f70) 1 ⟨argEnv [.pointer s1] 0, Tryz.f70.ntmps, []⟩ w (finQ Tryz.prog Tryz.f70.results.toList R) = T_ref08_scan_targets s1 w R := by kernel_rfl

theorem T_ref08_scan_targets_b : Tryz.f70.body = some (bodyOf Tryz.f70) := by kernel_rfl
theorem T_ref08_scan_targets_s : (quietSel (bodyOf Tryz.f70) && Nat.ble 1 Tryz.f70.ntmps) = true := by kernel_rfl

theorem C_ref08_scan_targets {s1 : Option Addr} {w : World} {R : Ending → World → Prop} (h : T_ref08_scan_targets s1 w R) : Calls Tryz.prog 70 #[.pointer s1] w R :=
  calls_of_text (args := [.pointer s1]) mixed Tryz.func70 T_ref08_scan_targets_b T_ref08_scan_targets_s (HOk_of _ _ (by rw [T_ref08_scan_targets_hl]; exact ⟨T_ref08_scan_targets_1_ok, trivial⟩)) (by rw [T_ref08_scan_targets_eq]; exact h)

/-! tollgate/wire.Number -/
def T_wire_Number (n1 : Int) (w : World) (R : Ending → World → Prop) : Prop :=
  if (decide ((n1 : Int) < 0)) = true then (R (.returned (.tuple #[.slice none 0 0, .int .i64 2])) w) else (if (decide ((n1 : Int) > 1099511627776)) = true then (R (.returned (.tuple #[.slice none 0 0, .int .i64 2])) w) else (Calls Tryz.prog 118 #[.slice none 0 0, .int .i64 n1] w (ret (fun r2 w3 => ∃ s4a : Option Addr, ∃ s4l : Nat, ∃ s4c : Nat, r2 = .slice s4a s4l s4c ∧ R (.returned (.tuple #[.slice s4a s4l s4c, .int .i64 0])) w3) (pan R))))

theorem T_wire_Number_hl : allP (hokL Tryz.prog (hookAt []) (bodyOf Tryz.f88) 1) = (True) := by kernel_rfl

theorem T_wire_Number_eq (n1 : Int) (w : World) (R : Ending → World → Prop) : vcCode Tryz.prog (hookAt []) (bodyOf Tryz.f88) 1 ⟨argEnv [.int .i64 n1] 0, Tryz.f88.ntmps, []⟩ w (finQ Tryz.prog Tryz.f88.results.toList R) = T_wire_Number n1 w R := by kernel_rfl

theorem T_wire_Number_b : Tryz.f88.body = some (bodyOf Tryz.f88) := by kernel_rfl
theorem T_wire_Number_s : (quietSel (bodyOf Tryz.f88) && Nat.ble 1 Tryz.f88.ntmps) = true := by kernel_rfl

theorem C_wire_Number {n1 : Int} {w : World} {R : Ending → World → Prop} (h : T_wire_Number n1 w R) : Calls Tryz.prog 88 #[.int .i64 n1] w R :=
  calls_of_text (args := [.int .i64 n1]) mixed Tryz.func88 T_wire_Number_b T_wire_Number_s (HOk_of _ _ (by rw [T_wire_Number_hl]; exact trivial)) (by rw [T_wire_Number_eq]; exact h)

/-! tollgate/conf.row -/
def T_conf_row_1_body (X : Option Addr → Nat → Nat → Int → World → Prop) (b6a : Option Addr) (b6l : Nat) (b6c : Nat) (x7 : Int) (s8a : Option Addr) (s8l : Nat) (s8c : Nat) (x9 : Int) (w : World) (Kn : Option Addr → Nat → Nat → World → Prop) (Kp : List PanicEntry → World → Prop)  : Prop :=
  if (decide ((x7 : Int) < x9)) = true then (0 ≤ (x7 : Int) ∧ (x7 : Int) < ((s8l : Nat) : Int) ∧ ∃ b10, s8a = some b10 ∧ ∃ s11 : ByteArray, ∃ f12 : Nat, rd w (b10.add ((x7 : Int).toNat * 2)) (.agg #[.string s11, .float .f64 f12]) ∧ let w13 : World := w.alloc (.cells #[.string (ByteArray.mk #[]), .float .f64 0] 64)
  (.agg #[.string s11, .float .f64 f12] : Value).cells.size = 2 ∧ wrOk w13 (⟨w.heap.size, 0, none⟩ : Addr) (.agg #[.string s11, .float .f64 f12]) ∧ let w14 : World := wr w13 (⟨w.heap.size, 0, none⟩ : Addr) (.agg #[.string s11, .float .f64 f12])
  let w15 : World := w14.drew
  ∃ s16 : ByteArray, rd w15 (⟨w.heap.size, 0, none⟩ : Addr) (.string s16) ∧ ∃ f17 : Nat, rd w15 ((⟨w.heap.size, 0, none⟩ : Addr).add 1) (.float .f64 f17) ∧ Calls Tryz.prog 90 #[.slice b6a b6l b6c, .string s16] w15 (ret (fun r18 w19 => ∃ s20a : Option Addr, ∃ s20l : Nat, ∃ s20c : Nat, r18 = .slice s20a s20l s20c ∧ (rd w19 ((⟨w.heap.size, 0, none⟩ : Addr).add 1) (.float .f64 f17) ∧ True) ∧ Calls Tryz.prog 119 #[.slice s20a s20l s20c, .float .f64 f17] w19 (ret (fun r21 w22 => ∃ s23a : Option Addr, ∃ s23l : Nat, ∃ s23c : Nat, r21 = .slice s23a s23l s23c ∧ (True) ∧ X s23a s23l s23c (IntKind.wrap .i64 ((x7 : Int) + 1)) w22) Kp)) Kp)) else (Kn b6a b6l b6c w)

def T_conf_row_1 (b6a : Option Addr) (b6l : Nat) (b6c : Nat) (x7 : Int) (s8a : Option Addr) (s8l : Nat) (s8c : Nat) (x9 : Int) (w : World) (Kn : Option Addr → Nat → Nat → World → Prop) (Kp : List PanicEntry → World → Prop) : Prop :=
  ∀ X : Option Addr → Nat → Nat → Int → World → Prop, (∀ (b6a : Option Addr) (b6l : Nat) (b6c : Nat) (x7 : Int) (w : World), T_conf_row_1_body X b6a b6l b6c x7 s8a s8l s8c x9 w Kn Kp → X b6a b6l b6c x7 w) → X b6a b6l b6c x7 w

def T_conf_row_1_outs : Exit → Option (List (Nat × Value)) := fun x => match x with | .normal => some [(0, .slice none 0 0)] | .panic _ => some [] | _ => none

def T_conf_row_1_ks : Nat → Bool := ksOf [0, 6, 13, 14, 15, 16, 17, 18, 19, 20, 21, 22, 23, 24]

def H_conf_row_1 : Env → World → QT → Prop := unitHook 26 T_conf_row_1_ks [(0, .slice none 0 0), (13, .int .i64 0), (11, .slice none 0 0), (12, .int .i64 0)] T_conf_row_1_outs fun l w C => match l with | [v0, v1, v2, v3] => T_conf_row_1 (pA v0) (pL v0) (pC v0) (pInt v1) (pA v2) (pL v2) (pC v2) (pInt v3) w (fun b25a b25l b25c w => C .normal [.slice b25a b25l b25c] w) (fun ch w => C (.panic ch) [] w) | _ => False

theorem T_conf_row_1_hl : allP (hokL Tryz.prog (hookAt []) (at_ (bodyOf Tryz.f89) [1, 1, 0, 1, 0, 0]) 116) = (True) := by kernel_rfl
theorem T_conf_row_1_hok : HOk Tryz.prog (hookAt []) (at_ (bodyOf Tryz.f89) [1, 1, 0, 1, 0, 0]) 116 := HOk_of _ _ (by rw [T_conf_row_1_hl]; exact trivial)

theorem T_conf_row_1_eq (C : Conts) (X : List Value → World → Prop) (b6a : Option Addr) (b6l : Nat) (b6c : Nat) (x7 : Int) (s8a : Option Addr) (s8l : Nat) (s8c : Nat) (x9 : Int) (w : World) : vcCode Tryz.prog (hookAt []) (at_ (bodyOf Tryz.f89) [1, 1, 0, 1, 0, 0]) 116 ⟨[(0, .slice b6a b6l b6c), (13, .int .i64 x7)] ++ [(11, .slice s8a s8l s8c), (12, .int .i64 x9)], 26, []⟩ w (seqQ (fun e w => takeAll e [(0, .slice none 0 0), (13, .int .i64 0)] fun l => X l w) (blockQ 0 (unitQ T_conf_row_1_outs C))) = T_conf_row_1_body (fun b6a b6l b6c x7 w => X [.slice b6a b6l b6c, .int .i64 x7] w) b6a b6l b6c x7 s8a s8l s8c x9 w (fun b26a b26l b26c w => C .normal [.slice b26a b26l b26c] w) (fun ch w => C (.panic ch) [] w) := by kernel_rfl

theorem T_conf_row_1_ok : UnitOk Tryz.prog H_conf_row_1 (at_ (bodyOf Tryz.f89) [1, 1, 0, 1]) 29 := by
  have hc : at_ (bodyOf Tryz.f89) [1, 1, 0, 1] = .block 0 (.loop (at_ (bodyOf Tryz.f89) [1, 1, 0, 1, 0, 0])) := by kernel_rfl
  rw [hc]
  refine loop_unit_ok (carr := [(0, .slice none 0 0), (13, .int .i64 0)]) (fix := [(11, .slice none 0 0), (12, .int .i64 0)]) (ks := T_conf_row_1_ks) (H := (hookAt [])) (B := fun C X l u w => match l, u with | [v0, v1], [v2, v3] => T_conf_row_1_body (fun b6a b6l b6c x7 w => X [.slice b6a b6l b6c, .int .i64 x7] w) (pA v0) (pL v0) (pC v0) (pInt v1) (pA v2) (pL v2) (pC v2) (pInt v3) w (fun b27a b27l b27c w => C .normal [.slice b27a b27l b27c] w) (fun ch w => C (.panic ch) [] w) | _, _ => False) (by kernel_rfl) (by kernel_rfl) T_conf_row_1_hok ?_ ?_
  · intro C X l u w hl hu
    obtain ⟨v0, l_v0, rfl, k_v0, hl_v0⟩ := Kinds.cons_ hl
    obtain ⟨b6a, b6l, b6c, rfl⟩ := kind_slice k_v0
    obtain ⟨v1, l_v1, rfl, k_v1, hl_v1⟩ := Kinds.cons_ hl_v0
    obtain ⟨x7, rfl⟩ := kind_int k_v1
    obtain rfl := Kinds.nil_ hl_v1
    obtain ⟨v2, l_v2, rfl, k_v2, hu_v2⟩ := Kinds.cons_ hu
    obtain ⟨s8a, s8l, s8c, rfl⟩ := kind_slice k_v2
    obtain ⟨v3, l_v3, rfl, k_v3, hu_v3⟩ := Kinds.cons_ hu_v2
    obtain ⟨x9, rfl⟩ := kind_int k_v3
    obtain rfl := Kinds.nil_ hu_v3
    exact T_conf_row_1_eq C X b6a b6l b6c x7 s8a s8l s8c x9 w
  · intro l u w C hl hu
    obtain ⟨v0, l_v0, rfl, k_v0, hl_v0⟩ := Kinds.cons_ hl
    obtain ⟨b6a, b6l, b6c, rfl⟩ := kind_slice k_v0
    obtain ⟨v1, l_v1, rfl, k_v1, hl_v1⟩ := Kinds.cons_ hl_v0
    obtain ⟨x7, rfl⟩ := kind_int k_v1
    obtain rfl := Kinds.nil_ hl_v1
    obtain ⟨v2, l_v2, rfl, k_v2, hu_v2⟩ := Kinds.cons_ hu
    obtain ⟨s8a, s8l, s8c, rfl⟩ := kind_slice k_v2
    obtain ⟨v3, l_v3, rfl, k_v3, hu_v3⟩ := Kinds.cons_ hu_v2
    obtain ⟨x9, rfl⟩ := kind_int k_v3
    obtain rfl := Kinds.nil_ hu_v3
    constructor
    · intro h X hX
      exact h (fun b6a b6l b6c x7 w => X [.slice b6a b6l b6c, .int .i64 x7] w) (fun b6a b6l b6c x7 w hb => hX [.slice b6a b6l b6c, .int .i64 x7] w ⟨rfl, rfl, trivial⟩ hb)
    · intro h X hX
      exact h (fun l w => match l with | [v0, v1] => X (pA v0) (pL v0) (pC v0) (pInt v1) w | _ => True) (fun l w hl hb => by
        obtain ⟨v0, l_v0, rfl, k_v0, hl_v0⟩ := Kinds.cons_ hl
        obtain ⟨b6a, b6l, b6c, rfl⟩ := kind_slice k_v0
        obtain ⟨v1, l_v1, rfl, k_v1, hl_v1⟩ := Kinds.cons_ hl_v0
        obtain ⟨x7, rfl⟩ := kind_int k_v1
        obtain rfl := Kinds.nil_ hl_v1
        exact hX b6a b6l b6c x7 w hb)

def T_conf_row (b1a : Option Addr) (b1l : Nat) (b1c : Nat) (l2a : Option Addr) (l2l : Nat) (l2c : Nat) (w : World) (R : Ending → World → Prop) : Prop :=
  Calls Tryz.prog 49 #[.slice b1a b1l b1c, .int .i64 ((l2l : Nat) : Int)] w (ret (fun r3 w4 => ∃ s5a : Option Addr, ∃ s5l : Nat, ∃ s5c : Nat, r3 = .slice s5a s5l s5c ∧ T_conf_row_1 s5a s5l s5c 0 l2a l2l l2c ((l2l : Nat) : Int) w4 (fun b28a b28l b28c w29 => R (.returned (.slice b28a b28l b28c)) w29) (pan R)) (pan R))

theorem T_conf_row_hl : allP (hokL Tryz.prog (hookAt [(29, H_conf_row_1)]) (bodyOf Tryz.f89) 1) = (UnitOk Tryz.prog H_conf_row_1 (at_ (bodyOf Tryz.f89) [1, 1, 0, 1]) 29 ∧ True) := by kernel_rfl

theorem T_conf_row_eq (b1a : Option Addr) (b1l : Nat) (b1c : Nat) (l2a : Option Addr) (l2l : Nat) (l2c : Nat) (w : World) (R : Ending → World → Prop) : vcCode Tryz.prog (hookAt [(29, H_conf_row_1)]) (bodyOf Tryz.f89) 1 ⟨argEnv [.slice b1a b1l b1c, .slice l2a l2l l2c] 0, Tryz.f89.ntmps, []⟩ w (finQ Tryz.prog Tryz.f89.results.toList R) = T_conf_row b1a b1l b1c l2a l2l l2c w R := by kernel_rfl

theorem T_conf_row_b : Tryz.f89.body = some (bodyOf Tryz.f89) := by kernel_rfl
theorem T_conf_row_s : (quietSel (bodyOf Tryz.f89) && Nat.ble 2 Tryz.f89.ntmps) = true := by kernel_rfl

theorem C_conf_row {b1a : Option Addr} {b1l : Nat} {b1c : Nat} {l2a : Option Addr} {l2l : Nat} {l2c : Nat} {w : World} {R : Ending → World → Prop} (h : T_conf_row b1a b1l b1c l2a l2l l2c w R) : Calls Tryz.prog 89 #[.slice b1a b1l b1c, .slice l2a l2l l2c] w R :=
  calls_of_text (args := [.slice b1a b1l b1c, .slice l2a l2l l2c]) mixed Tryz.func89 T_conf_row_b T_conf_row_s (HOk_of _ _ (by rw [T_conf_row_hl]; exact ⟨T_conf_row_1_ok, trivial⟩)) (by rw [T_conf_row_eq]; exact h)

/-! tollgate/conf.text -/
def T_conf_text (b1a : Option Addr) (b1l : Nat) (b1c : Nat) (s2 : ByteArray) (w : World) (R : Ending → World → Prop) : Prop :=
  Calls Tryz.prog 49 #[.slice b1a b1l b1c, .int .i64 ((s2.size : Nat) : Int)] w (ret (fun r3 w4 => ∃ s5a : Option Addr, ∃ s5l : Nat, ∃ s5c : Nat, r3 = .slice s5a s5l s5c ∧ runV Tryz.prog (Builtin.append_ #[56, 9] 56 #[.slice s5a s5l s5c, .string s2]) w4 (fun r6 w7 => ∃ s8a : Option Addr, ∃ s8l : Nat, ∃ s8c : Nat, r6 = .slice s8a s8l s8c ∧ R (.returned (.slice s8a s8l s8c)) w7) (pan R)) (pan R))

theorem T_conf_text_hl : allP (hokL Tryz.prog (hookAt []) (bodyOf Tryz.f90) 1) = (True) := by kernel_rfl

theorem T_conf_text_eq (b1a : Option Addr) (b1l : Nat) (b1c : Nat) (s2 : ByteArray) (w : World) (R : Ending → World → Prop) : vcCode Tryz.prog (hookAt []) (bodyOf Tryz.f90) 1 ⟨argEnv [.slice b1a b1l b1c, .string s2] 0, Tryz.f90.ntmps, []⟩ w (finQ Tryz.prog Tryz.f90.results.toList R) = T_conf_text b1a b1l b1c s2 w R := by kernel_rfl

theorem T_conf_text_b : Tryz.f90.body = some (bodyOf Tryz.f90) := by kernel_rfl
theorem T_conf_text_s : (quietSel (bodyOf Tryz.f90) && Nat.ble 2 Tryz.f90.ntmps) = true := by kernel_rfl

theorem C_conf_text {b1a : Option Addr} {b1l : Nat} {b1c : Nat} {s2 : ByteArray} {w : World} {R : Ending → World → Prop} (h : T_conf_text b1a b1l b1c s2 w R) : Calls Tryz.prog 90 #[.slice b1a b1l b1c, .string s2] w R :=
  calls_of_text (args := [.slice b1a b1l b1c, .string s2]) mixed Tryz.func90 T_conf_text_b T_conf_text_s (HOk_of _ _ (by rw [T_conf_text_hl]; exact trivial)) (by rw [T_conf_text_eq]; exact h)

/-! tollgate/tollgateref08.num -/
def T_ref08_num (b1a : Option Addr) (b1l : Nat) (b1c : Nat) (n2 : Int) (w : World) (R : Ending → World → Prop) : Prop :=
  Calls Tryz.prog 122 #[.int .i64 n2] w (ret (fun r3 w4 => ∃ s5a : Option Addr, ∃ s5l : Nat, ∃ s5c : Nat, ∃ x6 : Int, r3 = .tuple #[.slice s5a s5l s5c, .int .i64 x6] ∧ runV Tryz.prog (Builtin.append_ #[56, 56] 56 #[.slice b1a b1l b1c, .slice s5a s5l s5c]) w4 (fun r7 w8 => ∃ s9a : Option Addr, ∃ s9l : Nat, ∃ s9c : Nat, r7 = .slice s9a s9l s9c ∧ R (.returned (.slice s9a s9l s9c)) w8) (pan R)) (pan R))

theorem T_ref08_num_hl : allP (hokL Tryz.prog (hookAt []) (bodyOf Tryz.f94) 1) = (True) := by kernel_rfl

theorem T_ref08_num_eq (b1a : Option Addr) (b1l : Nat) (b1c : Nat) (n2 : Int) (w : World) (R : Ending → World → Prop) : vcCode Tryz.prog (hookAt []) (bodyOf Tryz.f94) 1 ⟨argEnv [.slice b1a b1l b1c, .int .i64 n2] 0, Tryz.f94.ntmps, []⟩ w (finQ Tryz.prog Tryz.f94.results.toList R) = T_ref08_num b1a b1l b1c n2 w R := by kernel_rfl

theorem T_ref08_num_b : Tryz.f94.body = some (bodyOf Tryz.f94) := by kernel_rfl
theorem T_ref08_num_s : (quietSel (bodyOf Tryz.f94) && Nat.ble 2 Tryz.f94.ntmps) = true := by kernel_rfl

theorem C_ref08_num {b1a : Option Addr} {b1l : Nat} {b1c : Nat} {n2 : Int} {w : World} {R : Ending → World → Prop} (h : T_ref08_num b1a b1l b1c n2 w R) : Calls Tryz.prog 94 #[.slice b1a b1l b1c, .int .i64 n2] w R :=
  calls_of_text (args := [.slice b1a b1l b1c, .int .i64 n2]) mixed Tryz.func94 T_ref08_num_b T_ref08_num_s (HOk_of _ _ (by rw [T_ref08_num_hl]; exact trivial)) (by rw [T_ref08_num_eq]; exact h)

/-! tollgate/wire.TakeNumber -/
def T_wire_TakeNumber_1 (b3a : Option Addr) (b3l : Nat) (b3c : Nat) (at4 : Int) (w : World) (Kn : Bool → World → Prop) (Kp : List PanicEntry → World → Prop) : Prop :=
  if (decide ((at4 : Int) < 0)) = true then (Kn true w) else (Kn (decide ((at4 : Int) > ((b3l : Nat) : Int))) w)

def T_wire_TakeNumber_1_outs : Exit → Option (List (Nat × Value)) := fun x => match x with | .normal => some [(17, .bool false)] | .panic _ => some [] | _ => none

def T_wire_TakeNumber_1_ks : Nat → Bool := ksOf [10, 11, 12, 13, 14, 15, 16, 17]

def H_wire_TakeNumber_1 : Env → World → QT → Prop := unitHook 58 T_wire_TakeNumber_1_ks [(0, .slice none 0 0), (1, .int .i64 0)] T_wire_TakeNumber_1_outs fun l w C => match l with | [v0, v1] => T_wire_TakeNumber_1 (pA v0) (pL v0) (pC v0) (pInt v1) w (fun b6 w => C .normal [.bool b6] w) (fun ch w => C (.panic ch) [] w) | _ => False

theorem T_wire_TakeNumber_1_hl : allP (hokL Tryz.prog (hookAt []) (at_ (turnB 0 900001 900002 (bodyOf Tryz.f101)) [1, 0, 0]) 12) = (True) := by kernel_rfl
theorem T_wire_TakeNumber_1_hok : HOk Tryz.prog (hookAt []) (at_ (turnB 0 900001 900002 (bodyOf Tryz.f101)) [1, 0, 0]) 12 := HOk_of _ _ (by rw [T_wire_TakeNumber_1_hl]; exact trivial)

theorem T_wire_TakeNumber_1_eq (C : Conts) (b3a : Option Addr) (b3l : Nat) (b3c : Nat) (at4 : Int) (w : World) : vcCode Tryz.prog (hookAt []) (at_ (turnB 0 900001 900002 (bodyOf Tryz.f101)) [1, 0, 0]) 12 ⟨[(0, .slice b3a b3l b3c), (1, .int .i64 at4)], 58, []⟩ w (unitQ T_wire_TakeNumber_1_outs C) = T_wire_TakeNumber_1 b3a b3l b3c at4 w (fun b7 w => C .normal [.bool b7] w) (fun ch w => C (.panic ch) [] w) := by kernel_rfl

theorem T_wire_TakeNumber_1_ok : UnitOk Tryz.prog H_wire_TakeNumber_1 (at_ (turnB 0 900001 900002 (bodyOf Tryz.f101)) [1, 0, 0]) 12 := unit_ok (H := (hookAt [])) (by kernel_rfl) T_wire_TakeNumber_1_hok fun l w C hk => by
    obtain ⟨v0, l_v0, rfl, k_v0, hk_v0⟩ := Kinds.cons_ hk
    obtain ⟨b3a, b3l, b3c, rfl⟩ := kind_slice k_v0
    obtain ⟨v1, l_v1, rfl, k_v1, hk_v1⟩ := Kinds.cons_ hk_v0
    obtain ⟨at4, rfl⟩ := kind_int k_v1
    obtain rfl := Kinds.nil_ hk_v1
    exact T_wire_TakeNumber_1_eq C b3a b3l b3c at4 w

def T_wire_TakeNumber_3 (k19 : Int) (c20 : Int) (w : World) (Kn : Bool → World → Prop) (Kp : List PanicEntry → World → Prop) : Prop :=
  if ((c20 : Int) == 0) = true then (Kn (decide ((k19 : Int) > 1)) w) else (Kn false w)

def T_wire_TakeNumber_3_outs : Exit → Option (List (Nat × Value)) := fun x => match x with | .normal => some [(44, .bool false)] | .panic _ => some [] | _ => none

def T_wire_TakeNumber_3_ks : Nat → Bool := ksOf [44, 45, 46, 47, 48, 49, 50]

def H_wire_TakeNumber_3 : Env → World → QT → Prop := unitHook 58 T_wire_TakeNumber_3_ks [(8, .int .i64 0), (9, .int .i64 0)] T_wire_TakeNumber_3_outs fun l w C => match l with | [v0, v1] => T_wire_TakeNumber_3 (pInt v0) (pInt v1) w (fun b22 w => C .normal [.bool b22] w) (fun ch w => C (.panic ch) [] w) | _ => False

theorem T_wire_TakeNumber_3_hl : allP (hokL Tryz.prog (hookAt []) (at_ (turnB 0 900001 900002 (bodyOf Tryz.f101)) [1, 1, 1, 0, 0, 0, 0, 1, 1, 1, 1, 1, 0, 0, 0]) 61688) = (True) := by kernel_rfl
theorem T_wire_TakeNumber_3_hok : HOk Tryz.prog (hookAt []) (at_ (turnB 0 900001 900002 (bodyOf Tryz.f101)) [1, 1, 1, 0, 0, 0, 0, 1, 1, 1, 1, 1, 0, 0, 0]) 61688 := HOk_of _ _ (by rw [T_wire_TakeNumber_3_hl]; exact trivial)

theorem T_wire_TakeNumber_3_eq (C : Conts) (k19 : Int) (c20 : Int) (w : World) : vcCode Tryz.prog (hookAt []) (at_ (turnB 0 900001 900002 (bodyOf Tryz.f101)) [1, 1, 1, 0, 0, 0, 0, 1, 1, 1, 1, 1, 0, 0, 0]) 61688 ⟨[(8, .int .i64 k19), (9, .int .i64 c20)], 58, []⟩ w (unitQ T_wire_TakeNumber_3_outs C) = T_wire_TakeNumber_3 k19 c20 w (fun b23 w => C .normal [.bool b23] w) (fun ch w => C (.panic ch) [] w) := by kernel_rfl

theorem T_wire_TakeNumber_3_ok : UnitOk Tryz.prog H_wire_TakeNumber_3 (at_ (turnB 0 900001 900002 (bodyOf Tryz.f101)) [1, 1, 1, 0, 0, 0, 0, 1, 1, 1, 1, 1, 0, 0, 0]) 61688 := unit_ok (H := (hookAt [])) (by kernel_rfl) T_wire_TakeNumber_3_hok fun l w C hk => by
    obtain ⟨v0, l_v0, rfl, k_v0, hk_v0⟩ := Kinds.cons_ hk
    obtain ⟨k19, rfl⟩ := kind_int k_v0
    obtain ⟨v1, l_v1, rfl, k_v1, hk_v1⟩ := Kinds.cons_ hk_v0
    obtain ⟨c20, rfl⟩ := kind_int k_v1
    obtain rfl := Kinds.nil_ hk_v1
    exact T_wire_TakeNumber_3_eq C k19 c20 w

def T_wire_TakeNumber_2_body (X : Int → Int → World → Prop) (n10 : Int) (k11 : Int) (b12a : Option Addr) (b12l : Nat) (b12c : Nat) (at13 : Int) (w : World) (Kr : Int → Int → Int → World → Prop) (Kp : List PanicEntry → World → Prop)  : Prop :=
  if ((IntKind.wrap .i64 ((at13 : Int) + k11) : Int) == ((b12l : Nat) : Int)) = true then (Kr 0 0 3 w) else (0 ≤ (IntKind.wrap .i64 ((at13 : Int) + k11) : Int) ∧ (IntKind.wrap .i64 ((at13 : Int) + k11) : Int) < ((b12l : Nat) : Int) ∧ ∃ b14, b12a = some b14 ∧ ∃ x15 : Int, rd w (b14.add ((IntKind.wrap .i64 ((at13 : Int) + k11) : Int).toNat * 1)) (.int .u8 x15) ∧ runV Tryz.prog (do eqGuard .shl 3 (.tmp 33) (.tmp 35) (.int .i64 (IntKind.wrap .i64 ((BitVec.ofInt (IntKind.bits .i64) (IntKind.wrap .i64 x15)) &&& (BitVec.ofInt (IntKind.bits .i64) 127)).toNat)) (.int .i64 (IntKind.wrap .i64 ((7 : Int) * k11))); binOp .shl 3 (.int .i64 (IntKind.wrap .i64 ((BitVec.ofInt (IntKind.bits .i64) (IntKind.wrap .i64 x15)) &&& (BitVec.ofInt (IntKind.bits .i64) 127)).toNat)) (.int .i64 (IntKind.wrap .i64 ((7 : Int) * k11)))) w (fun r16 w17 => ∃ x18 : Int, r16 = .int .i64 x18 ∧ if (decide ((IntKind.wrap .i64 x15 : Int) ≥ 128)) = true then (if ((IntKind.wrap .i64 ((k11 : Int) + 1) : Int) == 6) = true then (Kr 0 0 6 w17) else (X (IntKind.wrap .i64 ((BitVec.ofInt (IntKind.bits .i64) n10) ||| (BitVec.ofInt (IntKind.bits .i64) x18)).toNat) (IntKind.wrap .i64 ((k11 : Int) + 1)) w17)) else (T_wire_TakeNumber_3 (IntKind.wrap .i64 ((k11 : Int) + 1)) (IntKind.wrap .i64 x15) w17 (fun b24 w25 => if b24 = true then (Kr 0 0 4 w25) else (if (decide ((IntKind.wrap .i64 ((BitVec.ofInt (IntKind.bits .i64) n10) ||| (BitVec.ofInt (IntKind.bits .i64) x18)).toNat : Int) > 1099511627776)) = true then (Kr 0 0 6 w25) else (Kr (IntKind.wrap .i64 ((BitVec.ofInt (IntKind.bits .i64) n10) ||| (BitVec.ofInt (IntKind.bits .i64) x18)).toNat) (IntKind.wrap .i64 ((at13 : Int) + (IntKind.wrap .i64 ((k11 : Int) + 1)))) 0 w25))) Kp)) Kp)

def T_wire_TakeNumber_2 (n10 : Int) (k11 : Int) (b12a : Option Addr) (b12l : Nat) (b12c : Nat) (at13 : Int) (w : World) (Kr : Int → Int → Int → World → Prop) (Kp : List PanicEntry → World → Prop) : Prop :=
  ∀ X : Int → Int → World → Prop, (∀ (n10 : Int) (k11 : Int) (w : World), T_wire_TakeNumber_2_body X n10 k11 b12a b12l b12c at13 w Kr Kp → X n10 k11 w) → X n10 k11 w

def T_wire_TakeNumber_2_outs : Exit → Option (List (Nat × Value)) := fun x => match x with | .ret => some [(4, .int .i64 0), (5, .int .i64 0), (6, .int .i64 0)] | .panic _ => some [] | _ => none

def T_wire_TakeNumber_2_ks : Nat → Bool := ksOf [4, 5, 6, 7, 8, 9, 18, 19, 20, 21, 22, 23, 24, 25, 26, 27, 28, 29, 30, 31, 32, 33, 34, 35, 36, 37, 38, 39, 40, 41, 42, 43, 44, 45, 46, 47, 48, 49, 50, 51, 52, 53, 54, 55, 56, 57]

def H_wire_TakeNumber_2 : Env → World → QT → Prop := unitHook 58 T_wire_TakeNumber_2_ks [(7, .int .i64 0), (8, .int .i64 0), (0, .slice none 0 0), (1, .int .i64 0)] T_wire_TakeNumber_2_outs fun l w C => match l with | [v0, v1, v2, v3] => T_wire_TakeNumber_2 (pInt v0) (pInt v1) (pA v2) (pL v2) (pC v2) (pInt v3) w (fun x29 x30 x31 w => C .ret [.int .i64 x29, .int .i64 x30, .int .i64 x31] w) (fun ch w => C (.panic ch) [] w) | _ => False

theorem T_wire_TakeNumber_2_hl : allP (hokL Tryz.prog (hookAt [(61688, H_wire_TakeNumber_3)]) (at_ (turnB 0 900001 900002 (bodyOf Tryz.f101)) [1, 1, 1, 0, 0]) 60) = (UnitOk Tryz.prog H_wire_TakeNumber_3 (at_ (turnB 0 900001 900002 (bodyOf Tryz.f101)) [1, 1, 1, 0, 0, 0, 0, 1, 1, 1, 1, 1, 0, 0, 0]) 61688 ∧ True) := by kernel_rfl
theorem T_wire_TakeNumber_2_hok : HOk Tryz.prog (hookAt [(61688, H_wire_TakeNumber_3)]) (at_ (turnB 0 900001 900002 (bodyOf Tryz.f101)) [1, 1, 1, 0, 0]) 60 := HOk_of _ _ (by rw [T_wire_TakeNumber_2_hl]; exact ⟨T_wire_TakeNumber_3_ok, trivial⟩)

theorem T_wire_TakeNumber_2_eq (C : Conts) (X : List Value → World → Prop) (n10 : Int) (k11 : Int) (b12a : Option Addr) (b12l : Nat) (b12c : Nat) (at13 : Int) (w : World) : vcCode Tryz.prog (hookAt [(61688, H_wire_TakeNumber_3)]) (at_ (turnB 0 900001 900002 (bodyOf Tryz.f101)) [1, 1, 1, 0, 0]) 60 ⟨[(7, .int .i64 n10), (8, .int .i64 k11)] ++ [(0, .slice b12a b12l b12c), (1, .int .i64 at13)], 58, []⟩ w (seqQ (fun e w => takeAll e [(7, .int .i64 0), (8, .int .i64 0)] fun l => X l w) (blockQ 900002 (unitQ T_wire_TakeNumber_2_outs C))) = T_wire_TakeNumber_2_body (fun n10 k11 w => X [.int .i64 n10, .int .i64 k11] w) n10 k11 b12a b12l b12c at13 w (fun x32 x33 x34 w => C .ret [.int .i64 x32, .int .i64 x33, .int .i64 x34] w) (fun ch w => C (.panic ch) [] w) := by kernel_rfl

theorem T_wire_TakeNumber_2_ok : UnitOk Tryz.prog H_wire_TakeNumber_2 (at_ (turnB 0 900001 900002 (bodyOf Tryz.f101)) [1, 1, 1]) 15 := by
  have hc : at_ (turnB 0 900001 900002 (bodyOf Tryz.f101)) [1, 1, 1] = .block 900002 (.loop (at_ (turnB 0 900001 900002 (bodyOf Tryz.f101)) [1, 1, 1, 0, 0])) := by kernel_rfl
  rw [hc]
  refine loop_unit_ok (carr := [(7, .int .i64 0), (8, .int .i64 0)]) (fix := [(0, .slice none 0 0), (1, .int .i64 0)]) (ks := T_wire_TakeNumber_2_ks) (H := (hookAt [(61688, H_wire_TakeNumber_3)])) (B := fun C X l u w => match l, u with | [v0, v1], [v2, v3] => T_wire_TakeNumber_2_body (fun n10 k11 w => X [.int .i64 n10, .int .i64 k11] w) (pInt v0) (pInt v1) (pA v2) (pL v2) (pC v2) (pInt v3) w (fun x35 x36 x37 w => C .ret [.int .i64 x35, .int .i64 x36, .int .i64 x37] w) (fun ch w => C (.panic ch) [] w) | _, _ => False) (by kernel_rfl) (by kernel_rfl) T_wire_TakeNumber_2_hok ?_ ?_
  · intro C X l u w hl hu
    obtain ⟨v0, l_v0, rfl, k_v0, hl_v0⟩ := Kinds.cons_ hl
    obtain ⟨n10, rfl⟩ := kind_int k_v0
    obtain ⟨v1, l_v1, rfl, k_v1, hl_v1⟩ := Kinds.cons_ hl_v0
    obtain ⟨k11, rfl⟩ := kind_int k_v1
    obtain rfl := Kinds.nil_ hl_v1
    obtain ⟨v2, l_v2, rfl, k_v2, hu_v2⟩ := Kinds.cons_ hu
    obtain ⟨b12a, b12l, b12c, rfl⟩ := kind_slice k_v2
    obtain ⟨v3, l_v3, rfl, k_v3, hu_v3⟩ := Kinds.cons_ hu_v2
    obtain ⟨at13, rfl⟩ := kind_int k_v3
    obtain rfl := Kinds.nil_ hu_v3
    exact T_wire_TakeNumber_2_eq C X n10 k11 b12a b12l b12c at13 w
  · intro l u w C hl hu
    obtain ⟨v0, l_v0, rfl, k_v0, hl_v0⟩ := Kinds.cons_ hl
    obtain ⟨n10, rfl⟩ := kind_int k_v0
    obtain ⟨v1, l_v1, rfl, k_v1, hl_v1⟩ := Kinds.cons_ hl_v0
    obtain ⟨k11, rfl⟩ := kind_int k_v1
    obtain rfl := Kinds.nil_ hl_v1
    obtain ⟨v2, l_v2, rfl, k_v2, hu_v2⟩ := Kinds.cons_ hu
    obtain ⟨b12a, b12l, b12c, rfl⟩ := kind_slice k_v2
    obtain ⟨v3, l_v3, rfl, k_v3, hu_v3⟩ := Kinds.cons_ hu_v2
    obtain ⟨at13, rfl⟩ := kind_int k_v3
    obtain rfl := Kinds.nil_ hu_v3
    constructor
    · intro h X hX
      exact h (fun n10 k11 w => X [.int .i64 n10, .int .i64 k11] w) (fun n10 k11 w hb => hX [.int .i64 n10, .int .i64 k11] w ⟨rfl, rfl, trivial⟩ hb)
    · intro h X hX
      exact h (fun l w => match l with | [v0, v1] => X (pInt v0) (pInt v1) w | _ => True) (fun l w hl hb => by
        obtain ⟨v0, l_v0, rfl, k_v0, hl_v0⟩ := Kinds.cons_ hl
        obtain ⟨n10, rfl⟩ := kind_int k_v0
        obtain ⟨v1, l_v1, rfl, k_v1, hl_v1⟩ := Kinds.cons_ hl_v0
        obtain ⟨k11, rfl⟩ := kind_int k_v1
        obtain rfl := Kinds.nil_ hl_v1
        exact hX n10 k11 w hb)

def T_wire_TakeNumber (b1a : Option Addr) (b1l : Nat) (b1c : Nat) (at2 : Int) (w : World) (R : Ending → World → Prop) : Prop :=
  T_wire_TakeNumber_1 b1a b1l b1c at2 w (fun b8 w9 => if b8 = true then (R (.returned (.tuple #[.int .i64 0, .int .i64 0, .int .i64 2])) w9) else (T_wire_TakeNumber_2 0 0 b1a b1l b1c at2 w9 (fun x38 x39 x40 w41 => R (.returned (.tuple #[.int .i64 x38, .int .i64 x39, .int .i64 x40])) w41) (pan R))) (pan R)

theorem T_wire_TakeNumber_hl : allP (hokL Tryz.prog (hookAt [(12, H_wire_TakeNumber_1), (15, H_wire_TakeNumber_2)]) (turnB 0 900001 900002 (bodyOf Tryz.f101)) 1) = (UnitOk Tryz.prog H_wire_TakeNumber_1 (at_ (turnB 0 900001 900002 (bodyOf Tryz.f101)) [1, 0, 0]) 12 ∧ UnitOk Tryz.prog H_wire_TakeNumber_2 (at_ (turnB 0 900001 900002 (bodyOf Tryz.f101)) [1, 1, 1]) 15 ∧ True) := by kernel_rfl

theorem T_wire_TakeNumber_eq (b1a : Option Addr) (b1l : Nat) (b1c : Nat) (at2 : Int) (w : World) (R : Ending → World → Prop) : vcCode Tryz.prog (hookAt [(12, H_wire_TakeNumber_1), (15, H_wire_TakeNumber_2)]) (turnB 0 900001 900002 (bodyOf Tryz.f101)) 1 ⟨argEnv [.slice b1a b1l b1c, .int .i64 at2] 0, Tryz.f101.ntmps, []⟩ w (finQ Tryz.prog Tryz.f101.results.toList R) = T_wire_TakeNumber b1a b1l b1c at2 w R := by kernel_rfl

theorem T_wire_TakeNumber_b : Tryz.f101.body = some (.seq (rOf (bodyOf Tryz.f101)) (.scope (cOf (bodyOf Tryz.f101)))) := by kernel_rfl
theorem T_wire_TakeNumber_f : findLabel (cOf (bodyOf Tryz.f101)) 0 = some (.seq .skip ((lapOf 0 (cOf (bodyOf Tryz.f101))).getD .skip)) := by kernel_rfl
theorem T_wire_TakeNumber_l : lapOf 0 (cOf (bodyOf Tryz.f101)) = some ((lapOf 0 (cOf (bodyOf Tryz.f101))).getD .skip) := by kernel_rfl

theorem T_wire_TakeNumber_s : ((quietSel (rOf (bodyOf Tryz.f101)) && quietSel (cOf (bodyOf Tryz.f101)) && quietSel ((lapOf 0 (cOf (bodyOf Tryz.f101))).getD .skip)) && (freshC 900001 ((lapOf 0 (cOf (bodyOf Tryz.f101))).getD .skip) && noExit 900001 ((lapOf 0 (cOf (bodyOf Tryz.f101))).getD .skip) && noExit 900002 ((lapOf 0 (cOf (bodyOf Tryz.f101))).getD .skip)) && Nat.ble 2 Tryz.f101.ntmps) = true := by kernel_rfl

theorem C_wire_TakeNumber {b1a : Option Addr} {b1l : Nat} {b1c : Nat} {at2 : Int} {w : World} {R : Ending → World → Prop} (h : T_wire_TakeNumber b1a b1l b1c at2 w R) : Calls Tryz.prog 101 #[.slice b1a b1l b1c, .int .i64 at2] w R :=
  calls_of_scope (args := [.slice b1a b1l b1c, .int .i64 at2]) mixed Tryz.func101 T_wire_TakeNumber_b T_wire_TakeNumber_f T_wire_TakeNumber_l T_wire_TakeNumber_s (HOk_of _ _ (show allP (hokL Tryz.prog (hookAt [(12, H_wire_TakeNumber_1), (15, H_wire_TakeNumber_2)]) (turnB 0 900001 900002 (bodyOf Tryz.f101)) 1) from by rw [T_wire_TakeNumber_hl]; exact ⟨T_wire_TakeNumber_1_ok, T_wire_TakeNumber_2_ok, trivial⟩)) (show vcCode Tryz.prog (hookAt [(12, H_wire_TakeNumber_1), (15, H_wire_TakeNumber_2)]) (turnB 0 900001 900002 (bodyOf Tryz.f101)) 1 ⟨argEnv [.slice b1a b1l b1c, .int .i64 at2] 0, Tryz.f101.ntmps, []⟩ w (finQ Tryz.prog Tryz.f101.results.toList R) from by rw [T_wire_TakeNumber_eq]; exact h)

/-! (*tollgate/conf.reader).take -/
def T_conf_reader_take_1 (r3 : Option Addr) (n4 : Int) (w : World) (Kn : Bool → World → Prop) (Kp : List PanicEntry → World → Prop) : Prop :=
  let w5 : World := w.drew
  ∃ a6, r3 = some a6 ∧ ∃ x7 : Int, rd w5 (a6.add 2) (.int .i64 x7) ∧ if ((x7 : Int) == 0) = true then (∃ a8, r3 = some a8 ∧ ∃ s9a : Option Addr, ∃ s9l : Nat, ∃ s9c : Nat, rd w5 a8 (.slice s9a s9l s9c) ∧ ∃ a10, r3 = some a10 ∧ ∃ x11 : Int, rd w5 (a10.add 1) (.int .i64 x11) ∧ Kn (decide ((IntKind.wrap .i64 (((s9l : Nat) : Int) - x11) : Int) < n4)) w5) else (Kn false w5)

def T_conf_reader_take_1_outs : Exit → Option (List (Nat × Value)) := fun x => match x with | .normal => some [(23, .bool false)] | .panic _ => some [] | _ => none

def T_conf_reader_take_1_ks : Nat → Bool := ksOf [5, 6, 7, 8, 9, 10, 11, 12, 13, 14, 15, 16, 17, 18, 19, 20, 21, 22, 23]

def H_conf_reader_take_1 : Env → World → QT → Prop := unitHook 55 T_conf_reader_take_1_ks [(0, .pointer none), (1, .int .i64 0)] T_conf_reader_take_1_outs fun l w C => match l with | [v0, v1] => T_conf_reader_take_1 (pPtr v0) (pInt v1) w (fun b13 w => C .normal [.bool b13] w) (fun ch w => C (.panic ch) [] w) | _ => False

theorem T_conf_reader_take_1_hl : allP (hokL Tryz.prog (hookAt []) (at_ (bodyOf Tryz.f102) [1, 0, 0]) 12) = (True) := by kernel_rfl
theorem T_conf_reader_take_1_hok : HOk Tryz.prog (hookAt []) (at_ (bodyOf Tryz.f102) [1, 0, 0]) 12 := HOk_of _ _ (by rw [T_conf_reader_take_1_hl]; exact trivial)

theorem T_conf_reader_take_1_eq (C : Conts) (r3 : Option Addr) (n4 : Int) (w : World) : vcCode Tryz.prog (hookAt []) (at_ (bodyOf Tryz.f102) [1, 0, 0]) 12 ⟨[(0, .pointer r3), (1, .int .i64 n4)], 55, []⟩ w (unitQ T_conf_reader_take_1_outs C) = T_conf_reader_take_1 r3 n4 w (fun b14 w => C .normal [.bool b14] w) (fun ch w => C (.panic ch) [] w) := by kernel_rfl

theorem T_conf_reader_take_1_ok : UnitOk Tryz.prog H_conf_reader_take_1 (at_ (bodyOf Tryz.f102) [1, 0, 0]) 12 := unit_ok (H := (hookAt [])) (by kernel_rfl) T_conf_reader_take_1_hok fun l w C hk => by
    obtain ⟨v0, l_v0, rfl, k_v0, hk_v0⟩ := Kinds.cons_ hk
    obtain ⟨r3, rfl⟩ := kind_pointer k_v0
    obtain ⟨v1, l_v1, rfl, k_v1, hk_v1⟩ := Kinds.cons_ hk_v0
    obtain ⟨n4, rfl⟩ := kind_int k_v1
    obtain rfl := Kinds.nil_ hk_v1
    exact T_conf_reader_take_1_eq C r3 n4 w

def T_conf_reader_take_2 (r17 : Option Addr) (b18 : Bool) (w : World) (Kn : World → Prop) (Kp : List PanicEntry → World → Prop) : Prop :=
  if b18 = true then (∃ a19, r17 = some a19 ∧ (.int .i64 3 : Value).cells.size = 1 ∧ wrOk w (a19.add 2) (.int .i64 3) ∧ let w20 : World := wr w (a19.add 2) (.int .i64 3)
  Kn  w20) else (Kn  w)

def T_conf_reader_take_2_outs : Exit → Option (List (Nat × Value)) := fun x => match x with | .normal => some [] | .panic _ => some [] | _ => none

def T_conf_reader_take_2_ks : Nat → Bool := ksOf [24, 25, 26]

def H_conf_reader_take_2 : Env → World → QT → Prop := unitHook 55 T_conf_reader_take_2_ks [(0, .pointer none), (23, .bool false)] T_conf_reader_take_2_outs fun l w C => match l with | [v0, v1] => T_conf_reader_take_2 (pPtr v0) (pBool v1) w (fun w => C .normal [] w) (fun ch w => C (.panic ch) [] w) | _ => False

theorem T_conf_reader_take_2_hl : allP (hokL Tryz.prog (hookAt []) (at_ (bodyOf Tryz.f102) [1, 0, 1]) 13) = (True) := by kernel_rfl
theorem T_conf_reader_take_2_hok : HOk Tryz.prog (hookAt []) (at_ (bodyOf Tryz.f102) [1, 0, 1]) 13 := HOk_of _ _ (by rw [T_conf_reader_take_2_hl]; exact trivial)

theorem T_conf_reader_take_2_eq (C : Conts) (r17 : Option Addr) (b18 : Bool) (w : World) : vcCode Tryz.prog (hookAt []) (at_ (bodyOf Tryz.f102) [1, 0, 1]) 13 ⟨[(0, .pointer r17), (23, .bool b18)], 55, []⟩ w (unitQ T_conf_reader_take_2_outs C) = T_conf_reader_take_2 r17 b18 w (fun w => C .normal [] w) (fun ch w => C (.panic ch) [] w) := by kernel_rfl

theorem T_conf_reader_take_2_ok : UnitOk Tryz.prog H_conf_reader_take_2 (at_ (bodyOf Tryz.f102) [1, 0, 1]) 13 := unit_ok (H := (hookAt [])) (by kernel_rfl) T_conf_reader_take_2_hok fun l w C hk => by
    obtain ⟨v0, l_v0, rfl, k_v0, hk_v0⟩ := Kinds.cons_ hk
    obtain ⟨r17, rfl⟩ := kind_pointer k_v0
    obtain ⟨v1, l_v1, rfl, k_v1, hk_v1⟩ := Kinds.cons_ hk_v0
    obtain ⟨b18, rfl⟩ := kind_bool k_v1
    obtain rfl := Kinds.nil_ hk_v1
    exact T_conf_reader_take_2_eq C r17 b18 w

def T_conf_reader_take (r1 : Option Addr) (n2 : Int) (w : World) (R : Ending → World → Prop) : Prop :=
  T_conf_reader_take_1 r1 n2 w (fun b15 w16 => T_conf_reader_take_2 r1 b15 w16 (fun w21 => ∃ a22, r1 = some a22 ∧ ∃ x23 : Int, rd w21 (a22.add 2) (.int .i64 x23) ∧ if ((x23 : Int) != 0) = true then (R (.returned (.slice none 0 0)) w21) else (∃ a24, r1 = some a24 ∧ ∃ x25 : Int, rd w21 (a24.add 1) (.int .i64 x25) ∧ ∃ a26, r1 = some a26 ∧ (.int .i64 (IntKind.wrap .i64 ((x25 : Int) + n2)) : Value).cells.size = 1 ∧ wrOk w21 (a26.add 1) (.int .i64 (IntKind.wrap .i64 ((x25 : Int) + n2))) ∧ let w27 : World := wr w21 (a26.add 1) (.int .i64 (IntKind.wrap .i64 ((x25 : Int) + n2)))
  let w28 : World := w27.drew
  ∃ a29, r1 = some a29 ∧ ∃ s30a : Option Addr, ∃ s30l : Nat, ∃ s30c : Nat, rd w28 a29 (.slice s30a s30l s30c) ∧ ∃ a31, r1 = some a31 ∧ ∃ x32 : Int, rd w28 (a31.add 1) (.int .i64 x32) ∧ ∃ a33, r1 = some a33 ∧ ∃ x34 : Int, rd w28 (a33.add 1) (.int .i64 x34) ∧ 0 ≤ (x34 : Int) ∧ (x34 : Int) ≤ ((s30c : Nat) : Int) ∧ 0 ≤ (IntKind.wrap .i64 ((x32 : Int) - n2) : Int) ∧ (IntKind.wrap .i64 ((x32 : Int) - n2) : Int) ≤ (((x34 : Int).toNat : Nat) : Int) ∧ R (.returned (.slice (if s30c = ((IntKind.wrap .i64 ((x32 : Int) - n2) : Int).toNat) then s30a else s30a.map (fun x => x.add (((IntKind.wrap .i64 ((x32 : Int) - n2) : Int).toNat) * 1))) (((x34 : Int).toNat) - ((IntKind.wrap .i64 ((x32 : Int) - n2) : Int).toNat)) (s30c - ((IntKind.wrap .i64 ((x32 : Int) - n2) : Int).toNat)))) w28)) (pan R)) (pan R)

theorem T_conf_reader_take_hl : allP (hokL Tryz.prog (hookAt [(12, H_conf_reader_take_1), (13, H_conf_reader_take_2)]) (bodyOf Tryz.f102) 1) = (UnitOk Tryz.prog H_conf_reader_take_1 (at_ (bodyOf Tryz.f102) [1, 0, 0]) 12 ∧ UnitOk Tryz.prog H_conf_reader_take_2 (at_ (bodyOf Tryz.f102) [1, 0, 1]) 13 ∧ True) := by kernel_rfl

theorem T_conf_reader_take_eq (r1 : Option Addr) (n2 : Int) (w : World) (R : Ending → World → Prop) : vcCode Tryz.prog (hookAt [(12, H_conf_reader_take_1), (13, H_conf_reader_take_2)]) (bodyOf Tryz.f102) 1 ⟨argEnv [.pointer r1, .int .i64 n2] 0, Tryz.f102.ntmps, []⟩ w (finQ Tryz.prog Tryz.f102.results.toList R) = T_conf_reader_take r1 n2 w R := by kernel_rfl

theorem T_conf_reader_take_b : Tryz.f102.body = some (bodyOf Tryz.f102) := by kernel_rfl
theorem T_conf_reader_take_s : (quietSel (bodyOf Tryz.f102) && Nat.ble 2 Tryz.f102.ntmps) = true := by kernel_rfl

theorem C_conf_reader_take {r1 : Option Addr} {n2 : Int} {w : World} {R : Ending → World → Prop} (h : T_conf_reader_take r1 n2 w R) : Calls Tryz.prog 102 #[.pointer r1, .int .i64 n2] w R :=
  calls_of_text (args := [.pointer r1, .int .i64 n2]) mixed Tryz.func102 T_conf_reader_take_b T_conf_reader_take_s (HOk_of _ _ (by rw [T_conf_reader_take_hl]; exact ⟨T_conf_reader_take_1_ok, T_conf_reader_take_2_ok, trivial⟩)) (by rw [T_conf_reader_take_eq]; exact h)

/-! (*tollgate/conf.reader).float -/
def T_conf_reader_float_1_body (X : Int → Int → World → Prop) (n5 : Int) (x6 : Int) (s7a : Option Addr) (s7l : Nat) (s7c : Nat) (x8 : Int) (w : World) (Kn : Int → World → Prop) (Kp : List PanicEntry → World → Prop)  : Prop :=
  if (decide ((x6 : Int) < x8)) = true then (0 ≤ (x6 : Int) ∧ (x6 : Int) < ((s7l : Nat) : Int) ∧ ∃ b9, s7a = some b9 ∧ ∃ x10 : Int, rd w (b9.add ((x6 : Int).toNat * 1)) (.int .u8 x10) ∧ X (IntKind.wrap .u64 ((BitVec.ofInt (IntKind.bits .u64) (IntKind.wrap .u64 ((n5 : Int) * 2 ^ 8))) ||| (BitVec.ofInt (IntKind.bits .u64) (IntKind.wrap .u64 x10))).toNat) (IntKind.wrap .i64 ((x6 : Int) + 1)) w) else (Kn n5 w)

def T_conf_reader_float_1 (n5 : Int) (x6 : Int) (s7a : Option Addr) (s7l : Nat) (s7c : Nat) (x8 : Int) (w : World) (Kn : Int → World → Prop) (Kp : List PanicEntry → World → Prop) : Prop :=
  ∀ X : Int → Int → World → Prop, (∀ (n5 : Int) (x6 : Int) (w : World), T_conf_reader_float_1_body X n5 x6 s7a s7l s7c x8 w Kn Kp → X n5 x6 w) → X n5 x6 w

def T_conf_reader_float_1_outs : Exit → Option (List (Nat × Value)) := fun x => match x with | .normal => some [(3, .int .u64 0)] | .panic _ => some [] | _ => none

def T_conf_reader_float_1_ks : Nat → Bool := ksOf [3, 5, 9, 10, 11, 12, 13, 14, 15, 16, 17, 18]

def H_conf_reader_float_1 : Env → World → QT → Prop := unitHook 21 T_conf_reader_float_1_ks [(3, .int .u64 0), (9, .int .i64 0), (7, .slice none 0 0), (8, .int .i64 0)] T_conf_reader_float_1_outs fun l w C => match l with | [v0, v1, v2, v3] => T_conf_reader_float_1 (pInt v0) (pInt v1) (pA v2) (pL v2) (pC v2) (pInt v3) w (fun n12 w => C .normal [.int .u64 n12] w) (fun ch w => C (.panic ch) [] w) | _ => False

theorem T_conf_reader_float_1_hl : allP (hokL Tryz.prog (hookAt []) (at_ (bodyOf Tryz.f103) [1, 1, 0, 1, 0, 0]) 116) = (True) := by kernel_rfl
theorem T_conf_reader_float_1_hok : HOk Tryz.prog (hookAt []) (at_ (bodyOf Tryz.f103) [1, 1, 0, 1, 0, 0]) 116 := HOk_of _ _ (by rw [T_conf_reader_float_1_hl]; exact trivial)

theorem T_conf_reader_float_1_eq (C : Conts) (X : List Value → World → Prop) (n5 : Int) (x6 : Int) (s7a : Option Addr) (s7l : Nat) (s7c : Nat) (x8 : Int) (w : World) : vcCode Tryz.prog (hookAt []) (at_ (bodyOf Tryz.f103) [1, 1, 0, 1, 0, 0]) 116 ⟨[(3, .int .u64 n5), (9, .int .i64 x6)] ++ [(7, .slice s7a s7l s7c), (8, .int .i64 x8)], 21, []⟩ w (seqQ (fun e w => takeAll e [(3, .int .u64 0), (9, .int .i64 0)] fun l => X l w) (blockQ 0 (unitQ T_conf_reader_float_1_outs C))) = T_conf_reader_float_1_body (fun n5 x6 w => X [.int .u64 n5, .int .i64 x6] w) n5 x6 s7a s7l s7c x8 w (fun n13 w => C .normal [.int .u64 n13] w) (fun ch w => C (.panic ch) [] w) := by kernel_rfl

theorem T_conf_reader_float_1_ok : UnitOk Tryz.prog H_conf_reader_float_1 (at_ (bodyOf Tryz.f103) [1, 1, 0, 1]) 29 := by
  have hc : at_ (bodyOf Tryz.f103) [1, 1, 0, 1] = .block 0 (.loop (at_ (bodyOf Tryz.f103) [1, 1, 0, 1, 0, 0])) := by kernel_rfl
  rw [hc]
  refine loop_unit_ok (carr := [(3, .int .u64 0), (9, .int .i64 0)]) (fix := [(7, .slice none 0 0), (8, .int .i64 0)]) (ks := T_conf_reader_float_1_ks) (H := (hookAt [])) (B := fun C X l u w => match l, u with | [v0, v1], [v2, v3] => T_conf_reader_float_1_body (fun n5 x6 w => X [.int .u64 n5, .int .i64 x6] w) (pInt v0) (pInt v1) (pA v2) (pL v2) (pC v2) (pInt v3) w (fun n14 w => C .normal [.int .u64 n14] w) (fun ch w => C (.panic ch) [] w) | _, _ => False) (by kernel_rfl) (by kernel_rfl) T_conf_reader_float_1_hok ?_ ?_
  · intro C X l u w hl hu
    obtain ⟨v0, l_v0, rfl, k_v0, hl_v0⟩ := Kinds.cons_ hl
    obtain ⟨n5, rfl⟩ := kind_int k_v0
    obtain ⟨v1, l_v1, rfl, k_v1, hl_v1⟩ := Kinds.cons_ hl_v0
    obtain ⟨x6, rfl⟩ := kind_int k_v1
    obtain rfl := Kinds.nil_ hl_v1
    obtain ⟨v2, l_v2, rfl, k_v2, hu_v2⟩ := Kinds.cons_ hu
    obtain ⟨s7a, s7l, s7c, rfl⟩ := kind_slice k_v2
    obtain ⟨v3, l_v3, rfl, k_v3, hu_v3⟩ := Kinds.cons_ hu_v2
    obtain ⟨x8, rfl⟩ := kind_int k_v3
    obtain rfl := Kinds.nil_ hu_v3
    exact T_conf_reader_float_1_eq C X n5 x6 s7a s7l s7c x8 w
  · intro l u w C hl hu
    obtain ⟨v0, l_v0, rfl, k_v0, hl_v0⟩ := Kinds.cons_ hl
    obtain ⟨n5, rfl⟩ := kind_int k_v0
    obtain ⟨v1, l_v1, rfl, k_v1, hl_v1⟩ := Kinds.cons_ hl_v0
    obtain ⟨x6, rfl⟩ := kind_int k_v1
    obtain rfl := Kinds.nil_ hl_v1
    obtain ⟨v2, l_v2, rfl, k_v2, hu_v2⟩ := Kinds.cons_ hu
    obtain ⟨s7a, s7l, s7c, rfl⟩ := kind_slice k_v2
    obtain ⟨v3, l_v3, rfl, k_v3, hu_v3⟩ := Kinds.cons_ hu_v2
    obtain ⟨x8, rfl⟩ := kind_int k_v3
    obtain rfl := Kinds.nil_ hu_v3
    constructor
    · intro h X hX
      exact h (fun n5 x6 w => X [.int .u64 n5, .int .i64 x6] w) (fun n5 x6 w hb => hX [.int .u64 n5, .int .i64 x6] w ⟨rfl, rfl, trivial⟩ hb)
    · intro h X hX
      exact h (fun l w => match l with | [v0, v1] => X (pInt v0) (pInt v1) w | _ => True) (fun l w hl hb => by
        obtain ⟨v0, l_v0, rfl, k_v0, hl_v0⟩ := Kinds.cons_ hl
        obtain ⟨n5, rfl⟩ := kind_int k_v0
        obtain ⟨v1, l_v1, rfl, k_v1, hl_v1⟩ := Kinds.cons_ hl_v0
        obtain ⟨x6, rfl⟩ := kind_int k_v1
        obtain rfl := Kinds.nil_ hl_v1
        exact hX n5 x6 w hb)

def T_conf_reader_float (r1 : Option Addr) (w : World) (R : Ending → World → Prop) : Prop :=
  Calls Tryz.prog 102 #[.pointer r1, .int .i64 8] w (ret (fun r2 w3 => ∃ s4a : Option Addr, ∃ s4l : Nat, ∃ s4c : Nat, r2 = .slice s4a s4l s4c ∧ T_conf_reader_float_1 0 0 s4a s4l s4c ((s4l : Nat) : Int) w3 (fun n15 w16 => runV Tryz.prog (callFunc 106 #[.int .u64 n15]) w16 (nxv (fun r17 w18 => ∃ f19 : Nat, r17 = .float .f64 f19 ∧ R (.returned (.float .f64 f19)) w18)) (pan R)) (pan R)) (pan R))

theorem T_conf_reader_float_hl : allP (hokL Tryz.prog (hookAt [(29, H_conf_reader_float_1)]) (bodyOf Tryz.f103) 1) = (UnitOk Tryz.prog H_conf_reader_float_1 (at_ (bodyOf Tryz.f103) [1, 1, 0, 1]) 29 ∧ True) := by kernel_rfl

theorem T_conf_reader_float_eq (r1 : Option Addr) (w : World) (R : Ending → World → Prop) : vcCode Tryz.prog (hookAt [(29, H_conf_reader_float_1)]) (bodyOf Tryz.f103) 1 ⟨argEnv [.pointer r1] 0, Tryz.f103.ntmps, []⟩ w (finQ Tryz.prog Tryz.f103.results.toList R) = T_conf_reader_float r1 w R := by kernel_rfl

theorem T_conf_reader_float_b : Tryz.f103.body = some (bodyOf Tryz.f103) := by kernel_rfl
theorem T_conf_reader_float_s : (quietSel (bodyOf Tryz.f103) && Nat.ble 1 Tryz.f103.ntmps) = true := by kernel_rfl

theorem C_conf_reader_float {r1 : Option Addr} {w : World} {R : Ending → World → Prop} (h : T_conf_reader_float r1 w R) : Calls Tryz.prog 103 #[.pointer r1] w R :=
  calls_of_text (args := [.pointer r1]) mixed Tryz.func103 T_conf_reader_float_b T_conf_reader_float_s (HOk_of _ _ (by rw [T_conf_reader_float_hl]; exact ⟨T_conf_reader_float_1_ok, trivial⟩)) (by rw [T_conf_reader_float_eq]; exact h)

/-! tollgate/tollgateref02.TakeNumber -/
def T_ref02_TakeNumber_1 (b3a : Option Addr) (b3l : Nat) (b3c : Nat) (at4 : Int) (w : World) (Kn : Bool → World → Prop) (Kp : List PanicEntry → World → Prop) : Prop :=
  if (decide ((at4 : Int) < 0)) = true then (Kn true w) else (Kn (decide ((at4 : Int) > ((b3l : Nat) : Int))) w)

def T_ref02_TakeNumber_1_outs : Exit → Option (List (Nat × Value)) := fun x => match x with | .normal => some [(18, .bool false)] | .panic _ => some [] | _ => none

def T_ref02_TakeNumber_1_ks : Nat → Bool := ksOf [11, 12, 13, 14, 15, 16, 17, 18]

def H_ref02_TakeNumber_1 : Env → World → QT → Prop := unitHook 59 T_ref02_TakeNumber_1_ks [(0, .slice none 0 0), (1, .int .i64 0)] T_ref02_TakeNumber_1_outs fun l w C => match l with | [v0, v1] => T_ref02_TakeNumber_1 (pA v0) (pL v0) (pC v0) (pInt v1) w (fun b6 w => C .normal [.bool b6] w) (fun ch w => C (.panic ch) [] w) | _ => False

theorem T_ref02_TakeNumber_1_hl : allP (hokL Tryz.prog (hookAt []) (at_ (bodyOf Tryz.f104) [1, 0, 0]) 12) = (True) := by kernel_rfl
theorem T_ref02_TakeNumber_1_hok : HOk Tryz.prog (hookAt []) (at_ (bodyOf Tryz.f104) [1, 0, 0]) 12 := HOk_of _ _ (by rw [T_ref02_TakeNumber_1_hl]; exact trivial)

theorem T_ref02_TakeNumber_1_eq (C : Conts) (b3a : Option Addr) (b3l : Nat) (b3c : Nat) (at4 : Int) (w : World) : vcCode Tryz.prog (hookAt []) (at_ (bodyOf Tryz.f104) [1, 0, 0]) 12 ⟨[(0, .slice b3a b3l b3c), (1, .int .i64 at4)], 59, []⟩ w (unitQ T_ref02_TakeNumber_1_outs C) = T_ref02_TakeNumber_1 b3a b3l b3c at4 w (fun b7 w => C .normal [.bool b7] w) (fun ch w => C (.panic ch) [] w) := by kernel_rfl

theorem T_ref02_TakeNumber_1_ok : UnitOk Tryz.prog H_ref02_TakeNumber_1 (at_ (bodyOf Tryz.f104) [1, 0, 0]) 12 := unit_ok (H := (hookAt [])) (by kernel_rfl) T_ref02_TakeNumber_1_hok fun l w C hk => by
    obtain ⟨v0, l_v0, rfl, k_v0, hk_v0⟩ := Kinds.cons_ hk
    obtain ⟨b3a, b3l, b3c, rfl⟩ := kind_slice k_v0
    obtain ⟨v1, l_v1, rfl, k_v1, hk_v1⟩ := Kinds.cons_ hk_v0
    obtain ⟨at4, rfl⟩ := kind_int k_v1
    obtain rfl := Kinds.nil_ hk_v1
    exact T_ref02_TakeNumber_1_eq C b3a b3l b3c at4 w

def T_ref02_TakeNumber_3 (k17 : Int) (c18 : Int) (w : World) (Kn : Bool → World → Prop) (Kp : List PanicEntry → World → Prop) : Prop :=
  if ((c18 : Int) == 0) = true then (Kn (decide ((k17 : Int) > 0)) w) else (Kn false w)

def T_ref02_TakeNumber_3_outs : Exit → Option (List (Nat × Value)) := fun x => match x with | .normal => some [(51, .bool false)] | .panic _ => some [] | _ => none

def T_ref02_TakeNumber_3_ks : Nat → Bool := ksOf [46, 47, 48, 49, 50, 51]

def H_ref02_TakeNumber_3 : Env → World → QT → Prop := unitHook 59 T_ref02_TakeNumber_3_ks [(9, .int .i64 0), (10, .int .i64 0)] T_ref02_TakeNumber_3_outs fun l w C => match l with | [v0, v1] => T_ref02_TakeNumber_3 (pInt v0) (pInt v1) w (fun b20 w => C .normal [.bool b20] w) (fun ch w => C (.panic ch) [] w) | _ => False

theorem T_ref02_TakeNumber_3_hl : allP (hokL Tryz.prog (hookAt []) (at_ (bodyOf Tryz.f104) [1, 1, 1, 1, 0, 1, 0, 0, 1, 0, 0, 1, 1, 1, 1, 1, 0, 0, 0]) 1025272) = (True) := by kernel_rfl
theorem T_ref02_TakeNumber_3_hok : HOk Tryz.prog (hookAt []) (at_ (bodyOf Tryz.f104) [1, 1, 1, 1, 0, 1, 0, 0, 1, 0, 0, 1, 1, 1, 1, 1, 0, 0, 0]) 1025272 := HOk_of _ _ (by rw [T_ref02_TakeNumber_3_hl]; exact trivial)

theorem T_ref02_TakeNumber_3_eq (C : Conts) (k17 : Int) (c18 : Int) (w : World) : vcCode Tryz.prog (hookAt []) (at_ (bodyOf Tryz.f104) [1, 1, 1, 1, 0, 1, 0, 0, 1, 0, 0, 1, 1, 1, 1, 1, 0, 0, 0]) 1025272 ⟨[(9, .int .i64 k17), (10, .int .i64 c18)], 59, []⟩ w (unitQ T_ref02_TakeNumber_3_outs C) = T_ref02_TakeNumber_3 k17 c18 w (fun b21 w => C .normal [.bool b21] w) (fun ch w => C (.panic ch) [] w) := by kernel_rfl

theorem T_ref02_TakeNumber_3_ok : UnitOk Tryz.prog H_ref02_TakeNumber_3 (at_ (bodyOf Tryz.f104) [1, 1, 1, 1, 0, 1, 0, 0, 1, 0, 0, 1, 1, 1, 1, 1, 0, 0, 0]) 1025272 := unit_ok (H := (hookAt [])) (by kernel_rfl) T_ref02_TakeNumber_3_hok fun l w C hk => by
    obtain ⟨v0, l_v0, rfl, k_v0, hk_v0⟩ := Kinds.cons_ hk
    obtain ⟨k17, rfl⟩ := kind_int k_v0
    obtain ⟨v1, l_v1, rfl, k_v1, hk_v1⟩ := Kinds.cons_ hk_v0
    obtain ⟨c18, rfl⟩ := kind_int k_v1
    obtain rfl := Kinds.nil_ hk_v1
    exact T_ref02_TakeNumber_3_eq C k17 c18 w

def T_ref02_TakeNumber_2_body (X : Int → Int → Int → World → Prop) (n10 : Int) (unit11 : Int) (k12 : Int) (b13a : Option Addr) (b13l : Nat) (b13c : Nat) (at14 : Int) (w : World) (Kn : World → Prop) (Kr : Int → Int → Int → World → Prop) (Kp : List PanicEntry → World → Prop)  : Prop :=
  if (decide ((k12 : Int) < 6)) = true then (if (decide ((IntKind.wrap .i64 ((at14 : Int) + k12) : Int) ≥ ((b13l : Nat) : Int))) = true then (Kr 0 0 3 w) else (0 ≤ (IntKind.wrap .i64 ((at14 : Int) + k12) : Int) ∧ (IntKind.wrap .i64 ((at14 : Int) + k12) : Int) < ((b13l : Nat) : Int) ∧ ∃ b15, b13a = some b15 ∧ ∃ x16 : Int, rd w (b15.add ((IntKind.wrap .i64 ((at14 : Int) + k12) : Int).toNat * 1)) (.int .u8 x16) ∧ if (decide ((IntKind.wrap .i64 x16 : Int) < 128)) = true then (T_ref02_TakeNumber_3 k12 (IntKind.wrap .i64 x16) w (fun b22 w23 => if b22 = true then (Kr 0 0 4 w23) else (if (decide ((IntKind.wrap .i64 ((n10 : Int) + (IntKind.wrap .i64 ((Int.tmod (IntKind.wrap .i64 x16) 128 : Int) * unit11))) : Int) > 1099511627776)) = true then (Kr 0 0 6 w23) else (Kr (IntKind.wrap .i64 ((n10 : Int) + (IntKind.wrap .i64 ((Int.tmod (IntKind.wrap .i64 x16) 128 : Int) * unit11)))) (IntKind.wrap .i64 ((IntKind.wrap .i64 ((at14 : Int) + k12) : Int) + 1)) 0 w23))) Kp) else (X (IntKind.wrap .i64 ((n10 : Int) + (IntKind.wrap .i64 ((Int.tmod (IntKind.wrap .i64 x16) 128 : Int) * unit11)))) (IntKind.wrap .i64 ((unit11 : Int) * 128)) (IntKind.wrap .i64 ((k12 : Int) + 1)) w))) else (Kn  w)

def T_ref02_TakeNumber_2 (n10 : Int) (unit11 : Int) (k12 : Int) (b13a : Option Addr) (b13l : Nat) (b13c : Nat) (at14 : Int) (w : World) (Kn : World → Prop) (Kr : Int → Int → Int → World → Prop) (Kp : List PanicEntry → World → Prop) : Prop :=
  ∀ X : Int → Int → Int → World → Prop, (∀ (n10 : Int) (unit11 : Int) (k12 : Int) (w : World), T_ref02_TakeNumber_2_body X n10 unit11 k12 b13a b13l b13c at14 w Kn Kr Kp → X n10 unit11 k12 w) → X n10 unit11 k12 w

def T_ref02_TakeNumber_2_outs : Exit → Option (List (Nat × Value)) := fun x => match x with | .normal => some [] | .ret => some [(4, .int .i64 0), (5, .int .i64 0), (6, .int .i64 0)] | .panic _ => some [] | _ => none

def T_ref02_TakeNumber_2_ks : Nat → Bool := ksOf [4, 5, 6, 7, 8, 9, 10, 19, 20, 21, 22, 23, 24, 25, 26, 27, 28, 29, 30, 31, 32, 33, 34, 35, 36, 37, 38, 39, 40, 41, 42, 43, 44, 45, 46, 47, 48, 49, 50, 51, 52, 53, 54, 55, 56, 57, 58]

def H_ref02_TakeNumber_2 : Env → World → QT → Prop := unitHook 59 T_ref02_TakeNumber_2_ks [(7, .int .i64 0), (8, .int .i64 0), (9, .int .i64 0), (0, .slice none 0 0), (1, .int .i64 0)] T_ref02_TakeNumber_2_outs fun l w C => match l with | [v0, v1, v2, v3, v4] => T_ref02_TakeNumber_2 (pInt v0) (pInt v1) (pInt v2) (pA v3) (pL v3) (pC v3) (pInt v4) w (fun w => C .normal [] w) (fun x27 x28 x29 w => C .ret [.int .i64 x27, .int .i64 x28, .int .i64 x29] w) (fun ch w => C (.panic ch) [] w) | _ => False

theorem T_ref02_TakeNumber_2_hl : allP (hokL Tryz.prog (hookAt [(1025272, H_ref02_TakeNumber_3)]) (at_ (bodyOf Tryz.f104) [1, 1, 1, 1, 0, 1, 0, 0]) 500) = (UnitOk Tryz.prog H_ref02_TakeNumber_3 (at_ (bodyOf Tryz.f104) [1, 1, 1, 1, 0, 1, 0, 0, 1, 0, 0, 1, 1, 1, 1, 1, 0, 0, 0]) 1025272 ∧ True) := by kernel_rfl
theorem T_ref02_TakeNumber_2_hok : HOk Tryz.prog (hookAt [(1025272, H_ref02_TakeNumber_3)]) (at_ (bodyOf Tryz.f104) [1, 1, 1, 1, 0, 1, 0, 0]) 500 := HOk_of _ _ (by rw [T_ref02_TakeNumber_2_hl]; exact ⟨T_ref02_TakeNumber_3_ok, trivial⟩)

theorem T_ref02_TakeNumber_2_eq (C : Conts) (X : List Value → World → Prop) (n10 : Int) (unit11 : Int) (k12 : Int) (b13a : Option Addr) (b13l : Nat) (b13c : Nat) (at14 : Int) (w : World) : vcCode Tryz.prog (hookAt [(1025272, H_ref02_TakeNumber_3)]) (at_ (bodyOf Tryz.f104) [1, 1, 1, 1, 0, 1, 0, 0]) 500 ⟨[(7, .int .i64 n10), (8, .int .i64 unit11), (9, .int .i64 k12)] ++ [(0, .slice b13a b13l b13c), (1, .int .i64 at14)], 59, []⟩ w (seqQ (fun e w => takeAll e [(7, .int .i64 0), (8, .int .i64 0), (9, .int .i64 0)] fun l => X l w) (blockQ 0 (unitQ T_ref02_TakeNumber_2_outs C))) = T_ref02_TakeNumber_2_body (fun n10 unit11 k12 w => X [.int .i64 n10, .int .i64 unit11, .int .i64 k12] w) n10 unit11 k12 b13a b13l b13c at14 w (fun w => C .normal [] w) (fun x30 x31 x32 w => C .ret [.int .i64 x30, .int .i64 x31, .int .i64 x32] w) (fun ch w => C (.panic ch) [] w) := by kernel_rfl

theorem T_ref02_TakeNumber_2_ok : UnitOk Tryz.prog H_ref02_TakeNumber_2 (at_ (bodyOf Tryz.f104) [1, 1, 1, 1, 0, 1]) 125 := by
  have hc : at_ (bodyOf Tryz.f104) [1, 1, 1, 1, 0, 1] = .block 0 (.loop (at_ (bodyOf Tryz.f104) [1, 1, 1, 1, 0, 1, 0, 0])) := by kernel_rfl
  rw [hc]
  refine loop_unit_ok (carr := [(7, .int .i64 0), (8, .int .i64 0), (9, .int .i64 0)]) (fix := [(0, .slice none 0 0), (1, .int .i64 0)]) (ks := T_ref02_TakeNumber_2_ks) (H := (hookAt [(1025272, H_ref02_TakeNumber_3)])) (B := fun C X l u w => match l, u with | [v0, v1, v2], [v3, v4] => T_ref02_TakeNumber_2_body (fun n10 unit11 k12 w => X [.int .i64 n10, .int .i64 unit11, .int .i64 k12] w) (pInt v0) (pInt v1) (pInt v2) (pA v3) (pL v3) (pC v3) (pInt v4) w (fun w => C .normal [] w) (fun x33 x34 x35 w => C .ret [.int .i64 x33, .int .i64 x34, .int .i64 x35] w) (fun ch w => C (.panic ch) [] w) | _, _ => False) (by kernel_rfl) (by kernel_rfl) T_ref02_TakeNumber_2_hok ?_ ?_
  · intro C X l u w hl hu
    obtain ⟨v0, l_v0, rfl, k_v0, hl_v0⟩ := Kinds.cons_ hl
    obtain ⟨n10, rfl⟩ := kind_int k_v0
    obtain ⟨v1, l_v1, rfl, k_v1, hl_v1⟩ := Kinds.cons_ hl_v0
    obtain ⟨unit11, rfl⟩ := kind_int k_v1
    obtain ⟨v2, l_v2, rfl, k_v2, hl_v2⟩ := Kinds.cons_ hl_v1
    obtain ⟨k12, rfl⟩ := kind_int k_v2
    obtain rfl := Kinds.nil_ hl_v2
    obtain ⟨v3, l_v3, rfl, k_v3, hu_v3⟩ := Kinds.cons_ hu
    obtain ⟨b13a, b13l, b13c, rfl⟩ := kind_slice k_v3
    obtain ⟨v4, l_v4, rfl, k_v4, hu_v4⟩ := Kinds.cons_ hu_v3
    obtain ⟨at14, rfl⟩ := kind_int k_v4
    obtain rfl := Kinds.nil_ hu_v4
    exact T_ref02_TakeNumber_2_eq C X n10 unit11 k12 b13a b13l b13c at14 w
  · intro l u w C hl hu
    obtain ⟨v0, l_v0, rfl, k_v0, hl_v0⟩ := Kinds.cons_ hl
    obtain ⟨n10, rfl⟩ := kind_int k_v0
    obtain ⟨v1, l_v1, rfl, k_v1, hl_v1⟩ := Kinds.cons_ hl_v0
    obtain ⟨unit11, rfl⟩ := kind_int k_v1
    obtain ⟨v2, l_v2, rfl, k_v2, hl_v2⟩ := Kinds.cons_ hl_v1
    obtain ⟨k12, rfl⟩ := kind_int k_v2
    obtain rfl := Kinds.nil_ hl_v2
    obtain ⟨v3, l_v3, rfl, k_v3, hu_v3⟩ := Kinds.cons_ hu
    obtain ⟨b13a, b13l, b13c, rfl⟩ := kind_slice k_v3
    obtain ⟨v4, l_v4, rfl, k_v4, hu_v4⟩ := Kinds.cons_ hu_v3
    obtain ⟨at14, rfl⟩ := kind_int k_v4
    obtain rfl := Kinds.nil_ hu_v4
    constructor
    · intro h X hX
      exact h (fun n10 unit11 k12 w => X [.int .i64 n10, .int .i64 unit11, .int .i64 k12] w) (fun n10 unit11 k12 w hb => hX [.int .i64 n10, .int .i64 unit11, .int .i64 k12] w ⟨rfl, rfl, rfl, trivial⟩ hb)
    · intro h X hX
      exact h (fun l w => match l with | [v0, v1, v2] => X (pInt v0) (pInt v1) (pInt v2) w | _ => True) (fun l w hl hb => by
        obtain ⟨v0, l_v0, rfl, k_v0, hl_v0⟩ := Kinds.cons_ hl
        obtain ⟨n10, rfl⟩ := kind_int k_v0
        obtain ⟨v1, l_v1, rfl, k_v1, hl_v1⟩ := Kinds.cons_ hl_v0
        obtain ⟨unit11, rfl⟩ := kind_int k_v1
        obtain ⟨v2, l_v2, rfl, k_v2, hl_v2⟩ := Kinds.cons_ hl_v1
        obtain ⟨k12, rfl⟩ := kind_int k_v2
        obtain rfl := Kinds.nil_ hl_v2
        exact hX n10 unit11 k12 w hb)

def T_ref02_TakeNumber (b1a : Option Addr) (b1l : Nat) (b1c : Nat) (at2 : Int) (w : World) (R : Ending → World → Prop) : Prop :=
  T_ref02_TakeNumber_1 b1a b1l b1c at2 w (fun b8 w9 => if b8 = true then (R (.returned (.tuple #[.int .i64 0, .int .i64 0, .int .i64 2])) w9) else (T_ref02_TakeNumber_2 0 1 0 b1a b1l b1c at2 w9 (fun w36 => R (.returned (.tuple #[.int .i64 0, .int .i64 0, .int .i64 6])) w36) (fun x37 x38 x39 w40 => R (.returned (.tuple #[.int .i64 x37, .int .i64 x38, .int .i64 x39])) w40) (pan R))) (pan R)

theorem T_ref02_TakeNumber_hl : allP (hokL Tryz.prog (hookAt [(12, H_ref02_TakeNumber_1), (125, H_ref02_TakeNumber_2)]) (bodyOf Tryz.f104) 1) = (UnitOk Tryz.prog H_ref02_TakeNumber_1 (at_ (bodyOf Tryz.f104) [1, 0, 0]) 12 ∧ UnitOk Tryz.prog H_ref02_TakeNumber_2 (at_ (bodyOf Tryz.f104) [1, 1, 1, 1, 0, 1]) 125 ∧ True) := by kernel_rfl

theorem T_ref02_TakeNumber_eq (b1a : Option Addr) (b1l : Nat) (b1c : Nat) (at2 : Int) (w : World) (R : Ending → World → Prop) : vcCode Tryz.prog (hookAt [(12, H_ref02_TakeNumber_1), (125, H_ref02_TakeNumber_2)]) (bodyOf Tryz.f104) 1 ⟨argEnv [.slice b1a b1l b1c, .int .i64 at2] 0, Tryz.f104.ntmps, []⟩ w (finQ Tryz.prog Tryz.f104.results.toList R) = T_ref02_TakeNumber b1a b1l b1c at2 w R := by kernel_rfl

theorem T_ref02_TakeNumber_b : Tryz.f104.body = some (bodyOf Tryz.f104) := by kernel_rfl
theorem T_ref02_TakeNumber_s : (quietSel (bodyOf Tryz.f104) && Nat.ble 2 Tryz.f104.ntmps) = true := by kernel_rfl

theorem C_ref02_TakeNumber {b1a : Option Addr} {b1l : Nat} {b1c : Nat} {at2 : Int} {w : World} {R : Ending → World → Prop} (h : T_ref02_TakeNumber b1a b1l b1c at2 w R) : Calls Tryz.prog 104 #[.slice b1a b1l b1c, .int .i64 at2] w R :=
  calls_of_text (args := [.slice b1a b1l b1c, .int .i64 at2]) mixed Tryz.func104 T_ref02_TakeNumber_b T_ref02_TakeNumber_s (HOk_of _ _ (by rw [T_ref02_TakeNumber_hl]; exact ⟨T_ref02_TakeNumber_1_ok, T_ref02_TakeNumber_2_ok, trivial⟩)) (by rw [T_ref02_TakeNumber_eq]; exact h)

/-! (*tollgate/tollgateref08.scan).row -/
def T_ref08_scan_row (s1 : Option Addr) (n2 : Int) (w : World) (R : Ending → World → Prop) : Prop :=
  ∃ a3, s1 = some a3 ∧ ∃ x4 : Int, rd w (a3.add 2) (.int .i64 x4) ∧ if ((x4 : Int) != 0) = true then (R (.returned (.slice none 0 0)) w) else (let w5 : World := w.drew
  ∃ a6, s1 = some a6 ∧ ∃ s7a : Option Addr, ∃ s7l : Nat, ∃ s7c : Nat, rd w5 a6 (.slice s7a s7l s7c) ∧ ∃ a8, s1 = some a8 ∧ ∃ x9 : Int, rd w5 (a8.add 1) (.int .i64 x9) ∧ if (decide ((IntKind.wrap .i64 (((s7l : Nat) : Int) - x9) : Int) < n2)) = true then (∃ a10, s1 = some a10 ∧ (.int .i64 3 : Value).cells.size = 1 ∧ wrOk w5 (a10.add 2) (.int .i64 3) ∧ let w11 : World := wr w5 (a10.add 2) (.int .i64 3)
  R (.returned (.slice none 0 0)) w11) else (let w12 : World := w5.drew
  ∃ a13, s1 = some a13 ∧ ∃ s14a : Option Addr, ∃ s14l : Nat, ∃ s14c : Nat, rd w12 a13 (.slice s14a s14l s14c) ∧ ∃ a15, s1 = some a15 ∧ ∃ x16 : Int, rd w12 (a15.add 1) (.int .i64 x16) ∧ ∃ a17, s1 = some a17 ∧ ∃ x18 : Int, rd w12 (a17.add 1) (.int .i64 x18) ∧ 0 ≤ (IntKind.wrap .i64 ((x18 : Int) + n2) : Int) ∧ (IntKind.wrap .i64 ((x18 : Int) + n2) : Int) ≤ ((s14c : Nat) : Int) ∧ 0 ≤ (x16 : Int) ∧ (x16 : Int) ≤ (((IntKind.wrap .i64 ((x18 : Int) + n2) : Int).toNat : Nat) : Int) ∧ ∃ a19, s1 = some a19 ∧ ∃ x20 : Int, rd w12 (a19.add 1) (.int .i64 x20) ∧ ∃ a21, s1 = some a21 ∧ (.int .i64 (IntKind.wrap .i64 ((x20 : Int) + n2)) : Value).cells.size = 1 ∧ wrOk w12 (a21.add 1) (.int .i64 (IntKind.wrap .i64 ((x20 : Int) + n2))) ∧ let w22 : World := wr w12 (a21.add 1) (.int .i64 (IntKind.wrap .i64 ((x20 : Int) + n2)))
  R (.returned (.slice (if s14c = ((x16 : Int).toNat) then s14a else s14a.map (fun x => x.add (((x16 : Int).toNat) * 1))) (((IntKind.wrap .i64 ((x18 : Int) + n2) : Int).toNat) - ((x16 : Int).toNat)) (s14c - ((x16 : Int).toNat)))) w22))

theorem T_ref08_scan_row_hl : allP (hokL Tryz.prog (hookAt []) (bodyOf Tryz.f105) 1) = (True) := by kernel_rfl

theorem T_ref08_scan_row_eq (s1 : Option Addr) (n2 : Int) (w : World) (R : Ending → World → Prop) : vcCode Tryz.prog (hookAt []) (bodyOf Tryz.f105) 1 ⟨argEnv [.pointer s1, .int .i64 n2] 0, Tryz.f105.ntmps, []⟩ w (finQ Tryz.prog Tryz.f105.results.toList R) = T_ref08_scan_row s1 n2 w R := by kernel_rfl

theorem T_ref08_scan_row_b : Tryz.f105.body = some (bodyOf Tryz.f105) := by kernel_rfl
theorem T_ref08_scan_row_s : (quietSel (bodyOf Tryz.f105) && Nat.ble 2 Tryz.f105.ntmps) = true := by kernel_rfl

theorem C_ref08_scan_row {s1 : Option Addr} {n2 : Int} {w : World} {R : Ending → World → Prop} (h : T_ref08_scan_row s1 n2 w R) : Calls Tryz.prog 105 #[.pointer s1, .int .i64 n2] w R :=
  calls_of_text (args := [.pointer s1, .int .i64 n2]) mixed Tryz.func105 T_ref08_scan_row_b T_ref08_scan_row_s (HOk_of _ _ (by rw [T_ref08_scan_row_hl]; exact trivial)) (by rw [T_ref08_scan_row_eq]; exact h)

/-! tollgate/wire.number -/
def T_wire_number_1_body (X : Option Addr → Nat → Nat → Int → World → Prop) (b3a : Option Addr) (b3l : Nat) (b3c : Nat) (n4 : Int) (w : World) (Kn : Option Addr → Nat → Nat → Int → World → Prop) (Kp : List PanicEntry → World → Prop)  : Prop :=
  if (decide ((n4 : Int) ≥ 128)) = true then (let w5 : World := w.alloc (.cells #[.int .u8 (IntKind.wrap .u8 (IntKind.wrap .i64 ((BitVec.ofInt (IntKind.bits .i64) (IntKind.wrap .i64 ((BitVec.ofInt (IntKind.bits .i64) n4) &&& (BitVec.ofInt (IntKind.bits .i64) 127)).toNat)) ||| (BitVec.ofInt (IntKind.bits .i64) 128)).toNat))] 5)
  runV Tryz.prog (Builtin.append_ #[56, 56] 56 #[.slice b3a b3l b3c, .slice (some (⟨w.heap.size, 0, none⟩ : Addr)) 1 1]) w5 (fun r6 w7 => ∃ s8a : Option Addr, ∃ s8l : Nat, ∃ s8c : Nat, r6 = .slice s8a s8l s8c ∧ X s8a s8l s8c (Int.fdiv n4 (2 ^ 7)) w7) Kp) else (Kn b3a b3l b3c n4 w)

def T_wire_number_1 (b3a : Option Addr) (b3l : Nat) (b3c : Nat) (n4 : Int) (w : World) (Kn : Option Addr → Nat → Nat → Int → World → Prop) (Kp : List PanicEntry → World → Prop) : Prop :=
  ∀ X : Option Addr → Nat → Nat → Int → World → Prop, (∀ (b3a : Option Addr) (b3l : Nat) (b3c : Nat) (n4 : Int) (w : World), T_wire_number_1_body X b3a b3l b3c n4 w Kn Kp → X b3a b3l b3c n4 w) → X b3a b3l b3c n4 w

def T_wire_number_1_outs : Exit → Option (List (Nat × Value)) := fun x => match x with | .normal => some [(0, .slice none 0 0), (1, .int .i64 0)] | .panic _ => some [] | _ => none

def T_wire_number_1_ks : Nat → Bool := ksOf [0, 1, 5, 6, 7, 8, 9, 10, 11, 12, 13, 14, 15]

def H_wire_number_1 : Env → World → QT → Prop := unitHook 21 T_wire_number_1_ks [(0, .slice none 0 0), (1, .int .i64 0)] T_wire_number_1_outs fun l w C => match l with | [v0, v1] => T_wire_number_1 (pA v0) (pL v0) (pC v0) (pInt v1) w (fun b11a b11l b11c n12 w => C .normal [.slice b11a b11l b11c, .int .i64 n12] w) (fun ch w => C (.panic ch) [] w) | _ => False

theorem T_wire_number_1_hl : allP (hokL Tryz.prog (hookAt []) (at_ (bodyOf Tryz.f118) [1, 0, 0, 0]) 24) = (True) := by kernel_rfl
theorem T_wire_number_1_hok : HOk Tryz.prog (hookAt []) (at_ (bodyOf Tryz.f118) [1, 0, 0, 0]) 24 := HOk_of _ _ (by rw [T_wire_number_1_hl]; exact trivial)

theorem T_wire_number_1_eq (C : Conts) (X : List Value → World → Prop) (b3a : Option Addr) (b3l : Nat) (b3c : Nat) (n4 : Int) (w : World) : vcCode Tryz.prog (hookAt []) (at_ (bodyOf Tryz.f118) [1, 0, 0, 0]) 24 ⟨[(0, .slice b3a b3l b3c), (1, .int .i64 n4)] ++ [], 21, []⟩ w (seqQ (fun e w => takeAll e [(0, .slice none 0 0), (1, .int .i64 0)] fun l => X l w) (blockQ 0 (unitQ T_wire_number_1_outs C))) = T_wire_number_1_body (fun b3a b3l b3c n4 w => X [.slice b3a b3l b3c, .int .i64 n4] w) b3a b3l b3c n4 w (fun b13a b13l b13c n14 w => C .normal [.slice b13a b13l b13c, .int .i64 n14] w) (fun ch w => C (.panic ch) [] w) := by kernel_rfl

theorem T_wire_number_1_ok : UnitOk Tryz.prog H_wire_number_1 (at_ (bodyOf Tryz.f118) [1, 0]) 6 := by
  have hc : at_ (bodyOf Tryz.f118) [1, 0] = .block 0 (.loop (at_ (bodyOf Tryz.f118) [1, 0, 0, 0])) := by kernel_rfl
  rw [hc]
  refine loop_unit_ok (carr := [(0, .slice none 0 0), (1, .int .i64 0)]) (fix := []) (ks := T_wire_number_1_ks) (H := (hookAt [])) (B := fun C X l u w => match l, u with | [v0, v1], [] => T_wire_number_1_body (fun b3a b3l b3c n4 w => X [.slice b3a b3l b3c, .int .i64 n4] w) (pA v0) (pL v0) (pC v0) (pInt v1) w (fun b15a b15l b15c n16 w => C .normal [.slice b15a b15l b15c, .int .i64 n16] w) (fun ch w => C (.panic ch) [] w) | _, _ => False) (by kernel_rfl) (by kernel_rfl) T_wire_number_1_hok ?_ ?_
  · intro C X l u w hl hu
    obtain ⟨v0, l_v0, rfl, k_v0, hl_v0⟩ := Kinds.cons_ hl
    obtain ⟨b3a, b3l, b3c, rfl⟩ := kind_slice k_v0
    obtain ⟨v1, l_v1, rfl, k_v1, hl_v1⟩ := Kinds.cons_ hl_v0
    obtain ⟨n4, rfl⟩ := kind_int k_v1
    obtain rfl := Kinds.nil_ hl_v1
    obtain rfl := Kinds.nil_ hu
    exact T_wire_number_1_eq C X b3a b3l b3c n4 w
  · intro l u w C hl hu
    obtain ⟨v0, l_v0, rfl, k_v0, hl_v0⟩ := Kinds.cons_ hl
    obtain ⟨b3a, b3l, b3c, rfl⟩ := kind_slice k_v0
    obtain ⟨v1, l_v1, rfl, k_v1, hl_v1⟩ := Kinds.cons_ hl_v0
    obtain ⟨n4, rfl⟩ := kind_int k_v1
    obtain rfl := Kinds.nil_ hl_v1
    obtain rfl := Kinds.nil_ hu
    constructor
    · intro h X hX
      exact h (fun b3a b3l b3c n4 w => X [.slice b3a b3l b3c, .int .i64 n4] w) (fun b3a b3l b3c n4 w hb => hX [.slice b3a b3l b3c, .int .i64 n4] w ⟨rfl, rfl, trivial⟩ hb)
    · intro h X hX
      exact h (fun l w => match l with | [v0, v1] => X (pA v0) (pL v0) (pC v0) (pInt v1) w | _ => True) (fun l w hl hb => by
        obtain ⟨v0, l_v0, rfl, k_v0, hl_v0⟩ := Kinds.cons_ hl
        obtain ⟨b3a, b3l, b3c, rfl⟩ := kind_slice k_v0
        obtain ⟨v1, l_v1, rfl, k_v1, hl_v1⟩ := Kinds.cons_ hl_v0
        obtain ⟨n4, rfl⟩ := kind_int k_v1
        obtain rfl := Kinds.nil_ hl_v1
        exact hX b3a b3l b3c n4 w hb)

def T_wire_number (b1a : Option Addr) (b1l : Nat) (b1c : Nat) (n2 : Int) (w : World) (R : Ending → World → Prop) : Prop :=
  T_wire_number_1 b1a b1l b1c n2 w (fun b17a b17l b17c n18 w19 => let w20 : World := w19.alloc (.cells #[.int .u8 (IntKind.wrap .u8 n18)] 5)
  runV Tryz.prog (Builtin.append_ #[56, 56] 56 #[.slice b17a b17l b17c, .slice (some (⟨w19.heap.size, 0, none⟩ : Addr)) 1 1]) w20 (fun r21 w22 => ∃ s23a : Option Addr, ∃ s23l : Nat, ∃ s23c : Nat, r21 = .slice s23a s23l s23c ∧ R (.returned (.slice s23a s23l s23c)) w22) (pan R)) (pan R)

theorem T_wire_number_hl : allP (hokL Tryz.prog (hookAt [(6, H_wire_number_1)]) (bodyOf Tryz.f118) 1) = (UnitOk Tryz.prog H_wire_number_1 (at_ (bodyOf Tryz.f118) [1, 0]) 6 ∧ True) := by kernel_rfl

theorem T_wire_number_eq (b1a : Option Addr) (b1l : Nat) (b1c : Nat) (n2 : Int) (w : World) (R : Ending → World → Prop) : vcCode Tryz.prog (hookAt [(6, H_wire_number_1)]) (bodyOf Tryz.f118) 1 ⟨argEnv [.slice b1a b1l b1c, .int .i64 n2] 0, Tryz.f118.ntmps, []⟩ w (finQ Tryz.prog Tryz.f118.results.toList R) = T_wire_number b1a b1l b1c n2 w R := by kernel_rfl

theorem T_wire_number_b : Tryz.f118.body = some (bodyOf Tryz.f118) := by kernel_rfl
theorem T_wire_number_s : (quietSel (bodyOf Tryz.f118) && Nat.ble 2 Tryz.f118.ntmps) = true := by kernel_rfl

theorem C_wire_number {b1a : Option Addr} {b1l : Nat} {b1c : Nat} {n2 : Int} {w : World} {R : Ending → World → Prop} (h : T_wire_number b1a b1l b1c n2 w R) : Calls Tryz.prog 118 #[.slice b1a b1l b1c, .int .i64 n2] w R :=
  calls_of_text (args := [.slice b1a b1l b1c, .int .i64 n2]) mixed Tryz.func118 T_wire_number_b T_wire_number_s (HOk_of _ _ (by rw [T_wire_number_hl]; exact ⟨T_wire_number_1_ok, trivial⟩)) (by rw [T_wire_number_eq]; exact h)

/-! tollgate/conf.float -/
def T_conf_float_1_body (X : Option Addr → Nat → Nat → Int → World → Prop) (b3a : Option Addr) (b3l : Nat) (b3c : Nat) (k4 : Int) (w5 : Nat) (w : World) (Kn : Option Addr → Nat → Nat → World → Prop) (Kp : List PanicEntry → World → Prop)  : Prop :=
  if (decide ((k4 : Int) ≥ 0)) = true then (runV Tryz.prog (callFunc 81 #[.float .f64 w5]) w (nxv (fun r6 w7 => ∃ x8 : Int, r6 = .int .u64 x8 ∧ runV Tryz.prog (do eqGuard .shr 135 (.tmp 12) (.tmp 13) (.int .u64 x8) (.int .i64 k4); binOp .shr 135 (.int .u64 x8) (.int .i64 k4)) w7 (fun r9 w10 => ∃ x11 : Int, r9 = .int .u64 x11 ∧ let w12 : World := w10.alloc (.cells #[.int .u8 (IntKind.wrap .u8 x11)] 5)
  runV Tryz.prog (Builtin.append_ #[56, 56] 56 #[.slice b3a b3l b3c, .slice (some (⟨w10.heap.size, 0, none⟩ : Addr)) 1 1]) w12 (fun r13 w14 => ∃ s15a : Option Addr, ∃ s15l : Nat, ∃ s15c : Nat, r13 = .slice s15a s15l s15c ∧ X s15a s15l s15c (IntKind.wrap .i64 ((k4 : Int) - 8)) w14) Kp) Kp)) Kp) else (Kn b3a b3l b3c w)

def T_conf_float_1 (b3a : Option Addr) (b3l : Nat) (b3c : Nat) (k4 : Int) (w5 : Nat) (w : World) (Kn : Option Addr → Nat → Nat → World → Prop) (Kp : List PanicEntry → World → Prop) : Prop :=
  ∀ X : Option Addr → Nat → Nat → Int → World → Prop, (∀ (b3a : Option Addr) (b3l : Nat) (b3c : Nat) (k4 : Int) (w : World), T_conf_float_1_body X b3a b3l b3c k4 w5 w Kn Kp → X b3a b3l b3c k4 w) → X b3a b3l b3c k4 w

def T_conf_float_1_outs : Exit → Option (List (Nat × Value)) := fun x => match x with | .normal => some [(0, .slice none 0 0)] | .panic _ => some [] | _ => none

def T_conf_float_1_ks : Nat → Bool := ksOf [0, 5, 6, 7, 8, 9, 10, 11, 12, 13, 14, 15, 16, 17]

def H_conf_float_1 : Env → World → QT → Prop := unitHook 19 T_conf_float_1_ks [(0, .slice none 0 0), (5, .int .i64 0), (1, .float .f64 0)] T_conf_float_1_outs fun l w C => match l with | [v0, v1, v2] => T_conf_float_1 (pA v0) (pL v0) (pC v0) (pInt v1) (pFlt v2) w (fun b17a b17l b17c w => C .normal [.slice b17a b17l b17c] w) (fun ch w => C (.panic ch) [] w) | _ => False

theorem T_conf_float_1_hl : allP (hokL Tryz.prog (hookAt []) (at_ (bodyOf Tryz.f119) [1, 0, 1, 0, 0]) 52) = (True) := by kernel_rfl
theorem T_conf_float_1_hok : HOk Tryz.prog (hookAt []) (at_ (bodyOf Tryz.f119) [1, 0, 1, 0, 0]) 52 := HOk_of _ _ (by rw [T_conf_float_1_hl]; exact trivial)

theorem T_conf_float_1_eq (C : Conts) (X : List Value → World → Prop) (b3a : Option Addr) (b3l : Nat) (b3c : Nat) (k4 : Int) (w5 : Nat) (w : World) : vcCode Tryz.prog (hookAt []) (at_ (bodyOf Tryz.f119) [1, 0, 1, 0, 0]) 52 ⟨[(0, .slice b3a b3l b3c), (5, .int .i64 k4)] ++ [(1, .float .f64 w5)], 19, []⟩ w (seqQ (fun e w => takeAll e [(0, .slice none 0 0), (5, .int .i64 0)] fun l => X l w) (blockQ 0 (unitQ T_conf_float_1_outs C))) = T_conf_float_1_body (fun b3a b3l b3c k4 w => X [.slice b3a b3l b3c, .int .i64 k4] w) b3a b3l b3c k4 w5 w (fun b18a b18l b18c w => C .normal [.slice b18a b18l b18c] w) (fun ch w => C (.panic ch) [] w) := by kernel_rfl

theorem T_conf_float_1_ok : UnitOk Tryz.prog H_conf_float_1 (at_ (bodyOf Tryz.f119) [1, 0, 1]) 13 := by
  have hc : at_ (bodyOf Tryz.f119) [1, 0, 1] = .block 0 (.loop (at_ (bodyOf Tryz.f119) [1, 0, 1, 0, 0])) := by kernel_rfl
  rw [hc]
  refine loop_unit_ok (carr := [(0, .slice none 0 0), (5, .int .i64 0)]) (fix := [(1, .float .f64 0)]) (ks := T_conf_float_1_ks) (H := (hookAt [])) (B := fun C X l u w => match l, u with | [v0, v1], [v2] => T_conf_float_1_body (fun b3a b3l b3c k4 w => X [.slice b3a b3l b3c, .int .i64 k4] w) (pA v0) (pL v0) (pC v0) (pInt v1) (pFlt v2) w (fun b19a b19l b19c w => C .normal [.slice b19a b19l b19c] w) (fun ch w => C (.panic ch) [] w) | _, _ => False) (by kernel_rfl) (by kernel_rfl) T_conf_float_1_hok ?_ ?_
  · intro C X l u w hl hu
    obtain ⟨v0, l_v0, rfl, k_v0, hl_v0⟩ := Kinds.cons_ hl
    obtain ⟨b3a, b3l, b3c, rfl⟩ := kind_slice k_v0
    obtain ⟨v1, l_v1, rfl, k_v1, hl_v1⟩ := Kinds.cons_ hl_v0
    obtain ⟨k4, rfl⟩ := kind_int k_v1
    obtain rfl := Kinds.nil_ hl_v1
    obtain ⟨v2, l_v2, rfl, k_v2, hu_v2⟩ := Kinds.cons_ hu
    obtain ⟨w5, rfl⟩ := kind_float k_v2
    obtain rfl := Kinds.nil_ hu_v2
    exact T_conf_float_1_eq C X b3a b3l b3c k4 w5 w
  · intro l u w C hl hu
    obtain ⟨v0, l_v0, rfl, k_v0, hl_v0⟩ := Kinds.cons_ hl
    obtain ⟨b3a, b3l, b3c, rfl⟩ := kind_slice k_v0
    obtain ⟨v1, l_v1, rfl, k_v1, hl_v1⟩ := Kinds.cons_ hl_v0
    obtain ⟨k4, rfl⟩ := kind_int k_v1
    obtain rfl := Kinds.nil_ hl_v1
    obtain ⟨v2, l_v2, rfl, k_v2, hu_v2⟩ := Kinds.cons_ hu
    obtain ⟨w5, rfl⟩ := kind_float k_v2
    obtain rfl := Kinds.nil_ hu_v2
    constructor
    · intro h X hX
      exact h (fun b3a b3l b3c k4 w => X [.slice b3a b3l b3c, .int .i64 k4] w) (fun b3a b3l b3c k4 w hb => hX [.slice b3a b3l b3c, .int .i64 k4] w ⟨rfl, rfl, trivial⟩ hb)
    · intro h X hX
      exact h (fun l w => match l with | [v0, v1] => X (pA v0) (pL v0) (pC v0) (pInt v1) w | _ => True) (fun l w hl hb => by
        obtain ⟨v0, l_v0, rfl, k_v0, hl_v0⟩ := Kinds.cons_ hl
        obtain ⟨b3a, b3l, b3c, rfl⟩ := kind_slice k_v0
        obtain ⟨v1, l_v1, rfl, k_v1, hl_v1⟩ := Kinds.cons_ hl_v0
        obtain ⟨k4, rfl⟩ := kind_int k_v1
        obtain rfl := Kinds.nil_ hl_v1
        exact hX b3a b3l b3c k4 w hb)

def T_conf_float (b1a : Option Addr) (b1l : Nat) (b1c : Nat) (w2 : Nat) (w : World) (R : Ending → World → Prop) : Prop :=
  T_conf_float_1 b1a b1l b1c 56 w2 w (fun b20a b20l b20c w21 => R (.returned (.slice b20a b20l b20c)) w21) (pan R)

theorem T_conf_float_hl : allP (hokL Tryz.prog (hookAt [(13, H_conf_float_1)]) (bodyOf Tryz.f119) 1) = (UnitOk Tryz.prog H_conf_float_1 (at_ (bodyOf Tryz.f119) [1, 0, 1]) 13 ∧ True) := by kernel_rfl

theorem T_conf_float_eq (b1a : Option Addr) (b1l : Nat) (b1c : Nat) (w2 : Nat) (w : World) (R : Ending → World → Prop) : vcCode Tryz.prog (hookAt [(13, H_conf_float_1)]) (bodyOf Tryz.f119) 1 ⟨argEnv [.slice b1a b1l b1c, .float .f64 w2] 0, Tryz.f119.ntmps, []⟩ w (finQ Tryz.prog Tryz.f119.results.toList R) = T_conf_float b1a b1l b1c w2 w R := by kernel_rfl

theorem T_conf_float_b : Tryz.f119.body = some (bodyOf Tryz.f119) := by kernel_rfl
theorem T_conf_float_s : (quietSel (bodyOf Tryz.f119) && Nat.ble 2 Tryz.f119.ntmps) = true := by kernel_rfl

theorem C_conf_float {b1a : Option Addr} {b1l : Nat} {b1c : Nat} {w2 : Nat} {w : World} {R : Ending → World → Prop} (h : T_conf_float b1a b1l b1c w2 w R) : Calls Tryz.prog 119 #[.slice b1a b1l b1c, .float .f64 w2] w R :=
  calls_of_text (args := [.slice b1a b1l b1c, .float .f64 w2]) mixed Tryz.func119 T_conf_float_b T_conf_float_s (HOk_of _ _ (by rw [T_conf_float_hl]; exact ⟨T_conf_float_1_ok, trivial⟩)) (by rw [T_conf_float_eq]; exact h)

/-! tollgate/tollgateref02.Number -/
def T_ref02_Number_1 (n2 : Int) (w : World) (Kn : Bool → World → Prop) (Kp : List PanicEntry → World → Prop) : Prop :=
  if (decide ((n2 : Int) < 0)) = true then (Kn true w) else (Kn (decide ((n2 : Int) > 1099511627776)) w)

def T_ref02_Number_1_outs : Exit → Option (List (Nat × Value)) := fun x => match x with | .normal => some [(11, .bool false)] | .panic _ => some [] | _ => none

def T_ref02_Number_1_ks : Nat → Bool := ksOf [6, 7, 8, 9, 10, 11]

def H_ref02_Number_1 : Env → World → QT → Prop := unitHook 30 T_ref02_Number_1_ks [(0, .int .i64 0)] T_ref02_Number_1_outs fun l w C => match l with | [v0] => T_ref02_Number_1 (pInt v0) w (fun b4 w => C .normal [.bool b4] w) (fun ch w => C (.panic ch) [] w) | _ => False

theorem T_ref02_Number_1_hl : allP (hokL Tryz.prog (hookAt []) (at_ (bodyOf Tryz.f122) [1, 0, 0]) 12) = (True) := by kernel_rfl
theorem T_ref02_Number_1_hok : HOk Tryz.prog (hookAt []) (at_ (bodyOf Tryz.f122) [1, 0, 0]) 12 := HOk_of _ _ (by rw [T_ref02_Number_1_hl]; exact trivial)

theorem T_ref02_Number_1_eq (C : Conts) (n2 : Int) (w : World) : vcCode Tryz.prog (hookAt []) (at_ (bodyOf Tryz.f122) [1, 0, 0]) 12 ⟨[(0, .int .i64 n2)], 30, []⟩ w (unitQ T_ref02_Number_1_outs C) = T_ref02_Number_1 n2 w (fun b5 w => C .normal [.bool b5] w) (fun ch w => C (.panic ch) [] w) := by kernel_rfl

theorem T_ref02_Number_1_ok : UnitOk Tryz.prog H_ref02_Number_1 (at_ (bodyOf Tryz.f122) [1, 0, 0]) 12 := unit_ok (H := (hookAt [])) (by kernel_rfl) T_ref02_Number_1_hok fun l w C hk => by
    obtain ⟨v0, l_v0, rfl, k_v0, hk_v0⟩ := Kinds.cons_ hk
    obtain ⟨n2, rfl⟩ := kind_int k_v0
    obtain rfl := Kinds.nil_ hk_v0
    exact T_ref02_Number_1_eq C n2 w

def T_ref02_Number_2_body (X : Int → Option Addr → Nat → Nat → World → Prop) (n9 : Int) (out10a : Option Addr) (out10l : Nat) (out10c : Nat) (w : World) (Kr : Option Addr → Nat → Nat → Int → World → Prop) (Kp : List PanicEntry → World → Prop)  : Prop :=
  if ((IntKind.wrap .i64 (Int.tdiv n9 128) : Int) == 0) = true then (let w11 : World := w.alloc (.cells #[.int .u8 (IntKind.wrap .u8 (Int.tmod n9 128))] 5)
  runV Tryz.prog (Builtin.append_ #[56, 56] 56 #[.slice out10a out10l out10c, .slice (some (⟨w.heap.size, 0, none⟩ : Addr)) 1 1]) w11 (fun r12 w13 => ∃ s14a : Option Addr, ∃ s14l : Nat, ∃ s14c : Nat, r12 = .slice s14a s14l s14c ∧ Kr s14a s14l s14c 0 w13) Kp) else (let w15 : World := w.alloc (.cells #[.int .u8 (IntKind.wrap .u8 (IntKind.wrap .i64 ((Int.tmod n9 128 : Int) + 128)))] 5)
  runV Tryz.prog (Builtin.append_ #[56, 56] 56 #[.slice out10a out10l out10c, .slice (some (⟨w.heap.size, 0, none⟩ : Addr)) 1 1]) w15 (fun r16 w17 => ∃ s18a : Option Addr, ∃ s18l : Nat, ∃ s18c : Nat, r16 = .slice s18a s18l s18c ∧ X (IntKind.wrap .i64 (Int.tdiv n9 128)) s18a s18l s18c w17) Kp)

def T_ref02_Number_2 (n9 : Int) (out10a : Option Addr) (out10l : Nat) (out10c : Nat) (w : World) (Kr : Option Addr → Nat → Nat → Int → World → Prop) (Kp : List PanicEntry → World → Prop) : Prop :=
  ∀ X : Int → Option Addr → Nat → Nat → World → Prop, (∀ (n9 : Int) (out10a : Option Addr) (out10l : Nat) (out10c : Nat) (w : World), T_ref02_Number_2_body X n9 out10a out10l out10c w Kr Kp → X n9 out10a out10l out10c w) → X n9 out10a out10l out10c w

def T_ref02_Number_2_outs : Exit → Option (List (Nat × Value)) := fun x => match x with | .ret => some [(2, .slice none 0 0), (3, .int .i64 0)] | .panic _ => some [] | _ => none

def T_ref02_Number_2_ks : Nat → Bool := ksOf [0, 2, 3, 4, 5, 13, 14, 15, 16, 17, 18, 19, 20, 21, 22, 23, 24, 25, 26, 27, 28, 29]

def H_ref02_Number_2 : Env → World → QT → Prop := unitHook 30 T_ref02_Number_2_ks [(0, .int .i64 0), (4, .slice none 0 0)] T_ref02_Number_2_outs fun l w C => match l with | [v0, v1] => T_ref02_Number_2 (pInt v0) (pA v1) (pL v1) (pC v1) w (fun s21a s21l s21c x22 w => C .ret [.slice s21a s21l s21c, .int .i64 x22] w) (fun ch w => C (.panic ch) [] w) | _ => False

theorem T_ref02_Number_2_hl : allP (hokL Tryz.prog (hookAt []) (at_ (bodyOf Tryz.f122) [1, 1, 1, 0, 0]) 60) = (True) := by kernel_rfl
theorem T_ref02_Number_2_hok : HOk Tryz.prog (hookAt []) (at_ (bodyOf Tryz.f122) [1, 1, 1, 0, 0]) 60 := HOk_of _ _ (by rw [T_ref02_Number_2_hl]; exact trivial)

theorem T_ref02_Number_2_eq (C : Conts) (X : List Value → World → Prop) (n9 : Int) (out10a : Option Addr) (out10l : Nat) (out10c : Nat) (w : World) : vcCode Tryz.prog (hookAt []) (at_ (bodyOf Tryz.f122) [1, 1, 1, 0, 0]) 60 ⟨[(0, .int .i64 n9), (4, .slice out10a out10l out10c)] ++ [], 30, []⟩ w (seqQ (fun e w => takeAll e [(0, .int .i64 0), (4, .slice none 0 0)] fun l => X l w) (blockQ 0 (unitQ T_ref02_Number_2_outs C))) = T_ref02_Number_2_body (fun n9 out10a out10l out10c w => X [.int .i64 n9, .slice out10a out10l out10c] w) n9 out10a out10l out10c w (fun s23a s23l s23c x24 w => C .ret [.slice s23a s23l s23c, .int .i64 x24] w) (fun ch w => C (.panic ch) [] w) := by kernel_rfl

theorem T_ref02_Number_2_ok : UnitOk Tryz.prog H_ref02_Number_2 (at_ (bodyOf Tryz.f122) [1, 1, 1]) 15 := by
  have hc : at_ (bodyOf Tryz.f122) [1, 1, 1] = .block 0 (.loop (at_ (bodyOf Tryz.f122) [1, 1, 1, 0, 0])) := by kernel_rfl
  rw [hc]
  refine loop_unit_ok (carr := [(0, .int .i64 0), (4, .slice none 0 0)]) (fix := []) (ks := T_ref02_Number_2_ks) (H := (hookAt [])) (B := fun C X l u w => match l, u with | [v0, v1], [] => T_ref02_Number_2_body (fun n9 out10a out10l out10c w => X [.int .i64 n9, .slice out10a out10l out10c] w) (pInt v0) (pA v1) (pL v1) (pC v1) w (fun s25a s25l s25c x26 w => C .ret [.slice s25a s25l s25c, .int .i64 x26] w) (fun ch w => C (.panic ch) [] w) | _, _ => False) (by kernel_rfl) (by kernel_rfl) T_ref02_Number_2_hok ?_ ?_
  · intro C X l u w hl hu
    obtain ⟨v0, l_v0, rfl, k_v0, hl_v0⟩ := Kinds.cons_ hl
    obtain ⟨n9, rfl⟩ := kind_int k_v0
    obtain ⟨v1, l_v1, rfl, k_v1, hl_v1⟩ := Kinds.cons_ hl_v0
    obtain ⟨out10a, out10l, out10c, rfl⟩ := kind_slice k_v1
    obtain rfl := Kinds.nil_ hl_v1
    obtain rfl := Kinds.nil_ hu
    exact T_ref02_Number_2_eq C X n9 out10a out10l out10c w
  · intro l u w C hl hu
    obtain ⟨v0, l_v0, rfl, k_v0, hl_v0⟩ := Kinds.cons_ hl
    obtain ⟨n9, rfl⟩ := kind_int k_v0
    obtain ⟨v1, l_v1, rfl, k_v1, hl_v1⟩ := Kinds.cons_ hl_v0
    obtain ⟨out10a, out10l, out10c, rfl⟩ := kind_slice k_v1
    obtain rfl := Kinds.nil_ hl_v1
    obtain rfl := Kinds.nil_ hu
    constructor
    · intro h X hX
      exact h (fun n9 out10a out10l out10c w => X [.int .i64 n9, .slice out10a out10l out10c] w) (fun n9 out10a out10l out10c w hb => hX [.int .i64 n9, .slice out10a out10l out10c] w ⟨rfl, rfl, trivial⟩ hb)
    · intro h X hX
      exact h (fun l w => match l with | [v0, v1] => X (pInt v0) (pA v1) (pL v1) (pC v1) w | _ => True) (fun l w hl hb => by
        obtain ⟨v0, l_v0, rfl, k_v0, hl_v0⟩ := Kinds.cons_ hl
        obtain ⟨n9, rfl⟩ := kind_int k_v0
        obtain ⟨v1, l_v1, rfl, k_v1, hl_v1⟩ := Kinds.cons_ hl_v0
        obtain ⟨out10a, out10l, out10c, rfl⟩ := kind_slice k_v1
        obtain rfl := Kinds.nil_ hl_v1
        exact hX n9 out10a out10l out10c w hb)

def T_ref02_Number (n1 : Int) (w : World) (R : Ending → World → Prop) : Prop :=
  T_ref02_Number_1 n1 w (fun b6 w7 => if b6 = true then (R (.returned (.tuple #[.slice none 0 0, .int .i64 2])) w7) else (let w8 : World := w7.alloc (.cells #[] 5)
  T_ref02_Number_2 n1 (some (⟨w7.heap.size, 0, none⟩ : Addr)) 0 0 w8 (fun s27a s27l s27c x28 w29 => R (.returned (.tuple #[.slice s27a s27l s27c, .int .i64 x28])) w29) (pan R))) (pan R)

theorem T_ref02_Number_hl : allP (hokL Tryz.prog (hookAt [(12, H_ref02_Number_1), (15, H_ref02_Number_2)]) (bodyOf Tryz.f122) 1) = (UnitOk Tryz.prog H_ref02_Number_1 (at_ (bodyOf Tryz.f122) [1, 0, 0]) 12 ∧ UnitOk Tryz.prog H_ref02_Number_2 (at_ (bodyOf Tryz.f122) [1, 1, 1]) 15 ∧ True) := by kernel_rfl

theorem T_ref02_Number_eq (n1 : Int) (w : World) (R : Ending → World → Prop) : vcCode Tryz.prog (hookAt [(12, H_ref02_Number_1), (15, H_ref02_Number_2)]) (bodyOf Tryz.f122) 1 ⟨argEnv [.int .i64 n1] 0, Tryz.f122.ntmps, []⟩ w (finQ Tryz.prog Tryz.f122.results.toList R) = T_ref02_Number n1 w R := by kernel_rfl

theorem T_ref02_Number_b : Tryz.f122.body = some (bodyOf Tryz.f122) := by kernel_rfl
theorem T_ref02_Number_s : (quietSel (bodyOf Tryz.f122) && Nat.ble 1 Tryz.f122.ntmps) = true := by kernel_rfl

theorem C_ref02_Number {n1 : Int} {w : World} {R : Ending → World → Prop} (h : T_ref02_Number n1 w R) : Calls Tryz.prog 122 #[.int .i64 n1] w R :=
  calls_of_text (args := [.int .i64 n1]) mixed Tryz.func122 T_ref02_Number_b T_ref02_Number_s (HOk_of _ _ (by rw [T_ref02_Number_hl]; exact ⟨T_ref02_Number_1_ok, T_ref02_Number_2_ok, trivial⟩)) (by rw [T_ref02_Number_eq]; exact h)

/-! tollgate/tollgateref08.targets -/
def T_ref08_targets_2_body (X : Option Addr → Nat → Nat → Int → World → Prop) (b19a : Option Addr) (b19l : Nat) (b19c : Nat) (k20 : Int) (w21 : Int) (w : World) (Kn : Option Addr → Nat → Nat → World → Prop) (Kp : List PanicEntry → World → Prop)  : Prop :=
  if (decide ((k20 : Int) < 8)) = true then (runV Tryz.prog (do eqGuard .shr 135 (.tmp 36) (.tmp 40) (.int .u64 w21) (.int .u64 (IntKind.wrap .u64 (IntKind.wrap .i64 ((56 : Int) - (IntKind.wrap .i64 ((8 : Int) * k20)))))); binOp .shr 135 (.int .u64 w21) (.int .u64 (IntKind.wrap .u64 (IntKind.wrap .i64 ((56 : Int) - (IntKind.wrap .i64 ((8 : Int) * k20))))))) w (fun r22 w23 => ∃ x24 : Int, r22 = .int .u64 x24 ∧ let w25 : World := w23.alloc (.cells #[.int .u8 (IntKind.wrap .u8 x24)] 5)
  runV Tryz.prog (Builtin.append_ #[56, 56] 56 #[.slice b19a b19l b19c, .slice (some (⟨w23.heap.size, 0, none⟩ : Addr)) 1 1]) w25 (fun r26 w27 => ∃ s28a : Option Addr, ∃ s28l : Nat, ∃ s28c : Nat, r26 = .slice s28a s28l s28c ∧ X s28a s28l s28c (IntKind.wrap .i64 ((k20 : Int) + 1)) w27) Kp) Kp) else (Kn b19a b19l b19c w)

def T_ref08_targets_2 (b19a : Option Addr) (b19l : Nat) (b19c : Nat) (k20 : Int) (w21 : Int) (w : World) (Kn : Option Addr → Nat → Nat → World → Prop) (Kp : List PanicEntry → World → Prop) : Prop :=
  ∀ X : Option Addr → Nat → Nat → Int → World → Prop, (∀ (b19a : Option Addr) (b19l : Nat) (b19c : Nat) (k20 : Int) (w : World), T_ref08_targets_2_body X b19a b19l b19c k20 w21 w Kn Kp → X b19a b19l b19c k20 w) → X b19a b19l b19c k20 w

def T_ref08_targets_2_outs : Exit → Option (List (Nat × Value)) := fun x => match x with | .normal => some [(0, .slice none 0 0)] | .panic _ => some [] | _ => none

def T_ref08_targets_2_ks : Nat → Bool := ksOf [0, 7, 31, 32, 33, 34, 35, 36, 37, 38, 39, 40, 41, 42, 43, 44]

def H_ref08_targets_2 : Env → World → QT → Prop := unitHook 46 T_ref08_targets_2_ks [(0, .slice none 0 0), (7, .int .i64 0), (6, .int .u64 0)] T_ref08_targets_2_outs fun l w C => match l with | [v0, v1, v2] => T_ref08_targets_2 (pA v0) (pL v0) (pC v0) (pInt v1) (pInt v2) w (fun b30a b30l b30c w => C .normal [.slice b30a b30l b30c] w) (fun ch w => C (.panic ch) [] w) | _ => False

theorem T_ref08_targets_2_hl : allP (hokL Tryz.prog (hookAt []) (at_ (bodyOf Tryz.f123) [1, 1, 0, 1, 0, 0, 1, 0, 0, 1, 1, 1, 0, 0]) 29852) = (True) := by kernel_rfl
theorem T_ref08_targets_2_hok : HOk Tryz.prog (hookAt []) (at_ (bodyOf Tryz.f123) [1, 1, 0, 1, 0, 0, 1, 0, 0, 1, 1, 1, 0, 0]) 29852 := HOk_of _ _ (by rw [T_ref08_targets_2_hl]; exact trivial)

theorem T_ref08_targets_2_eq (C : Conts) (X : List Value → World → Prop) (b19a : Option Addr) (b19l : Nat) (b19c : Nat) (k20 : Int) (w21 : Int) (w : World) : vcCode Tryz.prog (hookAt []) (at_ (bodyOf Tryz.f123) [1, 1, 0, 1, 0, 0, 1, 0, 0, 1, 1, 1, 0, 0]) 29852 ⟨[(0, .slice b19a b19l b19c), (7, .int .i64 k20)] ++ [(6, .int .u64 w21)], 46, []⟩ w (seqQ (fun e w => takeAll e [(0, .slice none 0 0), (7, .int .i64 0)] fun l => X l w) (blockQ 2 (unitQ T_ref08_targets_2_outs C))) = T_ref08_targets_2_body (fun b19a b19l b19c k20 w => X [.slice b19a b19l b19c, .int .i64 k20] w) b19a b19l b19c k20 w21 w (fun b31a b31l b31c w => C .normal [.slice b31a b31l b31c] w) (fun ch w => C (.panic ch) [] w) := by kernel_rfl

theorem T_ref08_targets_2_ok : UnitOk Tryz.prog H_ref08_targets_2 (at_ (bodyOf Tryz.f123) [1, 1, 0, 1, 0, 0, 1, 0, 0, 1, 1, 1]) 7463 := by
  have hc : at_ (bodyOf Tryz.f123) [1, 1, 0, 1, 0, 0, 1, 0, 0, 1, 1, 1] = .block 2 (.loop (at_ (bodyOf Tryz.f123) [1, 1, 0, 1, 0, 0, 1, 0, 0, 1, 1, 1, 0, 0])) := by kernel_rfl
  rw [hc]
  refine loop_unit_ok (carr := [(0, .slice none 0 0), (7, .int .i64 0)]) (fix := [(6, .int .u64 0)]) (ks := T_ref08_targets_2_ks) (H := (hookAt [])) (B := fun C X l u w => match l, u with | [v0, v1], [v2] => T_ref08_targets_2_body (fun b19a b19l b19c k20 w => X [.slice b19a b19l b19c, .int .i64 k20] w) (pA v0) (pL v0) (pC v0) (pInt v1) (pInt v2) w (fun b32a b32l b32c w => C .normal [.slice b32a b32l b32c] w) (fun ch w => C (.panic ch) [] w) | _, _ => False) (by kernel_rfl) (by kernel_rfl) T_ref08_targets_2_hok ?_ ?_
  · intro C X l u w hl hu
    obtain ⟨v0, l_v0, rfl, k_v0, hl_v0⟩ := Kinds.cons_ hl
    obtain ⟨b19a, b19l, b19c, rfl⟩ := kind_slice k_v0
    obtain ⟨v1, l_v1, rfl, k_v1, hl_v1⟩ := Kinds.cons_ hl_v0
    obtain ⟨k20, rfl⟩ := kind_int k_v1
    obtain rfl := Kinds.nil_ hl_v1
    obtain ⟨v2, l_v2, rfl, k_v2, hu_v2⟩ := Kinds.cons_ hu
    obtain ⟨w21, rfl⟩ := kind_int k_v2
    obtain rfl := Kinds.nil_ hu_v2
    exact T_ref08_targets_2_eq C X b19a b19l b19c k20 w21 w
  · intro l u w C hl hu
    obtain ⟨v0, l_v0, rfl, k_v0, hl_v0⟩ := Kinds.cons_ hl
    obtain ⟨b19a, b19l, b19c, rfl⟩ := kind_slice k_v0
    obtain ⟨v1, l_v1, rfl, k_v1, hl_v1⟩ := Kinds.cons_ hl_v0
    obtain ⟨k20, rfl⟩ := kind_int k_v1
    obtain rfl := Kinds.nil_ hl_v1
    obtain ⟨v2, l_v2, rfl, k_v2, hu_v2⟩ := Kinds.cons_ hu
    obtain ⟨w21, rfl⟩ := kind_int k_v2
    obtain rfl := Kinds.nil_ hu_v2
    constructor
    · intro h X hX
      exact h (fun b19a b19l b19c k20 w => X [.slice b19a b19l b19c, .int .i64 k20] w) (fun b19a b19l b19c k20 w hb => hX [.slice b19a b19l b19c, .int .i64 k20] w ⟨rfl, rfl, trivial⟩ hb)
    · intro h X hX
      exact h (fun l w => match l with | [v0, v1] => X (pA v0) (pL v0) (pC v0) (pInt v1) w | _ => True) (fun l w hl hb => by
        obtain ⟨v0, l_v0, rfl, k_v0, hl_v0⟩ := Kinds.cons_ hl
        obtain ⟨b19a, b19l, b19c, rfl⟩ := kind_slice k_v0
        obtain ⟨v1, l_v1, rfl, k_v1, hl_v1⟩ := Kinds.cons_ hl_v0
        obtain ⟨k20, rfl⟩ := kind_int k_v1
        obtain rfl := Kinds.nil_ hl_v1
        exact hX b19a b19l b19c k20 w hb)

def T_ref08_targets_1_body (X : Option Addr → Nat → Nat → Int → World → Prop) (b6a : Option Addr) (b6l : Nat) (b6c : Nat) (i7 : Int) (l8a : Option Addr) (l8l : Nat) (l8c : Nat) (w : World) (Kn : Option Addr → Nat → Nat → World → Prop) (Kp : List PanicEntry → World → Prop)  : Prop :=
  if (decide ((i7 : Int) < ((l8l : Nat) : Int))) = true then (0 ≤ (i7 : Int) ∧ (i7 : Int) < ((l8l : Nat) : Int) ∧ ∃ b9, l8a = some b9 ∧ ∃ s10 : ByteArray, rd w (b9.add ((i7 : Int).toNat * 2)) (.string s10) ∧ Calls Tryz.prog 124 #[.slice b6a b6l b6c, .string s10] w (ret (fun r11 w12 => ∃ s13a : Option Addr, ∃ s13l : Nat, ∃ s13c : Nat, r11 = .slice s13a s13l s13c ∧ 0 ≤ (i7 : Int) ∧ (i7 : Int) < ((l8l : Nat) : Int) ∧ ∃ b14, l8a = some b14 ∧ ∃ f15 : Nat, rd w12 ((b14.add ((i7 : Int).toNat * 2)).add 1) (.float .f64 f15) ∧ runV Tryz.prog (callFunc 81 #[.float .f64 f15]) w12 (nxv (fun r16 w17 => ∃ x18 : Int, r16 = .int .u64 x18 ∧ T_ref08_targets_2 s13a s13l s13c 0 x18 w17 (fun b33a b33l b33c w34 => X b33a b33l b33c (IntKind.wrap .i64 ((i7 : Int) + 1)) w34) Kp)) Kp) Kp)) else (Kn b6a b6l b6c w)

def T_ref08_targets_1 (b6a : Option Addr) (b6l : Nat) (b6c : Nat) (i7 : Int) (l8a : Option Addr) (l8l : Nat) (l8c : Nat) (w : World) (Kn : Option Addr → Nat → Nat → World → Prop) (Kp : List PanicEntry → World → Prop) : Prop :=
  ∀ X : Option Addr → Nat → Nat → Int → World → Prop, (∀ (b6a : Option Addr) (b6l : Nat) (b6c : Nat) (i7 : Int) (w : World), T_ref08_targets_1_body X b6a b6l b6c i7 l8a l8l l8c w Kn Kp → X b6a b6l b6c i7 w) → X b6a b6l b6c i7 w

def T_ref08_targets_1_outs : Exit → Option (List (Nat × Value)) := fun x => match x with | .normal => some [(0, .slice none 0 0)] | .panic _ => some [] | _ => none

def T_ref08_targets_1_ks : Nat → Bool := ksOf [0, 5, 6, 7, 12, 13, 14, 15, 16, 17, 18, 19, 20, 21, 22, 23, 24, 25, 26, 27, 28, 29, 30, 31, 32, 33, 34, 35, 36, 37, 38, 39, 40, 41, 42, 43, 44]

def H_ref08_targets_1 : Env → World → QT → Prop := unitHook 46 T_ref08_targets_1_ks [(0, .slice none 0 0), (5, .int .i64 0), (1, .slice none 0 0)] T_ref08_targets_1_outs fun l w C => match l with | [v0, v1, v2] => T_ref08_targets_1 (pA v0) (pL v0) (pC v0) (pInt v1) (pA v2) (pL v2) (pC v2) w (fun b36a b36l b36c w => C .normal [.slice b36a b36l b36c] w) (fun ch w => C (.panic ch) [] w) | _ => False

theorem T_ref08_targets_1_hl : allP (hokL Tryz.prog (hookAt [(7463, H_ref08_targets_2)]) (at_ (bodyOf Tryz.f123) [1, 1, 0, 1, 0, 0]) 116) = (UnitOk Tryz.prog H_ref08_targets_2 (at_ (bodyOf Tryz.f123) [1, 1, 0, 1, 0, 0, 1, 0, 0, 1, 1, 1]) 7463 ∧ True) := by kernel_rfl
theorem T_ref08_targets_1_hok : HOk Tryz.prog (hookAt [(7463, H_ref08_targets_2)]) (at_ (bodyOf Tryz.f123) [1, 1, 0, 1, 0, 0]) 116 := HOk_of _ _ (by rw [T_ref08_targets_1_hl]; exact ⟨T_ref08_targets_2_ok, trivial⟩)

theorem T_ref08_targets_1_eq (C : Conts) (X : List Value → World → Prop) (b6a : Option Addr) (b6l : Nat) (b6c : Nat) (i7 : Int) (l8a : Option Addr) (l8l : Nat) (l8c : Nat) (w : World) : vcCode Tryz.prog (hookAt [(7463, H_ref08_targets_2)]) (at_ (bodyOf Tryz.f123) [1, 1, 0, 1, 0, 0]) 116 ⟨[(0, .slice b6a b6l b6c), (5, .int .i64 i7)] ++ [(1, .slice l8a l8l l8c)], 46, []⟩ w (seqQ (fun e w => takeAll e [(0, .slice none 0 0), (5, .int .i64 0)] fun l => X l w) (blockQ 0 (unitQ T_ref08_targets_1_outs C))) = T_ref08_targets_1_body (fun b6a b6l b6c i7 w => X [.slice b6a b6l b6c, .int .i64 i7] w) b6a b6l b6c i7 l8a l8l l8c w (fun b37a b37l b37c w => C .normal [.slice b37a b37l b37c] w) (fun ch w => C (.panic ch) [] w) := by kernel_rfl

theorem T_ref08_targets_1_ok : UnitOk Tryz.prog H_ref08_targets_1 (at_ (bodyOf Tryz.f123) [1, 1, 0, 1]) 29 := by
  have hc : at_ (bodyOf Tryz.f123) [1, 1, 0, 1] = .block 0 (.loop (at_ (bodyOf Tryz.f123) [1, 1, 0, 1, 0, 0])) := by kernel_rfl
  rw [hc]
  refine loop_unit_ok (carr := [(0, .slice none 0 0), (5, .int .i64 0)]) (fix := [(1, .slice none 0 0)]) (ks := T_ref08_targets_1_ks) (H := (hookAt [(7463, H_ref08_targets_2)])) (B := fun C X l u w => match l, u with | [v0, v1], [v2] => T_ref08_targets_1_body (fun b6a b6l b6c i7 w => X [.slice b6a b6l b6c, .int .i64 i7] w) (pA v0) (pL v0) (pC v0) (pInt v1) (pA v2) (pL v2) (pC v2) w (fun b38a b38l b38c w => C .normal [.slice b38a b38l b38c] w) (fun ch w => C (.panic ch) [] w) | _, _ => False) (by kernel_rfl) (by kernel_rfl) T_ref08_targets_1_hok ?_ ?_
  · intro C X l u w hl hu
    obtain ⟨v0, l_v0, rfl, k_v0, hl_v0⟩ := Kinds.cons_ hl
    obtain ⟨b6a, b6l, b6c, rfl⟩ := kind_slice k_v0
    obtain ⟨v1, l_v1, rfl, k_v1, hl_v1⟩ := Kinds.cons_ hl_v0
    obtain ⟨i7, rfl⟩ := kind_int k_v1
    obtain rfl := Kinds.nil_ hl_v1
    obtain ⟨v2, l_v2, rfl, k_v2, hu_v2⟩ := Kinds.cons_ hu
    obtain ⟨l8a, l8l, l8c, rfl⟩ := kind_slice k_v2
    obtain rfl := Kinds.nil_ hu_v2
    exact T_ref08_targets_1_eq C X b6a b6l b6c i7 l8a l8l l8c w
  · intro l u w C hl hu
    obtain ⟨v0, l_v0, rfl, k_v0, hl_v0⟩ := Kinds.cons_ hl
    obtain ⟨b6a, b6l, b6c, rfl⟩ := kind_slice k_v0
    obtain ⟨v1, l_v1, rfl, k_v1, hl_v1⟩ := Kinds.cons_ hl_v0
    obtain ⟨i7, rfl⟩ := kind_int k_v1
    obtain rfl := Kinds.nil_ hl_v1
    obtain ⟨v2, l_v2, rfl, k_v2, hu_v2⟩ := Kinds.cons_ hu
    obtain ⟨l8a, l8l, l8c, rfl⟩ := kind_slice k_v2
    obtain rfl := Kinds.nil_ hu_v2
    constructor
    · intro h X hX
      exact h (fun b6a b6l b6c i7 w => X [.slice b6a b6l b6c, .int .i64 i7] w) (fun b6a b6l b6c i7 w hb => hX [.slice b6a b6l b6c, .int .i64 i7] w ⟨rfl, rfl, trivial⟩ hb)
    · intro h X hX
      exact h (fun l w => match l with | [v0, v1] => X (pA v0) (pL v0) (pC v0) (pInt v1) w | _ => True) (fun l w hl hb => by
        obtain ⟨v0, l_v0, rfl, k_v0, hl_v0⟩ := Kinds.cons_ hl
        obtain ⟨b6a, b6l, b6c, rfl⟩ := kind_slice k_v0
        obtain ⟨v1, l_v1, rfl, k_v1, hl_v1⟩ := Kinds.cons_ hl_v0
        obtain ⟨i7, rfl⟩ := kind_int k_v1
        obtain rfl := Kinds.nil_ hl_v1
        exact hX b6a b6l b6c i7 w hb)

def T_ref08_targets (b1a : Option Addr) (b1l : Nat) (b1c : Nat) (l2a : Option Addr) (l2l : Nat) (l2c : Nat) (w : World) (R : Ending → World → Prop) : Prop :=
  Calls Tryz.prog 94 #[.slice b1a b1l b1c, .int .i64 ((l2l : Nat) : Int)] w (ret (fun r3 w4 => ∃ s5a : Option Addr, ∃ s5l : Nat, ∃ s5c : Nat, r3 = .slice s5a s5l s5c ∧ T_ref08_targets_1 s5a s5l s5c 0 l2a l2l l2c w4 (fun b39a b39l b39c w40 => R (.returned (.slice b39a b39l b39c)) w40) (pan R)) (pan R))

theorem T_ref08_targets_hl : allP (hokL Tryz.prog (hookAt [(29, H_ref08_targets_1)]) (bodyOf Tryz.f123) 1) = (UnitOk Tryz.prog H_ref08_targets_1 (at_ (bodyOf Tryz.f123) [1, 1, 0, 1]) 29 ∧ True) := by kernel_rfl

theorem T_ref08_targets_eq (b1a : Option Addr) (b1l : Nat) (b1c : Nat) (l2a : Option Addr) (l2l : Nat) (l2c : Nat) (w : World) (R : Ending → World → Prop) : vcCode Tryz.prog (hookAt [(29, H_ref08_targets_1)]) (bodyOf Tryz.f123) 1 ⟨argEnv [.slice b1a b1l b1c, .slice l2a l2l l2c] 0, Tryz.f123.ntmps, []⟩ w (finQ Tryz.prog Tryz.f123.results.toList R) = T_ref08_targets b1a b1l b1c l2a l2l l2c w R := by kernel_rfl

theorem T_ref08_targets_b : Tryz.f123.body = some (bodyOf Tryz.f123) := by kernel_rfl
theorem T_ref08_targets_s : (quietSel (bodyOf Tryz.f123) && Nat.ble 2 Tryz.f123.ntmps) = true := by kernel_rfl

theorem C_ref08_targets {b1a : Option Addr} {b1l : Nat} {b1c : Nat} {l2a : Option Addr} {l2l : Nat} {l2c : Nat} {w : World} {R : Ending → World → Prop} (h : T_ref08_targets b1a b1l b1c l2a l2l l2c w R) : Calls Tryz.prog 123 #[.slice b1a b1l b1c, .slice l2a l2l l2c] w R :=
  calls_of_text (args := [.slice b1a b1l b1c, .slice l2a l2l l2c]) mixed Tryz.func123 T_ref08_targets_b T_ref08_targets_s (HOk_of _ _ (by rw [T_ref08_targets_hl]; exact ⟨T_ref08_targets_1_ok, trivial⟩)) (by rw [T_ref08_targets_eq]; exact h)

/-! tollgate/tollgateref08.text -/
def T_ref08_text (b1a : Option Addr) (b1l : Nat) (b1c : Nat) (s2 : ByteArray) (w : World) (R : Ending → World → Prop) : Prop :=
  Calls Tryz.prog 94 #[.slice b1a b1l b1c, .int .i64 ((s2.size : Nat) : Int)] w (ret (fun r3 w4 => ∃ s5a : Option Addr, ∃ s5l : Nat, ∃ s5c : Nat, r3 = .slice s5a s5l s5c ∧ runV Tryz.prog (Builtin.append_ #[56, 9] 56 #[.slice s5a s5l s5c, .string s2]) w4 (fun r6 w7 => ∃ s8a : Option Addr, ∃ s8l : Nat, ∃ s8c : Nat, r6 = .slice s8a s8l s8c ∧ R (.returned (.slice s8a s8l s8c)) w7) (pan R)) (pan R))

theorem T_ref08_text_hl : allP (hokL Tryz.prog (hookAt []) (bodyOf Tryz.f124) 1) = (True) := by kernel_rfl

theorem T_ref08_text_eq (b1a : Option Addr) (b1l : Nat) (b1c : Nat) (s2 : ByteArray) (w : World) (R : Ending → World → Prop) : vcCode Tryz.prog (hookAt []) (bodyOf Tryz.f124) 1 ⟨argEnv [.slice b1a b1l b1c, .string s2] 0, Tryz.f124.ntmps, []⟩ w (finQ Tryz.prog Tryz.f124.results.toList R) = T_ref08_text b1a b1l b1c s2 w R := by kernel_rfl

theorem T_ref08_text_b : Tryz.f124.body = some (bodyOf Tryz.f124) := by kernel_rfl
theorem T_ref08_text_s : (quietSel (bodyOf Tryz.f124) && Nat.ble 2 Tryz.f124.ntmps) = true := by kernel_rfl

theorem C_ref08_text {b1a : Option Addr} {b1l : Nat} {b1c : Nat} {s2 : ByteArray} {w : World} {R : Ending → World → Prop} (h : T_ref08_text b1a b1l b1c s2 w R) : Calls Tryz.prog 124 #[.slice b1a b1l b1c, .string s2] w R :=
  calls_of_text (args := [.slice b1a b1l b1c, .string s2]) mixed Tryz.func124 T_ref08_text_b T_ref08_text_s (HOk_of _ _ (by rw [T_ref08_text_hl]; exact trivial)) (by rw [T_ref08_text_eq]; exact h)

end Go.Proofs.YtcpmfjclkdjfmaaGreat
