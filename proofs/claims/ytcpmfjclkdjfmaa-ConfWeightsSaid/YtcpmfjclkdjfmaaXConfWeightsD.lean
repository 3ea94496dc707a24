/-
  Texts of this claim's own, laid into one: Gr, Gp, ConfPc, ConfP, ConfG, ConfX, GBack, ConfBk, GWeights, ConfWt.
-/
import Derived.Test.YtcpmfjclkdjfmaaProg
import Derived.KernelRfl
import Derived.Test.YtcpmfjclkdjfmaaXConfWeightsA
import Derived.Test.YtcpmfjclkdjfmaaXConfWeightsB
import Derived.Test.YtcpmfjclkdjfmaaXConfWeightsC
set_option linter.all false
/-
  What the functions' code comes to; printed by a program of this claim's own.
-/
namespace Go.Proofs.Ytcpmfjclkdjfmaa
open Go Go.Vc
set_option maxRecDepth 100000
set_option linter.unusedVariables false

/-! tollgate/conf.GetCommand -/
def T_conf_GetCommand (b1a : Option Addr) (b1l : Nat) (b1c : Nat) (w : World) (R : Ending → World → Prop) : Prop :=
  let w2 : World := w.alloc (.cells #[.int .i64 0, .int .i64 0, .int .i64 0, .int .i64 0, .string (ByteArray.mk #[]), .string (ByteArray.mk #[]), .string (ByteArray.mk #[]), .slice none 0 0] 28)
  let w3 : World := w2.alloc (.cells #[.slice b1a b1l b1c, .int .i64 0, .int .i64 0] 89)
  Calls Try.prog 43 #[.pointer (some (⟨w2.heap.size, 0, none⟩ : Addr)), .int .i64 1099511627776] w3 (ret (fun r4 w5 => ∃ x6 : Int, r4 = .int .i64 x6 ∧ Calls Try.prog 43 #[.pointer (some (⟨w2.heap.size, 0, none⟩ : Addr)), .int .i64 1099511627776] w5 (ret (fun r7 w8 => ∃ x9 : Int, r7 = .int .i64 x9 ∧ Calls Try.prog 43 #[.pointer (some (⟨w2.heap.size, 0, none⟩ : Addr)), .int .i64 1099511627776] w8 (ret (fun r10 w11 => ∃ x12 : Int, r10 = .int .i64 x12 ∧ Calls Try.prog 43 #[.pointer (some (⟨w2.heap.size, 0, none⟩ : Addr)), .int .i64 1099511627776] w11 (ret (fun r13 w14 => ∃ x15 : Int, r13 = .int .i64 x15 ∧ let w16 : World := w14.alloc (.cells #[.int .i64 0, .int .i64 0, .int .i64 0, .int .i64 0, .string (ByteArray.mk #[]), .string (ByteArray.mk #[]), .string (ByteArray.mk #[]), .slice none 0 0] 28)
  (.agg #[.int .i64 x6, .int .i64 x9, .int .i64 x12, .int .i64 (IntKind.wrap .i64 ((x15 : Int) - 1)), .string (ByteArray.mk #[]), .string (ByteArray.mk #[]), .string (ByteArray.mk #[]), .slice none 0 0] : Value).cells.size = 8 ∧ wrOk w16 (⟨w14.heap.size, 0, none⟩ : Addr) (.agg #[.int .i64 x6, .int .i64 x9, .int .i64 x12, .int .i64 (IntKind.wrap .i64 ((x15 : Int) - 1)), .string (ByteArray.mk #[]), .string (ByteArray.mk #[]), .string (ByteArray.mk #[]), .slice none 0 0]) ∧ let w17 : World := wr w16 (⟨w14.heap.size, 0, none⟩ : Addr) (.agg #[.int .i64 x6, .int .i64 x9, .int .i64 x12, .int .i64 (IntKind.wrap .i64 ((x15 : Int) - 1)), .string (ByteArray.mk #[]), .string (ByteArray.mk #[]), .string (ByteArray.mk #[]), .slice none 0 0])
  Calls Try.prog 44 #[.pointer (some (⟨w2.heap.size, 0, none⟩ : Addr))] w17 (ret (fun r18 w19 => ∃ s20 : ByteArray, r18 = .string s20 ∧ Calls Try.prog 44 #[.pointer (some (⟨w2.heap.size, 0, none⟩ : Addr))] w19 (ret (fun r21 w22 => ∃ s23 : ByteArray, r21 = .string s23 ∧ Calls Try.prog 44 #[.pointer (some (⟨w2.heap.size, 0, none⟩ : Addr))] w22 (ret (fun r24 w25 => ∃ s26 : ByteArray, r24 = .string s26 ∧ (.string s20 : Value).cells.size = 1 ∧ wrOk w25 ((⟨w14.heap.size, 0, none⟩ : Addr).add 4) (.string s20) ∧ let w27 : World := wr w25 ((⟨w14.heap.size, 0, none⟩ : Addr).add 4) (.string s20)
  (.string s23 : Value).cells.size = 1 ∧ wrOk w27 ((⟨w14.heap.size, 0, none⟩ : Addr).add 5) (.string s23) ∧ let w28 : World := wr w27 ((⟨w14.heap.size, 0, none⟩ : Addr).add 5) (.string s23)
  (.string s26 : Value).cells.size = 1 ∧ wrOk w28 ((⟨w14.heap.size, 0, none⟩ : Addr).add 6) (.string s26) ∧ let w29 : World := wr w28 ((⟨w14.heap.size, 0, none⟩ : Addr).add 6) (.string s26)
  Calls Try.prog 45 #[.pointer (some (⟨w2.heap.size, 0, none⟩ : Addr))] w29 (ret (fun r30 w31 => ∃ s32a : Option Addr, ∃ s32l : Nat, ∃ s32c : Nat, r30 = .slice s32a s32l s32c ∧ (.slice s32a s32l s32c : Value).cells.size = 1 ∧ wrOk w31 ((⟨w14.heap.size, 0, none⟩ : Addr).add 7) (.slice s32a s32l s32c) ∧ let w33 : World := wr w31 ((⟨w14.heap.size, 0, none⟩ : Addr).add 7) (.slice s32a s32l s32c)
  Calls Try.prog 46 #[.pointer (some (⟨w2.heap.size, 0, none⟩ : Addr)), .func (.func 47) #[] #[.pointer (some (⟨w14.heap.size, 0, none⟩ : Addr))]] w33 (ret (fun r34 w35 => ∃ x36 : Int, r34 = .int .i64 x36 ∧ if ((x36 : Int) != 0) = true then ((.agg #[.int .i64 0, .int .i64 0, .int .i64 0, .int .i64 0, .string (ByteArray.mk #[]), .string (ByteArray.mk #[]), .string (ByteArray.mk #[]), .slice none 0 0] : Value).cells.size = 8 ∧ wrOk w35 (⟨w.heap.size, 0, none⟩ : Addr) (.agg #[.int .i64 0, .int .i64 0, .int .i64 0, .int .i64 0, .string (ByteArray.mk #[]), .string (ByteArray.mk #[]), .string (ByteArray.mk #[]), .slice none 0 0]) ∧ let w37 : World := wr w35 (⟨w.heap.size, 0, none⟩ : Addr) (.agg #[.int .i64 0, .int .i64 0, .int .i64 0, .int .i64 0, .string (ByteArray.mk #[]), .string (ByteArray.mk #[]), .string (ByteArray.mk #[]), .slice none 0 0])
  ∃ x38 : Int, ∃ x39 : Int, ∃ x40 : Int, ∃ x41 : Int, ∃ s42 : ByteArray, ∃ s43 : ByteArray, ∃ s44 : ByteArray, ∃ s45a : Option Addr, ∃ s45l : Nat, ∃ s45c : Nat, rd w37 (⟨w.heap.size, 0, none⟩ : Addr) (.agg #[.int .i64 x38, .int .i64 x39, .int .i64 x40, .int .i64 x41, .string s42, .string s43, .string s44, .slice s45a s45l s45c]) ∧ R (.returned (.tuple #[.agg #[.int .i64 x38, .int .i64 x39, .int .i64 x40, .int .i64 x41, .string s42, .string s43, .string s44, .slice s45a s45l s45c], .int .i64 x36])) w37) else (∃ x46 : Int, ∃ x47 : Int, ∃ x48 : Int, ∃ x49 : Int, ∃ s50 : ByteArray, ∃ s51 : ByteArray, ∃ s52 : ByteArray, ∃ s53a : Option Addr, ∃ s53l : Nat, ∃ s53c : Nat, rd w35 (⟨w14.heap.size, 0, none⟩ : Addr) (.agg #[.int .i64 x46, .int .i64 x47, .int .i64 x48, .int .i64 x49, .string s50, .string s51, .string s52, .slice s53a s53l s53c]) ∧ (.agg #[.int .i64 x46, .int .i64 x47, .int .i64 x48, .int .i64 x49, .string s50, .string s51, .string s52, .slice s53a s53l s53c] : Value).cells.size = 8 ∧ wrOk w35 (⟨w.heap.size, 0, none⟩ : Addr) (.agg #[.int .i64 x46, .int .i64 x47, .int .i64 x48, .int .i64 x49, .string s50, .string s51, .string s52, .slice s53a s53l s53c]) ∧ let w54 : World := wr w35 (⟨w.heap.size, 0, none⟩ : Addr) (.agg #[.int .i64 x46, .int .i64 x47, .int .i64 x48, .int .i64 x49, .string s50, .string s51, .string s52, .slice s53a s53l s53c])
  ∃ x55 : Int, ∃ x56 : Int, ∃ x57 : Int, ∃ x58 : Int, ∃ s59 : ByteArray, ∃ s60 : ByteArray, ∃ s61 : ByteArray, ∃ s62a : Option Addr, ∃ s62l : Nat, ∃ s62c : Nat, rd w54 (⟨w.heap.size, 0, none⟩ : Addr) (.agg #[.int .i64 x55, .int .i64 x56, .int .i64 x57, .int .i64 x58, .string s59, .string s60, .string s61, .slice s62a s62l s62c]) ∧ R (.returned (.tuple #[.agg #[.int .i64 x55, .int .i64 x56, .int .i64 x57, .int .i64 x58, .string s59, .string s60, .string s61, .slice s62a s62l s62c], .int .i64 0])) w54)) (pan R))) (pan R))) (pan R))) (pan R))) (pan R))) (pan R))) (pan R))) (pan R))) (pan R))

theorem T_conf_GetCommand_hl : allP (hokL Try.prog (hookAt []) (bodyOf Try.f18) 1) = (True) := by kernel_rfl

theorem T_conf_GetCommand_eq (b1a : Option Addr) (b1l : Nat) (b1c : Nat) (w : World) (R : Ending → World → Prop) : vcCode Try.prog (hookAt []) (bodyOf Try.f18) 1 ⟨argEnv [.slice b1a b1l b1c] 0, Try.f18.ntmps, []⟩ w (finQ Try.prog Try.f18.results.toList R) = T_conf_GetCommand b1a b1l b1c w R := by kernel_rfl

theorem T_conf_GetCommand_b : Try.f18.body = some (bodyOf Try.f18) := by kernel_rfl
theorem T_conf_GetCommand_s : (quietSel (bodyOf Try.f18) && Nat.ble 1 Try.f18.ntmps) = true := by kernel_rfl

theorem C_conf_GetCommand {b1a : Option Addr} {b1l : Nat} {b1c : Nat} {w : World} {R : Ending → World → Prop} (h : T_conf_GetCommand b1a b1l b1c w R) : Calls Try.prog 18 #[.slice b1a b1l b1c] w R :=
  calls_of_text (args := [.slice b1a b1l b1c]) mixed Try.func18 T_conf_GetCommand_b T_conf_GetCommand_s (HOk_of _ _ (by rw [T_conf_GetCommand_hl]; exact trivial)) (by rw [T_conf_GetCommand_eq]; exact h)

/-! (*tollgate/conf.reader).num -/
def T_conf_reader_num_1 (most15 : Int) (n16 : Int) (e17 : Int) (w : World) (Kn : Bool → World → Prop) (Kp : List PanicEntry → World → Prop) : Prop :=
  if ((e17 : Int) == 0) = true then (Kn (decide ((n16 : Int) > most15)) w) else (Kn false w)

def T_conf_reader_num_1_outs : Exit → Option (List (Nat × Value)) := fun x => match x with | .normal => some [(32, .bool false)] | .panic _ => some [] | _ => none

def T_conf_reader_num_1_ks : Nat → Bool := ksOf [26, 27, 28, 29, 30, 31, 32]

def H_conf_reader_num_1 : Env → World → QT → Prop := unitHook 44 T_conf_reader_num_1_ks [(1, .int .i64 0), (5, .int .i64 0), (7, .int .i64 0)] T_conf_reader_num_1_outs fun l w C => match l with | [v0, v1, v2] => T_conf_reader_num_1 (pInt v0) (pInt v1) (pInt v2) w (fun b19 w => C .normal [.bool b19] w) (fun ch w => C (.panic ch) [] w) | _ => False

theorem T_conf_reader_num_1_hl : allP (hokL Try.prog (hookAt []) (at_ (bodyOf Try.f43) [1, 1, 1, 0, 0]) 60) = (True) := by kernel_rfl
theorem T_conf_reader_num_1_hok : HOk Try.prog (hookAt []) (at_ (bodyOf Try.f43) [1, 1, 1, 0, 0]) 60 := HOk_of _ _ (by rw [T_conf_reader_num_1_hl]; exact trivial)

theorem T_conf_reader_num_1_eq (C : Conts) (most15 : Int) (n16 : Int) (e17 : Int) (w : World) : vcCode Try.prog (hookAt []) (at_ (bodyOf Try.f43) [1, 1, 1, 0, 0]) 60 ⟨[(1, .int .i64 most15), (5, .int .i64 n16), (7, .int .i64 e17)], 44, []⟩ w (unitQ T_conf_reader_num_1_outs C) = T_conf_reader_num_1 most15 n16 e17 w (fun b20 w => C .normal [.bool b20] w) (fun ch w => C (.panic ch) [] w) := by kernel_rfl

theorem T_conf_reader_num_1_ok : UnitOk Try.prog H_conf_reader_num_1 (at_ (bodyOf Try.f43) [1, 1, 1, 0, 0]) 60 := unit_ok (H := (hookAt [])) (by kernel_rfl) T_conf_reader_num_1_hok fun l w C hk => by
    obtain ⟨v0, l_v0, rfl, k_v0, hk_v0⟩ := Kinds.cons_ hk
    obtain ⟨most15, rfl⟩ := kind_int k_v0
    obtain ⟨v1, l_v1, rfl, k_v1, hk_v1⟩ := Kinds.cons_ hk_v0
    obtain ⟨n16, rfl⟩ := kind_int k_v1
    obtain ⟨v2, l_v2, rfl, k_v2, hk_v2⟩ := Kinds.cons_ hk_v1
    obtain ⟨e17, rfl⟩ := kind_int k_v2
    obtain rfl := Kinds.nil_ hk_v2
    exact T_conf_reader_num_1_eq C most15 n16 e17 w

def T_conf_reader_num_2 (e23 : Int) (b24 : Bool) (w : World) (Kn : Int → World → Prop) (Kp : List PanicEntry → World → Prop) : Prop :=
  if b24 = true then (Kn 6 w) else (Kn e23 w)

def T_conf_reader_num_2_outs : Exit → Option (List (Nat × Value)) := fun x => match x with | .normal => some [(7, .int .i64 0)] | .panic _ => some [] | _ => none

def T_conf_reader_num_2_ks : Nat → Bool := ksOf [7]

def H_conf_reader_num_2 : Env → World → QT → Prop := unitHook 44 T_conf_reader_num_2_ks [(7, .int .i64 0), (32, .bool false)] T_conf_reader_num_2_outs fun l w C => match l with | [v0, v1] => T_conf_reader_num_2 (pInt v0) (pBool v1) w (fun e26 w => C .normal [.int .i64 e26] w) (fun ch w => C (.panic ch) [] w) | _ => False

theorem T_conf_reader_num_2_hl : allP (hokL Try.prog (hookAt []) (at_ (bodyOf Try.f43) [1, 1, 1, 0, 1]) 61) = (True) := by kernel_rfl
theorem T_conf_reader_num_2_hok : HOk Try.prog (hookAt []) (at_ (bodyOf Try.f43) [1, 1, 1, 0, 1]) 61 := HOk_of _ _ (by rw [T_conf_reader_num_2_hl]; exact trivial)

theorem T_conf_reader_num_2_eq (C : Conts) (e23 : Int) (b24 : Bool) (w : World) : vcCode Try.prog (hookAt []) (at_ (bodyOf Try.f43) [1, 1, 1, 0, 1]) 61 ⟨[(7, .int .i64 e23), (32, .bool b24)], 44, []⟩ w (unitQ T_conf_reader_num_2_outs C) = T_conf_reader_num_2 e23 b24 w (fun e27 w => C .normal [.int .i64 e27] w) (fun ch w => C (.panic ch) [] w) := by kernel_rfl

theorem T_conf_reader_num_2_ok : UnitOk Try.prog H_conf_reader_num_2 (at_ (bodyOf Try.f43) [1, 1, 1, 0, 1]) 61 := unit_ok (H := (hookAt [])) (by kernel_rfl) T_conf_reader_num_2_hok fun l w C hk => by
    obtain ⟨v0, l_v0, rfl, k_v0, hk_v0⟩ := Kinds.cons_ hk
    obtain ⟨e23, rfl⟩ := kind_int k_v0
    obtain ⟨v1, l_v1, rfl, k_v1, hk_v1⟩ := Kinds.cons_ hk_v0
    obtain ⟨b24, rfl⟩ := kind_bool k_v1
    obtain rfl := Kinds.nil_ hk_v1
    exact T_conf_reader_num_2_eq C e23 b24 w

def T_conf_reader_num (r1 : Option Addr) (most2 : Int) (w : World) (R : Ending → World → Prop) : Prop :=
  ∃ a3, r1 = some a3 ∧ ∃ x4 : Int, rd w (a3.add 2) (.int .i64 x4) ∧ if ((x4 : Int) != 0) = true then (R (.returned (.int .i64 0)) w) else (let w5 : World := w.drew
  ∃ a6, r1 = some a6 ∧ ∃ s7a : Option Addr, ∃ s7l : Nat, ∃ s7c : Nat, rd w5 a6 (.slice s7a s7l s7c) ∧ ∃ a8, r1 = some a8 ∧ ∃ x9 : Int, rd w5 (a8.add 1) (.int .i64 x9) ∧ Calls Try.prog 70 #[.slice s7a s7l s7c, .int .i64 x9] w5 (ret (fun r10 w11 => ∃ x12 : Int, ∃ x13 : Int, ∃ x14 : Int, r10 = .tuple #[.int .i64 x12, .int .i64 x13, .int .i64 x14] ∧ (True) ∧ T_conf_reader_num_1 most2 x12 x14 w11 (fun b21 w22 => T_conf_reader_num_2 x14 b21 w22 (fun e28 w29 => if ((e28 : Int) != 0) = true then (∃ a30, r1 = some a30 ∧ (.int .i64 e28 : Value).cells.size = 1 ∧ wrOk w29 (a30.add 2) (.int .i64 e28) ∧ let w31 : World := wr w29 (a30.add 2) (.int .i64 e28)
  R (.returned (.int .i64 0)) w31) else (∃ a32, r1 = some a32 ∧ (.int .i64 x13 : Value).cells.size = 1 ∧ wrOk w29 (a32.add 1) (.int .i64 x13) ∧ let w33 : World := wr w29 (a32.add 1) (.int .i64 x13)
  R (.returned (.int .i64 x12)) w33)) (pan R)) (pan R)) (pan R)))

theorem T_conf_reader_num_hl : allP (hokL Try.prog (hookAt [(60, H_conf_reader_num_1), (61, H_conf_reader_num_2)]) (bodyOf Try.f43) 1) = (UnitOk Try.prog H_conf_reader_num_1 (at_ (bodyOf Try.f43) [1, 1, 1, 0, 0]) 60 ∧ UnitOk Try.prog H_conf_reader_num_2 (at_ (bodyOf Try.f43) [1, 1, 1, 0, 1]) 61 ∧ True) := by kernel_rfl

theorem T_conf_reader_num_eq (r1 : Option Addr) (most2 : Int) (w : World) (R : Ending → World → Prop) : vcCode Try.prog (hookAt [(60, H_conf_reader_num_1), (61, H_conf_reader_num_2)]) (bodyOf Try.f43) 1 ⟨argEnv [.pointer r1, .int .i64 most2] 0, Try.f43.ntmps, []⟩ w (finQ Try.prog Try.f43.results.toList R) = T_conf_reader_num r1 most2 w R := by kernel_rfl

theorem T_conf_reader_num_b : Try.f43.body = some (bodyOf Try.f43) := by kernel_rfl
theorem T_conf_reader_num_s : (quietSel (bodyOf Try.f43) && Nat.ble 2 Try.f43.ntmps) = true := by kernel_rfl

theorem C_conf_reader_num {r1 : Option Addr} {most2 : Int} {w : World} {R : Ending → World → Prop} (h : T_conf_reader_num r1 most2 w R) : Calls Try.prog 43 #[.pointer r1, .int .i64 most2] w R :=
  calls_of_text (args := [.pointer r1, .int .i64 most2]) mixed Try.func43 T_conf_reader_num_b T_conf_reader_num_s (HOk_of _ _ (by rw [T_conf_reader_num_hl]; exact ⟨T_conf_reader_num_1_ok, T_conf_reader_num_2_ok, trivial⟩)) (by rw [T_conf_reader_num_eq]; exact h)

/-! (*tollgate/conf.reader).text -/
def T_conf_reader_text (r1 : Option Addr) (w : World) (R : Ending → World → Prop) : Prop :=
  Calls Try.prog 43 #[.pointer r1, .int .i64 128] w (ret (fun r2 w3 => ∃ x4 : Int, r2 = .int .i64 x4 ∧ Calls Try.prog 71 #[.pointer r1, .int .i64 x4] w3 (ret (fun r5 w6 => ∃ s7a : Option Addr, ∃ s7l : Nat, ∃ s7c : Nat, r5 = .slice s7a s7l s7c ∧ runV Try.prog (convert 42 9 (.slice s7a s7l s7c)) w6 (fun r8 w9 => ∃ s10 : ByteArray, r8 = .string s10 ∧ R (.returned (.string s10)) w9) (pan R)) (pan R))) (pan R))

theorem T_conf_reader_text_hl : allP (hokL Try.prog (hookAt []) (bodyOf Try.f44) 1) = (True) := by kernel_rfl

theorem T_conf_reader_text_eq (r1 : Option Addr) (w : World) (R : Ending → World → Prop) : vcCode Try.prog (hookAt []) (bodyOf Try.f44) 1 ⟨argEnv [.pointer r1] 0, Try.f44.ntmps, []⟩ w (finQ Try.prog Try.f44.results.toList R) = T_conf_reader_text r1 w R := by kernel_rfl

theorem T_conf_reader_text_b : Try.f44.body = some (bodyOf Try.f44) := by kernel_rfl
theorem T_conf_reader_text_s : (quietSel (bodyOf Try.f44) && Nat.ble 1 Try.f44.ntmps) = true := by kernel_rfl

theorem C_conf_reader_text {r1 : Option Addr} {w : World} {R : Ending → World → Prop} (h : T_conf_reader_text r1 w R) : Calls Try.prog 44 #[.pointer r1] w R :=
  calls_of_text (args := [.pointer r1]) mixed Try.func44 T_conf_reader_text_b T_conf_reader_text_s (HOk_of _ _ (by rw [T_conf_reader_text_hl]; exact trivial)) (by rw [T_conf_reader_text_eq]; exact h)

/-! (*tollgate/conf.reader).targets -/
def T_conf_reader_targets_2 (r8 : Option Addr) (n9 : Int) (w : World) (Kn : Bool → World → Prop) (Kp : List PanicEntry → World → Prop) : Prop :=
  if (decide ((n9 : Int) > 0)) = true then (∃ a10, r8 = some a10 ∧ ∃ x11 : Int, rd w (a10.add 2) (.int .i64 x11) ∧ Kn ((x11 : Int) == 0) w) else (Kn false w)

def T_conf_reader_targets_2_outs : Exit → Option (List (Nat × Value)) := fun x => match x with | .normal => some [(15, .bool false)] | .panic _ => some [] | _ => none

def T_conf_reader_targets_2_ks : Nat → Bool := ksOf [7, 8, 9, 10, 11, 12, 13, 14, 15]

def H_conf_reader_targets_2 : Env → World → QT → Prop := unitHook 27 T_conf_reader_targets_2_ks [(0, .pointer none), (4, .int .i64 0)] T_conf_reader_targets_2_outs fun l w C => match l with | [v0, v1] => T_conf_reader_targets_2 (pPtr v0) (pInt v1) w (fun b13 w => C .normal [.bool b13] w) (fun ch w => C (.panic ch) [] w) | _ => False

theorem T_conf_reader_targets_2_hl : allP (hokL Try.prog (hookAt []) (at_ (bodyOf Try.f45) [1, 1, 0, 1, 0, 0, 0, 0]) 464) = (True) := by kernel_rfl
theorem T_conf_reader_targets_2_hok : HOk Try.prog (hookAt []) (at_ (bodyOf Try.f45) [1, 1, 0, 1, 0, 0, 0, 0]) 464 := HOk_of _ _ (by rw [T_conf_reader_targets_2_hl]; exact trivial)

theorem T_conf_reader_targets_2_eq (C : Conts) (r8 : Option Addr) (n9 : Int) (w : World) : vcCode Try.prog (hookAt []) (at_ (bodyOf Try.f45) [1, 1, 0, 1, 0, 0, 0, 0]) 464 ⟨[(0, .pointer r8), (4, .int .i64 n9)], 27, []⟩ w (unitQ T_conf_reader_targets_2_outs C) = T_conf_reader_targets_2 r8 n9 w (fun b14 w => C .normal [.bool b14] w) (fun ch w => C (.panic ch) [] w) := by kernel_rfl

theorem T_conf_reader_targets_2_ok : UnitOk Try.prog H_conf_reader_targets_2 (at_ (bodyOf Try.f45) [1, 1, 0, 1, 0, 0, 0, 0]) 464 := unit_ok (H := (hookAt [])) (by kernel_rfl) T_conf_reader_targets_2_hok fun l w C hk => by
    obtain ⟨v0, l_v0, rfl, k_v0, hk_v0⟩ := Kinds.cons_ hk
    obtain ⟨r8, rfl⟩ := kind_pointer k_v0
    obtain ⟨v1, l_v1, rfl, k_v1, hk_v1⟩ := Kinds.cons_ hk_v0
    obtain ⟨n9, rfl⟩ := kind_int k_v1
    obtain rfl := Kinds.nil_ hk_v1
    exact T_conf_reader_targets_2_eq C r8 n9 w

def T_conf_reader_targets_1_body (X : Option Addr → Nat → Nat → Int → World → Prop) (l5a : Option Addr) (l5l : Nat) (l5c : Nat) (n6 : Int) (r7 : Option Addr) (w : World) (Kn : Option Addr → Nat → Nat → World → Prop) (Kp : List PanicEntry → World → Prop)  : Prop :=
  T_conf_reader_targets_2 r7 n6 w (fun b15 w16 => if b15 = true then (Calls Try.prog 44 #[.pointer r7] w16 (ret (fun r17 w18 => ∃ s19 : ByteArray, r17 = .string s19 ∧ Calls Try.prog 72 #[.pointer r7] w18 (ret (fun r20 w21 => ∃ f22 : Nat, r20 = .float .f64 f22 ∧ let w23 : World := w21.alloc (.cells #[.string s19, .float .f64 f22] 55)
  runV Try.prog (Builtin.append_ #[26, 26] 26 #[.slice l5a l5l l5c, .slice (some (⟨w21.heap.size, 0, none⟩ : Addr)) 1 1]) w23 (fun r24 w25 => ∃ s26a : Option Addr, ∃ s26l : Nat, ∃ s26c : Nat, r24 = .slice s26a s26l s26c ∧ X s26a s26l s26c (IntKind.wrap .i64 ((n6 : Int) - 1)) w25) Kp) Kp)) Kp)) else (Kn l5a l5l l5c w16)) Kp

def T_conf_reader_targets_1 (l5a : Option Addr) (l5l : Nat) (l5c : Nat) (n6 : Int) (r7 : Option Addr) (w : World) (Kn : Option Addr → Nat → Nat → World → Prop) (Kp : List PanicEntry → World → Prop) : Prop :=
  ∀ X : Option Addr → Nat → Nat → Int → World → Prop, (∀ (l5a : Option Addr) (l5l : Nat) (l5c : Nat) (n6 : Int) (w : World), T_conf_reader_targets_1_body X l5a l5l l5c n6 r7 w Kn Kp → X l5a l5l l5c n6 w) → X l5a l5l l5c n6 w

def T_conf_reader_targets_1_outs : Exit → Option (List (Nat × Value)) := fun x => match x with | .normal => some [(3, .slice none 0 0)] | .panic _ => some [] | _ => none

def T_conf_reader_targets_1_ks : Nat → Bool := ksOf [3, 4, 7, 8, 9, 10, 11, 12, 13, 14, 15, 16, 17, 18, 19, 20, 21, 22, 23, 24, 25]

def H_conf_reader_targets_1 : Env → World → QT → Prop := unitHook 27 T_conf_reader_targets_1_ks [(3, .slice none 0 0), (4, .int .i64 0), (0, .pointer none)] T_conf_reader_targets_1_outs fun l w C => match l with | [v0, v1, v2] => T_conf_reader_targets_1 (pA v0) (pL v0) (pC v0) (pInt v1) (pPtr v2) w (fun l28a l28l l28c w => C .normal [.slice l28a l28l l28c] w) (fun ch w => C (.panic ch) [] w) | _ => False

theorem T_conf_reader_targets_1_hl : allP (hokL Try.prog (hookAt [(464, H_conf_reader_targets_2)]) (at_ (bodyOf Try.f45) [1, 1, 0, 1, 0, 0]) 116) = (UnitOk Try.prog H_conf_reader_targets_2 (at_ (bodyOf Try.f45) [1, 1, 0, 1, 0, 0, 0, 0]) 464 ∧ True) := by kernel_rfl
theorem T_conf_reader_targets_1_hok : HOk Try.prog (hookAt [(464, H_conf_reader_targets_2)]) (at_ (bodyOf Try.f45) [1, 1, 0, 1, 0, 0]) 116 := HOk_of _ _ (by rw [T_conf_reader_targets_1_hl]; exact ⟨T_conf_reader_targets_2_ok, trivial⟩)

theorem T_conf_reader_targets_1_eq (C : Conts) (X : List Value → World → Prop) (l5a : Option Addr) (l5l : Nat) (l5c : Nat) (n6 : Int) (r7 : Option Addr) (w : World) : vcCode Try.prog (hookAt [(464, H_conf_reader_targets_2)]) (at_ (bodyOf Try.f45) [1, 1, 0, 1, 0, 0]) 116 ⟨[(3, .slice l5a l5l l5c), (4, .int .i64 n6)] ++ [(0, .pointer r7)], 27, []⟩ w (seqQ (fun e w => takeAll e [(3, .slice none 0 0), (4, .int .i64 0)] fun l => X l w) (blockQ 0 (unitQ T_conf_reader_targets_1_outs C))) = T_conf_reader_targets_1_body (fun l5a l5l l5c n6 w => X [.slice l5a l5l l5c, .int .i64 n6] w) l5a l5l l5c n6 r7 w (fun l29a l29l l29c w => C .normal [.slice l29a l29l l29c] w) (fun ch w => C (.panic ch) [] w) := by kernel_rfl

theorem T_conf_reader_targets_1_ok : UnitOk Try.prog H_conf_reader_targets_1 (at_ (bodyOf Try.f45) [1, 1, 0, 1]) 29 := by
  have hc : at_ (bodyOf Try.f45) [1, 1, 0, 1] = .block 0 (.loop (at_ (bodyOf Try.f45) [1, 1, 0, 1, 0, 0])) := by kernel_rfl
  rw [hc]
  refine loop_unit_ok (carr := [(3, .slice none 0 0), (4, .int .i64 0)]) (fix := [(0, .pointer none)]) (ks := T_conf_reader_targets_1_ks) (H := (hookAt [(464, H_conf_reader_targets_2)])) (B := fun C X l u w => match l, u with | [v0, v1], [v2] => T_conf_reader_targets_1_body (fun l5a l5l l5c n6 w => X [.slice l5a l5l l5c, .int .i64 n6] w) (pA v0) (pL v0) (pC v0) (pInt v1) (pPtr v2) w (fun l30a l30l l30c w => C .normal [.slice l30a l30l l30c] w) (fun ch w => C (.panic ch) [] w) | _, _ => False) (by kernel_rfl) (by kernel_rfl) T_conf_reader_targets_1_hok ?_ ?_
  · intro C X l u w hl hu
    obtain ⟨v0, l_v0, rfl, k_v0, hl_v0⟩ := Kinds.cons_ hl
    obtain ⟨l5a, l5l, l5c, rfl⟩ := kind_slice k_v0
    obtain ⟨v1, l_v1, rfl, k_v1, hl_v1⟩ := Kinds.cons_ hl_v0
    obtain ⟨n6, rfl⟩ := kind_int k_v1
    obtain rfl := Kinds.nil_ hl_v1
    obtain ⟨v2, l_v2, rfl, k_v2, hu_v2⟩ := Kinds.cons_ hu
    obtain ⟨r7, rfl⟩ := kind_pointer k_v2
    obtain rfl := Kinds.nil_ hu_v2
    exact T_conf_reader_targets_1_eq C X l5a l5l l5c n6 r7 w
  · intro l u w C hl hu
    obtain ⟨v0, l_v0, rfl, k_v0, hl_v0⟩ := Kinds.cons_ hl
    obtain ⟨l5a, l5l, l5c, rfl⟩ := kind_slice k_v0
    obtain ⟨v1, l_v1, rfl, k_v1, hl_v1⟩ := Kinds.cons_ hl_v0
    obtain ⟨n6, rfl⟩ := kind_int k_v1
    obtain rfl := Kinds.nil_ hl_v1
    obtain ⟨v2, l_v2, rfl, k_v2, hu_v2⟩ := Kinds.cons_ hu
    obtain ⟨r7, rfl⟩ := kind_pointer k_v2
    obtain rfl := Kinds.nil_ hu_v2
    constructor
    · intro h X hX
      exact h (fun l5a l5l l5c n6 w => X [.slice l5a l5l l5c, .int .i64 n6] w) (fun l5a l5l l5c n6 w hb => hX [.slice l5a l5l l5c, .int .i64 n6] w ⟨rfl, rfl, trivial⟩ hb)
    · intro h X hX
      exact h (fun l w => match l with | [v0, v1] => X (pA v0) (pL v0) (pC v0) (pInt v1) w | _ => True) (fun l w hl hb => by
        obtain ⟨v0, l_v0, rfl, k_v0, hl_v0⟩ := Kinds.cons_ hl
        obtain ⟨l5a, l5l, l5c, rfl⟩ := kind_slice k_v0
        obtain ⟨v1, l_v1, rfl, k_v1, hl_v1⟩ := Kinds.cons_ hl_v0
        obtain ⟨n6, rfl⟩ := kind_int k_v1
        obtain rfl := Kinds.nil_ hl_v1
        exact hX l5a l5l l5c n6 w hb)

def T_conf_reader_targets (r1 : Option Addr) (w : World) (R : Ending → World → Prop) : Prop :=
  Calls Try.prog 43 #[.pointer r1, .int .i64 16] w (ret (fun r2 w3 => ∃ x4 : Int, r2 = .int .i64 x4 ∧ T_conf_reader_targets_1 none 0 0 x4 r1 w3 (fun l31a l31l l31c w32 => R (.returned (.slice l31a l31l l31c)) w32) (pan R)) (pan R))

theorem T_conf_reader_targets_hl : allP (hokL Try.prog (hookAt [(29, H_conf_reader_targets_1)]) (bodyOf Try.f45) 1) = (UnitOk Try.prog H_conf_reader_targets_1 (at_ (bodyOf Try.f45) [1, 1, 0, 1]) 29 ∧ True) := by kernel_rfl

theorem T_conf_reader_targets_eq (r1 : Option Addr) (w : World) (R : Ending → World → Prop) : vcCode Try.prog (hookAt [(29, H_conf_reader_targets_1)]) (bodyOf Try.f45) 1 ⟨argEnv [.pointer r1] 0, Try.f45.ntmps, []⟩ w (finQ Try.prog Try.f45.results.toList R) = T_conf_reader_targets r1 w R := by kernel_rfl

theorem T_conf_reader_targets_b : Try.f45.body = some (bodyOf Try.f45) := by kernel_rfl
theorem T_conf_reader_targets_s : (quietSel (bodyOf Try.f45) && Nat.ble 1 Try.f45.ntmps) = true := by kernel_rfl

theorem C_conf_reader_targets {r1 : Option Addr} {w : World} {R : Ending → World → Prop} (h : T_conf_reader_targets r1 w R) : Calls Try.prog 45 #[.pointer r1] w R :=
  calls_of_text (args := [.pointer r1]) mixed Try.func45 T_conf_reader_targets_b T_conf_reader_targets_s (HOk_of _ _ (by rw [T_conf_reader_targets_hl]; exact ⟨T_conf_reader_targets_1_ok, trivial⟩)) (by rw [T_conf_reader_targets_eq]; exact h)

/-! (*tollgate/conf.reader).end -/
def T_conf_reader_end_1 (r3 : Option Addr) (right4g : FuncId) (right4i : Array Value) (right4c : Array Value) (w : World) (Kn : Bool → World → Prop) (Kp : List PanicEntry → World → Prop) : Prop :=
  let w5 : World := w.drew
  ∃ a6, r3 = some a6 ∧ ∃ x7 : Int, rd w5 (a6.add 2) (.int .i64 x7) ∧ if ((x7 : Int) == 0) = true then (∃ a8, r3 = some a8 ∧ ∃ x9 : Int, rd w5 (a8.add 1) (.int .i64 x9) ∧ ∃ a10, r3 = some a10 ∧ ∃ s11a : Option Addr, ∃ s11l : Nat, ∃ s11c : Nat, rd w5 a10 (.slice s11a s11l s11c) ∧ if (decide ((x9 : Int) < ((s11l : Nat) : Int))) = true then ((rd w5 a10 (.slice s11a s11l s11c) ∧ rd w5 (a6.add 2) (.int .i64 x7) ∧ True) ∧ Kn true w5) else (hasBody Try.prog right4g = true ∧ Calls Try.prog right4g ⟨right4i.toList ++ ([] ++ right4c.toList)⟩ w5 (ret (fun r12 w13 => ∃ b14 : Bool, r12 = .bool b14 ∧ (rd w13 a10 (.slice s11a s11l s11c) ∧ rd w13 (a6.add 2) (.int .i64 x7) ∧ True) ∧ Kn (!b14) w13) Kp))) else ((rd w5 (a6.add 2) (.int .i64 x7) ∧ True) ∧ Kn false w5)

def T_conf_reader_end_1_outs : Exit → Option (List (Nat × Value)) := fun x => match x with | .normal => some [(26, .bool false)] | .panic _ => some [] | _ => none

def T_conf_reader_end_1_ks : Nat → Bool := ksOf [5, 6, 7, 8, 9, 10, 11, 12, 13, 14, 15, 16, 17, 18, 19, 20, 21, 22, 23, 24, 25, 26]

def H_conf_reader_end_1 : Env → World → QT → Prop := unitHook 34 T_conf_reader_end_1_ks [(0, .pointer none), (1, .func (.func 0) #[] #[])] T_conf_reader_end_1_outs fun l w C => match l with | [v0, v1] => T_conf_reader_end_1 (pPtr v0) (pFn v1) (pFi v1) (pCa v1) w (fun b16 w => C .normal [.bool b16] w) (fun ch w => C (.panic ch) [] w) | _ => False

theorem T_conf_reader_end_1_hl : allP (hokL Try.prog (hookAt []) (at_ (bodyOf Try.f46) [1, 0, 0]) 12) = (True) := by kernel_rfl
theorem T_conf_reader_end_1_hok : HOk Try.prog (hookAt []) (at_ (bodyOf Try.f46) [1, 0, 0]) 12 := HOk_of _ _ (by rw [T_conf_reader_end_1_hl]; exact trivial)

theorem T_conf_reader_end_1_eq (C : Conts) (r3 : Option Addr) (right4g : FuncId) (right4i : Array Value) (right4c : Array Value) (w : World) : vcCode Try.prog (hookAt []) (at_ (bodyOf Try.f46) [1, 0, 0]) 12 ⟨[(0, .pointer r3), (1, .func (.func right4g) right4i right4c)], 34, []⟩ w (unitQ T_conf_reader_end_1_outs C) = T_conf_reader_end_1 r3 right4g right4i right4c w (fun b17 w => C .normal [.bool b17] w) (fun ch w => C (.panic ch) [] w) := by kernel_rfl

theorem T_conf_reader_end_1_ok : UnitOk Try.prog H_conf_reader_end_1 (at_ (bodyOf Try.f46) [1, 0, 0]) 12 := unit_ok (H := (hookAt [])) (by kernel_rfl) T_conf_reader_end_1_hok fun l w C hk => by
    obtain ⟨v0, l_v0, rfl, k_v0, hk_v0⟩ := Kinds.cons_ hk
    obtain ⟨r3, rfl⟩ := kind_pointer k_v0
    obtain ⟨v1, l_v1, rfl, k_v1, hk_v1⟩ := Kinds.cons_ hk_v0
    obtain ⟨right4g, right4i, right4c, rfl⟩ := kind_func k_v1
    obtain rfl := Kinds.nil_ hk_v1
    exact T_conf_reader_end_1_eq C r3 right4g right4i right4c w

def T_conf_reader_end (r1 : Option Addr) (right2g : FuncId) (right2i : Array Value) (right2c : Array Value) (w : World) (R : Ending → World → Prop) : Prop :=
  T_conf_reader_end_1 r1 right2g right2i right2c w (fun b18 w19 => if b18 = true then (∃ a20, r1 = some a20 ∧ (.int .i64 4 : Value).cells.size = 1 ∧ wrOk w19 (a20.add 2) (.int .i64 4) ∧ let w21 : World := wr w19 (a20.add 2) (.int .i64 4)
  ∃ a22, r1 = some a22 ∧ ∃ x23 : Int, rd w21 (a22.add 2) (.int .i64 x23) ∧ R (.returned (.int .i64 x23)) w21) else (∃ a24, r1 = some a24 ∧ ∃ x25 : Int, rd w19 (a24.add 2) (.int .i64 x25) ∧ R (.returned (.int .i64 x25)) w19)) (pan R)

theorem T_conf_reader_end_hl : allP (hokL Try.prog (hookAt [(12, H_conf_reader_end_1)]) (bodyOf Try.f46) 1) = (UnitOk Try.prog H_conf_reader_end_1 (at_ (bodyOf Try.f46) [1, 0, 0]) 12 ∧ True) := by kernel_rfl

theorem T_conf_reader_end_eq (r1 : Option Addr) (right2g : FuncId) (right2i : Array Value) (right2c : Array Value) (w : World) (R : Ending → World → Prop) : vcCode Try.prog (hookAt [(12, H_conf_reader_end_1)]) (bodyOf Try.f46) 1 ⟨argEnv [.pointer r1, .func (.func right2g) right2i right2c] 0, Try.f46.ntmps, []⟩ w (finQ Try.prog Try.f46.results.toList R) = T_conf_reader_end r1 right2g right2i right2c w R := by kernel_rfl

theorem T_conf_reader_end_b : Try.f46.body = some (bodyOf Try.f46) := by kernel_rfl
theorem T_conf_reader_end_s : (quietSel (bodyOf Try.f46) && Nat.ble 2 Try.f46.ntmps) = true := by kernel_rfl

theorem C_conf_reader_end {r1 : Option Addr} {right2g : FuncId} {right2i : Array Value} {right2c : Array Value} {w : World} {R : Ending → World → Prop} (h : T_conf_reader_end r1 right2g right2i right2c w R) : Calls Try.prog 46 #[.pointer r1, .func (.func right2g) right2i right2c] w R :=
  calls_of_text (args := [.pointer r1, .func (.func right2g) right2i right2c]) mixed Try.func46 T_conf_reader_end_b T_conf_reader_end_s (HOk_of _ _ (by rw [T_conf_reader_end_hl]; exact ⟨T_conf_reader_end_1_ok, trivial⟩)) (by rw [T_conf_reader_end_eq]; exact h)

/-! tollgate/conf.GetCommand$1 -/
def T_conf_GetCommand_c1 (cap1 : Addr) (w : World) (R : Ending → World → Prop) : Prop :=
  ∃ x2 : Int, ∃ x3 : Int, ∃ x4 : Int, ∃ x5 : Int, ∃ s6 : ByteArray, ∃ s7 : ByteArray, ∃ s8 : ByteArray, ∃ s9a : Option Addr, ∃ s9l : Nat, ∃ s9c : Nat, rd w cap1 (.agg #[.int .i64 x2, .int .i64 x3, .int .i64 x4, .int .i64 x5, .string s6, .string s7, .string s8, .slice s9a s9l s9c]) ∧ Calls Try.prog 15 #[.agg #[.int .i64 x2, .int .i64 x3, .int .i64 x4, .int .i64 x5, .string s6, .string s7, .string s8, .slice s9a s9l s9c]] w (ret (fun r10 w11 => ∃ x12 : Int, r10 = .int .i64 x12 ∧ R (.returned (.bool ((x12 : Int) == 0))) w11) (pan R))

theorem T_conf_GetCommand_c1_hl : allP (hokL Try.prog (hookAt []) (bodyOf Try.f47) 1) = (True) := by kernel_rfl

theorem T_conf_GetCommand_c1_eq (cap1 : Addr) (w : World) (R : Ending → World → Prop) : vcCode Try.prog (hookAt []) (bodyOf Try.f47) 1 ⟨argEnv [.pointer (some cap1)] 0, Try.f47.ntmps, []⟩ w (finQ Try.prog Try.f47.results.toList R) = T_conf_GetCommand_c1 cap1 w R := by kernel_rfl

theorem T_conf_GetCommand_c1_b : Try.f47.body = some (bodyOf Try.f47) := by kernel_rfl
theorem T_conf_GetCommand_c1_s : (quietSel (bodyOf Try.f47) && Nat.ble 1 Try.f47.ntmps) = true := by kernel_rfl

theorem C_conf_GetCommand_c1 {cap1 : Addr} {w : World} {R : Ending → World → Prop} (h : T_conf_GetCommand_c1 cap1 w R) : Calls Try.prog 47 #[.pointer (some cap1)] w R :=
  calls_of_text (args := [.pointer (some cap1)]) mixed Try.func47 T_conf_GetCommand_c1_b T_conf_GetCommand_c1_s (HOk_of _ _ (by rw [T_conf_GetCommand_c1_hl]; exact trivial)) (by rw [T_conf_GetCommand_c1_eq]; exact h)

/-! tollgate/wire.TakeNumber -/
def T_wire_TakeNumber_1 (b3a : Option Addr) (b3l : Nat) (b3c : Nat) (at4 : Int) (w : World) (Kn : Bool → World → Prop) (Kp : List PanicEntry → World → Prop) : Prop :=
  if (decide ((at4 : Int) < 0)) = true then (Kn true w) else (Kn (decide ((at4 : Int) > ((b3l : Nat) : Int))) w)

def T_wire_TakeNumber_1_outs : Exit → Option (List (Nat × Value)) := fun x => match x with | .normal => some [(17, .bool false)] | .panic _ => some [] | _ => none

def T_wire_TakeNumber_1_ks : Nat → Bool := ksOf [10, 11, 12, 13, 14, 15, 16, 17]

def H_wire_TakeNumber_1 : Env → World → QT → Prop := unitHook 58 T_wire_TakeNumber_1_ks [(0, .slice none 0 0), (1, .int .i64 0)] T_wire_TakeNumber_1_outs fun l w C => match l with | [v0, v1] => T_wire_TakeNumber_1 (pA v0) (pL v0) (pC v0) (pInt v1) w (fun b6 w => C .normal [.bool b6] w) (fun ch w => C (.panic ch) [] w) | _ => False

theorem T_wire_TakeNumber_1_hl : allP (hokL Try.prog (hookAt []) (at_ (turnB 0 900001 900002 (bodyOf Try.f70)) [1, 0, 0]) 12) = (True) := by kernel_rfl
theorem T_wire_TakeNumber_1_hok : HOk Try.prog (hookAt []) (at_ (turnB 0 900001 900002 (bodyOf Try.f70)) [1, 0, 0]) 12 := HOk_of _ _ (by rw [T_wire_TakeNumber_1_hl]; exact trivial)

theorem T_wire_TakeNumber_1_eq (C : Conts) (b3a : Option Addr) (b3l : Nat) (b3c : Nat) (at4 : Int) (w : World) : vcCode Try.prog (hookAt []) (at_ (turnB 0 900001 900002 (bodyOf Try.f70)) [1, 0, 0]) 12 ⟨[(0, .slice b3a b3l b3c), (1, .int .i64 at4)], 58, []⟩ w (unitQ T_wire_TakeNumber_1_outs C) = T_wire_TakeNumber_1 b3a b3l b3c at4 w (fun b7 w => C .normal [.bool b7] w) (fun ch w => C (.panic ch) [] w) := by kernel_rfl

theorem T_wire_TakeNumber_1_ok : UnitOk Try.prog H_wire_TakeNumber_1 (at_ (turnB 0 900001 900002 (bodyOf Try.f70)) [1, 0, 0]) 12 := unit_ok (H := (hookAt [])) (by kernel_rfl) T_wire_TakeNumber_1_hok fun l w C hk => by
    obtain ⟨v0, l_v0, rfl, k_v0, hk_v0⟩ := Kinds.cons_ hk
    obtain ⟨b3a, b3l, b3c, rfl⟩ := kind_slice k_v0
    obtain ⟨v1, l_v1, rfl, k_v1, hk_v1⟩ := Kinds.cons_ hk_v0
    obtain ⟨at4, rfl⟩ := kind_int k_v1
    obtain rfl := Kinds.nil_ hk_v1
    exact T_wire_TakeNumber_1_eq C b3a b3l b3c at4 w

def T_wire_TakeNumber_3 (k19 : Int) (c20 : Int) (w : World) (Kn : Bool → World → Prop) (Kp : List PanicEntry → World → Prop) : Prop :=
  if ((c20 : Int) == 0) = true then (Kn (decide ((k19 : Int) > 1)) w) else (Kn false w)

def T_wire_TakeNumber_3_outs : Exit → Option (List (Nat × Value)) := fun x => match x with | .normal => some [(44, .bool false)] | .panic _ => some [] | _ => none

def T_wire_TakeNumber_3_ks : Nat → Bool := ksOf [44, 45, 46, 47, 48, 49, 50]

def H_wire_TakeNumber_3 : Env → World → QT → Prop := unitHook 58 T_wire_TakeNumber_3_ks [(8, .int .i64 0), (9, .int .i64 0)] T_wire_TakeNumber_3_outs fun l w C => match l with | [v0, v1] => T_wire_TakeNumber_3 (pInt v0) (pInt v1) w (fun b22 w => C .normal [.bool b22] w) (fun ch w => C (.panic ch) [] w) | _ => False

theorem T_wire_TakeNumber_3_hl : allP (hokL Try.prog (hookAt []) (at_ (turnB 0 900001 900002 (bodyOf Try.f70)) [1, 1, 1, 0, 0, 0, 0, 1, 1, 1, 1, 1, 0, 0, 0]) 61688) = (True) := by kernel_rfl
theorem T_wire_TakeNumber_3_hok : HOk Try.prog (hookAt []) (at_ (turnB 0 900001 900002 (bodyOf Try.f70)) [1, 1, 1, 0, 0, 0, 0, 1, 1, 1, 1, 1, 0, 0, 0]) 61688 := HOk_of _ _ (by rw [T_wire_TakeNumber_3_hl]; exact trivial)

theorem T_wire_TakeNumber_3_eq (C : Conts) (k19 : Int) (c20 : Int) (w : World) : vcCode Try.prog (hookAt []) (at_ (turnB 0 900001 900002 (bodyOf Try.f70)) [1, 1, 1, 0, 0, 0, 0, 1, 1, 1, 1, 1, 0, 0, 0]) 61688 ⟨[(8, .int .i64 k19), (9, .int .i64 c20)], 58, []⟩ w (unitQ T_wire_TakeNumber_3_outs C) = T_wire_TakeNumber_3 k19 c20 w (fun b23 w => C .normal [.bool b23] w) (fun ch w => C (.panic ch) [] w) := by kernel_rfl

theorem T_wire_TakeNumber_3_ok : UnitOk Try.prog H_wire_TakeNumber_3 (at_ (turnB 0 900001 900002 (bodyOf Try.f70)) [1, 1, 1, 0, 0, 0, 0, 1, 1, 1, 1, 1, 0, 0, 0]) 61688 := unit_ok (H := (hookAt [])) (by kernel_rfl) T_wire_TakeNumber_3_hok fun l w C hk => by
    obtain ⟨v0, l_v0, rfl, k_v0, hk_v0⟩ := Kinds.cons_ hk
    obtain ⟨k19, rfl⟩ := kind_int k_v0
    obtain ⟨v1, l_v1, rfl, k_v1, hk_v1⟩ := Kinds.cons_ hk_v0
    obtain ⟨c20, rfl⟩ := kind_int k_v1
    obtain rfl := Kinds.nil_ hk_v1
    exact T_wire_TakeNumber_3_eq C k19 c20 w

def T_wire_TakeNumber_2_body (X : Int → Int → World → Prop) (n10 : Int) (k11 : Int) (b12a : Option Addr) (b12l : Nat) (b12c : Nat) (at13 : Int) (w : World) (Kr : Int → Int → Int → World → Prop) (Kp : List PanicEntry → World → Prop)  : Prop :=
  if ((IntKind.wrap .i64 ((at13 : Int) + k11) : Int) == ((b12l : Nat) : Int)) = true then (Kr 0 0 3 w) else (0 ≤ (IntKind.wrap .i64 ((at13 : Int) + k11) : Int) ∧ (IntKind.wrap .i64 ((at13 : Int) + k11) : Int) < ((b12l : Nat) : Int) ∧ ∃ b14, b12a = some b14 ∧ ∃ x15 : Int, rd w (b14.add ((IntKind.wrap .i64 ((at13 : Int) + k11) : Int).toNat * 1)) (.int .u8 x15) ∧ runV Try.prog (do eqGuard .shl 3 (.tmp 33) (.tmp 35) (.int .i64 (IntKind.wrap .i64 ((BitVec.ofInt (IntKind.bits .i64) (IntKind.wrap .i64 x15)) &&& (BitVec.ofInt (IntKind.bits .i64) 127)).toNat)) (.int .i64 (IntKind.wrap .i64 ((7 : Int) * k11))); binOp .shl 3 (.int .i64 (IntKind.wrap .i64 ((BitVec.ofInt (IntKind.bits .i64) (IntKind.wrap .i64 x15)) &&& (BitVec.ofInt (IntKind.bits .i64) 127)).toNat)) (.int .i64 (IntKind.wrap .i64 ((7 : Int) * k11)))) w (fun r16 w17 => ∃ x18 : Int, r16 = .int .i64 x18 ∧ if (decide ((IntKind.wrap .i64 x15 : Int) ≥ 128)) = true then (if ((IntKind.wrap .i64 ((k11 : Int) + 1) : Int) == 6) = true then (Kr 0 0 6 w17) else (X (IntKind.wrap .i64 ((BitVec.ofInt (IntKind.bits .i64) n10) ||| (BitVec.ofInt (IntKind.bits .i64) x18)).toNat) (IntKind.wrap .i64 ((k11 : Int) + 1)) w17)) else (T_wire_TakeNumber_3 (IntKind.wrap .i64 ((k11 : Int) + 1)) (IntKind.wrap .i64 x15) w17 (fun b24 w25 => if b24 = true then (Kr 0 0 4 w25) else (if (decide ((IntKind.wrap .i64 ((BitVec.ofInt (IntKind.bits .i64) n10) ||| (BitVec.ofInt (IntKind.bits .i64) x18)).toNat : Int) > 1099511627776)) = true then (Kr 0 0 6 w25) else (Kr (IntKind.wrap .i64 ((BitVec.ofInt (IntKind.bits .i64) n10) ||| (BitVec.ofInt (IntKind.bits .i64) x18)).toNat) (IntKind.wrap .i64 ((at13 : Int) + (IntKind.wrap .i64 ((k11 : Int) + 1)))) 0 w25))) Kp)) Kp)

def T_wire_TakeNumber_2 (n10 : Int) (k11 : Int) (b12a : Option Addr) (b12l : Nat) (b12c : Nat) (at13 : Int) (w : World) (Kr : Int → Int → Int → World → Prop) (Kp : List PanicEntry → World → Prop) : Prop :=
  ∀ X : Int → Int → World → Prop, (∀ (n10 : Int) (k11 : Int) (w : World), T_wire_TakeNumber_2_body X n10 k11 b12a b12l b12c at13 w Kr Kp → X n10 k11 w) → X n10 k11 w

def T_wire_TakeNumber_2_outs : Exit → Option (List (Nat × Value)) := fun x => match x with | .ret => some [(4, .int .i64 0), (5, .int .i64 0), (6, .int .i64 0)] | .panic _ => some [] | _ => none

def T_wire_TakeNumber_2_ks : Nat → Bool := ksOf [4, 5, 6, 7, 8, 9, 18, 19, 20, 21, 22, 23, 24, 25, 26, 27, 28, 29, 30, 31, 32, 33, 34, 35, 36, 37, 38, 39, 40, 41, 42, 43, 44, 45, 46, 47, 48, 49, 50, 51, 52, 53, 54, 55, 56, 57]

def H_wire_TakeNumber_2 : Env → World → QT → Prop := unitHook 58 T_wire_TakeNumber_2_ks [(7, .int .i64 0), (8, .int .i64 0), (0, .slice none 0 0), (1, .int .i64 0)] T_wire_TakeNumber_2_outs fun l w C => match l with | [v0, v1, v2, v3] => T_wire_TakeNumber_2 (pInt v0) (pInt v1) (pA v2) (pL v2) (pC v2) (pInt v3) w (fun x29 x30 x31 w => C .ret [.int .i64 x29, .int .i64 x30, .int .i64 x31] w) (fun ch w => C (.panic ch) [] w) | _ => False

theorem T_wire_TakeNumber_2_hl : allP (hokL Try.prog (hookAt [(61688, H_wire_TakeNumber_3)]) (at_ (turnB 0 900001 900002 (bodyOf Try.f70)) [1, 1, 1, 0, 0]) 60) = (UnitOk Try.prog H_wire_TakeNumber_3 (at_ (turnB 0 900001 900002 (bodyOf Try.f70)) [1, 1, 1, 0, 0, 0, 0, 1, 1, 1, 1, 1, 0, 0, 0]) 61688 ∧ True) := by kernel_rfl
theorem T_wire_TakeNumber_2_hok : HOk Try.prog (hookAt [(61688, H_wire_TakeNumber_3)]) (at_ (turnB 0 900001 900002 (bodyOf Try.f70)) [1, 1, 1, 0, 0]) 60 := HOk_of _ _ (by rw [T_wire_TakeNumber_2_hl]; exact ⟨T_wire_TakeNumber_3_ok, trivial⟩)

theorem T_wire_TakeNumber_2_eq (C : Conts) (X : List Value → World → Prop) (n10 : Int) (k11 : Int) (b12a : Option Addr) (b12l : Nat) (b12c : Nat) (at13 : Int) (w : World) : vcCode Try.prog (hookAt [(61688, H_wire_TakeNumber_3)]) (at_ (turnB 0 900001 900002 (bodyOf Try.f70)) [1, 1, 1, 0, 0]) 60 ⟨[(7, .int .i64 n10), (8, .int .i64 k11)] ++ [(0, .slice b12a b12l b12c), (1, .int .i64 at13)], 58, []⟩ w (seqQ (fun e w => takeAll e [(7, .int .i64 0), (8, .int .i64 0)] fun l => X l w) (blockQ 900002 (unitQ T_wire_TakeNumber_2_outs C))) = T_wire_TakeNumber_2_body (fun n10 k11 w => X [.int .i64 n10, .int .i64 k11] w) n10 k11 b12a b12l b12c at13 w (fun x32 x33 x34 w => C .ret [.int .i64 x32, .int .i64 x33, .int .i64 x34] w) (fun ch w => C (.panic ch) [] w) := by kernel_rfl

theorem T_wire_TakeNumber_2_ok : UnitOk Try.prog H_wire_TakeNumber_2 (at_ (turnB 0 900001 900002 (bodyOf Try.f70)) [1, 1, 1]) 15 := by
  have hc : at_ (turnB 0 900001 900002 (bodyOf Try.f70)) [1, 1, 1] = .block 900002 (.loop (at_ (turnB 0 900001 900002 (bodyOf Try.f70)) [1, 1, 1, 0, 0])) := by kernel_rfl
  rw [hc]
  refine loop_unit_ok (carr := [(7, .int .i64 0), (8, .int .i64 0)]) (fix := [(0, .slice none 0 0), (1, .int .i64 0)]) (ks := T_wire_TakeNumber_2_ks) (H := (hookAt [(61688, H_wire_TakeNumber_3)])) (B := fun C X l u w => match l, u with | [v0, v1], [v2, v3] => T_wire_TakeNumber_2_body (fun n10 k11 w => X [.int .i64 n10, .int .i64 k11] w) (pInt v0) (pInt v1) (pA v2) (pL v2) (pC v2) (pInt v3) w (fun x35 x36 x37 w => C .ret [.int .i64 x35, .int .i64 x36, .int .i64 x37] w) (fun ch w => C (.panic ch) [] w) | _, _ => False) (by kernel_rfl) (by kernel_rfl) T_wire_TakeNumber_2_hok ?_ ?_
  · intro C X l u w hl hu
    obtain ⟨v0, l_v0, rfl, k_v0, hl_v0⟩ := Kinds.cons_ hl
    obtain ⟨n10, rfl⟩ := kind_int k_v0
    obtain ⟨v1, l_v1, rfl, k_v1, hl_v1⟩ := Kinds.cons_ hl_v0
    obtain ⟨k11, rfl⟩ := kind_int k_v1
    obtain rfl := Kinds.nil_ hl_v1
    obtain ⟨v2, l_v2, rfl, k_v2, hu_v2⟩ := Kinds.cons_ hu
    obtain ⟨b12a, b12l, b12c, rfl⟩ := kind_slice k_v2
    obtain ⟨v3, l_v3, rfl, k_v3, hu_v3⟩ := Kinds.cons_ hu_v2
    obtain ⟨at13, rfl⟩ := kind_int k_v3
    obtain rfl := Kinds.nil_ hu_v3
    exact T_wire_TakeNumber_2_eq C X n10 k11 b12a b12l b12c at13 w
  · intro l u w C hl hu
    obtain ⟨v0, l_v0, rfl, k_v0, hl_v0⟩ := Kinds.cons_ hl
    obtain ⟨n10, rfl⟩ := kind_int k_v0
    obtain ⟨v1, l_v1, rfl, k_v1, hl_v1⟩ := Kinds.cons_ hl_v0
    obtain ⟨k11, rfl⟩ := kind_int k_v1
    obtain rfl := Kinds.nil_ hl_v1
    obtain ⟨v2, l_v2, rfl, k_v2, hu_v2⟩ := Kinds.cons_ hu
    obtain ⟨b12a, b12l, b12c, rfl⟩ := kind_slice k_v2
    obtain ⟨v3, l_v3, rfl, k_v3, hu_v3⟩ := Kinds.cons_ hu_v2
    obtain ⟨at13, rfl⟩ := kind_int k_v3
    obtain rfl := Kinds.nil_ hu_v3
    constructor
    · intro h X hX
      exact h (fun n10 k11 w => X [.int .i64 n10, .int .i64 k11] w) (fun n10 k11 w hb => hX [.int .i64 n10, .int .i64 k11] w ⟨rfl, rfl, trivial⟩ hb)
    · intro h X hX
      exact h (fun l w => match l with | [v0, v1] => X (pInt v0) (pInt v1) w | _ => True) (fun l w hl hb => by
        obtain ⟨v0, l_v0, rfl, k_v0, hl_v0⟩ := Kinds.cons_ hl
        obtain ⟨n10, rfl⟩ := kind_int k_v0
        obtain ⟨v1, l_v1, rfl, k_v1, hl_v1⟩ := Kinds.cons_ hl_v0
        obtain ⟨k11, rfl⟩ := kind_int k_v1
        obtain rfl := Kinds.nil_ hl_v1
        exact hX n10 k11 w hb)

def T_wire_TakeNumber (b1a : Option Addr) (b1l : Nat) (b1c : Nat) (at2 : Int) (w : World) (R : Ending → World → Prop) : Prop :=
  T_wire_TakeNumber_1 b1a b1l b1c at2 w (fun b8 w9 => if b8 = true then (R (.returned (.tuple #[.int .i64 0, .int .i64 0, .int .i64 2])) w9) else (T_wire_TakeNumber_2 0 0 b1a b1l b1c at2 w9 (fun x38 x39 x40 w41 => R (.returned (.tuple #[.int .i64 x38, .int .i64 x39, .int .i64 x40])) w41) (pan R))) (pan R)

theorem T_wire_TakeNumber_hl : allP (hokL Try.prog (hookAt [(12, H_wire_TakeNumber_1), (15, H_wire_TakeNumber_2)]) (turnB 0 900001 900002 (bodyOf Try.f70)) 1) = (UnitOk Try.prog H_wire_TakeNumber_1 (at_ (turnB 0 900001 900002 (bodyOf Try.f70)) [1, 0, 0]) 12 ∧ UnitOk Try.prog H_wire_TakeNumber_2 (at_ (turnB 0 900001 900002 (bodyOf Try.f70)) [1, 1, 1]) 15 ∧ True) := by kernel_rfl

theorem T_wire_TakeNumber_eq (b1a : Option Addr) (b1l : Nat) (b1c : Nat) (at2 : Int) (w : World) (R : Ending → World → Prop) : vcCode Try.prog (hookAt [(12, H_wire_TakeNumber_1), (15, H_wire_TakeNumber_2)]) (turnB 0 900001 900002 (bodyOf Try.f70)) 1 ⟨argEnv [.slice b1a b1l b1c, .int .i64 at2] 0, Try.f70.ntmps, []⟩ w (finQ Try.prog Try.f70.results.toList R) = T_wire_TakeNumber b1a b1l b1c at2 w R := by kernel_rfl

theorem T_wire_TakeNumber_b : Try.f70.body = some (.seq (rOf (bodyOf Try.f70)) (.scope (cOf (bodyOf Try.f70)))) := by kernel_rfl
theorem T_wire_TakeNumber_f : findLabel (cOf (bodyOf Try.f70)) 0 = some (.seq .skip ((lapOf 0 (cOf (bodyOf Try.f70))).getD .skip)) := by kernel_rfl
theorem T_wire_TakeNumber_l : lapOf 0 (cOf (bodyOf Try.f70)) = some ((lapOf 0 (cOf (bodyOf Try.f70))).getD .skip) := by kernel_rfl

theorem T_wire_TakeNumber_s : ((quietSel (rOf (bodyOf Try.f70)) && quietSel (cOf (bodyOf Try.f70)) && quietSel ((lapOf 0 (cOf (bodyOf Try.f70))).getD .skip)) && (freshC 900001 ((lapOf 0 (cOf (bodyOf Try.f70))).getD .skip) && noExit 900001 ((lapOf 0 (cOf (bodyOf Try.f70))).getD .skip) && noExit 900002 ((lapOf 0 (cOf (bodyOf Try.f70))).getD .skip)) && Nat.ble 2 Try.f70.ntmps) = true := by kernel_rfl

theorem C_wire_TakeNumber {b1a : Option Addr} {b1l : Nat} {b1c : Nat} {at2 : Int} {w : World} {R : Ending → World → Prop} (h : T_wire_TakeNumber b1a b1l b1c at2 w R) : Calls Try.prog 70 #[.slice b1a b1l b1c, .int .i64 at2] w R :=
  calls_of_scope (args := [.slice b1a b1l b1c, .int .i64 at2]) mixed Try.func70 T_wire_TakeNumber_b T_wire_TakeNumber_f T_wire_TakeNumber_l T_wire_TakeNumber_s (HOk_of _ _ (show allP (hokL Try.prog (hookAt [(12, H_wire_TakeNumber_1), (15, H_wire_TakeNumber_2)]) (turnB 0 900001 900002 (bodyOf Try.f70)) 1) from by rw [T_wire_TakeNumber_hl]; exact ⟨T_wire_TakeNumber_1_ok, T_wire_TakeNumber_2_ok, trivial⟩)) (show vcCode Try.prog (hookAt [(12, H_wire_TakeNumber_1), (15, H_wire_TakeNumber_2)]) (turnB 0 900001 900002 (bodyOf Try.f70)) 1 ⟨argEnv [.slice b1a b1l b1c, .int .i64 at2] 0, Try.f70.ntmps, []⟩ w (finQ Try.prog Try.f70.results.toList R) from by rw [T_wire_TakeNumber_eq]; exact h)

/-! (*tollgate/conf.reader).take -/
def T_conf_reader_take_1 (r3 : Option Addr) (n4 : Int) (w : World) (Kn : Bool → World → Prop) (Kp : List PanicEntry → World → Prop) : Prop :=
  let w5 : World := w.drew
  ∃ a6, r3 = some a6 ∧ ∃ x7 : Int, rd w5 (a6.add 2) (.int .i64 x7) ∧ if ((x7 : Int) == 0) = true then (∃ a8, r3 = some a8 ∧ ∃ s9a : Option Addr, ∃ s9l : Nat, ∃ s9c : Nat, rd w5 a8 (.slice s9a s9l s9c) ∧ ∃ a10, r3 = some a10 ∧ ∃ x11 : Int, rd w5 (a10.add 1) (.int .i64 x11) ∧ Kn (decide ((IntKind.wrap .i64 (((s9l : Nat) : Int) - x11) : Int) < n4)) w5) else (Kn false w5)

def T_conf_reader_take_1_outs : Exit → Option (List (Nat × Value)) := fun x => match x with | .normal => some [(23, .bool false)] | .panic _ => some [] | _ => none

def T_conf_reader_take_1_ks : Nat → Bool := ksOf [5, 6, 7, 8, 9, 10, 11, 12, 13, 14, 15, 16, 17, 18, 19, 20, 21, 22, 23]

def H_conf_reader_take_1 : Env → World → QT → Prop := unitHook 55 T_conf_reader_take_1_ks [(0, .pointer none), (1, .int .i64 0)] T_conf_reader_take_1_outs fun l w C => match l with | [v0, v1] => T_conf_reader_take_1 (pPtr v0) (pInt v1) w (fun b13 w => C .normal [.bool b13] w) (fun ch w => C (.panic ch) [] w) | _ => False

theorem T_conf_reader_take_1_hl : allP (hokL Try.prog (hookAt []) (at_ (bodyOf Try.f71) [1, 0, 0]) 12) = (True) := by kernel_rfl
theorem T_conf_reader_take_1_hok : HOk Try.prog (hookAt []) (at_ (bodyOf Try.f71) [1, 0, 0]) 12 := HOk_of _ _ (by rw [T_conf_reader_take_1_hl]; exact trivial)

theorem T_conf_reader_take_1_eq (C : Conts) (r3 : Option Addr) (n4 : Int) (w : World) : vcCode Try.prog (hookAt []) (at_ (bodyOf Try.f71) [1, 0, 0]) 12 ⟨[(0, .pointer r3), (1, .int .i64 n4)], 55, []⟩ w (unitQ T_conf_reader_take_1_outs C) = T_conf_reader_take_1 r3 n4 w (fun b14 w => C .normal [.bool b14] w) (fun ch w => C (.panic ch) [] w) := by kernel_rfl

theorem T_conf_reader_take_1_ok : UnitOk Try.prog H_conf_reader_take_1 (at_ (bodyOf Try.f71) [1, 0, 0]) 12 := unit_ok (H := (hookAt [])) (by kernel_rfl) T_conf_reader_take_1_hok fun l w C hk => by
    obtain ⟨v0, l_v0, rfl, k_v0, hk_v0⟩ := Kinds.cons_ hk
    obtain ⟨r3, rfl⟩ := kind_pointer k_v0
    obtain ⟨v1, l_v1, rfl, k_v1, hk_v1⟩ := Kinds.cons_ hk_v0
    obtain ⟨n4, rfl⟩ := kind_int k_v1
    obtain rfl := Kinds.nil_ hk_v1
    exact T_conf_reader_take_1_eq C r3 n4 w

def T_conf_reader_take_2 (r17 : Option Addr) (b18 : Bool) (w : World) (Kn : World → Prop) (Kp : List PanicEntry → World → Prop) : Prop :=
  if b18 = true then (∃ a19, r17 = some a19 ∧ (.int .i64 3 : Value).cells.size = 1 ∧ wrOk w (a19.add 2) (.int .i64 3) ∧ let w20 : World := wr w (a19.add 2) (.int .i64 3)
  Kn  w20) else (Kn  w)

def T_conf_reader_take_2_outs : Exit → Option (List (Nat × Value)) := fun x => match x with | .normal => some [] | .panic _ => some [] | _ => none

def T_conf_reader_take_2_ks : Nat → Bool := ksOf [24, 25, 26]

def H_conf_reader_take_2 : Env → World → QT → Prop := unitHook 55 T_conf_reader_take_2_ks [(0, .pointer none), (23, .bool false)] T_conf_reader_take_2_outs fun l w C => match l with | [v0, v1] => T_conf_reader_take_2 (pPtr v0) (pBool v1) w (fun w => C .normal [] w) (fun ch w => C (.panic ch) [] w) | _ => False

theorem T_conf_reader_take_2_hl : allP (hokL Try.prog (hookAt []) (at_ (bodyOf Try.f71) [1, 0, 1]) 13) = (True) := by kernel_rfl
theorem T_conf_reader_take_2_hok : HOk Try.prog (hookAt []) (at_ (bodyOf Try.f71) [1, 0, 1]) 13 := HOk_of _ _ (by rw [T_conf_reader_take_2_hl]; exact trivial)

theorem T_conf_reader_take_2_eq (C : Conts) (r17 : Option Addr) (b18 : Bool) (w : World) : vcCode Try.prog (hookAt []) (at_ (bodyOf Try.f71) [1, 0, 1]) 13 ⟨[(0, .pointer r17), (23, .bool b18)], 55, []⟩ w (unitQ T_conf_reader_take_2_outs C) = T_conf_reader_take_2 r17 b18 w (fun w => C .normal [] w) (fun ch w => C (.panic ch) [] w) := by kernel_rfl

theorem T_conf_reader_take_2_ok : UnitOk Try.prog H_conf_reader_take_2 (at_ (bodyOf Try.f71) [1, 0, 1]) 13 := unit_ok (H := (hookAt [])) (by kernel_rfl) T_conf_reader_take_2_hok fun l w C hk => by
    obtain ⟨v0, l_v0, rfl, k_v0, hk_v0⟩ := Kinds.cons_ hk
    obtain ⟨r17, rfl⟩ := kind_pointer k_v0
    obtain ⟨v1, l_v1, rfl, k_v1, hk_v1⟩ := Kinds.cons_ hk_v0
    obtain ⟨b18, rfl⟩ := kind_bool k_v1
    obtain rfl := Kinds.nil_ hk_v1
    exact T_conf_reader_take_2_eq C r17 b18 w

def T_conf_reader_take (r1 : Option Addr) (n2 : Int) (w : World) (R : Ending → World → Prop) : Prop :=
  T_conf_reader_take_1 r1 n2 w (fun b15 w16 => T_conf_reader_take_2 r1 b15 w16 (fun w21 => ∃ a22, r1 = some a22 ∧ ∃ x23 : Int, rd w21 (a22.add 2) (.int .i64 x23) ∧ if ((x23 : Int) != 0) = true then (R (.returned (.slice none 0 0)) w21) else (∃ a24, r1 = some a24 ∧ ∃ x25 : Int, rd w21 (a24.add 1) (.int .i64 x25) ∧ ∃ a26, r1 = some a26 ∧ (.int .i64 (IntKind.wrap .i64 ((x25 : Int) + n2)) : Value).cells.size = 1 ∧ wrOk w21 (a26.add 1) (.int .i64 (IntKind.wrap .i64 ((x25 : Int) + n2))) ∧ let w27 : World := wr w21 (a26.add 1) (.int .i64 (IntKind.wrap .i64 ((x25 : Int) + n2)))
  let w28 : World := w27.drew
  ∃ a29, r1 = some a29 ∧ ∃ s30a : Option Addr, ∃ s30l : Nat, ∃ s30c : Nat, rd w28 a29 (.slice s30a s30l s30c) ∧ ∃ a31, r1 = some a31 ∧ ∃ x32 : Int, rd w28 (a31.add 1) (.int .i64 x32) ∧ ∃ a33, r1 = some a33 ∧ ∃ x34 : Int, rd w28 (a33.add 1) (.int .i64 x34) ∧ 0 ≤ (x34 : Int) ∧ (x34 : Int) ≤ ((s30c : Nat) : Int) ∧ 0 ≤ (IntKind.wrap .i64 ((x32 : Int) - n2) : Int) ∧ (IntKind.wrap .i64 ((x32 : Int) - n2) : Int) ≤ (((x34 : Int).toNat : Nat) : Int) ∧ R (.returned (.slice (if s30c = ((IntKind.wrap .i64 ((x32 : Int) - n2) : Int).toNat) then s30a else s30a.map (fun x => x.add (((IntKind.wrap .i64 ((x32 : Int) - n2) : Int).toNat) * 1))) (((x34 : Int).toNat) - ((IntKind.wrap .i64 ((x32 : Int) - n2) : Int).toNat)) (s30c - ((IntKind.wrap .i64 ((x32 : Int) - n2) : Int).toNat)))) w28)) (pan R)) (pan R)

theorem T_conf_reader_take_hl : allP (hokL Try.prog (hookAt [(12, H_conf_reader_take_1), (13, H_conf_reader_take_2)]) (bodyOf Try.f71) 1) = (UnitOk Try.prog H_conf_reader_take_1 (at_ (bodyOf Try.f71) [1, 0, 0]) 12 ∧ UnitOk Try.prog H_conf_reader_take_2 (at_ (bodyOf Try.f71) [1, 0, 1]) 13 ∧ True) := by kernel_rfl

theorem T_conf_reader_take_eq (r1 : Option Addr) (n2 : Int) (w : World) (R : Ending → World → Prop) : vcCode Try.prog (hookAt [(12, H_conf_reader_take_1), (13, H_conf_reader_take_2)]) (bodyOf Try.f71) 1 ⟨argEnv [.pointer r1, .int .i64 n2] 0, Try.f71.ntmps, []⟩ w (finQ Try.prog Try.f71.results.toList R) = T_conf_reader_take r1 n2 w R := by kernel_rfl

theorem T_conf_reader_take_b : Try.f71.body = some (bodyOf Try.f71) := by kernel_rfl
theorem T_conf_reader_take_s : (quietSel (bodyOf Try.f71) && Nat.ble 2 Try.f71.ntmps) = true := by kernel_rfl

theorem C_conf_reader_take {r1 : Option Addr} {n2 : Int} {w : World} {R : Ending → World → Prop} (h : T_conf_reader_take r1 n2 w R) : Calls Try.prog 71 #[.pointer r1, .int .i64 n2] w R :=
  calls_of_text (args := [.pointer r1, .int .i64 n2]) mixed Try.func71 T_conf_reader_take_b T_conf_reader_take_s (HOk_of _ _ (by rw [T_conf_reader_take_hl]; exact ⟨T_conf_reader_take_1_ok, T_conf_reader_take_2_ok, trivial⟩)) (by rw [T_conf_reader_take_eq]; exact h)

/-! (*tollgate/conf.reader).float -/
def T_conf_reader_float_1_body (X : Int → Int → World → Prop) (n5 : Int) (x6 : Int) (s7a : Option Addr) (s7l : Nat) (s7c : Nat) (x8 : Int) (w : World) (Kn : Int → World → Prop) (Kp : List PanicEntry → World → Prop)  : Prop :=
  if (decide ((x6 : Int) < x8)) = true then (0 ≤ (x6 : Int) ∧ (x6 : Int) < ((s7l : Nat) : Int) ∧ ∃ b9, s7a = some b9 ∧ ∃ x10 : Int, rd w (b9.add ((x6 : Int).toNat * 1)) (.int .u8 x10) ∧ X (IntKind.wrap .u64 ((BitVec.ofInt (IntKind.bits .u64) (IntKind.wrap .u64 ((n5 : Int) * 2 ^ 8))) ||| (BitVec.ofInt (IntKind.bits .u64) (IntKind.wrap .u64 x10))).toNat) (IntKind.wrap .i64 ((x6 : Int) + 1)) w) else (Kn n5 w)

def T_conf_reader_float_1 (n5 : Int) (x6 : Int) (s7a : Option Addr) (s7l : Nat) (s7c : Nat) (x8 : Int) (w : World) (Kn : Int → World → Prop) (Kp : List PanicEntry → World → Prop) : Prop :=
  ∀ X : Int → Int → World → Prop, (∀ (n5 : Int) (x6 : Int) (w : World), T_conf_reader_float_1_body X n5 x6 s7a s7l s7c x8 w Kn Kp → X n5 x6 w) → X n5 x6 w

def T_conf_reader_float_1_outs : Exit → Option (List (Nat × Value)) := fun x => match x with | .normal => some [(3, .int .u64 0)] | .panic _ => some [] | _ => none

def T_conf_reader_float_1_ks : Nat → Bool := ksOf [3, 5, 9, 10, 11, 12, 13, 14, 15, 16, 17, 18]

def H_conf_reader_float_1 : Env → World → QT → Prop := unitHook 21 T_conf_reader_float_1_ks [(3, .int .u64 0), (9, .int .i64 0), (7, .slice none 0 0), (8, .int .i64 0)] T_conf_reader_float_1_outs fun l w C => match l with | [v0, v1, v2, v3] => T_conf_reader_float_1 (pInt v0) (pInt v1) (pA v2) (pL v2) (pC v2) (pInt v3) w (fun n12 w => C .normal [.int .u64 n12] w) (fun ch w => C (.panic ch) [] w) | _ => False

theorem T_conf_reader_float_1_hl : allP (hokL Try.prog (hookAt []) (at_ (bodyOf Try.f72) [1, 1, 0, 1, 0, 0]) 116) = (True) := by kernel_rfl
theorem T_conf_reader_float_1_hok : HOk Try.prog (hookAt []) (at_ (bodyOf Try.f72) [1, 1, 0, 1, 0, 0]) 116 := HOk_of _ _ (by rw [T_conf_reader_float_1_hl]; exact trivial)

theorem T_conf_reader_float_1_eq (C : Conts) (X : List Value → World → Prop) (n5 : Int) (x6 : Int) (s7a : Option Addr) (s7l : Nat) (s7c : Nat) (x8 : Int) (w : World) : vcCode Try.prog (hookAt []) (at_ (bodyOf Try.f72) [1, 1, 0, 1, 0, 0]) 116 ⟨[(3, .int .u64 n5), (9, .int .i64 x6)] ++ [(7, .slice s7a s7l s7c), (8, .int .i64 x8)], 21, []⟩ w (seqQ (fun e w => takeAll e [(3, .int .u64 0), (9, .int .i64 0)] fun l => X l w) (blockQ 0 (unitQ T_conf_reader_float_1_outs C))) = T_conf_reader_float_1_body (fun n5 x6 w => X [.int .u64 n5, .int .i64 x6] w) n5 x6 s7a s7l s7c x8 w (fun n13 w => C .normal [.int .u64 n13] w) (fun ch w => C (.panic ch) [] w) := by kernel_rfl

theorem T_conf_reader_float_1_ok : UnitOk Try.prog H_conf_reader_float_1 (at_ (bodyOf Try.f72) [1, 1, 0, 1]) 29 := by
  have hc : at_ (bodyOf Try.f72) [1, 1, 0, 1] = .block 0 (.loop (at_ (bodyOf Try.f72) [1, 1, 0, 1, 0, 0])) := by kernel_rfl
  rw [hc]
  refine loop_unit_ok (carr := [(3, .int .u64 0), (9, .int .i64 0)]) (fix := [(7, .slice none 0 0), (8, .int .i64 0)]) (ks := T_conf_reader_float_1_ks) (H := (hookAt [])) (B := fun C X l u w => match l, u with | [v0, v1], [v2, v3] => T_conf_reader_float_1_body (fun n5 x6 w => X [.int .u64 n5, .int .i64 x6] w) (pInt v0) (pInt v1) (pA v2) (pL v2) (pC v2) (pInt v3) w (fun n14 w => C .normal [.int .u64 n14] w) (fun ch w => C (.panic ch) [] w) | _, _ => False) (by kernel_rfl) (by kernel_rfl) T_conf_reader_float_1_hok ?_ ?_
  · intro C X l u w hl hu
    obtain ⟨v0, l_v0, rfl, k_v0, hl_v0⟩ := Kinds.cons_ hl
    obtain ⟨n5, rfl⟩ := kind_int k_v0
    obtain ⟨v1, l_v1, rfl, k_v1, hl_v1⟩ := Kinds.cons_ hl_v0
    obtain ⟨x6, rfl⟩ := kind_int k_v1
    obtain rfl := Kinds.nil_ hl_v1
    obtain ⟨v2, l_v2, rfl, k_v2, hu_v2⟩ := Kinds.cons_ hu
    obtain ⟨s7a, s7l, s7c, rfl⟩ := kind_slice k_v2
    obtain ⟨v3, l_v3, rfl, k_v3, hu_v3⟩ := Kinds.cons_ hu_v2
    obtain ⟨x8, rfl⟩ := kind_int k_v3
    obtain rfl := Kinds.nil_ hu_v3
    exact T_conf_reader_float_1_eq C X n5 x6 s7a s7l s7c x8 w
  · intro l u w C hl hu
    obtain ⟨v0, l_v0, rfl, k_v0, hl_v0⟩ := Kinds.cons_ hl
    obtain ⟨n5, rfl⟩ := kind_int k_v0
    obtain ⟨v1, l_v1, rfl, k_v1, hl_v1⟩ := Kinds.cons_ hl_v0
    obtain ⟨x6, rfl⟩ := kind_int k_v1
    obtain rfl := Kinds.nil_ hl_v1
    obtain ⟨v2, l_v2, rfl, k_v2, hu_v2⟩ := Kinds.cons_ hu
    obtain ⟨s7a, s7l, s7c, rfl⟩ := kind_slice k_v2
    obtain ⟨v3, l_v3, rfl, k_v3, hu_v3⟩ := Kinds.cons_ hu_v2
    obtain ⟨x8, rfl⟩ := kind_int k_v3
    obtain rfl := Kinds.nil_ hu_v3
    constructor
    · intro h X hX
      exact h (fun n5 x6 w => X [.int .u64 n5, .int .i64 x6] w) (fun n5 x6 w hb => hX [.int .u64 n5, .int .i64 x6] w ⟨rfl, rfl, trivial⟩ hb)
    · intro h X hX
      exact h (fun l w => match l with | [v0, v1] => X (pInt v0) (pInt v1) w | _ => True) (fun l w hl hb => by
        obtain ⟨v0, l_v0, rfl, k_v0, hl_v0⟩ := Kinds.cons_ hl
        obtain ⟨n5, rfl⟩ := kind_int k_v0
        obtain ⟨v1, l_v1, rfl, k_v1, hl_v1⟩ := Kinds.cons_ hl_v0
        obtain ⟨x6, rfl⟩ := kind_int k_v1
        obtain rfl := Kinds.nil_ hl_v1
        exact hX n5 x6 w hb)

def T_conf_reader_float (r1 : Option Addr) (w : World) (R : Ending → World → Prop) : Prop :=
  Calls Try.prog 71 #[.pointer r1, .int .i64 8] w (ret (fun r2 w3 => ∃ s4a : Option Addr, ∃ s4l : Nat, ∃ s4c : Nat, r2 = .slice s4a s4l s4c ∧ T_conf_reader_float_1 0 0 s4a s4l s4c ((s4l : Nat) : Int) w3 (fun n15 w16 => runV Try.prog (callFunc 19 #[.int .u64 n15]) w16 (nxv (fun r17 w18 => ∃ f19 : Nat, r17 = .float .f64 f19 ∧ R (.returned (.float .f64 f19)) w18)) (pan R)) (pan R)) (pan R))

theorem T_conf_reader_float_hl : allP (hokL Try.prog (hookAt [(29, H_conf_reader_float_1)]) (bodyOf Try.f72) 1) = (UnitOk Try.prog H_conf_reader_float_1 (at_ (bodyOf Try.f72) [1, 1, 0, 1]) 29 ∧ True) := by kernel_rfl

theorem T_conf_reader_float_eq (r1 : Option Addr) (w : World) (R : Ending → World → Prop) : vcCode Try.prog (hookAt [(29, H_conf_reader_float_1)]) (bodyOf Try.f72) 1 ⟨argEnv [.pointer r1] 0, Try.f72.ntmps, []⟩ w (finQ Try.prog Try.f72.results.toList R) = T_conf_reader_float r1 w R := by kernel_rfl

theorem T_conf_reader_float_b : Try.f72.body = some (bodyOf Try.f72) := by kernel_rfl
theorem T_conf_reader_float_s : (quietSel (bodyOf Try.f72) && Nat.ble 1 Try.f72.ntmps) = true := by kernel_rfl

theorem C_conf_reader_float {r1 : Option Addr} {w : World} {R : Ending → World → Prop} (h : T_conf_reader_float r1 w R) : Calls Try.prog 72 #[.pointer r1] w R :=
  calls_of_text (args := [.pointer r1]) mixed Try.func72 T_conf_reader_float_b T_conf_reader_float_s (HOk_of _ _ (by rw [T_conf_reader_float_hl]; exact ⟨T_conf_reader_float_1_ok, trivial⟩)) (by rw [T_conf_reader_float_eq]; exact h)

end Go.Proofs.Ytcpmfjclkdjfmaa

/-
  What the functions' code comes to; printed by a program of this claim's own.
-/
namespace Go.Proofs.Ytcpmfjclkdjfmaa
open Go Go.Vc
set_option maxRecDepth 100000
set_option linter.unusedVariables false

/-! tollgate/conf.PutCommand -/
def T_conf_PutCommand (x1 : Int) (x2 : Int) (x3 : Int) (x4 : Int) (s5 : ByteArray) (s6 : ByteArray) (s7 : ByteArray) (s8a : Option Addr) (s8l : Nat) (s8c : Nat) (w : World) (R : Ending → World → Prop) : Prop :=
  let w9 : World := w.alloc (.cells #[.int .i64 x1, .int .i64 x2, .int .i64 x3, .int .i64 x4, .string s5, .string s6, .string s7, .slice s8a s8l s8c] 28)
  ∃ x10 : Int, ∃ x11 : Int, ∃ x12 : Int, ∃ x13 : Int, ∃ s14 : ByteArray, ∃ s15 : ByteArray, ∃ s16 : ByteArray, ∃ s17a : Option Addr, ∃ s17l : Nat, ∃ s17c : Nat, rd w9 (⟨w.heap.size, 0, none⟩ : Addr) (.agg #[.int .i64 x10, .int .i64 x11, .int .i64 x12, .int .i64 x13, .string s14, .string s15, .string s16, .slice s17a s17l s17c]) ∧ Calls Try.prog 15 #[.agg #[.int .i64 x10, .int .i64 x11, .int .i64 x12, .int .i64 x13, .string s14, .string s15, .string s16, .slice s17a s17l s17c]] w9 (ret (fun r18 w19 => ∃ x20 : Int, r18 = .int .i64 x20 ∧ if ((x20 : Int) != 0) = true then (R (.returned (.tuple #[.slice none 0 0, .int .i64 x20])) w19) else (let w21 : World := w19.drew
  ∃ x22 : Int, rd w21 (⟨w.heap.size, 0, none⟩ : Addr) (.int .i64 x22) ∧ ∃ x23 : Int, rd w21 ((⟨w.heap.size, 0, none⟩ : Addr).add 1) (.int .i64 x23) ∧ ∃ x24 : Int, rd w21 ((⟨w.heap.size, 0, none⟩ : Addr).add 2) (.int .i64 x24) ∧ ∃ x25 : Int, rd w21 ((⟨w.heap.size, 0, none⟩ : Addr).add 3) (.int .i64 x25) ∧ Calls Try.prog 29 #[.slice none 0 0, .int .i64 x22] w21 (ret (fun r26 w27 => ∃ s28a : Option Addr, ∃ s28l : Nat, ∃ s28c : Nat, r26 = .slice s28a s28l s28c ∧ (rd w27 ((⟨w.heap.size, 0, none⟩ : Addr).add 3) (.int .i64 x25) ∧ rd w27 ((⟨w.heap.size, 0, none⟩ : Addr).add 2) (.int .i64 x24) ∧ rd w27 ((⟨w.heap.size, 0, none⟩ : Addr).add 1) (.int .i64 x23) ∧ True) ∧ Calls Try.prog 29 #[.slice s28a s28l s28c, .int .i64 x23] w27 (ret (fun r29 w30 => ∃ s31a : Option Addr, ∃ s31l : Nat, ∃ s31c : Nat, r29 = .slice s31a s31l s31c ∧ (rd w30 ((⟨w.heap.size, 0, none⟩ : Addr).add 3) (.int .i64 x25) ∧ rd w30 ((⟨w.heap.size, 0, none⟩ : Addr).add 2) (.int .i64 x24) ∧ True) ∧ Calls Try.prog 29 #[.slice s31a s31l s31c, .int .i64 x24] w30 (ret (fun r32 w33 => ∃ s34a : Option Addr, ∃ s34l : Nat, ∃ s34c : Nat, r32 = .slice s34a s34l s34c ∧ (rd w33 ((⟨w.heap.size, 0, none⟩ : Addr).add 3) (.int .i64 x25) ∧ True) ∧ Calls Try.prog 29 #[.slice s34a s34l s34c, .int .i64 (IntKind.wrap .i64 ((x25 : Int) + 1))] w33 (ret (fun r35 w36 => ∃ s37a : Option Addr, ∃ s37l : Nat, ∃ s37c : Nat, r35 = .slice s37a s37l s37c ∧ (True) ∧ let w38 : World := w36.drew
  ∃ s39 : ByteArray, rd w38 ((⟨w.heap.size, 0, none⟩ : Addr).add 4) (.string s39) ∧ ∃ s40 : ByteArray, rd w38 ((⟨w.heap.size, 0, none⟩ : Addr).add 5) (.string s40) ∧ ∃ s41 : ByteArray, rd w38 ((⟨w.heap.size, 0, none⟩ : Addr).add 6) (.string s41) ∧ ∃ s42a : Option Addr, ∃ s42l : Nat, ∃ s42c : Nat, rd w38 ((⟨w.heap.size, 0, none⟩ : Addr).add 7) (.slice s42a s42l s42c) ∧ Calls Try.prog 31 #[.slice s37a s37l s37c, .string s39] w38 (ret (fun r43 w44 => ∃ s45a : Option Addr, ∃ s45l : Nat, ∃ s45c : Nat, r43 = .slice s45a s45l s45c ∧ (rd w44 ((⟨w.heap.size, 0, none⟩ : Addr).add 7) (.slice s42a s42l s42c) ∧ rd w44 ((⟨w.heap.size, 0, none⟩ : Addr).add 6) (.string s41) ∧ rd w44 ((⟨w.heap.size, 0, none⟩ : Addr).add 5) (.string s40) ∧ True) ∧ Calls Try.prog 31 #[.slice s45a s45l s45c, .string s40] w44 (ret (fun r46 w47 => ∃ s48a : Option Addr, ∃ s48l : Nat, ∃ s48c : Nat, r46 = .slice s48a s48l s48c ∧ (rd w47 ((⟨w.heap.size, 0, none⟩ : Addr).add 7) (.slice s42a s42l s42c) ∧ rd w47 ((⟨w.heap.size, 0, none⟩ : Addr).add 6) (.string s41) ∧ True) ∧ Calls Try.prog 31 #[.slice s48a s48l s48c, .string s41] w47 (ret (fun r49 w50 => ∃ s51a : Option Addr, ∃ s51l : Nat, ∃ s51c : Nat, r49 = .slice s51a s51l s51c ∧ (rd w50 ((⟨w.heap.size, 0, none⟩ : Addr).add 7) (.slice s42a s42l s42c) ∧ True) ∧ Calls Try.prog 30 #[.slice s51a s51l s51c, .slice s42a s42l s42c] w50 (ret (fun r52 w53 => ∃ s54a : Option Addr, ∃ s54l : Nat, ∃ s54c : Nat, r52 = .slice s54a s54l s54c ∧ (True) ∧ R (.returned (.tuple #[.slice s54a s54l s54c, .int .i64 0])) w53) (pan R))) (pan R))) (pan R))) (pan R))) (pan R))) (pan R))) (pan R))) (pan R)))) (pan R))

theorem T_conf_PutCommand_hl : allP (hokL Try.prog (hookAt []) (bodyOf Try.f13) 1) = (True) := by kernel_rfl

theorem T_conf_PutCommand_eq (x1 : Int) (x2 : Int) (x3 : Int) (x4 : Int) (s5 : ByteArray) (s6 : ByteArray) (s7 : ByteArray) (s8a : Option Addr) (s8l : Nat) (s8c : Nat) (w : World) (R : Ending → World → Prop) : vcCode Try.prog (hookAt []) (bodyOf Try.f13) 1 ⟨argEnv [.agg #[.int .i64 x1, .int .i64 x2, .int .i64 x3, .int .i64 x4, .string s5, .string s6, .string s7, .slice s8a s8l s8c]] 0, Try.f13.ntmps, []⟩ w (finQ Try.prog Try.f13.results.toList R) = T_conf_PutCommand x1 x2 x3 x4 s5 s6 s7 s8a s8l s8c w R := by kernel_rfl

theorem T_conf_PutCommand_b : Try.f13.body = some (bodyOf Try.f13) := by kernel_rfl
theorem T_conf_PutCommand_s : (quietSel (bodyOf Try.f13) && Nat.ble 1 Try.f13.ntmps) = true := by kernel_rfl

theorem C_conf_PutCommand {x1 : Int} {x2 : Int} {x3 : Int} {x4 : Int} {s5 : ByteArray} {s6 : ByteArray} {s7 : ByteArray} {s8a : Option Addr} {s8l : Nat} {s8c : Nat} {w : World} {R : Ending → World → Prop} (h : T_conf_PutCommand x1 x2 x3 x4 s5 s6 s7 s8a s8l s8c w R) : Calls Try.prog 13 #[.agg #[.int .i64 x1, .int .i64 x2, .int .i64 x3, .int .i64 x4, .string s5, .string s6, .string s7, .slice s8a s8l s8c]] w R :=
  calls_of_text (args := [.agg #[.int .i64 x1, .int .i64 x2, .int .i64 x3, .int .i64 x4, .string s5, .string s6, .string s7, .slice s8a s8l s8c]]) mixed Try.func13 T_conf_PutCommand_b T_conf_PutCommand_s (HOk_of _ _ (by rw [T_conf_PutCommand_hl]; exact trivial)) (by rw [T_conf_PutCommand_eq]; exact h)

/-! tollgate/tollgateref08.PutCommand -/
end Go.Proofs.Ytcpmfjclkdjfmaa

/-
  A command's bytes: the program's PutCommand and the document's.
-/
namespace Go.Vc
open Go Go.Proofs Go.Proofs.Ytcpmfjclkdjfmaa
set_option maxRecDepth 100000
section
variable {E w : World} {L : List Asrt} {R : Ending → World → Prop} {F : Fz} {c : Cm.Cmd} {q : Sl}
def putCE (c : Cm.Cmd) : Cm.Bs := if Cm.chk c = 0 then Cm.putC c else []
theorem mem1' {A : Asrt} (hm : kn F ∈ L) : kn F ∈ A :: L := List.mem_cons_of_mem _ hm
theorem rd_cmdC {b : Nat} (h : St E (blkL b 28 (cmdL c q) :: L) w) : rd w ⟨b, 0, none⟩ (cmdV c q) := rd_agg (xs := cmdL c q) h.at_blk (by intro i u hu; rw [Nat.zero_add]; exact hu)
theorem tgs_short {l : List Cm.Tgt} (h : Cm.chkT l = 0) : tgsMax l ≤ 10000 := by
  have hz := Cm.chkT_zero h
  have key : ∀ l : List Cm.Tgt, (∀ t ∈ l, t.addr.length ≤ 128) → (l.map fun t => 14 + t.addr.length).sum ≤ l.length * 142 := by
    intro l
    induction l with
    | nil => intro _; simp
    | cons a r ih =>
      intro hl
      have := ih fun t ht => hl t (List.mem_cons_of_mem _ ht)
      have := hl a List.mem_cons_self
      simp only [List.map_cons, List.sum_cons, List.length_cons]; omega
  have := key l fun t ht => (Cm.chkT_good h t ht).1
  have := hz.2
  unfold tgsMax; omega
/-- PutCommand. -/
theorem PutCommand_spec (hm : kn F ∈ L) (h : St E L w) (hr : RdF F q.1 q.2.1 2 (c.tg.flatMap tV)) (hc : okC c)
    (k : ∀ (w' : World) (b : Sl), St E (byA b (putCE c) :: L) w' → R (.returned (.tuple #[.slice b.1 b.2.1 b.2.2, .int .i64 (Cm.chk c)])) w') : Calls Try.prog 13 #[cmdV c q] w R := by
  have hbig : big = 140737488355328 := rfl
  refine C_conf_PutCommand ?_
  unfold T_conf_PutCommand
  intro w9
  have h9 : St E (blkL w.heap.size 28 (cmdL c q) :: L) w9 := h.alloc (.cells ⟨cmdL c q⟩ 28)
  clear_value w9
  refine ⟨_, _, _, _, _, _, _, _, _, _, rd_cmdC h9, ?_⟩
  refine Check_spec (mem1' hm) h9 hr hc fun w19 h19 => ⟨_, rfl, ?_⟩
  refine ite_b (fun hh => ?_) fun hh => ?_
  · have e : Cm.chk c ≠ 0 := by simpa using hh
    refine k _ (none, 0, 0) ?_
    rw [show putCE c = [] from if_neg e]
    exact h19.drop.by_nil
  have e : Cm.chk c = 0 := by simpa using hh
  rw [show putCE c = Cm.putC c from if_pos e, e] at k
  have fn := Cm.chk_fine e
  have m1 := num_len c.act; have m2 := num_len c.client; have m3 := num_len c.seq; have m4 := num_len (c.expect + 1)
  have m5 := text_len c.host; have m6 := text_len c.pfx; have m7 := text_len c.pool
  have f1 := fn.h; have f2 := fn.p; have f3 := fn.o; have f4 := tgs_short fn.t
  intro w21
  have h21 : St E _ w21 := h19.drew
  clear_value w21
  refine ⟨_, rd_cell h21.at_blk rfl rfl, _, rd_fld h21.at_blk rfl rfl, _, rd_fld h21.at_blk rfl rfl, _, rd_fld h21.at_blk rfl rfl, ?_⟩
  refine num_spec (s := (none, 0, 0)) (xs := []) h21.by_nil (by rw [List.length_nil]; omega) fun w27 b27 h27 => ⟨_, _, _, rfl, ⟨rd_fld h27.f1.at_blk rfl rfl, rd_fld h27.f1.at_blk rfl rfl, rd_fld h27.f1.at_blk rfl rfl, trivial⟩, ?_⟩
  rw [List.nil_append] at h27
  refine num_spec h27 (by omega) fun w30 b30 h30 => ⟨_, _, _, rfl, ⟨rd_fld h30.f1.at_blk rfl rfl, rd_fld h30.f1.at_blk rfl rfl, trivial⟩, ?_⟩
  refine num_spec h30 (by simp only [List.length_append]; omega) fun w33 b33 h33 => ⟨_, _, _, rfl, ⟨rd_fld h33.f1.at_blk rfl rfl, trivial⟩, ?_⟩
  rw [wrap_id (by have := fn.ex; omega) (by have := fn.ex; omega)]
  refine num_spec h33 (by simp only [List.length_append]; omega) fun w36 b36 h36 => ⟨_, _, _, rfl, trivial, ?_⟩
  intro w38
  have h38 : St E _ w38 := h36.drew
  clear_value w38
  refine ⟨_, rd_fld h38.f1.at_blk rfl rfl, _, rd_fld h38.f1.at_blk rfl rfl, _, rd_fld h38.f1.at_blk rfl rfl, _, _, _, rd_fld h38.f1.at_blk rfl rfl, ?_⟩
  refine text_spec (x := c.host) h38 (by simp only [List.length_append]; omega) fun w44 b44 h44 => ⟨_, _, _, rfl, ⟨rd_fld h44.f1.at_blk rfl rfl, rd_fld h44.f1.at_blk rfl rfl, rd_fld h44.f1.at_blk rfl rfl, trivial⟩, ?_⟩
  refine text_spec (x := c.pfx) h44 (by simp only [List.length_append]; omega) fun w47 b47 h47 => ⟨_, _, _, rfl, ⟨rd_fld h47.f1.at_blk rfl rfl, rd_fld h47.f1.at_blk rfl rfl, trivial⟩, ?_⟩
  refine text_spec (x := c.pool) h47 (by simp only [List.length_append]; omega) fun w50 b50 h50 => ⟨_, _, _, rfl, ⟨rd_fld h50.f1.at_blk rfl rfl, trivial⟩, ?_⟩
  refine row_spec (q := q) (mem1' hm) hr hc.2.2.2 h50 (by simp only [List.length_append]; omega) fun w53 b53 h53 => ⟨_, _, _, rfl, trivial, k _ b53 ?_⟩
  have h54 := h53.f1.drop
  simpa [Cm.putC] using h54
end
end Go.Vc

/-
  Bytes that are gone through: the program's reader and the document's scan.
-/
namespace Go.Vc
open Go Go.Proofs Go.Proofs.Ytcpmfjclkdjfmaa
set_option maxRecDepth 100000

/-- Bytes that are read from, known for good. -/
structure Src (F : Fz) (q : Sl) (b : Cm.Bs) : Prop where
  rd : RdF F q.1 q.2.1 1 (bytesV b)
  len : b.length = q.2.1
  cap : q.2.1 ≤ q.2.2
  big : b.length ≤ 9223372036854775807
theorem Src.mono {F G : Fz} {q : Sl} {b : Cm.Bs} (h : Src F q b) (k : Fz.le F G) : Src G q b := ⟨h.rd.mono k, h.len, h.cap, h.big⟩
/-- The number that stands at a place, as the functions tell it. -/
def tkR (n0 : Nat) (x : Except Int (Nat × Cm.Bs)) : Int × Int × Int := match x with
  | .error e => (0, 0, e)
  | .ok (n, r) => (n, (n0 - r.length : Nat), 0)
def rdrL (q : Sl) (at_ : Nat) (e : Int) : List Value := [.slice q.1 q.2.1 q.2.2, .int .i64 (at_ : Int), .int .i64 e]
def rdrOk (b : Cm.Bs) (at_ : Nat) (e : Int) : Cm.Ps → Prop
  | .ok r => e = 0 ∧ at_ ≤ b.length ∧ r = b.drop at_
  | .error x => e = x ∧ x ≠ 0
def rdrA (ty p : Nat) (q : Sl) (b : Cm.Bs) (st : Cm.Ps) : Asrt := fun h => ∃ (at_ : Nat) (e : Int), rdrOk b at_ e st ∧ blkL p ty (rdrL q at_ e) h

section
variable {E w : World} {L : List Asrt} {R : Ending → World → Prop} {F : Fz} {q : Sl} {b : Cm.Bs} {st : Cm.Ps} {p ty : Nat}
theorem St.rdr_open (h : St E (rdrA ty p q b st :: L) w) : ∃ (at_ : Nat) (e : Int), rdrOk b at_ e st ∧ St E (blkL p ty (rdrL q at_ e) :: L) w := by
  obtain ⟨en, x, ⟨h1, h2, d, rfl, ⟨a, e, ho, hs⟩, hL⟩, hl⟩ := h
  exact ⟨a, e, ho, en, _, ⟨h1, h2, d, rfl, hs, hL⟩, hl⟩
theorem St.rdr_mk {at_ : Nat} {e : Int} (h : St E (blkL p ty (rdrL q at_ e) :: L) w) (ho : rdrOk b at_ e st) : St E (rdrA ty p q b st :: L) w := h.mono fun _ hx => ⟨at_, e, ho, hx⟩
theorem St.rdr_new (h : St E L w) (ty : Nat) (q : Sl) (b : Cm.Bs) : St E (rdrA ty w.heap.size q b (.ok b) :: L) (w.alloc (.cells ⟨rdrL q 0 0⟩ ty)) :=
  St.rdr_mk (at_ := 0) (e := 0) (h.alloc _) ⟨rfl, Nat.zero_le _, rfl⟩

/-! ### one number -/
theorem run_shl (t : TypeId) (x y : Operand) {v n : Nat} (hn : n < 64) : (do eqGuard .shl t x y (.int .i64 (v : Int)) (.int .i64 (n : Int)); binOp .shl t (.int .i64 (v : Int)) (.int .i64 (n : Int)) : Sem Value).run Try.prog w = .ok (.int .i64 (IntKind.wrap .i64 ((v * 2 ^ n : Nat) : Int))) w := by
  have e : min (n : Int).toNat (IntKind.bits .i64) = n := by rw [Int.toNat_natCast]; exact Nat.min_eq_left (by show n ≤ 64; omega)
  have h0 : ¬ ((n : Int) < 0) := by omega
  simp only [eqGuard, binOp, Op.shift]
  rw [if_neg h0, e]
  simp
theorem byte_at (hs : Src F q b) (hm : kn F ∈ L) (h : St E L w) {i : Nat} (hi : i < b.length) : ∃ ad, q.1 = some ad ∧ rd w (ad.add (i * 1)) (.int .u8 (b[i].toNat : Int)) := by
  have hr := hs.rd.at h hm
  obtain ⟨ad, ha, _, hc⟩ := hr.cells (by have := hs.len; omega)
  refine ⟨ad, ha, ?_⟩
  rw [Nat.mul_one]
  exact hr.rd_cell ha (by have := hs.len; omega) (v := .int .u8 (b[i].toNat : Int)) (by simp [bytesV, hi]) rfl
theorem takeGo_cons (j n : Nat) (c : UInt8) (r : Cm.Bs) : Cm.takeGo j n (c :: r) = if 128 ≤ c.toNat then (if j = 5 then .error 6 else Cm.takeGo (j + 1) (n + c.toNat % 128 * 128 ^ j) r)
    else if c.toNat = 0 ∧ 0 < j then .error 4 else if 1099511627776 < n + c.toNat % 128 * 128 ^ j then .error 6 else .ok (n + c.toNat % 128 * 128 ^ j, r) := rfl
theorem pow7 (k : Nat) (_h : k ≤ 5) : 128 ^ k = 2 ^ (7 * k) := by rw [show 128 = 2 ^ 7 from rfl, ← Nat.pow_mul]
theorem TakeNumber_spec {at_ : Nat} (hs : Src F q b) (hm : kn F ∈ L) (h : St E L w) (ha : at_ ≤ b.length)
    (k : ∀ w', St E L w' → R (.returned (.tuple #[.int .i64 (tkR b.length (Cm.takeGo 0 0 (b.drop at_))).1, .int .i64 (tkR b.length (Cm.takeGo 0 0 (b.drop at_))).2.1, .int .i64 (tkR b.length (Cm.takeGo 0 0 (b.drop at_))).2.2])) w') :
    Calls Try.prog 70 #[.slice q.1 q.2.1 q.2.2, .int .i64 (at_ : Int)] w R := by
  have hlen := hs.len
  have hbig := hs.big
  refine C_wire_TakeNumber ?_
  unfold T_wire_TakeNumber T_wire_TakeNumber_1
  refine ite_d (fun h1 => absurd h1 (by omega)) fun _ => ite_d (fun h1 => absurd h1 (by omega)) fun _ => ?_
  unfold T_wire_TakeNumber_2
  intro X hX
  have go : ∀ (r : Cm.Bs) (j n : Nat), r = b.drop (at_ + j) → j ≤ 5 → n < 2 ^ (7 * j) → at_ + j ≤ b.length → Cm.takeGo 0 0 (b.drop at_) = Cm.takeGo j n r → X (n : Int) (j : Int) w := by
    intro r
    induction r with
    | nil =>
      intro j n hr hj hn hle he
      refine hX _ _ _ ?_
      unfold T_wire_TakeNumber_2_body
      have : at_ + j = b.length := by have := congrArg List.length hr; simp at this; omega
      rw [show ((at_ : Int) + (j : Int)) = ((at_ + j : Nat) : Int) from by omega, wrap_nat (by omega), eq_dec]
      refine ite_d (fun _ => ?_) (fun hh => absurd hh (by omega))
      have := k w h
      rw [he] at this
      exact this
    | cons c r ih =>
      intro j n hr hj hn hle he
      refine hX _ _ _ ?_
      unfold T_wire_TakeNumber_2_body
      have hlt : at_ + j < b.length := by have := congrArg List.length hr; simp at this; omega
      have hd := List.drop_eq_getElem_cons hlt
      rw [← hr] at hd
      injection hd with hc hr2
      rw [show ((at_ : Int) + (j : Int)) = ((at_ + j : Nat) : Int) from by omega, wrap_nat (n := at_ + j) (by omega), eq_dec]
      refine ite_d (fun hh => absurd hh (by omega)) (fun _ => ?_)
      obtain ⟨ad, had, hrd⟩ := byte_at hs hm h hlt
      rw [← hc] at hrd
      have h256 := c.toNat_lt
      have hk := k w h
      rw [he] at hk
      refine ⟨by omega, by omega, ad, had, (c.toNat : Int), by rw [Int.toNat_natCast]; exact hrd, ?_⟩
      rw [wrap_nat (n := c.toNat) (by omega), and127 _ (by omega), wrap_nat (n := c.toNat % 128) (by omega), show (7 : Int) * (j : Int) = ((7 * j : Nat) : Int) from by omega, wrap_nat (n := 7 * j) (by omega)]
      have hp : 2 ^ (7 * j) ≤ 34359738368 := Nat.le_trans (Nat.pow_le_pow_right (by decide) (by omega : 7 * j ≤ 35)) (by decide)
      have hmul : c.toNat % 128 * 2 ^ (7 * j) ≤ 127 * 34359738368 := Nat.mul_le_mul (by omega) hp
      refine runV_ok (run_shl _ _ _ (by omega)) ⟨_, rfl, ?_⟩
      rw [wrap_nat (n := c.toNat % 128 * 2 ^ (7 * j)) (by omega), or_add hn (by omega), show ((j : Int) + 1) = ((j + 1 : Nat) : Int) from by omega, wrap_nat (n := j + 1) (by omega)]
      rw [← pow7 j hj]
      rw [takeGo_cons] at hk he
      refine ite_d (fun hc1 => ?_) (fun hc1 => ?_)
      · rw [if_pos (by omega)] at hk he
        rw [eq_dec]
        refine ite_d (fun h5 => ?_) (fun h5 => ?_)
        · rw [if_pos (by omega)] at hk
          exact hk
        · rw [if_neg (by omega)] at he
          refine ih (j + 1) _ hr2 (by omega) ?_ (by omega) he
          rw [pow7 j hj, show 7 * (j + 1) = 7 * j + 7 from by omega, Nat.pow_add]
          have : c.toNat % 128 * 2 ^ (7 * j) ≤ 127 * 2 ^ (7 * j) := Nat.mul_le_mul_right _ (by omega)
          omega
      · rw [if_neg (by omega)] at hk
        unfold T_wire_TakeNumber_3
        rw [eq_dec]
        have tail : ¬ (c.toNat = 0 ∧ 0 < j) → (if decide ((((n + c.toNat % 128 * 128 ^ j : Nat) : Int)) > 1099511627776) = true then R (.returned (.tuple #[.int .i64 0, .int .i64 0, .int .i64 6])) w else
            R (.returned (.tuple #[.int .i64 ((n + c.toNat % 128 * 128 ^ j : Nat) : Int), .int .i64 (IntKind.wrap .i64 ((at_ : Int) + ((j + 1 : Nat) : Int))), .int .i64 0])) w) := fun hz => by
          rw [if_neg hz] at hk
          refine ite_d (fun h6 => ?_) (fun h6 => ?_)
          · rw [if_pos (by omega)] at hk
            exact hk
          · rw [if_neg (by omega)] at hk
            rw [show ((at_ : Int) + ((j + 1 : Nat) : Int)) = ((at_ + (j + 1) : Nat) : Int) from by omega, wrap_nat (n := at_ + (j + 1)) (by omega)]
            have e : b.length - r.length = at_ + (j + 1) := by rw [hr2, List.length_drop]; omega
            simp only [tkR, e] at hk
            exact hk
        refine ite_d (fun h0 => ite_d (fun h2 => ?_) (fun h2 => tail (by omega))) (fun h0 => tail (by omega))
        rw [if_pos (by omega)] at hk
        exact hk
  exact go (b.drop at_) 0 0 rfl (by omega) (by decide) (by omega) rfl
theorem takeGo_rest : ∀ (r : Cm.Bs) (j n m : Nat) (r' : Cm.Bs), Cm.takeGo j n r = .ok (m, r') → ∃ i, r' = r.drop i ∧ i ≤ r.length
  | [], _, _, _, _, h => by simp [Cm.takeGo] at h
  | c :: r, j, n, m, r', h => by
    unfold Cm.takeGo at h
    split at h
    · split at h
      · cases h
      · obtain ⟨i, h1, h2⟩ := takeGo_rest r _ _ m r' h
        exact ⟨i + 1, by simpa using h1, by simpa using h2⟩
    · split at h
      · cases h
      · split at h
        · cases h
        · injection h with h; injection h with h1 h2
          exact ⟨1, by simpa using h2.symm, by simp⟩
theorem takeGo_err : ∀ (r : Cm.Bs) (j n : Nat) (e : Int), Cm.takeGo j n r = .error e → e ≠ 0
  | [], _, _, e, h => by simp [Cm.takeGo] at h; omega
  | c :: r, j, n, e, h => by
    unfold Cm.takeGo at h
    split at h
    · split at h
      · injection h with h; omega
      · exact takeGo_err r _ _ e h
    · split at h
      · injection h with h; omega
      · split at h
        · injection h with h; omega
        · cases h

/-! ### the reader's steps -/
theorem rnum_spec {most : Nat} (hs : Src F q b) (hm : kn F ∈ L) (h : St E (rdrA 89 p q b st :: L) w)
    (k : ∀ w', St E (rdrA 89 p q b (Cm.rNum most st).2 :: L) w' → R (.returned (.int .i64 ((Cm.rNum most st).1 : Int))) w') : Calls Try.prog 43 #[.pointer (some ⟨p, 0, none⟩), .int .i64 (most : Int)] w R := by
  obtain ⟨a, e, ho, h0⟩ := h.rdr_open
  refine C_conf_reader_num ?_
  unfold T_conf_reader_num
  refine ⟨_, rfl, _, rd_fld h0.at_blk rfl rfl, ?_⟩
  rw [ne_dec]
  cases st with
  | error x =>
    obtain ⟨rfl, hx⟩ := ho
    exact ite_d (fun _ => k w h) fun hh => absurd hx hh
  | ok r =>
    obtain ⟨rfl, hab, rfl⟩ := ho
    refine ite_d (fun hh => absurd rfl hh) fun _ => ?_
    intro w5
    have h5 := h0.drew
    refine ⟨_, rfl, _, _, _, rd_cell h5.at_blk rfl rfl, _, rfl, _, rd_fld h5.at_blk rfl rfl, TakeNumber_spec hs (List.mem_cons_of_mem _ hm) h5 hab fun w1 h1 => ⟨_, _, _, rfl, trivial, ?_⟩⟩
    unfold T_conf_reader_num_1 T_conf_reader_num_2
    cases ht : Cm.takeGo 0 0 (b.drop a) with
    | error x =>
      have hx := takeGo_err _ _ _ _ ht
      have hk := k
      simp only [Cm.rNum, ht] at hk
      simp only [tkR, eq_dec, ne_dec]
      refine ite_d (fun hh => absurd hh hx) fun _ => ite_b (fun hh => by cases hh) fun _ => ite_d (fun _ => ⟨_, rfl, rfl, wrOk_fld h1.at_blk (by simp [rdrL]) rfl, hk _ (St.rdr_mk (at_ := a) (e := x) (h1.wr_fld (k := 2) (v := .int .i64 x) rfl) ⟨rfl, hx⟩)⟩) fun hh => absurd hx hh
    | ok nr =>
      obtain ⟨n, r'⟩ := nr
      obtain ⟨i, hi1, hi2⟩ := takeGo_rest _ _ _ _ _ ht
      have hk := k
      simp only [Cm.rNum, ht] at hk
      simp only [tkR, eq_dec, ne_dec]
      refine ite_d (fun _ => ite_d (fun hgt => ite_d (fun _ => ?_) fun hh => absurd (by decide) hh) fun hle => ite_d (fun hh => absurd (by trivial) hh) fun _ => ?_) fun hh => absurd (by trivial) hh
      · rw [if_pos (by omega)] at hk
        exact ⟨_, rfl, rfl, wrOk_fld h1.at_blk (by simp [rdrL]) rfl, hk _ (St.rdr_mk (at_ := a) (e := 6) (h1.wr_fld (k := 2) (v := .int .i64 6) rfl) ⟨rfl, by decide⟩)⟩
      · rw [if_neg (by omega)] at hk
        have hl : b.length - r'.length = a + i := by rw [hi1]; simp only [List.length_drop] at hi2 ⊢; omega
        rw [hl]
        exact ⟨_, rfl, rfl, wrOk_fld h1.at_blk (by simp [rdrL]) rfl, hk _ (St.rdr_mk (at_ := a + i) (e := 0) (h1.wr_fld (k := 1) (v := .int .i64 ((a + i : Nat) : Int)) rfl) ⟨rfl, by simp only [List.length_drop] at hi2; omega, by rw [hi1, List.drop_drop]⟩)⟩
theorem Src.cut (hs : Src F q b) {a n : Nat} (h : a + n ≤ b.length) : RdF F (if q.2.2 = a then q.1 else q.1.map fun x => x.add (a * 1)) (a + n - a) 1 (bytesV ((b.drop a).take n)) := by
  have hlen := hs.len
  have hcap := hs.cap
  have := hs.rd.sub (lo := a) (hi := a + n) (by omega) (by omega) q.2.2 (by omega)
  refine Eq.mp ?_ this
  congr 1
  simp only [bytesV, List.map_take, List.map_drop, Nat.mul_one]
  congr 1; omega
theorem take_spec {n : Nat} (hn : n ≤ 1000000000) (hs : Src F q b) (hm : kn F ∈ L) (h : St E (rdrA 89 p q b st :: L) w)
    (k : ∀ w' (s : Sl), St E (rdrA 89 p q b (Cm.rRow n st).2 :: L) w' → RdF F s.1 s.2.1 1 (bytesV (Cm.rRow n st).1) → R (.returned (.slice s.1 s.2.1 s.2.2)) w') : Calls Try.prog 71 #[.pointer (some ⟨p, 0, none⟩), .int .i64 (n : Int)] w R := by
  have hlen := hs.len
  have hcap := hs.cap
  have hbig := hs.big
  obtain ⟨a, e, ho, h0⟩ := h.rdr_open
  refine C_conf_reader_take ?_
  unfold T_conf_reader_take T_conf_reader_take_1
  intro w5
  have h5 := h0.drew
  refine ⟨_, rfl, _, rd_fld h5.at_blk rfl rfl, ?_⟩
  rw [eq_dec]
  cases st with
  | error x =>
    obtain ⟨rfl, hx⟩ := ho
    refine ite_d (fun hh => absurd hh hx) fun _ => ?_
    unfold T_conf_reader_take_2
    refine ite_b (fun hh => by cases hh) fun _ => ⟨_, rfl, _, rd_fld h5.at_blk rfl rfl, ?_⟩
    rw [ne_dec]
    exact ite_d (fun _ => k w5 (none, 0, 0) (St.rdr_mk h5 ⟨rfl, hx⟩) (RdF.nil F none)) fun hh => absurd hx hh
  | ok r =>
    obtain ⟨rfl, hab, rfl⟩ := ho
    refine ite_d (fun _ => ⟨_, rfl, _, _, _, rd_cell h5.at_blk rfl rfl, _, rfl, _, rd_fld h5.at_blk rfl rfl, ?_⟩) fun hh => absurd rfl hh
    rw [show ((q.2.1 : Int) - (a : Int)) = ((q.2.1 - a : Nat) : Int) from by omega, wrap_nat (n := q.2.1 - a) (by omega)]
    unfold T_conf_reader_take_2
    simp only [Cm.rRow, List.length_drop] at k
    refine ite_d (fun hlt => ?_) fun hge => ?_
    · rw [if_pos (by omega)] at k
      refine ⟨_, rfl, rfl, wrOk_fld h5.at_blk (by simp [rdrL]) rfl, ?_⟩
      intro w20
      have h20 : St E (blkL p 89 (rdrL q a 3) :: L) w20 := h5.wr_fld (k := 2) (v := .int .i64 3) rfl
      exact ⟨_, rfl, _, rd_fld h20.at_blk rfl rfl, k w20 (none, 0, 0) (St.rdr_mk h20 ⟨rfl, by decide⟩) (RdF.nil F none)⟩
    · rw [if_neg (by omega)] at k
      refine ⟨_, rfl, _, rd_fld h5.at_blk rfl rfl, ?_⟩
      rw [ne_dec]
      refine ite_d (fun hh => absurd rfl hh) fun _ => ⟨_, rfl, _, rd_fld h5.at_blk rfl rfl, _, rfl, rfl, wrOk_fld h5.at_blk (by simp [rdrL]) rfl, ?_⟩
      rw [show ((a : Int) + (n : Int)) = ((a + n : Nat) : Int) from by omega, wrap_nat (n := a + n) (by omega)]
      intro w27 w28
      have h28 : St E (blkL p 89 (rdrL q (a + n) 0) :: L) w28 := (h5.wr_fld (k := 1) (v := .int .i64 ((a + n : Nat) : Int)) rfl).drew
      refine ⟨_, rfl, _, _, _, rd_cell h28.at_blk rfl rfl, _, rfl, _, rd_fld h28.at_blk rfl rfl, _, rfl, _, rd_fld h28.at_blk rfl rfl, by omega, by omega, ?_⟩
      rw [show (((a + n : Nat) : Int) - (n : Int)) = (a : Int) from by omega, wrap_nat (n := a) (by omega), Int.toNat_natCast, Int.toNat_natCast]
      exact ⟨by omega, by omega, k w28 (_, _, _) (St.rdr_mk h28 ⟨rfl, by omega, by rw [List.drop_drop]⟩) (hs.cut (by omega))⟩
theorem rNum_le (most : Nat) (st : Cm.Ps) : (Cm.rNum most st).1 ≤ most := by
  cases st with
  | error e => simp [Cm.rNum]
  | ok r =>
    simp only [Cm.rNum]
    split
    · simp
    · split
      · simp
      · simp only; omega
theorem rtext_spec (hs : Src F q b) (hm : kn F ∈ L) (h : St E (rdrA 89 p q b st :: L) w)
    (k : ∀ w', St E (rdrA 89 p q b (Cm.rText st).2 :: L) w' → R (.returned (.string (bs (Cm.rText st).1))) w') : Calls Try.prog 44 #[.pointer (some ⟨p, 0, none⟩)] w R := by
  refine C_conf_reader_text ?_
  unfold T_conf_reader_text
  refine rnum_spec (most := 128) hs hm h fun w1 h1 => ⟨_, rfl, take_spec (by have := rNum_le 128 st; omega) hs hm h1 fun w2 s h2 hr => ⟨_, _, _, rfl, ?_⟩⟩
  exact runV_ok (convert_string (e := 5) (by kernel_rfl) (by kernel_rfl) (by kernel_rfl) (hr.at h2 (List.mem_cons_of_mem _ hm))) ⟨_, rfl, k w2 h2⟩
/-! ### weights -/
theorem bits_pre (l : Cm.Bs) (_hl : l.length ≤ 8) : ∀ j, j ≤ l.length → Cm.bits (l.take j) < 256 ^ j := by
  intro j
  induction j with
  | zero => intro _; simp [Cm.bits]
  | succ j ih =>
    intro hj
    rw [List.take_succ_eq_append_getElem (by omega)]
    have := ih (by omega)
    have hlt := (l[j]'(by omega)).toNat_lt
    simp only [Cm.bits, List.foldl_append, List.foldl_cons, List.foldl_nil] at this ⊢
    rw [Nat.pow_succ]; omega
theorem wrap_u64 {n : Nat} (h : n < 18446744073709551616) : IntKind.wrap .u64 (n : Int) = n := by
  unfold IntKind.wrap
  simp [IntKind.signed, IntKind.bits]
  omega
theorem or8 (a : Nat) (c : Nat) (hc : c < 256) (h : a * 256 + c < 18446744073709551616) :
    IntKind.wrap .u64 ((BitVec.ofInt (IntKind.bits .u64) (IntKind.wrap .u64 ((a : Int) * 2 ^ 8))) ||| (BitVec.ofInt (IntKind.bits .u64) (IntKind.wrap .u64 (c : Int)))).toNat = ((a * 256 + c : Nat) : Int) := by
  rw [show ((a : Int) * 2 ^ 8) = ((a * 256 : Nat) : Int) from by push_cast; rfl, wrap_u64 (n := a * 256) (by omega), wrap_u64 (n := c) (by omega)]
  have e : ((BitVec.ofInt (IntKind.bits .u64) ((a * 256 : Nat) : Int)) ||| (BitVec.ofInt (IntKind.bits .u64) (c : Int))).toNat = a * 256 + c := by
    show ((BitVec.ofInt 64 ((a * 256 : Nat) : Int)) ||| (BitVec.ofInt 64 (c : Int))).toNat = _
    rw [BitVec.toNat_or, ofInt_nat _ (by omega), ofInt_nat _ (by omega), show a * 256 = 2 ^ 8 * a from by omega, ← Nat.two_pow_add_eq_or_of_lt (by omega)]
  rw [e, wrap_u64 h]
theorem rRow_len (n : Nat) (st : Cm.Ps) : (Cm.rRow n st).1.length ≤ n := by
  cases st with
  | error e => simp [Cm.rRow]
  | ok r => simp only [Cm.rRow]; split <;> simp; omega
theorem row_at {s : Sl} {l : Cm.Bs} (hr : RdF F s.1 s.2.1 1 (bytesV l)) (hm : kn F ∈ L) (h : St E L w) {i : Nat} (hi : i < l.length) : ∃ ad, s.1 = some ad ∧ rd w (ad.add (i * 1)) (.int .u8 (l[i].toNat : Int)) := by
  have hr' := hr.at h hm
  have hl : l.length = s.2.1 := by have := hr'.1; rw [bytesV_len] at this; omega
  obtain ⟨ad, ha, _, hc⟩ := hr'.cells (by omega)
  refine ⟨ad, ha, ?_⟩
  rw [Nat.mul_one]
  exact hr'.rd_cell ha (by omega) (v := .int .u8 (l[i].toNat : Int)) (by simp [bytesV, hi]) rfl
theorem row_len {s : Sl} {l : Cm.Bs} (hr : RdF F s.1 s.2.1 1 (bytesV l)) (hm : kn F ∈ L) (h : St E L w) : l.length = s.2.1 := by have := (hr.at h hm).1; rw [bytesV_len] at this; omega
theorem bits_next (l : Cm.Bs) (j : Nat) (hj : j < l.length) : Cm.bits (l.take (j + 1)) = Cm.bits (l.take j) * 256 + l[j].toNat := by
  rw [List.take_succ_eq_append_getElem hj]; simp only [Cm.bits, List.foldl_append, List.foldl_cons, List.foldl_nil]
theorem bits_small (l : Cm.Bs) (hl : l.length ≤ 8) (j : Nat) (hj : j ≤ l.length) : Cm.bits (l.take j) < 18446744073709551616 :=
  Nat.lt_of_lt_of_le (bits_pre l hl j hj) (Nat.le_trans (Nat.pow_le_pow_right (by decide) (by omega : j ≤ 8)) (by decide))
theorem rfloat_spec (hs : Src F q b) (hm : kn F ∈ L) (h : St E (rdrA 89 p q b st :: L) w)
    (k : ∀ w', St E (rdrA 89 p q b (Cm.rRow 8 st).2 :: L) w' → R (.returned (.float .f64 (Cm.bits (Cm.rRow 8 st).1))) w') : Calls Try.prog 72 #[.pointer (some ⟨p, 0, none⟩)] w R := by
  refine C_conf_reader_float ?_
  unfold T_conf_reader_float
  refine take_spec (n := 8) (by omega) hs hm h fun w1 s h1 hr => ⟨_, _, _, rfl, ?_⟩
  have hl8 := rRow_len 8 st
  have hm1 := List.mem_cons_of_mem (rdrA 89 p q b (Cm.rRow 8 st).2) hm
  have hln := row_len hr hm1 h1
  unfold T_conf_reader_float_1
  intro X hX
  refine up_to (Cm.rRow 8 st).1.length (Q := fun j => X ((Cm.bits ((Cm.rRow 8 st).1.take j) : Nat) : Int) (j : Int) w1) ?_
  intro j hj ih
  refine hX _ _ _ ?_
  unfold T_conf_reader_float_1_body
  rw [← hln]
  refine ite_d (fun hc => ?_) fun hc => ?_
  · have hjl : j < (Cm.rRow 8 st).1.length := by omega
    obtain ⟨ad, ha, hrd⟩ := row_at hr hm1 h1 hjl
    refine ⟨by omega, by omega, ad, ha, _, by rw [Int.toNat_natCast]; exact hrd, ?_⟩
    have e := bits_next (Cm.rRow 8 st).1 j hjl
    rw [or8 _ _ (UInt8.toNat_lt _) (by rw [← e]; exact bits_small _ hl8 _ (by omega)), ← e, succ_big (by unfold big; omega)]
    exact ih hjl
  · rw [List.take_of_length_le (by omega)]
    refine runV_ok run_ffrom ⟨_, rfl, ?_⟩
    rw [Int.toNat_natCast]
    exact k w1 h1

/-! ### targets -/
theorem rMany_bad {α : Type} (f : Cm.Ps → α × Cm.Ps) (n : Nat) {s : Cm.Ps} (h : Cm.bad s = true) : Cm.rMany f n s = ([], s) := by
  cases n with
  | zero => rfl
  | succ n => simp [Cm.rMany, h]
theorem rdrOk_bad {at_ : Nat} {e : Int} (h : rdrOk b at_ e st) : decide (e = 0) = !Cm.bad st := by
  cases st with
  | ok r => simp [Cm.bad, h.1]
  | error x => simp [Cm.bad, h.1, h.2]
theorem rtargets_spec (hs : Src F q b) (hm : kn F ∈ L) (h : St E (rdrA 89 p q b st :: L) w)
    (k : ∀ w' (s : Sl), St E (tgA s (Cm.rTgs st).1 :: rdrA 89 p q b (Cm.rTgs st).2 :: L) w' → R (.returned (.slice s.1 s.2.1 s.2.2)) w') : Calls Try.prog 45 #[.pointer (some ⟨p, 0, none⟩)] w R := by
  refine C_conf_reader_targets ?_
  unfold T_conf_reader_targets
  refine rnum_spec (most := 16) hs hm h fun w1 h1 => ⟨_, rfl, ?_⟩
  have hle := rNum_le 16 st
  unfold T_conf_reader_targets_1
  intro X hX
  have go : ∀ (n : Nat) (s : Sl) (xs : List Cm.Tgt) (st2 : Cm.Ps) (w : World), xs.length + n ≤ 16 → St E (tgA s xs :: rdrA 89 p q b st2 :: L) w → Cm.rTgs st = (xs ++ (Cm.rMany Cm.rTgt n st2).1, (Cm.rMany Cm.rTgt n st2).2) → X s.1 s.2.1 s.2.2 (n : Int) w := by
    intro n
    induction n with
    | zero =>
      intro s xs st2 w hn h he
      refine hX _ _ _ _ _ ?_
      unfold T_conf_reader_targets_1_body T_conf_reader_targets_2
      refine ite_d (fun hh => absurd hh (by decide)) fun _ => ite_b (fun hh => by cases hh) fun _ => ?_
      have := k w s
      rw [he] at this
      simp only [Cm.rMany, List.append_nil] at this
      exact this h
    | succ n ih =>
      intro s xs st2 w hn h he
      refine hX _ _ _ _ _ ?_
      unfold T_conf_reader_targets_1_body T_conf_reader_targets_2
      obtain ⟨a, e, ho, h0⟩ := h.f1.rdr_open
      refine ite_d (fun _ => ⟨_, rfl, _, rd_fld h0.at_blk rfl rfl, ?_⟩) fun hh => absurd (by omega) hh
      rw [eq_dec, rdrOk_bad ho]
      refine ite_n (fun hb => ?_) fun hb => ?_
      · refine rtext_spec hs (List.mem_cons_of_mem _ hm) h.f1 fun w2 h2 => ⟨_, rfl, rfloat_spec hs (List.mem_cons_of_mem _ hm) h2 fun w3 h3 => ⟨_, rfl, ?_⟩⟩
        intro w23
        obtain ⟨s', w', hr, hs'⟩ := app_t1 (t := (Cm.rTgt st2).1) h3.f1 (by omega)
        refine runV_ok hr ⟨_, _, _, rfl, ?_⟩
        rw [wrap_id (by omega) (by omega), show ((n + 1 : Nat) : Int) - 1 = (n : Int) from by omega]
        refine ih s' _ (Cm.rTgt st2).2 w' (by simp; omega) hs' ?_
        rw [he]
        simp only [Cm.rMany, hb, Bool.false_eq_true, if_false, List.append_assoc, List.cons_append, List.nil_append]
      · have := k w s
        rw [he, rMany_bad _ _ hb, List.append_nil] at this
        exact this h
  exact go _ (none, 0, 0) [] _ w1 (by simp; omega) (St.ownS_nil h1) rfl
end
end Go.Vc

/-
  Commands out of bytes; targets, commands, configurations held against each other.
-/
namespace Go.Vc
open Go Go.Proofs Go.Proofs.Ytcpmfjclkdjfmaa
set_option maxRecDepth 100000

section
variable {E w : World} {L : List Asrt} {R : Ending → World → Prop} {F : Fz} {q : Sl} {b : Cm.Bs} {st : Cm.Ps} {p ty : Nat}

/-! ### the end -/
def endE (st : Cm.Ps) (v : Bool) : Int := match st with
  | .error e => e
  | .ok r => if r ≠ [] ∨ v = false then 4 else 0
theorem drop_nil {a : Nat} (ha : a ≤ b.length) : b.drop a = [] ↔ ¬ a < b.length := by
  rw [List.drop_eq_nil_iff]; omega
theorem end_spec {g : FuncId} {gi gc : Array Value} {v : Bool} (hs : Src F q b) (hb : hasBody Try.prog g = true) (h : St E (rdrA 89 p q b st :: L) w)
    (hc : ∀ (A : Asrt) (w : World) (R : Ending → World → Prop), Cm.bad st = false → St E (A :: L) w → (∀ w', St E (A :: L) w' → R (.returned (.bool v)) w') → Calls Try.prog g ⟨gi.toList ++ ([] ++ gc.toList)⟩ w R)
    (k : ∀ w', St E L w' → R (.returned (.int .i64 (endE st v))) w') : Calls Try.prog 46 #[.pointer (some ⟨p, 0, none⟩), .func (.func g) gi gc] w R := by
  have hlen := hs.len
  obtain ⟨a, e, ho, h0⟩ := h.rdr_open
  refine C_conf_reader_end ?_
  unfold T_conf_reader_end T_conf_reader_end_1
  intro w5
  have h5 := h0.drew
  refine ⟨_, rfl, _, rd_fld h5.at_blk rfl rfl, ?_⟩
  rw [eq_dec]
  cases st with
  | error x =>
    obtain ⟨rfl, hx⟩ := ho
    refine ite_d (fun hh => absurd hh hx) fun _ => ⟨⟨rd_fld h5.at_blk rfl rfl, trivial⟩, ite_b (fun hh => by cases hh) fun _ => ⟨_, rfl, _, rd_fld h5.at_blk rfl rfl, k _ h5.drop⟩⟩
  | ok r =>
    obtain ⟨rfl, hab, rfl⟩ := ho
    have four : ∀ w1, St E (blkL p 89 (rdrL q a 0) :: L) w1 → endE (.ok (b.drop a)) v = 4 → ∃ a20, some (⟨p, 0, none⟩ : Addr) = some a20 ∧ (.int .i64 4 : Value).cells.size = 1 ∧ wrOk w1 (a20.add 2) (.int .i64 4) ∧ let w21 : World := wr w1 (a20.add 2) (.int .i64 4)
        ∃ a22, some (⟨p, 0, none⟩ : Addr) = some a22 ∧ ∃ x23 : Int, rd w21 (a22.add 2) (.int .i64 x23) ∧ R (.returned (.int .i64 x23)) w21 := fun w1 h1 e4 => by
      refine ⟨_, rfl, rfl, wrOk_fld h1.at_blk (by simp [rdrL]) rfl, ?_⟩
      intro w21
      have h21 : St E (blkL p 89 (rdrL q a 4) :: L) w21 := h1.wr_fld (k := 2) (v := .int .i64 4) rfl
      exact ⟨_, rfl, _, rd_fld h21.at_blk rfl rfl, congI (k _ h21.drop) e4⟩
    refine ite_d (fun _ => ⟨_, rfl, _, rd_fld h5.at_blk rfl rfl, _, rfl, _, _, _, rd_cell h5.at_blk rfl rfl, ite_d (fun hlt => ?_) fun hge => ?_⟩) fun hh => absurd rfl hh
    · refine ⟨⟨rd_cell h5.at_blk rfl rfl, rd_fld h5.at_blk rfl rfl, trivial⟩, ite_b (fun _ => four _ h5 ?_) fun hh => by cases hh⟩
      have : b.drop a ≠ [] := by rw [Ne, drop_nil hab]; omega
      simp [endE, this]
    · have hnil : b.drop a = [] := (drop_nil hab).2 (by omega)
      refine ⟨hb, hc _ _ _ rfl h5 fun w1 h1 => ⟨_, rfl, ⟨rd_cell h1.at_blk rfl rfl, rd_fld h1.at_blk rfl rfl, trivial⟩, ite_n (fun hv => four _ h1 ?_) fun hv => ⟨_, rfl, _, rd_fld h1.at_blk rfl rfl, congI (k _ h1.drop) ?_⟩⟩⟩
      · simp [endE, hv]
      · simp [endE, hv, hnil]

/-! ### a command out of bytes -/
def getR (b : Cm.Bs) : Cm.Cmd × Int := match Cm.getC b with
  | .ok c => (c, 0)
  | .error e => (zeroC, e)
theorem c1_spec {c : Cm.Cmd} {s : Sl} {bk : Nat} (hm : kn F ∈ L) (hb : blkL bk 28 (cmdL c s) ∈ L) (h : St E L w) (hr : RdF F s.1 s.2.1 2 (c.tg.flatMap tV)) (hc : okC c)
    (k : ∀ w', St E L w' → R (.returned (.bool (decide (Cm.chk c = 0)))) w') : Calls Try.prog 47 #[.pointer (some ⟨bk, 0, none⟩)] w R := by
  refine C_conf_GetCommand_c1 ?_
  unfold T_conf_GetCommand_c1
  refine ⟨_, _, _, _, _, _, _, _, _, _, rd_agg (h.mem hb) (xs := cmdL c s) (fun n u hu => by rw [Nat.zero_add]; exact hu), ?_⟩
  refine Check_spec (c := c) (s := s) hm h hr hc fun w' h' => ⟨_, rfl, congB (k w' h') (eq_dec _ _).symm⟩
theorem rText_len (st : Cm.Ps) : (Cm.rText st).1.length ≤ 128 := Nat.le_trans (rRow_len _ _) (rNum_le 128 st)
theorem rMany_all {α : Type} {f : Cm.Ps → α × Cm.Ps} {g : α → Prop} (hf : ∀ s, g (f s).1) : ∀ (n : Nat) (s : Cm.Ps), (Cm.rMany f n s).1.length ≤ n ∧ ∀ a ∈ (Cm.rMany f n s).1, g a
  | 0, s => ⟨by simp [Cm.rMany], fun a ha => by simp [Cm.rMany] at ha⟩
  | n + 1, s => by
    unfold Cm.rMany
    split
    · exact ⟨by simp, fun a ha => by simp at ha⟩
    · obtain ⟨h1, h2⟩ := rMany_all hf n (f s).2
      refine ⟨by simpa using h1, fun a ha => ?_⟩
      rcases List.mem_cons.1 ha with rfl | ha
      · exact hf s
      · exact h2 a ha
theorem bits_all (l : Cm.Bs) (hl : l.length ≤ 8) : Cm.bits l < two64 := by
  have := bits_small l hl l.length (Nat.le_refl _)
  rwa [List.take_length] at this
theorem rTgs_short (st : Cm.Ps) : shortTs (Cm.rTgs st).1 := by
  obtain ⟨h1, h2⟩ := rMany_all (f := Cm.rTgt) (g := fun t => t.addr.length ≤ 128 ∧ t.w < two64) (fun s => ⟨rText_len s, bits_all _ (rRow_len 8 _)⟩) (Cm.rNum 16 st).1 (Cm.rNum 16 st).2
  exact ⟨Nat.le_trans h1 (rNum_le 16 st), h2⟩
theorem okC_rCmd (b : Cm.Bs) : okC (Cm.rCmd b).1 := by
  simp only [Cm.rCmd, okC]
  have e : (128 : Nat) ≤ huge := by decide
  exact ⟨Nat.le_trans (rText_len _) e, Nat.le_trans (rText_len _) e, Nat.le_trans (rText_len _) e, (rTgs_short _).ok⟩
theorem body_c1 : hasBody Try.prog 47 = true := by kernel_rfl
theorem getR_of {b : Cm.Bs} (he : ∀ e, (Cm.rCmd b).2 = .error e → e ≠ 0) : getR b = if endE (Cm.rCmd b).2 (decide (Cm.chk (Cm.rCmd b).1 = 0)) = 0 then ((Cm.rCmd b).1, 0) else (zeroC, endE (Cm.rCmd b).2 (decide (Cm.chk (Cm.rCmd b).1 = 0))) := by
  unfold getR Cm.getC
  cases hr : (Cm.rCmd b).2 with
  | error e => exact (if_neg (he e hr)).symm
  | ok r =>
    by_cases h : r ≠ [] ∨ Cm.chk (Cm.rCmd b).1 ≠ 0
    · simp only [endE, decide_eq_false_iff_not, if_pos h]
      rw [if_neg (by decide)]
    · simp only [endE, decide_eq_false_iff_not, if_neg h]
      rw [if_pos trivial]
theorem GetCommand_spec (hs : Src F q b) (h : St E (kn F :: L) w)
    (k : ∀ (w' : World) (G : Fz) (s : Sl), Fz.le F G → St E (kn G :: L) w' → RdF G s.1 s.2.1 2 ((getR b).1.tg.flatMap tV) → R (.returned (.tuple #[cmdV (getR b).1 s, .int .i64 (getR b).2])) w') : Calls Try.prog 18 #[.slice q.1 q.2.1 q.2.2] w R := by
  refine C_conf_GetCommand ?_
  unfold T_conf_GetCommand
  intro w2 w3
  have h2 : St E (blkL w.heap.size 28 (cmdL zeroC (none, 0, 0)) :: kn F :: L) w2 := h.alloc _
  have h3 : St E (rdrA 89 w2.heap.size q b (.ok b) :: blkL w.heap.size 28 (cmdL zeroC (none, 0, 0)) :: kn F :: L) w3 := h2.rdr_new _ q b
  refine rnum_spec (most := 1099511627776) hs (by simp) h3 fun w5 h5 => ⟨_, rfl, rnum_spec (most := 1099511627776) hs (by simp) h5 fun w8 h8 => ⟨_, rfl, rnum_spec (most := 1099511627776) hs (by simp) h8 fun w11 h11 => ⟨_, rfl, rnum_spec (most := 1099511627776) hs (by simp) h11 fun w14 h14 => ⟨_, rfl, ?_⟩⟩⟩⟩
  generalize hc0 : Cm.rCmd b = cr
  have hx := rNum_le 1099511627776 (Cm.rNum 1099511627776 (Cm.rNum 1099511627776 (Cm.rNum 1099511627776 (.ok b)).2).2).2
  rw [wrap_id (by omega) (by omega)]
  intro w16
  have h16 := h14.alloc (.cells #[.int .i64 0, .int .i64 0, .int .i64 0, .int .i64 0, .string (ByteArray.mk #[]), .string (ByteArray.mk #[]), .string (ByteArray.mk #[]), .slice none 0 0] 28)
  refine ⟨rfl, wrOk_agg h16.at_blk (xs := cmdL ⟨_, _, _, _, [], [], [], []⟩ (none, 0, 0)) (by simp [cmdL]) (one_cmdL _ _), ?_⟩
  intro w17
  have h17 := h16.wr_agg0 (xs := cmdL ⟨((Cm.rNum 1099511627776 (.ok b)).1 : Int), ((Cm.rNum 1099511627776 (Cm.rNum 1099511627776 (.ok b)).2).1 : Int), ((Cm.rNum 1099511627776 (Cm.rNum 1099511627776 (Cm.rNum 1099511627776 (.ok b)).2).2).1 : Int), ((Cm.rNum 1099511627776 (Cm.rNum 1099511627776 (Cm.rNum 1099511627776 (Cm.rNum 1099511627776 (.ok b)).2).2).2).1 : Int) - 1, [], [], [], []⟩ (none, 0, 0)) rfl
  refine rtext_spec hs (by simp) h17.f1 fun w19 h19 => ⟨_, rfl, rtext_spec hs (by simp) h19 fun w22 h22 => ⟨_, rfl, rtext_spec hs (by simp) h22 fun w25 h25 => ⟨_, rfl, ?_⟩⟩⟩
  refine ⟨rfl, wrOk_fld h25.f1.at_blk (by rw [cell8]; decide) rfl, ?_⟩
  intro w27
  have h27 := h25.f1.wr_fld (k := 4) (v := .string (bs (Cm.rText (Cm.rNum 1099511627776 (Cm.rNum 1099511627776 (Cm.rNum 1099511627776 (Cm.rNum 1099511627776 (.ok b)).2).2).2).2).1)) rfl
  refine ⟨rfl, wrOk_fld h27.at_blk (by rw [List.length_set, cell8]; decide) rfl, ?_⟩
  intro w28
  have h28 := h27.wr_fld (k := 5) (v := .string (bs (Cm.rText (Cm.rText (Cm.rNum 1099511627776 (Cm.rNum 1099511627776 (Cm.rNum 1099511627776 (Cm.rNum 1099511627776 (.ok b)).2).2).2).2).2).1)) rfl
  refine ⟨rfl, wrOk_fld h28.at_blk (by rw [List.length_set, List.length_set, cell8]; decide) rfl, ?_⟩
  intro w29
  have h29 := h28.wr_fld (k := 6) (v := .string (bs (Cm.rText (Cm.rText (Cm.rText (Cm.rNum 1099511627776 (Cm.rNum 1099511627776 (Cm.rNum 1099511627776 (Cm.rNum 1099511627776 (.ok b)).2).2).2).2).2).2).1)) rfl
  refine rtargets_spec hs (by simp) h29.f1 fun w31 s h31 => ⟨_, _, _, rfl, rfl, wrOk_fld h31.f2.at_blk (by simp [cell8]) rfl, ?_⟩
  intro w33
  have h33 := h31.f2.wr_fld (k := 7) (v := .slice s.1 s.2.1 s.2.2) rfl
  have hcr : cr = Cm.rCmd b := hc0.symm
  have h33b : St E (blkL w14.heap.size 28 (cmdL cr.1 s) :: tgA s cr.1.tg :: rdrA 89 w2.heap.size q b cr.2 :: blkL w.heap.size 28 (cmdL zeroC (none, 0, 0)) :: kn F :: L) w33 := by rw [hcr]; exact h33
  obtain ⟨G, hle, h34, hrt⟩ := (h33b.sel 5 [1, 4, 2, 0, 3] : St E (tgA s cr.1.tg :: kn F :: rdrA 89 w2.heap.size q b cr.2 :: blkL w14.heap.size 28 (cmdL cr.1 s) :: blkL w.heap.size 28 (cmdL zeroC (none, 0, 0)) :: L) w33).freezeT
  obtain ⟨at_, e, ho, _⟩ := h34.f1.rdr_open
  have hne : ∀ e, (Cm.rCmd b).2 = .error e → e ≠ 0 := fun e he => by rw [← hcr] at he; rw [he] at ho; exact ho.2
  have hg := getR_of hne
  rw [← hcr] at hg
  have hok : okC cr.1 := by rw [hcr]; exact okC_rCmd b
  refine end_spec (v := decide (Cm.chk cr.1 = 0)) (hs.mono hle) body_c1 h34.f1 (fun A w R _ h k => c1_spec (F := G) (c := cr.1) (s := s) at1 at2 h hrt hok k) fun w35 h35 => ⟨_, rfl, ?_⟩
  rw [ne_dec]
  refine ite_d (fun h1 => ?_) fun h1 => ?_
  · rw [if_neg h1] at hg
    rw [hg] at k
    refine ⟨rfl, wrOk_agg h35.f2.at_blk (xs := cmdL zeroC (none, 0, 0)) (by simp [cmdL]) (one_cmdL _ _), ?_⟩
    intro w37
    have h37 := h35.f2.wr_agg0 (xs := cmdL zeroC (none, 0, 0)) rfl
    exact ⟨_, _, _, _, _, _, _, _, _, _, rd_agg h37.at_blk (xs := cmdL zeroC (none, 0, 0)) (fun n u hu => by rw [Nat.zero_add]; exact hu), k w37 G (none, 0, 0) hle (h37.sel 3 [1] : St E (kn G :: L) w37) (RdF.nil G none)⟩
  · rw [if_pos (by simpa using h1)] at hg
    rw [hg] at k
    refine ⟨_, _, _, _, _, _, _, _, _, _, rd_agg h35.f1.at_blk (xs := cmdL cr.1 s) (fun n u hu => by rw [Nat.zero_add]; exact hu), rfl, wrOk_agg h35.f2.at_blk (xs := cmdL cr.1 s) (by simp [cmdL]) (one_cmdL _ _), ?_⟩
    intro w37
    have h37 := h35.f2.wr_agg0 (xs := cmdL cr.1 s) rfl
    exact ⟨_, _, _, _, _, _, _, _, _, _, rd_agg h37.at_blk (xs := cmdL cr.1 s) (fun n u hu => by rw [Nat.zero_add]; exact hu), k w37 G s hle (h37.sel 3 [1] : St E (kn G :: L) w37) hrt⟩
end
end Go.Vc

/-
  Commands that came in: what stands in them.
-/
namespace Go.Vc
open Go Go.Proofs Go.Proofs.Ytcpmfjclkdjfmaa
set_option maxRecDepth 100000
section
variable {H : Type} {enc : TypeId × Value → H} {W : World}
end
end Go.Vc

/-
  What the functions' code comes to; printed by a program of this claim's own.
-/
namespace Go.Proofs.Ytcpmfjclkdjfmaa
open Go Go.Vc
set_option maxRecDepth 100000
set_option linter.unusedVariables false

/-! tollgate/tollgatelaw08.ConfBack -/
end Go.Proofs.Ytcpmfjclkdjfmaa

/-
  The law ConfBack: a command that is put is got as it was, and no other bytes are taken for one.
-/
namespace Go.Cm
end Go.Cm
namespace Go.Vc
open Go Go.Proofs Go.Proofs.Ytcpmfjclkdjfmaa Go.RowKit
set_option maxRecDepth 100000
section
variable {E w : World} {L : List Asrt} {R : Ending → World → Prop} {F : Fz} {c : Cm.Cmd} {q : Sl}
theorem putC_small {c : Cm.Cmd} (h : Cm.chk c = 0) : (Cm.putC c).length ≤ 1000000 := by
  have f := Cm.chk_fine h
  have m1 := num_len c.act; have m2 := num_len c.client; have m3 := num_len c.seq; have m4 := num_len (c.expect + 1)
  have m5 := text_len c.host; have m6 := text_len c.pfx; have m7 := text_len c.pool
  have f1 := f.h; have f2 := f.p; have f3 := f.o; have f4 := tgs_short f.t
  have f5 := flat_tgt_len c.tg
  have f6 := num_len c.tg.length
  unfold tgsMax at f4
  simp only [Cm.putC, Cm.tgs, List.length_append]; omega
theorem St.srcB {q : Sl} {b : Cm.Bs} (h : St E (byA q b :: kn F :: L) w) (hb : b.length ≤ 9223372036854775807) : ∃ G, Fz.le F G ∧ St E (kn G :: L) w ∧ Src G q b := by
  have hl := h.by_len
  have hc := h.ownS_facts.2.1
  obtain ⟨G, hG, h2, hr⟩ := St.freezeS h
  exact ⟨G, hG, h2, hr, hl, hc, hb⟩
end
end Go.Vc

/-
  What the functions' code comes to; printed by a program of this claim's own.
-/
namespace Go.Proofs.Ytcpmfjclkdjfmaa
open Go Go.Vc
set_option maxRecDepth 100000
set_option linter.unusedVariables false

/-! tollgate/tollgatelaw08.ConfWeights -/
def T_law08_ConfWeights_1 (bits20 : Int) (w21 : Nat) (w : World) (Kn : Bool → World → Prop) (Kp : List PanicEntry → World → Prop) : Prop :=
  runV Try.prog (do eqGuard .geq 51 (.tmp 19) (.const (.float .f64 0)) (.float .f64 w21) (.float .f64 0); binOp .geq 51 (.float .f64 w21) (.float .f64 0)) w (fun r22 w23 => ∃ b24 : Bool, r22 = .bool b24 ∧ if b24 = true then (runV Try.prog (do eqGuard .leq 51 (.tmp 22) (.const (.float .f64 9218868437227405311)) (.float .f64 w21) (.float .f64 9218868437227405311); binOp .leq 51 (.float .f64 w21) (.float .f64 9218868437227405311)) w23 (fun r25 w26 => ∃ b27 : Bool, r25 = .bool b27 ∧ if b27 = true then (Kn ((Int.fdiv bits20 (2 ^ 63) : Int) == 0) w26) else (Kn false w26)) Kp) else (Kn false w23)) Kp

def T_law08_ConfWeights_1_outs : Exit → Option (List (Nat × Value)) := fun x => match x with | .normal => some [(5, .bool false)] | .panic _ => some [] | _ => none

def T_law08_ConfWeights_1_ks : Nat → Bool := ksOf [5, 19, 20, 21, 22, 23, 24, 25, 26, 27, 28, 29]

def H_law08_ConfWeights_1 : Env → World → QT → Prop := unitHook 87 T_law08_ConfWeights_1_ks [(0, .int .u64 0), (3, .float .f64 0)] T_law08_ConfWeights_1_outs fun l w C => match l with | [v0, v1] => T_law08_ConfWeights_1 (pInt v0) (pFlt v1) w (fun may29 w => C .normal [.bool may29] w) (fun ch w => C (.panic ch) [] w) | _ => False

theorem T_law08_ConfWeights_1_hl : allP (hokL Try.prog (hookAt []) (at_ (bodyOf Try.f6) [1, 1, 1, 1, 0]) 62) = (True) := by kernel_rfl
theorem T_law08_ConfWeights_1_hok : HOk Try.prog (hookAt []) (at_ (bodyOf Try.f6) [1, 1, 1, 1, 0]) 62 := HOk_of _ _ (by rw [T_law08_ConfWeights_1_hl]; exact trivial)

theorem T_law08_ConfWeights_1_eq (C : Conts) (bits20 : Int) (w21 : Nat) (w : World) : vcCode Try.prog (hookAt []) (at_ (bodyOf Try.f6) [1, 1, 1, 1, 0]) 62 ⟨[(0, .int .u64 bits20), (3, .float .f64 w21)], 87, []⟩ w (unitQ T_law08_ConfWeights_1_outs C) = T_law08_ConfWeights_1 bits20 w21 w (fun may30 w => C .normal [.bool may30] w) (fun ch w => C (.panic ch) [] w) := by kernel_rfl

theorem T_law08_ConfWeights_1_ok : UnitOk Try.prog H_law08_ConfWeights_1 (at_ (bodyOf Try.f6) [1, 1, 1, 1, 0]) 62 := unit_ok (H := (hookAt [])) (by kernel_rfl) T_law08_ConfWeights_1_hok fun l w C hk => by
    obtain ⟨v0, l_v0, rfl, k_v0, hk_v0⟩ := Kinds.cons_ hk
    obtain ⟨bits20, rfl⟩ := kind_int k_v0
    obtain ⟨v1, l_v1, rfl, k_v1, hk_v1⟩ := Kinds.cons_ hk_v0
    obtain ⟨w21, rfl⟩ := kind_float k_v1
    obtain rfl := Kinds.nil_ hk_v1
    exact T_law08_ConfWeights_1_eq C bits20 w21 w

def T_law08_ConfWeights_2 (e56 : Int) (a57a : Option Addr) (a57l : Nat) (a57c : Nat) (f58 : Int) (w : World) (Kn : Bool → World → Prop) (Kp : List PanicEntry → World → Prop) : Prop :=
  Calls Try.prog 12 #[] w (ret (fun r59 w60 => ∃ b61 : Bool, r59 = .bool b61 ∧ if b61 = true then (if ((e56 : Int) == 15) = true then (if ((f58 : Int) == 15) = true then (Kn (((a57l : Nat) : Int) == 0) w60) else (Kn false w60)) else (Kn false w60)) else (Kn false w60)) Kp)

def T_law08_ConfWeights_2_outs : Exit → Option (List (Nat × Value)) := fun x => match x with | .normal => some [(2, .bool false)] | .panic _ => some [] | _ => none

def T_law08_ConfWeights_2_ks : Nat → Bool := ksOf [2, 39, 40, 41, 42, 43, 44, 45, 46, 47, 48, 49, 50, 51, 52]

def H_law08_ConfWeights_2 : Env → World → QT → Prop := unitHook 87 T_law08_ConfWeights_2_ks [(6, .int .i64 0), (7, .slice none 0 0), (8, .int .i64 0)] T_law08_ConfWeights_2_outs fun l w C => match l with | [v0, v1, v2] => T_law08_ConfWeights_2 (pInt v0) (pA v1) (pL v1) (pC v1) (pInt v2) w (fun b63 w => C .normal [.bool b63] w) (fun ch w => C (.panic ch) [] w) | _ => False

theorem T_law08_ConfWeights_2_hl : allP (hokL Try.prog (hookAt []) (at_ (bodyOf Try.f6) [1, 1, 1, 1, 1, 1, 1, 0, 1, 0, 0]) 4084) = (True) := by kernel_rfl
theorem T_law08_ConfWeights_2_hok : HOk Try.prog (hookAt []) (at_ (bodyOf Try.f6) [1, 1, 1, 1, 1, 1, 1, 0, 1, 0, 0]) 4084 := HOk_of _ _ (by rw [T_law08_ConfWeights_2_hl]; exact trivial)

theorem T_law08_ConfWeights_2_eq (C : Conts) (e56 : Int) (a57a : Option Addr) (a57l : Nat) (a57c : Nat) (f58 : Int) (w : World) : vcCode Try.prog (hookAt []) (at_ (bodyOf Try.f6) [1, 1, 1, 1, 1, 1, 1, 0, 1, 0, 0]) 4084 ⟨[(6, .int .i64 e56), (7, .slice a57a a57l a57c), (8, .int .i64 f58)], 87, []⟩ w (unitQ T_law08_ConfWeights_2_outs C) = T_law08_ConfWeights_2 e56 a57a a57l a57c f58 w (fun b64 w => C .normal [.bool b64] w) (fun ch w => C (.panic ch) [] w) := by kernel_rfl

theorem T_law08_ConfWeights_2_ok : UnitOk Try.prog H_law08_ConfWeights_2 (at_ (bodyOf Try.f6) [1, 1, 1, 1, 1, 1, 1, 0, 1, 0, 0]) 4084 := unit_ok (H := (hookAt [])) (by kernel_rfl) T_law08_ConfWeights_2_hok fun l w C hk => by
    obtain ⟨v0, l_v0, rfl, k_v0, hk_v0⟩ := Kinds.cons_ hk
    obtain ⟨e56, rfl⟩ := kind_int k_v0
    obtain ⟨v1, l_v1, rfl, k_v1, hk_v1⟩ := Kinds.cons_ hk_v0
    obtain ⟨a57a, a57l, a57c, rfl⟩ := kind_slice k_v1
    obtain ⟨v2, l_v2, rfl, k_v2, hk_v2⟩ := Kinds.cons_ hk_v1
    obtain ⟨f58, rfl⟩ := kind_int k_v2
    obtain rfl := Kinds.nil_ hk_v2
    exact T_law08_ConfWeights_2_eq C e56 a57a a57l a57c f58 w

def T_law08_ConfWeights (bits1 : Int) (w : World) (R : Ending → World → Prop) : Prop :=
  runV Try.prog (callFunc 19 #[.int .u64 bits1]) w (nxv (fun r2 w3 => ∃ f4 : Nat, r2 = .float .f64 f4 ∧ Calls Try.prog 20 #[.string (ByteArray.mk #[97])] w3 (ret (fun r5 w6 => ∃ x7 : Int, ∃ x8 : Int, ∃ x9 : Int, ∃ x10 : Int, ∃ s11 : ByteArray, ∃ s12 : ByteArray, ∃ s13 : ByteArray, ∃ s14a : Option Addr, ∃ s14l : Nat, ∃ s14c : Nat, r5 = .agg #[.int .i64 x7, .int .i64 x8, .int .i64 x9, .int .i64 x10, .string s11, .string s12, .string s13, .slice s14a s14l s14c] ∧ let w15 : World := w6.alloc (.cells #[.int .i64 0, .int .i64 0, .int .i64 0, .int .i64 0, .string (ByteArray.mk #[]), .string (ByteArray.mk #[]), .string (ByteArray.mk #[]), .slice none 0 0] 28)
  (.agg #[.int .i64 x7, .int .i64 x8, .int .i64 x9, .int .i64 x10, .string s11, .string s12, .string s13, .slice s14a s14l s14c] : Value).cells.size = 8 ∧ wrOk w15 (⟨w6.heap.size, 0, none⟩ : Addr) (.agg #[.int .i64 x7, .int .i64 x8, .int .i64 x9, .int .i64 x10, .string s11, .string s12, .string s13, .slice s14a s14l s14c]) ∧ let w16 : World := wr w15 (⟨w6.heap.size, 0, none⟩ : Addr) (.agg #[.int .i64 x7, .int .i64 x8, .int .i64 x9, .int .i64 x10, .string s11, .string s12, .string s13, .slice s14a s14l s14c])
  ∃ s17a : Option Addr, ∃ s17l : Nat, ∃ s17c : Nat, rd w16 ((⟨w6.heap.size, 0, none⟩ : Addr).add 7) (.slice s17a s17l s17c) ∧ 0 ≤ (0 : Int) ∧ (0 : Int) < ((s17l : Nat) : Int) ∧ ∃ b18, s17a = some b18 ∧ (.float .f64 f4 : Value).cells.size = 1 ∧ wrOk w16 ((b18.add ((0 : Int).toNat * 2)).add 1) (.float .f64 f4) ∧ let w19 : World := wr w16 ((b18.add ((0 : Int).toNat * 2)).add 1) (.float .f64 f4)
  T_law08_ConfWeights_1 bits1 f4 w19 (fun may31 w32 => ∃ x33 : Int, ∃ x34 : Int, ∃ x35 : Int, ∃ x36 : Int, ∃ s37 : ByteArray, ∃ s38 : ByteArray, ∃ s39 : ByteArray, ∃ s40a : Option Addr, ∃ s40l : Nat, ∃ s40c : Nat, rd w32 (⟨w6.heap.size, 0, none⟩ : Addr) (.agg #[.int .i64 x33, .int .i64 x34, .int .i64 x35, .int .i64 x36, .string s37, .string s38, .string s39, .slice s40a s40l s40c]) ∧ Calls Try.prog 15 #[.agg #[.int .i64 x33, .int .i64 x34, .int .i64 x35, .int .i64 x36, .string s37, .string s38, .string s39, .slice s40a s40l s40c]] w32 (ret (fun r41 w42 => ∃ x43 : Int, r41 = .int .i64 x43 ∧ ∃ x44 : Int, ∃ x45 : Int, ∃ x46 : Int, ∃ x47 : Int, ∃ s48 : ByteArray, ∃ s49 : ByteArray, ∃ s50 : ByteArray, ∃ s51a : Option Addr, ∃ s51l : Nat, ∃ s51c : Nat, rd w42 (⟨w6.heap.size, 0, none⟩ : Addr) (.agg #[.int .i64 x44, .int .i64 x45, .int .i64 x46, .int .i64 x47, .string s48, .string s49, .string s50, .slice s51a s51l s51c]) ∧ Calls Try.prog 13 #[.agg #[.int .i64 x44, .int .i64 x45, .int .i64 x46, .int .i64 x47, .string s48, .string s49, .string s50, .slice s51a s51l s51c]] w42 (ret (fun r52 w53 => ∃ s54a : Option Addr, ∃ s54l : Nat, ∃ s54c : Nat, ∃ x55 : Int, r52 = .tuple #[.slice s54a s54l s54c, .int .i64 x55] ∧ if (!may31) = true then (T_law08_ConfWeights_2 x43 s54a s54l s54c x55 w53 (fun b65 w66 => R (.returned (.bool b65)) w66) (pan R)) else (Calls Try.prog 18 #[.slice s54a s54l s54c] w53 (ret (fun r67 w68 => ∃ x69 : Int, ∃ x70 : Int, ∃ x71 : Int, ∃ x72 : Int, ∃ s73 : ByteArray, ∃ s74 : ByteArray, ∃ s75 : ByteArray, ∃ s76a : Option Addr, ∃ s76l : Nat, ∃ s76c : Nat, ∃ x77 : Int, r67 = .tuple #[.agg #[.int .i64 x69, .int .i64 x70, .int .i64 x71, .int .i64 x72, .string s73, .string s74, .string s75, .slice s76a s76l s76c], .int .i64 x77] ∧ let w78 : World := w68.alloc (.cells #[.int .i64 0, .int .i64 0, .int .i64 0, .int .i64 0, .string (ByteArray.mk #[]), .string (ByteArray.mk #[]), .string (ByteArray.mk #[]), .slice none 0 0] 28)
  (.agg #[.int .i64 x69, .int .i64 x70, .int .i64 x71, .int .i64 x72, .string s73, .string s74, .string s75, .slice s76a s76l s76c] : Value).cells.size = 8 ∧ wrOk w78 (⟨w68.heap.size, 0, none⟩ : Addr) (.agg #[.int .i64 x69, .int .i64 x70, .int .i64 x71, .int .i64 x72, .string s73, .string s74, .string s75, .slice s76a s76l s76c]) ∧ let w79 : World := wr w78 (⟨w68.heap.size, 0, none⟩ : Addr) (.agg #[.int .i64 x69, .int .i64 x70, .int .i64 x71, .int .i64 x72, .string s73, .string s74, .string s75, .slice s76a s76l s76c])
  Calls Try.prog 12 #[] w79 (ret (fun r80 w81 => ∃ b82 : Bool, r80 = .bool b82 ∧ if b82 = true then (if ((x43 : Int) == 0) = true then (if ((x55 : Int) == 0) = true then (if ((x77 : Int) == 0) = true then (∃ s83a : Option Addr, ∃ s83l : Nat, ∃ s83c : Nat, rd w81 ((⟨w68.heap.size, 0, none⟩ : Addr).add 7) (.slice s83a s83l s83c) ∧ if (((s83l : Nat) : Int) == 1) = true then (∃ s84a : Option Addr, ∃ s84l : Nat, ∃ s84c : Nat, rd w81 ((⟨w68.heap.size, 0, none⟩ : Addr).add 7) (.slice s84a s84l s84c) ∧ 0 ≤ (0 : Int) ∧ (0 : Int) < ((s84l : Nat) : Int) ∧ ∃ b85, s84a = some b85 ∧ ∃ f86 : Nat, rd w81 ((b85.add ((0 : Int).toNat * 2)).add 1) (.float .f64 f86) ∧ runV Try.prog (callFunc 21 #[.float .f64 f86]) w81 (nxv (fun r87 w88 => ∃ x89 : Int, r87 = .int .u64 x89 ∧ R (.returned (.bool ((x89 : Int) == bits1))) w88)) (pan R)) else (R (.returned (.bool false)) w81)) else (R (.returned (.bool false)) w81)) else (R (.returned (.bool false)) w81)) else (R (.returned (.bool false)) w81)) else (R (.returned (.bool false)) w81)) (pan R))) (pan R)))) (pan R))) (pan R))) (pan R)) (pan R)))) (pan R)

theorem T_law08_ConfWeights_hl : allP (hokL Try.prog (hookAt [(62, H_law08_ConfWeights_1), (4084, H_law08_ConfWeights_2)]) (bodyOf Try.f6) 1) = (UnitOk Try.prog H_law08_ConfWeights_1 (at_ (bodyOf Try.f6) [1, 1, 1, 1, 0]) 62 ∧ UnitOk Try.prog H_law08_ConfWeights_2 (at_ (bodyOf Try.f6) [1, 1, 1, 1, 1, 1, 1, 0, 1, 0, 0]) 4084 ∧ True) := by kernel_rfl

theorem T_law08_ConfWeights_eq (bits1 : Int) (w : World) (R : Ending → World → Prop) : vcCode Try.prog (hookAt [(62, H_law08_ConfWeights_1), (4084, H_law08_ConfWeights_2)]) (bodyOf Try.f6) 1 ⟨argEnv [.int .u64 bits1] 0, Try.f6.ntmps, []⟩ w (finQ Try.prog Try.f6.results.toList R) = T_law08_ConfWeights bits1 w R := by kernel_rfl

theorem T_law08_ConfWeights_b : Try.f6.body = some (bodyOf Try.f6) := by kernel_rfl
theorem T_law08_ConfWeights_s : (quietSel (bodyOf Try.f6) && Nat.ble 1 Try.f6.ntmps) = true := by kernel_rfl

theorem C_law08_ConfWeights {bits1 : Int} {w : World} {R : Ending → World → Prop} (h : T_law08_ConfWeights bits1 w R) : Calls Try.prog 6 #[.int .u64 bits1] w R :=
  calls_of_text (args := [.int .u64 bits1]) mixed Try.func6 T_law08_ConfWeights_b T_law08_ConfWeights_s (HOk_of _ _ (by rw [T_law08_ConfWeights_hl]; exact ⟨T_law08_ConfWeights_1_ok, T_law08_ConfWeights_2_ok, trivial⟩)) (by rw [T_law08_ConfWeights_eq]; exact h)

end Go.Proofs.Ytcpmfjclkdjfmaa

/-
  The law ConfWeights: just finite weights from +0 on may be; they come back bit by bit.
-/
namespace Go.Vc
open Go Go.Proofs Go.Proofs.Ytcpmfjclkdjfmaa Go.RowKit
set_option maxRecDepth 100000
section
variable {E w : World} {L : List Asrt} {R : Ending → World → Prop} {F : Fz} {b : Nat}
def tgtW (b : Nat) : Cm.Tgt := ⟨[116], b⟩
def poolW (b : Nat) : Cm.Cmd := ⟨1, 0, 0, -1, [], [], [97], [tgtW b]⟩
theorem chk_poolW (b : Nat) : Cm.chk (poolW b) = if b < 9218868437227405312 then 0 else 15 := by
  have h1 : Cm.argBad (poolW b) = false := rfl
  have h2 : Cm.nameBad (poolW b) = false := by kernel_rfl
  have h3 : Cm.isAddr [116] = true := by decide
  unfold Cm.chk
  rw [h1, h2]
  simp only [Bool.false_eq_true, if_false]
  by_cases hb : b < 9218868437227405312
  · simp [Cm.chkT, poolW, tgtW, h3, Cm.isW, hb]
  · simp [Cm.chkT, poolW, tgtW, h3, Cm.isW, hb]
theorem ok_poolW (h : b < two64) : okC (poolW b) := ⟨Nat.zero_le _, Nat.zero_le _, by simp [poolW, huge], by simp [poolW, huge], fun t ht => by
  simp [poolW] at ht
  subst ht
  exact ⟨by simp [tgtW, huge], h⟩⟩
/-- pool, its targets in memory of ours. -/
theorem pool_own {n : Cm.Bs} (h : St E (kn F :: L) w) (k : ∀ (q : Sl) w', St E (tgA q (poolC n).tg :: kn F :: L) w' → R (.returned (cmdV (poolC n) q)) w') : Calls Try.prog 20 #[.string (bs n)] w R := by
  refine C_law08_pool ?_
  unfold T_law08_pool
  intro w2
  have h2 : St E (blkL w.heap.size 28 (cmdL zeroC (none, 0, 0)) :: kn F :: L) w2 := h.alloc _
  intro w3
  have h3 : St E (tgA (some ⟨w2.heap.size, 0, none⟩, 1, 1) [tgt1] :: blkL w.heap.size 28 (cmdL zeroC (none, 0, 0)) :: kn F :: L) w3 := (St.ownS_mk (xs := [tgt1].flatMap tV) (rest := []) (l := 1) (c := 1) (sz := 2) (h2.alloc _) rfl (Nat.le_refl _) (by decide) rfl :)
  refine ⟨rfl, ok_cmd h3.f1 rfl (poolC n) (some ⟨w2.heap.size, 0, none⟩, 1, 1), ?_⟩
  intro w4
  have h4 := St.wr_cmd h3.f1 rfl (poolC n) (some ⟨w2.heap.size, 0, none⟩, 1, 1)
  exact ⟨_, _, _, _, _, _, _, _, _, _, rd_cmd h4, k (some ⟨w2.heap.size, 0, none⟩, 1, 1) _ (h4.sel 2 [1])⟩
/-- The bits' test. -/
theorem may_spec {Kn : Bool → World → Prop} {Kp : List PanicEntry → World → Prop} (hb : b < two64) (k : Kn (decide (b < 9218868437227405312)) w) : T_law08_ConfWeights_1 (b : Int) b w Kn Kp := by
  unfold T_law08_ConfWeights_1
  have hz : two64 = 18446744073709551616 := rfl
  refine runV_ok (run_fgeq _ _ _ _ _) ⟨_, rfl, ?_⟩
  by_cases h1 : b < 9218868437227405312
  · rw [decide_eq_true h1] at k
    refine ite_b (fun _ => ?_) fun hh => by rw [num_ge0 h1] at hh; cases hh
    refine runV_ok (run_fleq _ _ _ _ _) ⟨_, rfl, ite_b (fun _ => ?_) fun hh => by rw [(num_lemax h1).2] at hh; cases hh⟩
    have : (Int.fdiv (b : Int) (2 ^ 63) == 0) = true := by
      have e : Int.fdiv (b : Int) (2 ^ 63) = (b : Int) / 2 ^ 63 := Int.fdiv_eq_ediv_of_nonneg _ (by decide)
      rw [e]
      have : (b : Int) / 2 ^ 63 = 0 := Int.ediv_eq_zero_of_lt (by omega) (by omega)
      rw [this]; rfl
    rw [this]; exact k
  · rw [decide_eq_false h1] at k
    by_cases h2 : b < 9223372036854775808
    · refine ite_b (fun h3 => ?_) fun _ => k
      refine runV_ok (run_fleq _ _ _ _ _) ⟨_, rfl, ite_b (fun h4 => ?_) fun _ => k⟩
      exfalso
      by_cases h5 : b = 9218868437227405312
      · subst h5; rw [inf_cmp.2.2] at h4; cases h4
      · rw [nan_cmp (by omega) h2] at h4; cases h4
    · refine ite_b (fun h3 => ?_) fun _ => k
      refine runV_ok (run_fleq _ _ _ _ _) ⟨_, rfl, ite_b (fun h4 => ?_) fun _ => k⟩
      have : (Int.fdiv (b : Int) (2 ^ 63) == 0) = false := by
        have e : Int.fdiv (b : Int) (2 ^ 63) = (b : Int) / 2 ^ 63 := Int.fdiv_eq_ediv_of_nonneg _ (by decide)
        rw [e]
        have : (b : Int) / 2 ^ 63 ≠ 0 := by omega
        simpa using this
      rw [this]; exact k
set_option maxHeartbeats 1000000 in
theorem weights_walk (hb : b < two64) (h : St E (kn F :: L) w) (k : ∀ G w', Fz.le F G → St E (kn G :: L) w' → R (.returned (.bool true)) w') : Calls Try.prog 6 #[.int .u64 (b : Int)] w R := by
  refine C_law08_ConfWeights ?_
  unfold T_law08_ConfWeights
  refine runV_ok run_ffrom ⟨_, rfl, ?_⟩
  rw [Int.toNat_natCast]
  refine pool_own (n := [97]) h fun q w6 h6 => ⟨_, _, _, _, _, _, _, _, _, _, rfl, ?_⟩
  intro w15
  have h15 := h6.alloc (.cells ⟨cmdL zeroC (none, 0, 0)⟩ 28)
  refine ⟨rfl, ok_cmd h15 rfl (poolC [97]) q, ?_⟩
  intro w16
  have h16 : St E (blkL w6.heap.size 28 (cmdL (poolC [97]) q) :: tgA q [tgt1] :: kn F :: L) w16 := St.wr_cmd h15 rfl (poolC [97]) q
  clear h15
  clear_value w16 w15
  generalize w6.heap.size = bc at *
  refine ⟨_, _, _, rd_fld h16.at_blk rfl rfl, by omega, ?_⟩
  have hlen : ([tgt1] : List Cm.Tgt).length = q.2.1 := h16.f1.rdS_own.count tV_len (by decide)
  have hl1 : q.2.1 = 1 := hlen.symm
  obtain ⟨ad, ha, hs, _⟩ := h16.f1.rdS_own.cells (by omega)
  rw [hl1]
  refine ⟨by decide, ad, ha, rfl, ?_⟩
  have hadd : (ad.add ((0 : Int).toNat * 2)).add 1 = ad.add 1 := by
    obtain ⟨bb, oo, sp⟩ := ad
    simp only at hs
    subst hs
    rw [add_mk, add_mk, add_mk]
    rfl
  rw [hadd]
  obtain ⟨hw, h17⟩ := h16.f1.ownS_set ha (i := 1) (v := .float .f64 b) (by simp [tV]) rfl
  refine ⟨hw, ?_⟩
  intro w19
  have h19 : St E (tgA q [tgtW b] :: kn F :: blkL bc 28 (cmdL (poolW b) q) :: L) w19 := (St.sel (L := _ :: _ :: _ :: L) h17 3 [0, 2, 1])
  clear_value w19
  obtain ⟨G1, hG1, h20, hr⟩ := St.freezeT h19
  refine may_spec hb ?_
  have ho := ok_poolW hb
  refine ⟨_, _, _, _, _, _, _, _, _, _, rd_cmd h20.f1, ?_⟩
  refine Check_spec (c := poolW b) (s := q) at0 h20 hr ho fun w42 h42 => ⟨_, rfl, ?_⟩
  refine ⟨_, _, _, _, _, _, _, _, _, _, rd_cmd h42.f1, ?_⟩
  refine PutCommand_spec (c := poolW b) (q := q) at0 h42 hr ho fun w53 b53 h53 => ⟨_, _, _, _, rfl, ?_⟩
  have hck := chk_poolW b
  by_cases hbig : b < 9218868437227405312
  · rw [if_pos hbig] at hck
    rw [decide_eq_true hbig]
    refine ite_b (fun hh => by cases hh) fun _ => ?_
    rw [show putCE (poolW b) = Cm.putC (poolW b) from if_pos hck] at h53
    obtain ⟨G2, hG2, h54, hs2⟩ := St.srcB h53 (Nat.le_trans (putC_small hck) (by decide))
    have hg : getR (Cm.putC (poolW b)) = (poolW b, 0) := by unfold getR; rw [Cm.getC_putC hck]
    refine GetCommand_spec hs2 h54 fun w68 G3 s3 hG3 h68 r3 => ?_
    rw [hg] at r3 ⊢
    refine ⟨_, _, _, _, _, _, _, _, _, _, _, rfl, ?_⟩
    intro w78
    have h78 := h68.alloc (.cells ⟨cmdL zeroC (none, 0, 0)⟩ 28)
    refine ⟨rfl, ok_cmd h78 rfl (poolW b) s3, ?_⟩
    intro w79
    have h79 : St E (blkL w68.heap.size 28 (cmdL (poolW b) s3) :: kn G3 :: blkL bc 28 (cmdL (poolW b) q) :: L) w79 := St.wr_cmd h78 rfl (poolW b) s3
    clear h78
    clear_value w79 w78
    generalize w68.heap.size = b3 at *
    have l3 := Fz.le_trans hG1 (Fz.le_trans hG2 hG3)
    refine live_spec h79.f1 fun G4 w81 hG4 h81 => ⟨_, rfl, ite_b (fun _ => ?_) fun hh => by cases hh⟩
    have h81 : St E (kn G4 :: blkL b3 28 (cmdL (poolW b) s3) :: blkL bc 28 (cmdL (poolW b) q) :: L) w81 := h81
    refine ite_b (fun _ => ite_b (fun _ => ite_b (fun _ => ?_) fun hh => by simp at hh) fun hh => by simp [hck] at hh) fun hh => by simp [hck] at hh
    have hlen3 : (poolW b).tg.length = s3.2.1 := (RdF.mono r3 hG4).count tV_len (by decide) h81 at0
    have hl3 : s3.2.1 = 1 := hlen3.symm
    refine ⟨_, _, _, rd_fld h81.f1.at_blk rfl rfl, ?_⟩
    rw [hl3]
    refine ite_b (fun _ => ?_) fun hh => by cases hh
    refine ⟨_, _, _, rd_fld h81.f1.at_blk rfl rfl, by omega, ?_⟩
    rw [hl3]
    obtain ⟨ad3, ha3, _, hk3⟩ := ((RdF.mono r3 hG4).at h81 at0).elem (f := tV) tV_len (j := 0) (q := tgtW b) rfl (by decide)
    refine ⟨by decide, ad3, ha3, _, hk3 1 _ rfl rfl, ?_⟩
    refine runV_ok run_fbits ⟨_, rfl, congB (k G4 _ (Fz.le_trans l3 hG4) (h81.sel 3 [0])) ?_⟩
    simp [tgtW]
  · rw [if_neg hbig] at hck
    rw [decide_eq_false hbig]
    refine ite_n (fun _ => ?_) fun hh => by cases hh
    rw [show putCE (poolW b) = [] by unfold putCE; rw [hck]; rfl] at h53
    have hl0 := h53.by_len
    unfold T_law08_ConfWeights_2
    refine live_spec h53.f1 fun G4 w60 hG4 h60 => ⟨_, rfl, ite_b (fun _ => ?_) fun hh => by cases hh⟩
    refine ite_b (fun _ => ite_b (fun _ => ?_) fun hh => by simp [hck] at hh) fun hh => by simp [hck] at hh
    refine congB (k G4 _ (Fz.le_trans hG1 hG4) (h60.sel 3 [0])) ?_
    rw [← hl0]; rfl
theorem weights_law {W : World} {n : Int} (hw : (Lit.int .u64 n).wf = true) :
    Calls Try.prog 6 #[.int .u64 n] W fun e w' => e = .returned (.bool true) ∧ RowKit.Below W.heap.size W w' := by
  simp [Lit.wf, IntKind.min, IntKind.max, IntKind.signed, IntKind.bits] at hw
  obtain ⟨b, rfl⟩ := Int.eq_ofNat_of_zero_le (show 0 ≤ n by omega)
  exact weights_walk (b := b) (by unfold two64; omega) (St.start_kn W) fun G w' hG h' => ⟨rfl, h'.below_kn hG⟩
end
end Go.Vc
