/-
  Texts of this claim's own, laid into one: Gb, Gc, VcSep, VcHeap, VcSlice, VcMap, VcLaw, VcFz, VcIter, VcKeys, ConfK, ConfL, ConfM.
-/
import Derived.Test.YtcpmfjclkdjfmaaProg
import Derived.KernelRfl
import Derived.Laws.AppendOwn
import Derived.Maps.AppendAt
import Derived.Below
import Derived.Laws.BytesString
import Derived.Laws.Strings
import Derived.ChangeSlices
import Derived.Maps.RangeRun
import Derived.Sort.MapsRangeIn
import Derived.RangeFuncGives
import Derived.TacticsInMore
import Derived.WalkKit
import Derived.Shelf.SlIter.Collect
import Derived.Shelf.SlLaysM
import Derived.Shelf.SlLaysF0
import Derived.Test.YtcpmfjclkdjfmaaXConfVersionsA
set_option linter.all false
/-
  What the functions' code comes to; printed by a program of this claim's own.
-/
namespace Go.Proofs.Ytcpmfjclkdjfmaa
open Go Go.Vc
set_option maxRecDepth 100000
set_option linter.unusedVariables false

/-! tollgate/conf.num -/
def T_conf_num (b1a : Option Addr) (b1l : Nat) (b1c : Nat) (n2 : Int) (w : World) (R : Ending → World → Prop) : Prop :=
  Calls Try.prog 57 #[.int .i64 n2] w (ret (fun r3 w4 => ∃ s5a : Option Addr, ∃ s5l : Nat, ∃ s5c : Nat, ∃ x6 : Int, r3 = .tuple #[.slice s5a s5l s5c, .int .i64 x6] ∧ runV Try.prog (Builtin.append_ #[42, 42] 42 #[.slice b1a b1l b1c, .slice s5a s5l s5c]) w4 (fun r7 w8 => ∃ s9a : Option Addr, ∃ s9l : Nat, ∃ s9c : Nat, r7 = .slice s9a s9l s9c ∧ R (.returned (.slice s9a s9l s9c)) w8) (pan R)) (pan R))

theorem T_conf_num_hl : allP (hokL Try.prog (hookAt []) (bodyOf Try.f29) 1) = (True) := by kernel_rfl

theorem T_conf_num_eq (b1a : Option Addr) (b1l : Nat) (b1c : Nat) (n2 : Int) (w : World) (R : Ending → World → Prop) : vcCode Try.prog (hookAt []) (bodyOf Try.f29) 1 ⟨argEnv [.slice b1a b1l b1c, .int .i64 n2] 0, Try.f29.ntmps, []⟩ w (finQ Try.prog Try.f29.results.toList R) = T_conf_num b1a b1l b1c n2 w R := by kernel_rfl

theorem T_conf_num_b : Try.f29.body = some (bodyOf Try.f29) := by kernel_rfl
theorem T_conf_num_s : (quietSel (bodyOf Try.f29) && Nat.ble 2 Try.f29.ntmps) = true := by kernel_rfl

theorem C_conf_num {b1a : Option Addr} {b1l : Nat} {b1c : Nat} {n2 : Int} {w : World} {R : Ending → World → Prop} (h : T_conf_num b1a b1l b1c n2 w R) : Calls Try.prog 29 #[.slice b1a b1l b1c, .int .i64 n2] w R :=
  calls_of_text (args := [.slice b1a b1l b1c, .int .i64 n2]) mixed Try.func29 T_conf_num_b T_conf_num_s (HOk_of _ _ (by rw [T_conf_num_hl]; exact trivial)) (by rw [T_conf_num_eq]; exact h)

/-! tollgate/wire.Number -/
def T_wire_Number (n1 : Int) (w : World) (R : Ending → World → Prop) : Prop :=
  if (decide ((n1 : Int) < 0)) = true then (R (.returned (.tuple #[.slice none 0 0, .int .i64 2])) w) else (if (decide ((n1 : Int) > 1099511627776)) = true then (R (.returned (.tuple #[.slice none 0 0, .int .i64 2])) w) else (Calls Try.prog 80 #[.slice none 0 0, .int .i64 n1] w (ret (fun r2 w3 => ∃ s4a : Option Addr, ∃ s4l : Nat, ∃ s4c : Nat, r2 = .slice s4a s4l s4c ∧ R (.returned (.tuple #[.slice s4a s4l s4c, .int .i64 0])) w3) (pan R))))

theorem T_wire_Number_hl : allP (hokL Try.prog (hookAt []) (bodyOf Try.f57) 1) = (True) := by kernel_rfl

theorem T_wire_Number_eq (n1 : Int) (w : World) (R : Ending → World → Prop) : vcCode Try.prog (hookAt []) (bodyOf Try.f57) 1 ⟨argEnv [.int .i64 n1] 0, Try.f57.ntmps, []⟩ w (finQ Try.prog Try.f57.results.toList R) = T_wire_Number n1 w R := by kernel_rfl

theorem T_wire_Number_b : Try.f57.body = some (bodyOf Try.f57) := by kernel_rfl
theorem T_wire_Number_s : (quietSel (bodyOf Try.f57) && Nat.ble 1 Try.f57.ntmps) = true := by kernel_rfl

theorem C_wire_Number {n1 : Int} {w : World} {R : Ending → World → Prop} (h : T_wire_Number n1 w R) : Calls Try.prog 57 #[.int .i64 n1] w R :=
  calls_of_text (args := [.int .i64 n1]) mixed Try.func57 T_wire_Number_b T_wire_Number_s (HOk_of _ _ (by rw [T_wire_Number_hl]; exact trivial)) (by rw [T_wire_Number_eq]; exact h)

/-! tollgate/conf.row -/
def T_conf_row_1_body (X : Option Addr → Nat → Nat → Int → World → Prop) (b6a : Option Addr) (b6l : Nat) (b6c : Nat) (x7 : Int) (s8a : Option Addr) (s8l : Nat) (s8c : Nat) (x9 : Int) (w : World) (Kn : Option Addr → Nat → Nat → World → Prop) (Kp : List PanicEntry → World → Prop)  : Prop :=
  if (decide ((x7 : Int) < x9)) = true then (0 ≤ (x7 : Int) ∧ (x7 : Int) < ((s8l : Nat) : Int) ∧ ∃ b10, s8a = some b10 ∧ ∃ s11 : ByteArray, ∃ f12 : Nat, rd w (b10.add ((x7 : Int).toNat * 2)) (.agg #[.string s11, .float .f64 f12]) ∧ let w13 : World := w.alloc (.cells #[.string (ByteArray.mk #[]), .float .f64 0] 55)
  (.agg #[.string s11, .float .f64 f12] : Value).cells.size = 2 ∧ wrOk w13 (⟨w.heap.size, 0, none⟩ : Addr) (.agg #[.string s11, .float .f64 f12]) ∧ let w14 : World := wr w13 (⟨w.heap.size, 0, none⟩ : Addr) (.agg #[.string s11, .float .f64 f12])
  let w15 : World := w14.drew
  ∃ s16 : ByteArray, rd w15 (⟨w.heap.size, 0, none⟩ : Addr) (.string s16) ∧ ∃ f17 : Nat, rd w15 ((⟨w.heap.size, 0, none⟩ : Addr).add 1) (.float .f64 f17) ∧ Calls Try.prog 31 #[.slice b6a b6l b6c, .string s16] w15 (ret (fun r18 w19 => ∃ s20a : Option Addr, ∃ s20l : Nat, ∃ s20c : Nat, r18 = .slice s20a s20l s20c ∧ (rd w19 ((⟨w.heap.size, 0, none⟩ : Addr).add 1) (.float .f64 f17) ∧ True) ∧ Calls Try.prog 58 #[.slice s20a s20l s20c, .float .f64 f17] w19 (ret (fun r21 w22 => ∃ s23a : Option Addr, ∃ s23l : Nat, ∃ s23c : Nat, r21 = .slice s23a s23l s23c ∧ (True) ∧ X s23a s23l s23c (IntKind.wrap .i64 ((x7 : Int) + 1)) w22) Kp)) Kp)) else (Kn b6a b6l b6c w)

def T_conf_row_1 (b6a : Option Addr) (b6l : Nat) (b6c : Nat) (x7 : Int) (s8a : Option Addr) (s8l : Nat) (s8c : Nat) (x9 : Int) (w : World) (Kn : Option Addr → Nat → Nat → World → Prop) (Kp : List PanicEntry → World → Prop) : Prop :=
  ∀ X : Option Addr → Nat → Nat → Int → World → Prop, (∀ (b6a : Option Addr) (b6l : Nat) (b6c : Nat) (x7 : Int) (w : World), T_conf_row_1_body X b6a b6l b6c x7 s8a s8l s8c x9 w Kn Kp → X b6a b6l b6c x7 w) → X b6a b6l b6c x7 w

def T_conf_row_1_outs : Exit → Option (List (Nat × Value)) := fun x => match x with | .normal => some [(0, .slice none 0 0)] | .panic _ => some [] | _ => none

def T_conf_row_1_ks : Nat → Bool := ksOf [0, 6, 13, 14, 15, 16, 17, 18, 19, 20, 21, 22, 23, 24]

def H_conf_row_1 : Env → World → QT → Prop := unitHook 26 T_conf_row_1_ks [(0, .slice none 0 0), (13, .int .i64 0), (11, .slice none 0 0), (12, .int .i64 0)] T_conf_row_1_outs fun l w C => match l with | [v0, v1, v2, v3] => T_conf_row_1 (pA v0) (pL v0) (pC v0) (pInt v1) (pA v2) (pL v2) (pC v2) (pInt v3) w (fun b25a b25l b25c w => C .normal [.slice b25a b25l b25c] w) (fun ch w => C (.panic ch) [] w) | _ => False

theorem T_conf_row_1_hl : allP (hokL Try.prog (hookAt []) (at_ (bodyOf Try.f30) [1, 1, 0, 1, 0, 0]) 116) = (True) := by kernel_rfl
theorem T_conf_row_1_hok : HOk Try.prog (hookAt []) (at_ (bodyOf Try.f30) [1, 1, 0, 1, 0, 0]) 116 := HOk_of _ _ (by rw [T_conf_row_1_hl]; exact trivial)

theorem T_conf_row_1_eq (C : Conts) (X : List Value → World → Prop) (b6a : Option Addr) (b6l : Nat) (b6c : Nat) (x7 : Int) (s8a : Option Addr) (s8l : Nat) (s8c : Nat) (x9 : Int) (w : World) : vcCode Try.prog (hookAt []) (at_ (bodyOf Try.f30) [1, 1, 0, 1, 0, 0]) 116 ⟨[(0, .slice b6a b6l b6c), (13, .int .i64 x7)] ++ [(11, .slice s8a s8l s8c), (12, .int .i64 x9)], 26, []⟩ w (seqQ (fun e w => takeAll e [(0, .slice none 0 0), (13, .int .i64 0)] fun l => X l w) (blockQ 0 (unitQ T_conf_row_1_outs C))) = T_conf_row_1_body (fun b6a b6l b6c x7 w => X [.slice b6a b6l b6c, .int .i64 x7] w) b6a b6l b6c x7 s8a s8l s8c x9 w (fun b26a b26l b26c w => C .normal [.slice b26a b26l b26c] w) (fun ch w => C (.panic ch) [] w) := by kernel_rfl

theorem T_conf_row_1_ok : UnitOk Try.prog H_conf_row_1 (at_ (bodyOf Try.f30) [1, 1, 0, 1]) 29 := by
  have hc : at_ (bodyOf Try.f30) [1, 1, 0, 1] = .block 0 (.loop (at_ (bodyOf Try.f30) [1, 1, 0, 1, 0, 0])) := by kernel_rfl
  rw [hc]
  refine loop_unit_ok (carr := [(0, .slice none 0 0), (13, .int .i64 0)]) (fix := [(11, .slice none 0 0), (12, .int .i64 0)]) (ks := T_conf_row_1_ks) (H := (hookAt [])) (B := fun C X l u w => match l, u with | [v0, v1], [v2, v3] => T_conf_row_1_body (fun b6a b6l b6c x7 w => X [.slice b6a b6l b6c, .int .i64 x7] w) (pA v0) (pL v0) (pC v0) (pInt v1) (pA v2) (pL v2) (pC v2) (pInt v3) w (fun b27a b27l b27c w => C .normal [.slice b27a b27l b27c] w) (fun ch w => C (.panic ch) [] w) | _, _ => False) (by kernel_rfl) (by kernel_rfl) T_conf_row_1_hok ?_ ?_
  · intro C X l u w hl hu
    obtain ⟨v0, l_v0, rfl, k_v0, hl_v0⟩ := Kinds.cons_ hl
    obtain ⟨b6a, b6l, b6c, rfl⟩ := kind_slice k_v0
    obtain ⟨v1, l_v1, rfl, k_v1, hl_v1⟩ := Kinds.cons_ hl_v0
    obtain ⟨x7, rfl⟩ := kind_int k_v1
    obtain rfl := Kinds.nil_ hl_v1
    obtain ⟨v2, l_v2, rfl, k_v2, hu_v2⟩ := Kinds.cons_ hu
    obtain ⟨s8a, s8l, s8c, rfl⟩ := kind_slice k_v2
    obtain ⟨v3, l_v3, rfl, k_v3, hu_v3⟩ := Kinds.cons_ hu_v2
    obtain ⟨x9, rfl⟩ := kind_int k_v3
    obtain rfl := Kinds.nil_ hu_v3
    exact T_conf_row_1_eq C X b6a b6l b6c x7 s8a s8l s8c x9 w
  · intro l u w C hl hu
    obtain ⟨v0, l_v0, rfl, k_v0, hl_v0⟩ := Kinds.cons_ hl
    obtain ⟨b6a, b6l, b6c, rfl⟩ := kind_slice k_v0
    obtain ⟨v1, l_v1, rfl, k_v1, hl_v1⟩ := Kinds.cons_ hl_v0
    obtain ⟨x7, rfl⟩ := kind_int k_v1
    obtain rfl := Kinds.nil_ hl_v1
    obtain ⟨v2, l_v2, rfl, k_v2, hu_v2⟩ := Kinds.cons_ hu
    obtain ⟨s8a, s8l, s8c, rfl⟩ := kind_slice k_v2
    obtain ⟨v3, l_v3, rfl, k_v3, hu_v3⟩ := Kinds.cons_ hu_v2
    obtain ⟨x9, rfl⟩ := kind_int k_v3
    obtain rfl := Kinds.nil_ hu_v3
    constructor
    · intro h X hX
      exact h (fun b6a b6l b6c x7 w => X [.slice b6a b6l b6c, .int .i64 x7] w) (fun b6a b6l b6c x7 w hb => hX [.slice b6a b6l b6c, .int .i64 x7] w ⟨rfl, rfl, trivial⟩ hb)
    · intro h X hX
      exact h (fun l w => match l with | [v0, v1] => X (pA v0) (pL v0) (pC v0) (pInt v1) w | _ => True) (fun l w hl hb => by
        obtain ⟨v0, l_v0, rfl, k_v0, hl_v0⟩ := Kinds.cons_ hl
        obtain ⟨b6a, b6l, b6c, rfl⟩ := kind_slice k_v0
        obtain ⟨v1, l_v1, rfl, k_v1, hl_v1⟩ := Kinds.cons_ hl_v0
        obtain ⟨x7, rfl⟩ := kind_int k_v1
        obtain rfl := Kinds.nil_ hl_v1
        exact hX b6a b6l b6c x7 w hb)

def T_conf_row (b1a : Option Addr) (b1l : Nat) (b1c : Nat) (l2a : Option Addr) (l2l : Nat) (l2c : Nat) (w : World) (R : Ending → World → Prop) : Prop :=
  Calls Try.prog 29 #[.slice b1a b1l b1c, .int .i64 ((l2l : Nat) : Int)] w (ret (fun r3 w4 => ∃ s5a : Option Addr, ∃ s5l : Nat, ∃ s5c : Nat, r3 = .slice s5a s5l s5c ∧ T_conf_row_1 s5a s5l s5c 0 l2a l2l l2c ((l2l : Nat) : Int) w4 (fun b28a b28l b28c w29 => R (.returned (.slice b28a b28l b28c)) w29) (pan R)) (pan R))

theorem T_conf_row_hl : allP (hokL Try.prog (hookAt [(29, H_conf_row_1)]) (bodyOf Try.f30) 1) = (UnitOk Try.prog H_conf_row_1 (at_ (bodyOf Try.f30) [1, 1, 0, 1]) 29 ∧ True) := by kernel_rfl

theorem T_conf_row_eq (b1a : Option Addr) (b1l : Nat) (b1c : Nat) (l2a : Option Addr) (l2l : Nat) (l2c : Nat) (w : World) (R : Ending → World → Prop) : vcCode Try.prog (hookAt [(29, H_conf_row_1)]) (bodyOf Try.f30) 1 ⟨argEnv [.slice b1a b1l b1c, .slice l2a l2l l2c] 0, Try.f30.ntmps, []⟩ w (finQ Try.prog Try.f30.results.toList R) = T_conf_row b1a b1l b1c l2a l2l l2c w R := by kernel_rfl

theorem T_conf_row_b : Try.f30.body = some (bodyOf Try.f30) := by kernel_rfl
theorem T_conf_row_s : (quietSel (bodyOf Try.f30) && Nat.ble 2 Try.f30.ntmps) = true := by kernel_rfl

theorem C_conf_row {b1a : Option Addr} {b1l : Nat} {b1c : Nat} {l2a : Option Addr} {l2l : Nat} {l2c : Nat} {w : World} {R : Ending → World → Prop} (h : T_conf_row b1a b1l b1c l2a l2l l2c w R) : Calls Try.prog 30 #[.slice b1a b1l b1c, .slice l2a l2l l2c] w R :=
  calls_of_text (args := [.slice b1a b1l b1c, .slice l2a l2l l2c]) mixed Try.func30 T_conf_row_b T_conf_row_s (HOk_of _ _ (by rw [T_conf_row_hl]; exact ⟨T_conf_row_1_ok, trivial⟩)) (by rw [T_conf_row_eq]; exact h)

/-! tollgate/conf.text -/
def T_conf_text (b1a : Option Addr) (b1l : Nat) (b1c : Nat) (s2 : ByteArray) (w : World) (R : Ending → World → Prop) : Prop :=
  Calls Try.prog 29 #[.slice b1a b1l b1c, .int .i64 ((s2.size : Nat) : Int)] w (ret (fun r3 w4 => ∃ s5a : Option Addr, ∃ s5l : Nat, ∃ s5c : Nat, r3 = .slice s5a s5l s5c ∧ runV Try.prog (Builtin.append_ #[42, 9] 42 #[.slice s5a s5l s5c, .string s2]) w4 (fun r6 w7 => ∃ s8a : Option Addr, ∃ s8l : Nat, ∃ s8c : Nat, r6 = .slice s8a s8l s8c ∧ R (.returned (.slice s8a s8l s8c)) w7) (pan R)) (pan R))

theorem T_conf_text_hl : allP (hokL Try.prog (hookAt []) (bodyOf Try.f31) 1) = (True) := by kernel_rfl

theorem T_conf_text_eq (b1a : Option Addr) (b1l : Nat) (b1c : Nat) (s2 : ByteArray) (w : World) (R : Ending → World → Prop) : vcCode Try.prog (hookAt []) (bodyOf Try.f31) 1 ⟨argEnv [.slice b1a b1l b1c, .string s2] 0, Try.f31.ntmps, []⟩ w (finQ Try.prog Try.f31.results.toList R) = T_conf_text b1a b1l b1c s2 w R := by kernel_rfl

theorem T_conf_text_b : Try.f31.body = some (bodyOf Try.f31) := by kernel_rfl
theorem T_conf_text_s : (quietSel (bodyOf Try.f31) && Nat.ble 2 Try.f31.ntmps) = true := by kernel_rfl

theorem C_conf_text {b1a : Option Addr} {b1l : Nat} {b1c : Nat} {s2 : ByteArray} {w : World} {R : Ending → World → Prop} (h : T_conf_text b1a b1l b1c s2 w R) : Calls Try.prog 31 #[.slice b1a b1l b1c, .string s2] w R :=
  calls_of_text (args := [.slice b1a b1l b1c, .string s2]) mixed Try.func31 T_conf_text_b T_conf_text_s (HOk_of _ _ (by rw [T_conf_text_hl]; exact trivial)) (by rw [T_conf_text_eq]; exact h)

/-! tollgate/tollgateref08.num -/
/-! tollgate/wire.number -/
def T_wire_number_1_body (X : Option Addr → Nat → Nat → Int → World → Prop) (b3a : Option Addr) (b3l : Nat) (b3c : Nat) (n4 : Int) (w : World) (Kn : Option Addr → Nat → Nat → Int → World → Prop) (Kp : List PanicEntry → World → Prop)  : Prop :=
  if (decide ((n4 : Int) ≥ 128)) = true then (let w5 : World := w.alloc (.cells #[.int .u8 (IntKind.wrap .u8 (IntKind.wrap .i64 ((BitVec.ofInt (IntKind.bits .i64) (IntKind.wrap .i64 ((BitVec.ofInt (IntKind.bits .i64) n4) &&& (BitVec.ofInt (IntKind.bits .i64) 127)).toNat)) ||| (BitVec.ofInt (IntKind.bits .i64) 128)).toNat))] 5)
  runV Try.prog (Builtin.append_ #[42, 42] 42 #[.slice b3a b3l b3c, .slice (some (⟨w.heap.size, 0, none⟩ : Addr)) 1 1]) w5 (fun r6 w7 => ∃ s8a : Option Addr, ∃ s8l : Nat, ∃ s8c : Nat, r6 = .slice s8a s8l s8c ∧ X s8a s8l s8c (Int.fdiv n4 (2 ^ 7)) w7) Kp) else (Kn b3a b3l b3c n4 w)

def T_wire_number_1 (b3a : Option Addr) (b3l : Nat) (b3c : Nat) (n4 : Int) (w : World) (Kn : Option Addr → Nat → Nat → Int → World → Prop) (Kp : List PanicEntry → World → Prop) : Prop :=
  ∀ X : Option Addr → Nat → Nat → Int → World → Prop, (∀ (b3a : Option Addr) (b3l : Nat) (b3c : Nat) (n4 : Int) (w : World), T_wire_number_1_body X b3a b3l b3c n4 w Kn Kp → X b3a b3l b3c n4 w) → X b3a b3l b3c n4 w

def T_wire_number_1_outs : Exit → Option (List (Nat × Value)) := fun x => match x with | .normal => some [(0, .slice none 0 0), (1, .int .i64 0)] | .panic _ => some [] | _ => none

def T_wire_number_1_ks : Nat → Bool := ksOf [0, 1, 5, 6, 7, 8, 9, 10, 11, 12, 13, 14, 15]

def H_wire_number_1 : Env → World → QT → Prop := unitHook 21 T_wire_number_1_ks [(0, .slice none 0 0), (1, .int .i64 0)] T_wire_number_1_outs fun l w C => match l with | [v0, v1] => T_wire_number_1 (pA v0) (pL v0) (pC v0) (pInt v1) w (fun b11a b11l b11c n12 w => C .normal [.slice b11a b11l b11c, .int .i64 n12] w) (fun ch w => C (.panic ch) [] w) | _ => False

theorem T_wire_number_1_hl : allP (hokL Try.prog (hookAt []) (at_ (bodyOf Try.f80) [1, 0, 0, 0]) 24) = (True) := by kernel_rfl
theorem T_wire_number_1_hok : HOk Try.prog (hookAt []) (at_ (bodyOf Try.f80) [1, 0, 0, 0]) 24 := HOk_of _ _ (by rw [T_wire_number_1_hl]; exact trivial)

theorem T_wire_number_1_eq (C : Conts) (X : List Value → World → Prop) (b3a : Option Addr) (b3l : Nat) (b3c : Nat) (n4 : Int) (w : World) : vcCode Try.prog (hookAt []) (at_ (bodyOf Try.f80) [1, 0, 0, 0]) 24 ⟨[(0, .slice b3a b3l b3c), (1, .int .i64 n4)] ++ [], 21, []⟩ w (seqQ (fun e w => takeAll e [(0, .slice none 0 0), (1, .int .i64 0)] fun l => X l w) (blockQ 0 (unitQ T_wire_number_1_outs C))) = T_wire_number_1_body (fun b3a b3l b3c n4 w => X [.slice b3a b3l b3c, .int .i64 n4] w) b3a b3l b3c n4 w (fun b13a b13l b13c n14 w => C .normal [.slice b13a b13l b13c, .int .i64 n14] w) (fun ch w => C (.panic ch) [] w) := by kernel_rfl

theorem T_wire_number_1_ok : UnitOk Try.prog H_wire_number_1 (at_ (bodyOf Try.f80) [1, 0]) 6 := by
  have hc : at_ (bodyOf Try.f80) [1, 0] = .block 0 (.loop (at_ (bodyOf Try.f80) [1, 0, 0, 0])) := by kernel_rfl
  rw [hc]
  refine loop_unit_ok (carr := [(0, .slice none 0 0), (1, .int .i64 0)]) (fix := []) (ks := T_wire_number_1_ks) (H := (hookAt [])) (B := fun C X l u w => match l, u with | [v0, v1], [] => T_wire_number_1_body (fun b3a b3l b3c n4 w => X [.slice b3a b3l b3c, .int .i64 n4] w) (pA v0) (pL v0) (pC v0) (pInt v1) w (fun b15a b15l b15c n16 w => C .normal [.slice b15a b15l b15c, .int .i64 n16] w) (fun ch w => C (.panic ch) [] w) | _, _ => False) (by kernel_rfl) (by kernel_rfl) T_wire_number_1_hok ?_ ?_
  · intro C X l u w hl hu
    obtain ⟨v0, l_v0, rfl, k_v0, hl_v0⟩ := Kinds.cons_ hl
    obtain ⟨b3a, b3l, b3c, rfl⟩ := kind_slice k_v0
    obtain ⟨v1, l_v1, rfl, k_v1, hl_v1⟩ := Kinds.cons_ hl_v0
    obtain ⟨n4, rfl⟩ := kind_int k_v1
    obtain rfl := Kinds.nil_ hl_v1
    obtain rfl := Kinds.nil_ hu
    exact T_wire_number_1_eq C X b3a b3l b3c n4 w
  · intro l u w C hl hu
    obtain ⟨v0, l_v0, rfl, k_v0, hl_v0⟩ := Kinds.cons_ hl
    obtain ⟨b3a, b3l, b3c, rfl⟩ := kind_slice k_v0
    obtain ⟨v1, l_v1, rfl, k_v1, hl_v1⟩ := Kinds.cons_ hl_v0
    obtain ⟨n4, rfl⟩ := kind_int k_v1
    obtain rfl := Kinds.nil_ hl_v1
    obtain rfl := Kinds.nil_ hu
    constructor
    · intro h X hX
      exact h (fun b3a b3l b3c n4 w => X [.slice b3a b3l b3c, .int .i64 n4] w) (fun b3a b3l b3c n4 w hb => hX [.slice b3a b3l b3c, .int .i64 n4] w ⟨rfl, rfl, trivial⟩ hb)
    · intro h X hX
      exact h (fun l w => match l with | [v0, v1] => X (pA v0) (pL v0) (pC v0) (pInt v1) w | _ => True) (fun l w hl hb => by
        obtain ⟨v0, l_v0, rfl, k_v0, hl_v0⟩ := Kinds.cons_ hl
        obtain ⟨b3a, b3l, b3c, rfl⟩ := kind_slice k_v0
        obtain ⟨v1, l_v1, rfl, k_v1, hl_v1⟩ := Kinds.cons_ hl_v0
        obtain ⟨n4, rfl⟩ := kind_int k_v1
        obtain rfl := Kinds.nil_ hl_v1
        exact hX b3a b3l b3c n4 w hb)

def T_wire_number (b1a : Option Addr) (b1l : Nat) (b1c : Nat) (n2 : Int) (w : World) (R : Ending → World → Prop) : Prop :=
  T_wire_number_1 b1a b1l b1c n2 w (fun b17a b17l b17c n18 w19 => let w20 : World := w19.alloc (.cells #[.int .u8 (IntKind.wrap .u8 n18)] 5)
  runV Try.prog (Builtin.append_ #[42, 42] 42 #[.slice b17a b17l b17c, .slice (some (⟨w19.heap.size, 0, none⟩ : Addr)) 1 1]) w20 (fun r21 w22 => ∃ s23a : Option Addr, ∃ s23l : Nat, ∃ s23c : Nat, r21 = .slice s23a s23l s23c ∧ R (.returned (.slice s23a s23l s23c)) w22) (pan R)) (pan R)

theorem T_wire_number_hl : allP (hokL Try.prog (hookAt [(6, H_wire_number_1)]) (bodyOf Try.f80) 1) = (UnitOk Try.prog H_wire_number_1 (at_ (bodyOf Try.f80) [1, 0]) 6 ∧ True) := by kernel_rfl

theorem T_wire_number_eq (b1a : Option Addr) (b1l : Nat) (b1c : Nat) (n2 : Int) (w : World) (R : Ending → World → Prop) : vcCode Try.prog (hookAt [(6, H_wire_number_1)]) (bodyOf Try.f80) 1 ⟨argEnv [.slice b1a b1l b1c, .int .i64 n2] 0, Try.f80.ntmps, []⟩ w (finQ Try.prog Try.f80.results.toList R) = T_wire_number b1a b1l b1c n2 w R := by kernel_rfl

theorem T_wire_number_b : Try.f80.body = some (bodyOf Try.f80) := by kernel_rfl
theorem T_wire_number_s : (quietSel (bodyOf Try.f80) && Nat.ble 2 Try.f80.ntmps) = true := by kernel_rfl

theorem C_wire_number {b1a : Option Addr} {b1l : Nat} {b1c : Nat} {n2 : Int} {w : World} {R : Ending → World → Prop} (h : T_wire_number b1a b1l b1c n2 w R) : Calls Try.prog 80 #[.slice b1a b1l b1c, .int .i64 n2] w R :=
  calls_of_text (args := [.slice b1a b1l b1c, .int .i64 n2]) mixed Try.func80 T_wire_number_b T_wire_number_s (HOk_of _ _ (by rw [T_wire_number_hl]; exact ⟨T_wire_number_1_ok, trivial⟩)) (by rw [T_wire_number_eq]; exact h)

/-! tollgate/conf.float -/
def T_conf_float_1_body (X : Option Addr → Nat → Nat → Int → World → Prop) (b3a : Option Addr) (b3l : Nat) (b3c : Nat) (k4 : Int) (w5 : Nat) (w : World) (Kn : Option Addr → Nat → Nat → World → Prop) (Kp : List PanicEntry → World → Prop)  : Prop :=
  if (decide ((k4 : Int) ≥ 0)) = true then (runV Try.prog (callFunc 21 #[.float .f64 w5]) w (nxv (fun r6 w7 => ∃ x8 : Int, r6 = .int .u64 x8 ∧ runV Try.prog (do eqGuard .shr 50 (.tmp 12) (.tmp 13) (.int .u64 x8) (.int .i64 k4); binOp .shr 50 (.int .u64 x8) (.int .i64 k4)) w7 (fun r9 w10 => ∃ x11 : Int, r9 = .int .u64 x11 ∧ let w12 : World := w10.alloc (.cells #[.int .u8 (IntKind.wrap .u8 x11)] 5)
  runV Try.prog (Builtin.append_ #[42, 42] 42 #[.slice b3a b3l b3c, .slice (some (⟨w10.heap.size, 0, none⟩ : Addr)) 1 1]) w12 (fun r13 w14 => ∃ s15a : Option Addr, ∃ s15l : Nat, ∃ s15c : Nat, r13 = .slice s15a s15l s15c ∧ X s15a s15l s15c (IntKind.wrap .i64 ((k4 : Int) - 8)) w14) Kp) Kp)) Kp) else (Kn b3a b3l b3c w)

def T_conf_float_1 (b3a : Option Addr) (b3l : Nat) (b3c : Nat) (k4 : Int) (w5 : Nat) (w : World) (Kn : Option Addr → Nat → Nat → World → Prop) (Kp : List PanicEntry → World → Prop) : Prop :=
  ∀ X : Option Addr → Nat → Nat → Int → World → Prop, (∀ (b3a : Option Addr) (b3l : Nat) (b3c : Nat) (k4 : Int) (w : World), T_conf_float_1_body X b3a b3l b3c k4 w5 w Kn Kp → X b3a b3l b3c k4 w) → X b3a b3l b3c k4 w

def T_conf_float_1_outs : Exit → Option (List (Nat × Value)) := fun x => match x with | .normal => some [(0, .slice none 0 0)] | .panic _ => some [] | _ => none

def T_conf_float_1_ks : Nat → Bool := ksOf [0, 5, 6, 7, 8, 9, 10, 11, 12, 13, 14, 15, 16, 17]

def H_conf_float_1 : Env → World → QT → Prop := unitHook 19 T_conf_float_1_ks [(0, .slice none 0 0), (5, .int .i64 0), (1, .float .f64 0)] T_conf_float_1_outs fun l w C => match l with | [v0, v1, v2] => T_conf_float_1 (pA v0) (pL v0) (pC v0) (pInt v1) (pFlt v2) w (fun b17a b17l b17c w => C .normal [.slice b17a b17l b17c] w) (fun ch w => C (.panic ch) [] w) | _ => False

theorem T_conf_float_1_hl : allP (hokL Try.prog (hookAt []) (at_ (bodyOf Try.f58) [1, 0, 1, 0, 0]) 52) = (True) := by kernel_rfl
theorem T_conf_float_1_hok : HOk Try.prog (hookAt []) (at_ (bodyOf Try.f58) [1, 0, 1, 0, 0]) 52 := HOk_of _ _ (by rw [T_conf_float_1_hl]; exact trivial)

theorem T_conf_float_1_eq (C : Conts) (X : List Value → World → Prop) (b3a : Option Addr) (b3l : Nat) (b3c : Nat) (k4 : Int) (w5 : Nat) (w : World) : vcCode Try.prog (hookAt []) (at_ (bodyOf Try.f58) [1, 0, 1, 0, 0]) 52 ⟨[(0, .slice b3a b3l b3c), (5, .int .i64 k4)] ++ [(1, .float .f64 w5)], 19, []⟩ w (seqQ (fun e w => takeAll e [(0, .slice none 0 0), (5, .int .i64 0)] fun l => X l w) (blockQ 0 (unitQ T_conf_float_1_outs C))) = T_conf_float_1_body (fun b3a b3l b3c k4 w => X [.slice b3a b3l b3c, .int .i64 k4] w) b3a b3l b3c k4 w5 w (fun b18a b18l b18c w => C .normal [.slice b18a b18l b18c] w) (fun ch w => C (.panic ch) [] w) := by kernel_rfl

theorem T_conf_float_1_ok : UnitOk Try.prog H_conf_float_1 (at_ (bodyOf Try.f58) [1, 0, 1]) 13 := by
  have hc : at_ (bodyOf Try.f58) [1, 0, 1] = .block 0 (.loop (at_ (bodyOf Try.f58) [1, 0, 1, 0, 0])) := by kernel_rfl
  rw [hc]
  refine loop_unit_ok (carr := [(0, .slice none 0 0), (5, .int .i64 0)]) (fix := [(1, .float .f64 0)]) (ks := T_conf_float_1_ks) (H := (hookAt [])) (B := fun C X l u w => match l, u with | [v0, v1], [v2] => T_conf_float_1_body (fun b3a b3l b3c k4 w => X [.slice b3a b3l b3c, .int .i64 k4] w) (pA v0) (pL v0) (pC v0) (pInt v1) (pFlt v2) w (fun b19a b19l b19c w => C .normal [.slice b19a b19l b19c] w) (fun ch w => C (.panic ch) [] w) | _, _ => False) (by kernel_rfl) (by kernel_rfl) T_conf_float_1_hok ?_ ?_
  · intro C X l u w hl hu
    obtain ⟨v0, l_v0, rfl, k_v0, hl_v0⟩ := Kinds.cons_ hl
    obtain ⟨b3a, b3l, b3c, rfl⟩ := kind_slice k_v0
    obtain ⟨v1, l_v1, rfl, k_v1, hl_v1⟩ := Kinds.cons_ hl_v0
    obtain ⟨k4, rfl⟩ := kind_int k_v1
    obtain rfl := Kinds.nil_ hl_v1
    obtain ⟨v2, l_v2, rfl, k_v2, hu_v2⟩ := Kinds.cons_ hu
    obtain ⟨w5, rfl⟩ := kind_float k_v2
    obtain rfl := Kinds.nil_ hu_v2
    exact T_conf_float_1_eq C X b3a b3l b3c k4 w5 w
  · intro l u w C hl hu
    obtain ⟨v0, l_v0, rfl, k_v0, hl_v0⟩ := Kinds.cons_ hl
    obtain ⟨b3a, b3l, b3c, rfl⟩ := kind_slice k_v0
    obtain ⟨v1, l_v1, rfl, k_v1, hl_v1⟩ := Kinds.cons_ hl_v0
    obtain ⟨k4, rfl⟩ := kind_int k_v1
    obtain rfl := Kinds.nil_ hl_v1
    obtain ⟨v2, l_v2, rfl, k_v2, hu_v2⟩ := Kinds.cons_ hu
    obtain ⟨w5, rfl⟩ := kind_float k_v2
    obtain rfl := Kinds.nil_ hu_v2
    constructor
    · intro h X hX
      exact h (fun b3a b3l b3c k4 w => X [.slice b3a b3l b3c, .int .i64 k4] w) (fun b3a b3l b3c k4 w hb => hX [.slice b3a b3l b3c, .int .i64 k4] w ⟨rfl, rfl, trivial⟩ hb)
    · intro h X hX
      exact h (fun l w => match l with | [v0, v1] => X (pA v0) (pL v0) (pC v0) (pInt v1) w | _ => True) (fun l w hl hb => by
        obtain ⟨v0, l_v0, rfl, k_v0, hl_v0⟩ := Kinds.cons_ hl
        obtain ⟨b3a, b3l, b3c, rfl⟩ := kind_slice k_v0
        obtain ⟨v1, l_v1, rfl, k_v1, hl_v1⟩ := Kinds.cons_ hl_v0
        obtain ⟨k4, rfl⟩ := kind_int k_v1
        obtain rfl := Kinds.nil_ hl_v1
        exact hX b3a b3l b3c k4 w hb)

def T_conf_float (b1a : Option Addr) (b1l : Nat) (b1c : Nat) (w2 : Nat) (w : World) (R : Ending → World → Prop) : Prop :=
  T_conf_float_1 b1a b1l b1c 56 w2 w (fun b20a b20l b20c w21 => R (.returned (.slice b20a b20l b20c)) w21) (pan R)

theorem T_conf_float_hl : allP (hokL Try.prog (hookAt [(13, H_conf_float_1)]) (bodyOf Try.f58) 1) = (UnitOk Try.prog H_conf_float_1 (at_ (bodyOf Try.f58) [1, 0, 1]) 13 ∧ True) := by kernel_rfl

theorem T_conf_float_eq (b1a : Option Addr) (b1l : Nat) (b1c : Nat) (w2 : Nat) (w : World) (R : Ending → World → Prop) : vcCode Try.prog (hookAt [(13, H_conf_float_1)]) (bodyOf Try.f58) 1 ⟨argEnv [.slice b1a b1l b1c, .float .f64 w2] 0, Try.f58.ntmps, []⟩ w (finQ Try.prog Try.f58.results.toList R) = T_conf_float b1a b1l b1c w2 w R := by kernel_rfl

theorem T_conf_float_b : Try.f58.body = some (bodyOf Try.f58) := by kernel_rfl
theorem T_conf_float_s : (quietSel (bodyOf Try.f58) && Nat.ble 2 Try.f58.ntmps) = true := by kernel_rfl

theorem C_conf_float {b1a : Option Addr} {b1l : Nat} {b1c : Nat} {w2 : Nat} {w : World} {R : Ending → World → Prop} (h : T_conf_float b1a b1l b1c w2 w R) : Calls Try.prog 58 #[.slice b1a b1l b1c, .float .f64 w2] w R :=
  calls_of_text (args := [.slice b1a b1l b1c, .float .f64 w2]) mixed Try.func58 T_conf_float_b T_conf_float_s (HOk_of _ _ (by rw [T_conf_float_hl]; exact ⟨T_conf_float_1_ok, trivial⟩)) (by rw [T_conf_float_eq]; exact h)

/-! tollgate/tollgateref02.Number -/
/-! tollgate/tollgateref08.targets -/
/-! tollgate/tollgateref08.text -/
end Go.Proofs.Ytcpmfjclkdjfmaa

/-
  What the functions' code comes to; printed by a program of this claim's own.
-/
namespace Go.Proofs.Ytcpmfjclkdjfmaa
open Go Go.Vc
set_option maxRecDepth 100000
set_option linter.unusedVariables false

/-! (*tollgate/conf.Store).Config -/
def T_conf_Store_Config_1_body (X : Int → World → Prop) (x19 : Int) (s20 : Option Addr) (c21 : Addr) (s22a : Option Addr) (s22l : Nat) (s22c : Nat) (x23 : Int) (w : World) (Kn : World → Prop) (Kp : List PanicEntry → World → Prop)  : Prop :=
  if (decide ((x19 : Int) < x23)) = true then (0 ≤ (x19 : Int) ∧ (x19 : Int) < ((s22l : Nat) : Int) ∧ ∃ b24, s22a = some b24 ∧ ∃ s25 : ByteArray, rd w (b24.add ((x19 : Int).toNat * 1)) (.string s25) ∧ let w26 : World := w.drew
  ∃ s27a : Option Addr, ∃ s27l : Nat, ∃ s27c : Nat, rd w26 (c21.add 2) (.slice s27a s27l s27c) ∧ ∃ a28, s20 = some a28 ∧ ∃ m29 : Option Nat, rd w26 (a28.add 1) (.map m29) ∧ runV Try.prog (Instr.lookup 59 (.map m29) (.string s25) false) w26 (fun r30 w31 => ∃ s32a : Option Addr, ∃ s32l : Nat, ∃ s32c : Nat, r30 = .slice s32a s32l s32c ∧ (rd w31 (c21.add 2) (.slice s27a s27l s27c) ∧ True) ∧ Calls Try.prog 24 #[.slice s32a s32l s32c] w31 (ret (fun r33 w34 => ∃ s35a : Option Addr, ∃ s35l : Nat, ∃ s35c : Nat, r33 = .slice s35a s35l s35c ∧ (rd w34 (c21.add 2) (.slice s27a s27l s27c) ∧ True) ∧ let w36 : World := w34.alloc (.cells #[.string s25, .slice s35a s35l s35c] 71)
  (rd w36 (c21.add 2) (.slice s27a s27l s27c) ∧ True) ∧ runV Try.prog (Builtin.append_ #[31, 31] 31 #[.slice s27a s27l s27c, .slice (some (⟨w34.heap.size, 0, none⟩ : Addr)) 1 1]) w36 (fun r37 w38 => ∃ s39a : Option Addr, ∃ s39l : Nat, ∃ s39c : Nat, r37 = .slice s39a s39l s39c ∧ (True) ∧ (.slice s39a s39l s39c : Value).cells.size = 1 ∧ wrOk w38 (c21.add 2) (.slice s39a s39l s39c) ∧ let w40 : World := wr w38 (c21.add 2) (.slice s39a s39l s39c)
  (True) ∧ X (IntKind.wrap .i64 ((x19 : Int) + 1)) w40) Kp) Kp)) Kp) else (Kn  w)

def T_conf_Store_Config_1 (x19 : Int) (s20 : Option Addr) (c21 : Addr) (s22a : Option Addr) (s22l : Nat) (s22c : Nat) (x23 : Int) (w : World) (Kn : World → Prop) (Kp : List PanicEntry → World → Prop) : Prop :=
  ∀ X : Int → World → Prop, (∀ (x19 : Int) (w : World), T_conf_Store_Config_1_body X x19 s20 c21 s22a s22l s22c x23 w Kn Kp → X x19 w) → X x19 w

def T_conf_Store_Config_1_outs : Exit → Option (List (Nat × Value)) := fun x => match x with | .normal => some [] | .panic _ => some [] | _ => none

def T_conf_Store_Config_1_ks : Nat → Bool := ksOf [5, 23, 24, 25, 26, 27, 28, 29, 30, 31, 32, 33, 34, 35, 36, 37, 38, 39, 40, 41]

def H_conf_Store_Config_1 : Env → World → QT → Prop := unitHook 67 T_conf_Store_Config_1_ks [(23, .int .i64 0), (0, .pointer none), (3, .pointer (some ⟨0, 0, none⟩)), (21, .slice none 0 0), (22, .int .i64 0)] T_conf_Store_Config_1_outs fun l w C => match l with | [v0, v1, v2, v3, v4] => T_conf_Store_Config_1 (pInt v0) (pPtr v1) (pAddr v2) (pA v3) (pL v3) (pC v3) (pInt v4) w (fun w => C .normal [] w) (fun ch w => C (.panic ch) [] w) | _ => False

theorem T_conf_Store_Config_1_hl : allP (hokL Try.prog (hookAt []) (at_ (bodyOf Try.f9) [1, 1, 1, 0, 1, 0, 0]) 244) = (True) := by kernel_rfl
theorem T_conf_Store_Config_1_hok : HOk Try.prog (hookAt []) (at_ (bodyOf Try.f9) [1, 1, 1, 0, 1, 0, 0]) 244 := HOk_of _ _ (by rw [T_conf_Store_Config_1_hl]; exact trivial)

theorem T_conf_Store_Config_1_eq (C : Conts) (X : List Value → World → Prop) (x19 : Int) (s20 : Option Addr) (c21 : Addr) (s22a : Option Addr) (s22l : Nat) (s22c : Nat) (x23 : Int) (w : World) : vcCode Try.prog (hookAt []) (at_ (bodyOf Try.f9) [1, 1, 1, 0, 1, 0, 0]) 244 ⟨[(23, .int .i64 x19)] ++ [(0, .pointer s20), (3, .pointer (some c21)), (21, .slice s22a s22l s22c), (22, .int .i64 x23)], 67, []⟩ w (seqQ (fun e w => takeAll e [(23, .int .i64 0)] fun l => X l w) (blockQ 0 (unitQ T_conf_Store_Config_1_outs C))) = T_conf_Store_Config_1_body (fun x19 w => X [.int .i64 x19] w) x19 s20 c21 s22a s22l s22c x23 w (fun w => C .normal [] w) (fun ch w => C (.panic ch) [] w) := by kernel_rfl

theorem T_conf_Store_Config_1_ok : UnitOk Try.prog H_conf_Store_Config_1 (at_ (bodyOf Try.f9) [1, 1, 1, 0, 1]) 61 := by
  have hc : at_ (bodyOf Try.f9) [1, 1, 1, 0, 1] = .block 0 (.loop (at_ (bodyOf Try.f9) [1, 1, 1, 0, 1, 0, 0])) := by kernel_rfl
  rw [hc]
  refine loop_unit_ok (carr := [(23, .int .i64 0)]) (fix := [(0, .pointer none), (3, .pointer (some ⟨0, 0, none⟩)), (21, .slice none 0 0), (22, .int .i64 0)]) (ks := T_conf_Store_Config_1_ks) (H := (hookAt [])) (B := fun C X l u w => match l, u with | [v0], [v1, v2, v3, v4] => T_conf_Store_Config_1_body (fun x19 w => X [.int .i64 x19] w) (pInt v0) (pPtr v1) (pAddr v2) (pA v3) (pL v3) (pC v3) (pInt v4) w (fun w => C .normal [] w) (fun ch w => C (.panic ch) [] w) | _, _ => False) (by kernel_rfl) (by kernel_rfl) T_conf_Store_Config_1_hok ?_ ?_
  · intro C X l u w hl hu
    obtain ⟨v0, l_v0, rfl, k_v0, hl_v0⟩ := Kinds.cons_ hl
    obtain ⟨x19, rfl⟩ := kind_int k_v0
    obtain rfl := Kinds.nil_ hl_v0
    obtain ⟨v1, l_v1, rfl, k_v1, hu_v1⟩ := Kinds.cons_ hu
    obtain ⟨s20, rfl⟩ := kind_pointer k_v1
    obtain ⟨v2, l_v2, rfl, k_v2, hu_v2⟩ := Kinds.cons_ hu_v1
    obtain ⟨c21, rfl⟩ := kind_addr k_v2
    obtain ⟨v3, l_v3, rfl, k_v3, hu_v3⟩ := Kinds.cons_ hu_v2
    obtain ⟨s22a, s22l, s22c, rfl⟩ := kind_slice k_v3
    obtain ⟨v4, l_v4, rfl, k_v4, hu_v4⟩ := Kinds.cons_ hu_v3
    obtain ⟨x23, rfl⟩ := kind_int k_v4
    obtain rfl := Kinds.nil_ hu_v4
    exact T_conf_Store_Config_1_eq C X x19 s20 c21 s22a s22l s22c x23 w
  · intro l u w C hl hu
    obtain ⟨v0, l_v0, rfl, k_v0, hl_v0⟩ := Kinds.cons_ hl
    obtain ⟨x19, rfl⟩ := kind_int k_v0
    obtain rfl := Kinds.nil_ hl_v0
    obtain ⟨v1, l_v1, rfl, k_v1, hu_v1⟩ := Kinds.cons_ hu
    obtain ⟨s20, rfl⟩ := kind_pointer k_v1
    obtain ⟨v2, l_v2, rfl, k_v2, hu_v2⟩ := Kinds.cons_ hu_v1
    obtain ⟨c21, rfl⟩ := kind_addr k_v2
    obtain ⟨v3, l_v3, rfl, k_v3, hu_v3⟩ := Kinds.cons_ hu_v2
    obtain ⟨s22a, s22l, s22c, rfl⟩ := kind_slice k_v3
    obtain ⟨v4, l_v4, rfl, k_v4, hu_v4⟩ := Kinds.cons_ hu_v3
    obtain ⟨x23, rfl⟩ := kind_int k_v4
    obtain rfl := Kinds.nil_ hu_v4
    constructor
    · intro h X hX
      exact h (fun x19 w => X [.int .i64 x19] w) (fun x19 w hb => hX [.int .i64 x19] w ⟨rfl, trivial⟩ hb)
    · intro h X hX
      exact h (fun l w => match l with | [v0] => X (pInt v0) w | _ => True) (fun l w hl hb => by
        obtain ⟨v0, l_v0, rfl, k_v0, hl_v0⟩ := Kinds.cons_ hl
        obtain ⟨x19, rfl⟩ := kind_int k_v0
        obtain rfl := Kinds.nil_ hl_v0
        exact hX x19 w hb)

def T_conf_Store_Config_2_body (X : Int → World → Prop) (x45 : Int) (s46 : Option Addr) (c47 : Addr) (s48a : Option Addr) (s48l : Nat) (s48c : Nat) (x49 : Int) (w : World) (Kn : World → Prop) (Kp : List PanicEntry → World → Prop)  : Prop :=
  if (decide ((x45 : Int) < x49)) = true then (0 ≤ (x45 : Int) ∧ (x45 : Int) < ((s48l : Nat) : Int) ∧ ∃ b50, s48a = some b50 ∧ ∃ s51 : ByteArray, ∃ s52 : ByteArray, rd w (b50.add ((x45 : Int).toNat * 2)) (.agg #[.string s51, .string s52]) ∧ let w53 : World := w.alloc (.cells #[.string (ByteArray.mk #[]), .string (ByteArray.mk #[])] 75)
  (.agg #[.string s51, .string s52] : Value).cells.size = 2 ∧ wrOk w53 (⟨w.heap.size, 0, none⟩ : Addr) (.agg #[.string s51, .string s52]) ∧ let w54 : World := wr w53 (⟨w.heap.size, 0, none⟩ : Addr) (.agg #[.string s51, .string s52])
  let w55 : World := w54.drew
  ∃ s56a : Option Addr, ∃ s56l : Nat, ∃ s56c : Nat, rd w55 (c47.add 1) (.slice s56a s56l s56c) ∧ ∃ s57 : ByteArray, rd w55 (⟨w.heap.size, 0, none⟩ : Addr) (.string s57) ∧ ∃ s58 : ByteArray, rd w55 ((⟨w.heap.size, 0, none⟩ : Addr).add 1) (.string s58) ∧ ∃ a59, s46 = some a59 ∧ ∃ m60 : Option Nat, rd w55 (a59.add 2) (.map m60) ∧ ∃ s61 : ByteArray, ∃ s62 : ByteArray, rd w55 (⟨w.heap.size, 0, none⟩ : Addr) (.agg #[.string s61, .string s62]) ∧ runV Try.prog (Instr.lookup 60 (.map m60) (.agg #[.string s61, .string s62]) false) w55 (fun r63 w64 => ∃ s65 : ByteArray, r63 = .string s65 ∧ (rd w64 ((⟨w.heap.size, 0, none⟩ : Addr).add 1) (.string s58) ∧ rd w64 (⟨w.heap.size, 0, none⟩ : Addr) (.string s57) ∧ rd w64 (c47.add 1) (.slice s56a s56l s56c) ∧ True) ∧ let w66 : World := w64.alloc (.cells #[.string s57, .string s58, .string s65] 77)
  (rd w66 (c47.add 1) (.slice s56a s56l s56c) ∧ True) ∧ runV Try.prog (Builtin.append_ #[30, 30] 30 #[.slice s56a s56l s56c, .slice (some (⟨w64.heap.size, 0, none⟩ : Addr)) 1 1]) w66 (fun r67 w68 => ∃ s69a : Option Addr, ∃ s69l : Nat, ∃ s69c : Nat, r67 = .slice s69a s69l s69c ∧ (True) ∧ (.slice s69a s69l s69c : Value).cells.size = 1 ∧ wrOk w68 (c47.add 1) (.slice s69a s69l s69c) ∧ let w70 : World := wr w68 (c47.add 1) (.slice s69a s69l s69c)
  (True) ∧ X (IntKind.wrap .i64 ((x45 : Int) + 1)) w70) Kp) Kp) else (Kn  w)

def T_conf_Store_Config_2 (x45 : Int) (s46 : Option Addr) (c47 : Addr) (s48a : Option Addr) (s48l : Nat) (s48c : Nat) (x49 : Int) (w : World) (Kn : World → Prop) (Kp : List PanicEntry → World → Prop) : Prop :=
  ∀ X : Int → World → Prop, (∀ (x45 : Int) (w : World), T_conf_Store_Config_2_body X x45 s46 c47 s48a s48l s48c x49 w Kn Kp → X x45 w) → X x45 w

def T_conf_Store_Config_2_outs : Exit → Option (List (Nat × Value)) := fun x => match x with | .normal => some [] | .panic _ => some [] | _ => none

def T_conf_Store_Config_2_ks : Nat → Bool := ksOf [7, 45, 46, 47, 48, 49, 50, 51, 52, 53, 54, 55, 56, 57, 58, 59, 60, 61, 62, 63, 64, 65]

def H_conf_Store_Config_2 : Env → World → QT → Prop := unitHook 67 T_conf_Store_Config_2_ks [(45, .int .i64 0), (0, .pointer none), (3, .pointer (some ⟨0, 0, none⟩)), (43, .slice none 0 0), (44, .int .i64 0)] T_conf_Store_Config_2_outs fun l w C => match l with | [v0, v1, v2, v3, v4] => T_conf_Store_Config_2 (pInt v0) (pPtr v1) (pAddr v2) (pA v3) (pL v3) (pC v3) (pInt v4) w (fun w => C .normal [] w) (fun ch w => C (.panic ch) [] w) | _ => False

theorem T_conf_Store_Config_2_hl : allP (hokL Try.prog (hookAt []) (at_ (bodyOf Try.f9) [1, 1, 1, 1, 0, 1, 0, 0]) 500) = (True) := by kernel_rfl
theorem T_conf_Store_Config_2_hok : HOk Try.prog (hookAt []) (at_ (bodyOf Try.f9) [1, 1, 1, 1, 0, 1, 0, 0]) 500 := HOk_of _ _ (by rw [T_conf_Store_Config_2_hl]; exact trivial)

theorem T_conf_Store_Config_2_eq (C : Conts) (X : List Value → World → Prop) (x45 : Int) (s46 : Option Addr) (c47 : Addr) (s48a : Option Addr) (s48l : Nat) (s48c : Nat) (x49 : Int) (w : World) : vcCode Try.prog (hookAt []) (at_ (bodyOf Try.f9) [1, 1, 1, 1, 0, 1, 0, 0]) 500 ⟨[(45, .int .i64 x45)] ++ [(0, .pointer s46), (3, .pointer (some c47)), (43, .slice s48a s48l s48c), (44, .int .i64 x49)], 67, []⟩ w (seqQ (fun e w => takeAll e [(45, .int .i64 0)] fun l => X l w) (blockQ 2 (unitQ T_conf_Store_Config_2_outs C))) = T_conf_Store_Config_2_body (fun x45 w => X [.int .i64 x45] w) x45 s46 c47 s48a s48l s48c x49 w (fun w => C .normal [] w) (fun ch w => C (.panic ch) [] w) := by kernel_rfl

theorem T_conf_Store_Config_2_ok : UnitOk Try.prog H_conf_Store_Config_2 (at_ (bodyOf Try.f9) [1, 1, 1, 1, 0, 1]) 125 := by
  have hc : at_ (bodyOf Try.f9) [1, 1, 1, 1, 0, 1] = .block 2 (.loop (at_ (bodyOf Try.f9) [1, 1, 1, 1, 0, 1, 0, 0])) := by kernel_rfl
  rw [hc]
  refine loop_unit_ok (carr := [(45, .int .i64 0)]) (fix := [(0, .pointer none), (3, .pointer (some ⟨0, 0, none⟩)), (43, .slice none 0 0), (44, .int .i64 0)]) (ks := T_conf_Store_Config_2_ks) (H := (hookAt [])) (B := fun C X l u w => match l, u with | [v0], [v1, v2, v3, v4] => T_conf_Store_Config_2_body (fun x45 w => X [.int .i64 x45] w) (pInt v0) (pPtr v1) (pAddr v2) (pA v3) (pL v3) (pC v3) (pInt v4) w (fun w => C .normal [] w) (fun ch w => C (.panic ch) [] w) | _, _ => False) (by kernel_rfl) (by kernel_rfl) T_conf_Store_Config_2_hok ?_ ?_
  · intro C X l u w hl hu
    obtain ⟨v0, l_v0, rfl, k_v0, hl_v0⟩ := Kinds.cons_ hl
    obtain ⟨x45, rfl⟩ := kind_int k_v0
    obtain rfl := Kinds.nil_ hl_v0
    obtain ⟨v1, l_v1, rfl, k_v1, hu_v1⟩ := Kinds.cons_ hu
    obtain ⟨s46, rfl⟩ := kind_pointer k_v1
    obtain ⟨v2, l_v2, rfl, k_v2, hu_v2⟩ := Kinds.cons_ hu_v1
    obtain ⟨c47, rfl⟩ := kind_addr k_v2
    obtain ⟨v3, l_v3, rfl, k_v3, hu_v3⟩ := Kinds.cons_ hu_v2
    obtain ⟨s48a, s48l, s48c, rfl⟩ := kind_slice k_v3
    obtain ⟨v4, l_v4, rfl, k_v4, hu_v4⟩ := Kinds.cons_ hu_v3
    obtain ⟨x49, rfl⟩ := kind_int k_v4
    obtain rfl := Kinds.nil_ hu_v4
    exact T_conf_Store_Config_2_eq C X x45 s46 c47 s48a s48l s48c x49 w
  · intro l u w C hl hu
    obtain ⟨v0, l_v0, rfl, k_v0, hl_v0⟩ := Kinds.cons_ hl
    obtain ⟨x45, rfl⟩ := kind_int k_v0
    obtain rfl := Kinds.nil_ hl_v0
    obtain ⟨v1, l_v1, rfl, k_v1, hu_v1⟩ := Kinds.cons_ hu
    obtain ⟨s46, rfl⟩ := kind_pointer k_v1
    obtain ⟨v2, l_v2, rfl, k_v2, hu_v2⟩ := Kinds.cons_ hu_v1
    obtain ⟨c47, rfl⟩ := kind_addr k_v2
    obtain ⟨v3, l_v3, rfl, k_v3, hu_v3⟩ := Kinds.cons_ hu_v2
    obtain ⟨s48a, s48l, s48c, rfl⟩ := kind_slice k_v3
    obtain ⟨v4, l_v4, rfl, k_v4, hu_v4⟩ := Kinds.cons_ hu_v3
    obtain ⟨x49, rfl⟩ := kind_int k_v4
    obtain rfl := Kinds.nil_ hu_v4
    constructor
    · intro h X hX
      exact h (fun x45 w => X [.int .i64 x45] w) (fun x45 w hb => hX [.int .i64 x45] w ⟨rfl, trivial⟩ hb)
    · intro h X hX
      exact h (fun l w => match l with | [v0] => X (pInt v0) w | _ => True) (fun l w hl hb => by
        obtain ⟨v0, l_v0, rfl, k_v0, hl_v0⟩ := Kinds.cons_ hl
        obtain ⟨x45, rfl⟩ := kind_int k_v0
        obtain rfl := Kinds.nil_ hl_v0
        exact hX x45 w hb)

def T_conf_Store_Config (s1 : Option Addr) (w : World) (R : Ending → World → Prop) : Prop :=
  let w2 : World := w.alloc (.cells #[.int .i64 0, .slice none 0 0, .slice none 0 0] 33)
  if s1.isNone = true then ((.agg #[.int .i64 0, .slice none 0 0, .slice none 0 0] : Value).cells.size = 3 ∧ wrOk w2 (⟨w.heap.size, 0, none⟩ : Addr) (.agg #[.int .i64 0, .slice none 0 0, .slice none 0 0]) ∧ let w3 : World := wr w2 (⟨w.heap.size, 0, none⟩ : Addr) (.agg #[.int .i64 0, .slice none 0 0, .slice none 0 0])
  ∃ x4 : Int, ∃ s5a : Option Addr, ∃ s5l : Nat, ∃ s5c : Nat, ∃ s6a : Option Addr, ∃ s6l : Nat, ∃ s6c : Nat, rd w3 (⟨w.heap.size, 0, none⟩ : Addr) (.agg #[.int .i64 x4, .slice s5a s5l s5c, .slice s6a s6l s6c]) ∧ R (.returned (.agg #[.int .i64 x4, .slice s5a s5l s5c, .slice s6a s6l s6c])) w3) else (∃ a7, s1 = some a7 ∧ ∃ x8 : Int, rd w2 a7 (.int .i64 x8) ∧ let w9 : World := w2.alloc (.cells #[.int .i64 0, .slice none 0 0, .slice none 0 0] 33)
  (.agg #[.int .i64 x8, .slice none 0 0, .slice none 0 0] : Value).cells.size = 3 ∧ wrOk w9 (⟨w2.heap.size, 0, none⟩ : Addr) (.agg #[.int .i64 x8, .slice none 0 0, .slice none 0 0]) ∧ let w10 : World := wr w9 (⟨w2.heap.size, 0, none⟩ : Addr) (.agg #[.int .i64 x8, .slice none 0 0, .slice none 0 0])
  ∃ a11, s1 = some a11 ∧ ∃ m12 : Option Nat, rd w10 (a11.add 1) (.map m12) ∧ Calls Try.prog 23 #[.map m12] w10 (ret (fun r13 w14 => ∃ u15 : Value, one u15 = true ∧ r13 = u15 ∧ Calls Try.prog 22 #[u15] w14 (ret (fun r16 w17 => ∃ s18a : Option Addr, ∃ s18l : Nat, ∃ s18c : Nat, r16 = .slice s18a s18l s18c ∧ T_conf_Store_Config_1 0 s1 (⟨w2.heap.size, 0, none⟩ : Addr) s18a s18l s18c ((s18l : Nat) : Int) w17 (fun w41 => Calls Try.prog 25 #[.pointer s1] w41 (ret (fun r42 w43 => ∃ s44a : Option Addr, ∃ s44l : Nat, ∃ s44c : Nat, r42 = .slice s44a s44l s44c ∧ T_conf_Store_Config_2 0 s1 (⟨w2.heap.size, 0, none⟩ : Addr) s44a s44l s44c ((s44l : Nat) : Int) w43 (fun w71 => ∃ x72 : Int, ∃ s73a : Option Addr, ∃ s73l : Nat, ∃ s73c : Nat, ∃ s74a : Option Addr, ∃ s74l : Nat, ∃ s74c : Nat, rd w71 (⟨w2.heap.size, 0, none⟩ : Addr) (.agg #[.int .i64 x72, .slice s73a s73l s73c, .slice s74a s74l s74c]) ∧ (.agg #[.int .i64 x72, .slice s73a s73l s73c, .slice s74a s74l s74c] : Value).cells.size = 3 ∧ wrOk w71 (⟨w.heap.size, 0, none⟩ : Addr) (.agg #[.int .i64 x72, .slice s73a s73l s73c, .slice s74a s74l s74c]) ∧ let w75 : World := wr w71 (⟨w.heap.size, 0, none⟩ : Addr) (.agg #[.int .i64 x72, .slice s73a s73l s73c, .slice s74a s74l s74c])
  ∃ x76 : Int, ∃ s77a : Option Addr, ∃ s77l : Nat, ∃ s77c : Nat, ∃ s78a : Option Addr, ∃ s78l : Nat, ∃ s78c : Nat, rd w75 (⟨w.heap.size, 0, none⟩ : Addr) (.agg #[.int .i64 x76, .slice s77a s77l s77c, .slice s78a s78l s78c]) ∧ R (.returned (.agg #[.int .i64 x76, .slice s77a s77l s77c, .slice s78a s78l s78c])) w75) (pan R)) (pan R))) (pan R)) (pan R))) (pan R)))

theorem T_conf_Store_Config_hl : allP (hokL Try.prog (hookAt [(61, H_conf_Store_Config_1), (125, H_conf_Store_Config_2)]) (bodyOf Try.f9) 1) = (UnitOk Try.prog H_conf_Store_Config_1 (at_ (bodyOf Try.f9) [1, 1, 1, 0, 1]) 61 ∧ UnitOk Try.prog H_conf_Store_Config_2 (at_ (bodyOf Try.f9) [1, 1, 1, 1, 0, 1]) 125 ∧ True) := by kernel_rfl

theorem T_conf_Store_Config_eq (s1 : Option Addr) (w : World) (R : Ending → World → Prop) : vcCode Try.prog (hookAt [(61, H_conf_Store_Config_1), (125, H_conf_Store_Config_2)]) (bodyOf Try.f9) 1 ⟨argEnv [.pointer s1] 0, Try.f9.ntmps, []⟩ w (finQ Try.prog Try.f9.results.toList R) = T_conf_Store_Config s1 w R := by kernel_rfl

theorem T_conf_Store_Config_b : Try.f9.body = some (bodyOf Try.f9) := by kernel_rfl
theorem T_conf_Store_Config_s : (quietSel (bodyOf Try.f9) && Nat.ble 1 Try.f9.ntmps) = true := by kernel_rfl

theorem C_conf_Store_Config {s1 : Option Addr} {w : World} {R : Ending → World → Prop} (h : T_conf_Store_Config s1 w R) : Calls Try.prog 9 #[.pointer s1] w R :=
  calls_of_text (args := [.pointer s1]) mixed Try.func9 T_conf_Store_Config_b T_conf_Store_Config_s (HOk_of _ _ (by rw [T_conf_Store_Config_hl]; exact ⟨T_conf_Store_Config_1_ok, T_conf_Store_Config_2_ok, trivial⟩)) (by rw [T_conf_Store_Config_eq]; exact h)

/-! (*tollgate/conf.Store).Do -/
def T_conf_Store_Do_1 (s32 : Option Addr) (c33 : Addr) (a34 : Addr) (b35 : Bool) (w : World) (Kn : World → Prop) (Kr : World → Prop) (Kp : List PanicEntry → World → Prop) : Prop :=
  if b35 = true then (let w36 : World := w.drew
  ∃ a37, s32 = some a37 ∧ ∃ m38 : Option Nat, rd w36 (a37.add 3) (.map m38) ∧ ∃ x39 : Int, rd w36 (c33.add 1) (.int .i64 x39) ∧ (runV Try.prog (Instr.lookup 61 (.map m38) (.int .i64 x39) false) w36 (fun r40 w41 => ∃ x42 : Int, ∃ x43 : Int, ∃ x44 : Int, r40 = .agg #[.int .i64 x42, .int .i64 x43, .int .i64 x44] ∧ (True) ∧ let w45 : World := w41.alloc (.cells #[.int .i64 0, .int .i64 0, .int .i64 0] 79)
  (True) ∧ (.agg #[.int .i64 x42, .int .i64 x43, .int .i64 x44] : Value).cells.size = 3 ∧ wrOk w45 (⟨w41.heap.size, 0, none⟩ : Addr) (.agg #[.int .i64 x42, .int .i64 x43, .int .i64 x44]) ∧ let w46 : World := wr w45 (⟨w41.heap.size, 0, none⟩ : Addr) (.agg #[.int .i64 x42, .int .i64 x43, .int .i64 x44])
  (True) ∧ ∃ x47 : Int, rd w46 (c33.add 2) (.int .i64 x47) ∧ ∃ x48 : Int, rd w46 (⟨w41.heap.size, 0, none⟩ : Addr) (.int .i64 x48) ∧ if ((x47 : Int) == x48) = true then (∃ x49 : Int, ∃ x50 : Int, rd w46 ((⟨w41.heap.size, 0, none⟩ : Addr).add 1) (.agg #[.int .i64 x49, .int .i64 x50]) ∧ (.agg #[.int .i64 x49, .int .i64 x50] : Value).cells.size = 2 ∧ wrOk w46 a34 (.agg #[.int .i64 x49, .int .i64 x50]) ∧ let w51 : World := wr w46 a34 (.agg #[.int .i64 x49, .int .i64 x50])
  Kr  w51) else (∃ x52 : Int, rd w46 (c33.add 2) (.int .i64 x52) ∧ ∃ x53 : Int, rd w46 (⟨w41.heap.size, 0, none⟩ : Addr) (.int .i64 x53) ∧ if (decide ((x52 : Int) < x53)) = true then (∃ a54, s32 = some a54 ∧ ∃ x55 : Int, rd w46 a54 (.int .i64 x55) ∧ (.agg #[.int .i64 12, .int .i64 x55] : Value).cells.size = 2 ∧ wrOk w46 a34 (.agg #[.int .i64 12, .int .i64 x55]) ∧ let w56 : World := wr w46 a34 (.agg #[.int .i64 12, .int .i64 x55])
  Kr  w56) else (Kn  w46))) Kp) ∧ (let w57 : World := w36.alloc (.cells #[.int .i64 0, .int .i64 0, .int .i64 0] 79)
  (rd w57 (c33.add 1) (.int .i64 x39) ∧ rd w57 (a37.add 3) (.map m38) ∧ True) ∧ runV Try.prog (Instr.lookup 61 (.map m38) (.int .i64 x39) false) w57 (fun r58 w59 => ∃ x60 : Int, ∃ x61 : Int, ∃ x62 : Int, r58 = .agg #[.int .i64 x60, .int .i64 x61, .int .i64 x62] ∧ (True) ∧ (.agg #[.int .i64 x60, .int .i64 x61, .int .i64 x62] : Value).cells.size = 3 ∧ wrOk w59 (⟨w36.heap.size, 0, none⟩ : Addr) (.agg #[.int .i64 x60, .int .i64 x61, .int .i64 x62]) ∧ let w63 : World := wr w59 (⟨w36.heap.size, 0, none⟩ : Addr) (.agg #[.int .i64 x60, .int .i64 x61, .int .i64 x62])
  (True) ∧ ∃ x64 : Int, rd w63 (c33.add 2) (.int .i64 x64) ∧ ∃ x65 : Int, rd w63 (⟨w36.heap.size, 0, none⟩ : Addr) (.int .i64 x65) ∧ if ((x64 : Int) == x65) = true then (∃ x66 : Int, ∃ x67 : Int, rd w63 ((⟨w36.heap.size, 0, none⟩ : Addr).add 1) (.agg #[.int .i64 x66, .int .i64 x67]) ∧ (.agg #[.int .i64 x66, .int .i64 x67] : Value).cells.size = 2 ∧ wrOk w63 a34 (.agg #[.int .i64 x66, .int .i64 x67]) ∧ let w68 : World := wr w63 a34 (.agg #[.int .i64 x66, .int .i64 x67])
  Kr  w68) else (∃ x69 : Int, rd w63 (c33.add 2) (.int .i64 x69) ∧ ∃ x70 : Int, rd w63 (⟨w36.heap.size, 0, none⟩ : Addr) (.int .i64 x70) ∧ if (decide ((x69 : Int) < x70)) = true then (∃ a71, s32 = some a71 ∧ ∃ x72 : Int, rd w63 a71 (.int .i64 x72) ∧ (.agg #[.int .i64 12, .int .i64 x72] : Value).cells.size = 2 ∧ wrOk w63 a34 (.agg #[.int .i64 12, .int .i64 x72]) ∧ let w73 : World := wr w63 a34 (.agg #[.int .i64 12, .int .i64 x72])
  Kr  w73) else (Kn  w63))) Kp)) else (Kn  w)

def T_conf_Store_Do_1_outs : Exit → Option (List (Nat × Value)) := fun x => match x with | .normal => some [] | .ret => some [] | .panic _ => some [] | _ => none

def T_conf_Store_Do_1_ks : Nat → Bool := ksOf [6, 25, 26, 27, 28, 29, 30, 31, 32, 33, 34, 35, 36, 37, 38, 39, 40, 41, 42, 43, 44, 45, 46, 47, 48, 49, 50]

def H_conf_Store_Do_1 : Env → World → QT → Prop := unitHook 102 T_conf_Store_Do_1_ks [(0, .pointer none), (3, .pointer (some ⟨0, 0, none⟩)), (4, .pointer (some ⟨0, 0, none⟩)), (24, .bool false)] T_conf_Store_Do_1_outs fun l w C => match l with | [v0, v1, v2, v3] => T_conf_Store_Do_1 (pPtr v0) (pAddr v1) (pAddr v2) (pBool v3) w (fun w => C .normal [] w) (fun w => C .ret [] w) (fun ch w => C (.panic ch) [] w) | _ => False

theorem T_conf_Store_Do_1_hl : allP (hokL Try.prog (hookAt []) (at_ (bodyOf Try.f10) [1, 1, 1, 0, 1]) 61) = (True) := by kernel_rfl
theorem T_conf_Store_Do_1_hok : HOk Try.prog (hookAt []) (at_ (bodyOf Try.f10) [1, 1, 1, 0, 1]) 61 := HOk_of _ _ (by rw [T_conf_Store_Do_1_hl]; exact trivial)

theorem T_conf_Store_Do_1_eq (C : Conts) (s32 : Option Addr) (c33 : Addr) (a34 : Addr) (b35 : Bool) (w : World) : vcCode Try.prog (hookAt []) (at_ (bodyOf Try.f10) [1, 1, 1, 0, 1]) 61 ⟨[(0, .pointer s32), (3, .pointer (some c33)), (4, .pointer (some a34)), (24, .bool b35)], 102, []⟩ w (unitQ T_conf_Store_Do_1_outs C) = T_conf_Store_Do_1 s32 c33 a34 b35 w (fun w => C .normal [] w) (fun w => C .ret [] w) (fun ch w => C (.panic ch) [] w) := by kernel_rfl

theorem T_conf_Store_Do_1_ok : UnitOk Try.prog H_conf_Store_Do_1 (at_ (bodyOf Try.f10) [1, 1, 1, 0, 1]) 61 := unit_ok (H := (hookAt [])) (by kernel_rfl) T_conf_Store_Do_1_hok fun l w C hk => by
    obtain ⟨v0, l_v0, rfl, k_v0, hk_v0⟩ := Kinds.cons_ hk
    obtain ⟨s32, rfl⟩ := kind_pointer k_v0
    obtain ⟨v1, l_v1, rfl, k_v1, hk_v1⟩ := Kinds.cons_ hk_v0
    obtain ⟨c33, rfl⟩ := kind_addr k_v1
    obtain ⟨v2, l_v2, rfl, k_v2, hk_v2⟩ := Kinds.cons_ hk_v1
    obtain ⟨a34, rfl⟩ := kind_addr k_v2
    obtain ⟨v3, l_v3, rfl, k_v3, hk_v3⟩ := Kinds.cons_ hk_v2
    obtain ⟨b35, rfl⟩ := kind_bool k_v3
    obtain rfl := Kinds.nil_ hk_v3
    exact T_conf_Store_Do_1_eq C s32 c33 a34 b35 w

def T_conf_Store_Do_3 (s78 : Option Addr) (c79 : Addr) (w : World) (Kn : Bool → World → Prop) (Kp : List PanicEntry → World → Prop) : Prop :=
  let w80 : World := w.drew
  ∃ x81 : Int, rd w80 (c79.add 3) (.int .i64 x81) ∧ if (decide ((x81 : Int) ≥ 0)) = true then (∃ x82 : Int, rd w80 (c79.add 3) (.int .i64 x82) ∧ ∃ a83, s78 = some a83 ∧ ∃ x84 : Int, rd w80 a83 (.int .i64 x84) ∧ Kn ((x82 : Int) != x84) w80) else (Kn false w80)

def T_conf_Store_Do_3_outs : Exit → Option (List (Nat × Value)) := fun x => match x with | .normal => some [(54, .bool false)] | .panic _ => some [] | _ => none

def T_conf_Store_Do_3_ks : Nat → Bool := ksOf [54, 55, 56, 57, 58, 59, 60, 61, 62, 63, 64, 65, 66]

def H_conf_Store_Do_3 : Env → World → QT → Prop := unitHook 102 T_conf_Store_Do_3_ks [(0, .pointer none), (3, .pointer (some ⟨0, 0, none⟩))] T_conf_Store_Do_3_outs fun l w C => match l with | [v0, v1] => T_conf_Store_Do_3 (pPtr v0) (pAddr v1) w (fun b86 w => C .normal [.bool b86] w) (fun ch w => C (.panic ch) [] w) | _ => False

theorem T_conf_Store_Do_3_hl : allP (hokL Try.prog (hookAt []) (at_ (bodyOf Try.f10) [1, 1, 1, 1, 1, 0, 0, 0]) 504) = (True) := by kernel_rfl
theorem T_conf_Store_Do_3_hok : HOk Try.prog (hookAt []) (at_ (bodyOf Try.f10) [1, 1, 1, 1, 1, 0, 0, 0]) 504 := HOk_of _ _ (by rw [T_conf_Store_Do_3_hl]; exact trivial)

theorem T_conf_Store_Do_3_eq (C : Conts) (s78 : Option Addr) (c79 : Addr) (w : World) : vcCode Try.prog (hookAt []) (at_ (bodyOf Try.f10) [1, 1, 1, 1, 1, 0, 0, 0]) 504 ⟨[(0, .pointer s78), (3, .pointer (some c79))], 102, []⟩ w (unitQ T_conf_Store_Do_3_outs C) = T_conf_Store_Do_3 s78 c79 w (fun b87 w => C .normal [.bool b87] w) (fun ch w => C (.panic ch) [] w) := by kernel_rfl

theorem T_conf_Store_Do_3_ok : UnitOk Try.prog H_conf_Store_Do_3 (at_ (bodyOf Try.f10) [1, 1, 1, 1, 1, 0, 0, 0]) 504 := unit_ok (H := (hookAt [])) (by kernel_rfl) T_conf_Store_Do_3_hok fun l w C hk => by
    obtain ⟨v0, l_v0, rfl, k_v0, hk_v0⟩ := Kinds.cons_ hk
    obtain ⟨s78, rfl⟩ := kind_pointer k_v0
    obtain ⟨v1, l_v1, rfl, k_v1, hk_v1⟩ := Kinds.cons_ hk_v0
    obtain ⟨c79, rfl⟩ := kind_addr k_v1
    obtain rfl := Kinds.nil_ hk_v1
    exact T_conf_Store_Do_3_eq C s78 c79 w

def T_conf_Store_Do_2 (s75 : Option Addr) (c76 : Addr) (e77 : Int) (w : World) (Kn : Int → World → Prop) (Kp : List PanicEntry → World → Prop) : Prop :=
  T_conf_Store_Do_3 s75 c76 w (fun b88 w89 => if b88 = true then (Kn e77 w89) else (∃ a90, s75 = some a90 ∧ ∃ x91 : Int, rd w89 a90 (.int .i64 x91) ∧ if ((x91 : Int) == 1099511627776) = true then (Kn 6 w89) else (∃ x92 : Int, ∃ x93 : Int, ∃ x94 : Int, ∃ x95 : Int, ∃ s96 : ByteArray, ∃ s97 : ByteArray, ∃ s98 : ByteArray, ∃ s99a : Option Addr, ∃ s99l : Nat, ∃ s99c : Nat, rd w89 c76 (.agg #[.int .i64 x92, .int .i64 x93, .int .i64 x94, .int .i64 x95, .string s96, .string s97, .string s98, .slice s99a s99l s99c]) ∧ Calls Try.prog 26 #[.pointer s75, .agg #[.int .i64 x92, .int .i64 x93, .int .i64 x94, .int .i64 x95, .string s96, .string s97, .string s98, .slice s99a s99l s99c]] w89 (ret (fun r100 w101 => ∃ x102 : Int, r100 = .int .i64 x102 ∧ Kn x102 w101) Kp)))) Kp

def T_conf_Store_Do_2_outs : Exit → Option (List (Nat × Value)) := fun x => match x with | .normal => some [(7, .int .i64 0)] | .panic _ => some [] | _ => none

def T_conf_Store_Do_2_ks : Nat → Bool := ksOf [7, 51, 52, 53, 54, 55, 56, 57, 58, 59, 60, 61, 62, 63, 64, 65, 66, 67, 68, 69, 70, 71, 72]

def H_conf_Store_Do_2 : Env → World → QT → Prop := unitHook 102 T_conf_Store_Do_2_ks [(0, .pointer none), (3, .pointer (some ⟨0, 0, none⟩)), (7, .int .i64 0)] T_conf_Store_Do_2_outs fun l w C => match l with | [v0, v1, v2] => T_conf_Store_Do_2 (pPtr v0) (pAddr v1) (pInt v2) w (fun e104 w => C .normal [.int .i64 e104] w) (fun ch w => C (.panic ch) [] w) | _ => False

theorem T_conf_Store_Do_2_hl : allP (hokL Try.prog (hookAt [(504, H_conf_Store_Do_3)]) (at_ (bodyOf Try.f10) [1, 1, 1, 1, 1, 0]) 126) = (UnitOk Try.prog H_conf_Store_Do_3 (at_ (bodyOf Try.f10) [1, 1, 1, 1, 1, 0, 0, 0]) 504 ∧ True) := by kernel_rfl
theorem T_conf_Store_Do_2_hok : HOk Try.prog (hookAt [(504, H_conf_Store_Do_3)]) (at_ (bodyOf Try.f10) [1, 1, 1, 1, 1, 0]) 126 := HOk_of _ _ (by rw [T_conf_Store_Do_2_hl]; exact ⟨T_conf_Store_Do_3_ok, trivial⟩)

theorem T_conf_Store_Do_2_eq (C : Conts) (s75 : Option Addr) (c76 : Addr) (e77 : Int) (w : World) : vcCode Try.prog (hookAt [(504, H_conf_Store_Do_3)]) (at_ (bodyOf Try.f10) [1, 1, 1, 1, 1, 0]) 126 ⟨[(0, .pointer s75), (3, .pointer (some c76)), (7, .int .i64 e77)], 102, []⟩ w (unitQ T_conf_Store_Do_2_outs C) = T_conf_Store_Do_2 s75 c76 e77 w (fun e105 w => C .normal [.int .i64 e105] w) (fun ch w => C (.panic ch) [] w) := by kernel_rfl

theorem T_conf_Store_Do_2_ok : UnitOk Try.prog H_conf_Store_Do_2 (at_ (bodyOf Try.f10) [1, 1, 1, 1, 1, 0]) 126 := unit_ok (H := (hookAt [(504, H_conf_Store_Do_3)])) (by kernel_rfl) T_conf_Store_Do_2_hok fun l w C hk => by
    obtain ⟨v0, l_v0, rfl, k_v0, hk_v0⟩ := Kinds.cons_ hk
    obtain ⟨s75, rfl⟩ := kind_pointer k_v0
    obtain ⟨v1, l_v1, rfl, k_v1, hk_v1⟩ := Kinds.cons_ hk_v0
    obtain ⟨c76, rfl⟩ := kind_addr k_v1
    obtain ⟨v2, l_v2, rfl, k_v2, hk_v2⟩ := Kinds.cons_ hk_v1
    obtain ⟨e77, rfl⟩ := kind_int k_v2
    obtain rfl := Kinds.nil_ hk_v2
    exact T_conf_Store_Do_2_eq C s75 c76 e77 w

def T_conf_Store_Do_4 (s108 : Option Addr) (b109 : Bool) (w : World) (Kn : World → Prop) (Kp : List PanicEntry → World → Prop) : Prop :=
  if b109 = true then (∃ a110, s108 = some a110 ∧ ∃ x111 : Int, rd w a110 (.int .i64 x111) ∧ ∃ a112, s108 = some a112 ∧ (.int .i64 (IntKind.wrap .i64 ((x111 : Int) + 1)) : Value).cells.size = 1 ∧ wrOk w a112 (.int .i64 (IntKind.wrap .i64 ((x111 : Int) + 1))) ∧ let w113 : World := wr w a112 (.int .i64 (IntKind.wrap .i64 ((x111 : Int) + 1)))
  Kn  w113) else (Kn  w)

def T_conf_Store_Do_4_outs : Exit → Option (List (Nat × Value)) := fun x => match x with | .normal => some [] | .panic _ => some [] | _ => none

def T_conf_Store_Do_4_ks : Nat → Bool := ksOf [75, 76, 77, 78, 79, 80, 81]

def H_conf_Store_Do_4 : Env → World → QT → Prop := unitHook 102 T_conf_Store_Do_4_ks [(0, .pointer none), (74, .bool false)] T_conf_Store_Do_4_outs fun l w C => match l with | [v0, v1] => T_conf_Store_Do_4 (pPtr v0) (pBool v1) w (fun w => C .normal [] w) (fun ch w => C (.panic ch) [] w) | _ => False

theorem T_conf_Store_Do_4_hl : allP (hokL Try.prog (hookAt []) (at_ (bodyOf Try.f10) [1, 1, 1, 1, 1, 1, 0, 1]) 509) = (True) := by kernel_rfl
theorem T_conf_Store_Do_4_hok : HOk Try.prog (hookAt []) (at_ (bodyOf Try.f10) [1, 1, 1, 1, 1, 1, 0, 1]) 509 := HOk_of _ _ (by rw [T_conf_Store_Do_4_hl]; exact trivial)

theorem T_conf_Store_Do_4_eq (C : Conts) (s108 : Option Addr) (b109 : Bool) (w : World) : vcCode Try.prog (hookAt []) (at_ (bodyOf Try.f10) [1, 1, 1, 1, 1, 1, 0, 1]) 509 ⟨[(0, .pointer s108), (74, .bool b109)], 102, []⟩ w (unitQ T_conf_Store_Do_4_outs C) = T_conf_Store_Do_4 s108 b109 w (fun w => C .normal [] w) (fun ch w => C (.panic ch) [] w) := by kernel_rfl

theorem T_conf_Store_Do_4_ok : UnitOk Try.prog H_conf_Store_Do_4 (at_ (bodyOf Try.f10) [1, 1, 1, 1, 1, 1, 0, 1]) 509 := unit_ok (H := (hookAt [])) (by kernel_rfl) T_conf_Store_Do_4_hok fun l w C hk => by
    obtain ⟨v0, l_v0, rfl, k_v0, hk_v0⟩ := Kinds.cons_ hk
    obtain ⟨s108, rfl⟩ := kind_pointer k_v0
    obtain ⟨v1, l_v1, rfl, k_v1, hk_v1⟩ := Kinds.cons_ hk_v0
    obtain ⟨b109, rfl⟩ := kind_bool k_v1
    obtain rfl := Kinds.nil_ hk_v1
    exact T_conf_Store_Do_4_eq C s108 b109 w

def T_conf_Store_Do (s1 : Option Addr) (x2 : Int) (x3 : Int) (x4 : Int) (x5 : Int) (s6 : ByteArray) (s7 : ByteArray) (s8 : ByteArray) (s9a : Option Addr) (s9l : Nat) (s9c : Nat) (w : World) (R : Ending → World → Prop) : Prop :=
  let w10 : World := w.alloc (.cells #[.int .i64 x2, .int .i64 x3, .int .i64 x4, .int .i64 x5, .string s6, .string s7, .string s8, .slice s9a s9l s9c] 28)
  let w11 : World := w10.alloc (.cells #[.int .i64 0, .int .i64 0] 37)
  if s1.isNone = true then ((.agg #[.int .i64 1, .int .i64 0] : Value).cells.size = 2 ∧ wrOk w11 (⟨w10.heap.size, 0, none⟩ : Addr) (.agg #[.int .i64 1, .int .i64 0]) ∧ let w12 : World := wr w11 (⟨w10.heap.size, 0, none⟩ : Addr) (.agg #[.int .i64 1, .int .i64 0])
  ∃ x13 : Int, ∃ x14 : Int, rd w12 (⟨w10.heap.size, 0, none⟩ : Addr) (.agg #[.int .i64 x13, .int .i64 x14]) ∧ R (.returned (.agg #[.int .i64 x13, .int .i64 x14])) w12) else (∃ x15 : Int, ∃ x16 : Int, ∃ x17 : Int, ∃ x18 : Int, ∃ s19 : ByteArray, ∃ s20 : ByteArray, ∃ s21 : ByteArray, ∃ s22a : Option Addr, ∃ s22l : Nat, ∃ s22c : Nat, rd w11 (⟨w.heap.size, 0, none⟩ : Addr) (.agg #[.int .i64 x15, .int .i64 x16, .int .i64 x17, .int .i64 x18, .string s19, .string s20, .string s21, .slice s22a s22l s22c]) ∧ Calls Try.prog 15 #[.agg #[.int .i64 x15, .int .i64 x16, .int .i64 x17, .int .i64 x18, .string s19, .string s20, .string s21, .slice s22a s22l s22c]] w11 (ret (fun r23 w24 => ∃ x25 : Int, r23 = .int .i64 x25 ∧ if ((x25 : Int) != 0) = true then (∃ a26, s1 = some a26 ∧ ∃ x27 : Int, rd w24 a26 (.int .i64 x27) ∧ (.agg #[.int .i64 x25, .int .i64 x27] : Value).cells.size = 2 ∧ wrOk w24 (⟨w10.heap.size, 0, none⟩ : Addr) (.agg #[.int .i64 x25, .int .i64 x27]) ∧ let w28 : World := wr w24 (⟨w10.heap.size, 0, none⟩ : Addr) (.agg #[.int .i64 x25, .int .i64 x27])
  ∃ x29 : Int, ∃ x30 : Int, rd w28 (⟨w10.heap.size, 0, none⟩ : Addr) (.agg #[.int .i64 x29, .int .i64 x30]) ∧ R (.returned (.agg #[.int .i64 x29, .int .i64 x30])) w28) else (∃ x31 : Int, rd w24 ((⟨w.heap.size, 0, none⟩ : Addr).add 1) (.int .i64 x31) ∧ T_conf_Store_Do_1 s1 (⟨w.heap.size, 0, none⟩ : Addr) (⟨w10.heap.size, 0, none⟩ : Addr) (decide ((x31 : Int) > 0)) w24 (fun w74 => T_conf_Store_Do_2 s1 (⟨w.heap.size, 0, none⟩ : Addr) 12 w74 (fun e106 w107 => T_conf_Store_Do_4 s1 ((e106 : Int) == 0) w107 (fun w114 => ∃ a115, s1 = some a115 ∧ ∃ x116 : Int, rd w114 a115 (.int .i64 x116) ∧ let w117 : World := w114.alloc (.cells #[.int .i64 0, .int .i64 0] 37)
  (.agg #[.int .i64 e106, .int .i64 x116] : Value).cells.size = 2 ∧ wrOk w117 (⟨w114.heap.size, 0, none⟩ : Addr) (.agg #[.int .i64 e106, .int .i64 x116]) ∧ let w118 : World := wr w117 (⟨w114.heap.size, 0, none⟩ : Addr) (.agg #[.int .i64 e106, .int .i64 x116])
  ∃ x119 : Int, rd w118 ((⟨w.heap.size, 0, none⟩ : Addr).add 1) (.int .i64 x119) ∧ if (decide ((x119 : Int) > 0)) = true then (let w120 : World := w118.drew
  ∃ a121, s1 = some a121 ∧ ∃ m122 : Option Nat, rd w120 (a121.add 3) (.map m122) ∧ ∃ x123 : Int, rd w120 ((⟨w.heap.size, 0, none⟩ : Addr).add 1) (.int .i64 x123) ∧ ∃ x124 : Int, rd w120 ((⟨w.heap.size, 0, none⟩ : Addr).add 2) (.int .i64 x124) ∧ ∃ x125 : Int, ∃ x126 : Int, rd w120 (⟨w114.heap.size, 0, none⟩ : Addr) (.agg #[.int .i64 x125, .int .i64 x126]) ∧ runV Try.prog (Instr.mapUpdate 61 (.map m122) (.int .i64 x123) (.agg #[.int .i64 x124, .int .i64 x125, .int .i64 x126])) w120 (fun _ w127 => (True) ∧ ∃ x128 : Int, ∃ x129 : Int, rd w127 (⟨w114.heap.size, 0, none⟩ : Addr) (.agg #[.int .i64 x128, .int .i64 x129]) ∧ (.agg #[.int .i64 x128, .int .i64 x129] : Value).cells.size = 2 ∧ wrOk w127 (⟨w10.heap.size, 0, none⟩ : Addr) (.agg #[.int .i64 x128, .int .i64 x129]) ∧ let w130 : World := wr w127 (⟨w10.heap.size, 0, none⟩ : Addr) (.agg #[.int .i64 x128, .int .i64 x129])
  ∃ x131 : Int, ∃ x132 : Int, rd w130 (⟨w10.heap.size, 0, none⟩ : Addr) (.agg #[.int .i64 x131, .int .i64 x132]) ∧ R (.returned (.agg #[.int .i64 x131, .int .i64 x132])) w130) (pan R)) else (∃ x133 : Int, ∃ x134 : Int, rd w118 (⟨w114.heap.size, 0, none⟩ : Addr) (.agg #[.int .i64 x133, .int .i64 x134]) ∧ (.agg #[.int .i64 x133, .int .i64 x134] : Value).cells.size = 2 ∧ wrOk w118 (⟨w10.heap.size, 0, none⟩ : Addr) (.agg #[.int .i64 x133, .int .i64 x134]) ∧ let w135 : World := wr w118 (⟨w10.heap.size, 0, none⟩ : Addr) (.agg #[.int .i64 x133, .int .i64 x134])
  ∃ x136 : Int, ∃ x137 : Int, rd w135 (⟨w10.heap.size, 0, none⟩ : Addr) (.agg #[.int .i64 x136, .int .i64 x137]) ∧ R (.returned (.agg #[.int .i64 x136, .int .i64 x137])) w135)) (pan R)) (pan R)) (fun w138 => ∃ x139 : Int, ∃ x140 : Int, rd w138 (⟨w10.heap.size, 0, none⟩ : Addr) (.agg #[.int .i64 x139, .int .i64 x140]) ∧ R (.returned (.agg #[.int .i64 x139, .int .i64 x140])) w138) (pan R))) (pan R)))

theorem T_conf_Store_Do_hl : allP (hokL Try.prog (hookAt [(61, H_conf_Store_Do_1), (126, H_conf_Store_Do_2), (509, H_conf_Store_Do_4)]) (bodyOf Try.f10) 1) = (UnitOk Try.prog H_conf_Store_Do_1 (at_ (bodyOf Try.f10) [1, 1, 1, 0, 1]) 61 ∧ UnitOk Try.prog H_conf_Store_Do_2 (at_ (bodyOf Try.f10) [1, 1, 1, 1, 1, 0]) 126 ∧ UnitOk Try.prog H_conf_Store_Do_4 (at_ (bodyOf Try.f10) [1, 1, 1, 1, 1, 1, 0, 1]) 509 ∧ True) := by kernel_rfl

theorem T_conf_Store_Do_eq (s1 : Option Addr) (x2 : Int) (x3 : Int) (x4 : Int) (x5 : Int) (s6 : ByteArray) (s7 : ByteArray) (s8 : ByteArray) (s9a : Option Addr) (s9l : Nat) (s9c : Nat) (w : World) (R : Ending → World → Prop) : vcCode Try.prog (hookAt [(61, H_conf_Store_Do_1), (126, H_conf_Store_Do_2), (509, H_conf_Store_Do_4)]) (bodyOf Try.f10) 1 ⟨argEnv [.pointer s1, .agg #[.int .i64 x2, .int .i64 x3, .int .i64 x4, .int .i64 x5, .string s6, .string s7, .string s8, .slice s9a s9l s9c]] 0, Try.f10.ntmps, []⟩ w (finQ Try.prog Try.f10.results.toList R) = T_conf_Store_Do s1 x2 x3 x4 x5 s6 s7 s8 s9a s9l s9c w R := by kernel_rfl

theorem T_conf_Store_Do_b : Try.f10.body = some (bodyOf Try.f10) := by kernel_rfl
theorem T_conf_Store_Do_s : (quietSel (bodyOf Try.f10) && Nat.ble 2 Try.f10.ntmps) = true := by kernel_rfl

theorem C_conf_Store_Do {s1 : Option Addr} {x2 : Int} {x3 : Int} {x4 : Int} {x5 : Int} {s6 : ByteArray} {s7 : ByteArray} {s8 : ByteArray} {s9a : Option Addr} {s9l : Nat} {s9c : Nat} {w : World} {R : Ending → World → Prop} (h : T_conf_Store_Do s1 x2 x3 x4 x5 s6 s7 s8 s9a s9l s9c w R) : Calls Try.prog 10 #[.pointer s1, .agg #[.int .i64 x2, .int .i64 x3, .int .i64 x4, .int .i64 x5, .string s6, .string s7, .string s8, .slice s9a s9l s9c]] w R :=
  calls_of_text (args := [.pointer s1, .agg #[.int .i64 x2, .int .i64 x3, .int .i64 x4, .int .i64 x5, .string s6, .string s7, .string s8, .slice s9a s9l s9c]]) mixed Try.func10 T_conf_Store_Do_b T_conf_Store_Do_s (HOk_of _ _ (by rw [T_conf_Store_Do_hl]; exact ⟨T_conf_Store_Do_1_ok, T_conf_Store_Do_2_ok, T_conf_Store_Do_4_ok, trivial⟩)) (by rw [T_conf_Store_Do_eq]; exact h)

/-! tollgate/conf.New -/
def T_conf_New  (w : World) (R : Ending → World → Prop) : Prop :=
  let w1 : World := w.alloc (.map #[] 0)
  let w2 : World := w1.alloc (.map #[] 0)
  let w3 : World := w2.alloc (.map #[] 0)
  let w4 : World := w3.alloc (.cells #[.int .i64 0, .map (some w.heap.size), .map (some w1.heap.size), .map (some w2.heap.size)] 63)
  R (.returned (.pointer (some (⟨w3.heap.size, 0, none⟩ : Addr)))) w4

theorem T_conf_New_hl : allP (hokL Try.prog (hookAt []) (bodyOf Try.f7) 1) = (True) := by kernel_rfl

theorem T_conf_New_eq  (w : World) (R : Ending → World → Prop) : vcCode Try.prog (hookAt []) (bodyOf Try.f7) 1 ⟨argEnv [] 0, Try.f7.ntmps, []⟩ w (finQ Try.prog Try.f7.results.toList R) = T_conf_New  w R := by kernel_rfl

theorem T_conf_New_b : Try.f7.body = some (bodyOf Try.f7) := by kernel_rfl
theorem T_conf_New_s : (quietSel (bodyOf Try.f7) && Nat.ble 0 Try.f7.ntmps) = true := by kernel_rfl

theorem C_conf_New  {w : World} {R : Ending → World → Prop} (h : T_conf_New  w R) : Calls Try.prog 7 #[] w R :=
  calls_of_text (args := []) mixed Try.func7 T_conf_New_b T_conf_New_s (HOk_of _ _ (by rw [T_conf_New_hl]; exact trivial)) (by rw [T_conf_New_eq]; exact h)

/-! slices.Sorted[string] -/
def T_slices_Sorted_string (seq1g : FuncId) (seq1i : Array Value) (seq1c : Array Value) (w : World) (R : Ending → World → Prop) : Prop :=
  Calls Try.prog 48 #[.func (.func seq1g) seq1i seq1c] w (ret (fun r2 w3 => ∃ s4a : Option Addr, ∃ s4l : Nat, ∃ s4c : Nat, r2 = .slice s4a s4l s4c ∧ Calls Try.prog 49 #[.slice s4a s4l s4c] w3 (ret (fun r5 w6 => r5 = .tuple #[] ∧ R (.returned (.slice s4a s4l s4c)) w6) (pan R))) (pan R))

theorem T_slices_Sorted_string_hl : allP (hokL Try.prog (hookAt []) (bodyOf Try.f22) 1) = (True) := by kernel_rfl

theorem T_slices_Sorted_string_eq (seq1g : FuncId) (seq1i : Array Value) (seq1c : Array Value) (w : World) (R : Ending → World → Prop) : vcCode Try.prog (hookAt []) (bodyOf Try.f22) 1 ⟨argEnv [.func (.func seq1g) seq1i seq1c] 0, Try.f22.ntmps, []⟩ w (finQ Try.prog Try.f22.results.toList R) = T_slices_Sorted_string seq1g seq1i seq1c w R := by kernel_rfl

theorem T_slices_Sorted_string_b : Try.f22.body = some (bodyOf Try.f22) := by kernel_rfl
theorem T_slices_Sorted_string_s : (quietSel (bodyOf Try.f22) && Nat.ble 1 Try.f22.ntmps) = true := by kernel_rfl

theorem C_slices_Sorted_string {seq1g : FuncId} {seq1i : Array Value} {seq1c : Array Value} {w : World} {R : Ending → World → Prop} (h : T_slices_Sorted_string seq1g seq1i seq1c w R) : Calls Try.prog 22 #[.func (.func seq1g) seq1i seq1c] w R :=
  calls_of_text (args := [.func (.func seq1g) seq1i seq1c]) mixed Try.func22 T_slices_Sorted_string_b T_slices_Sorted_string_s (HOk_of _ _ (by rw [T_slices_Sorted_string_hl]; exact trivial)) (by rw [T_slices_Sorted_string_eq]; exact h)

/-! maps.Keys[map[string][]tollgate/api.Target,string,[]tollgate/api.Target] -/
def T_maps_Keys_map_string_api_Target_string_api_Target (m1 : Option Nat) (w : World) (R : Ending → World → Prop) : Prop :=
  let w2 : World := w.alloc (.cells #[.map m1] 59)
  R (.returned (.func (.func 50) #[] #[.pointer (some (⟨w.heap.size, 0, none⟩ : Addr))])) w2

theorem T_maps_Keys_map_string_api_Target_string_api_Target_hl : allP (hokL Try.prog (hookAt []) (bodyOf Try.f23) 1) = (True) := by kernel_rfl

theorem T_maps_Keys_map_string_api_Target_string_api_Target_eq (m1 : Option Nat) (w : World) (R : Ending → World → Prop) : vcCode Try.prog (hookAt []) (bodyOf Try.f23) 1 ⟨argEnv [.map m1] 0, Try.f23.ntmps, []⟩ w (finQ Try.prog Try.f23.results.toList R) = T_maps_Keys_map_string_api_Target_string_api_Target m1 w R := by kernel_rfl

theorem T_maps_Keys_map_string_api_Target_string_api_Target_b : Try.f23.body = some (bodyOf Try.f23) := by kernel_rfl
theorem T_maps_Keys_map_string_api_Target_string_api_Target_s : (quietSel (bodyOf Try.f23) && Nat.ble 1 Try.f23.ntmps) = true := by kernel_rfl

theorem C_maps_Keys_map_string_api_Target_string_api_Target {m1 : Option Nat} {w : World} {R : Ending → World → Prop} (h : T_maps_Keys_map_string_api_Target_string_api_Target m1 w R) : Calls Try.prog 23 #[.map m1] w R :=
  calls_of_text (args := [.map m1]) mixed Try.func23 T_maps_Keys_map_string_api_Target_string_api_Target_b T_maps_Keys_map_string_api_Target_string_api_Target_s (HOk_of _ _ (by rw [T_maps_Keys_map_string_api_Target_string_api_Target_hl]; exact trivial)) (by rw [T_maps_Keys_map_string_api_Target_string_api_Target_eq]; exact h)

/-! slices.Clone[[]tollgate/api.Target,tollgate/api.Target] -/
def T_slices_Clone_api_Target (s1a : Option Addr) (s1l : Nat) (s1c : Nat) (w : World) (R : Ending → World → Prop) : Prop :=
  if s1a.isNone = true then (R (.returned (.slice none 0 0)) w) else (let w2 : World := w.alloc (.cells #[] 55)
  runV Try.prog (Builtin.append_ #[26, 26] 26 #[.slice (some (⟨w.heap.size, 0, none⟩ : Addr)) 0 0, .slice s1a s1l s1c]) w2 (fun r3 w4 => ∃ s5a : Option Addr, ∃ s5l : Nat, ∃ s5c : Nat, r3 = .slice s5a s5l s5c ∧ R (.returned (.slice s5a s5l s5c)) w4) (pan R))

theorem T_slices_Clone_api_Target_hl : allP (hokL Try.prog (hookAt []) (bodyOf Try.f24) 1) = (True) := by kernel_rfl

theorem T_slices_Clone_api_Target_eq (s1a : Option Addr) (s1l : Nat) (s1c : Nat) (w : World) (R : Ending → World → Prop) : vcCode Try.prog (hookAt []) (bodyOf Try.f24) 1 ⟨argEnv [.slice s1a s1l s1c] 0, Try.f24.ntmps, []⟩ w (finQ Try.prog Try.f24.results.toList R) = T_slices_Clone_api_Target s1a s1l s1c w R := by kernel_rfl

theorem T_slices_Clone_api_Target_b : Try.f24.body = some (bodyOf Try.f24) := by kernel_rfl
theorem T_slices_Clone_api_Target_s : (quietSel (bodyOf Try.f24) && Nat.ble 1 Try.f24.ntmps) = true := by kernel_rfl

theorem C_slices_Clone_api_Target {s1a : Option Addr} {s1l : Nat} {s1c : Nat} {w : World} {R : Ending → World → Prop} (h : T_slices_Clone_api_Target s1a s1l s1c w R) : Calls Try.prog 24 #[.slice s1a s1l s1c] w R :=
  calls_of_text (args := [.slice s1a s1l s1c]) mixed Try.func24 T_slices_Clone_api_Target_b T_slices_Clone_api_Target_s (HOk_of _ _ (by rw [T_slices_Clone_api_Target_hl]; exact trivial)) (by rw [T_slices_Clone_api_Target_eq]; exact h)

/-! (*tollgate/conf.Store).sorted -/
def T_conf_Store_sorted (s1 : Option Addr) (w : World) (R : Ending → World → Prop) : Prop :=
  ∃ a2, s1 = some a2 ∧ ∃ m3 : Option Nat, rd w (a2.add 2) (.map m3) ∧ Calls Try.prog 52 #[.map m3] w (ret (fun r4 w5 => ∃ u6 : Value, one u6 = true ∧ r4 = u6 ∧ Calls Try.prog 51 #[u6, .func (.func 53) #[] #[]] w5 (ret (fun r7 w8 => ∃ s9a : Option Addr, ∃ s9l : Nat, ∃ s9c : Nat, r7 = .slice s9a s9l s9c ∧ R (.returned (.slice s9a s9l s9c)) w8) (pan R))) (pan R))

theorem T_conf_Store_sorted_hl : allP (hokL Try.prog (hookAt []) (bodyOf Try.f25) 1) = (True) := by kernel_rfl

theorem T_conf_Store_sorted_eq (s1 : Option Addr) (w : World) (R : Ending → World → Prop) : vcCode Try.prog (hookAt []) (bodyOf Try.f25) 1 ⟨argEnv [.pointer s1] 0, Try.f25.ntmps, []⟩ w (finQ Try.prog Try.f25.results.toList R) = T_conf_Store_sorted s1 w R := by kernel_rfl

theorem T_conf_Store_sorted_b : Try.f25.body = some (bodyOf Try.f25) := by kernel_rfl
theorem T_conf_Store_sorted_s : (quietSel (bodyOf Try.f25) && Nat.ble 1 Try.f25.ntmps) = true := by kernel_rfl

theorem C_conf_Store_sorted {s1 : Option Addr} {w : World} {R : Ending → World → Prop} (h : T_conf_Store_sorted s1 w R) : Calls Try.prog 25 #[.pointer s1] w R :=
  calls_of_text (args := [.pointer s1]) mixed Try.func25 T_conf_Store_sorted_b T_conf_Store_sorted_s (HOk_of _ _ (by rw [T_conf_Store_sorted_hl]; exact trivial)) (by rw [T_conf_Store_sorted_eq]; exact h)

/-! (*tollgate/conf.Store).act -/
def T_conf_Store_act_1 (s33 : Option Addr) (pool34 : Bool) (w : World) (Kn : Bool → World → Prop) (Kp : List PanicEntry → World → Prop) : Prop :=
  if (!pool34) = true then (∃ a35, s33 = some a35 ∧ ∃ m36 : Option Nat, rd w (a35.add 1) (.map m36) ∧ runV Try.prog (Builtin.len_ #[59] 3 #[.map m36]) w (fun r37 w38 => ∃ x39 : Int, r37 = .int .i64 x39 ∧ Kn (decide ((x39 : Int) ≥ 32)) w38) Kp) else (Kn false w)

def T_conf_Store_act_1_outs : Exit → Option (List (Nat × Value)) := fun x => match x with | .normal => some [(56, .bool false)] | .panic _ => some [] | _ => none

def T_conf_Store_act_1_ks : Nat → Bool := ksOf [47, 48, 49, 50, 51, 52, 53, 54, 55, 56]

def H_conf_Store_act_1 : Env → World → QT → Prop := unitHook 144 T_conf_Store_act_1_ks [(0, .pointer none), (7, .bool false)] T_conf_Store_act_1_outs fun l w C => match l with | [v0, v1] => T_conf_Store_act_1 (pPtr v0) (pBool v1) w (fun b41 w => C .normal [.bool b41] w) (fun ch w => C (.panic ch) [] w) | _ => False

theorem T_conf_Store_act_1_hl : allP (hokL Try.prog (hookAt []) (at_ (bodyOf Try.f26) [1, 1, 1, 1, 0, 1, 0, 1, 0, 0, 0]) 4008) = (True) := by kernel_rfl
theorem T_conf_Store_act_1_hok : HOk Try.prog (hookAt []) (at_ (bodyOf Try.f26) [1, 1, 1, 1, 0, 1, 0, 1, 0, 0, 0]) 4008 := HOk_of _ _ (by rw [T_conf_Store_act_1_hl]; exact trivial)

theorem T_conf_Store_act_1_eq (C : Conts) (s33 : Option Addr) (pool34 : Bool) (w : World) : vcCode Try.prog (hookAt []) (at_ (bodyOf Try.f26) [1, 1, 1, 1, 0, 1, 0, 1, 0, 0, 0]) 4008 ⟨[(0, .pointer s33), (7, .bool pool34)], 144, []⟩ w (unitQ T_conf_Store_act_1_outs C) = T_conf_Store_act_1 s33 pool34 w (fun b42 w => C .normal [.bool b42] w) (fun ch w => C (.panic ch) [] w) := by kernel_rfl

theorem T_conf_Store_act_1_ok : UnitOk Try.prog H_conf_Store_act_1 (at_ (bodyOf Try.f26) [1, 1, 1, 1, 0, 1, 0, 1, 0, 0, 0]) 4008 := unit_ok (H := (hookAt [])) (by kernel_rfl) T_conf_Store_act_1_hok fun l w C hk => by
    obtain ⟨v0, l_v0, rfl, k_v0, hk_v0⟩ := Kinds.cons_ hk
    obtain ⟨s33, rfl⟩ := kind_pointer k_v0
    obtain ⟨v1, l_v1, rfl, k_v1, hk_v1⟩ := Kinds.cons_ hk_v0
    obtain ⟨pool34, rfl⟩ := kind_bool k_v1
    obtain rfl := Kinds.nil_ hk_v1
    exact T_conf_Store_act_1_eq C s33 pool34 w

def T_conf_Store_act_2_body (X : World → Prop) (c73 : Addr) (a74 : Addr) (w : World) (Kn : World → Prop) (Kr : Int → World → Prop) (Kp : List PanicEntry → World → Prop)  : Prop :=
  runV Try.prog (Instr.next (.pointer (some a74)) false 0) w (fun r75 w76 => ∃ (b77 : Bool) (l78 : List Value), r75 = .tuple ⟨.bool b77 :: l78⟩ ∧ if b77 = true then (runV Try.prog (Instr.entry (.pointer (some a74))) w76 (fun r79 w80 => ∃ k81 u82, r79 = .tuple #[k81, u82] ∧ ∃ s83 : ByteArray, u82 = .string s83 ∧ ∃ s84 : ByteArray, rd w80 (c73.add 6) (.string s84) ∧ if (s83.toList == s84.toList) = true then (Kr 13 w80) else (X  w80)) Kp) else (Kn  w76)) Kp

def T_conf_Store_act_2 (c73 : Addr) (a74 : Addr) (w : World) (Kn : World → Prop) (Kr : Int → World → Prop) (Kp : List PanicEntry → World → Prop) : Prop :=
  ∀ X : World → Prop, (∀  (w : World), T_conf_Store_act_2_body X c73 a74 w Kn Kr Kp → X  w) → X  w

def T_conf_Store_act_2_outs : Exit → Option (List (Nat × Value)) := fun x => match x with | .normal => some [] | .ret => some [(4, .int .i64 0)] | .panic _ => some [] | _ => none

def T_conf_Store_act_2_ks : Nat → Bool := ksOf [4, 11, 93, 94, 95, 96, 97, 98, 99, 100]

def H_conf_Store_act_2 : Env → World → QT → Prop := unitHook 144 T_conf_Store_act_2_ks [(3, .pointer (some ⟨0, 0, none⟩)), (92, .pointer (some ⟨0, 0, none⟩))] T_conf_Store_act_2_outs fun l w C => match l with | [v0, v1] => T_conf_Store_act_2 (pAddr v0) (pAddr v1) w (fun w => C .normal [] w) (fun x86 w => C .ret [.int .i64 x86] w) (fun ch w => C (.panic ch) [] w) | _ => False

theorem T_conf_Store_act_2_hl : allP (hokL Try.prog (hookAt []) (at_ (bodyOf Try.f26) [1, 1, 1, 1, 0, 1, 0, 1, 1, 1, 0, 1, 0, 1, 0, 0]) 128468) = (True) := by kernel_rfl
theorem T_conf_Store_act_2_hok : HOk Try.prog (hookAt []) (at_ (bodyOf Try.f26) [1, 1, 1, 1, 0, 1, 0, 1, 1, 1, 0, 1, 0, 1, 0, 0]) 128468 := HOk_of _ _ (by rw [T_conf_Store_act_2_hl]; exact trivial)

theorem T_conf_Store_act_2_eq (C : Conts) (X : List Value → World → Prop) (c73 : Addr) (a74 : Addr) (w : World) : vcCode Try.prog (hookAt []) (at_ (bodyOf Try.f26) [1, 1, 1, 1, 0, 1, 0, 1, 1, 1, 0, 1, 0, 1, 0, 0]) 128468 ⟨[] ++ [(3, .pointer (some c73)), (92, .pointer (some a74))], 144, []⟩ w (seqQ (fun e w => takeAll e [] fun l => X l w) (blockQ 1 (unitQ T_conf_Store_act_2_outs C))) = T_conf_Store_act_2_body (fun w => X [] w) c73 a74 w (fun w => C .normal [] w) (fun x87 w => C .ret [.int .i64 x87] w) (fun ch w => C (.panic ch) [] w) := by kernel_rfl

theorem T_conf_Store_act_2_ok : UnitOk Try.prog H_conf_Store_act_2 (at_ (bodyOf Try.f26) [1, 1, 1, 1, 0, 1, 0, 1, 1, 1, 0, 1, 0, 1]) 32117 := by
  have hc : at_ (bodyOf Try.f26) [1, 1, 1, 1, 0, 1, 0, 1, 1, 1, 0, 1, 0, 1] = .block 1 (.loop (at_ (bodyOf Try.f26) [1, 1, 1, 1, 0, 1, 0, 1, 1, 1, 0, 1, 0, 1, 0, 0])) := by kernel_rfl
  rw [hc]
  refine loop_unit_ok (carr := []) (fix := [(3, .pointer (some ⟨0, 0, none⟩)), (92, .pointer (some ⟨0, 0, none⟩))]) (ks := T_conf_Store_act_2_ks) (H := (hookAt [])) (B := fun C X l u w => match l, u with | [], [v0, v1] => T_conf_Store_act_2_body (fun w => X [] w) (pAddr v0) (pAddr v1) w (fun w => C .normal [] w) (fun x88 w => C .ret [.int .i64 x88] w) (fun ch w => C (.panic ch) [] w) | _, _ => False) (by kernel_rfl) (by kernel_rfl) T_conf_Store_act_2_hok ?_ ?_
  · intro C X l u w hl hu
    obtain rfl := Kinds.nil_ hl
    obtain ⟨v0, l_v0, rfl, k_v0, hu_v0⟩ := Kinds.cons_ hu
    obtain ⟨c73, rfl⟩ := kind_addr k_v0
    obtain ⟨v1, l_v1, rfl, k_v1, hu_v1⟩ := Kinds.cons_ hu_v0
    obtain ⟨a74, rfl⟩ := kind_addr k_v1
    obtain rfl := Kinds.nil_ hu_v1
    exact T_conf_Store_act_2_eq C X c73 a74 w
  · intro l u w C hl hu
    obtain rfl := Kinds.nil_ hl
    obtain ⟨v0, l_v0, rfl, k_v0, hu_v0⟩ := Kinds.cons_ hu
    obtain ⟨c73, rfl⟩ := kind_addr k_v0
    obtain ⟨v1, l_v1, rfl, k_v1, hu_v1⟩ := Kinds.cons_ hu_v0
    obtain ⟨a74, rfl⟩ := kind_addr k_v1
    obtain rfl := Kinds.nil_ hu_v1
    constructor
    · intro h X hX
      exact h (fun w => X [] w) (fun w hb => hX [] w trivial hb)
    · intro h X hX
      exact h (fun l w => match l with | [] => X  w | _ => True) (fun l w hl hb => by
        obtain rfl := Kinds.nil_ hl
        exact hX  w hb)

def T_conf_Store_act_3 (s98 : Option Addr) (route99 : Bool) (w : World) (Kn : Bool → World → Prop) (Kp : List PanicEntry → World → Prop) : Prop :=
  if (!route99) = true then (∃ a100, s98 = some a100 ∧ ∃ m101 : Option Nat, rd w (a100.add 2) (.map m101) ∧ runV Try.prog (Builtin.len_ #[60] 3 #[.map m101]) w (fun r102 w103 => ∃ x104 : Int, r102 = .int .i64 x104 ∧ Kn (decide ((x104 : Int) ≥ 64)) w103) Kp) else (Kn false w)

def T_conf_Store_act_3_outs : Exit → Option (List (Nat × Value)) := fun x => match x with | .normal => some [(120, .bool false)] | .panic _ => some [] | _ => none

def T_conf_Store_act_3_ks : Nat → Bool := ksOf [111, 112, 113, 114, 115, 116, 117, 118, 119, 120]

def H_conf_Store_act_3 : Env → World → QT → Prop := unitHook 144 T_conf_Store_act_3_ks [(0, .pointer none), (9, .bool false)] T_conf_Store_act_3_outs fun l w C => match l with | [v0, v1] => T_conf_Store_act_3 (pPtr v0) (pBool v1) w (fun b106 w => C .normal [.bool b106] w) (fun ch w => C (.panic ch) [] w) | _ => False

theorem T_conf_Store_act_3_hl : allP (hokL Try.prog (hookAt []) (at_ (bodyOf Try.f26) [1, 1, 1, 1, 0, 1, 0, 1, 1, 1, 1, 1, 0, 1, 0, 0]) 128500) = (True) := by kernel_rfl
theorem T_conf_Store_act_3_hok : HOk Try.prog (hookAt []) (at_ (bodyOf Try.f26) [1, 1, 1, 1, 0, 1, 0, 1, 1, 1, 1, 1, 0, 1, 0, 0]) 128500 := HOk_of _ _ (by rw [T_conf_Store_act_3_hl]; exact trivial)

theorem T_conf_Store_act_3_eq (C : Conts) (s98 : Option Addr) (route99 : Bool) (w : World) : vcCode Try.prog (hookAt []) (at_ (bodyOf Try.f26) [1, 1, 1, 1, 0, 1, 0, 1, 1, 1, 1, 1, 0, 1, 0, 0]) 128500 ⟨[(0, .pointer s98), (9, .bool route99)], 144, []⟩ w (unitQ T_conf_Store_act_3_outs C) = T_conf_Store_act_3 s98 route99 w (fun b107 w => C .normal [.bool b107] w) (fun ch w => C (.panic ch) [] w) := by kernel_rfl

theorem T_conf_Store_act_3_ok : UnitOk Try.prog H_conf_Store_act_3 (at_ (bodyOf Try.f26) [1, 1, 1, 1, 0, 1, 0, 1, 1, 1, 1, 1, 0, 1, 0, 0]) 128500 := unit_ok (H := (hookAt [])) (by kernel_rfl) T_conf_Store_act_3_hok fun l w C hk => by
    obtain ⟨v0, l_v0, rfl, k_v0, hk_v0⟩ := Kinds.cons_ hk
    obtain ⟨s98, rfl⟩ := kind_pointer k_v0
    obtain ⟨v1, l_v1, rfl, k_v1, hk_v1⟩ := Kinds.cons_ hk_v0
    obtain ⟨route99, rfl⟩ := kind_bool k_v1
    obtain rfl := Kinds.nil_ hk_v1
    exact T_conf_Store_act_3_eq C s98 route99 w

def T_conf_Store_act (s1 : Option Addr) (x2 : Int) (x3 : Int) (x4 : Int) (x5 : Int) (s6 : ByteArray) (s7 : ByteArray) (s8 : ByteArray) (s9a : Option Addr) (s9l : Nat) (s9c : Nat) (w : World) (R : Ending → World → Prop) : Prop :=
  let w10 : World := w.alloc (.cells #[.int .i64 x2, .int .i64 x3, .int .i64 x4, .int .i64 x5, .string s6, .string s7, .string s8, .slice s9a s9l s9c] 28)
  ∃ s11 : ByteArray, rd w10 ((⟨w.heap.size, 0, none⟩ : Addr).add 4) (.string s11) ∧ ∃ s12 : ByteArray, rd w10 ((⟨w.heap.size, 0, none⟩ : Addr).add 5) (.string s12) ∧ let w13 : World := w10.alloc (.cells #[.string (ByteArray.mk #[]), .string (ByteArray.mk #[])] 75)
  (.agg #[.string s11, .string s12] : Value).cells.size = 2 ∧ wrOk w13 (⟨w10.heap.size, 0, none⟩ : Addr) (.agg #[.string s11, .string s12]) ∧ let w14 : World := wr w13 (⟨w10.heap.size, 0, none⟩ : Addr) (.agg #[.string s11, .string s12])
  let w15 : World := w14.drew
  ∃ a16, s1 = some a16 ∧ ∃ m17 : Option Nat, rd w15 (a16.add 1) (.map m17) ∧ ∃ s18 : ByteArray, rd w15 ((⟨w.heap.size, 0, none⟩ : Addr).add 6) (.string s18) ∧ runV Try.prog (Instr.lookup 59 (.map m17) (.string s18) true) w15 (fun r19 w20 => ∃ s21a : Option Addr, ∃ s21l : Nat, ∃ s21c : Nat, ∃ b22 : Bool, r19 = .tuple #[.slice s21a s21l s21c, .bool b22] ∧ (True) ∧ let w23 : World := w20.drew
  ∃ a24, s1 = some a24 ∧ ∃ m25 : Option Nat, rd w23 (a24.add 2) (.map m25) ∧ ∃ s26 : ByteArray, ∃ s27 : ByteArray, rd w23 (⟨w10.heap.size, 0, none⟩ : Addr) (.agg #[.string s26, .string s27]) ∧ runV Try.prog (Instr.lookup 60 (.map m25) (.agg #[.string s26, .string s27]) true) w23 (fun r28 w29 => ∃ s30 : ByteArray, ∃ b31 : Bool, r28 = .tuple #[.string s30, .bool b31] ∧ (True) ∧ ∃ x32 : Int, rd w29 (⟨w.heap.size, 0, none⟩ : Addr) (.int .i64 x32) ∧ if ((x32 : Int) == 1) = true then (T_conf_Store_act_1 s1 b22 w29 (fun b43 w44 => if b43 = true then (R (.returned (.int .i64 6)) w44) else (let w45 : World := w44.drew
  ∃ a46, s1 = some a46 ∧ ∃ m47 : Option Nat, rd w45 (a46.add 1) (.map m47) ∧ ∃ s48 : ByteArray, rd w45 ((⟨w.heap.size, 0, none⟩ : Addr).add 6) (.string s48) ∧ ∃ s49a : Option Addr, ∃ s49l : Nat, ∃ s49c : Nat, rd w45 ((⟨w.heap.size, 0, none⟩ : Addr).add 7) (.slice s49a s49l s49c) ∧ Calls Try.prog 24 #[.slice s49a s49l s49c] w45 (ret (fun r50 w51 => ∃ s52a : Option Addr, ∃ s52l : Nat, ∃ s52c : Nat, r50 = .slice s52a s52l s52c ∧ (rd w51 ((⟨w.heap.size, 0, none⟩ : Addr).add 6) (.string s48) ∧ rd w51 (a46.add 1) (.map m47) ∧ True) ∧ runV Try.prog (Instr.mapUpdate 59 (.map m47) (.string s48) (.slice s52a s52l s52c)) w51 (fun _ w53 => (True) ∧ Calls Try.prog 56 #[.pointer s1, .slice none 0 0] w53 (ret (fun r54 w55 => ∃ s56a : Option Addr, ∃ s56l : Nat, ∃ s56c : Nat, r54 = .slice s56a s56l s56c ∧ if (decide (((s56l : Nat) : Int) > 12000)) = true then (let w57 : World := w55.drew
  ∃ a58, s1 = some a58 ∧ ∃ m59 : Option Nat, rd w57 (a58.add 1) (.map m59) ∧ ∃ s60 : ByteArray, rd w57 ((⟨w.heap.size, 0, none⟩ : Addr).add 6) (.string s60) ∧ runV Try.prog (Builtin.delete_ #[59, 9] 0 #[.map m59, .string s60]) w57 (fun r61 w62 => (True) ∧ if b22 = true then (let w63 : World := w62.drew
  ∃ a64, s1 = some a64 ∧ ∃ m65 : Option Nat, rd w63 (a64.add 1) (.map m65) ∧ ∃ s66 : ByteArray, rd w63 ((⟨w.heap.size, 0, none⟩ : Addr).add 6) (.string s66) ∧ runV Try.prog (Instr.mapUpdate 59 (.map m65) (.string s66) (.slice s21a s21l s21c)) w63 (fun _ w67 => (True) ∧ R (.returned (.int .i64 6)) w67) (pan R)) else (R (.returned (.int .i64 6)) w62)) (pan R)) else (R (.returned (.int .i64 0)) w55)) (pan R))) (pan R)) (pan R)))) (pan R)) else (if ((x32 : Int) == 2) = true then (if (!b22) = true then (R (.returned (.int .i64 8)) w29) else (∃ a68, s1 = some a68 ∧ ∃ m69 : Option Nat, rd w29 (a68.add 2) (.map m69) ∧ runV Try.prog (Instr.range 60 (.map m69)) w29 (fun r70 w71 => ∃ a72, r70 = .pointer (some a72) ∧ T_conf_Store_act_2 (⟨w.heap.size, 0, none⟩ : Addr) a72 w71 (fun w89 => let w90 : World := w89.drew
  ∃ a91, s1 = some a91 ∧ ∃ m92 : Option Nat, rd w90 (a91.add 1) (.map m92) ∧ ∃ s93 : ByteArray, rd w90 ((⟨w.heap.size, 0, none⟩ : Addr).add 6) (.string s93) ∧ runV Try.prog (Builtin.delete_ #[59, 9] 0 #[.map m92, .string s93]) w90 (fun r94 w95 => (True) ∧ R (.returned (.int .i64 0)) w95) (pan R)) (fun x96 w97 => R (.returned (.int .i64 x96)) w97) (pan R)) (pan R))) else (if ((x32 : Int) == 3) = true then (if (!b22) = true then (R (.returned (.int .i64 8)) w29) else (T_conf_Store_act_3 s1 b31 w29 (fun b108 w109 => if b108 = true then (R (.returned (.int .i64 6)) w109) else (let w110 : World := w109.drew
  ∃ a111, s1 = some a111 ∧ ∃ m112 : Option Nat, rd w110 (a111.add 2) (.map m112) ∧ ∃ s113 : ByteArray, ∃ s114 : ByteArray, rd w110 (⟨w10.heap.size, 0, none⟩ : Addr) (.agg #[.string s113, .string s114]) ∧ ∃ s115 : ByteArray, rd w110 ((⟨w.heap.size, 0, none⟩ : Addr).add 6) (.string s115) ∧ runV Try.prog (Instr.mapUpdate 60 (.map m112) (.agg #[.string s113, .string s114]) (.string s115)) w110 (fun _ w116 => (True) ∧ Calls Try.prog 56 #[.pointer s1, .slice none 0 0] w116 (ret (fun r117 w118 => ∃ s119a : Option Addr, ∃ s119l : Nat, ∃ s119c : Nat, r117 = .slice s119a s119l s119c ∧ if (decide (((s119l : Nat) : Int) > 12000)) = true then (let w120 : World := w118.drew
  ∃ a121, s1 = some a121 ∧ ∃ m122 : Option Nat, rd w120 (a121.add 2) (.map m122) ∧ ∃ s123 : ByteArray, ∃ s124 : ByteArray, rd w120 (⟨w10.heap.size, 0, none⟩ : Addr) (.agg #[.string s123, .string s124]) ∧ runV Try.prog (Builtin.delete_ #[60, 75] 0 #[.map m122, .agg #[.string s123, .string s124]]) w120 (fun r125 w126 => (True) ∧ if b31 = true then (let w127 : World := w126.drew
  ∃ a128, s1 = some a128 ∧ ∃ m129 : Option Nat, rd w127 (a128.add 2) (.map m129) ∧ ∃ s130 : ByteArray, ∃ s131 : ByteArray, rd w127 (⟨w10.heap.size, 0, none⟩ : Addr) (.agg #[.string s130, .string s131]) ∧ runV Try.prog (Instr.mapUpdate 60 (.map m129) (.agg #[.string s130, .string s131]) (.string s30)) w127 (fun _ w132 => (True) ∧ R (.returned (.int .i64 6)) w132) (pan R)) else (R (.returned (.int .i64 6)) w126)) (pan R)) else (R (.returned (.int .i64 0)) w118)) (pan R))) (pan R))) (pan R))) else (if (!b31) = true then (R (.returned (.int .i64 8)) w29) else (let w133 : World := w29.drew
  ∃ a134, s1 = some a134 ∧ ∃ m135 : Option Nat, rd w133 (a134.add 2) (.map m135) ∧ ∃ s136 : ByteArray, ∃ s137 : ByteArray, rd w133 (⟨w10.heap.size, 0, none⟩ : Addr) (.agg #[.string s136, .string s137]) ∧ runV Try.prog (Builtin.delete_ #[60, 75] 0 #[.map m135, .agg #[.string s136, .string s137]]) w133 (fun r138 w139 => (True) ∧ R (.returned (.int .i64 0)) w139) (pan R)))))) (pan R)) (pan R)

theorem T_conf_Store_act_hl : allP (hokL Try.prog (hookAt [(4008, H_conf_Store_act_1), (32117, H_conf_Store_act_2), (128500, H_conf_Store_act_3)]) (bodyOf Try.f26) 1) = (UnitOk Try.prog H_conf_Store_act_1 (at_ (bodyOf Try.f26) [1, 1, 1, 1, 0, 1, 0, 1, 0, 0, 0]) 4008 ∧ UnitOk Try.prog H_conf_Store_act_2 (at_ (bodyOf Try.f26) [1, 1, 1, 1, 0, 1, 0, 1, 1, 1, 0, 1, 0, 1]) 32117 ∧ UnitOk Try.prog H_conf_Store_act_3 (at_ (bodyOf Try.f26) [1, 1, 1, 1, 0, 1, 0, 1, 1, 1, 1, 1, 0, 1, 0, 0]) 128500 ∧ True) := by kernel_rfl

theorem T_conf_Store_act_eq (s1 : Option Addr) (x2 : Int) (x3 : Int) (x4 : Int) (x5 : Int) (s6 : ByteArray) (s7 : ByteArray) (s8 : ByteArray) (s9a : Option Addr) (s9l : Nat) (s9c : Nat) (w : World) (R : Ending → World → Prop) : vcCode Try.prog (hookAt [(4008, H_conf_Store_act_1), (32117, H_conf_Store_act_2), (128500, H_conf_Store_act_3)]) (bodyOf Try.f26) 1 ⟨argEnv [.pointer s1, .agg #[.int .i64 x2, .int .i64 x3, .int .i64 x4, .int .i64 x5, .string s6, .string s7, .string s8, .slice s9a s9l s9c]] 0, Try.f26.ntmps, []⟩ w (finQ Try.prog Try.f26.results.toList R) = T_conf_Store_act s1 x2 x3 x4 x5 s6 s7 s8 s9a s9l s9c w R := by kernel_rfl

theorem T_conf_Store_act_b : Try.f26.body = some (bodyOf Try.f26) := by kernel_rfl
theorem T_conf_Store_act_s : (quietSel (bodyOf Try.f26) && Nat.ble 2 Try.f26.ntmps) = true := by kernel_rfl

theorem C_conf_Store_act {s1 : Option Addr} {x2 : Int} {x3 : Int} {x4 : Int} {x5 : Int} {s6 : ByteArray} {s7 : ByteArray} {s8 : ByteArray} {s9a : Option Addr} {s9l : Nat} {s9c : Nat} {w : World} {R : Ending → World → Prop} (h : T_conf_Store_act s1 x2 x3 x4 x5 s6 s7 s8 s9a s9l s9c w R) : Calls Try.prog 26 #[.pointer s1, .agg #[.int .i64 x2, .int .i64 x3, .int .i64 x4, .int .i64 x5, .string s6, .string s7, .string s8, .slice s9a s9l s9c]] w R :=
  calls_of_text (args := [.pointer s1, .agg #[.int .i64 x2, .int .i64 x3, .int .i64 x4, .int .i64 x5, .string s6, .string s7, .string s8, .slice s9a s9l s9c]]) mixed Try.func26 T_conf_Store_act_b T_conf_Store_act_s (HOk_of _ _ (by rw [T_conf_Store_act_hl]; exact ⟨T_conf_Store_act_1_ok, T_conf_Store_act_2_ok, T_conf_Store_act_3_ok, trivial⟩)) (by rw [T_conf_Store_act_eq]; exact h)

/-! (*tollgate/conf.Store).config -/
def T_conf_Store_config_1_body (X : Option Addr → Nat → Nat → Int → World → Prop) (b19a : Option Addr) (b19l : Nat) (b19c : Nat) (x20 : Int) (s21 : Option Addr) (s22a : Option Addr) (s22l : Nat) (s22c : Nat) (x23 : Int) (w : World) (Kn : Option Addr → Nat → Nat → World → Prop) (Kp : List PanicEntry → World → Prop)  : Prop :=
  if (decide ((x20 : Int) < x23)) = true then (0 ≤ (x20 : Int) ∧ (x20 : Int) < ((s22l : Nat) : Int) ∧ ∃ b24, s22a = some b24 ∧ ∃ s25 : ByteArray, rd w (b24.add ((x20 : Int).toNat * 1)) (.string s25) ∧ let w26 : World := w.drew
  ∃ a27, s21 = some a27 ∧ ∃ m28 : Option Nat, rd w26 (a27.add 1) (.map m28) ∧ (Calls Try.prog 31 #[.slice b19a b19l b19c, .string s25] w26 (ret (fun r29 w30 => ∃ s31a : Option Addr, ∃ s31l : Nat, ∃ s31c : Nat, r29 = .slice s31a s31l s31c ∧ (rd w30 (a27.add 1) (.map m28) ∧ True) ∧ runV Try.prog (Instr.lookup 59 (.map m28) (.string s25) false) w30 (fun r32 w33 => ∃ s34a : Option Addr, ∃ s34l : Nat, ∃ s34c : Nat, r32 = .slice s34a s34l s34c ∧ (True) ∧ Calls Try.prog 30 #[.slice s31a s31l s31c, .slice s34a s34l s34c] w33 (ret (fun r35 w36 => ∃ s37a : Option Addr, ∃ s37l : Nat, ∃ s37c : Nat, r35 = .slice s37a s37l s37c ∧ (True) ∧ X s37a s37l s37c (IntKind.wrap .i64 ((x20 : Int) + 1)) w36) Kp)) Kp) Kp)) ∧ (runV Try.prog (Instr.lookup 59 (.map m28) (.string s25) false) w26 (fun r38 w39 => ∃ s40a : Option Addr, ∃ s40l : Nat, ∃ s40c : Nat, r38 = .slice s40a s40l s40c ∧ (True) ∧ Calls Try.prog 31 #[.slice b19a b19l b19c, .string s25] w39 (ret (fun r41 w42 => ∃ s43a : Option Addr, ∃ s43l : Nat, ∃ s43c : Nat, r41 = .slice s43a s43l s43c ∧ (True) ∧ Calls Try.prog 30 #[.slice s43a s43l s43c, .slice s40a s40l s40c] w42 (ret (fun r44 w45 => ∃ s46a : Option Addr, ∃ s46l : Nat, ∃ s46c : Nat, r44 = .slice s46a s46l s46c ∧ (True) ∧ X s46a s46l s46c (IntKind.wrap .i64 ((x20 : Int) + 1)) w45) Kp)) Kp)) Kp)) else (Kn b19a b19l b19c w)

def T_conf_Store_config_1 (b19a : Option Addr) (b19l : Nat) (b19c : Nat) (x20 : Int) (s21 : Option Addr) (s22a : Option Addr) (s22l : Nat) (s22c : Nat) (x23 : Int) (w : World) (Kn : Option Addr → Nat → Nat → World → Prop) (Kp : List PanicEntry → World → Prop) : Prop :=
  ∀ X : Option Addr → Nat → Nat → Int → World → Prop, (∀ (b19a : Option Addr) (b19l : Nat) (b19c : Nat) (x20 : Int) (w : World), T_conf_Store_config_1_body X b19a b19l b19c x20 s21 s22a s22l s22c x23 w Kn Kp → X b19a b19l b19c x20 w) → X b19a b19l b19c x20 w

def T_conf_Store_config_1_outs : Exit → Option (List (Nat × Value)) := fun x => match x with | .normal => some [(1, .slice none 0 0)] | .panic _ => some [] | _ => none

def T_conf_Store_config_1_ks : Nat → Bool := ksOf [1, 6, 23, 24, 25, 26, 27, 28, 29, 30, 31, 32, 33, 34, 35, 36, 37]

def H_conf_Store_config_1 : Env → World → QT → Prop := unitHook 68 T_conf_Store_config_1_ks [(1, .slice none 0 0), (23, .int .i64 0), (0, .pointer none), (21, .slice none 0 0), (22, .int .i64 0)] T_conf_Store_config_1_outs fun l w C => match l with | [v0, v1, v2, v3, v4] => T_conf_Store_config_1 (pA v0) (pL v0) (pC v0) (pInt v1) (pPtr v2) (pA v3) (pL v3) (pC v3) (pInt v4) w (fun b48a b48l b48c w => C .normal [.slice b48a b48l b48c] w) (fun ch w => C (.panic ch) [] w) | _ => False

theorem T_conf_Store_config_1_hl : allP (hokL Try.prog (hookAt []) (at_ (bodyOf Try.f56) [1, 1, 0, 1, 0, 0]) 116) = (True) := by kernel_rfl
theorem T_conf_Store_config_1_hok : HOk Try.prog (hookAt []) (at_ (bodyOf Try.f56) [1, 1, 0, 1, 0, 0]) 116 := HOk_of _ _ (by rw [T_conf_Store_config_1_hl]; exact trivial)

theorem T_conf_Store_config_1_eq (C : Conts) (X : List Value → World → Prop) (b19a : Option Addr) (b19l : Nat) (b19c : Nat) (x20 : Int) (s21 : Option Addr) (s22a : Option Addr) (s22l : Nat) (s22c : Nat) (x23 : Int) (w : World) : vcCode Try.prog (hookAt []) (at_ (bodyOf Try.f56) [1, 1, 0, 1, 0, 0]) 116 ⟨[(1, .slice b19a b19l b19c), (23, .int .i64 x20)] ++ [(0, .pointer s21), (21, .slice s22a s22l s22c), (22, .int .i64 x23)], 68, []⟩ w (seqQ (fun e w => takeAll e [(1, .slice none 0 0), (23, .int .i64 0)] fun l => X l w) (blockQ 0 (unitQ T_conf_Store_config_1_outs C))) = T_conf_Store_config_1_body (fun b19a b19l b19c x20 w => X [.slice b19a b19l b19c, .int .i64 x20] w) b19a b19l b19c x20 s21 s22a s22l s22c x23 w (fun b49a b49l b49c w => C .normal [.slice b49a b49l b49c] w) (fun ch w => C (.panic ch) [] w) := by kernel_rfl

theorem T_conf_Store_config_1_ok : UnitOk Try.prog H_conf_Store_config_1 (at_ (bodyOf Try.f56) [1, 1, 0, 1]) 29 := by
  have hc : at_ (bodyOf Try.f56) [1, 1, 0, 1] = .block 0 (.loop (at_ (bodyOf Try.f56) [1, 1, 0, 1, 0, 0])) := by kernel_rfl
  rw [hc]
  refine loop_unit_ok (carr := [(1, .slice none 0 0), (23, .int .i64 0)]) (fix := [(0, .pointer none), (21, .slice none 0 0), (22, .int .i64 0)]) (ks := T_conf_Store_config_1_ks) (H := (hookAt [])) (B := fun C X l u w => match l, u with | [v0, v1], [v2, v3, v4] => T_conf_Store_config_1_body (fun b19a b19l b19c x20 w => X [.slice b19a b19l b19c, .int .i64 x20] w) (pA v0) (pL v0) (pC v0) (pInt v1) (pPtr v2) (pA v3) (pL v3) (pC v3) (pInt v4) w (fun b50a b50l b50c w => C .normal [.slice b50a b50l b50c] w) (fun ch w => C (.panic ch) [] w) | _, _ => False) (by kernel_rfl) (by kernel_rfl) T_conf_Store_config_1_hok ?_ ?_
  · intro C X l u w hl hu
    obtain ⟨v0, l_v0, rfl, k_v0, hl_v0⟩ := Kinds.cons_ hl
    obtain ⟨b19a, b19l, b19c, rfl⟩ := kind_slice k_v0
    obtain ⟨v1, l_v1, rfl, k_v1, hl_v1⟩ := Kinds.cons_ hl_v0
    obtain ⟨x20, rfl⟩ := kind_int k_v1
    obtain rfl := Kinds.nil_ hl_v1
    obtain ⟨v2, l_v2, rfl, k_v2, hu_v2⟩ := Kinds.cons_ hu
    obtain ⟨s21, rfl⟩ := kind_pointer k_v2
    obtain ⟨v3, l_v3, rfl, k_v3, hu_v3⟩ := Kinds.cons_ hu_v2
    obtain ⟨s22a, s22l, s22c, rfl⟩ := kind_slice k_v3
    obtain ⟨v4, l_v4, rfl, k_v4, hu_v4⟩ := Kinds.cons_ hu_v3
    obtain ⟨x23, rfl⟩ := kind_int k_v4
    obtain rfl := Kinds.nil_ hu_v4
    exact T_conf_Store_config_1_eq C X b19a b19l b19c x20 s21 s22a s22l s22c x23 w
  · intro l u w C hl hu
    obtain ⟨v0, l_v0, rfl, k_v0, hl_v0⟩ := Kinds.cons_ hl
    obtain ⟨b19a, b19l, b19c, rfl⟩ := kind_slice k_v0
    obtain ⟨v1, l_v1, rfl, k_v1, hl_v1⟩ := Kinds.cons_ hl_v0
    obtain ⟨x20, rfl⟩ := kind_int k_v1
    obtain rfl := Kinds.nil_ hl_v1
    obtain ⟨v2, l_v2, rfl, k_v2, hu_v2⟩ := Kinds.cons_ hu
    obtain ⟨s21, rfl⟩ := kind_pointer k_v2
    obtain ⟨v3, l_v3, rfl, k_v3, hu_v3⟩ := Kinds.cons_ hu_v2
    obtain ⟨s22a, s22l, s22c, rfl⟩ := kind_slice k_v3
    obtain ⟨v4, l_v4, rfl, k_v4, hu_v4⟩ := Kinds.cons_ hu_v3
    obtain ⟨x23, rfl⟩ := kind_int k_v4
    obtain rfl := Kinds.nil_ hu_v4
    constructor
    · intro h X hX
      exact h (fun b19a b19l b19c x20 w => X [.slice b19a b19l b19c, .int .i64 x20] w) (fun b19a b19l b19c x20 w hb => hX [.slice b19a b19l b19c, .int .i64 x20] w ⟨rfl, rfl, trivial⟩ hb)
    · intro h X hX
      exact h (fun l w => match l with | [v0, v1] => X (pA v0) (pL v0) (pC v0) (pInt v1) w | _ => True) (fun l w hl hb => by
        obtain ⟨v0, l_v0, rfl, k_v0, hl_v0⟩ := Kinds.cons_ hl
        obtain ⟨b19a, b19l, b19c, rfl⟩ := kind_slice k_v0
        obtain ⟨v1, l_v1, rfl, k_v1, hl_v1⟩ := Kinds.cons_ hl_v0
        obtain ⟨x20, rfl⟩ := kind_int k_v1
        obtain rfl := Kinds.nil_ hl_v1
        exact hX b19a b19l b19c x20 w hb)

def T_conf_Store_config_2_body (X : Option Addr → Nat → Nat → Int → World → Prop) (b64a : Option Addr) (b64l : Nat) (b64c : Nat) (x65 : Int) (s66 : Option Addr) (s67a : Option Addr) (s67l : Nat) (s67c : Nat) (x68 : Int) (w : World) (Kn : Option Addr → Nat → Nat → World → Prop) (Kp : List PanicEntry → World → Prop)  : Prop :=
  if (decide ((x65 : Int) < x68)) = true then (0 ≤ (x65 : Int) ∧ (x65 : Int) < ((s67l : Nat) : Int) ∧ ∃ b69, s67a = some b69 ∧ ∃ s70 : ByteArray, ∃ s71 : ByteArray, rd w (b69.add ((x65 : Int).toNat * 2)) (.agg #[.string s70, .string s71]) ∧ let w72 : World := w.alloc (.cells #[.string (ByteArray.mk #[]), .string (ByteArray.mk #[])] 75)
  (.agg #[.string s70, .string s71] : Value).cells.size = 2 ∧ wrOk w72 (⟨w.heap.size, 0, none⟩ : Addr) (.agg #[.string s70, .string s71]) ∧ let w73 : World := wr w72 (⟨w.heap.size, 0, none⟩ : Addr) (.agg #[.string s70, .string s71])
  let w74 : World := w73.drew
  ∃ s75 : ByteArray, rd w74 (⟨w.heap.size, 0, none⟩ : Addr) (.string s75) ∧ ∃ s76 : ByteArray, rd w74 ((⟨w.heap.size, 0, none⟩ : Addr).add 1) (.string s76) ∧ ∃ a77, s66 = some a77 ∧ ∃ m78 : Option Nat, rd w74 (a77.add 2) (.map m78) ∧ ∃ s79 : ByteArray, ∃ s80 : ByteArray, rd w74 (⟨w.heap.size, 0, none⟩ : Addr) (.agg #[.string s79, .string s80]) ∧ (Calls Try.prog 31 #[.slice b64a b64l b64c, .string s75] w74 (ret (fun r81 w82 => ∃ s83a : Option Addr, ∃ s83l : Nat, ∃ s83c : Nat, r81 = .slice s83a s83l s83c ∧ (rd w82 (⟨w.heap.size, 0, none⟩ : Addr) (.agg #[.string s79, .string s80]) ∧ rd w82 (a77.add 2) (.map m78) ∧ rd w82 ((⟨w.heap.size, 0, none⟩ : Addr).add 1) (.string s76) ∧ True) ∧ (Calls Try.prog 31 #[.slice s83a s83l s83c, .string s76] w82 (ret (fun r84 w85 => ∃ s86a : Option Addr, ∃ s86l : Nat, ∃ s86c : Nat, r84 = .slice s86a s86l s86c ∧ (rd w85 (⟨w.heap.size, 0, none⟩ : Addr) (.agg #[.string s79, .string s80]) ∧ rd w85 (a77.add 2) (.map m78) ∧ True) ∧ runV Try.prog (Instr.lookup 60 (.map m78) (.agg #[.string s79, .string s80]) false) w85 (fun r87 w88 => ∃ s89 : ByteArray, r87 = .string s89 ∧ (True) ∧ Calls Try.prog 31 #[.slice s86a s86l s86c, .string s89] w88 (ret (fun r90 w91 => ∃ s92a : Option Addr, ∃ s92l : Nat, ∃ s92c : Nat, r90 = .slice s92a s92l s92c ∧ (True) ∧ X s92a s92l s92c (IntKind.wrap .i64 ((x65 : Int) + 1)) w91) Kp)) Kp) Kp)) ∧ (runV Try.prog (Instr.lookup 60 (.map m78) (.agg #[.string s79, .string s80]) false) w82 (fun r93 w94 => ∃ s95 : ByteArray, r93 = .string s95 ∧ (rd w94 ((⟨w.heap.size, 0, none⟩ : Addr).add 1) (.string s76) ∧ True) ∧ Calls Try.prog 31 #[.slice s83a s83l s83c, .string s76] w94 (ret (fun r96 w97 => ∃ s98a : Option Addr, ∃ s98l : Nat, ∃ s98c : Nat, r96 = .slice s98a s98l s98c ∧ (True) ∧ Calls Try.prog 31 #[.slice s98a s98l s98c, .string s95] w97 (ret (fun r99 w100 => ∃ s101a : Option Addr, ∃ s101l : Nat, ∃ s101c : Nat, r99 = .slice s101a s101l s101c ∧ (True) ∧ X s101a s101l s101c (IntKind.wrap .i64 ((x65 : Int) + 1)) w100) Kp)) Kp)) Kp)) Kp)) ∧ (runV Try.prog (Instr.lookup 60 (.map m78) (.agg #[.string s79, .string s80]) false) w74 (fun r102 w103 => ∃ s104 : ByteArray, r102 = .string s104 ∧ (rd w103 ((⟨w.heap.size, 0, none⟩ : Addr).add 1) (.string s76) ∧ rd w103 (⟨w.heap.size, 0, none⟩ : Addr) (.string s75) ∧ True) ∧ Calls Try.prog 31 #[.slice b64a b64l b64c, .string s75] w103 (ret (fun r105 w106 => ∃ s107a : Option Addr, ∃ s107l : Nat, ∃ s107c : Nat, r105 = .slice s107a s107l s107c ∧ (rd w106 ((⟨w.heap.size, 0, none⟩ : Addr).add 1) (.string s76) ∧ True) ∧ Calls Try.prog 31 #[.slice s107a s107l s107c, .string s76] w106 (ret (fun r108 w109 => ∃ s110a : Option Addr, ∃ s110l : Nat, ∃ s110c : Nat, r108 = .slice s110a s110l s110c ∧ (True) ∧ Calls Try.prog 31 #[.slice s110a s110l s110c, .string s104] w109 (ret (fun r111 w112 => ∃ s113a : Option Addr, ∃ s113l : Nat, ∃ s113c : Nat, r111 = .slice s113a s113l s113c ∧ (True) ∧ X s113a s113l s113c (IntKind.wrap .i64 ((x65 : Int) + 1)) w112) Kp)) Kp)) Kp)) Kp)) else (Kn b64a b64l b64c w)

def T_conf_Store_config_2 (b64a : Option Addr) (b64l : Nat) (b64c : Nat) (x65 : Int) (s66 : Option Addr) (s67a : Option Addr) (s67l : Nat) (s67c : Nat) (x68 : Int) (w : World) (Kn : Option Addr → Nat → Nat → World → Prop) (Kp : List PanicEntry → World → Prop) : Prop :=
  ∀ X : Option Addr → Nat → Nat → Int → World → Prop, (∀ (b64a : Option Addr) (b64l : Nat) (b64c : Nat) (x65 : Int) (w : World), T_conf_Store_config_2_body X b64a b64l b64c x65 s66 s67a s67l s67c x68 w Kn Kp → X b64a b64l b64c x65 w) → X b64a b64l b64c x65 w

def T_conf_Store_config_2_outs : Exit → Option (List (Nat × Value)) := fun x => match x with | .normal => some [(1, .slice none 0 0)] | .panic _ => some [] | _ => none

def T_conf_Store_config_2_ks : Nat → Bool := ksOf [1, 8, 48, 49, 50, 51, 52, 53, 54, 55, 56, 57, 58, 59, 60, 61, 62, 63, 64, 65, 66]

def H_conf_Store_config_2 : Env → World → QT → Prop := unitHook 68 T_conf_Store_config_2_ks [(1, .slice none 0 0), (48, .int .i64 0), (0, .pointer none), (46, .slice none 0 0), (47, .int .i64 0)] T_conf_Store_config_2_outs fun l w C => match l with | [v0, v1, v2, v3, v4] => T_conf_Store_config_2 (pA v0) (pL v0) (pC v0) (pInt v1) (pPtr v2) (pA v3) (pL v3) (pC v3) (pInt v4) w (fun b115a b115l b115c w => C .normal [.slice b115a b115l b115c] w) (fun ch w => C (.panic ch) [] w) | _ => False

theorem T_conf_Store_config_2_hl : allP (hokL Try.prog (hookAt []) (at_ (bodyOf Try.f56) [1, 1, 1, 1, 0, 1, 0, 0]) 500) = (True) := by kernel_rfl
theorem T_conf_Store_config_2_hok : HOk Try.prog (hookAt []) (at_ (bodyOf Try.f56) [1, 1, 1, 1, 0, 1, 0, 0]) 500 := HOk_of _ _ (by rw [T_conf_Store_config_2_hl]; exact trivial)

theorem T_conf_Store_config_2_eq (C : Conts) (X : List Value → World → Prop) (b64a : Option Addr) (b64l : Nat) (b64c : Nat) (x65 : Int) (s66 : Option Addr) (s67a : Option Addr) (s67l : Nat) (s67c : Nat) (x68 : Int) (w : World) : vcCode Try.prog (hookAt []) (at_ (bodyOf Try.f56) [1, 1, 1, 1, 0, 1, 0, 0]) 500 ⟨[(1, .slice b64a b64l b64c), (48, .int .i64 x65)] ++ [(0, .pointer s66), (46, .slice s67a s67l s67c), (47, .int .i64 x68)], 68, []⟩ w (seqQ (fun e w => takeAll e [(1, .slice none 0 0), (48, .int .i64 0)] fun l => X l w) (blockQ 2 (unitQ T_conf_Store_config_2_outs C))) = T_conf_Store_config_2_body (fun b64a b64l b64c x65 w => X [.slice b64a b64l b64c, .int .i64 x65] w) b64a b64l b64c x65 s66 s67a s67l s67c x68 w (fun b116a b116l b116c w => C .normal [.slice b116a b116l b116c] w) (fun ch w => C (.panic ch) [] w) := by kernel_rfl

theorem T_conf_Store_config_2_ok : UnitOk Try.prog H_conf_Store_config_2 (at_ (bodyOf Try.f56) [1, 1, 1, 1, 0, 1]) 125 := by
  have hc : at_ (bodyOf Try.f56) [1, 1, 1, 1, 0, 1] = .block 2 (.loop (at_ (bodyOf Try.f56) [1, 1, 1, 1, 0, 1, 0, 0])) := by kernel_rfl
  rw [hc]
  refine loop_unit_ok (carr := [(1, .slice none 0 0), (48, .int .i64 0)]) (fix := [(0, .pointer none), (46, .slice none 0 0), (47, .int .i64 0)]) (ks := T_conf_Store_config_2_ks) (H := (hookAt [])) (B := fun C X l u w => match l, u with | [v0, v1], [v2, v3, v4] => T_conf_Store_config_2_body (fun b64a b64l b64c x65 w => X [.slice b64a b64l b64c, .int .i64 x65] w) (pA v0) (pL v0) (pC v0) (pInt v1) (pPtr v2) (pA v3) (pL v3) (pC v3) (pInt v4) w (fun b117a b117l b117c w => C .normal [.slice b117a b117l b117c] w) (fun ch w => C (.panic ch) [] w) | _, _ => False) (by kernel_rfl) (by kernel_rfl) T_conf_Store_config_2_hok ?_ ?_
  · intro C X l u w hl hu
    obtain ⟨v0, l_v0, rfl, k_v0, hl_v0⟩ := Kinds.cons_ hl
    obtain ⟨b64a, b64l, b64c, rfl⟩ := kind_slice k_v0
    obtain ⟨v1, l_v1, rfl, k_v1, hl_v1⟩ := Kinds.cons_ hl_v0
    obtain ⟨x65, rfl⟩ := kind_int k_v1
    obtain rfl := Kinds.nil_ hl_v1
    obtain ⟨v2, l_v2, rfl, k_v2, hu_v2⟩ := Kinds.cons_ hu
    obtain ⟨s66, rfl⟩ := kind_pointer k_v2
    obtain ⟨v3, l_v3, rfl, k_v3, hu_v3⟩ := Kinds.cons_ hu_v2
    obtain ⟨s67a, s67l, s67c, rfl⟩ := kind_slice k_v3
    obtain ⟨v4, l_v4, rfl, k_v4, hu_v4⟩ := Kinds.cons_ hu_v3
    obtain ⟨x68, rfl⟩ := kind_int k_v4
    obtain rfl := Kinds.nil_ hu_v4
    exact T_conf_Store_config_2_eq C X b64a b64l b64c x65 s66 s67a s67l s67c x68 w
  · intro l u w C hl hu
    obtain ⟨v0, l_v0, rfl, k_v0, hl_v0⟩ := Kinds.cons_ hl
    obtain ⟨b64a, b64l, b64c, rfl⟩ := kind_slice k_v0
    obtain ⟨v1, l_v1, rfl, k_v1, hl_v1⟩ := Kinds.cons_ hl_v0
    obtain ⟨x65, rfl⟩ := kind_int k_v1
    obtain rfl := Kinds.nil_ hl_v1
    obtain ⟨v2, l_v2, rfl, k_v2, hu_v2⟩ := Kinds.cons_ hu
    obtain ⟨s66, rfl⟩ := kind_pointer k_v2
    obtain ⟨v3, l_v3, rfl, k_v3, hu_v3⟩ := Kinds.cons_ hu_v2
    obtain ⟨s67a, s67l, s67c, rfl⟩ := kind_slice k_v3
    obtain ⟨v4, l_v4, rfl, k_v4, hu_v4⟩ := Kinds.cons_ hu_v3
    obtain ⟨x68, rfl⟩ := kind_int k_v4
    obtain rfl := Kinds.nil_ hu_v4
    constructor
    · intro h X hX
      exact h (fun b64a b64l b64c x65 w => X [.slice b64a b64l b64c, .int .i64 x65] w) (fun b64a b64l b64c x65 w hb => hX [.slice b64a b64l b64c, .int .i64 x65] w ⟨rfl, rfl, trivial⟩ hb)
    · intro h X hX
      exact h (fun l w => match l with | [v0, v1] => X (pA v0) (pL v0) (pC v0) (pInt v1) w | _ => True) (fun l w hl hb => by
        obtain ⟨v0, l_v0, rfl, k_v0, hl_v0⟩ := Kinds.cons_ hl
        obtain ⟨b64a, b64l, b64c, rfl⟩ := kind_slice k_v0
        obtain ⟨v1, l_v1, rfl, k_v1, hl_v1⟩ := Kinds.cons_ hl_v0
        obtain ⟨x65, rfl⟩ := kind_int k_v1
        obtain rfl := Kinds.nil_ hl_v1
        exact hX b64a b64l b64c x65 w hb)

def T_conf_Store_config (s1 : Option Addr) (b2a : Option Addr) (b2l : Nat) (b2c : Nat) (w : World) (R : Ending → World → Prop) : Prop :=
  ∃ a3, s1 = some a3 ∧ ∃ m4 : Option Nat, rd w (a3.add 1) (.map m4) ∧ runV Try.prog (Builtin.len_ #[59] 3 #[.map m4]) w (fun r5 w6 => ∃ x7 : Int, r5 = .int .i64 x7 ∧ Calls Try.prog 29 #[.slice b2a b2l b2c, .int .i64 x7] w6 (ret (fun r8 w9 => ∃ s10a : Option Addr, ∃ s10l : Nat, ∃ s10c : Nat, r8 = .slice s10a s10l s10c ∧ ∃ a11, s1 = some a11 ∧ ∃ m12 : Option Nat, rd w9 (a11.add 1) (.map m12) ∧ Calls Try.prog 23 #[.map m12] w9 (ret (fun r13 w14 => ∃ u15 : Value, one u15 = true ∧ r13 = u15 ∧ Calls Try.prog 22 #[u15] w14 (ret (fun r16 w17 => ∃ s18a : Option Addr, ∃ s18l : Nat, ∃ s18c : Nat, r16 = .slice s18a s18l s18c ∧ T_conf_Store_config_1 s10a s10l s10c 0 s1 s18a s18l s18c ((s18l : Nat) : Int) w17 (fun b51a b51l b51c w52 => ∃ a53, s1 = some a53 ∧ ∃ m54 : Option Nat, rd w52 (a53.add 2) (.map m54) ∧ runV Try.prog (Builtin.len_ #[60] 3 #[.map m54]) w52 (fun r55 w56 => ∃ x57 : Int, r55 = .int .i64 x57 ∧ Calls Try.prog 29 #[.slice b51a b51l b51c, .int .i64 x57] w56 (ret (fun r58 w59 => ∃ s60a : Option Addr, ∃ s60l : Nat, ∃ s60c : Nat, r58 = .slice s60a s60l s60c ∧ Calls Try.prog 25 #[.pointer s1] w59 (ret (fun r61 w62 => ∃ s63a : Option Addr, ∃ s63l : Nat, ∃ s63c : Nat, r61 = .slice s63a s63l s63c ∧ T_conf_Store_config_2 s60a s60l s60c 0 s1 s63a s63l s63c ((s63l : Nat) : Int) w62 (fun b118a b118l b118c w119 => R (.returned (.slice b118a b118l b118c)) w119) (pan R)) (pan R))) (pan R))) (pan R)) (pan R)) (pan R))) (pan R))) (pan R))) (pan R)

theorem T_conf_Store_config_hl : allP (hokL Try.prog (hookAt [(29, H_conf_Store_config_1), (125, H_conf_Store_config_2)]) (bodyOf Try.f56) 1) = (UnitOk Try.prog H_conf_Store_config_1 (at_ (bodyOf Try.f56) [1, 1, 0, 1]) 29 ∧ UnitOk Try.prog H_conf_Store_config_2 (at_ (bodyOf Try.f56) [1, 1, 1, 1, 0, 1]) 125 ∧ True) := by kernel_rfl

theorem T_conf_Store_config_eq (s1 : Option Addr) (b2a : Option Addr) (b2l : Nat) (b2c : Nat) (w : World) (R : Ending → World → Prop) : vcCode Try.prog (hookAt [(29, H_conf_Store_config_1), (125, H_conf_Store_config_2)]) (bodyOf Try.f56) 1 ⟨argEnv [.pointer s1, .slice b2a b2l b2c] 0, Try.f56.ntmps, []⟩ w (finQ Try.prog Try.f56.results.toList R) = T_conf_Store_config s1 b2a b2l b2c w R := by kernel_rfl

theorem T_conf_Store_config_b : Try.f56.body = some (bodyOf Try.f56) := by kernel_rfl
theorem T_conf_Store_config_s : (quietSel (bodyOf Try.f56) && Nat.ble 2 Try.f56.ntmps) = true := by kernel_rfl

theorem C_conf_Store_config {s1 : Option Addr} {b2a : Option Addr} {b2l : Nat} {b2c : Nat} {w : World} {R : Ending → World → Prop} (h : T_conf_Store_config s1 b2a b2l b2c w R) : Calls Try.prog 56 #[.pointer s1, .slice b2a b2l b2c] w R :=
  calls_of_text (args := [.pointer s1, .slice b2a b2l b2c]) mixed Try.func56 T_conf_Store_config_b T_conf_Store_config_s (HOk_of _ _ (by rw [T_conf_Store_config_hl]; exact ⟨T_conf_Store_config_1_ok, T_conf_Store_config_2_ok, trivial⟩)) (by rw [T_conf_Store_config_eq]; exact h)

/-! slices.Collect[string] -/
def T_slices_Collect_string (seq1g : FuncId) (seq1i : Array Value) (seq1c : Array Value) (w : World) (R : Ending → World → Prop) : Prop :=
  Calls Try.prog 73 #[.slice none 0 0, .func (.func seq1g) seq1i seq1c] w (ret (fun r2 w3 => ∃ s4a : Option Addr, ∃ s4l : Nat, ∃ s4c : Nat, r2 = .slice s4a s4l s4c ∧ R (.returned (.slice s4a s4l s4c)) w3) (pan R))

theorem T_slices_Collect_string_hl : allP (hokL Try.prog (hookAt []) (bodyOf Try.f48) 1) = (True) := by kernel_rfl

theorem T_slices_Collect_string_eq (seq1g : FuncId) (seq1i : Array Value) (seq1c : Array Value) (w : World) (R : Ending → World → Prop) : vcCode Try.prog (hookAt []) (bodyOf Try.f48) 1 ⟨argEnv [.func (.func seq1g) seq1i seq1c] 0, Try.f48.ntmps, []⟩ w (finQ Try.prog Try.f48.results.toList R) = T_slices_Collect_string seq1g seq1i seq1c w R := by kernel_rfl

theorem T_slices_Collect_string_b : Try.f48.body = some (bodyOf Try.f48) := by kernel_rfl
theorem T_slices_Collect_string_s : (quietSel (bodyOf Try.f48) && Nat.ble 1 Try.f48.ntmps) = true := by kernel_rfl

theorem C_slices_Collect_string {seq1g : FuncId} {seq1i : Array Value} {seq1c : Array Value} {w : World} {R : Ending → World → Prop} (h : T_slices_Collect_string seq1g seq1i seq1c w R) : Calls Try.prog 48 #[.func (.func seq1g) seq1i seq1c] w R :=
  calls_of_text (args := [.func (.func seq1g) seq1i seq1c]) mixed Try.func48 T_slices_Collect_string_b T_slices_Collect_string_s (HOk_of _ _ (by rw [T_slices_Collect_string_hl]; exact trivial)) (by rw [T_slices_Collect_string_eq]; exact h)

/-! slices.SortedFunc[tollgate/conf.place] -/
def T_slices_SortedFunc_conf_place (seq1g : FuncId) (seq1i : Array Value) (seq1c : Array Value) (cmp2g : FuncId) (cmp2i : Array Value) (cmp2c : Array Value) (w : World) (R : Ending → World → Prop) : Prop :=
  Calls Try.prog 76 #[.func (.func seq1g) seq1i seq1c] w (ret (fun r3 w4 => ∃ s5a : Option Addr, ∃ s5l : Nat, ∃ s5c : Nat, r3 = .slice s5a s5l s5c ∧ Calls Try.prog 77 #[.slice s5a s5l s5c, .func (.func cmp2g) cmp2i cmp2c] w4 (ret (fun r6 w7 => r6 = .tuple #[] ∧ R (.returned (.slice s5a s5l s5c)) w7) (pan R))) (pan R))

theorem T_slices_SortedFunc_conf_place_hl : allP (hokL Try.prog (hookAt []) (bodyOf Try.f51) 1) = (True) := by kernel_rfl

theorem T_slices_SortedFunc_conf_place_eq (seq1g : FuncId) (seq1i : Array Value) (seq1c : Array Value) (cmp2g : FuncId) (cmp2i : Array Value) (cmp2c : Array Value) (w : World) (R : Ending → World → Prop) : vcCode Try.prog (hookAt []) (bodyOf Try.f51) 1 ⟨argEnv [.func (.func seq1g) seq1i seq1c, .func (.func cmp2g) cmp2i cmp2c] 0, Try.f51.ntmps, []⟩ w (finQ Try.prog Try.f51.results.toList R) = T_slices_SortedFunc_conf_place seq1g seq1i seq1c cmp2g cmp2i cmp2c w R := by kernel_rfl

theorem T_slices_SortedFunc_conf_place_b : Try.f51.body = some (bodyOf Try.f51) := by kernel_rfl
theorem T_slices_SortedFunc_conf_place_s : (quietSel (bodyOf Try.f51) && Nat.ble 2 Try.f51.ntmps) = true := by kernel_rfl

theorem C_slices_SortedFunc_conf_place {seq1g : FuncId} {seq1i : Array Value} {seq1c : Array Value} {cmp2g : FuncId} {cmp2i : Array Value} {cmp2c : Array Value} {w : World} {R : Ending → World → Prop} (h : T_slices_SortedFunc_conf_place seq1g seq1i seq1c cmp2g cmp2i cmp2c w R) : Calls Try.prog 51 #[.func (.func seq1g) seq1i seq1c, .func (.func cmp2g) cmp2i cmp2c] w R :=
  calls_of_text (args := [.func (.func seq1g) seq1i seq1c, .func (.func cmp2g) cmp2i cmp2c]) mixed Try.func51 T_slices_SortedFunc_conf_place_b T_slices_SortedFunc_conf_place_s (HOk_of _ _ (by rw [T_slices_SortedFunc_conf_place_hl]; exact trivial)) (by rw [T_slices_SortedFunc_conf_place_eq]; exact h)

/-! maps.Keys[map[tollgate/conf.place]string,tollgate/conf.place,string] -/
def T_maps_Keys_string (m1 : Option Nat) (w : World) (R : Ending → World → Prop) : Prop :=
  let w2 : World := w.alloc (.cells #[.map m1] 60)
  R (.returned (.func (.func 78) #[] #[.pointer (some (⟨w.heap.size, 0, none⟩ : Addr))])) w2

theorem T_maps_Keys_string_hl : allP (hokL Try.prog (hookAt []) (bodyOf Try.f52) 1) = (True) := by kernel_rfl

theorem T_maps_Keys_string_eq (m1 : Option Nat) (w : World) (R : Ending → World → Prop) : vcCode Try.prog (hookAt []) (bodyOf Try.f52) 1 ⟨argEnv [.map m1] 0, Try.f52.ntmps, []⟩ w (finQ Try.prog Try.f52.results.toList R) = T_maps_Keys_string m1 w R := by kernel_rfl

theorem T_maps_Keys_string_b : Try.f52.body = some (bodyOf Try.f52) := by kernel_rfl
theorem T_maps_Keys_string_s : (quietSel (bodyOf Try.f52) && Nat.ble 1 Try.f52.ntmps) = true := by kernel_rfl

theorem C_maps_Keys_string {m1 : Option Nat} {w : World} {R : Ending → World → Prop} (h : T_maps_Keys_string m1 w R) : Calls Try.prog 52 #[.map m1] w R :=
  calls_of_text (args := [.map m1]) mixed Try.func52 T_maps_Keys_string_b T_maps_Keys_string_s (HOk_of _ _ (by rw [T_maps_Keys_string_hl]; exact trivial)) (by rw [T_maps_Keys_string_eq]; exact h)

/-! slices.Collect[tollgate/conf.place] -/
def T_slices_Collect_conf_place (seq1g : FuncId) (seq1i : Array Value) (seq1c : Array Value) (w : World) (R : Ending → World → Prop) : Prop :=
  Calls Try.prog 95 #[.slice none 0 0, .func (.func seq1g) seq1i seq1c] w (ret (fun r2 w3 => ∃ s4a : Option Addr, ∃ s4l : Nat, ∃ s4c : Nat, r2 = .slice s4a s4l s4c ∧ R (.returned (.slice s4a s4l s4c)) w3) (pan R))

theorem T_slices_Collect_conf_place_hl : allP (hokL Try.prog (hookAt []) (bodyOf Try.f76) 1) = (True) := by kernel_rfl

theorem T_slices_Collect_conf_place_eq (seq1g : FuncId) (seq1i : Array Value) (seq1c : Array Value) (w : World) (R : Ending → World → Prop) : vcCode Try.prog (hookAt []) (bodyOf Try.f76) 1 ⟨argEnv [.func (.func seq1g) seq1i seq1c] 0, Try.f76.ntmps, []⟩ w (finQ Try.prog Try.f76.results.toList R) = T_slices_Collect_conf_place seq1g seq1i seq1c w R := by kernel_rfl

theorem T_slices_Collect_conf_place_b : Try.f76.body = some (bodyOf Try.f76) := by kernel_rfl
theorem T_slices_Collect_conf_place_s : (quietSel (bodyOf Try.f76) && Nat.ble 1 Try.f76.ntmps) = true := by kernel_rfl

theorem C_slices_Collect_conf_place {seq1g : FuncId} {seq1i : Array Value} {seq1c : Array Value} {w : World} {R : Ending → World → Prop} (h : T_slices_Collect_conf_place seq1g seq1i seq1c w R) : Calls Try.prog 76 #[.func (.func seq1g) seq1i seq1c] w R :=
  calls_of_text (args := [.func (.func seq1g) seq1i seq1c]) mixed Try.func76 T_slices_Collect_conf_place_b T_slices_Collect_conf_place_s (HOk_of _ _ (by rw [T_slices_Collect_conf_place_hl]; exact trivial)) (by rw [T_slices_Collect_conf_place_eq]; exact h)

end Go.Proofs.Ytcpmfjclkdjfmaa

/-
  What is owned of memory: assertions that lie apart, as a list.
-/
namespace Go.Vc
open Go

abbrev PHeap := Nat → Option (Bool × Obj)
abbrev Asrt := PHeap → Prop
def dj (h1 h2 : PHeap) : Prop := ∀ b, h1 b = none ∨ h2 b = none ∨ ∃ o, h1 b = some (false, o) ∧ h2 b = some (false, o)
def un (h1 h2 : PHeap) : PHeap := fun b => match h1 b with | some x => some x | none => h2 b
def sepL : List Asrt → PHeap → Prop
  | [], _ => True
  | A :: L, h => ∃ h1 h2, dj h1 h2 ∧ h = un h1 h2 ∧ A h1 ∧ sepL L h2
def lies (h : PHeap) (w : World) : Prop := ∀ b f o, h b = some (f, o) → w.heap[b]? = some o
structure SameEnv (E w : World) : Prop where
  os : w.os = E.os
  tape : w.tape = E.tape
  output : w.output = E.output
def St (E : World) (L : List Asrt) (w : World) : Prop := SameEnv E w ∧ ∃ h, sepL L h ∧ lies h w

theorem dj.symm {a b : PHeap} (h : dj a b) : dj b a := fun c => by
  rcases h c with h | h | ⟨o, h1, h2⟩
  · exact .inr (.inl h)
  · exact .inl h
  · exact .inr (.inr ⟨o, h2, h1⟩)
theorem un_comm {a b : PHeap} (h : dj a b) : un a b = un b a := by
  funext c
  unfold un
  rcases h c with h | h | ⟨o, h1, h2⟩
  · rw [h]; cases hb : b c <;> rfl
  · rw [h]; cases ha : a c <;> rfl
  · rw [h1, h2]
theorem un_assoc (a b c : PHeap) : un (un a b) c = un a (un b c) := by
  funext d; unfold un; cases a d <;> rfl
theorem dj_un {a b c : PHeap} (h : dj a (un b c)) (_hb : dj b c) : dj a b ∧ dj a c := by
  refine ⟨fun d => ?_, fun d => ?_⟩
  · rcases h d with h1 | h1 | ⟨o, h1, h2⟩
    · exact .inl h1
    · unfold un at h1; cases hb : b d <;> simp [hb] at h1; exact .inr (.inl rfl)
    · unfold un at h2
      cases hb : b d <;> simp [hb] at h2
      · exact .inr (.inl rfl)
      · exact .inr (.inr ⟨o, h1, by rw [h2]⟩)
  · rcases h d with h1 | h1 | ⟨o, h1, h2⟩
    · exact .inl h1
    · unfold un at h1; cases hb : b d <;> simp [hb] at h1; exact .inr (.inl h1)
    · unfold un at h2
      cases hb : b d <;> simp [hb] at h2
      · exact .inr (.inr ⟨o, h1, h2⟩)
      · rcases _hb d with h3 | h3 | ⟨o', h3, h4⟩
        · rw [h3] at hb; cases hb
        · exact .inr (.inl h3)
        · rw [h3] at hb; injection hb with hb; rw [← hb] at h2; injection h2 with _ h2; subst h2; exact .inr (.inr ⟨_, h1, h4⟩)
theorem dj_un_left {a b c : PHeap} (h1 : dj a c) (h2 : dj b c) : dj (un a b) c := fun d => by
  unfold un
  cases ha : a d with
  | none => exact h2 d
  | some x => have := h1 d; rw [ha] at this; exact this

theorem sepL_swap {A B : Asrt} {L : List Asrt} {h : PHeap} (hs : sepL (A :: B :: L) h) : sepL (B :: A :: L) h := by
  obtain ⟨h1, h23, d1, rfl, hA, h2, h3, d2, rfl, hB, hL⟩ := hs
  obtain ⟨d12, d13⟩ := dj_un d1 d2
  refine ⟨h2, un h1 h3, ?_, ?_, hB, h1, h3, d13, rfl, hA, hL⟩
  · exact (dj_un_left d12 d2.symm).symm
  · rw [← un_assoc, ← un_assoc, un_comm d12]
theorem sepL_perm {L L' : List Asrt} (p : L.Perm L') : ∀ {h : PHeap}, sepL L h → sepL L' h := by
  induction p with
  | nil => exact fun h => h
  | cons A _ ih => rintro h ⟨h1, h2, d, e, hA, hL⟩; exact ⟨h1, h2, d, e, hA, ih hL⟩
  | swap A B L => exact fun h => sepL_swap h
  | trans _ _ ih1 ih2 => exact fun h => ih2 (ih1 h)

section
variable {E w w' : World} {A B : Asrt} {L L' : List Asrt}

theorem St.perm (h : St E L w) (p : L.Perm L') : St E L' w := let ⟨e, x, hs, hl⟩ := h; ⟨e, x, sepL_perm p hs, hl⟩
theorem St.drop (h : St E (A :: L) w) : St E L w := by
  obtain ⟨e, x, ⟨h1, h2, d, rfl, _, hL⟩, hl⟩ := h
  refine ⟨e, h2, hL, fun b f o hb => ?_⟩
  cases h1b : h1 b with
  | none => exact hl b f o (by unfold un; rw [h1b]; exact hb)
  | some x =>
    rcases d b with h' | h' | ⟨o', h', h''⟩
    · rw [h'] at h1b; cases h1b
    · rw [h'] at hb; cases hb
    · rw [h''] at hb; injection hb with hb; injection hb with _ hb; subst hb
      exact hl b false o' (by unfold un; rw [h'])
theorem St.mono (h : St E (A :: L) w) (f : ∀ x, A x → B x) : St E (B :: L) w := by
  obtain ⟨e, x, ⟨h1, h2, d, rfl, hA, hL⟩, hl⟩ := h
  exact ⟨e, _, ⟨h1, h2, d, rfl, f _ hA, hL⟩, hl⟩
/-- Bring number n to the front. -/
theorem St.f1 {A B : Asrt} (h : St E (A :: B :: L) w) : St E (B :: A :: L) w := h.perm (.swap ..)
theorem St.f2 {A B C : Asrt} (h : St E (A :: B :: C :: L) w) : St E (C :: A :: B :: L) w := h.perm ((List.Perm.cons _ (.swap ..)).trans (.swap ..))
theorem St.f3 {A B C D : Asrt} (h : St E (A :: B :: C :: D :: L) w) : St E (D :: A :: B :: C :: L) w :=
  h.perm ((List.Perm.cons _ ((List.Perm.cons _ (.swap ..)).trans (.swap ..))).trans (.swap ..))
theorem St.f4 {A B C D F : Asrt} (h : St E (A :: B :: C :: D :: F :: L) w) : St E (F :: A :: B :: C :: D :: L) w := (h.perm ((List.perm_middle (l₁ := [A, B, C, D]) (l₂ := L) (a := F))) :)
theorem St.f5 {A B C D F G : Asrt} (h : St E (A :: B :: C :: D :: F :: G :: L) w) : St E (G :: A :: B :: C :: D :: F :: L) w := (h.perm ((List.perm_middle (l₁ := [A, B, C, D, F]) (l₂ := L) (a := G))) :)
/-- Put the first one behind n others. -/
theorem St.b2 {A B C : Asrt} (h : St E (A :: B :: C :: L) w) : St E (B :: C :: A :: L) w := h.perm (List.perm_middle (l₁ := [B, C]) (l₂ := L) (a := A)).symm
theorem St.b3 {A B C D : Asrt} (h : St E (A :: B :: C :: D :: L) w) : St E (B :: C :: D :: A :: L) w := h.perm (List.perm_middle (l₁ := [B, C, D]) (l₂ := L) (a := A)).symm
theorem St.b4 {A B C D F : Asrt} (h : St E (A :: B :: C :: D :: F :: L) w) : St E (B :: C :: D :: F :: A :: L) w := h.perm (List.perm_middle (l₁ := [B, C, D, F]) (l₂ := L) (a := A)).symm
theorem perm_front (L1 : List Asrt) (A : Asrt) (L2 : List Asrt) : (L1 ++ A :: L2).Perm (A :: (L1 ++ L2)) := List.perm_middle
theorem St.front (L1 : List Asrt) {A : Asrt} {L2 : List Asrt} (h : St E (L1 ++ A :: L2) w) : St E (A :: (L1 ++ L2)) w := h.perm (perm_front _ _ _)

/-- A list of assertions as one. -/
def seps (L : List Asrt) : Asrt := sepL L
theorem sepL_append : ∀ {L1 L2 : List Asrt} {h : PHeap}, sepL (L1 ++ L2) h ↔ ∃ h1 h2, dj h1 h2 ∧ h = un h1 h2 ∧ sepL L1 h1 ∧ sepL L2 h2
  | [], L2, h => by
    constructor
    · intro hs; exact ⟨fun _ => none, h, fun _ => .inl rfl, by funext b; rfl, trivial, hs⟩
    · rintro ⟨h1, h2, d, rfl, _, hs⟩
      -- what is beside may be let go
      have : ∀ (L : List Asrt) (x y : PHeap), dj x y → sepL L y → sepL L (un x y) := by
        intro L
        induction L with
        | nil => intros; trivial
        | cons A L ih =>
          rintro x y dxy ⟨y1, y2, d, rfl, hA, hL⟩
          obtain ⟨d1, d2⟩ := dj_un dxy d
          refine ⟨y1, un x y2, (dj_un_left d1 d.symm).symm, ?_, hA, ih _ _ d2 hL⟩
          rw [← un_assoc, ← un_assoc, un_comm d1]
      exact this _ _ _ d hs
  | A :: L1, L2, h => by
    constructor
    · rintro ⟨h1, h2, d, rfl, hA, hs⟩
      obtain ⟨h3, h4, d', rfl, hs1, hs2⟩ := sepL_append.1 hs
      obtain ⟨d3, d4⟩ := dj_un d d'
      exact ⟨un h1 h3, h4, dj_un_left d4 d', (un_assoc _ _ _).symm, ⟨h1, h3, d3, rfl, hA, hs1⟩, hs2⟩
    · rintro ⟨x, h4, d', rfl, ⟨h1, h3, d3, rfl, hA, hs1⟩, hs2⟩
      obtain ⟨e1, e2⟩ := dj_un d'.symm d3
      refine ⟨h1, un h3 h4, ?_, un_assoc _ _ _, hA, sepL_append.2 ⟨h3, h4, e2.symm, rfl, hs1, hs2⟩⟩
      exact (dj_un_left d3.symm e1).symm
theorem St.open_ {L1 L2 : List Asrt} (h : St E (seps L1 :: L2) w) : St E (L1 ++ L2) w := by
  obtain ⟨e, x, ⟨h1, h2, d, rfl, hs, hL⟩, hl⟩ := h
  exact ⟨e, _, sepL_append.2 ⟨h1, h2, d, rfl, hs, hL⟩, hl⟩
theorem St.shut {L1 L2 : List Asrt} (h : St E (L1 ++ L2) w) : St E (seps L1 :: L2) w := by
  obtain ⟨e, x, hs, hl⟩ := h
  obtain ⟨h1, h2, d, rfl, h3, h4⟩ := sepL_append.1 hs
  exact ⟨e, _, ⟨h1, h2, d, rfl, h3, h4⟩, hl⟩

/-! ### blocks -/
/-- Block b is o, and ours. -/
def blk (b : Nat) (o : Obj) : Asrt := fun h => h b = some (true, o)
/-- Block b is o, and stays. -/
def ro (b : Nat) (o : Obj) : Asrt := fun h => ∃ f, h b = some (f, o)
/-- All that was there in W stays. -/
def old (W : World) : Asrt := fun h => ∀ b o, W.heap[b]? = some o → ∃ f, h b = some (f, o)

theorem St.at_blk {b : Nat} {o : Obj} (h : St E (blk b o :: L) w) : w.heap[b]? = some o := by
  obtain ⟨_, x, ⟨h1, h2, d, rfl, hA, hL⟩, hl⟩ := h
  exact hl b true o (by unfold un; rw [show h1 b = some (true, o) from hA])
theorem St.at_old {W : World} {b : Nat} {o : Obj} (h : St E (old W :: L) w) (hb : W.heap[b]? = some o) : w.heap[b]? = some o := by
  obtain ⟨_, x, ⟨h1, h2, d, rfl, hA, hL⟩, hl⟩ := h
  obtain ⟨f, hf⟩ := hA b o hb
  exact hl b f o (by unfold un; rw [hf])

/-- A block of ours is turned; nothing else that was there is. -/
theorem St.upd {b : Nat} {o o' : Obj} (h : St E (blk b o :: L) w) (he : SameEnv w w') (hb : w'.heap[b]? = some o') (hk : ∀ c, c ≠ b → c < w.heap.size → w'.heap[c]? = w.heap[c]?) : St E (blk b o' :: L) w' := by
  obtain ⟨e, x, ⟨h1, h2, d, rfl, hA, hL⟩, hl⟩ := h
  have hA' : h1 b = some (true, o) := hA
  have hb2 : h2 b = none := by
    rcases d b with h' | h' | ⟨o2, h', _⟩
    · rw [hA'] at h'; cases h'
    · exact h'
    · rw [hA'] at h'; cases h'
  refine ⟨⟨he.os.trans e.os, he.tape.trans e.tape, he.output.trans e.output⟩, un (fun c => if c = b then some (true, o') else none) h2, ⟨_, h2, fun c => ?_, rfl, by simp [blk], hL⟩, fun c f u hc => ?_⟩
  · by_cases hcb : c = b
    · subst hcb; exact .inr (.inl hb2)
    · exact .inl (by simp [hcb])
  · unfold un at hc
    by_cases hcb : c = b
    · subst hcb; simp at hc; rw [hb, hc.2]
    · simp only [hcb, if_false] at hc
      have hw : w.heap[c]? = some u := by
        cases h1c : h1 c with
        | none => exact hl c f u (by unfold un; rw [h1c]; exact hc)
        | some y =>
          rcases d c with h' | h' | ⟨o2, h', h''⟩
          · rw [h'] at h1c; cases h1c
          · rw [h'] at hc; cases hc
          · rw [h''] at hc; injection hc with hc; injection hc with _ hc; subst hc
            exact hl c false o2 (by unfold un; rw [h'])
      have hlt : c < w.heap.size := (Array.getElem?_eq_some_iff.1 hw).1
      rw [hk c hcb hlt, hw]
/-- Nothing that was there is turned. -/
theorem St.same (h : St E L w) (he : SameEnv w w') (hk : ∀ c, c < w.heap.size → w'.heap[c]? = w.heap[c]?) : St E L w' := by
  obtain ⟨e, x, hs, hl⟩ := h
  refine ⟨⟨he.os.trans e.os, he.tape.trans e.tape, he.output.trans e.output⟩, x, hs, fun b f o hb => ?_⟩
  have hw := hl b f o hb
  rw [hk b (Array.getElem?_eq_some_iff.1 hw).1, hw]
theorem St.add_new {b : Nat} {o : Obj} (h : St E L w) (he : SameEnv w w') (hlt : w.heap.size ≤ b) (hb : w'.heap[b]? = some o) (hk : ∀ c, c < w.heap.size → w'.heap[c]? = w.heap[c]?) : St E (blk b o :: L) w' := by
  obtain ⟨e, x, hs, hl⟩ := h
  have hxb : x b = none := by
    cases hx : x b with
    | none => rfl
    | some y => have := (Array.getElem?_eq_some_iff.1 (hl b y.1 y.2 hx)).1; omega
  refine ⟨⟨he.os.trans e.os, he.tape.trans e.tape, he.output.trans e.output⟩, un (fun c => if c = b then some (true, o) else none) x, ⟨_, x, fun c => ?_, rfl, by simp [blk], hs⟩, fun c f u hc => ?_⟩
  · by_cases hcb : c = b
    · subst hcb; exact .inr (.inl hxb)
    · exact .inl (by simp [hcb])
  · unfold un at hc
    by_cases hcb : c = b
    · subst hcb; simp at hc; rw [hb, hc.2]
    · simp only [hcb, if_false] at hc
      have hw := hl c f u hc
      rw [hk c (Array.getElem?_eq_some_iff.1 hw).1, hw]

theorem SameEnv.refl (w : World) : SameEnv w w := ⟨rfl, rfl, rfl⟩
theorem St.alloc (h : St E L w) (o : Obj) : St E (blk w.heap.size o :: L) (w.alloc o) :=
  h.add_new ⟨rfl, rfl, rfl⟩ (Nat.le_refl _) (by show (w.heap.push o)[w.heap.size]? = some o; simp) fun c hc => by
    show (w.heap.push o)[c]? = _
    rw [Array.getElem?_push, if_neg (by omega)]
theorem St.drew (h : St E L w) : St E L w.drew := h.same ⟨rfl, rfl, rfl⟩ fun _ _ => rfl
theorem St.drewN (h : St E L w) (n : Nat) : St E L { w with drawn := n } := h.same ⟨rfl, rfl, rfl⟩ fun _ _ => rfl

end
end Go.Vc

/-
  Rows of cells, slices: reading, writing, appending.
-/
namespace Go.Vc
open Go

abbrev blkL (b : Nat) (t : TypeId) (l : List Value) : Asrt := blk b (.cells ⟨l⟩ t (0, 0))
theorem add_mk (b o n : Nat) : (⟨b, o, none⟩ : Addr).add n = ⟨b, o + n, none⟩ := by
  unfold Addr.add
  split
  · rename_i h; subst h; rfl
  · rfl

section
variable {E w : World} {L : List Asrt} {b t off : Nat} {l : List Value} {fr : Nat × Nat}

theorem cell_of (hb : w.heap[b]? = some (.cells ⟨l⟩ t fr)) (off : Nat) : w.cell? ⟨b, off, none⟩ = l[off]? := by
  unfold World.cell?
  rw [hb]
  simp
theorem frozen_of (hb : w.heap[b]? = some (.cells ⟨l⟩ t (0, 0))) (off : Nat) : w.frozen? ⟨b, off, none⟩ = false := by
  unfold World.frozen?
  rw [hb]
  simp
theorem cells_one {v : Value} (h : one v = true) : v.cells = #[v] := by cases v <;> first | rfl | cases h
theorem rd_cell {v : Value} (hb : w.heap[b]? = some (.cells ⟨l⟩ t fr)) (hv : l[off]? = some v) (ho : one v = true) : rd w ⟨b, off, none⟩ v := by
  intro i u hu
  rw [cells_one ho] at hu
  cases i with
  | succ i => simp at hu
  | zero =>
    simp at hu
    subst hu
    rw [add_mk, cell_of hb]
    exact hv
theorem rd_agg {xs : List Value} (hb : w.heap[b]? = some (.cells ⟨l⟩ t fr)) (hv : ∀ i u, xs[i]? = some u → l[off + i]? = some u) : rd w ⟨b, off, none⟩ (.agg ⟨xs⟩) := by
  intro i u hu
  rw [add_mk, cell_of hb]
  exact hv i u (by simpa [Value.cells] using hu)
theorem wrOk_cell {v : Value} (hb : w.heap[b]? = some (.cells ⟨l⟩ t (0, 0))) (hoff : off < l.length) (ho : one v = true) : wrOk w ⟨b, off, none⟩ v := by
  intro i u hu
  rw [cells_one ho] at hu
  cases i with
  | succ i => simp at hu
  | zero =>
    simp at hu
    subst hu
    exact ⟨ho, ⟨l[off], by rw [add_mk, cell_of hb]; exact List.getElem?_eq_getElem hoff⟩, by rw [add_mk]; exact frozen_of hb _⟩
theorem wrOk_agg {xs : List Value} (hb : w.heap[b]? = some (.cells ⟨l⟩ t (0, 0))) (hoff : off + xs.length ≤ l.length) (ho : ∀ u ∈ xs, one u = true) : wrOk w ⟨b, off, none⟩ (.agg ⟨xs⟩) := by
  intro i u hu
  have hu' : xs[i]? = some u := by simpa [Value.cells] using hu
  have hlt : i < xs.length := (List.getElem?_eq_some_iff.1 hu').1
  exact ⟨ho u (List.mem_of_getElem? hu'), ⟨l[off + i]'(by omega), by rw [add_mk, cell_of hb]; exact List.getElem?_eq_getElem _⟩, by rw [add_mk]; exact frozen_of hb _⟩

def setAll (l : List Value) (off : Nat) : List Value → List Value
  | [] => l
  | v :: r => setAll (l.set off v) (off + 1) r
theorem heap_setCell_at (hb : w.heap[b]? = some (.cells ⟨l⟩ t fr)) (v : Value) : (w.setCell ⟨b, off, none⟩ v).heap[b]? = some (.cells ⟨l.set off v⟩ t fr) := by
  simp [World.setCell, Array.getElem?_modify, hb]
theorem heap_setCell_ne {a : Addr} {c : Nat} (h : c ≠ a.block) (v : Value) : (w.setCell a v).heap[c]? = w.heap[c]? := by
  simp only [World.setCell, Array.getElem?_modify]
  rw [if_neg (fun e => h e.symm)]
theorem SameEnv.setCell (w : World) (a : Addr) (v : Value) : SameEnv w (w.setCell a v) := ⟨rfl, rfl, rfl⟩
theorem SameEnv.trans {a b c : World} (h : SameEnv a b) (k : SameEnv b c) : SameEnv a c := ⟨k.os.trans h.os, k.tape.trans h.tape, k.output.trans h.output⟩
theorem wrL_all : ∀ (xs : List Value) (i : Nat) (w : World) (l : List Value), w.heap[b]? = some (.cells ⟨l⟩ t fr) →
    (wrL w ⟨b, off, none⟩ xs i).heap[b]? = some (.cells ⟨setAll l (off + i) xs⟩ t fr) ∧ SameEnv w (wrL w ⟨b, off, none⟩ xs i) ∧ ∀ c, c ≠ b → (wrL w ⟨b, off, none⟩ xs i).heap[c]? = w.heap[c]?
  | [], _, w, _, h => ⟨h, .refl w, fun _ _ => rfl⟩
  | v :: r, i, w, l, h => by
    have h1 := heap_setCell_at (off := off + i) h v
    obtain ⟨h2, h3, h4⟩ := wrL_all r (i + 1) (w.setCell ((⟨b, off, none⟩ : Addr).add i) v) (l.set (off + i) v) (by rw [add_mk]; exact h1)
    refine ⟨?_, .trans (.setCell ..) h3, fun c hc => (h4 c hc).trans ?_⟩
    · exact h2
    · rw [add_mk]; exact heap_setCell_ne hc v
theorem St.wr_any {u : Value} (h : St E (blkL b t l :: L) w) : St E (blkL b t (setAll l off u.cells.toList) :: L) (wr w ⟨b, off, none⟩ u) := by
  obtain ⟨h1, h2, h3⟩ := wrL_all (off := off) u.cells.toList 0 w l h.at_blk
  exact h.upd h2 h1 fun c hc _ => h3 c hc
theorem St.wr_cell {v : Value} (h : St E (blkL b t l :: L) w) (ho : one v = true) : St E (blkL b t (l.set off v) :: L) (wr w ⟨b, off, none⟩ v) := by
  have := h.wr_any (off := off) (u := v)
  rw [cells_one ho] at this
  exact this
theorem setAll_eq : ∀ (xs l : List Value) (off : Nat), off + xs.length ≤ l.length → setAll l off xs = l.take off ++ xs ++ l.drop (off + xs.length)
  | [], l, off, _ => by simp [setAll]
  | v :: r, l, off, h => by
    simp only [List.length_cons] at h
    rw [setAll, setAll_eq r (l.set off v) (off + 1) (by simp; omega)]
    have hlt : off < l.length := by omega
    rw [List.take_set, List.drop_set]
    rw [if_pos (by omega)]
    rw [show (off + 1 + r.length) = off + (r.length + 1) from by omega]
    have : (l.take (off + 1)).set off v = l.take off ++ [v] := by
      rw [List.take_succ_eq_append_getElem hlt, List.set_append]
      simp [Nat.min_eq_left (Nat.le_of_lt hlt)]
    rw [this]
    simp
theorem St.wr_agg {xs : List Value} (h : St E (blkL b t l :: L) w) (hl : off + xs.length ≤ l.length) : St E (blkL b t (l.take off ++ xs ++ l.drop (off + xs.length)) :: L) (wr w ⟨b, off, none⟩ (.agg ⟨xs⟩)) := by
  have := h.wr_any (off := off) (u := .agg ⟨xs⟩)
  rw [show (Value.agg ⟨xs⟩).cells.toList = xs from rfl, setAll_eq _ _ _ hl] at this
  exact this
theorem St.wr_agg0 {xs : List Value} (h : St E (blkL b t l :: L) w) (hl : xs.length = l.length) : St E (blkL b t xs :: L) (wr w ⟨b, 0, none⟩ (.agg ⟨xs⟩)) := by
  have := h.wr_agg (off := 0) (xs := xs) (by omega)
  simpa [hl] using this
end

/-! ### slices -/

/-- A slice of ours: its elements' cells, in a row of its own. -/
def ownS (a : Option Addr) (l c : Nat) (e : TypeId) (sz : Nat) (xs : List Value) : Asrt := fun h =>
  xs.length = l * sz ∧ l ≤ c ∧ c ≤ maxLen ∧ ((a = none ∧ c = 0) ∨ ∃ g rest, a = some ⟨g, 0, none⟩ ∧ rest.length = (c - l) * sz ∧ h g = some (true, .cells ⟨xs ++ rest⟩ e (0, 0)))
/-- A slice that is read alone. -/
def roS (a : Option Addr) (l sz : Nat) (xs : List Value) : Asrt := fun h =>
  xs.length = l * sz ∧ (l = 0 ∨ ∃ g off cs t fr f, a = some ⟨g, off, none⟩ ∧ h g = some (f, .cells ⟨cs⟩ t fr) ∧ ∀ i u, xs[i]? = some u → cs[off + i]? = some u)

section
variable {E w : World} {L : List Asrt} {a : Option Addr} {l c sz : Nat} {e : TypeId} {xs : List Value}

theorem St.ownS_facts (h : St E (ownS a l c e sz xs :: L) w) : xs.length = l * sz ∧ l ≤ c ∧ c ≤ maxLen := by
  obtain ⟨_, x, ⟨h1, h2, d, rfl, hA, _⟩, _⟩ := h
  exact ⟨hA.1, hA.2.1, hA.2.2.1⟩
theorem St.roS_facts (h : St E (roS a l sz xs :: L) w) : xs.length = l * sz := by
  obtain ⟨_, x, ⟨h1, h2, d, rfl, hA, _⟩, _⟩ := h
  exact hA.1
/-- An owned slice that is not nil, as its block. -/
theorem St.ownS_open (h : St E (ownS a l c e sz xs :: L) w) : (a = none ∧ l = 0 ∧ c = 0 ∧ xs = []) ∨ ∃ g rest, a = some ⟨g, 0, none⟩ ∧ rest.length = (c - l) * sz ∧ St E (blkL g e (xs ++ rest) :: L) w := by
  obtain ⟨en, x, ⟨h1, h2, d, rfl, ⟨p1, p2, p3, hA⟩, hL⟩, hl⟩ := h
  rcases hA with ⟨ha, hc⟩ | ⟨g, rest, ha, hr, hg⟩
  · have hl0 : l = 0 := by omega
    subst hl0
    exact .inl ⟨ha, rfl, hc, List.eq_nil_of_length_eq_zero (by simpa using p1)⟩
  · exact .inr ⟨g, rest, ha, hr, en, _, ⟨h1, h2, d, rfl, hg, hL⟩, hl⟩
theorem St.ownS_nil (h : St E L w) : St E (ownS none 0 0 e sz [] :: L) w := by
  obtain ⟨en, x, hs, hl⟩ := h
  exact ⟨en, x, ⟨fun _ => none, x, fun _ => .inl rfl, by funext b; rfl, ⟨by simp, Nat.le_refl _, Nat.zero_le _, .inl ⟨rfl, rfl⟩⟩, hs⟩, hl⟩
theorem St.ownS_mk {g : Nat} {rest : List Value} (h : St E (blkL g e (xs ++ rest) :: L) w) (h1 : xs.length = l * sz) (h2 : l ≤ c) (h3 : c ≤ maxLen) (hr : rest.length = (c - l) * sz) : St E (ownS (some ⟨g, 0, none⟩) l c e sz xs :: L) w :=
  h.mono fun _ hx => ⟨h1, h2, h3, .inr ⟨g, rest, rfl, hr, hx⟩⟩
theorem St.ownS_ro (h : St E (ownS a l c e sz xs :: L) w) : St E (roS a l sz xs :: L) w := h.mono fun x ⟨h1, h2, h3, hA⟩ => ⟨h1, by
  rcases hA with ⟨ha, hc⟩ | ⟨g, rest, ha, hr, hg⟩
  · exact .inl (by omega)
  · exact .inr ⟨g, 0, _, _, _, _, ha, hg, fun i u hu => by
      rw [Nat.zero_add, List.getElem?_append_left (List.getElem?_eq_some_iff.1 hu).1]; exact hu⟩⟩
/-- Where a read slice lies. -/
theorem St.roS_at (h : St E (roS a l sz xs :: L) w) (hl : 0 < l) : ∃ g off cs t fr, a = some ⟨g, off, none⟩ ∧ w.heap[g]? = some (.cells ⟨cs⟩ t fr) ∧ ∀ i u, xs[i]? = some u → cs[off + i]? = some u := by
  obtain ⟨_, x, ⟨h1, h2, d, rfl, ⟨_, hA⟩, _⟩, hh⟩ := h
  rcases hA with h0 | ⟨g, off, cs, t, fr, f, ha, hg, hc⟩
  · omega
  · exact ⟨g, off, cs, t, fr, ha, hh g f _ (by unfold un; rw [hg]), hc⟩
theorem one_oneCell {u : Value} (h : one u = true) : u.oneCell' = true := by cases u <;> first | rfl | cases h

end
end Go.Vc

/-
  Slices as rows of elements: reading, writing, appending, cutting.
-/
namespace Go.Vc
open Go

theorem ite_d {p : Prop} [Decidable p] {A B : Prop} (h1 : p → A) (h2 : ¬ p → B) : if decide p = true then A else B := by
  by_cases h : p
  · rw [if_pos (by simpa using h)]; exact h1 h
  · rw [if_neg (by simpa using h)]; exact h2 h
theorem ite_b {b : Bool} {A B : Prop} (h1 : b = true → A) (h2 : b = false → B) : if b = true then A else B := by
  cases b
  · exact h2 rfl
  · exact h1 rfl
theorem ite_n {b : Bool} {A B : Prop} (h1 : b = false → A) (h2 : b = true → B) : if (!b) = true then A else B := by
  cases b
  · exact h1 rfl
  · exact h2 rfl
theorem ite_some {α : Type} {a : α} {A B : Prop} (h : B) : if (some a).isNone = true then A else B := h
theorem ite_none {α : Type} {A B : Prop} (h : A) : if (none : Option α).isNone = true then A else B := h
/-- In world w the slice reads so. -/
def RdS (w : World) (a : Option Addr) (l sz : Nat) (xs : List Value) : Prop :=
  xs.length = l * sz ∧ (l = 0 ∨ ∃ g off, a = some ⟨g, off, none⟩ ∧ ∀ i u, xs[i]? = some u → w.cell? ⟨g, off + i, none⟩ = some u)

section
variable {E w : World} {L : List Asrt} {a : Option Addr} {l c sz : Nat} {e : TypeId} {xs : List Value}

theorem St.rdS (h : St E (roS a l sz xs :: L) w) : RdS w a l sz xs := by
  refine ⟨h.roS_facts, ?_⟩
  rcases Nat.eq_zero_or_pos l with h0 | h0
  · exact .inl h0
  · obtain ⟨g, off, cs, t, fr, ha, hg, hc⟩ := h.roS_at h0
    exact .inr ⟨g, off, ha, fun i u hu => by rw [cell_of hg]; exact hc i u hu⟩
theorem St.rdS_own (h : St E (ownS a l c e sz xs :: L) w) : RdS w a l sz xs := h.ownS_ro.rdS
theorem RdS.cells (h : RdS w a l sz xs) (hl : 0 < l) : ∃ ad, a = some ad ∧ ad.spot = none ∧ ∀ i u, xs[i]? = some u → w.cell? (ad.add i) = some u := by
  rcases h.2 with h0 | ⟨g, off, ha, hc⟩
  · omega
  · exact ⟨_, ha, rfl, fun i u hu => by rw [add_mk]; exact hc i u hu⟩
theorem RdS.grow {w' : World} (h : RdS w a l sz xs) (hk : ∀ b, b < w.heap.size → w'.heap[b]? = w.heap[b]?) : RdS w' a l sz xs := by
  refine ⟨h.1, h.2.imp id fun ⟨g, off, ha, hc⟩ => ⟨g, off, ha, fun i u hu => ?_⟩⟩
  have := hc i u hu
  have hlt : g < w.heap.size := by
    rcases Nat.lt_or_ge g w.heap.size with h' | h'
    · exact h'
    · simp [World.cell?, Array.getElem?_eq_none h'] at this
  rw [← this]
  unfold World.cell?
  rw [hk g hlt]
theorem RdS.alloc (h : RdS w a l sz xs) (o : Obj) : RdS (w.alloc o) a l sz xs := h.grow fun b hb => by
  show (w.heap.push o)[b]? = _
  rw [Array.getElem?_push, if_neg (by omega)]
theorem RdS.nil (w : World) (a : Option Addr) : RdS w a 0 sz [] := ⟨by simp, .inl rfl⟩
theorem RdS.sub (h : RdS w a l sz xs) {lo hi : Nat} (h1 : lo ≤ hi) (h2 : hi ≤ l) (c0 : Nat) (hc : hi ≤ c0) :
    RdS w (if c0 = lo then a else a.map fun x => x.add (lo * sz)) (hi - lo) sz ((xs.drop (lo * sz)).take ((hi - lo) * sz)) := by
  have hlen := h.1
  refine ⟨?_, ?_⟩
  · rw [List.length_take, List.length_drop, hlen, ← Nat.sub_mul]
    exact Nat.min_eq_left (Nat.mul_le_mul_right _ (by omega))
  · rcases Nat.eq_zero_or_pos (hi - lo) with h0 | h0
    · exact .inl h0
    · rcases h.2 with h0' | ⟨g, off, ha, hcs⟩
      · omega
      · rw [if_neg (by omega), ha]
        refine .inr ⟨g, off + lo * sz, by simp [add_mk], fun i u hu => ?_⟩
        rw [Nat.add_assoc]
        refine hcs _ _ ?_
        rw [List.getElem?_take] at hu
        split at hu
        · rwa [List.getElem?_drop] at hu
        · cases hu
theorem RdS.rd_cell (h : RdS w a l sz xs) {ad : Addr} (ha : a = some ad) (hl : 0 < l) {i : Nat} {v : Value} (hv : xs[i]? = some v) (ho : one v = true) : rd w (ad.add i) v := by
  obtain ⟨ad', ha', _, hc⟩ := h.cells hl
  rw [ha] at ha'; injection ha' with ha'; subst ha'
  intro j u hu
  rw [cells_one ho] at hu
  cases j with
  | succ j => simp at hu
  | zero =>
    simp at hu
    subst hu
    have := hc i v hv
    obtain ⟨g, off, spot⟩ := ad
    unfold Addr.add at this ⊢
    simpa using this
theorem RdS.rd_agg (h : RdS w a l sz xs) {ad : Addr} (ha : a = some ad) (hl : 0 < l) {o : Nat} {vs : List Value} (hv : ∀ i u, vs[i]? = some u → xs[o + i]? = some u) : rd w (ad.add o) (.agg ⟨vs⟩) := by
  rcases h.2 with h0 | ⟨g, off, ha', hc⟩
  · omega
  · rw [ha] at ha'; injection ha' with ha'; subst ha'
    intro i u hu
    rw [add_mk, add_mk, Nat.add_assoc]
    exact hc _ _ (hv i u (by simpa [Value.cells] using hu))
/-- 'append(s, x...)': s ours, x whatever is read. -/
theorem append_own {P : Program} {t ty e : TypeId} {i : TypeInfo} {z : Value} (ht : P.underlying t = some (.slice e)) (hi : P.info? e = some i) (hz : i.zero = some z) (hzs : z.cells.size = i.size) (hsz : 0 < i.size)
    {a a2 : Option Addr} {l c l2 c2 : Nat} {xs ys : List Value} (h : St E (ownS a l c e i.size xs :: L) w) (hro : RdS w a2 l2 i.size ys) (h1 : ∀ u ∈ ys, one u = true) (hb : (l + l2) * i.bytes ≤ 140737488355328) (h63 : l + l2 ≤ maxLen) :
    ∃ a' c' w', (Builtin.append_ #[t, t] ty #[.slice a l c, .slice a2 l2 c2]).run P w = .ok (.slice a' (l + l2) c') w' ∧ St E (ownS a' (l + l2) c' e i.size (xs ++ ys) :: L) w' := by
  have hfact := h.ownS_facts
  have hrol := hro.1
  cases a2 with
  | none =>
    have hl2 : l2 = 0 := by
      rcases Nat.eq_zero_or_pos l2 with h0 | h0
      · exact h0
      · obtain ⟨ad, ha, _⟩ := hro.cells h0; cases ha
    subst hl2
    have hys : ys = [] := List.eq_nil_of_length_eq_zero (by simpa using hrol)
    subst hys
    refine ⟨a, c, w, ?_, by simpa using h⟩
    rcases h.ownS_open with ⟨rfl, rfl, rfl, rfl⟩ | ⟨g, rest, rfl, _, _⟩
    · simp [Builtin.append_, run_underlying_ ht, sizeOf, typeInfo, hi, Builtin.lenOf, Builtin.firstCells, program, Sem.run]
    · simp [Builtin.append_, run_underlying_ ht, sizeOf, typeInfo, hi, Builtin.lenOf, Builtin.firstCells, hfact.2.1, storeCells, program, Sem.run]
  | some ad =>
    have hcells : ∀ j u, ys[j]? = some u → w.cell? (ad.add j) = some u := by
      intro j u hu
      rcases Nat.eq_zero_or_pos l2 with h0 | h0
      · subst h0
        have hys : ys = [] := List.eq_nil_of_length_eq_zero (by simpa using hrol)
        subst hys
        simp at hu
      · obtain ⟨ad', ha, _, hc⟩ := hro.cells h0
        injection ha with ha; subst ha
        exact hc j u hu
    have hown : w.ownsRow 0 e i.size (.slice a l c) l xs := by
      refine ⟨hfact.1, ?_⟩
      rcases h.ownS_open with ⟨rfl, rfl, rfl, rfl⟩ | ⟨g, rest, rfl, hr, hs⟩
      · exact .inl ⟨rfl, rfl⟩
      · refine .inr ⟨g, c, ⟨xs ++ rest⟩, rfl, Nat.zero_le _, hs.at_blk, hfact.2.1, hfact.2.2, ?_, ?_⟩
        · simp only [List.size_toArray, List.length_append, hfact.1, hr, ← Nat.add_mul]
          rw [show l + (c - l) = c from by omega]
        · simp [hfact.1]
    obtain ⟨v', w', hrun, hown', hgrow, _, hat⟩ := run_append_own_at (P := P) w 0 t ty e i z i.size i.bytes ht hi hz rfl rfl hzs hsz (.slice a l c) l xs hown ad l2 c2 ys hrol hcells (fun u hu => one_oneCell (h1 u hu)) h63 hb (Nat.zero_le _)
    have henv : SameEnv w w' := ⟨hgrow.os, hgrow.tape, hgrow.output⟩
    rcases hown'.2 with ⟨rfl, hn0⟩ | ⟨g', cap, cur, rfl, _, hg', hcap, hcapm, hcur, htake⟩
    · -- nothing at all
      have hl0 : l = 0 := by omega
      have hl20 : l2 = 0 := by omega
      subst hl0; subst hl20
      have hys : ys = [] := List.eq_nil_of_length_eq_zero (by simpa using hrol)
      have hxs : xs = [] := List.eq_nil_of_length_eq_zero (by simpa using hfact.1)
      subst hys; subst hxs
      refine ⟨none, 0, w', hrun, St.ownS_nil (h.drop.same henv fun b hb => ?_)⟩
      refine hgrow.block b hb ?_
      rcases hat with e | e
      · rw [← e]; simp [Value.ownBlock]
      · cases e
    · have hsplit : cur = ⟨(xs ++ ys) ++ cur.toList.drop ((l + l2) * i.size)⟩ := by
        apply Array.ext'
        show cur.toList = _
        rw [← htake, List.take_append_drop]
      have hrl : (cur.toList.drop ((l + l2) * i.size)).length = (cap - (l + l2)) * i.size := by
        rw [List.length_drop, Array.length_toList, hcur, Nat.sub_mul]
      have hlen : (xs ++ ys).length = (l + l2) * i.size := hown'.1
      refine ⟨some ⟨g', 0, none⟩, cap, w', hrun, St.ownS_mk (rest := cur.toList.drop ((l + l2) * i.size)) ?_ hlen hcap hcapm hrl⟩
      have hg2 : w'.heap[g']? = some (.cells ⟨(xs ++ ys) ++ cur.toList.drop ((l + l2) * i.size)⟩ e (0, 0)) := by rw [← hsplit]; exact hg'
      rcases hat with e1 | e1
      · -- in its own row
        rcases h.ownS_open with ⟨rfl, rfl, rfl, rfl⟩ | ⟨g, rest, rfl, hr, hs⟩
        · simp [Value.ownBlock] at e1
        · have hgg : g' = g := by simpa [Value.ownBlock] using e1
          subst hgg
          exact hs.upd henv hg2 fun b hb hlt => hgrow.block b hlt (by simpa [Value.ownBlock] using fun e => hb e)
      · -- in a new one
        have hgg : g' = w.heap.size := by simpa [Value.ownBlock] using e1
        subst hgg
        rcases h.ownS_open with ⟨rfl, rfl, rfl, rfl⟩ | ⟨g, rest, rfl, hr, hs⟩
        · exact (h.drop.add_new henv (Nat.le_refl _) hg2 fun b hb => hgrow.block b hb (by simp [Value.ownBlock]))
        · -- what was the old row is let go
          have hk : ∀ b, b < w.heap.size → b ≠ g → w'.heap[b]? = w.heap[b]? := fun b hb hne => hgrow.block b hb (by simpa [Value.ownBlock] using fun e => hne e)
          have hglt : g < w.heap.size := (Array.getElem?_eq_some_iff.1 hs.at_blk).1
          have hglt' : g < w'.heap.size := Nat.lt_of_lt_of_le hglt hgrow.size
          have hs2 : St E (blk g w'.heap[g] :: L) w' := hs.upd henv (Array.getElem?_eq_getElem hglt') fun b hb hlt => hk b hlt hb
          have hs3 := hs2.drop
          obtain ⟨en, x, hsx, hlx⟩ := hs.drop
          -- the rest lies in w, apart from g
          have hs4 : St E (blk w.heap.size (.cells ⟨(xs ++ ys) ++ cur.toList.drop ((l + l2) * i.size)⟩ e (0, 0)) :: L) w' := by
            obtain ⟨en', y, ⟨y1, y2, d, rfl, hA, hL⟩, hl⟩ := hs
            have hA' : y1 g = some (true, .cells ⟨xs ++ rest⟩ e (0, 0)) := hA
            have hy2g : y2 g = none := by
              rcases d g with h' | h' | ⟨o, h', _⟩
              · rw [hA'] at h'; cases h'
              · exact h'
              · rw [hA'] at h'; cases h'
            have hl2' : ∀ b f o, y2 b = some (f, o) → w.heap[b]? = some o := by
              intro b f o hb
              cases hy1 : y1 b with
              | none => exact hl b f o (by unfold un; rw [hy1]; exact hb)
              | some q =>
                rcases d b with h' | h' | ⟨o', h', h''⟩
                · rw [h'] at hy1; cases hy1
                · rw [h'] at hb; cases hb
                · rw [h''] at hb; injection hb with hb; injection hb with _ hb; subst hb
                  exact hl b false o' (by unfold un; rw [h'])
            have hnew : y2 w.heap.size = none := by
              cases hc : y2 w.heap.size with
              | none => rfl
              | some q => have := (Array.getElem?_eq_some_iff.1 (hl2' _ q.1 q.2 hc)).1; omega
            refine ⟨⟨henv.os.trans en'.os, henv.tape.trans en'.tape, henv.output.trans en'.output⟩, un (fun b => if b = w.heap.size then some (true, .cells ⟨(xs ++ ys) ++ cur.toList.drop ((l + l2) * i.size)⟩ e (0, 0)) else none) y2, ⟨_, y2, fun b => ?_, rfl, by simp [blk], hL⟩, fun b f o hb => ?_⟩
            · by_cases hbs : b = w.heap.size
              · subst hbs; exact .inr (.inl hnew)
              · exact .inl (by simp [hbs])
            · unfold un at hb
              by_cases hbs : b = w.heap.size
              · subst hbs
                simp only [if_true] at hb
                injection hb with hb
                injection hb with _ hb
                rw [hg2, ← hb]
              · simp only [hbs, if_false] at hb
                have hw := hl2' b f o hb
                have hne : b ≠ g := fun e => by subst e; rw [hy2g] at hb; cases hb
                rw [hk b (Array.getElem?_eq_some_iff.1 hw).1 hne, hw]
          exact hs4
end

/-- What is owned tells what the slice reads as. -/
def Sees (E : World) (L : List Asrt) (a : Option Addr) (l sz : Nat) (xs : List Value) : Prop := ∀ w, St E L w → RdS w a l sz xs
theorem Sees.more {E : World} {L : List Asrt} {a : Option Addr} {l sz : Nat} {xs : List Value} (h : Sees E L a l sz xs) (A : Asrt) : Sees E (A :: L) a l sz xs := fun w hw => h w hw.drop

section
variable {E w : World} {L : List Asrt} {b t k : Nat} {l : List Value} {fr : Nat × Nat} {v : Value}
theorem rd_fld (hb : w.heap[b]? = some (.cells ⟨l⟩ t fr)) (hv : l[k]? = some v) (ho : one v = true) : rd w ((⟨b, 0, none⟩ : Addr).add k) v := by
  rw [add_mk, Nat.zero_add]; exact Go.Vc.rd_cell hb hv ho
theorem wrOk_fld (hb : w.heap[b]? = some (.cells ⟨l⟩ t (0, 0))) (hk : k < l.length) (ho : one v = true) : wrOk w ((⟨b, 0, none⟩ : Addr).add k) v := by
  rw [add_mk, Nat.zero_add]; exact wrOk_cell hb hk ho
theorem St.wr_fld (h : St E (blkL b t l :: L) w) (ho : one v = true) : St E (blkL b t (l.set k v) :: L) (wr w ((⟨b, 0, none⟩ : Addr).add k) v) := by
  rw [add_mk, Nat.zero_add]; exact h.wr_cell ho
end

/-! ### elements -/
section
variable {α : Type} {f : α → List Value} {sz : Nat}
theorem flat_len (hf : ∀ q, (f q).length = sz) : ∀ (qs : List α), (qs.flatMap f).length = qs.length * sz
  | [] => by simp
  | q :: r => by simp only [List.flatMap_cons, List.length_append, List.length_cons, hf, flat_len hf r, Nat.add_mul]; omega
theorem flat_get (hf : ∀ q, (f q).length = sz) : ∀ (qs : List α) (j k : Nat) (q : α), qs[j]? = some q → k < sz → (qs.flatMap f)[j * sz + k]? = (f q)[k]?
  | [], j, k, q, h, _ => by simp at h
  | p :: r, 0, k, q, h, hk => by
    simp at h; subst h
    rw [List.flatMap_cons, Nat.zero_mul, Nat.zero_add, List.getElem?_append_left (by rw [hf]; exact hk)]
  | p :: r, j + 1, k, q, h, hk => by
    rw [List.flatMap_cons, List.getElem?_append_right (by rw [hf, Nat.add_mul]; omega), hf, show (j + 1) * sz + k - sz = j * sz + k from by rw [Nat.add_mul]; omega]
    exact flat_get hf r j k q (by simpa using h) hk
variable {E w : World} {L : List Asrt} {a : Option Addr} {l c : Nat} {e : TypeId} {qs : List α}
theorem RdS.elem (h : RdS w a l sz (qs.flatMap f)) (hf : ∀ q, (f q).length = sz) {j : Nat} {q : α} (hj : qs[j]? = some q) (h0 : 0 < sz) : ∃ ad, a = some ad ∧ rd w (ad.add (j * sz)) (.agg ⟨f q⟩) ∧ ∀ k v, (f q)[k]? = some v → one v = true → rd w ((ad.add (j * sz)).add k) v := by
  have hl : qs.length = l := by have := h.1; rw [flat_len hf] at this; exact Nat.eq_of_mul_eq_mul_right h0 this
  have hjl : j < qs.length := (List.getElem?_eq_some_iff.1 hj).1
  have hk : ∀ k u, (f q)[k]? = some u → (qs.flatMap f)[j * sz + k]? = some u := fun k u hu => by
    rw [flat_get hf qs j k q hj (by have := (List.getElem?_eq_some_iff.1 hu).1; rwa [hf] at this)]; exact hu
  obtain ⟨ad, ha, hs, hc⟩ := h.cells (by omega)
  refine ⟨ad, ha, h.rd_agg ha (by omega) hk, fun k v hv ho => ?_⟩
  have := h.rd_cell ha (by omega) (hk k v hv) ho
  obtain ⟨g, off, spot⟩ := ad
  cases hs
  rw [add_mk, add_mk] at *
  rw [Nat.add_assoc]; exact this
theorem RdS.count (h : RdS w a l sz (qs.flatMap f)) (hf : ∀ q, (f q).length = sz) (h0 : 0 < sz) : qs.length = l := by
  have := h.1; rw [flat_len hf] at this; exact Nat.eq_of_mul_eq_mul_right h0 this
end

section
variable {E w : World} {L : List Asrt} {a : Option Addr} {l c sz : Nat} {e : TypeId} {xs : List Value}
end
section
variable {P : Program} {E w : World} {L : List Asrt} {t ty e : TypeId} {i : TypeInfo} {z : Value}
theorem wr_agg_of {w : World} {a : Addr} {vs : List Value} : wr w a (.agg ⟨vs⟩) = wrL w a vs 0 := rfl
end
end Go.Vc

/-
  Maps of ours.
-/
namespace Go.Vc
open Go

/-- What is asked of the keys: kv lays a key as a value of the key's type. -/
structure KeyLaw {κ : Type} [DecidableEq κ] (P : Program) (kt : TypeId) (d : TypeDesc) (kv : κ → Value) : Prop where
  und : P.underlying kt = some d
  eq : ∀ a b w, (Op.equal kt (kv a) (kv b)).run P w = .ok (decide (a = b)) w
  chk : ∀ a e w, (Instr.checkKey e 10000 kt (kv a)).run P w = .ok () w
  now : ∀ a b r, Instr.sameNow d (kv a) (kv b) = some r → r = decide (a = b)
  bits : ∀ a, Instr.sameBits 10000 (kv a) (kv a) = true

section
variable {κ ν : Type} [DecidableEq κ] {P : Program} {kt : TypeId} {d : TypeDesc} {kv : κ → Value} {vv : ν → Value}

def ents (kv : κ → Value) (vv : ν → Value) (es : List MapEntry) (m : List (κ × ν)) : Prop := es.map (fun e => (e.key, e.val)) = m.map fun p => (kv p.1, vv p.2)
/-- Each entry's stamp is below the clock, and its own. -/
def goodM (es : Array MapEntry) (clock : Nat) : Prop := (∀ x ∈ es.toList, x.born < clock) ∧ (es.toList.map (·.born)).Nodup
/-- The map at block b holds m. -/
def mapA (b : Nat) (kv : κ → Value) (vv : ν → Value) (m : List (κ × ν)) : Asrt := fun h => ∃ es clock, h b = some (true, .map es clock) ∧ ents kv vv es.toList m ∧ (m.map (·.1)).Nodup ∧ goodM es clock
def mget (m : List (κ × ν)) (a : κ) : Option ν := (m.find? fun p => decide (p.1 = a)).map (·.2)
def mset : List (κ × ν) → κ → ν → List (κ × ν)
  | [], a, v => [(a, v)]
  | p :: r, a, v => if p.1 = a then (a, v) :: r else p :: mset r a v
def mdel : List (κ × ν) → κ → List (κ × ν)
  | [], _ => []
  | p :: r, a => if p.1 = a then r else p :: mdel r a

theorem mget_cons (p : κ × ν) (r : List (κ × ν)) (a : κ) : mget (p :: r) a = if p.1 = a then some p.2 else mget r a := by
  unfold mget
  by_cases h : p.1 = a <;> simp [h]
theorem keys_mset : ∀ (m : List (κ × ν)) (a : κ) (v : ν), (mset m a v).map (·.1) = if a ∈ m.map (·.1) then m.map (·.1) else m.map (·.1) ++ [a]
  | [], a, v => by simp [mset]
  | p :: r, a, v => by
    unfold mset
    split
    · rename_i h; simp [h]
    · rename_i h
      have h' : ¬ a = p.1 := fun e => h e.symm
      simp only [List.map_cons, keys_mset r a v, List.mem_cons, h', false_or]
      split <;> simp
theorem nodup_mset {m : List (κ × ν)} (h : (m.map (·.1)).Nodup) (a : κ) (v : ν) : ((mset m a v).map (·.1)).Nodup := by
  rw [keys_mset]
  split
  · exact h
  · rename_i hn
    rw [List.nodup_append]
    exact ⟨h, by simp, fun x hx y hy => by simp at hy; subst hy; rintro rfl; exact hn hx⟩
theorem mdel_sub : ∀ (m : List (κ × ν)) (a : κ), (mdel m a).Sublist m
  | [], _ => .slnil
  | p :: r, a => by
    unfold mdel
    split
    · exact List.sublist_cons_self ..
    · exact (mdel_sub r a).cons_cons _
theorem nodup_mdel {m : List (κ × ν)} (h : (m.map (·.1)).Nodup) (a : κ) : ((mdel m a).map (·.1)).Nodup := h.sublist ((mdel_sub m a).map _)
theorem mget_none_of {m : List (κ × ν)} {a : κ} (h : a ∉ m.map (·.1)) : mget m a = none := by
  induction m with
  | nil => rfl
  | cons p r ih =>
    simp only [List.map_cons, List.mem_cons, not_or] at h
    rw [mget_cons, if_neg (fun e => h.1 e.symm), ih h.2]
/-! ### the model's search -/

theorem findNow_ok (K : KeyLaw P kt d kv) (a : κ) : ∀ (es : List MapEntry) (m : List (κ × ν)) (i : Nat), ents kv vv es m → ∀ r, Instr.findNow d (kv a) es i = some r →
    (r = none ∧ a ∉ m.map (·.1)) ∨ ∃ j v, r = some (i + j, vv v) ∧ (m[j]?).map (·.1) = some a ∧ mget m a = some v ∧ ∀ k, k < j → (m[k]?).map (·.1) ≠ some a
  | [], m, i, he, r, hr => by
    have : m = [] := by cases m with | nil => rfl | cons p q => simp [ents] at he
    subst this
    simp [Instr.findNow] at hr
    exact .inl ⟨hr.symm, by simp⟩
  | e :: es, m, i, he, r, hr => by
    cases m with
    | nil => simp [ents] at he
    | cons p m =>
      simp only [ents, List.map_cons, List.cons.injEq, Prod.mk.injEq] at he
      obtain ⟨⟨hk, hv⟩, he⟩ := he
      unfold Instr.findNow at hr
      rw [hk] at hr
      split at hr
      · rename_i hs
        have := K.now _ _ _ hs
        have hap : a = p.1 := by simpa using this.symm
        injection hr with hr
        exact .inr ⟨0, p.2, by rw [← hr, hv]; rfl, by simp [hap], by rw [mget_cons, if_pos hap.symm], fun k hk => by omega⟩
      · rename_i hs
        have := K.now _ _ _ hs
        have hap : ¬ a = p.1 := by simpa using this.symm
        rcases findNow_ok K a es m (i + 1) he r hr with ⟨h1, h2⟩ | ⟨j, v, h1, h2, h3, h4⟩
        · exact .inl ⟨h1, by simp [hap, h2]⟩
        · refine .inr ⟨j + 1, v, by rw [h1, Nat.add_assoc, Nat.add_comm 1 j], by simpa using h2, by rw [mget_cons, if_neg (fun e => hap e.symm), h3], fun k hk => ?_⟩
          cases k with
          | zero => simpa using fun e => hap e.symm
          | succ k => simpa using h4 k (by omega)
      · cases hr
theorem findAsking_ok (K : KeyLaw P kt d kv) (a : κ) (w : World) : ∀ (es : List MapEntry) (m : List (κ × ν)) (i : Nat), ents kv vv es m →
    ∃ r, (Instr.findAsking kt (kv a) es i).run P w = .ok r w ∧ ((r = none ∧ a ∉ m.map (·.1)) ∨ ∃ j v, r = some (i + j, vv v) ∧ (m[j]?).map (·.1) = some a ∧ mget m a = some v ∧ ∀ k, k < j → (m[k]?).map (·.1) ≠ some a)
  | [], m, i, he => by
    have : m = [] := by cases m with | nil => rfl | cons p q => simp [ents] at he
    subst this
    exact ⟨none, rfl, .inl ⟨rfl, by simp⟩⟩
  | e :: es, m, i, he => by
    cases m with
    | nil => simp [ents] at he
    | cons p m =>
      simp only [ents, List.map_cons, List.cons.injEq, Prod.mk.injEq] at he
      obtain ⟨⟨hk, hv⟩, he⟩ := he
      by_cases hap : a = p.1
      · refine ⟨some (i, vv p.2), ?_, .inr ⟨0, p.2, rfl, by simp [hap], by rw [mget_cons, if_pos hap.symm], fun k hk => by omega⟩⟩
        simp [Instr.findAsking, hk, K.eq, hap, hv]
      · obtain ⟨r, hr, hcase⟩ := findAsking_ok K a w es m (i + 1) he
        refine ⟨r, ?_, ?_⟩
        · simp [Instr.findAsking, hk, K.eq, hap, hr]
        · rcases hcase with ⟨h1, h2⟩ | ⟨j, v, h1, h2, h3, h4⟩
          · exact .inl ⟨h1, by simp [hap, h2]⟩
          · refine .inr ⟨j + 1, v, by rw [h1, Nat.add_assoc, Nat.add_comm 1 j], by simpa using h2, by rw [mget_cons, if_neg (fun e => hap e.symm), h3], fun k hk => ?_⟩
            cases k with
            | zero => simpa using fun e => hap e.symm
            | succ k => simpa using h4 k (by omega)
theorem findKey_ok (K : KeyLaw P kt d kv) (a : κ) (w : World) (es : List MapEntry) (m : List (κ × ν)) (he : ents kv vv es m) :
    ∃ r, (Instr.findKey kt (kv a) es).run P w = .ok r w ∧ ((r = none ∧ a ∉ m.map (·.1)) ∨ ∃ j v, r = some (j, vv v) ∧ (m[j]?).map (·.1) = some a ∧ mget m a = some v ∧ ∀ k, k < j → (m[k]?).map (·.1) ≠ some a) := by
  unfold Instr.findKey
  cases hf : Instr.findNow d (kv a) es 0 with
  | some r =>
    refine ⟨r, ?_, ?_⟩
    · simp [run_underlying_ K.und, hf]
    · have := findNow_ok K a es m 0 he r hf
      simpa using this
  | none =>
    obtain ⟨r, hr, hcase⟩ := findAsking_ok K a w es m 0 he
    refine ⟨r, ?_, by simpa using hcase⟩
    simp [run_underlying_ K.und, hf, hr]

/-! ### the operations -/
variable {E w : World} {L : List Asrt} {t et b : Nat} {m : List (κ × ν)}

omit [DecidableEq κ] in
theorem St.mapA_open (h : St E (mapA b kv vv m :: L) w) : ∃ es clock, St E (blk b (.map es clock) :: L) w ∧ ents kv vv es.toList m ∧ (m.map (·.1)).Nodup ∧ goodM es clock := by
  obtain ⟨en, x, ⟨h1, h2, dd, rfl, ⟨es, clock, hb, he, hn⟩, hL⟩, hl⟩ := h
  exact ⟨es, clock, ⟨en, _, ⟨h1, h2, dd, rfl, hb, hL⟩, hl⟩, he, hn⟩
omit [DecidableEq κ] in
theorem St.mapA_mk {es : Array MapEntry} {clock : Nat} (h : St E (blk b (.map es clock) :: L) w) (he : ents kv vv es.toList m) (hn : (m.map (·.1)).Nodup ∧ goodM es clock) : St E (mapA b kv vv m :: L) w :=
  h.mono fun _ hx => ⟨es, clock, hx, he, hn⟩
omit [DecidableEq κ] in
theorem St.mapA_new (h : St E L w) (kv : κ → Value) (vv : ν → Value) : St E (mapA w.heap.size kv vv [] :: L) (w.alloc (.map #[] 0)) :=
  (h.alloc _).mapA_mk (by simp [ents]) ⟨by simp, by simp [goodM]⟩

theorem run_getObj_map {es : Array MapEntry} {clock : Nat} (hb : w.heap[b]? = some (.map es clock)) : (getObj b).run P w = .ok (.map es clock) w := by
  simp [getObj, Sem.run, hb]
theorem run_setObj_map {es : Array MapEntry} {clock : Nat} (o : Obj) (hb : w.heap[b]? = some (.map es clock)) : (setObj b o).run P w = .ok () { w with heap := w.heap.setIfInBounds b o } := by
  simp [setObj, Sem.run, hb]
theorem St.setObj_ {es : Array MapEntry} {clock : Nat} (h : St E (blk b (.map es clock) :: L) w) (o : Obj) : St E (blk b o :: L) { w with heap := w.heap.setIfInBounds b o } := by
  have hb := h.at_blk
  have hlt : b < w.heap.size := (Array.getElem?_eq_some_iff.1 hb).1
  refine h.upd ⟨rfl, rfl, rfl⟩ (by simp [hlt]) fun c hc _ => ?_
  simp [Array.getElem?_setIfInBounds_ne (fun e => hc e.symm)]

theorem lookup_run (K : KeyLaw P kt d kv) (ht : P.underlying t = some (.map kt et)) {z : Value} (hz : tmpl P et = some z) (h : St E (mapA b kv vv m :: L) w) (a : κ) :
    (Instr.lookup t (.map (some b)) (kv a) false).run P w = .ok (match mget m a with | some v => vv v | none => z) w := by
  obtain ⟨es, clock, hs, he, hn, hg⟩ := h.mapA_open
  obtain ⟨r, hr, hcase⟩ := findKey_ok K a w es.toList m he
  rcases hcase with ⟨rfl, h2⟩ | ⟨j, v, rfl, _, h3, _⟩
  · rw [mget_none_of h2]
    simp [Instr.lookup, run_underlying_ ht, run_getObj_map hs.at_blk, K.chk, hr, run_zeroValue_ hz]
  · rw [h3]
    simp [Instr.lookup, run_underlying_ ht, run_getObj_map hs.at_blk, K.chk, hr]
theorem lookup_ok_run (K : KeyLaw P kt d kv) (ht : P.underlying t = some (.map kt et)) {z : Value} (hz : tmpl P et = some z) (h : St E (mapA b kv vv m :: L) w) (a : κ) :
    (Instr.lookup t (.map (some b)) (kv a) true).run P w = .ok (.tuple #[match mget m a with | some v => vv v | none => z, .bool (mget m a).isSome]) w := by
  obtain ⟨es, clock, hs, he, hn, hg⟩ := h.mapA_open
  obtain ⟨r, hr, hcase⟩ := findKey_ok K a w es.toList m he
  rcases hcase with ⟨rfl, h2⟩ | ⟨j, v, rfl, _, h3, _⟩
  · rw [mget_none_of h2]
    simp [Instr.lookup, run_underlying_ ht, run_getObj_map hs.at_blk, K.chk, hr, run_zeroValue_ hz]
  · rw [h3]
    simp [Instr.lookup, run_underlying_ ht, run_getObj_map hs.at_blk, K.chk, hr]

theorem mset_at : ∀ (m : List (κ × ν)) (a : κ) (v : ν) (j : Nat), (m[j]?).map (·.1) = some a → (∀ k, k < j → (m[k]?).map (·.1) ≠ some a) → mset m a v = m.modify j fun _ => (a, v)
  | [], _, _, _, h, _ => by simp at h
  | p :: r, a, v, 0, h, _ => by
    simp at h
    simp [mset, h]
  | p :: r, a, v, j + 1, h, hk => by
    have hp : ¬ p.1 = a := by simpa using hk 0 (by omega)
    simp only [mset, hp, if_false, List.modify_succ_cons]
    rw [mset_at r a v j (by simpa using h) fun k hkj => by simpa using hk (k + 1) (by omega)]
theorem mset_new : ∀ (m : List (κ × ν)) (a : κ) (v : ν), a ∉ m.map (·.1) → mset m a v = m ++ [(a, v)]
  | [], _, _, _ => rfl
  | p :: r, a, v, h => by
    simp only [List.map_cons, List.mem_cons, not_or] at h
    have h' : ¬ p.1 = a := fun e => h.1 e.symm
    simp [mset, h', mset_new r a v h.2]
omit [DecidableEq κ] in
theorem map_erase {α β : Type} (f : α → β) : ∀ (l : List α) (j : Nat), (l.map f).eraseIdx j = (l.eraseIdx j).map f
  | [], _ => by simp
  | _ :: _, 0 => by simp
  | a :: l, j + 1 => by simp [map_erase f l j]
theorem mdel_at : ∀ (m : List (κ × ν)) (a : κ) (j : Nat), (m[j]?).map (·.1) = some a → (∀ k, k < j → (m[k]?).map (·.1) ≠ some a) → mdel m a = m.eraseIdx j
  | [], _, _, h, _ => by simp at h
  | p :: r, a, 0, h, _ => by
    simp at h
    simp [mdel, h]
  | p :: r, a, j + 1, h, hk => by
    have hp : ¬ p.1 = a := by simpa using hk 0 (by omega)
    simp only [mdel, hp, if_false, List.eraseIdx_cons_succ]
    rw [mdel_at r a j (by simpa using h) fun k hkj => by simpa using hk (k + 1) (by omega)]
theorem mdel_none : ∀ (m : List (κ × ν)) (a : κ), a ∉ m.map (·.1) → mdel m a = m
  | [], _, _ => rfl
  | p :: r, a, h => by
    simp only [List.map_cons, List.mem_cons, not_or] at h
    have h' : ¬ p.1 = a := fun e => h.1 e.symm
    simp [mdel, h', mdel_none r a h.2]

theorem goodM_push {es : Array MapEntry} {clock : Nat} (h : goodM es clock) (k v : Value) : goodM (es.push { key := k, val := v, born := clock }) (clock + 1) := by
  refine ⟨fun x hx => ?_, ?_⟩
  · simp only [Array.toList_push, List.mem_append, List.mem_singleton] at hx
    rcases hx with hx | rfl
    · have := h.1 x hx; omega
    · exact Nat.lt_succ_self _
  · simp only [Array.toList_push, List.map_append, List.map_cons, List.map_nil]
    rw [List.nodup_append]
    refine ⟨h.2, by simp, fun a ha b hb => ?_⟩
    simp only [List.mem_singleton] at hb
    obtain ⟨x, hx, rfl⟩ := List.mem_map.1 ha
    have := h.1 x hx; omega
theorem goodM_modify {es : Array MapEntry} {clock : Nat} (h : goodM es clock) (j : Nat) (k v : Value) : goodM (es.modify j fun e => { e with key := k, val := v }) clock := by
  have e : (es.modify j fun e => { e with key := k, val := v }).toList.map (·.born) = es.toList.map (·.born) := by
    rw [Array.toList_modify]
    apply List.ext_getElem?
    intro i
    simp only [List.getElem?_map, List.getElem?_modify]
    split
    · cases es.toList[i]? <;> rfl
    · cases es.toList[i]? <;> rfl
  refine ⟨fun x hx => ?_, by rw [e]; exact h.2⟩
  have : x.born ∈ es.toList.map (·.born) := by rw [← e]; exact List.mem_map_of_mem hx
  obtain ⟨y, hy, hxy⟩ := List.mem_map.1 this
  rw [← hxy]; exact h.1 y hy
theorem goodM_erase {es : Array MapEntry} {clock : Nat} (h : goodM es clock) (j : Nat) : goodM (es.eraseIdxIfInBounds j) clock := by
  have e : (es.eraseIdxIfInBounds j).toList.Sublist es.toList := by rw [Array.toList_eraseIdxIfInBounds]; exact List.eraseIdx_sublist _ _
  exact ⟨fun x hx => h.1 x (e.subset hx), h.2.sublist (e.map _)⟩
theorem mapUpdate_run (K : KeyLaw P kt d kv) (ht : P.underlying t = some (.map kt et)) (h : St E (mapA b kv vv m :: L) w) (a : κ) (v : ν) :
    ∃ w', (Instr.mapUpdate t (.map (some b)) (kv a) (vv v)).run P w = .ok () w' ∧ St E (mapA b kv vv (mset m a v) :: L) w' := by
  obtain ⟨es, clock, hs, he, hn, hg⟩ := h.mapA_open
  obtain ⟨r, hr, hcase⟩ := findKey_ok K a w es.toList m he
  rcases hcase with ⟨rfl, h2⟩ | ⟨j, u, rfl, h3, _, h5⟩
  · refine ⟨_, ?_, (hs.setObj_ (.map (es.push { key := kv a, val := vv v, born := clock }) (clock + 1))).mapA_mk ?_ ⟨nodup_mset hn a v, goodM_push hg _ _⟩⟩
    · simp [Instr.mapUpdate, run_underlying_ ht, run_getObj_map hs.at_blk, K.chk, hr, run_setObj_map _ hs.at_blk]
    · rw [mset_new m a v h2]
      simp only [ents] at he
      simp [ents, he]
  · have hje : (es.toList[j]?).map (·.key) = some (kv a) := by
      have := congrArg (fun l => (l[j]?).map (·.1)) he
      simp only [List.getElem?_map, Option.map_map] at this
      rw [show ((fun x : Value × Value => x.1) ∘ fun e : MapEntry => (e.key, e.val)) = (·.key) from rfl] at this
      rw [this]
      have e2 : ((fun x : Value × Value => x.1) ∘ fun p : κ × ν => (kv p.1, vv p.2)) = kv ∘ (·.1) := rfl
      rw [e2, ← Option.map_map, h3]
      rfl
    have hkey : ((es[j]?).map (·.key)).getD (kv a) = kv a := by
      rw [← Array.getElem?_toList, hje]; rfl
    refine ⟨_, ?_, (hs.setObj_ (.map (es.modify j fun e => { e with key := kv a, val := vv v }) clock)).mapA_mk ?_ ⟨nodup_mset hn a v, goodM_modify hg _ _ _⟩⟩
    · simp only [Instr.mapUpdate, Sem.run_bind, run_underlying_ ht, Result.andThen_ok, run_getObj_map hs.at_blk, K.chk, hr, hkey]
      simp [Instr.keyThatStays, K.bits, run_setObj_map _ hs.at_blk]
    · rw [mset_at m a v j h3 h5]
      simp only [ents] at he
      simp only [ents, Array.toList_modify]
      apply List.ext_getElem?
      intro k
      have hk := congrArg (fun l => l[k]?) he
      simp only [List.getElem?_map] at hk
      simp only [List.getElem?_map, List.getElem?_modify]
      by_cases hkj : j = k
      · subst hkj
        simp only [if_true]
        have hl : (es.toList[j]?).isSome = (m[j]?).isSome := by
          have := congrArg Option.isSome hk
          simpa using this
        cases h1 : es.toList[j]? <;> cases h2 : m[j]? <;> simp [h1, h2] at hl ⊢
      · simp only [hkj, if_false]
        simpa using hk
theorem delete_run (K : KeyLaw P kt d kv) (ht : P.underlying t = some (.map kt et)) (h : St E (mapA b kv vv m :: L) w) (a : κ) (ats : Array TypeId) (ty : TypeId) (h0 : ats[0]? = some t) :
    ∃ w', (Builtin.delete_ ats ty #[.map (some b), kv a]).run P w = .ok (.tuple #[]) w' ∧ St E (mapA b kv vv (mdel m a) :: L) w' := by
  obtain ⟨es, clock, hs, he, hn, hg⟩ := h.mapA_open
  obtain ⟨r, hr, hcase⟩ := findKey_ok K a w es.toList m he
  rcases hcase with ⟨rfl, h2⟩ | ⟨j, u, rfl, h3, _, h5⟩
  · refine ⟨_, ?_, (hs.setObj_ (.map es clock)).mapA_mk ?_ ⟨nodup_mdel hn a, hg⟩⟩
    · simp [Builtin.delete_, h0, run_underlying_ ht, run_getObj_map hs.at_blk, K.chk, hr, run_setObj_map _ hs.at_blk]
    · rw [mdel_none m a h2]; exact he
  · refine ⟨_, ?_, (hs.setObj_ (.map (es.eraseIdxIfInBounds j) clock)).mapA_mk ?_ ⟨nodup_mdel hn a, goodM_erase hg _⟩⟩
    · simp [Builtin.delete_, h0, run_underlying_ ht, run_getObj_map hs.at_blk, K.chk, hr, run_setObj_map _ hs.at_blk]
    · rw [mdel_at m a j h3 h5]
      simp only [ents] at he ⊢
      rw [Array.toList_eraseIdxIfInBounds, ← map_erase, ← map_erase, he]
omit [DecidableEq κ] in
theorem lenMap_run (ht : P.underlying t = some (.map kt et)) (h : St E (mapA b kv vv m :: L) w) (ats : Array TypeId) (ty : TypeId) (h0 : ats[0]? = some t) :
    (Builtin.len_ ats ty #[.map (some b)]).run P w = .ok (.int .i64 m.length) w := by
  obtain ⟨es, clock, hs, he, hn, hg⟩ := h.mapA_open
  have : es.size = m.length := by
    have := congrArg List.length he
    simpa using this
  simp [Builtin.len_, h0, run_underlying_ ht, run_getObj_map hs.at_blk, goInt, this]
end

/-! ### keys -/

theorem equalIn_int {P : Program} {t : TypeId} {k : IntKind} (hu : P.underlying t = some (.int k)) (a b : Int) (d : Nat) (w : World) : (Op.equalIn (d + 1) t (.int k a) (.int k b)).run P w = .ok (a == b) w := by
  simp [Op.equalIn, run_underlying_ hu]
theorem equalIn_string {P : Program} {t : TypeId} (hu : P.underlying t = some .string) (a b : ByteArray) (d : Nat) (w : World) : (Op.equalIn (d + 1) t (.string a) (.string b)).run P w = .ok (a == b) w := by
  simp [Op.equalIn, run_underlying_ hu]
theorem checkKey_int {P : Program} {t : TypeId} {k : IntKind} (hu : P.underlying t = some (.int k)) (a : Int) (e : Bool) (d : Nat) (w : World) : (Instr.checkKey e (d + 1) t (.int k a)).run P w = .ok () w := by
  simp [Instr.checkKey, run_underlying_ hu]
theorem checkKey_string {P : Program} {t : TypeId} (hu : P.underlying t = some .string) (a : ByteArray) (e : Bool) (d : Nat) (w : World) : (Instr.checkKey e (d + 1) t (.string a)).run P w = .ok () w := by
  simp [Instr.checkKey, run_underlying_ hu]
theorem keyLaw_int {P : Program} {t : TypeId} {k : IntKind} (hu : P.underlying t = some (.int k)) : KeyLaw P t (.int k) (fun n : Int => Value.int k n) where
  und := hu
  eq a b w := by
    have := equalIn_int hu a b 9999 w
    simp only [Op.equal, Op.maxDepth]
    rw [this]
    simp [BEq.beq]
  chk a e w := checkKey_int hu a e 9999 w
  now a b r h := by simp [Instr.sameNow] at h; rw [← h]; simp [BEq.beq]
  bits a := by simp [Instr.sameBits]
theorem bytes_beq (a b : ByteArray) : (a == b) = decide (a = b) := by
  have h : (a == b) = (a.data == b.data) := rfl
  rw [h, Bool.eq_iff_iff]
  cases a; cases b
  simp
theorem keyLaw_string {P : Program} {t : TypeId} (hu : P.underlying t = some .string) : KeyLaw P t .string (fun s : ByteArray => Value.string s) where
  und := hu
  eq a b w := by
    have := equalIn_string hu a b 9999 w
    simp only [Op.equal, Op.maxDepth]
    rw [this, bytes_beq]
  chk a e w := checkKey_string hu a e 9999 w
  now a b r h := by simp only [Instr.sameNow, Option.some.injEq] at h; rw [← h, bytes_beq]
  bits a := by simp only [Instr.sameBits]; rw [bytes_beq]; simp
/-- A key of two whole numbers. -/
theorem keyLaw_int2 {P : Program} {t : TypeId} {f0 f1 : Field} {k : IntKind} (hu : P.underlying t = some (.struct #[f0, f1])) (h0 : P.underlying f0.type = some (.int k)) (h1 : P.underlying f1.type = some (.int k))
    (hn0 : f0.name ≠ "_") (hn1 : f1.name ≠ "_") (ho0 : f0.offset = 0) (ho1 : f1.offset = 1) (hst : P.stoodInHeld t = false) :
    KeyLaw P t (.struct #[f0, f1]) (fun p : Int × Int => Value.agg #[.int k p.1, .int k p.2]) where
  und := hu
  eq a b w := by
    have e0 : ∀ x y : Int, (Op.equalIn 9999 f0.type (.int k x) (.int k y)).run P w = .ok (x == y) w := fun x y => equalIn_int (P := P) h0 x y 9998 w
    have e1 : ∀ x y : Int, (Op.equalIn 9999 f1.type (.int k x) (.int k y)).run P w = .ok (x == y) w := fun x y => equalIn_int (P := P) h1 x y 9998 w
    have hag : ∀ f : Field, P.underlying f.type = some (.int k) → aggT P f.type = false := fun f hf => by simp [aggT, hf]
    have hp0 : ∀ x y : Value, (part f0.type #[x, y] f0.offset).run P w = .ok x w := fun x y => by
      simp [part, run_isAgg h0, hag f0 h0, ho0]
    have hp1 : ∀ x y : Value, (part f1.type #[x, y] f1.offset).run P w = .ok y w := fun x y => by
      simp [part, run_isAgg h1, hag f1 h1, ho1]
    have key : (Op.equalIn (9999 + 1) t (.agg #[.int k a.1, .int k a.2]) (.agg #[.int k b.1, .int k b.2])).run P w = .ok (decide (a = b)) w := by
      unfold Op.equalIn
      simp only [Sem.run_bind, run_underlying_ hu, Result.andThen_ok, program, Sem.run, hst]
      by_cases ha : a.1 = b.1
      · by_cases hb : a.2 = b.2
        · have : a = b := Prod.ext ha hb
          subst this
          simp [hn0, hn1, hp0, hp1, e0, e1]
        · have : ¬ a = b := fun e => hb (by rw [e])
          have hb' : (a.2 == b.2) = false := by simpa using hb
          simp [hn0, hn1, hp0, hp1, e0, e1, ha, hb', this]
      · have : ¬ a = b := fun e => ha (by rw [e])
        have ha' : (a.1 == b.1) = false := by simpa using ha
        simp [hn0, hp0, e0, ha', this]
    exact key
  chk a e w := by
    have c0 : (Instr.checkKey e 9999 f0.type (.int k a.1)).run P w = .ok () w := checkKey_int (P := P) h0 a.1 e 9998 w
    have c1 : (Instr.checkKey e 9999 f1.type (.int k a.2)).run P w = .ok () w := checkKey_int (P := P) h1 a.2 e 9998 w
    have hag : ∀ f : Field, P.underlying f.type = some (.int k) → aggT P f.type = false := fun f hf => by simp [aggT, hf]
    have hp0 : ∀ x y : Value, (part f0.type #[x, y] f0.offset).run P w = .ok x w := fun x y => by
      simp [part, run_isAgg h0, hag f0 h0, ho0]
    have hp1 : ∀ x y : Value, (part f1.type #[x, y] f1.offset).run P w = .ok y w := fun x y => by
      simp [part, run_isAgg h1, hag f1 h1, ho1]
    have key : (Instr.checkKey e (9999 + 1) t (.agg #[.int k a.1, .int k a.2])).run P w = .ok () w := by
      unfold Instr.checkKey
      simp only [Sem.run_bind, run_underlying_ hu, Result.andThen_ok]
      simp [hn0, hn1, hp0, hp1, c0, c1]
    exact key
  now a b r h := by simp [Instr.sameNow] at h
  bits a := by simp [Instr.sameBits]
/-- A key of two texts. -/
theorem keyLaw_str2 {P : Program} {t : TypeId} {f0 f1 : Field} (hu : P.underlying t = some (.struct #[f0, f1])) (h0 : P.underlying f0.type = some .string) (h1 : P.underlying f1.type = some .string)
    (hn0 : f0.name ≠ "_") (hn1 : f1.name ≠ "_") (ho0 : f0.offset = 0) (ho1 : f1.offset = 1) (hst : P.stoodInHeld t = false) :
    KeyLaw P t (.struct #[f0, f1]) (fun p : ByteArray × ByteArray => Value.agg #[.string p.1, .string p.2]) where
  und := hu
  eq a b w := by
    have e0 : ∀ x y : ByteArray, (Op.equalIn 9999 f0.type (.string x) (.string y)).run P w = .ok (x == y) w := fun x y => equalIn_string (P := P) h0 x y 9998 w
    have e1 : ∀ x y : ByteArray, (Op.equalIn 9999 f1.type (.string x) (.string y)).run P w = .ok (x == y) w := fun x y => equalIn_string (P := P) h1 x y 9998 w
    have hag : ∀ f : Field, P.underlying f.type = some .string → aggT P f.type = false := fun f hf => by simp [aggT, hf]
    have hp0 : ∀ x y : Value, (part f0.type #[x, y] f0.offset).run P w = .ok x w := fun x y => by
      simp [part, run_isAgg h0, hag f0 h0, ho0]
    have hp1 : ∀ x y : Value, (part f1.type #[x, y] f1.offset).run P w = .ok y w := fun x y => by
      simp [part, run_isAgg h1, hag f1 h1, ho1]
    have key : (Op.equalIn (9999 + 1) t (.agg #[.string a.1, .string a.2]) (.agg #[.string b.1, .string b.2])).run P w = .ok (decide (a = b)) w := by
      unfold Op.equalIn
      simp only [Sem.run_bind, run_underlying_ hu, Result.andThen_ok, program, Sem.run, hst]
      by_cases ha : a.1 = b.1
      · by_cases hb : a.2 = b.2
        · have : a = b := Prod.ext ha hb
          subst this
          simp [hn0, hn1, hp0, hp1, e0, e1, bytes_beq]
        · have : ¬ a = b := fun e => hb (by rw [e])
          have hb' : (a.2 == b.2) = false := by rw [bytes_beq]; simpa using hb
          simp [hn0, hn1, hp0, hp1, e0, e1, ha, hb', this]
      · have : ¬ a = b := fun e => ha (by rw [e])
        have ha' : (a.1 == b.1) = false := by rw [bytes_beq]; simpa using ha
        simp [hn0, hp0, e0, ha', this]
    exact key
  chk a e w := by
    have c0 : (Instr.checkKey e 9999 f0.type (.string a.1)).run P w = .ok () w := checkKey_string (P := P) h0 a.1 e 9998 w
    have c1 : (Instr.checkKey e 9999 f1.type (.string a.2)).run P w = .ok () w := checkKey_string (P := P) h1 a.2 e 9998 w
    have hag : ∀ f : Field, P.underlying f.type = some .string → aggT P f.type = false := fun f hf => by simp [aggT, hf]
    have hp0 : ∀ x y : Value, (part f0.type #[x, y] f0.offset).run P w = .ok x w := fun x y => by
      simp [part, run_isAgg h0, hag f0 h0, ho0]
    have hp1 : ∀ x y : Value, (part f1.type #[x, y] f1.offset).run P w = .ok y w := fun x y => by
      simp [part, run_isAgg h1, hag f1 h1, ho1]
    have key : (Instr.checkKey e (9999 + 1) t (.agg #[.string a.1, .string a.2])).run P w = .ok () w := by
      unfold Instr.checkKey
      simp only [Sem.run_bind, run_underlying_ hu, Result.andThen_ok]
      simp [hn0, hn1, hp0, hp1, c0, c1]
    exact key
  now a b r h := by simp [Instr.sameNow] at h
  bits a := by simp [Instr.sameBits, bytes_beq]
end Go.Vc

/-
  A law's frame: from the world as it was to the world as it came out; bytes and strings.
-/
namespace Go.Vc
open Go Go.RowKit

theorem St.start (w : World) : St w [old w] w := by
  refine ⟨.refl w, fun b => (w.heap[b]?).map fun o => (false, o), ⟨fun b => (w.heap[b]?).map fun o => (false, o), fun _ => none, fun _ => .inr (.inl rfl), ?_, fun b o hb => ⟨false, by simp [hb]⟩, trivial⟩, fun b f o hb => ?_⟩
  · funext b
    unfold un
    cases hw : w.heap[b]? <;> simp [hw]
  · cases hw : w.heap[b]? <;> simp [hw] at hb
    rw [← hb.2]
theorem St.below {w w' : World} {L : List Asrt} (h : St w (old w :: L) w') : Below w.heap.size w w' := by
  have hat : ∀ k, k < w.heap.size → w'.heap[k]? = w.heap[k]? := fun k hk => by
    rw [Array.getElem?_eq_getElem hk]
    exact h.at_old (Array.getElem?_eq_getElem hk)
  refine ⟨h.1.os, h.1.tape, h.1.output, ?_, hat⟩
  rcases Nat.eq_zero_or_pos w.heap.size with h0 | h0
  · omega
  · have h1 := h.at_old (Array.getElem?_eq_getElem (show w.heap.size - 1 < w.heap.size by omega))
    have := (Array.getElem?_eq_some_iff.1 h1).1
    omega

section
variable {P : Program} {E w : World} {L : List Asrt} {t e g : TypeId}
theorem toList_mk (bs : List UInt8) : (⟨bs.toArray⟩ : ByteArray).toList = bs := by
  rw [ByteArray.toList_eq]
end

/-! ### what came in: slices -/
section
variable {H : Type} {enc : TypeId × Value → H} {P : Program} {W : World} {t e : TypeId} {a : Option Addr} {l c sz : Nat}
/-- A slice that came in, its elements by whatever reads them. -/
theorem open_elems {β : Type} {f : β → List Value} (good : β → Prop) (hf : ∀ b, (f b).length = sz) (h0 : 0 < sz) (ht : P.underlying t = some (.slice e)) (hc : P.cellsOf e = sz)
    (he : ∀ n cs x, DataW.trod enc P W 0 (fun _ => true) true n e cs = some x → ∃ b, cs = f b ∧ good b)
    {fuel : Nat} {x : DataW H × List MemPlace} (h : DataW.trod enc P W 0 (fun _ => true) true fuel t [.slice a l c] = some x) :
    ∃ bs : List β, RdS W a l sz (bs.flatMap f) ∧ l ≤ maxLen ∧ ∀ b ∈ bs, good b := by
  rcases DataW.trod_slice ht h with ⟨hcs, _⟩ | ⟨ad, len, cap, elems, rest, n, _, hcs, _, _, hl, hm, hlen, hel, _⟩
  · simp at hcs
    obtain ⟨rfl, rfl, rfl⟩ := hcs
    exact ⟨[], RdS.nil _ _, Nat.zero_le _, fun b hb => by simp at hb⟩
  · simp at hcs
    obtain ⟨rfl, rfl, rfl⟩ := hcs
    rw [hc] at hel
    have one : ∀ i, i < l → ∃ b, good b ∧ ∀ j u, (f b)[j]? = some u → W.cell? ((ad.add (i * sz)).add j) = some u := by
      intro i hi
      have h1 := hel i hi
      rw [List.getElem?_eq_getElem (by omega), Option.bind_eq_some_iff] at h1
      obtain ⟨cs, h2, h3⟩ := h1
      obtain ⟨b, rfl, hg⟩ := he _ _ _ h3
      refine ⟨b, hg, fun j u hu => ?_⟩
      unfold World.cells? at h2
      rw [if_pos (Nat.zero_le _)] at h2
      have hj : j < sz := by rw [← hf b]; exact (List.getElem?_eq_some_iff.1 hu).1
      have := mapM_some_get h2 j j (by simp [hj])
      rw [this, hu]
    have all : ∀ m, m ≤ l → ∃ bs : List β, bs.length = m ∧ (∀ b ∈ bs, good b) ∧ ∀ i b, bs[i]? = some b → ∀ j u, (f b)[j]? = some u → W.cell? ((ad.add (i * sz)).add j) = some u := by
      intro m
      induction m with
      | zero => intro _; exact ⟨[], rfl, fun b hb => by simp at hb, fun i b hb => by simp at hb⟩
      | succ m ih =>
        intro hml
        obtain ⟨bs, h1, h2, h3⟩ := ih (by omega)
        obtain ⟨b, g1, g2⟩ := one m (by omega)
        refine ⟨bs ++ [b], by simp [h1], fun x hx => ?_, fun i x hx => ?_⟩
        · rcases List.mem_append.1 hx with hx | hx
          · exact h2 x hx
          · simp at hx; subst hx; exact g1
        · rw [List.getElem?_append] at hx
          split at hx
          · exact h3 i x hx
          · have hi : i = m := by
              have := (List.getElem?_eq_some_iff.1 hx).1
              simp at this; omega
            subst hi
            rw [h1, Nat.sub_self] at hx
            simp at hx; subst hx; exact g2
    obtain ⟨bs, h1, h2, h3⟩ := all l (Nat.le_refl _)
    refine ⟨bs, ?_, by omega, h2⟩
    rcases Nat.eq_zero_or_pos l with hl0 | hl0
    · subst hl0
      have : bs = [] := List.eq_nil_of_length_eq_zero h1
      subst this
      exact ⟨by simp, .inl rfl⟩
    · -- the first cell tells the address's make
      obtain ⟨g, off, spot⟩ := ad
      have hb0 : bs[0]? = some bs[0] := List.getElem?_eq_getElem (by omega)
      have hc0 := h3 0 bs[0] hb0 0 ((f bs[0])[0]'(by rw [hf]; exact h0)) (List.getElem?_eq_getElem _)
      have hspot : spot = none := by simpa [Addr.add] using World.cell?_spot hc0
      subst hspot
      refine ⟨by rw [flat_len hf, h1], .inr ⟨g, off, rfl, fun i u hu => ?_⟩⟩
      have hi : i < l * sz := by have := (List.getElem?_eq_some_iff.1 hu).1; rwa [flat_len hf, h1] at this
      have hq : i / sz < bs.length := by rw [h1]; exact Nat.div_lt_of_lt_mul (by rw [Nat.mul_comm]; exact hi)
      have hm2 : i % sz < sz := Nat.mod_lt _ h0
      have e1 : i / sz * sz + i % sz = i := by rw [Nat.mul_comm]; exact Nat.div_add_mod i sz
      have e2 := flat_get hf bs (i / sz) (i % sz) bs[i / sz] (List.getElem?_eq_getElem hq) hm2
      rw [e1, hu] at e2
      have := h3 (i / sz) bs[i / sz] (List.getElem?_eq_getElem hq) (i % sz) u e2.symm
      rw [add_mk, add_mk, Nat.add_assoc, e1] at this
      exact this
end
end Go.Vc

/-
  What is known of memory for good (a growing map of blocks), beside what is owned; selections out of what is owned.
-/
namespace Go.Vc
open Go Go.RowKit

/-! ### selections -/
def nth : List Asrt → Nat → Asrt
  | [], _ => fun _ => True
  | A :: _, 0 => A
  | _ :: L, n + 1 => nth L n
def behindN : Nat → List Asrt → List Asrt
  | 0, L => L
  | n + 1, L => behindN n L.tail
abbrev behind (L : List Asrt) (n : Nat) : List Asrt := behindN n L
def pick (L : List Asrt) (n : Nat) : List Nat → List Asrt
  | [] => behind L n
  | i :: r => nth L i :: pick L n r
def pickOk (n : Nat) : List Nat → Bool
  | [] => true
  | i :: r => decide (i < n) && !r.contains i && pickOk n r
section
variable {E w : World} {L L' : List Asrt}
theorem St.dropN {L1 L2 : List Asrt} (h : St E (L1 ++ L2) w) : St E L2 w := by
  induction L1 with
  | nil => exact h
  | cons A r ih => exact ih h.drop
theorem St.sub (h : St E L w) (hs : L'.Sublist L) : St E L' w := by
  obtain ⟨l, hp⟩ := hs.exists_perm_append
  exact (h.perm (hp.trans List.perm_append_comm)).dropN
theorem nth_eq : ∀ (L : List Asrt) (i : Nat), i < L.length → L[i]? = some (nth L i)
  | [], _, h => by simp at h
  | A :: L, 0, _ => rfl
  | A :: L, i + 1, h => by simpa [nth] using nth_eq L i (by simpa using h)
theorem behind_eq : ∀ (L : List Asrt) (n : Nat), behind L n = L.drop n
  | L, 0 => by simp [behind, behindN]
  | [], n + 1 => by simpa [behind, behindN] using behind_eq [] n
  | A :: L, n + 1 => by simpa [behind, behindN] using behind_eq L n
theorem pick_eq (L : List Asrt) (n : Nat) : ∀ is : List Nat, pick L n is = is.map (nth L) ++ behind L n
  | [] => rfl
  | i :: r => by simp [pick, pick_eq L n r]
theorem pickOk_lt {n : Nat} : ∀ {is : List Nat}, pickOk n is = true → ∀ i ∈ is, i < n
  | [], _, _, h => by cases h
  | i :: r, h, j, hj => by
    simp only [pickOk, Bool.and_eq_true, decide_eq_true_eq] at h
    rcases List.mem_cons.1 hj with rfl | hj
    · exact h.1.1
    · exact pickOk_lt h.2 j hj
theorem pickOk_nodup {n : Nat} : ∀ {is : List Nat}, pickOk n is = true → is.Nodup
  | [], _ => List.nodup_nil
  | i :: r, h => by
    simp only [pickOk, Bool.and_eq_true, Bool.not_eq_true', List.contains_eq_mem, decide_eq_false_iff_not] at h
    exact List.nodup_cons.2 ⟨h.1.2, pickOk_nodup h.2⟩
theorem range_nth : ∀ (L : List Asrt) (n : Nat), n ≤ L.length → (List.range n).map (nth L) = L.take n := by
  intro L n hn
  apply List.ext_getElem?
  intro i
  simp only [List.getElem?_map, List.getElem?_take]
  by_cases hi : i < n
  · rw [List.getElem?_range hi, if_pos hi, nth_eq L i (by omega)]; rfl
  · rw [if_neg hi, List.getElem?_eq_none (by simp; omega)]; rfl
/-- Those of the first n that are named, in this order; the others of the n are let go. -/
theorem St.sel (h : St E L w) (n : Nat) (is : List Nat) (hn : n ≤ L.length := by first | simp | exact Nat.le_of_ble_eq_true rfl) (hk : pickOk n is = true := by decide) : St E (pick L n is) w := by
  rw [pick_eq, behind_eq]
  have hp : (is ++ (List.range n).filter fun i => !is.contains i).Perm (List.range n) := by
    refine (List.Perm.append_right _ ?_).trans (List.filter_append_perm (fun i => is.contains i) (List.range n))
    refine (List.perm_ext_iff_of_nodup (pickOk_nodup hk) (List.nodup_range.filter _)).2 fun a => ?_
    simp only [List.mem_filter, List.mem_range, List.contains_eq_mem, decide_eq_true_eq]
    exact ⟨fun ha => ⟨pickOk_lt hk a ha, ha⟩, fun ha => ha.2⟩
  have hp2 := hp.map (nth L)
  rw [range_nth L n hn, List.map_append] at hp2
  have h2 : St E (L.take n ++ L.drop n) w := by rwa [List.take_append_drop]
  have h3 := h2.perm (hp2.symm.append_right (L.drop n))
  exact h3.sub ((List.sublist_append_left _ _).append_right _)
end

/-! ### where it stands -/
section
variable {α : Type} {x : α} {l : List α}
theorem at0 : x ∈ x :: l := List.mem_cons_self
theorem at1 {a0 : α} : x ∈ a0 :: x :: l := List.mem_cons_of_mem _ at0
theorem at2 {a0 a1 : α} : x ∈ a0 :: a1 :: x :: l := List.mem_cons_of_mem _ at1
theorem at3 {a0 a1 a2 : α} : x ∈ a0 :: a1 :: a2 :: x :: l := List.mem_cons_of_mem _ at2
theorem at4 {a0 a1 a2 a3 : α} : x ∈ a0 :: a1 :: a2 :: a3 :: x :: l := List.mem_cons_of_mem _ at3
end
/-! ### what is known for good -/
abbrev Fz := Nat → Option Obj
def kn (F : Fz) : Asrt := fun h => ∀ b o, F b = some o → ∃ f, h b = some (f, o)
def Fz.le (F G : Fz) : Prop := ∀ b o, F b = some o → G b = some o
def Knows (F : Fz) (w : World) : Prop := ∀ b o, F b = some o → w.heap[b]? = some o
def Fz.put (F : Fz) (b : Nat) (o : Obj) : Fz := fun c => if c = b then some o else F c
def RdF (F : Fz) (a : Option Addr) (l sz : Nat) (xs : List Value) : Prop := ∀ w, Knows F w → RdS w a l sz xs
section
variable {E w : World} {L : List Asrt} {F G H : Fz} {a : Option Addr} {l c sz : Nat} {e : TypeId} {xs : List Value}
theorem Fz.le_refl (F : Fz) : Fz.le F F := fun _ _ h => h
theorem Fz.le_trans (h : Fz.le F G) (k : Fz.le G H) : Fz.le F H := fun b o x => k b o (h b o x)
theorem Knows.mono (h : Knows G w) (k : Fz.le F G) : Knows F w := fun b o x => h b o (k b o x)
theorem RdF.mono (h : RdF F a l sz xs) (k : Fz.le F G) : RdF G a l sz xs := fun w hw => h w (hw.mono k)
theorem St.knows (h : St E (kn F :: L) w) : Knows F w := fun b o hb => by
  obtain ⟨_, x, ⟨h1, h2, d, rfl, hA, hL⟩, hl⟩ := h
  obtain ⟨f, hf⟩ := hA b o hb
  exact hl b f o (by unfold un; rw [hf])
theorem St.know (h : St E L w) (hm : kn F ∈ L) : Knows F w := by
  obtain ⟨l1, l2, rfl⟩ := List.append_of_mem hm
  exact (St.front l1 h).knows
theorem RdF.at (h : RdF F a l sz xs) (hs : St E L w) (hm : kn F ∈ L := by simp) : RdS w a l sz xs := h w (hs.know hm)
theorem RdF.nil (F : Fz) (a : Option Addr) : RdF F a 0 sz [] := fun w _ => RdS.nil w a
theorem RdF.len (h : RdF F a l sz xs) (hs : St E L w) (hm : kn F ∈ L := by simp) : xs.length = l * sz := (h.at hs hm).1
theorem RdF.count {α : Type} {f : α → List Value} {qs : List α} (h : RdF F a l sz (qs.flatMap f)) (hf : ∀ q, (f q).length = sz) (h0 : 0 < sz) (hs : St E L w) (hm : kn F ∈ L := by simp) : qs.length = l := (h.at hs hm).count hf h0
theorem RdF.of_world {W : World} (h : RdS W a l sz xs) : RdF (fun b => W.heap[b]?) a l sz xs := fun w hw => by
  refine h.grow fun b hb => ?_
  rw [Array.getElem?_eq_getElem hb]
  exact hw b _ (Array.getElem?_eq_getElem hb)
theorem St.start_kn (w : World) : St w [kn fun b => w.heap[b]?] w := St.start w
theorem St.below_kn {w w' : World} (h : St w (kn F :: L) w') (k : Fz.le (fun b => w.heap[b]?) F) : Below w.heap.size w w' :=
  St.below (L := []) (St.sub (h.mono (B := old w) fun x hx b o hb => hx b o (k b o hb)) (List.Sublist.cons_cons _ (List.nil_sublist _)))
/-- A block of ours is given up: it stays for good. -/
theorem St.learn {b : Nat} {o : Obj} (h : St E (blk b o :: kn F :: L) w) : Fz.le F (F.put b o) ∧ St E (kn (F.put b o) :: L) w := by
  obtain ⟨en, x, ⟨h1, h23, d, rfl, hA, h2, h3, d2, rfl, hB, hL⟩, hl⟩ := h
  have hA' : h1 b = some (true, o) := hA
  refine ⟨fun c u hc => ?_, en, un (un h1 h2) h3, ⟨un h1 h2, h3, ?_, rfl, ?_, hL⟩, ?_⟩
  · unfold Fz.put
    split
    · rename_i e
      subst e
      obtain ⟨f, hf⟩ := hB c u hc
      rcases d c with h' | h' | ⟨o', h', _⟩
      · rw [hA'] at h'; cases h'
      · simp [un, hf] at h'
      · rw [hA'] at h'; cases h'
    · exact hc
  · obtain ⟨d12, d13⟩ := dj_un d d2
    exact dj_un_left d13 d2
  · intro c u hc
    unfold Fz.put at hc
    split at hc
    · rename_i e
      subst e
      injection hc with hc
      subst hc
      exact ⟨true, by simp [un, hA']⟩
    · obtain ⟨f, hf⟩ := hB c u hc
      cases h1c : h1 c with
      | none => exact ⟨f, by simp [un, h1c, hf]⟩
      | some y =>
        rcases d c with h' | h' | ⟨o', h', h''⟩
        · rw [h'] at h1c; cases h1c
        · simp [un, hf] at h'
        · simp [un, hf] at h''
          exact ⟨false, by simp [un, h', h''.2]⟩
  · rw [un_assoc]; exact hl
theorem St.freezeS (h : St E (ownS a l c e sz xs :: kn F :: L) w) : ∃ G, Fz.le F G ∧ St E (kn G :: L) w ∧ RdF G a l sz xs := by
  have hf := h.ownS_facts
  rcases h.ownS_open with ⟨rfl, rfl, rfl, rfl⟩ | ⟨g, rest, rfl, hr, hs⟩
  · exact ⟨F, Fz.le_refl F, h.drop, RdF.nil F none⟩
  · obtain ⟨hle, h2⟩ := hs.learn
    refine ⟨_, hle, h2, fun w' hw => ⟨hf.1, .inr ⟨g, 0, rfl, fun i u hu => ?_⟩⟩⟩
    have hb := hw g (.cells ⟨xs ++ rest⟩ e (0, 0)) (by simp [Fz.put])
    rw [Nat.zero_add, cell_of hb, List.getElem?_append_left (List.getElem?_eq_some_iff.1 hu).1, hu]
theorem RdF.sub (h : RdF F a l sz xs) {lo hi : Nat} (h1 : lo ≤ hi) (h2 : hi ≤ l) (c0 : Nat) (hc : hi ≤ c0) :
    RdF F (if c0 = lo then a else a.map fun x => x.add (lo * sz)) (hi - lo) sz ((xs.drop (lo * sz)).take ((hi - lo) * sz)) := fun w hw => (h w hw).sub h1 h2 c0 hc
end

/-- Up to l, one by one. -/
theorem up_to (l : Nat) {Q : Nat → Prop} (h : ∀ j, j ≤ l → (j < l → Q (j + 1)) → Q j) : Q 0 := by
  have go : ∀ n j, n = l - j → j ≤ l → Q j := by
    intro n
    induction n with
    | zero => intro j hn hj; exact h j hj fun hl => absurd hl (by omega)
    | succ n ih => intro j hn hj; exact h j hj fun hl => ih (j + 1) (by omega) (by omega)
  exact go l 0 (by omega) (by omega)
theorem wrap_id {x : Int} (h1 : -9223372036854775808 ≤ x) (h2 : x ≤ 9223372036854775807) : IntKind.wrap .i64 x = x := by
  unfold IntKind.wrap
  simp [IntKind.signed, IntKind.bits]
  omega
end Go.Vc

/-
  A range over a map of ours, step by step.
-/
namespace Go.Vc
open Go Go.RowKit

section
variable {κ ν : Type} [DecidableEq κ] {P : Program} {kt et t : TypeId} {kv : κ → Value} {vv : ν → Value} {E w : World} {L : List Asrt} {m rest : List (κ × ν)} {b r : Nat}

structure IterOk (kv : κ → Value) (vv : ν → Value) (m rest : List (κ × ν)) (es : Array MapEntry) (clock since : Nat) (seen : Array Nat) (c0 : Nat) : Prop where
  he : ents kv vv es.toList m
  hn : (m.map (·.1)).Nodup
  hg : goodM es clock
  old : ∀ x ∈ es.toList, x.born < since
  s0 : since ≤ c0
  s1 : since ≤ clock
  left : ents kv vv (es.toList.filter fun e => !seen.contains e.born) rest
/-- The iterator in block r over the map in block b, which holds m: these are still to come. -/
def iterA (r b : Nat) (kv : κ → Value) (vv : ν → Value) (m rest : List (κ × ν)) : Asrt := fun h => ∃ es clock since seen c0, IterOk kv vv m rest es clock since seen c0 ∧
  seps [blk r (.mapIter (some b) since seen c0), blk b (.map es clock)] h

omit [DecidableEq κ] in
theorem St.iter_open (h : St E (iterA r b kv vv m rest :: L) w) : ∃ es clock since seen c0, IterOk kv vv m rest es clock since seen c0 ∧ St E (blk r (.mapIter (some b) since seen c0) :: blk b (.map es clock) :: L) w := by
  obtain ⟨en, x, ⟨h1, h2, d, rfl, ⟨es, clock, since, seen, c0, ok, hs⟩, hL⟩, hl⟩ := h
  exact ⟨es, clock, since, seen, c0, ok, (St.open_ (L1 := [_, _]) ⟨en, _, ⟨h1, h2, d, rfl, hs, hL⟩, hl⟩ :)⟩
omit [DecidableEq κ] in
theorem St.iter_mk {es : Array MapEntry} {clock since : Nat} {seen : Array Nat} {c0 : Nat} (ok : IterOk kv vv m rest es clock since seen c0) (h : St E (blk r (.mapIter (some b) since seen c0) :: blk b (.map es clock) :: L) w) : St E (iterA r b kv vv m rest :: L) w :=
  (St.shut (L1 := [_, _]) h).mono fun _ hx => ⟨es, clock, since, seen, c0, ok, hx⟩
omit [DecidableEq κ] in
theorem St.iter_done (h : St E (iterA r b kv vv m rest :: L) w) : St E (mapA b kv vv m :: L) w := by
  obtain ⟨es, clock, since, seen, c0, ok, hs⟩ := h.iter_open
  exact hs.drop.mapA_mk ok.he ⟨ok.hn, ok.hg⟩
omit [DecidableEq κ] in
theorem range_run (ht : P.underlying t = some (.map kt et)) (h : St E (mapA b kv vv m :: L) w) :
    ∃ w', (Instr.range t (.map (some b))).run P w = .ok (.pointer (some ⟨w.heap.size, 0, none⟩)) w' ∧ St E (iterA w.heap.size b kv vv m m :: L) w' := by
  obtain ⟨es, clock, hs, he, hn, hg⟩ := h.mapA_open
  refine ⟨_, run_range_map w t kt et b es clock ht hs.at_blk, St.iter_mk ⟨he, hn, hg, hg.1, Nat.le_refl _, Nat.le_refl _, ?_⟩ (hs.alloc _)⟩
  rw [show (es.toList.filter fun e => !(#[] : Array Nat).contains e.born) = es.toList from List.filter_eq_self.2 fun x _ => by simp]
  exact he
omit [DecidableEq κ] in
theorem ents_split : ∀ {es1 : List MapEntry} {e : MapEntry} {es2 : List MapEntry} {m : List (κ × ν)}, ents kv vv (es1 ++ e :: es2) m → ∃ m1 p m2, m = m1 ++ p :: m2 ∧ e.key = kv p.1 ∧ e.val = vv p.2 ∧ ents kv vv (es1 ++ es2) (m1 ++ m2)
  | [], e, es2, [], h => by simp [ents] at h
  | [], e, es2, p :: m, h => by
    simp only [ents, List.nil_append, List.map_cons, List.cons.injEq, Prod.mk.injEq] at h
    exact ⟨[], p, m, rfl, h.1.1, h.1.2, by simpa [ents] using h.2⟩
  | e1 :: es1, e, es2, [], h => by simp [ents] at h
  | e1 :: es1, e, es2, q :: m, h => by
    simp only [ents, List.cons_append, List.map_cons, List.cons.injEq] at h
    obtain ⟨m1, p, m2, rfl, h1, h2, h3⟩ := ents_split (es1 := es1) (e := e) (es2 := es2) (m := m) h.2
    refine ⟨q :: m1, p, m2, rfl, h1, h2, ?_⟩
    simp only [ents, List.cons_append, List.map_cons, List.cons.injEq]
    exact ⟨h.1, h3⟩
theorem filter_one_less {l1 l2 : List MapEntry} {e : MapEntry} : ∀ (l : List MapEntry) (p : MapEntry → Bool), (l.map (·.born)).Nodup → l.filter p = l1 ++ e :: l2 → l.filter (fun x => p x && !(x.born == e.born)) = l1 ++ l2 := by
  intro l p hn hf
  have h1 : l.filter (fun x => p x && !(x.born == e.born)) = (l.filter p).filter (fun x => !(x.born == e.born)) := by
    rw [List.filter_filter]
    congr 1
    funext x
    cases p x <;> simp
  have hn2 : ((l1 ++ e :: l2).map (·.born)).Nodup := by rw [← hf]; exact hn.sublist (List.filter_sublist.map _)
  rw [h1, hf]
  rw [List.map_append, List.map_cons, List.nodup_append, List.nodup_cons] at hn2
  rw [List.filter_append, List.filter_cons, if_neg (by simp)]
  congr 1
  · refine List.filter_eq_self.2 fun x hx => ?_
    have := hn2.2.2 x.born (List.mem_map_of_mem hx) e.born (by simp)
    simpa using this
  · refine List.filter_eq_self.2 fun x hx => ?_
    have : e.born ∉ l2.map (·.born) := hn2.2.1.1
    have h3 : x.born ≠ e.born := fun he => this (he ▸ List.mem_map_of_mem hx)
    simpa using h3
omit [DecidableEq κ] in
theorem next_run (ty : TypeId) (h : St E (iterA r b kv vv m rest :: L) w) :
    (rest = [] ∧ (Instr.next (.pointer (some ⟨r, 0, none⟩)) false ty).run P w = .ok (.tuple #[.bool false]) w) ∨
    ∃ r1 p r2 w', rest = r1 ++ p :: r2 ∧ (Instr.next (.pointer (some ⟨r, 0, none⟩)) false ty).run P w = .ok (.tuple #[.bool true, kv p.1, vv p.2]) w' ∧ St E (iterA r b kv vv m (r1 ++ r2) :: L) w' ∧
      (Instr.entry (.pointer (some ⟨r, 0, none⟩))).run P w' = .ok (.tuple #[kv p.1, vv p.2]) w' := by
  obtain ⟨es, clock, since, seen, c0, ok, hs⟩ := h.iter_open
  have hleft : (leftOf es seen).toList = es.toList.filter fun e => !seen.contains e.born := by simp [leftOf]
  rcases run_next_at (P := P) w ty r b since c0 seen es clock hs.at_blk hs.f1.at_blk ok.old ok.s0 with ⟨h0, hrun⟩ | ⟨e, he, w1, hal, hrun⟩
  · refine .inl ⟨?_, hrun⟩
    have h1 : (leftOf es seen).toList = [] := List.eq_nil_of_length_eq_zero (by simpa using h0)
    have h2 := ok.left
    rw [← hleft, h1] at h2
    simp only [ents, List.map_nil] at h2
    exact List.map_eq_nil_iff.1 h2.symm
  · refine .inr ?_
    obtain ⟨l1, l2, hl⟩ := List.append_of_mem he
    rw [hleft] at hl
    have hL := ok.left
    rw [hl] at hL
    obtain ⟨m1, p, m2, rfl, hk, hv, hL2⟩ := ents_split hL
    have hs1 : St E (blk r (.mapIter (some b) since seen c0) :: blk b (.map es clock) :: L) w1 := by
      rcases hal with rfl | rfl
      · exact hs
      · exact hs.drew
    have hlt : r < w1.heap.size := (Array.getElem?_eq_some_iff.1 hs1.at_blk).1
    have hem : e ∈ es.toList := by rw [hleft] at he; exact (List.mem_filter.1 he).1
    have hs2 : St E (blk r (.mapIter (some b) since (seen.push e.born) clock) :: blk b (.map es clock) :: L) (ChangeMaps.setBlock w1 r (.mapIter (some b) since (seen.push e.born) clock)) := by
      refine hs1.upd ⟨rfl, rfl, rfl⟩ ?_ fun c hc _ => ?_
      · simp [ChangeMaps.setBlock, hlt]
      · simp [ChangeMaps.setBlock, Array.getElem?_setIfInBounds_ne (fun e => hc e.symm)]
    refine ⟨m1, p, m2, ChangeMaps.setBlock w1 r (.mapIter (some b) since (seen.push e.born) clock), rfl, by rw [hrun, hk, hv], St.iter_mk (since := since) (seen := seen.push e.born) (c0 := clock) ⟨ok.he, ok.hn, ok.hg, ok.old, ok.s1, ok.s1, ?_⟩ hs2,
      by rw [run_entry_at _ r b since seen es clock e hs2.at_blk hs2.f1.at_blk hem ok.hg.2, hk, hv]⟩
    · have := filter_one_less es.toList (fun x => !seen.contains x.born) ok.hg.2 hl
      rw [← this] at hL2
      refine Eq.mp ?_ hL2
      congr 2
      funext x
      by_cases hx : x.born = e.born <;> simp [hx]
end
end Go.Vc

/-
  A range over a map in the fenced walk: what holds of the iterator while other hands lay and turn blocks of theirs.
-/
namespace Go.Vc
open Go Go.RowKit Go.Maps

section
variable {κ ν : Type} {P : Program} {kt et t : TypeId} {kv : κ → Value} {vv : ν → Value} {w : World} {m rest : List (κ × ν)} {b r : Nat}

def MapW (w : World) (b : Nat) (kv : κ → Value) (vv : ν → Value) (m : List (κ × ν)) : Prop := ∃ es clock, w.heap[b]? = some (.map es clock) ∧ ents kv vv es.toList m ∧ (m.map (·.1)).Nodup ∧ goodM es clock
def IterW (w : World) (r b : Nat) (kv : κ → Value) (vv : ν → Value) (m rest : List (κ × ν)) : Prop := ∃ es clock since seen c0, IterOk kv vv m rest es clock since seen c0 ∧ w.heap[r]? = some (.mapIter (some b) since seen c0) ∧ w.heap[b]? = some (.map es clock)
theorem St.mapW {E : World} {L : List Asrt} (h : St E (mapA b kv vv m :: L) w) : MapW w b kv vv m := by
  obtain ⟨es, clock, hs, he, hn, hg⟩ := h.mapA_open
  exact ⟨es, clock, hs.at_blk, he, hn, hg⟩
theorem MapW.later {w' : World} (h : MapW w b kv vv m) (hb : Below w.heap.size w w') : MapW w' b kv vv m := by
  obtain ⟨es, clock, h1, h2⟩ := h
  exact ⟨es, clock, (hb.block b (Array.getElem?_eq_some_iff.1 h1).1).trans h1, h2⟩
theorem IterW.of_walks {w' : World} (h : IterW w r b kv vv m rest) (hk : KeepsWalks w w') : IterW w' r b kv vv m rest := by
  obtain ⟨es, clock, since, seen, c0, ok, h1, h2⟩ := h
  exact ⟨es, clock, since, seen, c0, ok, hk.same r _ h1 rfl, hk.same b _ h2 rfl⟩
theorem IterW.walk (h : IterW w r b kv vv m rest) : ∃ o : Obj, w.heap[r]? = some o ∧ o.isWalk = true := by
  obtain ⟨es, clock, since, seen, c0, _, h1, _⟩ := h
  exact ⟨_, h1, rfl⟩
theorem IterW.left (h : IterW w r b kv vv m rest) : w.rangeLeft b r = rest.length := by
  obtain ⟨es, clock, since, seen, c0, ok, h1, h2⟩ := h
  simp only [World.rangeLeft, h1, h2]
  have := congrArg List.length ok.left
  simp only [List.length_map] at this
  have e : (leftOf es seen).toList = es.toList.filter fun e => !seen.contains e.born := by simp [leftOf]
  rw [← this, ← e, Array.length_toList]
theorem MapW.range (h : MapW w b kv vv m) (ht : P.underlying t = some (.map kt et)) :
    ∃ w', (Instr.range t (.map (some b))).run P w = .ok (.pointer (some ⟨w.heap.size, 0, none⟩)) w' ∧ IterW w' w.heap.size b kv vv m m ∧ w.grownBy w' none ∧ w'.heap.size = w.heap.size + 1 := by
  obtain ⟨es, clock, hb, he, hn, hg⟩ := h
  refine ⟨_, run_range_map w t kt et b es clock ht hb, ⟨es, clock, clock, #[], clock, ⟨he, hn, hg, hg.1, Nat.le_refl _, Nat.le_refl _, ?_⟩, World.alloc_heap_new w _, (Below.heap_alloc w _ b (Array.getElem?_eq_some_iff.1 hb).1).trans hb⟩, World.grownBy_alloc w _ none, by simp⟩
  rw [show (es.toList.filter fun e => !(#[] : Array Nat).contains e.born) = es.toList from List.filter_eq_self.2 fun x _ => by simp]
  exact he
theorem IterW.next (h : IterW w r b kv vv m rest) (ty : TypeId) :
    (rest = [] ∧ (Instr.next (.pointer (some ⟨r, 0, none⟩)) false ty).run P w = .ok (.tuple #[.bool false]) w) ∨
    ∃ r1 p r2 w', rest = r1 ++ p :: r2 ∧ (Instr.next (.pointer (some ⟨r, 0, none⟩)) false ty).run P w = .ok (.tuple #[.bool true, kv p.1, vv p.2]) w' ∧ IterW w' r b kv vv m (r1 ++ r2) ∧ w.grownBy w' (some r) ∧ w'.heap.size = w.heap.size ∧
      (Instr.entry (.pointer (some ⟨r, 0, none⟩))).run P w' = .ok (.tuple #[kv p.1, vv p.2]) w' := by
  obtain ⟨es, clock, since, seen, c0, ok, hr, hb⟩ := h
  have hne : r ≠ b := fun e => by rw [e, hb] at hr; cases hr
  have hleft : (leftOf es seen).toList = es.toList.filter fun e => !seen.contains e.born := by simp [leftOf]
  rcases run_next_at (P := P) w ty r b since c0 seen es clock hr hb ok.old ok.s0 with ⟨h0, hrun⟩ | ⟨e, he, w1, hal, hrun⟩
  · refine .inl ⟨?_, hrun⟩
    have h1 : (leftOf es seen).toList = [] := List.eq_nil_of_length_eq_zero (by simpa using h0)
    have h2 := ok.left
    rw [← hleft, h1] at h2
    simp only [ents, List.map_nil] at h2
    exact List.map_eq_nil_iff.1 h2.symm
  · refine .inr ?_
    have hem : e ∈ es.toList := by rw [hleft] at he; exact (List.mem_filter.1 he).1
    obtain ⟨l1, l2, hl⟩ := List.append_of_mem he
    rw [hleft] at hl
    have hL := ok.left
    rw [hl] at hL
    obtain ⟨m1, p, m2, rfl, hk, hv, hL2⟩ := ents_split hL
    have hr1 : w1.heap[r]? = some (.mapIter (some b) since seen c0) := by rcases hal with rfl | rfl <;> exact hr
    have hb1 : w1.heap[b]? = some (.map es clock) := by rcases hal with rfl | rfl <;> exact hb
    have hlt : r < w1.heap.size := (Array.getElem?_eq_some_iff.1 hr1).1
    have hr2 : (ChangeMaps.setBlock w1 r (.mapIter (some b) since (seen.push e.born) clock)).heap[r]? = some (.mapIter (some b) since (seen.push e.born) clock) := by simp [ChangeMaps.setBlock, hlt]
    have hb2 : (ChangeMaps.setBlock w1 r (.mapIter (some b) since (seen.push e.born) clock)).heap[b]? = some (.map es clock) := by
      simp only [ChangeMaps.setBlock]
      rw [Array.getElem?_setIfInBounds_ne hne]; exact hb1
    have hgr : w.grownBy (ChangeMaps.setBlock w1 r (.mapIter (some b) since (seen.push e.born) clock)) (some r) := by
      rcases hal with rfl | rfl <;> exact ⟨rfl, rfl, rfl, by simp [ChangeMaps.setBlock], fun i _ hi => by
        simp only [ChangeMaps.setBlock]
        rw [Array.getElem?_setIfInBounds_ne (fun e => hi (by rw [e]))]
        try rfl⟩
    have hent : (Instr.entry (.pointer (some ⟨r, 0, none⟩))).run P (ChangeMaps.setBlock w1 r (.mapIter (some b) since (seen.push e.born) clock)) = .ok (.tuple #[kv p.1, vv p.2]) (ChangeMaps.setBlock w1 r (.mapIter (some b) since (seen.push e.born) clock)) := by
      rw [run_entry_at _ r b since seen es clock e hr2 hb2 hem ok.hg.2, hk, hv]
    refine ⟨m1, p, m2, _, rfl, by rw [hrun, hk, hv], ⟨es, clock, since, seen.push e.born, clock, ⟨ok.he, ok.hn, ok.hg, ok.old, ok.s1, ok.s1, ?_⟩, hr2, hb2⟩, hgr, by rcases hal with rfl | rfl <;> simp [ChangeMaps.setBlock], hent⟩
    have := filter_one_less es.toList (fun x => !seen.contains x.born) ok.hg.2 hl
    rw [← this] at hL2
    refine Eq.mp ?_ hL2
    congr 2
    funext x
    by_cases hx : x.born = e.born <;> simp [hx]
end
section
variable {κ ν : Type} {F : Fence} {n : Nat} {P : Program} {kt et t : TypeId} {kv : κ → Value} {vv : ν → Value} (w : World) {m rest : List (κ × ν)} {b r : Nat} {ops : Array Oper} {ro : List Oper} {o : Oper} {a : Act} {Q : Exit → Act → World → Prop}
theorem wpListIn_range_it (hg : o.guard = none) (mo : Operand) (t : TypeId) (hop : o.op = Op.range t mo) (ht : P.underlying t = some (.map kt et)) (hm : a.eval mo = .map (some b)) (h : MapW w b kv vv m)
    (hK : ∀ w', IterW w' w.heap.size b kv vv m m → w.grownBy w' none → w'.heap.size = w.heap.size + 1 → wpListIn F n P ops Q ro (a.put o.dst (.pointer (some ⟨w.heap.size, 0, none⟩))) w') :
    wpListIn F n P ops Q (o :: ro) a w := by
  refine wpListIn_plain hg fun K' hK' => ?_
  obtain ⟨w', hrun, r1, r2, r3⟩ := h.range ht
  unfold Oper.wpIn
  refine ⟨?_, ?_⟩
  · simp [Oper.about, hop]
  · rw [Oper.semAt_plain F _ _ (by rw [hop]; intro c hc'; cases hc')]
    simp [execOp, hop, hm, hrun, Result.andThen]
    exact hK' _ _ (hK w' r1 r2 r3)
theorem wpListIn_next_it (hg : o.guard = none) (it : Operand) (hop : o.op = Op.next it false) (hit : a.eval it = .pointer (some ⟨r, 0, none⟩)) (h : IterW w r b kv vv m rest)
    (hDone : rest = [] → wpListIn F n P ops Q ro (a.put o.dst (.tuple #[.bool false])) w)
    (hMore : ∀ (r1 : List (κ × ν)) (p : κ × ν) (r2 : List (κ × ν)) (w' : World), rest = r1 ++ p :: r2 → IterW w' r b kv vv m (r1 ++ r2) → w.grownBy w' (some r) → w'.heap.size = w.heap.size →
      (Instr.entry (.pointer (some ⟨r, 0, none⟩))).run P w' = .ok (.tuple #[kv p.1, vv p.2]) w' → wpListIn F n P ops Q ro (a.put o.dst (.tuple #[.bool true, kv p.1, vv p.2])) w') :
    wpListIn F n P ops Q (o :: ro) a w := by
  refine wpListIn_plain hg fun K' hK' => ?_
  unfold Oper.wpIn
  refine ⟨by simp [Oper.about, hop], ?_⟩
  rw [Oper.semAt_plain F _ _ (by rw [hop]; intro c hc'; cases hc')]
  rcases h.next (P := P) o.type with ⟨h0, hrun⟩ | ⟨r1, p, r2, w', he, hrun, hrg, hgr, hsz, hen⟩
  · simp [execOp, hop, hit, hrun, Result.andThen]
    exact hK' _ _ (hDone h0)
  · simp [execOp, hop, hit, hrun, Result.andThen]
    exact hK' _ _ (hMore r1 p r2 w' he hrg hgr hsz hen)
end
end Go.Vc

/-
  maps.Keys and slices.Collect at the three kinds of keys: what is collected is the keys, each once, in some order.
-/
namespace Go.Vc
open Go Go.Proofs Go.RowKit Go.Maps Go.Sort Go.Shelf
set_option maxRecDepth 100000
def rfCode (f : Func) : Code × Code := match f.body with
  | some (.seq _ (.seq (.seq _ (.block _ (.rangeFunc _ _ a b))) _)) => (a, b)
  | _ => (.skip, .skip)

/-! ### P -/
def encP (x : (List UInt8 × List UInt8)) : Value := .agg #[.string ⟨x.1.toArray⟩, .string ⟨x.2.toArray⟩]
def celP (x : (List UInt8 × List UInt8)) : List Value := [.string ⟨x.1.toArray⟩, .string ⟨x.2.toArray⟩]
noncomputable def asgP : Code := (rfCode Try.f95).1
noncomputable def bodP : Code := (rfCode Try.f95).2
section
variable {ν : Type} {vv : ν → Value}
set_option maxHeartbeats 1000000 in
theorem keysP_in (F : Fence) (n : Nat) (hf : F.fn 78) (hro : F.round = none) (hn : 1 ≤ n) (l Bm b : Nat) (m : List ((List UInt8 × List UInt8) × ν)) (J : List ((List UInt8 × List UInt8)) → World → Prop)
    (hY : ∀ pre x W, J pre W → pre.length < m.length → YieldAt F (n - 1) Try.prog l #[encP x] W fun e W' => e = .returned (.bool true) ∧ J (pre ++ [x]) W' ∧ KeepsWalks W W')
    (W : World) (hJ : AbidesFrom W.heap.size J) (hm : W.cell? ⟨Bm, 0, none⟩ = some (.map (some b))) (hown : MapW W b encP vv m) (h0 : J [] W) :
    CallsIn F n Try.prog 78 #[.func (.yield l) #[] #[], .pointer (some ⟨Bm, 0, none⟩)] W fun e W' => (∃ v, e = .returned v) ∧ ∃ ss : List ((List UInt8 × List UInt8)), ss.Perm (m.map (·.1)) ∧ J ss W' := by
  refine callsIn_of_wp Try.func78 rfl hf ?_ hro
  simp only [Try.ntmps78, List.size_toArray, List.length_cons, List.length_nil, Nat.reduceAdd, Nat.reduceSub, Array.replicate_succ, Array.replicate_zero, List.push_toArray, List.append_toArray, List.nil_append, List.cons_append]
  gi_wp2_with (first
    | (gi_at_range; refine wpListIn_range_it _ rfl _ 60 rfl Try.underlying60 rfl hown ?_; intro w0 hrg0 hg0 hs0)
    | gi_in)
  go_frame
  gi_loopw [3] (fun _ wr => ∃ (rest : List ((List UInt8 × List UInt8) × ν)) (ss : List ((List UInt8 × List UInt8))), IterW wr W.heap.size b encP vv m rest ∧ (ss ++ rest.map (·.1)).Perm (m.map (·.1)) ∧ J ss wr)
    (fun _ wr => wr.rangeLeft b W.heap.size)
  case atStart =>
    exact ⟨_, [], hrg0, by simp, hJ [] W w0 none h0 hg0 (fun r e => by cases e)⟩
  case round =>
    obtain ⟨rest, ss, hrg, hC, hJs⟩ := hrel
    gi_wp2_with (first
      | (gi_at_next; refine wpListIn_next_it _ rfl _ rfl rfl hrg ?_ ?_)
      | gi_in)
    · intro hc0
      gi_wp2
      go_end0
      exact ⟨⟨_, rfl⟩, ss, by subst hc0; simpa using hC, hJs⟩
    · intro r1 kh kp v r2 w2 hrest hrg2 hg2 hs2 hen
      have hlen : ss.length < m.length := by have := hC.length_eq; rw [hrest] at this; simp at this; omega
      have hg3 := hg2.andThen (World.grownBy_alloc w2 (.cells #[Value.string ⟨kh.toArray⟩, Value.string ⟨kp.toArray⟩] 75) none) (fun j e => by cases e)
      have hJ2 : J ss (w2.alloc (.cells #[Value.string ⟨kh.toArray⟩, Value.string ⟨kp.toArray⟩] 75)) := hJ ss wr _ (some W.heap.size) hJs hg3 (fun r e => by cases e; exact ⟨Nat.le_refl _, hrg.walk⟩)
      have hrg2a := hrg2.of_walks (KeepsWalks.alloc w2 (.cells #[Value.string ⟨kh.toArray⟩, Value.string ⟨kp.toArray⟩] 75))
      obtain ⟨fn, tmps, assign, body, hy, hR⟩ := hY ss (kh, kp) _ hJ2 hlen
      simp only [encP] at hen hy ⊢
      clear hs2
      gi_wp2
      refine hR.mono ?_
      rintro e W3 ⟨rfl, hJ3, hk3⟩
      gi_wp2
      have hrg3 := hrg2a.of_walks hk3
      go_roundw
      case rel => exact ⟨_, ss ++ [(kh, kp)], hrg3, by
        rw [hrest] at hC
        refine List.Perm.trans ?_ hC
        simp only [List.map_append, List.map_cons, List.append_assoc]
        refine List.Perm.append_left ss ?_
        simp only [List.singleton_append]
        exact List.perm_middle.symm, hJ3⟩
      case measure => rw [hrg3.left, hrg.left, hrest]; simp
theorem givesP (F : Fence) (n : Nat) (hf : F.fn 78) (hro : F.round = none) (hn : 1 ≤ n) (Bm b : Nat) (m : List ((List UInt8 × List UInt8) × ν)) (w : World) (hBm : Bm < w.heap.size)
    (hm : w.cell? ⟨Bm, 0, none⟩ = some (.map (some b))) (hown : MapW w b encP vv m) : SeqGives F n Try.prog 78 #[.pointer (some ⟨Bm, 0, none⟩)] encP (fun ss => ss.Perm (m.map (·.1))) m.length w := fun l J W hW hJ hY h0 =>
  keysP_in F n hf hro hn l Bm b m J hY W hJ ((hW.cell (p := ⟨Bm, 0, none⟩) hBm).trans hm) (hown.later hW) h0
end
noncomputable def recP (fn : FuncId) (sv : Value) (Bs D : Nat) (st : LoopState) (pend : Option Code) : Loop :=
  { state := st, pending := pend, fn, tmps := #[.slice none 0 0, sv, .pointer (some ⟨Bs, 0, none⟩), undef, .slice none 0 0, undef, sv, undef, undef, undef, undef, undef, undef], params := #[7], assign := asgP, body := bodP, defers := D }
structure AtP (w0 : World) (fn : FuncId) (sv : Value) (Bs l D : Nat) (ss : List ((List UInt8 × List UInt8))) (W : World) : Prop where
  box : ∃ v, W.heap[Bs]? = some (.cells #[v] 72 (0, 0)) ∧ W.ownsRow w0.heap.size 75 2 v ss.length (ss.flatMap celP)
  L : W.heap[l]? = some (.loop (recP fn sv Bs D .ready none))
  K : W.heap[D]? = some (.deferred (some []))
  below : Below w0.heap.size w0 W
theorem abidesP (w0 : World) (fn : FuncId) (sv : Value) (Bs l D B : Nat) (hB : w0.heap.size ≤ B) : AbidesFrom B (AtP w0 fn sv Bs l D) := fun s W W' row h hg hrow => by
  have hrow' : ∀ r, row = some r → ∃ o : Obj, W.heap[r]? = some o ∧ o.isWalk = true := fun r e => (hrow r e).2
  obtain ⟨v, hv, hr⟩ := h.box
  exact ⟨⟨v, (grownBy_keeps hg hrow' hv rfl).trans hv, ownsRow_abides_a hr hg hrow'⟩, (grownBy_keeps hg hrow' h.L rfl).trans h.L, (grownBy_keeps hg hrow' h.K rfl).trans h.K,
    h.below.grown hg h.below.size (fun k e => Nat.le_trans hB (hrow k e).1)⟩
theorem cells_newP (w : World) (x : (List UInt8 × List UInt8)) : ∀ j u, (celP x)[j]? = some u → (w.alloc (.cells ⟨celP x⟩ 75)).cell? ((⟨w.heap.size, 0, none⟩ : Addr).add j) = some u := fun j u hj => by
  rw [add_mk, Nat.zero_add, cell_of (World.alloc_heap_new w _)]; exact hj
set_option maxHeartbeats 2000000 in
theorem yieldP (F : Fence) (m : Nat) (w0 : World) (fn : FuncId) (hfn : F.fn fn) (sv : Value) (Bs l D : Nat) (hBl : Bs ≠ l) (hDl : D ≠ l) (_hDB : D ≠ Bs) (h0B : w0.heap.size ≤ Bs) (h0l : w0.heap.size ≤ l)
    (N : Nat) (hN : N ≤ maxLen) (hNb : N * 32 ≤ 140737488355328) (ss : List ((List UInt8 × List UInt8))) (x : (List UInt8 × List UInt8)) (W : World) (h : AtP w0 fn sv Bs l D ss W) (hlen : ss.length < N) :
    YieldAt F m Try.prog l #[encP x] W fun e W' => e = .returned (.bool true) ∧ AtP w0 fn sv Bs l D (ss ++ [x]) W' ∧ KeepsWalks W W' := by
  obtain ⟨i0, hi, hz0, hz1, hz2⟩ := info_parts (P := Try.prog) (e := 75) (z := .agg #[.string ⟨#[]⟩, .string ⟨#[]⟩]) (size := 2) (bytes := 32) (by kernel_rfl)
  obtain ⟨v, hv, hrow⟩ := h.box
  refine ⟨fn, #[.slice none 0 0, sv, .pointer (some ⟨Bs, 0, none⟩), undef, .slice none 0 0, undef, sv, encP x, undef, undef, undef, undef, undef], asgP, bodP, by simpa [recP] using run_yield (P := Try.prog) (args := #[encP x]) h.L rfl, roundIn_of_wpIn hfn ?_⟩
  -- what the assignment lays
  unfold asgP
  simp only [rfCode, Try.f95, encP]
  gi_wp2_with (rw [Oper.semAt_eq _ _ _ (fun c h => by cases h)]; go_simp; try go_bits)
  obtain ⟨Wa, hWa⟩ : ∃ Wa, Wa = W.alloc (.cells #[Value.string ⟨x.1.toArray⟩, Value.string ⟨x.2.toArray⟩] 75) := ⟨_, rfl⟩
  have hga : W.grownBy Wa none := by rw [hWa]; exact World.grownBy_alloc _ _ _
  have hka : KeepsWalks W Wa := KeepsWalks.of_grownBy hga (fun j o e => by cases e)
  have olda : ∀ k, k < W.heap.size → Wa.heap[k]? = W.heap[k]? := fun k hk => hga.block k hk (by simp)
  have hva : Wa.heap[Bs]? = some (.cells #[v] 72 (0, 0)) := (olda _ (Array.getElem?_eq_some_iff.1 hv).1).trans hv
  have hKa : Wa.heap[D]? = some (.deferred (some [])) := (olda _ (Array.getElem?_eq_some_iff.1 h.K).1).trans h.K
  have hLa : Wa.heap[l]? = some (.loop (recP fn sv Bs D .ready none)) := (olda _ (Array.getElem?_eq_some_iff.1 h.L).1).trans h.L
  have hrowa : Wa.ownsRow w0.heap.size 75 2 v ss.length (ss.flatMap celP) := hrow.kept hga (by cases hvo : v.ownBlock with | none => exact .inl rfl | some j => exact .inr (by simp))
  have hba : Below w0.heap.size w0 Wa := h.below.grown hga h.below.size (fun k e => by cases e)
  have hl : l < Wa.heap.size := (Array.getElem?_eq_some_iff.1 hLa).1
  have hbr := run_beginRound (P := Try.prog) hLa rfl
  obtain ⟨W2, hW2⟩ : ∃ W2, Wa.putObj l (.loop { recP fn sv Bs D .ready none with state := .busy }) = W2 := ⟨_, rfl⟩
  rw [hW2] at hbr
  have hg2 : Wa.grownBy W2 (some l) := by rw [← hW2]; exact grownBy_putObj_a _ _ _
  have hk2 : KeepsWalks W W2 := hka.trans (by rw [← hW2]; exact KeepsWalks.putObj _ hLa rfl)
  have hv2 : W2.heap[Bs]? = some (.cells #[v] 72 (0, 0)) := by rw [← hW2]; exact (World.putObj_heap_other hBl).trans hva
  have hK2 : W2.heap[D]? = some (.deferred (some [])) := by rw [← hW2]; exact (World.putObj_heap_other hDl).trans hKa
  have hL2 : W2.heap[l]? = some (.loop { recP fn sv Bs D .ready none with state := .busy }) := by rw [← hW2]; exact World.putObj_heap_same hl
  have hrow2 : W2.ownsRow w0.heap.size 75 2 v ss.length (ss.flatMap celP) := hrowa.kept hg2 (ownsRow_ne_a hrowa hLa (fun cur e => by cases e))
  have hb2 : Below w0.heap.size w0 W2 := hba.grown hg2 hba.size (fun k e => by cases e; exact h0l)
  have hbx : W2.heap[W.heap.size]? = some (.cells #[Value.string ⟨x.1.toArray⟩, Value.string ⟨x.2.toArray⟩] 75 (0, 0)) := by
    have hne : W.heap.size ≠ l := by have := (Array.getElem?_eq_some_iff.1 h.L).1; omega
    rw [← hW2, World.putObj_heap_other hne, hWa]; exact World.alloc_heap_new W _
  have hbx0 : W2.cell? ⟨W.heap.size, 0, none⟩ = some (.string ⟨x.1.toArray⟩) := by simp [World.cell?, hbx]
  have hbx1 : W2.cell? ⟨W.heap.size, 1, none⟩ = some (.string ⟨x.2.toArray⟩) := by simp [World.cell?, hbx]
  clear hW2
  obtain ⟨hc2, hf2⟩ := cell_of_box_a hv2
  have hBlt : Bs < W2.heap.size := (Array.getElem?_eq_some_iff.1 hv2).1
  have hl2 : l < W2.heap.size := (Array.getElem?_eq_some_iff.1 hL2).1
  have hDlt : D < W2.heap.size := (Array.getElem?_eq_some_iff.1 hK2).1
  have ne_of : ∀ {j : Nat} {o : Obj}, W2.heap[j]? = some o → (∀ cur, o ≠ .cells cur 75 (0, 0)) → some j ≠ v.ownBlock := fun hj hno => by
    rcases ownsRow_ne_a hrow2 hj hno with e | e
    · rw [e]; simp
    · exact fun e' => e e'.symm
  rw [← hWa]
  refine ⟨W2, hbr, ?_⟩
  unfold bodP
  simp only [rfCode, Try.f95]
  gi_wp2_with (first
    | (gi_at_builtin; refine wpListIn_append_own _ rfl _ _ 72 rfl w0.heap.size 75 i0 (.agg #[.string ⟨#[]⟩, .string ⟨#[]⟩]) 2 32 Try.underlying72 hi hz0 hz1 hz2 rfl (by decide) _ _ _ rfl (hrow2.alloc _) ⟨W2.heap.size, 0, none⟩ 1 1 (celP x) rfl rfl (cells_newP _ _) (by intro u hu; simp [celP] at hu; rcases hu with rfl | rfl <;> rfl) (by omega) (by omega) (by have := hb2.size; simp; omega) ?_; intro v' w3 hown' hg3 _
       have hv3 : w3.heap[Bs]? = some (.cells #[v] 72 (0, 0)) := (hg3.block Bs (by simp; omega) (ne_of hv2 (fun cur e => by cases e))).trans ((Below.heap_alloc _ _ Bs hBlt).trans hv2)
       obtain ⟨hc3, hf3⟩ := cell_of_box_a hv3
       obtain ⟨g', cap', cur', rfl, hbase', hgb', hr1, hr2, hr3, hr4⟩ : ∃ g' cap' cur', v' = .slice (some ⟨g', 0, none⟩) (ss.length + 1) cap' ∧ w0.heap.size ≤ g' ∧ w3.heap[g']? = some (.cells cur' 75 (0, 0)) ∧ ss.length + 1 ≤ cap' ∧ cap' ≤ maxLen ∧ cur'.size = cap' * 2 ∧ cur'.toList.take ((ss.length + 1) * 2) = ss.flatMap celP ++ celP x := by
         rcases hown'.2 with ⟨_, h0⟩ | h'
         · exact absurd h0 (by omega)
         · exact h'
       go_frame)
    | (rw [Oper.semAt_eq _ _ _ (fun c h => by cases h)]; go_simp; try go_bits))
  have hg3' : (W2.alloc (.cells ⟨celP x⟩ 75)).grownBy w3 v.ownBlock := hg3
  have hL3 : w3.heap[l]? = some (.loop { recP fn sv Bs D .ready none with state := .busy }) := (hg3'.block l (by simp; omega) (ne_of hL2 (fun cur e => by cases e))).trans ((Below.heap_alloc _ _ l hl2).trans hL2)
  have hK3 : w3.heap[D]? = some (.deferred (some [])) := (hg3'.block D (by simp; omega) (ne_of hK2 (fun cur e => by cases e))).trans ((Below.heap_alloc _ _ D hDlt).trans hK2)
  obtain ⟨w4, hw4⟩ : ∃ w4, w3.setCell ⟨Bs, 0, none⟩ (.slice (some ⟨g', 0, none⟩) (ss.length + 1) cap') = w4 := ⟨_, rfl⟩
  rw [hw4]
  have hg4 : w3.grownBy w4 (some Bs) := by rw [← hw4]; exact grownBy_setCell0_a _ _ _
  have hv4 : w4.heap[Bs]? = some (.cells #[.slice (some ⟨g', 0, none⟩) (ss.length + 1) cap'] 72 (0, 0)) := by rw [← hw4]; exact heap_setCell_box_a _ hv3
  have hL4 : w4.heap[l]? = some (.loop { recP fn sv Bs D .ready none with state := .busy }) := (hg4.block l (Array.getElem?_eq_some_iff.1 hL3).1 (fun e => hBl (by cases e; rfl))).trans hL3
  have hK4 : w4.heap[D]? = some (.deferred (some [])) := (hg4.block D (Array.getElem?_eq_some_iff.1 hK3).1 (fun e => _hDB (by cases e; rfl))).trans hK3
  have hrow4 := hown'.kept hg4 (ownsRow_ne_a hown' hv3 (fun cur e => by cases e))
  have hb3 : Below w0.heap.size w0 w3 := (hb2.alloc hb2.size _).grown hg3' (by have := hb2.size; simp; omega) (fun k e => (hrow2.lt k e).1)
  have hb4 : Below w0.heap.size w0 w4 := hb3.grown hg4 hb3.size (fun k e => by cases e; exact h0B)
  have hk4 : KeepsWalks W w4 := ((hk2.trans (KeepsWalks.alloc _ _)).trans (KeepsWalks.of_grownBy hg3' (ownsRow_not_walk_a (hrow2.alloc _)))).trans (by rw [← hw4]; exact KeepsWalks.setCell _ _ _)
  clear hw4
  refine ⟨_, _, run_endRound none hL4, rfl, ⟨⟨_, (World.putObj_heap_other hBl).trans hv4, ?_⟩, World.putObj_heap_same (Array.getElem?_eq_some_iff.1 hL4).1, (World.putObj_heap_other hDl).trans hK4, hb4.grown (grownBy_putObj_a _ _ _) hb4.size (fun k e => by cases e; exact h0l)⟩, hk4.trans (KeepsWalks.putObj _ hL4 rfl)⟩
  have := hrow4.kept (grownBy_putObj_a w4 l (.loop { { recP fn sv Bs D .ready none with state := .busy } with state := if (none : Option Code).isNone then .ready else .done, pending := none })) (ownsRow_ne_a hrow4 hL4 (fun cur e => by cases e))
  simpa using this
set_option maxHeartbeats 2000000 in
theorem appendSeqP_in (F : Fence) (n : Nat) (hf : F.fn 95) (hro : F.round = none) (hn : 2 ≤ n) (g : Nat) (lb : Array Value) (hFg : F.fn g) (eg : ∀ args w, (callFunc g args).run Try.prog w = .ok (.enter g args) w)
    (S : List ((List UInt8 × List UInt8)) → Prop) (N : Nat) (hN : N ≤ maxLen) (hNb : N * 32 ≤ 140737488355328) (w : World) (hseq : SeqGives F (n - 1) Try.prog g lb encP S N w) :
    CallsIn F n Try.prog 95 #[.slice none 0 0, .func (.func g) #[] lb] w fun e w' => ∃ (v : Value) (ss : List ((List UInt8 × List UInt8))), e = .returned v ∧ S ss ∧ w'.ownsRow w.heap.size 75 2 v ss.length (ss.flatMap celP) ∧ Below w.heap.size w w' := by
  have h1 : 1 ≤ n := by omega
  refine callsIn_of_wp_marks Try.func95 rfl hf ?_ hro
  simp only [Try.ntmps95, List.size_toArray, List.length_cons, List.length_nil, Nat.reduceAdd, Nat.reduceSub, Array.replicate_succ, Array.replicate_zero, List.push_toArray, List.append_toArray, List.nil_append, List.cons_append]
  gi_wp2
  refine wpIn_rangeFunc ?_
  intro fn hfn
  rw [hro]
  obtain ⟨W0, hW0⟩ : ∃ W0, w.alloc (.cells #[.slice none 0 0] 72) = W0 := ⟨_, rfl⟩
  have hs0 : W0.heap.size = w.heap.size + 1 := by rw [← hW0]; simp
  have hv0 : W0.heap[w.heap.size]? = some (.cells #[.slice none 0 0] 72 (0, 0)) := by rw [← hW0]; exact World.alloc_heap_new w _
  have hb0 : Below w.heap.size w W0 := by rw [← hW0]; exact (Below.refl _ w).alloc (Nat.le_refl _) _
  rw [hW0]
  obtain ⟨W1, hW1⟩ : ∃ W1, (W0.alloc (.deferred (some []))).alloc (.loop (recP fn (.func (.func g) #[] lb) w.heap.size W0.heap.size .ready none)) = W1 := ⟨_, rfl⟩
  have hold : ∀ k, k < W0.heap.size → W1.heap[k]? = W0.heap[k]? := fun k hk => by
    rw [← hW1]; exact (Below.heap_alloc _ _ k (by simp; omega)).trans (Below.heap_alloc _ _ k hk)
  have hb1 : Below w.heap.size w W1 := by rw [← hW1]; exact (hb0.alloc hb0.size _).alloc (by have := hb0.size; simp; omega) _
  have hs1 : W1.heap.size = W0.heap.size + 2 := by rw [← hW1]; simp
  have hM : AtP w fn (.func (.func g) #[] lb) w.heap.size (W0.heap.size + 1) W0.heap.size [] W1 :=
    ⟨⟨_, (hold w.heap.size (by omega)).trans hv0, ⟨rfl, .inl ⟨rfl, rfl⟩⟩⟩,
     by rw [← hW1]; have := World.alloc_heap_new (W0.alloc (.deferred (some []))) (.loop (recP fn (.func (.func g) #[] lb) w.heap.size W0.heap.size .ready none)); rwa [World.size_alloc] at this,
     by rw [← hW1]; exact (Below.heap_alloc _ _ _ (by simp)).trans (World.alloc_heap_new W0 _), hb1⟩
  refine ⟨W0.heap.size + 1, [{ target := .collected W0.heap.size, args := #[] }], W1, { target := .fn (.func g) lb, args := #[.func (.yield (W0.heap.size + 1)) #[] #[]] }, W1, g,
    #[.func (.yield (W0.heap.size + 1)) #[] #[]] ++ lb, W1, ?_, ?_, ?_, ?_, fun _ => h1, ?_⟩
  · rw [← hW1]; exact run_enterLoop_outer _ _ _ _ _
  · simp [resolve, go_sem]
  · intro f' hf'; simp [Target.leads] at hf'; subst hf'; exact hFg
  · simp [invoke, go_sem, eg]
  · refine (hseq (W0.heap.size + 1) (AtP w fn (.func (.func g) #[] lb) w.heap.size (W0.heap.size + 1) W0.heap.size) W1 hb1 (abidesP _ _ _ _ _ _ _ hb1.size)
      (fun pre x W hJ hl => yieldP F (n - 1 - 1) w fn hfn _ w.heap.size (W0.heap.size + 1) W0.heap.size (by omega) (by omega) (by omega) (Nat.le_refl _) (by omega) N hN hNb pre x W hJ hl) hM).mono ?_
    rintro e W2 ⟨⟨v0, rfl⟩, ss, hS, h2⟩
    obtain ⟨v, hv, hrow⟩ := h2.box
    have hend := run_endLoop (P := Try.prog) h2.L (by simp [recP])
    obtain ⟨W3, hW3⟩ : ∃ W3, W2.putObj (W0.heap.size + 1) (.loop { recP fn (.func (.func g) #[] lb) w.heap.size W0.heap.size .ready none with state := .exhausted }) = W3 := ⟨_, rfl⟩
    rw [hW3] at hend
    have hg3 : W2.grownBy W3 (some (W0.heap.size + 1)) := by rw [← hW3]; exact grownBy_putObj_a _ _ _
    have hv3 : W3.heap[w.heap.size]? = some (.cells #[v] 72 (0, 0)) := by rw [← hW3]; exact (World.putObj_heap_other (by omega)).trans hv
    have hK3 : W3.heap[W0.heap.size]? = some (.deferred (some [])) := by rw [← hW3]; exact (World.putObj_heap_other (by omega)).trans h2.K
    have hrow3 := hrow.kept hg3 (ownsRow_ne_a hrow h2.L (fun cur e => by cases e))
    have hb3 : Below w.heap.size w W3 := h2.below.grown hg3 h2.below.size (fun k e => by cases e; omega)
    obtain ⟨hc3, hf3⟩ := cell_of_box_a hv3
    clear hW3
    refine ⟨none, W3, hend, ?_⟩
    gi_wp2
    rw [← hs0]
    refine ⟨by simp, .inl ⟨_, _, rfl, run_takeDeferred hK3, ?_⟩⟩
    exact ⟨_, results_tmp rfl _ _ _, v, ss, rfl, hS, hrow3.kept (grownBy_putObj_a _ _ _) (ownsRow_ne_a hrow3 hK3 (fun cur e => by cases e)), hb3.grown (grownBy_putObj_a _ _ _) hb3.size (fun k e => by cases e; omega)⟩

/-! ### S -/
def encS (x : List UInt8) : Value := .string ⟨x.toArray⟩
def celS (x : List UInt8) : List Value := [.string ⟨x.toArray⟩]
noncomputable def asgS : Code := (rfCode Try.f73).1
noncomputable def bodS : Code := (rfCode Try.f73).2
section
variable {ν : Type} {vv : ν → Value}
set_option maxHeartbeats 1000000 in
theorem keysS_in (F : Fence) (n : Nat) (hf : F.fn 50) (hro : F.round = none) (hn : 1 ≤ n) (l Bm b : Nat) (m : List (List UInt8 × ν)) (J : List (List UInt8) → World → Prop)
    (hY : ∀ pre x W, J pre W → pre.length < m.length → YieldAt F (n - 1) Try.prog l #[encS x] W fun e W' => e = .returned (.bool true) ∧ J (pre ++ [x]) W' ∧ KeepsWalks W W')
    (W : World) (hJ : AbidesFrom W.heap.size J) (hm : W.cell? ⟨Bm, 0, none⟩ = some (.map (some b))) (hown : MapW W b encS vv m) (h0 : J [] W) :
    CallsIn F n Try.prog 50 #[.func (.yield l) #[] #[], .pointer (some ⟨Bm, 0, none⟩)] W fun e W' => (∃ v, e = .returned v) ∧ ∃ ss : List (List UInt8), ss.Perm (m.map (·.1)) ∧ J ss W' := by
  refine callsIn_of_wp Try.func50 rfl hf ?_ hro
  simp only [Try.ntmps50, List.size_toArray, List.length_cons, List.length_nil, Nat.reduceAdd, Nat.reduceSub, Array.replicate_succ, Array.replicate_zero, List.push_toArray, List.append_toArray, List.nil_append, List.cons_append]
  gi_wp2_with (first
    | (gi_at_range; refine wpListIn_range_it _ rfl _ 59 rfl Try.underlying59 rfl hown ?_; intro w0 hrg0 hg0 hs0)
    | gi_in)
  go_frame
  gi_loopw [3] (fun _ wr => ∃ (rest : List (List UInt8 × ν)) (ss : List (List UInt8)), IterW wr W.heap.size b encS vv m rest ∧ (ss ++ rest.map (·.1)).Perm (m.map (·.1)) ∧ J ss wr)
    (fun _ wr => wr.rangeLeft b W.heap.size)
  case atStart =>
    exact ⟨_, [], hrg0, by simp, hJ [] W w0 none h0 hg0 (fun r e => by cases e)⟩
  case round =>
    obtain ⟨rest, ss, hrg, hC, hJs⟩ := hrel
    gi_wp2_with (first
      | (gi_at_next; refine wpListIn_next_it _ rfl _ rfl rfl hrg ?_ ?_)
      | gi_in)
    · intro hc0
      gi_wp2
      go_end0
      exact ⟨⟨_, rfl⟩, ss, by subst hc0; simpa using hC, hJs⟩
    · intro r1 kh v r2 w2 hrest hrg2 hg2 hs2 hen
      have hlen : ss.length < m.length := by have := hC.length_eq; rw [hrest] at this; simp at this; omega
      have hJ2 : J ss w2 := hJ ss wr w2 (some W.heap.size) hJs hg2 (fun r e => by cases e; exact ⟨Nat.le_refl _, hrg.walk⟩)
      have hrg2a := hrg2
      obtain ⟨fn, tmps, assign, body, hy, hR⟩ := hY ss kh _ hJ2 hlen
      simp only [encS] at hen hy ⊢
      clear hs2
      gi_wp2
      refine hR.mono ?_
      rintro e W3 ⟨rfl, hJ3, hk3⟩
      gi_wp2
      have hrg3 := hrg2a.of_walks hk3
      go_roundw
      case rel => exact ⟨_, ss ++ [kh], hrg3, by
        rw [hrest] at hC
        refine List.Perm.trans ?_ hC
        simp only [List.map_append, List.map_cons, List.append_assoc]
        refine List.Perm.append_left ss ?_
        simp only [List.singleton_append]
        exact List.perm_middle.symm, hJ3⟩
      case measure => rw [hrg3.left, hrg.left, hrest]; simp
theorem givesS (F : Fence) (n : Nat) (hf : F.fn 50) (hro : F.round = none) (hn : 1 ≤ n) (Bm b : Nat) (m : List (List UInt8 × ν)) (w : World) (hBm : Bm < w.heap.size)
    (hm : w.cell? ⟨Bm, 0, none⟩ = some (.map (some b))) (hown : MapW w b encS vv m) : SeqGives F n Try.prog 50 #[.pointer (some ⟨Bm, 0, none⟩)] encS (fun ss => ss.Perm (m.map (·.1))) m.length w := fun l J W hW hJ hY h0 =>
  keysS_in F n hf hro hn l Bm b m J hY W hJ ((hW.cell (p := ⟨Bm, 0, none⟩) hBm).trans hm) (hown.later hW) h0
end
noncomputable def recS (fn : FuncId) (sv : Value) (Bs D : Nat) (st : LoopState) (pend : Option Code) : Loop :=
  { state := st, pending := pend, fn, tmps := #[.slice none 0 0, sv, .pointer (some ⟨Bs, 0, none⟩), undef, .slice none 0 0, undef, sv, undef, undef, undef, undef, undef, undef], params := #[7], assign := asgS, body := bodS, defers := D }
structure AtS (w0 : World) (fn : FuncId) (sv : Value) (Bs l D : Nat) (ss : List (List UInt8)) (W : World) : Prop where
  box : ∃ v, W.heap[Bs]? = some (.cells #[v] 64 (0, 0)) ∧ W.ownsRow w0.heap.size 9 1 v ss.length (ss.flatMap celS)
  L : W.heap[l]? = some (.loop (recS fn sv Bs D .ready none))
  K : W.heap[D]? = some (.deferred (some []))
  below : Below w0.heap.size w0 W
theorem abidesS (w0 : World) (fn : FuncId) (sv : Value) (Bs l D B : Nat) (hB : w0.heap.size ≤ B) : AbidesFrom B (AtS w0 fn sv Bs l D) := fun s W W' row h hg hrow => by
  have hrow' : ∀ r, row = some r → ∃ o : Obj, W.heap[r]? = some o ∧ o.isWalk = true := fun r e => (hrow r e).2
  obtain ⟨v, hv, hr⟩ := h.box
  exact ⟨⟨v, (grownBy_keeps hg hrow' hv rfl).trans hv, ownsRow_abides_a hr hg hrow'⟩, (grownBy_keeps hg hrow' h.L rfl).trans h.L, (grownBy_keeps hg hrow' h.K rfl).trans h.K,
    h.below.grown hg h.below.size (fun k e => Nat.le_trans hB (hrow k e).1)⟩
theorem cells_newS (w : World) (x : List UInt8) : ∀ j u, (celS x)[j]? = some u → (w.alloc (.cells ⟨celS x⟩ 9)).cell? ((⟨w.heap.size, 0, none⟩ : Addr).add j) = some u := fun j u hj => by
  rw [add_mk, Nat.zero_add, cell_of (World.alloc_heap_new w _)]; exact hj
set_option maxHeartbeats 2000000 in
theorem yieldS (F : Fence) (m : Nat) (w0 : World) (fn : FuncId) (hfn : F.fn fn) (sv : Value) (Bs l D : Nat) (hBl : Bs ≠ l) (hDl : D ≠ l) (_hDB : D ≠ Bs) (h0B : w0.heap.size ≤ Bs) (h0l : w0.heap.size ≤ l)
    (N : Nat) (hN : N ≤ maxLen) (hNb : N * 16 ≤ 140737488355328) (ss : List (List UInt8)) (x : List UInt8) (W : World) (h : AtS w0 fn sv Bs l D ss W) (hlen : ss.length < N) :
    YieldAt F m Try.prog l #[encS x] W fun e W' => e = .returned (.bool true) ∧ AtS w0 fn sv Bs l D (ss ++ [x]) W' ∧ KeepsWalks W W' := by
  obtain ⟨i0, hi, hz0, hz1, hz2⟩ := info_parts (P := Try.prog) (e := 9) (z := .string ⟨#[]⟩) (size := 1) (bytes := 16) (by kernel_rfl)
  obtain ⟨v, hv, hrow⟩ := h.box
  refine ⟨fn, #[.slice none 0 0, sv, .pointer (some ⟨Bs, 0, none⟩), undef, .slice none 0 0, undef, sv, encS x, undef, undef, undef, undef, undef], asgS, bodS, by simpa [recS] using run_yield (P := Try.prog) (args := #[encS x]) h.L rfl, roundIn_of_wpIn hfn ?_⟩
  -- what the assignment lays
  unfold asgS
  simp only [rfCode, Try.f73, encS]
  gi_wp2_with (rw [Oper.semAt_eq _ _ _ (fun c h => by cases h)]; go_simp; try go_bits)
  obtain ⟨Wa, hWa⟩ : ∃ Wa, Wa = W := ⟨_, rfl⟩
  have hga : W.grownBy Wa none := by rw [hWa]; exact ⟨rfl, rfl, rfl, Nat.le_refl _, fun _ _ _ => rfl⟩
  have hka : KeepsWalks W Wa := KeepsWalks.of_grownBy hga (fun j o e => by cases e)
  have olda : ∀ k, k < W.heap.size → Wa.heap[k]? = W.heap[k]? := fun k hk => hga.block k hk (by simp)
  have hva : Wa.heap[Bs]? = some (.cells #[v] 64 (0, 0)) := (olda _ (Array.getElem?_eq_some_iff.1 hv).1).trans hv
  have hKa : Wa.heap[D]? = some (.deferred (some [])) := (olda _ (Array.getElem?_eq_some_iff.1 h.K).1).trans h.K
  have hLa : Wa.heap[l]? = some (.loop (recS fn sv Bs D .ready none)) := (olda _ (Array.getElem?_eq_some_iff.1 h.L).1).trans h.L
  have hrowa : Wa.ownsRow w0.heap.size 9 1 v ss.length (ss.flatMap celS) := hrow.kept hga (by cases hvo : v.ownBlock with | none => exact .inl rfl | some j => exact .inr (by simp))
  have hba : Below w0.heap.size w0 Wa := h.below.grown hga h.below.size (fun k e => by cases e)
  have hl : l < Wa.heap.size := (Array.getElem?_eq_some_iff.1 hLa).1
  have hbr := run_beginRound (P := Try.prog) hLa rfl
  obtain ⟨W2, hW2⟩ : ∃ W2, Wa.putObj l (.loop { recS fn sv Bs D .ready none with state := .busy }) = W2 := ⟨_, rfl⟩
  rw [hW2] at hbr
  have hg2 : Wa.grownBy W2 (some l) := by rw [← hW2]; exact grownBy_putObj_a _ _ _
  have hk2 : KeepsWalks W W2 := hka.trans (by rw [← hW2]; exact KeepsWalks.putObj _ hLa rfl)
  have hv2 : W2.heap[Bs]? = some (.cells #[v] 64 (0, 0)) := by rw [← hW2]; exact (World.putObj_heap_other hBl).trans hva
  have hK2 : W2.heap[D]? = some (.deferred (some [])) := by rw [← hW2]; exact (World.putObj_heap_other hDl).trans hKa
  have hL2 : W2.heap[l]? = some (.loop { recS fn sv Bs D .ready none with state := .busy }) := by rw [← hW2]; exact World.putObj_heap_same hl
  have hrow2 : W2.ownsRow w0.heap.size 9 1 v ss.length (ss.flatMap celS) := hrowa.kept hg2 (ownsRow_ne_a hrowa hLa (fun cur e => by cases e))
  have hb2 : Below w0.heap.size w0 W2 := hba.grown hg2 hba.size (fun k e => by cases e; exact h0l)
  clear hW2
  obtain ⟨hc2, hf2⟩ := cell_of_box_a hv2
  have hBlt : Bs < W2.heap.size := (Array.getElem?_eq_some_iff.1 hv2).1
  have hl2 : l < W2.heap.size := (Array.getElem?_eq_some_iff.1 hL2).1
  have hDlt : D < W2.heap.size := (Array.getElem?_eq_some_iff.1 hK2).1
  have ne_of : ∀ {j : Nat} {o : Obj}, W2.heap[j]? = some o → (∀ cur, o ≠ .cells cur 9 (0, 0)) → some j ≠ v.ownBlock := fun hj hno => by
    rcases ownsRow_ne_a hrow2 hj hno with e | e
    · rw [e]; simp
    · exact fun e' => e e'.symm
  rw [hWa] at hbr
  refine ⟨W2, hbr, ?_⟩
  unfold bodS
  simp only [rfCode, Try.f73]
  gi_wp2_with (first
    | (gi_at_builtin; refine wpListIn_append_own _ rfl _ _ 64 rfl w0.heap.size 9 i0 (.string ⟨#[]⟩) 1 16 Try.underlying64 hi hz0 hz1 hz2 rfl (by decide) _ _ _ rfl (hrow2.alloc _) ⟨W2.heap.size, 0, none⟩ 1 1 (celS x) rfl rfl (cells_newS _ _) (by intro u hu; simp [celS] at hu; rcases hu with rfl <;> rfl) (by omega) (by omega) (by have := hb2.size; simp; omega) ?_; intro v' w3 hown' hg3 _
       have hv3 : w3.heap[Bs]? = some (.cells #[v] 64 (0, 0)) := (hg3.block Bs (by simp; omega) (ne_of hv2 (fun cur e => by cases e))).trans ((Below.heap_alloc _ _ Bs hBlt).trans hv2)
       obtain ⟨hc3, hf3⟩ := cell_of_box_a hv3
       obtain ⟨g', cap', cur', rfl, hbase', hgb', hr1, hr2, hr3, hr4⟩ : ∃ g' cap' cur', v' = .slice (some ⟨g', 0, none⟩) (ss.length + 1) cap' ∧ w0.heap.size ≤ g' ∧ w3.heap[g']? = some (.cells cur' 9 (0, 0)) ∧ ss.length + 1 ≤ cap' ∧ cap' ≤ maxLen ∧ cur'.size = cap' * 1 ∧ cur'.toList.take ((ss.length + 1) * 1) = ss.flatMap celS ++ celS x := by
         rcases hown'.2 with ⟨_, h0⟩ | h'
         · exact absurd h0 (by omega)
         · exact h'
       go_frame)
    | (rw [Oper.semAt_eq _ _ _ (fun c h => by cases h)]; go_simp; try go_bits))
  have hg3' : (W2.alloc (.cells ⟨celS x⟩ 9)).grownBy w3 v.ownBlock := hg3
  have hL3 : w3.heap[l]? = some (.loop { recS fn sv Bs D .ready none with state := .busy }) := (hg3'.block l (by simp; omega) (ne_of hL2 (fun cur e => by cases e))).trans ((Below.heap_alloc _ _ l hl2).trans hL2)
  have hK3 : w3.heap[D]? = some (.deferred (some [])) := (hg3'.block D (by simp; omega) (ne_of hK2 (fun cur e => by cases e))).trans ((Below.heap_alloc _ _ D hDlt).trans hK2)
  obtain ⟨w4, hw4⟩ : ∃ w4, w3.setCell ⟨Bs, 0, none⟩ (.slice (some ⟨g', 0, none⟩) (ss.length + 1) cap') = w4 := ⟨_, rfl⟩
  rw [hw4]
  have hg4 : w3.grownBy w4 (some Bs) := by rw [← hw4]; exact grownBy_setCell0_a _ _ _
  have hv4 : w4.heap[Bs]? = some (.cells #[.slice (some ⟨g', 0, none⟩) (ss.length + 1) cap'] 64 (0, 0)) := by rw [← hw4]; exact heap_setCell_box_a _ hv3
  have hL4 : w4.heap[l]? = some (.loop { recS fn sv Bs D .ready none with state := .busy }) := (hg4.block l (Array.getElem?_eq_some_iff.1 hL3).1 (fun e => hBl (by cases e; rfl))).trans hL3
  have hK4 : w4.heap[D]? = some (.deferred (some [])) := (hg4.block D (Array.getElem?_eq_some_iff.1 hK3).1 (fun e => _hDB (by cases e; rfl))).trans hK3
  have hrow4 := hown'.kept hg4 (ownsRow_ne_a hown' hv3 (fun cur e => by cases e))
  have hb3 : Below w0.heap.size w0 w3 := (hb2.alloc hb2.size _).grown hg3' (by have := hb2.size; simp; omega) (fun k e => (hrow2.lt k e).1)
  have hb4 : Below w0.heap.size w0 w4 := hb3.grown hg4 hb3.size (fun k e => by cases e; exact h0B)
  have hk4 : KeepsWalks W w4 := ((hk2.trans (KeepsWalks.alloc _ _)).trans (KeepsWalks.of_grownBy hg3' (ownsRow_not_walk_a (hrow2.alloc _)))).trans (by rw [← hw4]; exact KeepsWalks.setCell _ _ _)
  clear hw4
  refine ⟨_, _, run_endRound none hL4, rfl, ⟨⟨_, (World.putObj_heap_other hBl).trans hv4, ?_⟩, World.putObj_heap_same (Array.getElem?_eq_some_iff.1 hL4).1, (World.putObj_heap_other hDl).trans hK4, hb4.grown (grownBy_putObj_a _ _ _) hb4.size (fun k e => by cases e; exact h0l)⟩, hk4.trans (KeepsWalks.putObj _ hL4 rfl)⟩
  have := hrow4.kept (grownBy_putObj_a w4 l (.loop { { recS fn sv Bs D .ready none with state := .busy } with state := if (none : Option Code).isNone then .ready else .done, pending := none })) (ownsRow_ne_a hrow4 hL4 (fun cur e => by cases e))
  simpa using this
set_option maxHeartbeats 2000000 in
theorem appendSeqS_in (F : Fence) (n : Nat) (hf : F.fn 73) (hro : F.round = none) (hn : 2 ≤ n) (g : Nat) (lb : Array Value) (hFg : F.fn g) (eg : ∀ args w, (callFunc g args).run Try.prog w = .ok (.enter g args) w)
    (S : List (List UInt8) → Prop) (N : Nat) (hN : N ≤ maxLen) (hNb : N * 16 ≤ 140737488355328) (w : World) (hseq : SeqGives F (n - 1) Try.prog g lb encS S N w) :
    CallsIn F n Try.prog 73 #[.slice none 0 0, .func (.func g) #[] lb] w fun e w' => ∃ (v : Value) (ss : List (List UInt8)), e = .returned v ∧ S ss ∧ w'.ownsRow w.heap.size 9 1 v ss.length (ss.flatMap celS) ∧ Below w.heap.size w w' := by
  have h1 : 1 ≤ n := by omega
  refine callsIn_of_wp_marks Try.func73 rfl hf ?_ hro
  simp only [Try.ntmps73, List.size_toArray, List.length_cons, List.length_nil, Nat.reduceAdd, Nat.reduceSub, Array.replicate_succ, Array.replicate_zero, List.push_toArray, List.append_toArray, List.nil_append, List.cons_append]
  gi_wp2
  refine wpIn_rangeFunc ?_
  intro fn hfn
  rw [hro]
  obtain ⟨W0, hW0⟩ : ∃ W0, w.alloc (.cells #[.slice none 0 0] 64) = W0 := ⟨_, rfl⟩
  have hs0 : W0.heap.size = w.heap.size + 1 := by rw [← hW0]; simp
  have hv0 : W0.heap[w.heap.size]? = some (.cells #[.slice none 0 0] 64 (0, 0)) := by rw [← hW0]; exact World.alloc_heap_new w _
  have hb0 : Below w.heap.size w W0 := by rw [← hW0]; exact (Below.refl _ w).alloc (Nat.le_refl _) _
  rw [hW0]
  obtain ⟨W1, hW1⟩ : ∃ W1, (W0.alloc (.deferred (some []))).alloc (.loop (recS fn (.func (.func g) #[] lb) w.heap.size W0.heap.size .ready none)) = W1 := ⟨_, rfl⟩
  have hold : ∀ k, k < W0.heap.size → W1.heap[k]? = W0.heap[k]? := fun k hk => by
    rw [← hW1]; exact (Below.heap_alloc _ _ k (by simp; omega)).trans (Below.heap_alloc _ _ k hk)
  have hb1 : Below w.heap.size w W1 := by rw [← hW1]; exact (hb0.alloc hb0.size _).alloc (by have := hb0.size; simp; omega) _
  have hs1 : W1.heap.size = W0.heap.size + 2 := by rw [← hW1]; simp
  have hM : AtS w fn (.func (.func g) #[] lb) w.heap.size (W0.heap.size + 1) W0.heap.size [] W1 :=
    ⟨⟨_, (hold w.heap.size (by omega)).trans hv0, ⟨rfl, .inl ⟨rfl, rfl⟩⟩⟩,
     by rw [← hW1]; have := World.alloc_heap_new (W0.alloc (.deferred (some []))) (.loop (recS fn (.func (.func g) #[] lb) w.heap.size W0.heap.size .ready none)); rwa [World.size_alloc] at this,
     by rw [← hW1]; exact (Below.heap_alloc _ _ _ (by simp)).trans (World.alloc_heap_new W0 _), hb1⟩
  refine ⟨W0.heap.size + 1, [{ target := .collected W0.heap.size, args := #[] }], W1, { target := .fn (.func g) lb, args := #[.func (.yield (W0.heap.size + 1)) #[] #[]] }, W1, g,
    #[.func (.yield (W0.heap.size + 1)) #[] #[]] ++ lb, W1, ?_, ?_, ?_, ?_, fun _ => h1, ?_⟩
  · rw [← hW1]; exact run_enterLoop_outer _ _ _ _ _
  · simp [resolve, go_sem]
  · intro f' hf'; simp [Target.leads] at hf'; subst hf'; exact hFg
  · simp [invoke, go_sem, eg]
  · refine (hseq (W0.heap.size + 1) (AtS w fn (.func (.func g) #[] lb) w.heap.size (W0.heap.size + 1) W0.heap.size) W1 hb1 (abidesS _ _ _ _ _ _ _ hb1.size)
      (fun pre x W hJ hl => yieldS F (n - 1 - 1) w fn hfn _ w.heap.size (W0.heap.size + 1) W0.heap.size (by omega) (by omega) (by omega) (Nat.le_refl _) (by omega) N hN hNb pre x W hJ hl) hM).mono ?_
    rintro e W2 ⟨⟨v0, rfl⟩, ss, hS, h2⟩
    obtain ⟨v, hv, hrow⟩ := h2.box
    have hend := run_endLoop (P := Try.prog) h2.L (by simp [recS])
    obtain ⟨W3, hW3⟩ : ∃ W3, W2.putObj (W0.heap.size + 1) (.loop { recS fn (.func (.func g) #[] lb) w.heap.size W0.heap.size .ready none with state := .exhausted }) = W3 := ⟨_, rfl⟩
    rw [hW3] at hend
    have hg3 : W2.grownBy W3 (some (W0.heap.size + 1)) := by rw [← hW3]; exact grownBy_putObj_a _ _ _
    have hv3 : W3.heap[w.heap.size]? = some (.cells #[v] 64 (0, 0)) := by rw [← hW3]; exact (World.putObj_heap_other (by omega)).trans hv
    have hK3 : W3.heap[W0.heap.size]? = some (.deferred (some [])) := by rw [← hW3]; exact (World.putObj_heap_other (by omega)).trans h2.K
    have hrow3 := hrow.kept hg3 (ownsRow_ne_a hrow h2.L (fun cur e => by cases e))
    have hb3 : Below w.heap.size w W3 := h2.below.grown hg3 h2.below.size (fun k e => by cases e; omega)
    obtain ⟨hc3, hf3⟩ := cell_of_box_a hv3
    clear hW3
    refine ⟨none, W3, hend, ?_⟩
    gi_wp2
    rw [← hs0]
    refine ⟨by simp, .inl ⟨_, _, rfl, run_takeDeferred hK3, ?_⟩⟩
    exact ⟨_, results_tmp rfl _ _ _, v, ss, rfl, hS, hrow3.kept (grownBy_putObj_a _ _ _) (ownsRow_ne_a hrow3 hK3 (fun cur e => by cases e)), hb3.grown (grownBy_putObj_a _ _ _) hb3.size (fun k e => by cases e; omega)⟩

/-! ### I -/
def encI (x : Int) : Value := .int .i64 x
section
variable {ν : Type} {vv : ν → Value}
end
end Go.Vc

/-
  What the library's sort is in this program: tables of numbers, and that the functions are those.
-/
namespace Go.Proofs
set_option maxRecDepth 100000
def Try.sortS_ren : Go.Shelf.Ren := ⟨fun | 6 => 49 | 8 => 75 | 9 => 74 | 19 => 93 | 20 => 94 | 21 => 84 | 22 => 85 | 23 => 86 | 24 => 87 | 25 => 88 | 26 => 89 | 27 => 90 | 28 => 91 | 29 => 92 | 36 => 98 | 31 => 99 | 32 => 100 | 37 => 101 | 38 => 102 | 39 => 79 | 41 => 111 | n => n, fun | 27 => 64 | 29 => 9 | 3 => 3 | 32 => 56 | 26 => 64 | 0 => 0 | 44 => 133 | 46 => 50 | 4 => 4 | 36 => 125 | 35 => 124 | 41 => 130 | 5 => 5 | 9 => 9 | 53 => 138 | 57 => 142 | 63 => 149 | 64 => 150 | n => n, fun | n => n⟩
theorem Try.sortS : Go.Proofs.SlLaysM.n6 Try.prog Try.sortS_ren where
  mixed := by kernel_rfl
  f6 := ⟨ "slices.Sort[[]string,string]", by decide, Try.func49.trans (congrArg some (by kernel_rfl))⟩
  f8 := Try.func75.trans (congrArg some (by kernel_rfl))
  f9 := ⟨ "slices.pdqsortOrdered[string]", by decide, Try.func74.trans (congrArg some (by kernel_rfl))⟩
  f19 := Try.func93.trans (congrArg some (by kernel_rfl))
  f20 := Try.func94.trans (congrArg some (by kernel_rfl))
  f21 := ⟨ "slices.insertionSortOrdered[string]", by decide, Try.func84.trans (congrArg some (by kernel_rfl))⟩
  f22 := ⟨ "slices.heapSortOrdered[string]", by decide, Try.func85.trans (congrArg some (by kernel_rfl))⟩
  f23 := ⟨ "slices.breakPatternsOrdered[string]", by decide, Try.func86.trans (congrArg some (by kernel_rfl))⟩
  f24 := ⟨ "slices.choosePivotOrdered[string]", by decide, Try.func87.trans (congrArg some (by kernel_rfl))⟩
  f25 := ⟨ "slices.reverseRangeOrdered[string]", by decide, Try.func88.trans (congrArg some (by kernel_rfl))⟩
  f26 := ⟨ "slices.partialInsertionSortOrdered[string]", by decide, Try.func89.trans (congrArg some (by kernel_rfl))⟩
  f27 := ⟨ "cmp.Less[string]", by decide, Try.func90.trans (congrArg some (by kernel_rfl))⟩
  f28 := ⟨ "slices.partitionEqualOrdered[string]", by decide, Try.func91.trans (congrArg some (by kernel_rfl))⟩
  f29 := ⟨ "slices.partitionOrdered[string]", by decide, Try.func92.trans (congrArg some (by kernel_rfl))⟩
  f31 := Try.func99.trans (congrArg some (by kernel_rfl))
  f32 := Try.func100.trans (congrArg some (by kernel_rfl))
  f36 := ⟨ "slices.siftDownOrdered[string]", by decide, Try.func98.trans (congrArg some (by kernel_rfl))⟩
  f37 := ⟨ "slices.medianAdjacentOrdered[string]", by decide, Try.func101.trans (congrArg some (by kernel_rfl))⟩
  f38 := ⟨ "slices.medianOrdered[string]", by decide, Try.func102.trans (congrArg some (by kernel_rfl))⟩
  f39 := ⟨ "cmp.isNaN[string]", by decide, Try.func79.trans (congrArg some (by kernel_rfl))⟩
  f41 := ⟨ "slices.order2Ordered[string]", by decide, Try.func111.trans (congrArg some (by kernel_rfl))⟩
  t0 := Try.underlying0
  a0 := Try.isAgg0
  z0 := Try.sizeOf0
  v0 := Try.zeroValue0
  t3 := Try.underlying3
  a3 := Try.isAgg3
  z3 := Try.sizeOf3
  v3 := Try.zeroValue3
  t4 := Try.underlying4
  a4 := Try.isAgg4
  z4 := Try.sizeOf4
  v4 := Try.zeroValue4
  t5 := Try.underlying5
  a5 := Try.isAgg5
  z5 := Try.sizeOf5
  v5 := Try.zeroValue5
  t9 := Try.underlying9
  a9 := Try.isAgg9
  z9 := Try.sizeOf9
  v9 := Try.zeroValue9
  t26 := Try.underlying64
  a26 := Try.isAgg64
  z26 := Try.sizeOf64
  v26 := Try.zeroValue64
  t27 := Try.underlying64
  a27 := Try.isAgg64
  z27 := Try.sizeOf64
  v27 := Try.zeroValue64
  t29 := Try.underlying9
  a29 := Try.isAgg9
  z29 := Try.sizeOf9
  v29 := Try.zeroValue9
  t32 := Try.underlying56
  a32 := Try.isAgg56
  z32 := Try.sizeOf56
  v32 := Try.zeroValue56
  t35 := Try.underlying124
  a35 := Try.isAgg124
  z35 := Try.sizeOf124
  v35 := Try.zeroValue124
  t36 := Try.underlying125
  a36 := Try.isAgg125
  z36 := Try.sizeOf125
  v36 := Try.zeroValue125
  t41 := Try.underlying130
  a41 := Try.isAgg130
  z41 := Try.sizeOf130
  v41 := Try.zeroValue130
  t44 := Try.underlying133
  a44 := Try.isAgg133
  z44 := Try.sizeOf133
  v44 := Try.zeroValue133
  t46 := Try.underlying50
  a46 := Try.isAgg50
  z46 := Try.sizeOf50
  v46 := Try.zeroValue50
  t53 := Try.underlying138
  a53 := Try.isAgg138
  z53 := Try.sizeOf138
  v53 := Try.zeroValue138
  t57 := Try.underlying142
  a57 := Try.isAgg142
  z57 := Try.sizeOf142
  v57 := Try.zeroValue142
  t63 := Try.underlying149
  a63 := Try.isAgg149
  z63 := Try.sizeOf149
  v63 := Try.zeroValue149
  t64 := Try.underlying150
  a64 := Try.isAgg150
  z64 := Try.sizeOf150
  v64 := Try.zeroValue150
def Try.sortP_ren : Go.Shelf.Ren := ⟨fun | 6 => 77 | 15 => 75 | 14 => 96 | 28 => 93 | 29 => 94 | 20 => 103 | 21 => 104 | 22 => 105 | 23 => 106 | 24 => 107 | 25 => 108 | 26 => 109 | 27 => 110 | 46 => 112 | 47 => 99 | 48 => 100 | 49 => 113 | 50 => 114 | 57 => 115 | n => n, fun | 22 => 72 | 24 => 75 | 25 => 101 | 3 => 3 | 39 => 56 | 0 => 0 | 53 => 133 | 55 => 50 | 4 => 4 | 46 => 125 | 45 => 124 | 50 => 130 | 5 => 5 | 9 => 9 | 66 => 138 | 70 => 142 | 76 => 149 | 77 => 150 | n => n, fun | n => n⟩
theorem Try.sortP : Go.Proofs.SlLaysF0.n6 Try.prog Try.sortP_ren where
  mixed := by kernel_rfl
  f6 := ⟨ "slices.SortFunc[[]tollgate/conf.place,tollgate/conf.place]", by decide, Try.func77.trans (congrArg some (by kernel_rfl))⟩
  f14 := ⟨ "slices.pdqsortCmpFunc[tollgate/conf.place]", by decide, Try.func96.trans (congrArg some (by kernel_rfl))⟩
  f15 := Try.func75.trans (congrArg some (by kernel_rfl))
  f20 := ⟨ "slices.insertionSortCmpFunc[tollgate/conf.place]", by decide, Try.func103.trans (congrArg some (by kernel_rfl))⟩
  f21 := ⟨ "slices.heapSortCmpFunc[tollgate/conf.place]", by decide, Try.func104.trans (congrArg some (by kernel_rfl))⟩
  f22 := ⟨ "slices.breakPatternsCmpFunc[tollgate/conf.place]", by decide, Try.func105.trans (congrArg some (by kernel_rfl))⟩
  f23 := ⟨ "slices.choosePivotCmpFunc[tollgate/conf.place]", by decide, Try.func106.trans (congrArg some (by kernel_rfl))⟩
  f24 := ⟨ "slices.reverseRangeCmpFunc[tollgate/conf.place]", by decide, Try.func107.trans (congrArg some (by kernel_rfl))⟩
  f25 := ⟨ "slices.partialInsertionSortCmpFunc[tollgate/conf.place]", by decide, Try.func108.trans (congrArg some (by kernel_rfl))⟩
  f26 := ⟨ "slices.partitionEqualCmpFunc[tollgate/conf.place]", by decide, Try.func109.trans (congrArg some (by kernel_rfl))⟩
  f27 := ⟨ "slices.partitionCmpFunc[tollgate/conf.place]", by decide, Try.func110.trans (congrArg some (by kernel_rfl))⟩
  f28 := Try.func93.trans (congrArg some (by kernel_rfl))
  f29 := Try.func94.trans (congrArg some (by kernel_rfl))
  f46 := ⟨ "slices.siftDownCmpFunc[tollgate/conf.place]", by decide, Try.func112.trans (congrArg some (by kernel_rfl))⟩
  f47 := Try.func99.trans (congrArg some (by kernel_rfl))
  f48 := Try.func100.trans (congrArg some (by kernel_rfl))
  f49 := ⟨ "slices.medianAdjacentCmpFunc[tollgate/conf.place]", by decide, Try.func113.trans (congrArg some (by kernel_rfl))⟩
  f50 := ⟨ "slices.medianCmpFunc[tollgate/conf.place]", by decide, Try.func114.trans (congrArg some (by kernel_rfl))⟩
  f57 := ⟨ "slices.order2CmpFunc[tollgate/conf.place]", by decide, Try.func115.trans (congrArg some (by kernel_rfl))⟩
  t0 := Try.underlying0
  a0 := Try.isAgg0
  z0 := Try.sizeOf0
  v0 := Try.zeroValue0
  t3 := Try.underlying3
  a3 := Try.isAgg3
  z3 := Try.sizeOf3
  v3 := Try.zeroValue3
  t4 := Try.underlying4
  a4 := Try.isAgg4
  z4 := Try.sizeOf4
  v4 := Try.zeroValue4
  t5 := Try.underlying5
  a5 := Try.isAgg5
  z5 := Try.sizeOf5
  v5 := Try.zeroValue5
  t9 := Try.underlying9
  a9 := Try.isAgg9
  z9 := Try.sizeOf9
  v9 := Try.zeroValue9
  t22 := Try.underlying72
  a22 := Try.isAgg72
  z22 := Try.sizeOf72
  v22 := Try.zeroValue72
  t25 := Try.underlying101
  a25 := Try.isAgg101
  z25 := Try.sizeOf101
  v25 := Try.zeroValue101
  t39 := Try.underlying56
  a39 := Try.isAgg56
  z39 := Try.sizeOf56
  v39 := Try.zeroValue56
  t45 := Try.underlying124
  a45 := Try.isAgg124
  z45 := Try.sizeOf124
  v45 := Try.zeroValue124
  t46 := Try.underlying125
  a46 := Try.isAgg125
  z46 := Try.sizeOf125
  v46 := Try.zeroValue125
  t50 := Try.underlying130
  a50 := Try.isAgg130
  z50 := Try.sizeOf130
  v50 := Try.zeroValue130
  t53 := Try.underlying133
  a53 := Try.isAgg133
  z53 := Try.sizeOf133
  v53 := Try.zeroValue133
  t55 := Try.underlying50
  a55 := Try.isAgg50
  z55 := Try.sizeOf50
  v55 := Try.zeroValue50
  t66 := Try.underlying138
  a66 := Try.isAgg138
  z66 := Try.sizeOf138
  v66 := Try.zeroValue138
  t70 := Try.underlying142
  a70 := Try.isAgg142
  z70 := Try.sizeOf142
  v70 := Try.zeroValue142
  t76 := Try.underlying149
  a76 := Try.isAgg149
  z76 := Try.sizeOf149
  v76 := Try.zeroValue149
  t77 := Try.underlying150
  a77 := Try.isAgg150
  z77 := Try.sizeOf150
  v77 := Try.zeroValue150
end Go.Proofs

/-
  Commands and configurations as plain lists: which may be, their bytes, and how bytes are read. No program in sight.
-/
namespace Go.Cm
abbrev Bs := List UInt8
structure Tgt where
  addr : Bs
  w : Nat
deriving DecidableEq
structure Cmd where
  act : Int
  client : Int
  seq : Int
  expect : Int
  host : Bs
  pfx : Bs
  pool : Bs
  tg : List Tgt
deriving DecidableEq
structure Rt where
  host : Bs
  pfx : Bs
  pool : Bs
deriving DecidableEq
structure Pl where
  name : Bs
  tg : List Tgt
deriving DecidableEq
structure Last where
  client : Int
  seq : Int
  e : Int
  ver : Int
deriving DecidableEq
structure Sm where
  ver : Int
  routes : List Rt
  pools : List Pl
  l : List Last
deriving DecidableEq

/-! ### which may be -/
def small (c : UInt8) : Bool := decide (97 ≤ c.toNat ∧ c.toNat ≤ 122) || decide (48 ≤ c.toNat ∧ c.toNat ≤ 57) || decide (c.toNat = 45)
def isName (s : Bs) : Bool := decide (1 ≤ s.length ∧ s.length ≤ 64) && s.all small
/-- point: was the last one a point (or is there none yet)? -/
def hostRun : Bool → Bs → Bool
  | p, [] => !p
  | p, c :: r => (small c || (decide (c.toNat = 46) && !p)) && hostRun (decide (c.toNat = 46)) r
def isHost (s : Bs) : Bool := decide (1 ≤ s.length ∧ s.length ≤ 64) && hostRun true s
def seen (c : UInt8) : Bool := decide (33 ≤ c.toNat ∧ c.toNat ≤ 126)
def pfxB (c : UInt8) : Bool := seen c && !decide (c.toNat = 63) && !decide (c.toNat = 35)
def isPfx (s : Bs) : Bool := decide (1 ≤ s.length ∧ s.length ≤ 128) && s.all pfxB && decide (s.head? = some 47)
def isAddr (s : Bs) : Bool := decide (1 ≤ s.length ∧ s.length ≤ 64) && s.all seen
def isW (w : Nat) : Bool := decide (w < 9218868437227405312)
def chkT (l : List Tgt) : Int :=
  if !l.all (fun t => isAddr t.addr) then 14 else if !l.all (fun t => isW t.w) then 15 else if 16 < l.length then 6 else 0
def usesPool (a : Int) : Bool := decide (a = 1) || decide (a = 2) || decide (a = 3)
def usesRoute (a : Int) : Bool := decide (a = 3) || decide (a = 4)
def seqOk (c : Cmd) : Bool := if c.client = 0 then decide (c.seq = 0) else decide (1 ≤ c.seq ∧ c.seq ≤ 1099511627776)
def argBad (c : Cmd) : Bool :=
  (!usesPool c.act && !usesRoute c.act) || decide (c.client < 0) || decide (32 < c.client) || !seqOk c || decide (c.expect < -1) || decide (1099511627776 ≤ c.expect) ||
  (!usesPool c.act && decide (c.pool ≠ [])) || (!usesRoute c.act && (decide (c.host ≠ []) || decide (c.pfx ≠ []))) || (decide (c.act ≠ 1) && decide (0 < c.tg.length))
def nameBad (c : Cmd) : Bool := (usesPool c.act && !isName c.pool) || (usesRoute c.act && (!isHost c.host || !isPfx c.pfx))
def chk (c : Cmd) : Int := if argBad c then 2 else if nameBad c then 14 else chkT c.tg

/-! ### bytes -/
def encNF : Nat → Nat → Bs
  | 0, n => [UInt8.ofNat n]
  | k + 1, n => if n < 128 then [UInt8.ofNat n] else UInt8.ofNat (n % 128 + 128) :: encNF k (n / 128)
def num (n : Int) : Bs := if n < 0 ∨ 1099511627776 < n then [] else encNF 5 n.toNat
def text (s : Bs) : Bs := num s.length ++ s
def f64 (w : Nat) : Bs := [UInt8.ofNat (w / 2 ^ 56), UInt8.ofNat (w / 2 ^ 48), UInt8.ofNat (w / 2 ^ 40), UInt8.ofNat (w / 2 ^ 32), UInt8.ofNat (w / 2 ^ 24), UInt8.ofNat (w / 2 ^ 16), UInt8.ofNat (w / 2 ^ 8), UInt8.ofNat w]
def tgt (t : Tgt) : Bs := text t.addr ++ f64 t.w
def tgs (l : List Tgt) : Bs := num l.length ++ l.flatMap tgt
def plB (p : Pl) : Bs := text p.name ++ tgs p.tg
def rtB (r : Rt) : Bs := text r.host ++ (text r.pfx ++ text r.pool)
def confB (pools : List Pl) (routes : List Rt) : Bs := num pools.length ++ (pools.flatMap plB ++ (num routes.length ++ routes.flatMap rtB))
/-! ### reading -/
abbrev Ps := Except Int Bs
def takeGo (k n : Nat) : Bs → Except Int (Nat × Bs)
  | [] => .error 3
  | c :: r => if 128 ≤ c.toNat then (if k = 5 then .error 6 else takeGo (k + 1) (n + c.toNat % 128 * 128 ^ k) r)
    else if c.toNat = 0 ∧ 0 < k then .error 4 else if 1099511627776 < n + c.toNat % 128 * 128 ^ k then .error 6 else .ok (n + c.toNat % 128 * 128 ^ k, r)
def rNum (most : Nat) : Ps → Nat × Ps
  | .error e => (0, .error e)
  | .ok r => match takeGo 0 0 r with
    | .error e => (0, .error e)
    | .ok (n, r') => if most < n then (0, .error 6) else (n, .ok r')
def rRow (n : Nat) : Ps → Bs × Ps
  | .error e => ([], .error e)
  | .ok r => if r.length < n then ([], .error 3) else (r.take n, .ok (r.drop n))
def rText (s : Ps) : Bs × Ps := rRow (rNum 128 s).1 (rNum 128 s).2
def bits (l : Bs) : Nat := l.foldl (fun n c => n * 256 + c.toNat) 0
def bad : Ps → Bool
  | .error _ => true
  | .ok _ => false
/-- n times, up to the first fault. -/
def rMany {α : Type} (f : Ps → α × Ps) : Nat → Ps → List α × Ps
  | 0, s => ([], s)
  | n + 1, s => if bad s then ([], s) else ((f s).1 :: (rMany f n (f s).2).1, (rMany f n (f s).2).2)
def rTgt (s : Ps) : Tgt × Ps := (⟨(rText s).1, bits (rRow 8 (rText s).2).1⟩, (rRow 8 (rText s).2).2)
def rTgs (s : Ps) : List Tgt × Ps := rMany rTgt (rNum 16 s).1 (rNum 16 s).2
def maxN : Nat := 1099511627776
def rPl (s : Ps) : Pl × Ps := (⟨(rText s).1, (rTgs (rText s).2).1⟩, (rTgs (rText s).2).2)
def rRt (s : Ps) : Rt × Ps := (⟨(rText s).1, (rText (rText s).2).1, (rText (rText (rText s).2).2).1⟩, (rText (rText (rText s).2).2).2)
def rLa (s : Ps) : Last × Ps :=
  let k := rNum maxN s
  let q := rNum maxN k.2
  let e := rNum maxN q.2
  let v := rNum maxN e.2
  (⟨k.1, q.1, e.1, v.1⟩, v.2)
def rSm (b : Bs) : Sm × Ps :=
  let v := rNum maxN (.ok b)
  let n := rNum 32 v.2
  let p := rMany rPl n.1 n.2
  let m := rNum 64 p.2
  let r := rMany rRt m.1 m.2
  let k := rNum 32 r.2
  let l := rMany rLa k.1 k.2
  (⟨v.1, r.1, p.1, l.1⟩, l.2)
def rtLt (a b : Rt) : Bool := decide (a.host < b.host) || (decide (a.host = b.host) && decide (a.pfx < b.pfx))
/-- Each one ahead of the next. -/
def rises {α : Type} (lt : α → α → Bool) : List α → Bool
  | [] => true
  | [_] => true
  | a :: b :: r => lt a b && rises lt (b :: r)
def told (e : Int) : Bool := decide (e = 0) || decide (e = 6) || decide (e = 8) || decide (e = 12) || decide (e = 13)
def rightL (v : Int) (x : Last) : Bool := decide (1 ≤ x.client ∧ x.client ≤ 32) && decide (1 ≤ x.seq) && told x.e && decide (x.ver ≤ v)
def right (s : Sm) : Bool :=
  (s.pools.all (fun p => isName p.name && decide (chkT p.tg = 0)) && rises (fun a b => decide (a.name < b.name)) s.pools) &&
  (s.routes.all (fun r => s.pools.any (fun p => decide (p.name = r.pool)) && isHost r.host && isPfx r.pfx) && rises rtLt s.routes) &&
  (s.l.all (rightL s.ver) && rises (fun a b => decide (a.client < b.client)) s.l) && decide ((confB s.pools s.routes).length ≤ 12000)
def load (b : Bs) : Except Int Sm :=
  match (rSm b).2 with
  | .error e => .error e
  | .ok r => if r ≠ [] ∨ right (rSm b).1 = false then .error 4 else .ok (rSm b).1

/-! ### what is put is got, and the other way round -/
theorem f64_len (w : Nat) : (f64 w).length = 8 := rfl
def goodT (t : Tgt) : Prop := t.addr.length ≤ 128 ∧ t.w < 2 ^ 64
/-! ### the checks' own bounds -/
theorem chk_zero {c : Cmd} (h : chk c = 0) : argBad c = false ∧ nameBad c = false ∧ chkT c.tg = 0 := by
  unfold chk at h
  cases h1 : argBad c <;> cases h2 : nameBad c <;> simp_all
theorem chkT_zero {l : List Tgt} (h : chkT l = 0) : (∀ t ∈ l, isAddr t.addr = true ∧ isW t.w = true) ∧ l.length ≤ 16 := by
  unfold chkT at h
  cases h1 : l.all (fun t => isAddr t.addr) <;> cases h2 : l.all (fun t => isW t.w) <;> simp [h1, h2] at h
  refine ⟨fun t ht => ⟨?_, ?_⟩, by omega⟩
  · exact List.all_eq_true.1 h1 t ht
  · exact List.all_eq_true.1 h2 t ht
theorem chkT_good {l : List Tgt} (h : chkT l = 0) : ∀ t ∈ l, goodT t := fun t ht => by
  obtain ⟨h1, h2⟩ := (chkT_zero h).1 t ht
  simp only [isAddr, Bool.and_eq_true, decide_eq_true_eq] at h1
  simp only [isW, decide_eq_true_eq] at h2
  exact ⟨by omega, by omega⟩
theorem name_len {s : Bs} (h : isName s = true) : 1 ≤ s.length ∧ s.length ≤ 64 := by
  simp only [isName, Bool.and_eq_true, decide_eq_true_eq] at h; exact h.1
theorem host_len {s : Bs} (h : isHost s = true) : 1 ≤ s.length ∧ s.length ≤ 64 := by
  simp only [isHost, Bool.and_eq_true, decide_eq_true_eq] at h; exact h.1
theorem pfx_len {s : Bs} (h : isPfx s = true) : 1 ≤ s.length ∧ s.length ≤ 128 := by
  simp only [isPfx, Bool.and_eq_true, decide_eq_true_eq] at h; exact h.1.1
structure Fine (c : Cmd) : Prop where
  a : 1 ≤ c.act ∧ c.act ≤ 4
  cl : 0 ≤ c.client ∧ c.client ≤ 32
  sq : 0 ≤ c.seq ∧ c.seq ≤ 1099511627776
  ex : -1 ≤ c.expect ∧ c.expect < 1099511627776
  h : c.host.length ≤ 64
  p : c.pfx.length ≤ 128
  o : c.pool.length ≤ 64
  t : chkT c.tg = 0
theorem chk_fine {c : Cmd} (h : chk c = 0) : Fine c := by
  obtain ⟨h1, h2, h3⟩ := chk_zero h
  simp only [argBad, Bool.or_eq_false_iff] at h1
  obtain ⟨⟨⟨⟨⟨⟨⟨⟨a1, a2⟩, a3⟩, a4⟩, a5⟩, a6⟩, a7⟩, a8⟩, a9⟩ := h1
  simp only [decide_eq_false_iff_not] at a2 a3 a5 a6
  have ha : 1 ≤ c.act ∧ c.act ≤ 4 := by
    simp [usesPool, usesRoute] at a1
    omega
  have hs : 0 ≤ c.seq ∧ c.seq ≤ 1099511627776 := by
    simp only [seqOk, Bool.not_eq_false'] at a4
    split at a4 <;> simp at a4 <;> omega
  simp only [nameBad, Bool.or_eq_false_iff] at h2
  have hp : c.pool.length ≤ 64 := by
    cases hu : usesPool c.act
    · simp [hu] at a7; simp [a7]
    · simp [hu] at h2; have := name_len h2.1; omega
  have hr : c.host.length ≤ 64 ∧ c.pfx.length ≤ 128 := by
    cases hu : usesRoute c.act
    · simp [hu] at a8; simp [a8.1, a8.2]
    · simp [hu] at h2; have := host_len h2.2.1; have := pfx_len h2.2.2; omega
  exact ⟨ha, by omega, hs, by omega, hr.1, hr.2, hp, h3⟩
end Go.Cm
