/-
  What the functions' code comes to; printed by a program of this claim's own.
-/
import Derived.Test.YtcpmfjclkdjfmaaGreatProg
import Derived.KernelRfl
import Derived.Test.YtcpmfjclkdjfmaaGreatGa
namespace Go.Proofs.YtcpmfjclkdjfmaaGreat
open Go Go.Vc
set_option maxRecDepth 100000
set_option linter.unusedVariables false

/-! tollgate/conf.num -/
def T_conf_num (b1a : Option Addr) (b1l : Nat) (b1c : Nat) (n2 : Int) (w : World) (R : Ending → World → Prop) : Prop :=
  Calls Tryz.prog 88 #[.int .i64 n2] w (ret (fun r3 w4 => ∃ s5a : Option Addr, ∃ s5l : Nat, ∃ s5c : Nat, ∃ x6 : Int, r3 = .tuple #[.slice s5a s5l s5c, .int .i64 x6] ∧ runV Tryz.prog (Builtin.append_ #[56, 56] 56 #[.slice b1a b1l b1c, .slice s5a s5l s5c]) w4 (fun r7 w8 => ∃ s9a : Option Addr, ∃ s9l : Nat, ∃ s9c : Nat, r7 = .slice s9a s9l s9c ∧ R (.returned (.slice s9a s9l s9c)) w8) (pan R)) (pan R))

theorem T_conf_num_hl : allP (hokL Tryz.prog (hookAt []) (bodyOf Tryz.f49) 1) = (True) := by kernel_rfl

theorem T_conf_num_eq (b1a : Option Addr) (b1l : Nat) (b1c : Nat) (n2 : Int) (w : World) (R : Ending → World → Prop) : vcCode Tryz.prog (hookAt []) (bodyOf Tryz.f49) 1 ⟨argEnv [.slice b1a b1l b1c, .int .i64 n2] 0, Tryz.f49.ntmps, []⟩ w (finQ Tryz.prog Tryz.f49.results.toList R) = T_conf_num b1a b1l b1c n2 w R := by kernel_rfl

theorem T_conf_num_b : Tryz.f49.body = some (bodyOf Tryz.f49) := by kernel_rfl
theorem T_conf_num_s : (quietSel (bodyOf Tryz.f49) && Nat.ble 2 Tryz.f49.ntmps) = true := by kernel_rfl

theorem C_conf_num {b1a : Option Addr} {b1l : Nat} {b1c : Nat} {n2 : Int} {w : World} {R : Ending → World → Prop} (h : T_conf_num b1a b1l b1c n2 w R) : Calls Tryz.prog 49 #[.slice b1a b1l b1c, .int .i64 n2] w R :=
  calls_of_text (args := [.slice b1a b1l b1c, .int .i64 n2]) mixed Tryz.func49 T_conf_num_b T_conf_num_s (HOk_of _ _ (by rw [T_conf_num_hl]; exact trivial)) (by rw [T_conf_num_eq]; exact h)

/-! tollgate/wire.Number -/
def T_wire_Number (n1 : Int) (w : World) (R : Ending → World → Prop) : Prop :=
  if (decide ((n1 : Int) < 0)) = true then (R (.returned (.tuple #[.slice none 0 0, .int .i64 2])) w) else (if (decide ((n1 : Int) > 1099511627776)) = true then (R (.returned (.tuple #[.slice none 0 0, .int .i64 2])) w) else (Calls Tryz.prog 118 #[.slice none 0 0, .int .i64 n1] w (ret (fun r2 w3 => ∃ s4a : Option Addr, ∃ s4l : Nat, ∃ s4c : Nat, r2 = .slice s4a s4l s4c ∧ R (.returned (.tuple #[.slice s4a s4l s4c, .int .i64 0])) w3) (pan R))))

theorem T_wire_Number_hl : allP (hokL Tryz.prog (hookAt []) (bodyOf Tryz.f88) 1) = (True) := by kernel_rfl

theorem T_wire_Number_eq (n1 : Int) (w : World) (R : Ending → World → Prop) : vcCode Tryz.prog (hookAt []) (bodyOf Tryz.f88) 1 ⟨argEnv [.int .i64 n1] 0, Tryz.f88.ntmps, []⟩ w (finQ Tryz.prog Tryz.f88.results.toList R) = T_wire_Number n1 w R := by kernel_rfl

theorem T_wire_Number_b : Tryz.f88.body = some (bodyOf Tryz.f88) := by kernel_rfl
theorem T_wire_Number_s : (quietSel (bodyOf Tryz.f88) && Nat.ble 1 Tryz.f88.ntmps) = true := by kernel_rfl

theorem C_wire_Number {n1 : Int} {w : World} {R : Ending → World → Prop} (h : T_wire_Number n1 w R) : Calls Tryz.prog 88 #[.int .i64 n1] w R :=
  calls_of_text (args := [.int .i64 n1]) mixed Tryz.func88 T_wire_Number_b T_wire_Number_s (HOk_of _ _ (by rw [T_wire_Number_hl]; exact trivial)) (by rw [T_wire_Number_eq]; exact h)

/-! tollgate/conf.row -/
def T_conf_row_1_body (X : Option Addr → Nat → Nat → Int → World → Prop) (b6a : Option Addr) (b6l : Nat) (b6c : Nat) (x7 : Int) (s8a : Option Addr) (s8l : Nat) (s8c : Nat) (x9 : Int) (w : World) (Kn : Option Addr → Nat → Nat → World → Prop) (Kp : List PanicEntry → World → Prop)  : Prop :=
  if (decide ((x7 : Int) < x9)) = true then (0 ≤ (x7 : Int) ∧ (x7 : Int) < ((s8l : Nat) : Int) ∧ ∃ b10, s8a = some b10 ∧ ∃ s11 : ByteArray, ∃ f12 : Nat, rd w (b10.add ((x7 : Int).toNat * 2)) (.agg #[.string s11, .float .f64 f12]) ∧ let w13 : World := w.alloc (.cells #[.string (ByteArray.mk #[]), .float .f64 0] 64)
  (.agg #[.string s11, .float .f64 f12] : Value).cells.size = 2 ∧ wrOk w13 (⟨w.heap.size, 0, none⟩ : Addr) (.agg #[.string s11, .float .f64 f12]) ∧ let w14 : World := wr w13 (⟨w.heap.size, 0, none⟩ : Addr) (.agg #[.string s11, .float .f64 f12])
  let w15 : World := w14.drew
  ∃ s16 : ByteArray, rd w15 (⟨w.heap.size, 0, none⟩ : Addr) (.string s16) ∧ ∃ f17 : Nat, rd w15 ((⟨w.heap.size, 0, none⟩ : Addr).add 1) (.float .f64 f17) ∧ Calls Tryz.prog 90 #[.slice b6a b6l b6c, .string s16] w15 (ret (fun r18 w19 => ∃ s20a : Option Addr, ∃ s20l : Nat, ∃ s20c : Nat, r18 = .slice s20a s20l s20c ∧ (rd w19 ((⟨w.heap.size, 0, none⟩ : Addr).add 1) (.float .f64 f17) ∧ True) ∧ Calls Tryz.prog 119 #[.slice s20a s20l s20c, .float .f64 f17] w19 (ret (fun r21 w22 => ∃ s23a : Option Addr, ∃ s23l : Nat, ∃ s23c : Nat, r21 = .slice s23a s23l s23c ∧ (True) ∧ X s23a s23l s23c (IntKind.wrap .i64 ((x7 : Int) + 1)) w22) Kp)) Kp)) else (Kn b6a b6l b6c w)

def T_conf_row_1 (b6a : Option Addr) (b6l : Nat) (b6c : Nat) (x7 : Int) (s8a : Option Addr) (s8l : Nat) (s8c : Nat) (x9 : Int) (w : World) (Kn : Option Addr → Nat → Nat → World → Prop) (Kp : List PanicEntry → World → Prop) : Prop :=
  ∀ X : Option Addr → Nat → Nat → Int → World → Prop, (∀ (b6a : Option Addr) (b6l : Nat) (b6c : Nat) (x7 : Int) (w : World), T_conf_row_1_body X b6a b6l b6c x7 s8a s8l s8c x9 w Kn Kp → X b6a b6l b6c x7 w) → X b6a b6l b6c x7 w

def T_conf_row_1_outs : Exit → Option (List (Nat × Value)) := fun x => match x with | .normal => some [(0, .slice none 0 0)] | .panic _ => some [] | _ => none

def T_conf_row_1_ks : Nat → Bool := ksOf [0, 6, 13, 14, 15, 16, 17, 18, 19, 20, 21, 22, 23, 24]

def H_conf_row_1 : Env → World → QT → Prop := unitHook 26 T_conf_row_1_ks [(0, .slice none 0 0), (13, .int .i64 0), (11, .slice none 0 0), (12, .int .i64 0)] T_conf_row_1_outs fun l w C => match l with | [v0, v1, v2, v3] => T_conf_row_1 (pA v0) (pL v0) (pC v0) (pInt v1) (pA v2) (pL v2) (pC v2) (pInt v3) w (fun b25a b25l b25c w => C .normal [.slice b25a b25l b25c] w) (fun ch w => C (.panic ch) [] w) | _ => False

theorem T_conf_row_1_hl : allP (hokL Tryz.prog (hookAt []) (at_ (bodyOf Tryz.f89) [1, 1, 0, 1, 0, 0]) 116) = (True) := by kernel_rfl
theorem T_conf_row_1_hok : HOk Tryz.prog (hookAt []) (at_ (bodyOf Tryz.f89) [1, 1, 0, 1, 0, 0]) 116 := HOk_of _ _ (by rw [T_conf_row_1_hl]; exact trivial)

theorem T_conf_row_1_eq (C : Conts) (X : List Value → World → Prop) (b6a : Option Addr) (b6l : Nat) (b6c : Nat) (x7 : Int) (s8a : Option Addr) (s8l : Nat) (s8c : Nat) (x9 : Int) (w : World) : vcCode Tryz.prog (hookAt []) (at_ (bodyOf Tryz.f89) [1, 1, 0, 1, 0, 0]) 116 ⟨[(0, .slice b6a b6l b6c), (13, .int .i64 x7)] ++ [(11, .slice s8a s8l s8c), (12, .int .i64 x9)], 26, []⟩ w (seqQ (fun e w => takeAll e [(0, .slice none 0 0), (13, .int .i64 0)] fun l => X l w) (blockQ 0 (unitQ T_conf_row_1_outs C))) = T_conf_row_1_body (fun b6a b6l b6c x7 w => X [.slice b6a b6l b6c, .int .i64 x7] w) b6a b6l b6c x7 s8a s8l s8c x9 w (fun b26a b26l b26c w => C .normal [.slice b26a b26l b26c] w) (fun ch w => C (.panic ch) [] w) := by kernel_rfl

theorem T_conf_row_1_ok : UnitOk Tryz.prog H_conf_row_1 (at_ (bodyOf Tryz.f89) [1, 1, 0, 1]) 29 := by
  have hc : at_ (bodyOf Tryz.f89) [1, 1, 0, 1] = .block 0 (.loop (at_ (bodyOf Tryz.f89) [1, 1, 0, 1, 0, 0])) := by kernel_rfl
  rw [hc]
  refine loop_unit_ok (carr := [(0, .slice none 0 0), (13, .int .i64 0)]) (fix := [(11, .slice none 0 0), (12, .int .i64 0)]) (ks := T_conf_row_1_ks) (H := (hookAt [])) (B := fun C X l u w => match l, u with | [v0, v1], [v2, v3] => T_conf_row_1_body (fun b6a b6l b6c x7 w => X [.slice b6a b6l b6c, .int .i64 x7] w) (pA v0) (pL v0) (pC v0) (pInt v1) (pA v2) (pL v2) (pC v2) (pInt v3) w (fun b27a b27l b27c w => C .normal [.slice b27a b27l b27c] w) (fun ch w => C (.panic ch) [] w) | _, _ => False) (by kernel_rfl) (by kernel_rfl) T_conf_row_1_hok ?_ ?_
  · intro C X l u w hl hu
    obtain ⟨v0, l_v0, rfl, k_v0, hl_v0⟩ := Kinds.cons_ hl
    obtain ⟨b6a, b6l, b6c, rfl⟩ := kind_slice k_v0
    obtain ⟨v1, l_v1, rfl, k_v1, hl_v1⟩ := Kinds.cons_ hl_v0
    obtain ⟨x7, rfl⟩ := kind_int k_v1
    obtain rfl := Kinds.nil_ hl_v1
    obtain ⟨v2, l_v2, rfl, k_v2, hu_v2⟩ := Kinds.cons_ hu
    obtain ⟨s8a, s8l, s8c, rfl⟩ := kind_slice k_v2
    obtain ⟨v3, l_v3, rfl, k_v3, hu_v3⟩ := Kinds.cons_ hu_v2
    obtain ⟨x9, rfl⟩ := kind_int k_v3
    obtain rfl := Kinds.nil_ hu_v3
    exact T_conf_row_1_eq C X b6a b6l b6c x7 s8a s8l s8c x9 w
  · intro l u w C hl hu
    obtain ⟨v0, l_v0, rfl, k_v0, hl_v0⟩ := Kinds.cons_ hl
    obtain ⟨b6a, b6l, b6c, rfl⟩ := kind_slice k_v0
    obtain ⟨v1, l_v1, rfl, k_v1, hl_v1⟩ := Kinds.cons_ hl_v0
    obtain ⟨x7, rfl⟩ := kind_int k_v1
    obtain rfl := Kinds.nil_ hl_v1
    obtain ⟨v2, l_v2, rfl, k_v2, hu_v2⟩ := Kinds.cons_ hu
    obtain ⟨s8a, s8l, s8c, rfl⟩ := kind_slice k_v2
    obtain ⟨v3, l_v3, rfl, k_v3, hu_v3⟩ := Kinds.cons_ hu_v2
    obtain ⟨x9, rfl⟩ := kind_int k_v3
    obtain rfl := Kinds.nil_ hu_v3
    constructor
    · intro h X hX
      exact h (fun b6a b6l b6c x7 w => X [.slice b6a b6l b6c, .int .i64 x7] w) (fun b6a b6l b6c x7 w hb => hX [.slice b6a b6l b6c, .int .i64 x7] w ⟨rfl, rfl, trivial⟩ hb)
    · intro h X hX
      exact h (fun l w => match l with | [v0, v1] => X (pA v0) (pL v0) (pC v0) (pInt v1) w | _ => True) (fun l w hl hb => by
        obtain ⟨v0, l_v0, rfl, k_v0, hl_v0⟩ := Kinds.cons_ hl
        obtain ⟨b6a, b6l, b6c, rfl⟩ := kind_slice k_v0
        obtain ⟨v1, l_v1, rfl, k_v1, hl_v1⟩ := Kinds.cons_ hl_v0
        obtain ⟨x7, rfl⟩ := kind_int k_v1
        obtain rfl := Kinds.nil_ hl_v1
        exact hX b6a b6l b6c x7 w hb)

def T_conf_row (b1a : Option Addr) (b1l : Nat) (b1c : Nat) (l2a : Option Addr) (l2l : Nat) (l2c : Nat) (w : World) (R : Ending → World → Prop) : Prop :=
  Calls Tryz.prog 49 #[.slice b1a b1l b1c, .int .i64 ((l2l : Nat) : Int)] w (ret (fun r3 w4 => ∃ s5a : Option Addr, ∃ s5l : Nat, ∃ s5c : Nat, r3 = .slice s5a s5l s5c ∧ T_conf_row_1 s5a s5l s5c 0 l2a l2l l2c ((l2l : Nat) : Int) w4 (fun b28a b28l b28c w29 => R (.returned (.slice b28a b28l b28c)) w29) (pan R)) (pan R))

theorem T_conf_row_hl : allP (hokL Tryz.prog (hookAt [(29, H_conf_row_1)]) (bodyOf Tryz.f89) 1) = (UnitOk Tryz.prog H_conf_row_1 (at_ (bodyOf Tryz.f89) [1, 1, 0, 1]) 29 ∧ True) := by kernel_rfl

theorem T_conf_row_eq (b1a : Option Addr) (b1l : Nat) (b1c : Nat) (l2a : Option Addr) (l2l : Nat) (l2c : Nat) (w : World) (R : Ending → World → Prop) : vcCode Tryz.prog (hookAt [(29, H_conf_row_1)]) (bodyOf Tryz.f89) 1 ⟨argEnv [.slice b1a b1l b1c, .slice l2a l2l l2c] 0, Tryz.f89.ntmps, []⟩ w (finQ Tryz.prog Tryz.f89.results.toList R) = T_conf_row b1a b1l b1c l2a l2l l2c w R := by kernel_rfl

theorem T_conf_row_b : Tryz.f89.body = some (bodyOf Tryz.f89) := by kernel_rfl
theorem T_conf_row_s : (quietSel (bodyOf Tryz.f89) && Nat.ble 2 Tryz.f89.ntmps) = true := by kernel_rfl

theorem C_conf_row {b1a : Option Addr} {b1l : Nat} {b1c : Nat} {l2a : Option Addr} {l2l : Nat} {l2c : Nat} {w : World} {R : Ending → World → Prop} (h : T_conf_row b1a b1l b1c l2a l2l l2c w R) : Calls Tryz.prog 89 #[.slice b1a b1l b1c, .slice l2a l2l l2c] w R :=
  calls_of_text (args := [.slice b1a b1l b1c, .slice l2a l2l l2c]) mixed Tryz.func89 T_conf_row_b T_conf_row_s (HOk_of _ _ (by rw [T_conf_row_hl]; exact ⟨T_conf_row_1_ok, trivial⟩)) (by rw [T_conf_row_eq]; exact h)

/-! tollgate/conf.text -/
def T_conf_text (b1a : Option Addr) (b1l : Nat) (b1c : Nat) (s2 : ByteArray) (w : World) (R : Ending → World → Prop) : Prop :=
  Calls Tryz.prog 49 #[.slice b1a b1l b1c, .int .i64 ((s2.size : Nat) : Int)] w (ret (fun r3 w4 => ∃ s5a : Option Addr, ∃ s5l : Nat, ∃ s5c : Nat, r3 = .slice s5a s5l s5c ∧ runV Tryz.prog (Builtin.append_ #[56, 9] 56 #[.slice s5a s5l s5c, .string s2]) w4 (fun r6 w7 => ∃ s8a : Option Addr, ∃ s8l : Nat, ∃ s8c : Nat, r6 = .slice s8a s8l s8c ∧ R (.returned (.slice s8a s8l s8c)) w7) (pan R)) (pan R))

theorem T_conf_text_hl : allP (hokL Tryz.prog (hookAt []) (bodyOf Tryz.f90) 1) = (True) := by kernel_rfl

theorem T_conf_text_eq (b1a : Option Addr) (b1l : Nat) (b1c : Nat) (s2 : ByteArray) (w : World) (R : Ending → World → Prop) : vcCode Tryz.prog (hookAt []) (bodyOf Tryz.f90) 1 ⟨argEnv [.slice b1a b1l b1c, .string s2] 0, Tryz.f90.ntmps, []⟩ w (finQ Tryz.prog Tryz.f90.results.toList R) = T_conf_text b1a b1l b1c s2 w R := by kernel_rfl

theorem T_conf_text_b : Tryz.f90.body = some (bodyOf Tryz.f90) := by kernel_rfl
theorem T_conf_text_s : (quietSel (bodyOf Tryz.f90) && Nat.ble 2 Tryz.f90.ntmps) = true := by kernel_rfl

theorem C_conf_text {b1a : Option Addr} {b1l : Nat} {b1c : Nat} {s2 : ByteArray} {w : World} {R : Ending → World → Prop} (h : T_conf_text b1a b1l b1c s2 w R) : Calls Tryz.prog 90 #[.slice b1a b1l b1c, .string s2] w R :=
  calls_of_text (args := [.slice b1a b1l b1c, .string s2]) mixed Tryz.func90 T_conf_text_b T_conf_text_s (HOk_of _ _ (by rw [T_conf_text_hl]; exact trivial)) (by rw [T_conf_text_eq]; exact h)

/-! tollgate/tollgateref08.num -/
def T_ref08_num (b1a : Option Addr) (b1l : Nat) (b1c : Nat) (n2 : Int) (w : World) (R : Ending → World → Prop) : Prop :=
  Calls Tryz.prog 122 #[.int .i64 n2] w (ret (fun r3 w4 => ∃ s5a : Option Addr, ∃ s5l : Nat, ∃ s5c : Nat, ∃ x6 : Int, r3 = .tuple #[.slice s5a s5l s5c, .int .i64 x6] ∧ runV Tryz.prog (Builtin.append_ #[56, 56] 56 #[.slice b1a b1l b1c, .slice s5a s5l s5c]) w4 (fun r7 w8 => ∃ s9a : Option Addr, ∃ s9l : Nat, ∃ s9c : Nat, r7 = .slice s9a s9l s9c ∧ R (.returned (.slice s9a s9l s9c)) w8) (pan R)) (pan R))

theorem T_ref08_num_hl : allP (hokL Tryz.prog (hookAt []) (bodyOf Tryz.f94) 1) = (True) := by kernel_rfl

theorem T_ref08_num_eq (b1a : Option Addr) (b1l : Nat) (b1c : Nat) (n2 : Int) (w : World) (R : Ending → World → Prop) : vcCode Tryz.prog (hookAt []) (bodyOf Tryz.f94) 1 ⟨argEnv [.slice b1a b1l b1c, .int .i64 n2] 0, Tryz.f94.ntmps, []⟩ w (finQ Tryz.prog Tryz.f94.results.toList R) = T_ref08_num b1a b1l b1c n2 w R := by kernel_rfl

theorem T_ref08_num_b : Tryz.f94.body = some (bodyOf Tryz.f94) := by kernel_rfl
theorem T_ref08_num_s : (quietSel (bodyOf Tryz.f94) && Nat.ble 2 Tryz.f94.ntmps) = true := by kernel_rfl

theorem C_ref08_num {b1a : Option Addr} {b1l : Nat} {b1c : Nat} {n2 : Int} {w : World} {R : Ending → World → Prop} (h : T_ref08_num b1a b1l b1c n2 w R) : Calls Tryz.prog 94 #[.slice b1a b1l b1c, .int .i64 n2] w R :=
  calls_of_text (args := [.slice b1a b1l b1c, .int .i64 n2]) mixed Tryz.func94 T_ref08_num_b T_ref08_num_s (HOk_of _ _ (by rw [T_ref08_num_hl]; exact trivial)) (by rw [T_ref08_num_eq]; exact h)

/-! tollgate/wire.number -/
def T_wire_number_1_body (X : Option Addr → Nat → Nat → Int → World → Prop) (b3a : Option Addr) (b3l : Nat) (b3c : Nat) (n4 : Int) (w : World) (Kn : Option Addr → Nat → Nat → Int → World → Prop) (Kp : List PanicEntry → World → Prop)  : Prop :=
  if (decide ((n4 : Int) ≥ 128)) = true then (let w5 : World := w.alloc (.cells #[.int .u8 (IntKind.wrap .u8 (IntKind.wrap .i64 ((BitVec.ofInt (IntKind.bits .i64) (IntKind.wrap .i64 ((BitVec.ofInt (IntKind.bits .i64) n4) &&& (BitVec.ofInt (IntKind.bits .i64) 127)).toNat)) ||| (BitVec.ofInt (IntKind.bits .i64) 128)).toNat))] 5)
  runV Tryz.prog (Builtin.append_ #[56, 56] 56 #[.slice b3a b3l b3c, .slice (some (⟨w.heap.size, 0, none⟩ : Addr)) 1 1]) w5 (fun r6 w7 => ∃ s8a : Option Addr, ∃ s8l : Nat, ∃ s8c : Nat, r6 = .slice s8a s8l s8c ∧ X s8a s8l s8c (Int.fdiv n4 (2 ^ 7)) w7) Kp) else (Kn b3a b3l b3c n4 w)

def T_wire_number_1 (b3a : Option Addr) (b3l : Nat) (b3c : Nat) (n4 : Int) (w : World) (Kn : Option Addr → Nat → Nat → Int → World → Prop) (Kp : List PanicEntry → World → Prop) : Prop :=
  ∀ X : Option Addr → Nat → Nat → Int → World → Prop, (∀ (b3a : Option Addr) (b3l : Nat) (b3c : Nat) (n4 : Int) (w : World), T_wire_number_1_body X b3a b3l b3c n4 w Kn Kp → X b3a b3l b3c n4 w) → X b3a b3l b3c n4 w

def T_wire_number_1_outs : Exit → Option (List (Nat × Value)) := fun x => match x with | .normal => some [(0, .slice none 0 0), (1, .int .i64 0)] | .panic _ => some [] | _ => none

def T_wire_number_1_ks : Nat → Bool := ksOf [0, 1, 5, 6, 7, 8, 9, 10, 11, 12, 13, 14, 15]

def H_wire_number_1 : Env → World → QT → Prop := unitHook 21 T_wire_number_1_ks [(0, .slice none 0 0), (1, .int .i64 0)] T_wire_number_1_outs fun l w C => match l with | [v0, v1] => T_wire_number_1 (pA v0) (pL v0) (pC v0) (pInt v1) w (fun b11a b11l b11c n12 w => C .normal [.slice b11a b11l b11c, .int .i64 n12] w) (fun ch w => C (.panic ch) [] w) | _ => False

theorem T_wire_number_1_hl : allP (hokL Tryz.prog (hookAt []) (at_ (bodyOf Tryz.f118) [1, 0, 0, 0]) 24) = (True) := by kernel_rfl
theorem T_wire_number_1_hok : HOk Tryz.prog (hookAt []) (at_ (bodyOf Tryz.f118) [1, 0, 0, 0]) 24 := HOk_of _ _ (by rw [T_wire_number_1_hl]; exact trivial)

theorem T_wire_number_1_eq (C : Conts) (X : List Value → World → Prop) (b3a : Option Addr) (b3l : Nat) (b3c : Nat) (n4 : Int) (w : World) : vcCode Tryz.prog (hookAt []) (at_ (bodyOf Tryz.f118) [1, 0, 0, 0]) 24 ⟨[(0, .slice b3a b3l b3c), (1, .int .i64 n4)] ++ [], 21, []⟩ w (seqQ (fun e w => takeAll e [(0, .slice none 0 0), (1, .int .i64 0)] fun l => X l w) (blockQ 0 (unitQ T_wire_number_1_outs C))) = T_wire_number_1_body (fun b3a b3l b3c n4 w => X [.slice b3a b3l b3c, .int .i64 n4] w) b3a b3l b3c n4 w (fun b13a b13l b13c n14 w => C .normal [.slice b13a b13l b13c, .int .i64 n14] w) (fun ch w => C (.panic ch) [] w) := by kernel_rfl

theorem T_wire_number_1_ok : UnitOk Tryz.prog H_wire_number_1 (at_ (bodyOf Tryz.f118) [1, 0]) 6 := by
  have hc : at_ (bodyOf Tryz.f118) [1, 0] = .block 0 (.loop (at_ (bodyOf Tryz.f118) [1, 0, 0, 0])) := by kernel_rfl
  rw [hc]
  refine loop_unit_ok (carr := [(0, .slice none 0 0), (1, .int .i64 0)]) (fix := []) (ks := T_wire_number_1_ks) (H := (hookAt [])) (B := fun C X l u w => match l, u with | [v0, v1], [] => T_wire_number_1_body (fun b3a b3l b3c n4 w => X [.slice b3a b3l b3c, .int .i64 n4] w) (pA v0) (pL v0) (pC v0) (pInt v1) w (fun b15a b15l b15c n16 w => C .normal [.slice b15a b15l b15c, .int .i64 n16] w) (fun ch w => C (.panic ch) [] w) | _, _ => False) (by kernel_rfl) (by kernel_rfl) T_wire_number_1_hok ?_ ?_
  · intro C X l u w hl hu
    obtain ⟨v0, l_v0, rfl, k_v0, hl_v0⟩ := Kinds.cons_ hl
    obtain ⟨b3a, b3l, b3c, rfl⟩ := kind_slice k_v0
    obtain ⟨v1, l_v1, rfl, k_v1, hl_v1⟩ := Kinds.cons_ hl_v0
    obtain ⟨n4, rfl⟩ := kind_int k_v1
    obtain rfl := Kinds.nil_ hl_v1
    obtain rfl := Kinds.nil_ hu
    exact T_wire_number_1_eq C X b3a b3l b3c n4 w
  · intro l u w C hl hu
    obtain ⟨v0, l_v0, rfl, k_v0, hl_v0⟩ := Kinds.cons_ hl
    obtain ⟨b3a, b3l, b3c, rfl⟩ := kind_slice k_v0
    obtain ⟨v1, l_v1, rfl, k_v1, hl_v1⟩ := Kinds.cons_ hl_v0
    obtain ⟨n4, rfl⟩ := kind_int k_v1
    obtain rfl := Kinds.nil_ hl_v1
    obtain rfl := Kinds.nil_ hu
    constructor
    · intro h X hX
      exact h (fun b3a b3l b3c n4 w => X [.slice b3a b3l b3c, .int .i64 n4] w) (fun b3a b3l b3c n4 w hb => hX [.slice b3a b3l b3c, .int .i64 n4] w ⟨rfl, rfl, trivial⟩ hb)
    · intro h X hX
      exact h (fun l w => match l with | [v0, v1] => X (pA v0) (pL v0) (pC v0) (pInt v1) w | _ => True) (fun l w hl hb => by
        obtain ⟨v0, l_v0, rfl, k_v0, hl_v0⟩ := Kinds.cons_ hl
        obtain ⟨b3a, b3l, b3c, rfl⟩ := kind_slice k_v0
        obtain ⟨v1, l_v1, rfl, k_v1, hl_v1⟩ := Kinds.cons_ hl_v0
        obtain ⟨n4, rfl⟩ := kind_int k_v1
        obtain rfl := Kinds.nil_ hl_v1
        exact hX b3a b3l b3c n4 w hb)

def T_wire_number (b1a : Option Addr) (b1l : Nat) (b1c : Nat) (n2 : Int) (w : World) (R : Ending → World → Prop) : Prop :=
  T_wire_number_1 b1a b1l b1c n2 w (fun b17a b17l b17c n18 w19 => let w20 : World := w19.alloc (.cells #[.int .u8 (IntKind.wrap .u8 n18)] 5)
  runV Tryz.prog (Builtin.append_ #[56, 56] 56 #[.slice b17a b17l b17c, .slice (some (⟨w19.heap.size, 0, none⟩ : Addr)) 1 1]) w20 (fun r21 w22 => ∃ s23a : Option Addr, ∃ s23l : Nat, ∃ s23c : Nat, r21 = .slice s23a s23l s23c ∧ R (.returned (.slice s23a s23l s23c)) w22) (pan R)) (pan R)

theorem T_wire_number_hl : allP (hokL Tryz.prog (hookAt [(6, H_wire_number_1)]) (bodyOf Tryz.f118) 1) = (UnitOk Tryz.prog H_wire_number_1 (at_ (bodyOf Tryz.f118) [1, 0]) 6 ∧ True) := by kernel_rfl

theorem T_wire_number_eq (b1a : Option Addr) (b1l : Nat) (b1c : Nat) (n2 : Int) (w : World) (R : Ending → World → Prop) : vcCode Tryz.prog (hookAt [(6, H_wire_number_1)]) (bodyOf Tryz.f118) 1 ⟨argEnv [.slice b1a b1l b1c, .int .i64 n2] 0, Tryz.f118.ntmps, []⟩ w (finQ Tryz.prog Tryz.f118.results.toList R) = T_wire_number b1a b1l b1c n2 w R := by kernel_rfl

theorem T_wire_number_b : Tryz.f118.body = some (bodyOf Tryz.f118) := by kernel_rfl
theorem T_wire_number_s : (quietSel (bodyOf Tryz.f118) && Nat.ble 2 Tryz.f118.ntmps) = true := by kernel_rfl

theorem C_wire_number {b1a : Option Addr} {b1l : Nat} {b1c : Nat} {n2 : Int} {w : World} {R : Ending → World → Prop} (h : T_wire_number b1a b1l b1c n2 w R) : Calls Tryz.prog 118 #[.slice b1a b1l b1c, .int .i64 n2] w R :=
  calls_of_text (args := [.slice b1a b1l b1c, .int .i64 n2]) mixed Tryz.func118 T_wire_number_b T_wire_number_s (HOk_of _ _ (by rw [T_wire_number_hl]; exact ⟨T_wire_number_1_ok, trivial⟩)) (by rw [T_wire_number_eq]; exact h)

/-! tollgate/conf.float -/
def T_conf_float_1_body (X : Option Addr → Nat → Nat → Int → World → Prop) (b3a : Option Addr) (b3l : Nat) (b3c : Nat) (k4 : Int) (w5 : Nat) (w : World) (Kn : Option Addr → Nat → Nat → World → Prop) (Kp : List PanicEntry → World → Prop)  : Prop :=
  if (decide ((k4 : Int) ≥ 0)) = true then (runV Tryz.prog (callFunc 81 #[.float .f64 w5]) w (nxv (fun r6 w7 => ∃ x8 : Int, r6 = .int .u64 x8 ∧ runV Tryz.prog (do eqGuard .shr 135 (.tmp 12) (.tmp 13) (.int .u64 x8) (.int .i64 k4); binOp .shr 135 (.int .u64 x8) (.int .i64 k4)) w7 (fun r9 w10 => ∃ x11 : Int, r9 = .int .u64 x11 ∧ let w12 : World := w10.alloc (.cells #[.int .u8 (IntKind.wrap .u8 x11)] 5)
  runV Tryz.prog (Builtin.append_ #[56, 56] 56 #[.slice b3a b3l b3c, .slice (some (⟨w10.heap.size, 0, none⟩ : Addr)) 1 1]) w12 (fun r13 w14 => ∃ s15a : Option Addr, ∃ s15l : Nat, ∃ s15c : Nat, r13 = .slice s15a s15l s15c ∧ X s15a s15l s15c (IntKind.wrap .i64 ((k4 : Int) - 8)) w14) Kp) Kp)) Kp) else (Kn b3a b3l b3c w)

def T_conf_float_1 (b3a : Option Addr) (b3l : Nat) (b3c : Nat) (k4 : Int) (w5 : Nat) (w : World) (Kn : Option Addr → Nat → Nat → World → Prop) (Kp : List PanicEntry → World → Prop) : Prop :=
  ∀ X : Option Addr → Nat → Nat → Int → World → Prop, (∀ (b3a : Option Addr) (b3l : Nat) (b3c : Nat) (k4 : Int) (w : World), T_conf_float_1_body X b3a b3l b3c k4 w5 w Kn Kp → X b3a b3l b3c k4 w) → X b3a b3l b3c k4 w

def T_conf_float_1_outs : Exit → Option (List (Nat × Value)) := fun x => match x with | .normal => some [(0, .slice none 0 0)] | .panic _ => some [] | _ => none

def T_conf_float_1_ks : Nat → Bool := ksOf [0, 5, 6, 7, 8, 9, 10, 11, 12, 13, 14, 15, 16, 17]

def H_conf_float_1 : Env → World → QT → Prop := unitHook 19 T_conf_float_1_ks [(0, .slice none 0 0), (5, .int .i64 0), (1, .float .f64 0)] T_conf_float_1_outs fun l w C => match l with | [v0, v1, v2] => T_conf_float_1 (pA v0) (pL v0) (pC v0) (pInt v1) (pFlt v2) w (fun b17a b17l b17c w => C .normal [.slice b17a b17l b17c] w) (fun ch w => C (.panic ch) [] w) | _ => False

theorem T_conf_float_1_hl : allP (hokL Tryz.prog (hookAt []) (at_ (bodyOf Tryz.f119) [1, 0, 1, 0, 0]) 52) = (True) := by kernel_rfl
theorem T_conf_float_1_hok : HOk Tryz.prog (hookAt []) (at_ (bodyOf Tryz.f119) [1, 0, 1, 0, 0]) 52 := HOk_of _ _ (by rw [T_conf_float_1_hl]; exact trivial)

theorem T_conf_float_1_eq (C : Conts) (X : List Value → World → Prop) (b3a : Option Addr) (b3l : Nat) (b3c : Nat) (k4 : Int) (w5 : Nat) (w : World) : vcCode Tryz.prog (hookAt []) (at_ (bodyOf Tryz.f119) [1, 0, 1, 0, 0]) 52 ⟨[(0, .slice b3a b3l b3c), (5, .int .i64 k4)] ++ [(1, .float .f64 w5)], 19, []⟩ w (seqQ (fun e w => takeAll e [(0, .slice none 0 0), (5, .int .i64 0)] fun l => X l w) (blockQ 0 (unitQ T_conf_float_1_outs C))) = T_conf_float_1_body (fun b3a b3l b3c k4 w => X [.slice b3a b3l b3c, .int .i64 k4] w) b3a b3l b3c k4 w5 w (fun b18a b18l b18c w => C .normal [.slice b18a b18l b18c] w) (fun ch w => C (.panic ch) [] w) := by kernel_rfl

theorem T_conf_float_1_ok : UnitOk Tryz.prog H_conf_float_1 (at_ (bodyOf Tryz.f119) [1, 0, 1]) 13 := by
  have hc : at_ (bodyOf Tryz.f119) [1, 0, 1] = .block 0 (.loop (at_ (bodyOf Tryz.f119) [1, 0, 1, 0, 0])) := by kernel_rfl
  rw [hc]
  refine loop_unit_ok (carr := [(0, .slice none 0 0), (5, .int .i64 0)]) (fix := [(1, .float .f64 0)]) (ks := T_conf_float_1_ks) (H := (hookAt [])) (B := fun C X l u w => match l, u with | [v0, v1], [v2] => T_conf_float_1_body (fun b3a b3l b3c k4 w => X [.slice b3a b3l b3c, .int .i64 k4] w) (pA v0) (pL v0) (pC v0) (pInt v1) (pFlt v2) w (fun b19a b19l b19c w => C .normal [.slice b19a b19l b19c] w) (fun ch w => C (.panic ch) [] w) | _, _ => False) (by kernel_rfl) (by kernel_rfl) T_conf_float_1_hok ?_ ?_
  · intro C X l u w hl hu
    obtain ⟨v0, l_v0, rfl, k_v0, hl_v0⟩ := Kinds.cons_ hl
    obtain ⟨b3a, b3l, b3c, rfl⟩ := kind_slice k_v0
    obtain ⟨v1, l_v1, rfl, k_v1, hl_v1⟩ := Kinds.cons_ hl_v0
    obtain ⟨k4, rfl⟩ := kind_int k_v1
    obtain rfl := Kinds.nil_ hl_v1
    obtain ⟨v2, l_v2, rfl, k_v2, hu_v2⟩ := Kinds.cons_ hu
    obtain ⟨w5, rfl⟩ := kind_float k_v2
    obtain rfl := Kinds.nil_ hu_v2
    exact T_conf_float_1_eq C X b3a b3l b3c k4 w5 w
  · intro l u w C hl hu
    obtain ⟨v0, l_v0, rfl, k_v0, hl_v0⟩ := Kinds.cons_ hl
    obtain ⟨b3a, b3l, b3c, rfl⟩ := kind_slice k_v0
    obtain ⟨v1, l_v1, rfl, k_v1, hl_v1⟩ := Kinds.cons_ hl_v0
    obtain ⟨k4, rfl⟩ := kind_int k_v1
    obtain rfl := Kinds.nil_ hl_v1
    obtain ⟨v2, l_v2, rfl, k_v2, hu_v2⟩ := Kinds.cons_ hu
    obtain ⟨w5, rfl⟩ := kind_float k_v2
    obtain rfl := Kinds.nil_ hu_v2
    constructor
    · intro h X hX
      exact h (fun b3a b3l b3c k4 w => X [.slice b3a b3l b3c, .int .i64 k4] w) (fun b3a b3l b3c k4 w hb => hX [.slice b3a b3l b3c, .int .i64 k4] w ⟨rfl, rfl, trivial⟩ hb)
    · intro h X hX
      exact h (fun l w => match l with | [v0, v1] => X (pA v0) (pL v0) (pC v0) (pInt v1) w | _ => True) (fun l w hl hb => by
        obtain ⟨v0, l_v0, rfl, k_v0, hl_v0⟩ := Kinds.cons_ hl
        obtain ⟨b3a, b3l, b3c, rfl⟩ := kind_slice k_v0
        obtain ⟨v1, l_v1, rfl, k_v1, hl_v1⟩ := Kinds.cons_ hl_v0
        obtain ⟨k4, rfl⟩ := kind_int k_v1
        obtain rfl := Kinds.nil_ hl_v1
        exact hX b3a b3l b3c k4 w hb)

def T_conf_float (b1a : Option Addr) (b1l : Nat) (b1c : Nat) (w2 : Nat) (w : World) (R : Ending → World → Prop) : Prop :=
  T_conf_float_1 b1a b1l b1c 56 w2 w (fun b20a b20l b20c w21 => R (.returned (.slice b20a b20l b20c)) w21) (pan R)

theorem T_conf_float_hl : allP (hokL Tryz.prog (hookAt [(13, H_conf_float_1)]) (bodyOf Tryz.f119) 1) = (UnitOk Tryz.prog H_conf_float_1 (at_ (bodyOf Tryz.f119) [1, 0, 1]) 13 ∧ True) := by kernel_rfl

theorem T_conf_float_eq (b1a : Option Addr) (b1l : Nat) (b1c : Nat) (w2 : Nat) (w : World) (R : Ending → World → Prop) : vcCode Tryz.prog (hookAt [(13, H_conf_float_1)]) (bodyOf Tryz.f119) 1 ⟨argEnv [.slice b1a b1l b1c, .float .f64 w2] 0, Tryz.f119.ntmps, []⟩ w (finQ Tryz.prog Tryz.f119.results.toList R) = T_conf_float b1a b1l b1c w2 w R := by kernel_rfl

theorem T_conf_float_b : Tryz.f119.body = some (bodyOf Tryz.f119) := by kernel_rfl
theorem T_conf_float_s : (quietSel (bodyOf Tryz.f119) && Nat.ble 2 Tryz.f119.ntmps) = true := by kernel_rfl

theorem C_conf_float {b1a : Option Addr} {b1l : Nat} {b1c : Nat} {w2 : Nat} {w : World} {R : Ending → World → Prop} (h : T_conf_float b1a b1l b1c w2 w R) : Calls Tryz.prog 119 #[.slice b1a b1l b1c, .float .f64 w2] w R :=
  calls_of_text (args := [.slice b1a b1l b1c, .float .f64 w2]) mixed Tryz.func119 T_conf_float_b T_conf_float_s (HOk_of _ _ (by rw [T_conf_float_hl]; exact ⟨T_conf_float_1_ok, trivial⟩)) (by rw [T_conf_float_eq]; exact h)

/-! tollgate/tollgateref02.Number -/
def T_ref02_Number_1 (n2 : Int) (w : World) (Kn : Bool → World → Prop) (Kp : List PanicEntry → World → Prop) : Prop :=
  if (decide ((n2 : Int) < 0)) = true then (Kn true w) else (Kn (decide ((n2 : Int) > 1099511627776)) w)

def T_ref02_Number_1_outs : Exit → Option (List (Nat × Value)) := fun x => match x with | .normal => some [(11, .bool false)] | .panic _ => some [] | _ => none

def T_ref02_Number_1_ks : Nat → Bool := ksOf [6, 7, 8, 9, 10, 11]

def H_ref02_Number_1 : Env → World → QT → Prop := unitHook 30 T_ref02_Number_1_ks [(0, .int .i64 0)] T_ref02_Number_1_outs fun l w C => match l with | [v0] => T_ref02_Number_1 (pInt v0) w (fun b4 w => C .normal [.bool b4] w) (fun ch w => C (.panic ch) [] w) | _ => False

theorem T_ref02_Number_1_hl : allP (hokL Tryz.prog (hookAt []) (at_ (bodyOf Tryz.f122) [1, 0, 0]) 12) = (True) := by kernel_rfl
theorem T_ref02_Number_1_hok : HOk Tryz.prog (hookAt []) (at_ (bodyOf Tryz.f122) [1, 0, 0]) 12 := HOk_of _ _ (by rw [T_ref02_Number_1_hl]; exact trivial)

theorem T_ref02_Number_1_eq (C : Conts) (n2 : Int) (w : World) : vcCode Tryz.prog (hookAt []) (at_ (bodyOf Tryz.f122) [1, 0, 0]) 12 ⟨[(0, .int .i64 n2)], 30, []⟩ w (unitQ T_ref02_Number_1_outs C) = T_ref02_Number_1 n2 w (fun b5 w => C .normal [.bool b5] w) (fun ch w => C (.panic ch) [] w) := by kernel_rfl

theorem T_ref02_Number_1_ok : UnitOk Tryz.prog H_ref02_Number_1 (at_ (bodyOf Tryz.f122) [1, 0, 0]) 12 := unit_ok (H := (hookAt [])) (by kernel_rfl) T_ref02_Number_1_hok fun l w C hk => by
    obtain ⟨v0, l_v0, rfl, k_v0, hk_v0⟩ := Kinds.cons_ hk
    obtain ⟨n2, rfl⟩ := kind_int k_v0
    obtain rfl := Kinds.nil_ hk_v0
    exact T_ref02_Number_1_eq C n2 w

def T_ref02_Number_2_body (X : Int → Option Addr → Nat → Nat → World → Prop) (n9 : Int) (out10a : Option Addr) (out10l : Nat) (out10c : Nat) (w : World) (Kr : Option Addr → Nat → Nat → Int → World → Prop) (Kp : List PanicEntry → World → Prop)  : Prop :=
  if ((IntKind.wrap .i64 (Int.tdiv n9 128) : Int) == 0) = true then (let w11 : World := w.alloc (.cells #[.int .u8 (IntKind.wrap .u8 (Int.tmod n9 128))] 5)
  runV Tryz.prog (Builtin.append_ #[56, 56] 56 #[.slice out10a out10l out10c, .slice (some (⟨w.heap.size, 0, none⟩ : Addr)) 1 1]) w11 (fun r12 w13 => ∃ s14a : Option Addr, ∃ s14l : Nat, ∃ s14c : Nat, r12 = .slice s14a s14l s14c ∧ Kr s14a s14l s14c 0 w13) Kp) else (let w15 : World := w.alloc (.cells #[.int .u8 (IntKind.wrap .u8 (IntKind.wrap .i64 ((Int.tmod n9 128 : Int) + 128)))] 5)
  runV Tryz.prog (Builtin.append_ #[56, 56] 56 #[.slice out10a out10l out10c, .slice (some (⟨w.heap.size, 0, none⟩ : Addr)) 1 1]) w15 (fun r16 w17 => ∃ s18a : Option Addr, ∃ s18l : Nat, ∃ s18c : Nat, r16 = .slice s18a s18l s18c ∧ X (IntKind.wrap .i64 (Int.tdiv n9 128)) s18a s18l s18c w17) Kp)

def T_ref02_Number_2 (n9 : Int) (out10a : Option Addr) (out10l : Nat) (out10c : Nat) (w : World) (Kr : Option Addr → Nat → Nat → Int → World → Prop) (Kp : List PanicEntry → World → Prop) : Prop :=
  ∀ X : Int → Option Addr → Nat → Nat → World → Prop, (∀ (n9 : Int) (out10a : Option Addr) (out10l : Nat) (out10c : Nat) (w : World), T_ref02_Number_2_body X n9 out10a out10l out10c w Kr Kp → X n9 out10a out10l out10c w) → X n9 out10a out10l out10c w

def T_ref02_Number_2_outs : Exit → Option (List (Nat × Value)) := fun x => match x with | .ret => some [(2, .slice none 0 0), (3, .int .i64 0)] | .panic _ => some [] | _ => none

def T_ref02_Number_2_ks : Nat → Bool := ksOf [0, 2, 3, 4, 5, 13, 14, 15, 16, 17, 18, 19, 20, 21, 22, 23, 24, 25, 26, 27, 28, 29]

def H_ref02_Number_2 : Env → World → QT → Prop := unitHook 30 T_ref02_Number_2_ks [(0, .int .i64 0), (4, .slice none 0 0)] T_ref02_Number_2_outs fun l w C => match l with | [v0, v1] => T_ref02_Number_2 (pInt v0) (pA v1) (pL v1) (pC v1) w (fun s21a s21l s21c x22 w => C .ret [.slice s21a s21l s21c, .int .i64 x22] w) (fun ch w => C (.panic ch) [] w) | _ => False

theorem T_ref02_Number_2_hl : allP (hokL Tryz.prog (hookAt []) (at_ (bodyOf Tryz.f122) [1, 1, 1, 0, 0]) 60) = (True) := by kernel_rfl
theorem T_ref02_Number_2_hok : HOk Tryz.prog (hookAt []) (at_ (bodyOf Tryz.f122) [1, 1, 1, 0, 0]) 60 := HOk_of _ _ (by rw [T_ref02_Number_2_hl]; exact trivial)

theorem T_ref02_Number_2_eq (C : Conts) (X : List Value → World → Prop) (n9 : Int) (out10a : Option Addr) (out10l : Nat) (out10c : Nat) (w : World) : vcCode Tryz.prog (hookAt []) (at_ (bodyOf Tryz.f122) [1, 1, 1, 0, 0]) 60 ⟨[(0, .int .i64 n9), (4, .slice out10a out10l out10c)] ++ [], 30, []⟩ w (seqQ (fun e w => takeAll e [(0, .int .i64 0), (4, .slice none 0 0)] fun l => X l w) (blockQ 0 (unitQ T_ref02_Number_2_outs C))) = T_ref02_Number_2_body (fun n9 out10a out10l out10c w => X [.int .i64 n9, .slice out10a out10l out10c] w) n9 out10a out10l out10c w (fun s23a s23l s23c x24 w => C .ret [.slice s23a s23l s23c, .int .i64 x24] w) (fun ch w => C (.panic ch) [] w) := by kernel_rfl

theorem T_ref02_Number_2_ok : UnitOk Tryz.prog H_ref02_Number_2 (at_ (bodyOf Tryz.f122) [1, 1, 1]) 15 := by
  have hc : at_ (bodyOf Tryz.f122) [1, 1, 1] = .block 0 (.loop (at_ (bodyOf Tryz.f122) [1, 1, 1, 0, 0])) := by kernel_rfl
  rw [hc]
  refine loop_unit_ok (carr := [(0, .int .i64 0), (4, .slice none 0 0)]) (fix := []) (ks := T_ref02_Number_2_ks) (H := (hookAt [])) (B := fun C X l u w => match l, u with | [v0, v1], [] => T_ref02_Number_2_body (fun n9 out10a out10l out10c w => X [.int .i64 n9, .slice out10a out10l out10c] w) (pInt v0) (pA v1) (pL v1) (pC v1) w (fun s25a s25l s25c x26 w => C .ret [.slice s25a s25l s25c, .int .i64 x26] w) (fun ch w => C (.panic ch) [] w) | _, _ => False) (by kernel_rfl) (by kernel_rfl) T_ref02_Number_2_hok ?_ ?_
  · intro C X l u w hl hu
    obtain ⟨v0, l_v0, rfl, k_v0, hl_v0⟩ := Kinds.cons_ hl
    obtain ⟨n9, rfl⟩ := kind_int k_v0
    obtain ⟨v1, l_v1, rfl, k_v1, hl_v1⟩ := Kinds.cons_ hl_v0
    obtain ⟨out10a, out10l, out10c, rfl⟩ := kind_slice k_v1
    obtain rfl := Kinds.nil_ hl_v1
    obtain rfl := Kinds.nil_ hu
    exact T_ref02_Number_2_eq C X n9 out10a out10l out10c w
  · intro l u w C hl hu
    obtain ⟨v0, l_v0, rfl, k_v0, hl_v0⟩ := Kinds.cons_ hl
    obtain ⟨n9, rfl⟩ := kind_int k_v0
    obtain ⟨v1, l_v1, rfl, k_v1, hl_v1⟩ := Kinds.cons_ hl_v0
    obtain ⟨out10a, out10l, out10c, rfl⟩ := kind_slice k_v1
    obtain rfl := Kinds.nil_ hl_v1
    obtain rfl := Kinds.nil_ hu
    constructor
    · intro h X hX
      exact h (fun n9 out10a out10l out10c w => X [.int .i64 n9, .slice out10a out10l out10c] w) (fun n9 out10a out10l out10c w hb => hX [.int .i64 n9, .slice out10a out10l out10c] w ⟨rfl, rfl, trivial⟩ hb)
    · intro h X hX
      exact h (fun l w => match l with | [v0, v1] => X (pInt v0) (pA v1) (pL v1) (pC v1) w | _ => True) (fun l w hl hb => by
        obtain ⟨v0, l_v0, rfl, k_v0, hl_v0⟩ := Kinds.cons_ hl
        obtain ⟨n9, rfl⟩ := kind_int k_v0
        obtain ⟨v1, l_v1, rfl, k_v1, hl_v1⟩ := Kinds.cons_ hl_v0
        obtain ⟨out10a, out10l, out10c, rfl⟩ := kind_slice k_v1
        obtain rfl := Kinds.nil_ hl_v1
        exact hX n9 out10a out10l out10c w hb)

def T_ref02_Number (n1 : Int) (w : World) (R : Ending → World → Prop) : Prop :=
  T_ref02_Number_1 n1 w (fun b6 w7 => if b6 = true then (R (.returned (.tuple #[.slice none 0 0, .int .i64 2])) w7) else (let w8 : World := w7.alloc (.cells #[] 5)
  T_ref02_Number_2 n1 (some (⟨w7.heap.size, 0, none⟩ : Addr)) 0 0 w8 (fun s27a s27l s27c x28 w29 => R (.returned (.tuple #[.slice s27a s27l s27c, .int .i64 x28])) w29) (pan R))) (pan R)

theorem T_ref02_Number_hl : allP (hokL Tryz.prog (hookAt [(12, H_ref02_Number_1), (15, H_ref02_Number_2)]) (bodyOf Tryz.f122) 1) = (UnitOk Tryz.prog H_ref02_Number_1 (at_ (bodyOf Tryz.f122) [1, 0, 0]) 12 ∧ UnitOk Tryz.prog H_ref02_Number_2 (at_ (bodyOf Tryz.f122) [1, 1, 1]) 15 ∧ True) := by kernel_rfl

theorem T_ref02_Number_eq (n1 : Int) (w : World) (R : Ending → World → Prop) : vcCode Tryz.prog (hookAt [(12, H_ref02_Number_1), (15, H_ref02_Number_2)]) (bodyOf Tryz.f122) 1 ⟨argEnv [.int .i64 n1] 0, Tryz.f122.ntmps, []⟩ w (finQ Tryz.prog Tryz.f122.results.toList R) = T_ref02_Number n1 w R := by kernel_rfl

theorem T_ref02_Number_b : Tryz.f122.body = some (bodyOf Tryz.f122) := by kernel_rfl
theorem T_ref02_Number_s : (quietSel (bodyOf Tryz.f122) && Nat.ble 1 Tryz.f122.ntmps) = true := by kernel_rfl

theorem C_ref02_Number {n1 : Int} {w : World} {R : Ending → World → Prop} (h : T_ref02_Number n1 w R) : Calls Tryz.prog 122 #[.int .i64 n1] w R :=
  calls_of_text (args := [.int .i64 n1]) mixed Tryz.func122 T_ref02_Number_b T_ref02_Number_s (HOk_of _ _ (by rw [T_ref02_Number_hl]; exact ⟨T_ref02_Number_1_ok, T_ref02_Number_2_ok, trivial⟩)) (by rw [T_ref02_Number_eq]; exact h)

/-! tollgate/tollgateref08.targets -/
def T_ref08_targets_2_body (X : Option Addr → Nat → Nat → Int → World → Prop) (b19a : Option Addr) (b19l : Nat) (b19c : Nat) (k20 : Int) (w21 : Int) (w : World) (Kn : Option Addr → Nat → Nat → World → Prop) (Kp : List PanicEntry → World → Prop)  : Prop :=
  if (decide ((k20 : Int) < 8)) = true then (runV Tryz.prog (do eqGuard .shr 135 (.tmp 36) (.tmp 40) (.int .u64 w21) (.int .u64 (IntKind.wrap .u64 (IntKind.wrap .i64 ((56 : Int) - (IntKind.wrap .i64 ((8 : Int) * k20)))))); binOp .shr 135 (.int .u64 w21) (.int .u64 (IntKind.wrap .u64 (IntKind.wrap .i64 ((56 : Int) - (IntKind.wrap .i64 ((8 : Int) * k20))))))) w (fun r22 w23 => ∃ x24 : Int, r22 = .int .u64 x24 ∧ let w25 : World := w23.alloc (.cells #[.int .u8 (IntKind.wrap .u8 x24)] 5)
  runV Tryz.prog (Builtin.append_ #[56, 56] 56 #[.slice b19a b19l b19c, .slice (some (⟨w23.heap.size, 0, none⟩ : Addr)) 1 1]) w25 (fun r26 w27 => ∃ s28a : Option Addr, ∃ s28l : Nat, ∃ s28c : Nat, r26 = .slice s28a s28l s28c ∧ X s28a s28l s28c (IntKind.wrap .i64 ((k20 : Int) + 1)) w27) Kp) Kp) else (Kn b19a b19l b19c w)

def T_ref08_targets_2 (b19a : Option Addr) (b19l : Nat) (b19c : Nat) (k20 : Int) (w21 : Int) (w : World) (Kn : Option Addr → Nat → Nat → World → Prop) (Kp : List PanicEntry → World → Prop) : Prop :=
  ∀ X : Option Addr → Nat → Nat → Int → World → Prop, (∀ (b19a : Option Addr) (b19l : Nat) (b19c : Nat) (k20 : Int) (w : World), T_ref08_targets_2_body X b19a b19l b19c k20 w21 w Kn Kp → X b19a b19l b19c k20 w) → X b19a b19l b19c k20 w

def T_ref08_targets_2_outs : Exit → Option (List (Nat × Value)) := fun x => match x with | .normal => some [(0, .slice none 0 0)] | .panic _ => some [] | _ => none

def T_ref08_targets_2_ks : Nat → Bool := ksOf [0, 7, 31, 32, 33, 34, 35, 36, 37, 38, 39, 40, 41, 42, 43, 44]

def H_ref08_targets_2 : Env → World → QT → Prop := unitHook 46 T_ref08_targets_2_ks [(0, .slice none 0 0), (7, .int .i64 0), (6, .int .u64 0)] T_ref08_targets_2_outs fun l w C => match l with | [v0, v1, v2] => T_ref08_targets_2 (pA v0) (pL v0) (pC v0) (pInt v1) (pInt v2) w (fun b30a b30l b30c w => C .normal [.slice b30a b30l b30c] w) (fun ch w => C (.panic ch) [] w) | _ => False

theorem T_ref08_targets_2_hl : allP (hokL Tryz.prog (hookAt []) (at_ (bodyOf Tryz.f123) [1, 1, 0, 1, 0, 0, 1, 0, 0, 1, 1, 1, 0, 0]) 29852) = (True) := by kernel_rfl
theorem T_ref08_targets_2_hok : HOk Tryz.prog (hookAt []) (at_ (bodyOf Tryz.f123) [1, 1, 0, 1, 0, 0, 1, 0, 0, 1, 1, 1, 0, 0]) 29852 := HOk_of _ _ (by rw [T_ref08_targets_2_hl]; exact trivial)

theorem T_ref08_targets_2_eq (C : Conts) (X : List Value → World → Prop) (b19a : Option Addr) (b19l : Nat) (b19c : Nat) (k20 : Int) (w21 : Int) (w : World) : vcCode Tryz.prog (hookAt []) (at_ (bodyOf Tryz.f123) [1, 1, 0, 1, 0, 0, 1, 0, 0, 1, 1, 1, 0, 0]) 29852 ⟨[(0, .slice b19a b19l b19c), (7, .int .i64 k20)] ++ [(6, .int .u64 w21)], 46, []⟩ w (seqQ (fun e w => takeAll e [(0, .slice none 0 0), (7, .int .i64 0)] fun l => X l w) (blockQ 2 (unitQ T_ref08_targets_2_outs C))) = T_ref08_targets_2_body (fun b19a b19l b19c k20 w => X [.slice b19a b19l b19c, .int .i64 k20] w) b19a b19l b19c k20 w21 w (fun b31a b31l b31c w => C .normal [.slice b31a b31l b31c] w) (fun ch w => C (.panic ch) [] w) := by kernel_rfl

theorem T_ref08_targets_2_ok : UnitOk Tryz.prog H_ref08_targets_2 (at_ (bodyOf Tryz.f123) [1, 1, 0, 1, 0, 0, 1, 0, 0, 1, 1, 1]) 7463 := by
  have hc : at_ (bodyOf Tryz.f123) [1, 1, 0, 1, 0, 0, 1, 0, 0, 1, 1, 1] = .block 2 (.loop (at_ (bodyOf Tryz.f123) [1, 1, 0, 1, 0, 0, 1, 0, 0, 1, 1, 1, 0, 0])) := by kernel_rfl
  rw [hc]
  refine loop_unit_ok (carr := [(0, .slice none 0 0), (7, .int .i64 0)]) (fix := [(6, .int .u64 0)]) (ks := T_ref08_targets_2_ks) (H := (hookAt [])) (B := fun C X l u w => match l, u with | [v0, v1], [v2] => T_ref08_targets_2_body (fun b19a b19l b19c k20 w => X [.slice b19a b19l b19c, .int .i64 k20] w) (pA v0) (pL v0) (pC v0) (pInt v1) (pInt v2) w (fun b32a b32l b32c w => C .normal [.slice b32a b32l b32c] w) (fun ch w => C (.panic ch) [] w) | _, _ => False) (by kernel_rfl) (by kernel_rfl) T_ref08_targets_2_hok ?_ ?_
  · intro C X l u w hl hu
    obtain ⟨v0, l_v0, rfl, k_v0, hl_v0⟩ := Kinds.cons_ hl
    obtain ⟨b19a, b19l, b19c, rfl⟩ := kind_slice k_v0
    obtain ⟨v1, l_v1, rfl, k_v1, hl_v1⟩ := Kinds.cons_ hl_v0
    obtain ⟨k20, rfl⟩ := kind_int k_v1
    obtain rfl := Kinds.nil_ hl_v1
    obtain ⟨v2, l_v2, rfl, k_v2, hu_v2⟩ := Kinds.cons_ hu
    obtain ⟨w21, rfl⟩ := kind_int k_v2
    obtain rfl := Kinds.nil_ hu_v2
    exact T_ref08_targets_2_eq C X b19a b19l b19c k20 w21 w
  · intro l u w C hl hu
    obtain ⟨v0, l_v0, rfl, k_v0, hl_v0⟩ := Kinds.cons_ hl
    obtain ⟨b19a, b19l, b19c, rfl⟩ := kind_slice k_v0
    obtain ⟨v1, l_v1, rfl, k_v1, hl_v1⟩ := Kinds.cons_ hl_v0
    obtain ⟨k20, rfl⟩ := kind_int k_v1
    obtain rfl := Kinds.nil_ hl_v1
    obtain ⟨v2, l_v2, rfl, k_v2, hu_v2⟩ := Kinds.cons_ hu
    obtain ⟨w21, rfl⟩ := kind_int k_v2
    obtain rfl := Kinds.nil_ hu_v2
    constructor
    · intro h X hX
      exact h (fun b19a b19l b19c k20 w => X [.slice b19a b19l b19c, .int .i64 k20] w) (fun b19a b19l b19c k20 w hb => hX [.slice b19a b19l b19c, .int .i64 k20] w ⟨rfl, rfl, trivial⟩ hb)
    · intro h X hX
      exact h (fun l w => match l with | [v0, v1] => X (pA v0) (pL v0) (pC v0) (pInt v1) w | _ => True) (fun l w hl hb => by
        obtain ⟨v0, l_v0, rfl, k_v0, hl_v0⟩ := Kinds.cons_ hl
        obtain ⟨b19a, b19l, b19c, rfl⟩ := kind_slice k_v0
        obtain ⟨v1, l_v1, rfl, k_v1, hl_v1⟩ := Kinds.cons_ hl_v0
        obtain ⟨k20, rfl⟩ := kind_int k_v1
        obtain rfl := Kinds.nil_ hl_v1
        exact hX b19a b19l b19c k20 w hb)

def T_ref08_targets_1_body (X : Option Addr → Nat → Nat → Int → World → Prop) (b6a : Option Addr) (b6l : Nat) (b6c : Nat) (i7 : Int) (l8a : Option Addr) (l8l : Nat) (l8c : Nat) (w : World) (Kn : Option Addr → Nat → Nat → World → Prop) (Kp : List PanicEntry → World → Prop)  : Prop :=
  if (decide ((i7 : Int) < ((l8l : Nat) : Int))) = true then (0 ≤ (i7 : Int) ∧ (i7 : Int) < ((l8l : Nat) : Int) ∧ ∃ b9, l8a = some b9 ∧ ∃ s10 : ByteArray, rd w (b9.add ((i7 : Int).toNat * 2)) (.string s10) ∧ Calls Tryz.prog 124 #[.slice b6a b6l b6c, .string s10] w (ret (fun r11 w12 => ∃ s13a : Option Addr, ∃ s13l : Nat, ∃ s13c : Nat, r11 = .slice s13a s13l s13c ∧ 0 ≤ (i7 : Int) ∧ (i7 : Int) < ((l8l : Nat) : Int) ∧ ∃ b14, l8a = some b14 ∧ ∃ f15 : Nat, rd w12 ((b14.add ((i7 : Int).toNat * 2)).add 1) (.float .f64 f15) ∧ runV Tryz.prog (callFunc 81 #[.float .f64 f15]) w12 (nxv (fun r16 w17 => ∃ x18 : Int, r16 = .int .u64 x18 ∧ T_ref08_targets_2 s13a s13l s13c 0 x18 w17 (fun b33a b33l b33c w34 => X b33a b33l b33c (IntKind.wrap .i64 ((i7 : Int) + 1)) w34) Kp)) Kp) Kp)) else (Kn b6a b6l b6c w)

def T_ref08_targets_1 (b6a : Option Addr) (b6l : Nat) (b6c : Nat) (i7 : Int) (l8a : Option Addr) (l8l : Nat) (l8c : Nat) (w : World) (Kn : Option Addr → Nat → Nat → World → Prop) (Kp : List PanicEntry → World → Prop) : Prop :=
  ∀ X : Option Addr → Nat → Nat → Int → World → Prop, (∀ (b6a : Option Addr) (b6l : Nat) (b6c : Nat) (i7 : Int) (w : World), T_ref08_targets_1_body X b6a b6l b6c i7 l8a l8l l8c w Kn Kp → X b6a b6l b6c i7 w) → X b6a b6l b6c i7 w

def T_ref08_targets_1_outs : Exit → Option (List (Nat × Value)) := fun x => match x with | .normal => some [(0, .slice none 0 0)] | .panic _ => some [] | _ => none

def T_ref08_targets_1_ks : Nat → Bool := ksOf [0, 5, 6, 7, 12, 13, 14, 15, 16, 17, 18, 19, 20, 21, 22, 23, 24, 25, 26, 27, 28, 29, 30, 31, 32, 33, 34, 35, 36, 37, 38, 39, 40, 41, 42, 43, 44]

def H_ref08_targets_1 : Env → World → QT → Prop := unitHook 46 T_ref08_targets_1_ks [(0, .slice none 0 0), (5, .int .i64 0), (1, .slice none 0 0)] T_ref08_targets_1_outs fun l w C => match l with | [v0, v1, v2] => T_ref08_targets_1 (pA v0) (pL v0) (pC v0) (pInt v1) (pA v2) (pL v2) (pC v2) w (fun b36a b36l b36c w => C .normal [.slice b36a b36l b36c] w) (fun ch w => C (.panic ch) [] w) | _ => False

theorem T_ref08_targets_1_hl : allP (hokL Tryz.prog (hookAt [(7463, H_ref08_targets_2)]) (at_ (bodyOf Tryz.f123) [1, 1, 0, 1, 0, 0]) 116) = (UnitOk Tryz.prog H_ref08_targets_2 (at_ (bodyOf Tryz.f123) [1, 1, 0, 1, 0, 0, 1, 0, 0, 1, 1, 1]) 7463 ∧ True) := by kernel_rfl
theorem T_ref08_targets_1_hok : HOk Tryz.prog (hookAt [(7463, H_ref08_targets_2)]) (at_ (bodyOf Tryz.f123) [1, 1, 0, 1, 0, 0]) 116 := HOk_of _ _ (by rw [T_ref08_targets_1_hl]; exact ⟨T_ref08_targets_2_ok, trivial⟩)

theorem T_ref08_targets_1_eq (C : Conts) (X : List Value → World → Prop) (b6a : Option Addr) (b6l : Nat) (b6c : Nat) (i7 : Int) (l8a : Option Addr) (l8l : Nat) (l8c : Nat) (w : World) : vcCode Tryz.prog (hookAt [(7463, H_ref08_targets_2)]) (at_ (bodyOf Tryz.f123) [1, 1, 0, 1, 0, 0]) 116 ⟨[(0, .slice b6a b6l b6c), (5, .int .i64 i7)] ++ [(1, .slice l8a l8l l8c)], 46, []⟩ w (seqQ (fun e w => takeAll e [(0, .slice none 0 0), (5, .int .i64 0)] fun l => X l w) (blockQ 0 (unitQ T_ref08_targets_1_outs C))) = T_ref08_targets_1_body (fun b6a b6l b6c i7 w => X [.slice b6a b6l b6c, .int .i64 i7] w) b6a b6l b6c i7 l8a l8l l8c w (fun b37a b37l b37c w => C .normal [.slice b37a b37l b37c] w) (fun ch w => C (.panic ch) [] w) := by kernel_rfl

theorem T_ref08_targets_1_ok : UnitOk Tryz.prog H_ref08_targets_1 (at_ (bodyOf Tryz.f123) [1, 1, 0, 1]) 29 := by
  have hc : at_ (bodyOf Tryz.f123) [1, 1, 0, 1] = .block 0 (.loop (at_ (bodyOf Tryz.f123) [1, 1, 0, 1, 0, 0])) := by kernel_rfl
  rw [hc]
  refine loop_unit_ok (carr := [(0, .slice none 0 0), (5, .int .i64 0)]) (fix := [(1, .slice none 0 0)]) (ks := T_ref08_targets_1_ks) (H := (hookAt [(7463, H_ref08_targets_2)])) (B := fun C X l u w => match l, u with | [v0, v1], [v2] => T_ref08_targets_1_body (fun b6a b6l b6c i7 w => X [.slice b6a b6l b6c, .int .i64 i7] w) (pA v0) (pL v0) (pC v0) (pInt v1) (pA v2) (pL v2) (pC v2) w (fun b38a b38l b38c w => C .normal [.slice b38a b38l b38c] w) (fun ch w => C (.panic ch) [] w) | _, _ => False) (by kernel_rfl) (by kernel_rfl) T_ref08_targets_1_hok ?_ ?_
  · intro C X l u w hl hu
    obtain ⟨v0, l_v0, rfl, k_v0, hl_v0⟩ := Kinds.cons_ hl
    obtain ⟨b6a, b6l, b6c, rfl⟩ := kind_slice k_v0
    obtain ⟨v1, l_v1, rfl, k_v1, hl_v1⟩ := Kinds.cons_ hl_v0
    obtain ⟨i7, rfl⟩ := kind_int k_v1
    obtain rfl := Kinds.nil_ hl_v1
    obtain ⟨v2, l_v2, rfl, k_v2, hu_v2⟩ := Kinds.cons_ hu
    obtain ⟨l8a, l8l, l8c, rfl⟩ := kind_slice k_v2
    obtain rfl := Kinds.nil_ hu_v2
    exact T_ref08_targets_1_eq C X b6a b6l b6c i7 l8a l8l l8c w
  · intro l u w C hl hu
    obtain ⟨v0, l_v0, rfl, k_v0, hl_v0⟩ := Kinds.cons_ hl
    obtain ⟨b6a, b6l, b6c, rfl⟩ := kind_slice k_v0
    obtain ⟨v1, l_v1, rfl, k_v1, hl_v1⟩ := Kinds.cons_ hl_v0
    obtain ⟨i7, rfl⟩ := kind_int k_v1
    obtain rfl := Kinds.nil_ hl_v1
    obtain ⟨v2, l_v2, rfl, k_v2, hu_v2⟩ := Kinds.cons_ hu
    obtain ⟨l8a, l8l, l8c, rfl⟩ := kind_slice k_v2
    obtain rfl := Kinds.nil_ hu_v2
    constructor
    · intro h X hX
      exact h (fun b6a b6l b6c i7 w => X [.slice b6a b6l b6c, .int .i64 i7] w) (fun b6a b6l b6c i7 w hb => hX [.slice b6a b6l b6c, .int .i64 i7] w ⟨rfl, rfl, trivial⟩ hb)
    · intro h X hX
      exact h (fun l w => match l with | [v0, v1] => X (pA v0) (pL v0) (pC v0) (pInt v1) w | _ => True) (fun l w hl hb => by
        obtain ⟨v0, l_v0, rfl, k_v0, hl_v0⟩ := Kinds.cons_ hl
        obtain ⟨b6a, b6l, b6c, rfl⟩ := kind_slice k_v0
        obtain ⟨v1, l_v1, rfl, k_v1, hl_v1⟩ := Kinds.cons_ hl_v0
        obtain ⟨i7, rfl⟩ := kind_int k_v1
        obtain rfl := Kinds.nil_ hl_v1
        exact hX b6a b6l b6c i7 w hb)

def T_ref08_targets (b1a : Option Addr) (b1l : Nat) (b1c : Nat) (l2a : Option Addr) (l2l : Nat) (l2c : Nat) (w : World) (R : Ending → World → Prop) : Prop :=
  Calls Tryz.prog 94 #[.slice b1a b1l b1c, .int .i64 ((l2l : Nat) : Int)] w (ret (fun r3 w4 => ∃ s5a : Option Addr, ∃ s5l : Nat, ∃ s5c : Nat, r3 = .slice s5a s5l s5c ∧ T_ref08_targets_1 s5a s5l s5c 0 l2a l2l l2c w4 (fun b39a b39l b39c w40 => R (.returned (.slice b39a b39l b39c)) w40) (pan R)) (pan R))

theorem T_ref08_targets_hl : allP (hokL Tryz.prog (hookAt [(29, H_ref08_targets_1)]) (bodyOf Tryz.f123) 1) = (UnitOk Tryz.prog H_ref08_targets_1 (at_ (bodyOf Tryz.f123) [1, 1, 0, 1]) 29 ∧ True) := by kernel_rfl

theorem T_ref08_targets_eq (b1a : Option Addr) (b1l : Nat) (b1c : Nat) (l2a : Option Addr) (l2l : Nat) (l2c : Nat) (w : World) (R : Ending → World → Prop) : vcCode Tryz.prog (hookAt [(29, H_ref08_targets_1)]) (bodyOf Tryz.f123) 1 ⟨argEnv [.slice b1a b1l b1c, .slice l2a l2l l2c] 0, Tryz.f123.ntmps, []⟩ w (finQ Tryz.prog Tryz.f123.results.toList R) = T_ref08_targets b1a b1l b1c l2a l2l l2c w R := by kernel_rfl

theorem T_ref08_targets_b : Tryz.f123.body = some (bodyOf Tryz.f123) := by kernel_rfl
theorem T_ref08_targets_s : (quietSel (bodyOf Tryz.f123) && Nat.ble 2 Tryz.f123.ntmps) = true := by kernel_rfl

theorem C_ref08_targets {b1a : Option Addr} {b1l : Nat} {b1c : Nat} {l2a : Option Addr} {l2l : Nat} {l2c : Nat} {w : World} {R : Ending → World → Prop} (h : T_ref08_targets b1a b1l b1c l2a l2l l2c w R) : Calls Tryz.prog 123 #[.slice b1a b1l b1c, .slice l2a l2l l2c] w R :=
  calls_of_text (args := [.slice b1a b1l b1c, .slice l2a l2l l2c]) mixed Tryz.func123 T_ref08_targets_b T_ref08_targets_s (HOk_of _ _ (by rw [T_ref08_targets_hl]; exact ⟨T_ref08_targets_1_ok, trivial⟩)) (by rw [T_ref08_targets_eq]; exact h)

/-! tollgate/tollgateref08.text -/
def T_ref08_text (b1a : Option Addr) (b1l : Nat) (b1c : Nat) (s2 : ByteArray) (w : World) (R : Ending → World → Prop) : Prop :=
  Calls Tryz.prog 94 #[.slice b1a b1l b1c, .int .i64 ((s2.size : Nat) : Int)] w (ret (fun r3 w4 => ∃ s5a : Option Addr, ∃ s5l : Nat, ∃ s5c : Nat, r3 = .slice s5a s5l s5c ∧ runV Tryz.prog (Builtin.append_ #[56, 9] 56 #[.slice s5a s5l s5c, .string s2]) w4 (fun r6 w7 => ∃ s8a : Option Addr, ∃ s8l : Nat, ∃ s8c : Nat, r6 = .slice s8a s8l s8c ∧ R (.returned (.slice s8a s8l s8c)) w7) (pan R)) (pan R))

theorem T_ref08_text_hl : allP (hokL Tryz.prog (hookAt []) (bodyOf Tryz.f124) 1) = (True) := by kernel_rfl

theorem T_ref08_text_eq (b1a : Option Addr) (b1l : Nat) (b1c : Nat) (s2 : ByteArray) (w : World) (R : Ending → World → Prop) : vcCode Tryz.prog (hookAt []) (bodyOf Tryz.f124) 1 ⟨argEnv [.slice b1a b1l b1c, .string s2] 0, Tryz.f124.ntmps, []⟩ w (finQ Tryz.prog Tryz.f124.results.toList R) = T_ref08_text b1a b1l b1c s2 w R := by kernel_rfl

theorem T_ref08_text_b : Tryz.f124.body = some (bodyOf Tryz.f124) := by kernel_rfl
theorem T_ref08_text_s : (quietSel (bodyOf Tryz.f124) && Nat.ble 2 Tryz.f124.ntmps) = true := by kernel_rfl

theorem C_ref08_text {b1a : Option Addr} {b1l : Nat} {b1c : Nat} {s2 : ByteArray} {w : World} {R : Ending → World → Prop} (h : T_ref08_text b1a b1l b1c s2 w R) : Calls Tryz.prog 124 #[.slice b1a b1l b1c, .string s2] w R :=
  calls_of_text (args := [.slice b1a b1l b1c, .string s2]) mixed Tryz.func124 T_ref08_text_b T_ref08_text_s (HOk_of _ _ (by rw [T_ref08_text_hl]; exact trivial)) (by rw [T_ref08_text_eq]; exact h)

end Go.Proofs.YtcpmfjclkdjfmaaGreat
