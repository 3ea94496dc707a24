/-
  What the functions' code comes to; printed by a program of this claim's own.
-/
import Derived.Test.YtcpmfjclkdjfmaaGreatProg
import Derived.KernelRfl
import Derived.Test.YtcpmfjclkdjfmaaGreatGh
namespace Go.Proofs.YtcpmfjclkdjfmaaGreat
open Go Go.Vc
set_option maxRecDepth 100000
set_option linter.unusedVariables false

/-! tollgate/tollgatelaw08.play -/
def T_law08_play_2 (l12a : Option Addr) (l12l : Nat) (l12c : Nat) (i13 : Int) (w : World) (Kn : Bool → World → Prop) (Kp : List PanicEntry → World → Prop) : Prop :=
  if (decide ((i13 : Int) < ((l12l : Nat) : Int))) = true then (Kn (decide ((i13 : Int) < 150)) w) else (Kn false w)

def T_law08_play_2_outs : Exit → Option (List (Nat × Value)) := fun x => match x with | .normal => some [(17, .bool false)] | .panic _ => some [] | _ => none

def T_law08_play_2_ks : Nat → Bool := ksOf [10, 11, 12, 13, 14, 15, 16, 17]

def H_law08_play_2 : Env → World → QT → Prop := unitHook 44 T_law08_play_2_ks [(0, .slice none 0 0), (7, .int .i64 0)] T_law08_play_2_outs fun l w C => match l with | [v0, v1] => T_law08_play_2 (pA v0) (pL v0) (pC v0) (pInt v1) w (fun b15 w => C .normal [.bool b15] w) (fun ch w => C (.panic ch) [] w) | _ => False

theorem T_law08_play_2_hl : allP (hokL Tryz.prog (hookAt []) (at_ (bodyOf Tryz.f13) [1, 1, 0, 1, 0, 0, 0, 0]) 464) = (True) := by kernel_rfl
theorem T_law08_play_2_hok : HOk Tryz.prog (hookAt []) (at_ (bodyOf Tryz.f13) [1, 1, 0, 1, 0, 0, 0, 0]) 464 := HOk_of _ _ (by rw [T_law08_play_2_hl]; exact trivial)

theorem T_law08_play_2_eq (C : Conts) (l12a : Option Addr) (l12l : Nat) (l12c : Nat) (i13 : Int) (w : World) : vcCode Tryz.prog (hookAt []) (at_ (bodyOf Tryz.f13) [1, 1, 0, 1, 0, 0, 0, 0]) 464 ⟨[(0, .slice l12a l12l l12c), (7, .int .i64 i13)], 44, []⟩ w (unitQ T_law08_play_2_outs C) = T_law08_play_2 l12a l12l l12c i13 w (fun b16 w => C .normal [.bool b16] w) (fun ch w => C (.panic ch) [] w) := by kernel_rfl

theorem T_law08_play_2_ok : UnitOk Tryz.prog H_law08_play_2 (at_ (bodyOf Tryz.f13) [1, 1, 0, 1, 0, 0, 0, 0]) 464 := unit_ok (H := (hookAt [])) (by kernel_rfl) T_law08_play_2_hok fun l w C hk => by
    obtain ⟨v0, l_v0, rfl, k_v0, hk_v0⟩ := Kinds.cons_ hk
    obtain ⟨l12a, l12l, l12c, rfl⟩ := kind_slice k_v0
    obtain ⟨v1, l_v1, rfl, k_v1, hk_v1⟩ := Kinds.cons_ hk_v0
    obtain ⟨i13, rfl⟩ := kind_int k_v1
    obtain rfl := Kinds.nil_ hk_v1
    exact T_law08_play_2_eq C l12a l12l l12c i13 w

def T_law08_play_3 (l19a : Option Addr) (l19l : Nat) (l19c : Nat) (s20 : Option Addr) (r21 : Option Addr) (i22 : Int) (w : World) (Kn : Bool → World → Prop) (Kp : List PanicEntry → World → Prop) : Prop :=
  let w23 : World := w.drew
  0 ≤ (i22 : Int) ∧ (i22 : Int) < ((l19l : Nat) : Int) ∧ ∃ b24, l19a = some b24 ∧ ∃ x25 : Int, ∃ x26 : Int, ∃ x27 : Int, ∃ x28 : Int, ∃ s29 : ByteArray, ∃ s30 : ByteArray, ∃ s31 : ByteArray, ∃ s32a : Option Addr, ∃ s32l : Nat, ∃ s32c : Nat, rd w23 (b24.add ((i22 : Int).toNat * 8)) (.agg #[.int .i64 x25, .int .i64 x26, .int .i64 x27, .int .i64 x28, .string s29, .string s30, .string s31, .slice s32a s32l s32c]) ∧ Calls Tryz.prog 16 #[.agg #[.int .i64 x25, .int .i64 x26, .int .i64 x27, .int .i64 x28, .string s29, .string s30, .string s31, .slice s32a s32l s32c]] w23 (ret (fun r33 w34 => ∃ b35 : Bool, r33 = .bool b35 ∧ (True) ∧ if b35 = true then (0 ≤ (i22 : Int) ∧ (i22 : Int) < ((l19l : Nat) : Int) ∧ ∃ b36, l19a = some b36 ∧ ∃ x37 : Int, ∃ x38 : Int, ∃ x39 : Int, ∃ x40 : Int, ∃ s41 : ByteArray, ∃ s42 : ByteArray, ∃ s43 : ByteArray, ∃ s44a : Option Addr, ∃ s44l : Nat, ∃ s44c : Nat, rd w34 (b36.add ((i22 : Int).toNat * 8)) (.agg #[.int .i64 x37, .int .i64 x38, .int .i64 x39, .int .i64 x40, .string s41, .string s42, .string s43, .slice s44a s44l s44c]) ∧ 0 ≤ (i22 : Int) ∧ (i22 : Int) < ((l19l : Nat) : Int) ∧ ∃ b45, l19a = some b45 ∧ ∃ x46 : Int, ∃ x47 : Int, ∃ x48 : Int, ∃ x49 : Int, ∃ s50 : ByteArray, ∃ s51 : ByteArray, ∃ s52 : ByteArray, ∃ s53a : Option Addr, ∃ s53l : Nat, ∃ s53c : Nat, rd w34 (b45.add ((i22 : Int).toNat * 8)) (.agg #[.int .i64 x46, .int .i64 x47, .int .i64 x48, .int .i64 x49, .string s50, .string s51, .string s52, .slice s53a s53l s53c]) ∧ Calls Tryz.prog 17 #[.pointer s20, .agg #[.int .i64 x37, .int .i64 x38, .int .i64 x39, .int .i64 x40, .string s41, .string s42, .string s43, .slice s44a s44l s44c]] w34 (ret (fun r54 w55 => ∃ x56 : Int, ∃ x57 : Int, r54 = .agg #[.int .i64 x56, .int .i64 x57] ∧ (rd w55 (b45.add ((i22 : Int).toNat * 8)) (.agg #[.int .i64 x46, .int .i64 x47, .int .i64 x48, .int .i64 x49, .string s50, .string s51, .string s52, .slice s53a s53l s53c]) ∧ True) ∧ Calls Tryz.prog 29 #[.pointer r21, .agg #[.int .i64 x46, .int .i64 x47, .int .i64 x48, .int .i64 x49, .string s50, .string s51, .string s52, .slice s53a s53l s53c]] w55 (ret (fun r58 w59 => ∃ x60 : Int, ∃ x61 : Int, r58 = .agg #[.int .i64 x60, .int .i64 x61] ∧ (True) ∧ runV Tryz.prog (do eqGuard .neq 45 (.tmp 31) (.tmp 37) (.agg #[.int .i64 x56, .int .i64 x57]) (.agg #[.int .i64 x60, .int .i64 x61]); binOp .neq 45 (.agg #[.int .i64 x56, .int .i64 x57]) (.agg #[.int .i64 x60, .int .i64 x61])) w59 (fun r62 w63 => ∃ b64 : Bool, r62 = .bool b64 ∧ (True) ∧ Kn b64 w63) Kp) Kp)) Kp)) else ((True) ∧ (True) ∧ (True) ∧ Kn false w34)) Kp)

def T_law08_play_3_outs : Exit → Option (List (Nat × Value)) := fun x => match x with | .normal => some [(39, .bool false)] | .panic _ => some [] | _ => none

def T_law08_play_3_ks : Nat → Bool := ksOf [20, 21, 22, 23, 24, 25, 26, 27, 28, 29, 30, 31, 32, 33, 34, 35, 36, 37, 38, 39]

def H_law08_play_3 : Env → World → QT → Prop := unitHook 44 T_law08_play_3_ks [(0, .slice none 0 0), (5, .pointer none), (6, .pointer none), (7, .int .i64 0)] T_law08_play_3_outs fun l w C => match l with | [v0, v1, v2, v3] => T_law08_play_3 (pA v0) (pL v0) (pC v0) (pPtr v1) (pPtr v2) (pInt v3) w (fun b66 w => C .normal [.bool b66] w) (fun ch w => C (.panic ch) [] w) | _ => False

theorem T_law08_play_3_hl : allP (hokL Tryz.prog (hookAt []) (at_ (bodyOf Tryz.f13) [1, 1, 0, 1, 0, 0, 1, 0, 0, 0]) 1864) = (True) := by kernel_rfl
theorem T_law08_play_3_hok : HOk Tryz.prog (hookAt []) (at_ (bodyOf Tryz.f13) [1, 1, 0, 1, 0, 0, 1, 0, 0, 0]) 1864 := HOk_of _ _ (by rw [T_law08_play_3_hl]; exact trivial)

theorem T_law08_play_3_eq (C : Conts) (l19a : Option Addr) (l19l : Nat) (l19c : Nat) (s20 : Option Addr) (r21 : Option Addr) (i22 : Int) (w : World) : vcCode Tryz.prog (hookAt []) (at_ (bodyOf Tryz.f13) [1, 1, 0, 1, 0, 0, 1, 0, 0, 0]) 1864 ⟨[(0, .slice l19a l19l l19c), (5, .pointer s20), (6, .pointer r21), (7, .int .i64 i22)], 44, []⟩ w (unitQ T_law08_play_3_outs C) = T_law08_play_3 l19a l19l l19c s20 r21 i22 w (fun b67 w => C .normal [.bool b67] w) (fun ch w => C (.panic ch) [] w) := by kernel_rfl

theorem T_law08_play_3_ok : UnitOk Tryz.prog H_law08_play_3 (at_ (bodyOf Tryz.f13) [1, 1, 0, 1, 0, 0, 1, 0, 0, 0]) 1864 := unit_ok (H := (hookAt [])) (by kernel_rfl) T_law08_play_3_hok fun l w C hk => by
    obtain ⟨v0, l_v0, rfl, k_v0, hk_v0⟩ := Kinds.cons_ hk
    obtain ⟨l19a, l19l, l19c, rfl⟩ := kind_slice k_v0
    obtain ⟨v1, l_v1, rfl, k_v1, hk_v1⟩ := Kinds.cons_ hk_v0
    obtain ⟨s20, rfl⟩ := kind_pointer k_v1
    obtain ⟨v2, l_v2, rfl, k_v2, hk_v2⟩ := Kinds.cons_ hk_v1
    obtain ⟨r21, rfl⟩ := kind_pointer k_v2
    obtain ⟨v3, l_v3, rfl, k_v3, hk_v3⟩ := Kinds.cons_ hk_v2
    obtain ⟨i22, rfl⟩ := kind_int k_v3
    obtain rfl := Kinds.nil_ hk_v3
    exact T_law08_play_3_eq C l19a l19l l19c s20 r21 i22 w

def T_law08_play_1_body (X : Int → World → Prop) (i8 : Int) (l9a : Option Addr) (l9l : Nat) (l9c : Nat) (s10 : Option Addr) (r11 : Option Addr) (w : World) (Kn : World → Prop) (Kr : Option Addr → Option Addr → Bool → World → Prop) (Kp : List PanicEntry → World → Prop)  : Prop :=
  T_law08_play_2 l9a l9l l9c i8 w (fun b17 w18 => if b17 = true then (T_law08_play_3 l9a l9l l9c s10 r11 i8 w18 (fun b68 w69 => if b68 = true then (Kr s10 r11 false w69) else (X (IntKind.wrap .i64 ((i8 : Int) + 1)) w69)) Kp) else (Kn  w18)) Kp

def T_law08_play_1 (i8 : Int) (l9a : Option Addr) (l9l : Nat) (l9c : Nat) (s10 : Option Addr) (r11 : Option Addr) (w : World) (Kn : World → Prop) (Kr : Option Addr → Option Addr → Bool → World → Prop) (Kp : List PanicEntry → World → Prop) : Prop :=
  ∀ X : Int → World → Prop, (∀ (i8 : Int) (w : World), T_law08_play_1_body X i8 l9a l9l l9c s10 r11 w Kn Kr Kp → X i8 w) → X i8 w

def T_law08_play_1_outs : Exit → Option (List (Nat × Value)) := fun x => match x with | .normal => some [] | .ret => some [(2, .pointer none), (3, .pointer none), (4, .bool false)] | .panic _ => some [] | _ => none

def T_law08_play_1_ks : Nat → Bool := ksOf [2, 3, 4, 7, 10, 11, 12, 13, 14, 15, 16, 17, 18, 19, 20, 21, 22, 23, 24, 25, 26, 27, 28, 29, 30, 31, 32, 33, 34, 35, 36, 37, 38, 39, 40, 41]

def H_law08_play_1 : Env → World → QT → Prop := unitHook 44 T_law08_play_1_ks [(7, .int .i64 0), (0, .slice none 0 0), (5, .pointer none), (6, .pointer none)] T_law08_play_1_outs fun l w C => match l with | [v0, v1, v2, v3] => T_law08_play_1 (pInt v0) (pA v1) (pL v1) (pC v1) (pPtr v2) (pPtr v3) w (fun w => C .normal [] w) (fun p73 p74 b75 w => C .ret [.pointer p73, .pointer p74, .bool b75] w) (fun ch w => C (.panic ch) [] w) | _ => False

theorem T_law08_play_1_hl : allP (hokL Tryz.prog (hookAt [(464, H_law08_play_2), (1864, H_law08_play_3)]) (at_ (bodyOf Tryz.f13) [1, 1, 0, 1, 0, 0]) 116) = (UnitOk Tryz.prog H_law08_play_2 (at_ (bodyOf Tryz.f13) [1, 1, 0, 1, 0, 0, 0, 0]) 464 ∧ UnitOk Tryz.prog H_law08_play_3 (at_ (bodyOf Tryz.f13) [1, 1, 0, 1, 0, 0, 1, 0, 0, 0]) 1864 ∧ True) := by kernel_rfl
theorem T_law08_play_1_hok : HOk Tryz.prog (hookAt [(464, H_law08_play_2), (1864, H_law08_play_3)]) (at_ (bodyOf Tryz.f13) [1, 1, 0, 1, 0, 0]) 116 := HOk_of _ _ (by rw [T_law08_play_1_hl]; exact ⟨T_law08_play_2_ok, T_law08_play_3_ok, trivial⟩)

theorem T_law08_play_1_eq (C : Conts) (X : List Value → World → Prop) (i8 : Int) (l9a : Option Addr) (l9l : Nat) (l9c : Nat) (s10 : Option Addr) (r11 : Option Addr) (w : World) : vcCode Tryz.prog (hookAt [(464, H_law08_play_2), (1864, H_law08_play_3)]) (at_ (bodyOf Tryz.f13) [1, 1, 0, 1, 0, 0]) 116 ⟨[(7, .int .i64 i8)] ++ [(0, .slice l9a l9l l9c), (5, .pointer s10), (6, .pointer r11)], 44, []⟩ w (seqQ (fun e w => takeAll e [(7, .int .i64 0)] fun l => X l w) (blockQ 0 (unitQ T_law08_play_1_outs C))) = T_law08_play_1_body (fun i8 w => X [.int .i64 i8] w) i8 l9a l9l l9c s10 r11 w (fun w => C .normal [] w) (fun p76 p77 b78 w => C .ret [.pointer p76, .pointer p77, .bool b78] w) (fun ch w => C (.panic ch) [] w) := by kernel_rfl

theorem T_law08_play_1_ok : UnitOk Tryz.prog H_law08_play_1 (at_ (bodyOf Tryz.f13) [1, 1, 0, 1]) 29 := by
  have hc : at_ (bodyOf Tryz.f13) [1, 1, 0, 1] = .block 0 (.loop (at_ (bodyOf Tryz.f13) [1, 1, 0, 1, 0, 0])) := by kernel_rfl
  rw [hc]
  refine loop_unit_ok (carr := [(7, .int .i64 0)]) (fix := [(0, .slice none 0 0), (5, .pointer none), (6, .pointer none)]) (ks := T_law08_play_1_ks) (H := (hookAt [(464, H_law08_play_2), (1864, H_law08_play_3)])) (B := fun C X l u w => match l, u with | [v0], [v1, v2, v3] => T_law08_play_1_body (fun i8 w => X [.int .i64 i8] w) (pInt v0) (pA v1) (pL v1) (pC v1) (pPtr v2) (pPtr v3) w (fun w => C .normal [] w) (fun p79 p80 b81 w => C .ret [.pointer p79, .pointer p80, .bool b81] w) (fun ch w => C (.panic ch) [] w) | _, _ => False) (by kernel_rfl) (by kernel_rfl) T_law08_play_1_hok ?_ ?_
  · intro C X l u w hl hu
    obtain ⟨v0, l_v0, rfl, k_v0, hl_v0⟩ := Kinds.cons_ hl
    obtain ⟨i8, rfl⟩ := kind_int k_v0
    obtain rfl := Kinds.nil_ hl_v0
    obtain ⟨v1, l_v1, rfl, k_v1, hu_v1⟩ := Kinds.cons_ hu
    obtain ⟨l9a, l9l, l9c, rfl⟩ := kind_slice k_v1
    obtain ⟨v2, l_v2, rfl, k_v2, hu_v2⟩ := Kinds.cons_ hu_v1
    obtain ⟨s10, rfl⟩ := kind_pointer k_v2
    obtain ⟨v3, l_v3, rfl, k_v3, hu_v3⟩ := Kinds.cons_ hu_v2
    obtain ⟨r11, rfl⟩ := kind_pointer k_v3
    obtain rfl := Kinds.nil_ hu_v3
    exact T_law08_play_1_eq C X i8 l9a l9l l9c s10 r11 w
  · intro l u w C hl hu
    obtain ⟨v0, l_v0, rfl, k_v0, hl_v0⟩ := Kinds.cons_ hl
    obtain ⟨i8, rfl⟩ := kind_int k_v0
    obtain rfl := Kinds.nil_ hl_v0
    obtain ⟨v1, l_v1, rfl, k_v1, hu_v1⟩ := Kinds.cons_ hu
    obtain ⟨l9a, l9l, l9c, rfl⟩ := kind_slice k_v1
    obtain ⟨v2, l_v2, rfl, k_v2, hu_v2⟩ := Kinds.cons_ hu_v1
    obtain ⟨s10, rfl⟩ := kind_pointer k_v2
    obtain ⟨v3, l_v3, rfl, k_v3, hu_v3⟩ := Kinds.cons_ hu_v2
    obtain ⟨r11, rfl⟩ := kind_pointer k_v3
    obtain rfl := Kinds.nil_ hu_v3
    constructor
    · intro h X hX
      exact h (fun i8 w => X [.int .i64 i8] w) (fun i8 w hb => hX [.int .i64 i8] w ⟨rfl, trivial⟩ hb)
    · intro h X hX
      exact h (fun l w => match l with | [v0] => X (pInt v0) w | _ => True) (fun l w hl hb => by
        obtain ⟨v0, l_v0, rfl, k_v0, hl_v0⟩ := Kinds.cons_ hl
        obtain ⟨i8, rfl⟩ := kind_int k_v0
        obtain rfl := Kinds.nil_ hl_v0
        exact hX i8 w hb)

def T_law08_play (l1a : Option Addr) (l1l : Nat) (l1c : Nat) (w : World) (R : Ending → World → Prop) : Prop :=
  Calls Tryz.prog 35 #[] w (ret (fun r2 w3 => ∃ p4 : Option Addr, r2 = .pointer p4 ∧ Calls Tryz.prog 36 #[] w3 (ret (fun r5 w6 => ∃ p7 : Option Addr, r5 = .pointer p7 ∧ T_law08_play_1 0 l1a l1l l1c p4 p7 w6 (fun w82 => R (.returned (.tuple #[.pointer p4, .pointer p7, .bool true])) w82) (fun p83 p84 b85 w86 => R (.returned (.tuple #[.pointer p83, .pointer p84, .bool b85])) w86) (pan R)) (pan R))) (pan R))

theorem T_law08_play_hl : allP (hokL Tryz.prog (hookAt [(29, H_law08_play_1)]) (bodyOf Tryz.f13) 1) = (UnitOk Tryz.prog H_law08_play_1 (at_ (bodyOf Tryz.f13) [1, 1, 0, 1]) 29 ∧ True) := by kernel_rfl

theorem T_law08_play_eq (l1a : Option Addr) (l1l : Nat) (l1c : Nat) (w : World) (R : Ending → World → Prop) : vcCode Tryz.prog (hookAt [(29, H_law08_play_1)]) (bodyOf Tryz.f13) 1 ⟨argEnv [.slice l1a l1l l1c] 0, Tryz.f13.ntmps, []⟩ w (finQ Tryz.prog Tryz.f13.results.toList R) = T_law08_play l1a l1l l1c w R := by kernel_rfl

theorem T_law08_play_b : Tryz.f13.body = some (bodyOf Tryz.f13) := by kernel_rfl
theorem T_law08_play_s : (quietSel (bodyOf Tryz.f13) && Nat.ble 1 Tryz.f13.ntmps) = true := by kernel_rfl

theorem C_law08_play {l1a : Option Addr} {l1l : Nat} {l1c : Nat} {w : World} {R : Ending → World → Prop} (h : T_law08_play l1a l1l l1c w R) : Calls Tryz.prog 13 #[.slice l1a l1l l1c] w R :=
  calls_of_text (args := [.slice l1a l1l l1c]) mixed Tryz.func13 T_law08_play_b T_law08_play_s (HOk_of _ _ (by rw [T_law08_play_hl]; exact ⟨T_law08_play_1_ok, trivial⟩)) (by rw [T_law08_play_eq]; exact h)

end Go.Proofs.YtcpmfjclkdjfmaaGreat
