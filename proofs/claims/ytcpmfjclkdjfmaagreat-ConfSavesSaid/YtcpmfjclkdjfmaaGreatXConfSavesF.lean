/-
  Texts of this claim's own, laid into one: Gi, ConfBb, ConfCk, Gr, ConfP, ConfG, Ge, ConfJj, ConfKk, ConfLl, ConfMm, ConfNn, GSaves, ConfOo, ConfPp.
-/
import Derived.Test.YtcpmfjclkdjfmaaGreatProg
import Derived.KernelRfl
import Derived.Test.YtcpmfjclkdjfmaaGreatXConfSavesA
import Derived.Test.YtcpmfjclkdjfmaaGreatXConfSavesB
import Derived.Test.YtcpmfjclkdjfmaaGreatXConfSavesC
import Derived.Test.YtcpmfjclkdjfmaaGreatXConfSavesD
import Derived.Test.YtcpmfjclkdjfmaaGreatXConfSavesE
/-
  What the functions' code comes to; printed by a program of this claim's own.
-/
namespace Go.Proofs.YtcpmfjclkdjfmaaGreat
open Go Go.Vc
set_option maxRecDepth 100000
set_option linter.unusedVariables false

/-! tollgate/tollgatelaw08.play -/
def T_law08_play_2 (l12a : Option Addr) (l12l : Nat) (l12c : Nat) (i13 : Int) (w : World) (Kn : Bool → World → Prop) (Kp : List PanicEntry → World → Prop) : Prop :=
  if (decide ((i13 : Int) < ((l12l : Nat) : Int))) = true then (Kn (decide ((i13 : Int) < 150)) w) else (Kn false w)

def T_law08_play_2_outs : Exit → Option (List (Nat × Value)) := fun x => match x with | .normal => some [(17, .bool false)] | .panic _ => some [] | _ => none

def T_law08_play_2_ks : Nat → Bool := ksOf [10, 11, 12, 13, 14, 15, 16, 17]

def H_law08_play_2 : Env → World → QT → Prop := unitHook 44 T_law08_play_2_ks [(0, .slice none 0 0), (7, .int .i64 0)] T_law08_play_2_outs fun l w C => match l with | [v0, v1] => T_law08_play_2 (pA v0) (pL v0) (pC v0) (pInt v1) w (fun b15 w => C .normal [.bool b15] w) (fun ch w => C (.panic ch) [] w) | _ => False

theorem T_law08_play_2_hl : allP (hokL Tryz.prog (hookAt []) (at_ (bodyOf Tryz.f13) [1, 1, 0, 1, 0, 0, 0, 0]) 464) = (True) := by kernel_rfl
theorem T_law08_play_2_hok : HOk Tryz.prog (hookAt []) (at_ (bodyOf Tryz.f13) [1, 1, 0, 1, 0, 0, 0, 0]) 464 := HOk_of _ _ (by rw [T_law08_play_2_hl]; exact trivial)

theorem T_law08_play_2_eq (C : Conts) (l12a : Option Addr) (l12l : Nat) (l12c : Nat) (i13 : Int) (w : World) : vcCode Tryz.prog (hookAt []) (at_ (bodyOf Tryz.f13) [1, 1, 0, 1, 0, 0, 0, 0]) 464 ⟨[(0, .slice l12a l12l l12c), (7, .int .i64 i13)], 44, []⟩ w (unitQ T_law08_play_2_outs C) = T_law08_play_2 l12a l12l l12c i13 w (fun b16 w => C .normal [.bool b16] w) (fun ch w => C (.panic ch) [] w) := by kernel_rfl

theorem T_law08_play_2_ok : UnitOk Tryz.prog H_law08_play_2 (at_ (bodyOf Tryz.f13) [1, 1, 0, 1, 0, 0, 0, 0]) 464 := unit_ok (H := (hookAt [])) (by kernel_rfl) T_law08_play_2_hok fun l w C hk => by
    obtain ⟨v0, l_v0, rfl, k_v0, hk_v0⟩ := Kinds.cons_ hk
    obtain ⟨l12a, l12l, l12c, rfl⟩ := kind_slice k_v0
    obtain ⟨v1, l_v1, rfl, k_v1, hk_v1⟩ := Kinds.cons_ hk_v0
    obtain ⟨i13, rfl⟩ := kind_int k_v1
    obtain rfl := Kinds.nil_ hk_v1
    exact T_law08_play_2_eq C l12a l12l l12c i13 w

def T_law08_play_3 (l19a : Option Addr) (l19l : Nat) (l19c : Nat) (s20 : Option Addr) (r21 : Option Addr) (i22 : Int) (w : World) (Kn : Bool → World → Prop) (Kp : List PanicEntry → World → Prop) : Prop :=
  let w23 : World := w.drew
  0 ≤ (i22 : Int) ∧ (i22 : Int) < ((l19l : Nat) : Int) ∧ ∃ b24, l19a = some b24 ∧ ∃ x25 : Int, ∃ x26 : Int, ∃ x27 : Int, ∃ x28 : Int, ∃ s29 : ByteArray, ∃ s30 : ByteArray, ∃ s31 : ByteArray, ∃ s32a : Option Addr, ∃ s32l : Nat, ∃ s32c : Nat, rd w23 (b24.add ((i22 : Int).toNat * 8)) (.agg #[.int .i64 x25, .int .i64 x26, .int .i64 x27, .int .i64 x28, .string s29, .string s30, .string s31, .slice s32a s32l s32c]) ∧ Calls Tryz.prog 16 #[.agg #[.int .i64 x25, .int .i64 x26, .int .i64 x27, .int .i64 x28, .string s29, .string s30, .string s31, .slice s32a s32l s32c]] w23 (ret (fun r33 w34 => ∃ b35 : Bool, r33 = .bool b35 ∧ (True) ∧ if b35 = true then (0 ≤ (i22 : Int) ∧ (i22 : Int) < ((l19l : Nat) : Int) ∧ ∃ b36, l19a = some b36 ∧ ∃ x37 : Int, ∃ x38 : Int, ∃ x39 : Int, ∃ x40 : Int, ∃ s41 : ByteArray, ∃ s42 : ByteArray, ∃ s43 : ByteArray, ∃ s44a : Option Addr, ∃ s44l : Nat, ∃ s44c : Nat, rd w34 (b36.add ((i22 : Int).toNat * 8)) (.agg #[.int .i64 x37, .int .i64 x38, .int .i64 x39, .int .i64 x40, .string s41, .string s42, .string s43, .slice s44a s44l s44c]) ∧ 0 ≤ (i22 : Int) ∧ (i22 : Int) < ((l19l : Nat) : Int) ∧ ∃ b45, l19a = some b45 ∧ ∃ x46 : Int, ∃ x47 : Int, ∃ x48 : Int, ∃ x49 : Int, ∃ s50 : ByteArray, ∃ s51 : ByteArray, ∃ s52 : ByteArray, ∃ s53a : Option Addr, ∃ s53l : Nat, ∃ s53c : Nat, rd w34 (b45.add ((i22 : Int).toNat * 8)) (.agg #[.int .i64 x46, .int .i64 x47, .int .i64 x48, .int .i64 x49, .string s50, .string s51, .string s52, .slice s53a s53l s53c]) ∧ Calls Tryz.prog 17 #[.pointer s20, .agg #[.int .i64 x37, .int .i64 x38, .int .i64 x39, .int .i64 x40, .string s41, .string s42, .string s43, .slice s44a s44l s44c]] w34 (ret (fun r54 w55 => ∃ x56 : Int, ∃ x57 : Int, r54 = .agg #[.int .i64 x56, .int .i64 x57] ∧ (rd w55 (b45.add ((i22 : Int).toNat * 8)) (.agg #[.int .i64 x46, .int .i64 x47, .int .i64 x48, .int .i64 x49, .string s50, .string s51, .string s52, .slice s53a s53l s53c]) ∧ True) ∧ Calls Tryz.prog 29 #[.pointer r21, .agg #[.int .i64 x46, .int .i64 x47, .int .i64 x48, .int .i64 x49, .string s50, .string s51, .string s52, .slice s53a s53l s53c]] w55 (ret (fun r58 w59 => ∃ x60 : Int, ∃ x61 : Int, r58 = .agg #[.int .i64 x60, .int .i64 x61] ∧ (True) ∧ runV Tryz.prog (do eqGuard .neq 45 (.tmp 31) (.tmp 37) (.agg #[.int .i64 x56, .int .i64 x57]) (.agg #[.int .i64 x60, .int .i64 x61]); binOp .neq 45 (.agg #[.int .i64 x56, .int .i64 x57]) (.agg #[.int .i64 x60, .int .i64 x61])) w59 (fun r62 w63 => ∃ b64 : Bool, r62 = .bool b64 ∧ (True) ∧ Kn b64 w63) Kp) Kp)) Kp)) else ((True) ∧ (True) ∧ (True) ∧ Kn false w34)) Kp)

def T_law08_play_3_outs : Exit → Option (List (Nat × Value)) := fun x => match x with | .normal => some [(39, .bool false)] | .panic _ => some [] | _ => none

def T_law08_play_3_ks : Nat → Bool := ksOf [20, 21, 22, 23, 24, 25, 26, 27, 28, 29, 30, 31, 32, 33, 34, 35, 36, 37, 38, 39]

def H_law08_play_3 : Env → World → QT → Prop := unitHook 44 T_law08_play_3_ks [(0, .slice none 0 0), (5, .pointer none), (6, .pointer none), (7, .int .i64 0)] T_law08_play_3_outs fun l w C => match l with | [v0, v1, v2, v3] => T_law08_play_3 (pA v0) (pL v0) (pC v0) (pPtr v1) (pPtr v2) (pInt v3) w (fun b66 w => C .normal [.bool b66] w) (fun ch w => C (.panic ch) [] w) | _ => False

theorem T_law08_play_3_hl : allP (hokL Tryz.prog (hookAt []) (at_ (bodyOf Tryz.f13) [1, 1, 0, 1, 0, 0, 1, 0, 0, 0]) 1864) = (True) := by kernel_rfl
theorem T_law08_play_3_hok : HOk Tryz.prog (hookAt []) (at_ (bodyOf Tryz.f13) [1, 1, 0, 1, 0, 0, 1, 0, 0, 0]) 1864 := HOk_of _ _ (by rw [T_law08_play_3_hl]; exact trivial)

theorem T_law08_play_3_eq (C : Conts) (l19a : Option Addr) (l19l : Nat) (l19c : Nat) (s20 : Option Addr) (r21 : Option Addr) (i22 : Int) (w : World) : vcCode Tryz.prog (hookAt []) (at_ (bodyOf Tryz.f13) [1, 1, 0, 1, 0, 0, 1, 0, 0, 0]) 1864 ⟨[(0, .slice l19a l19l l19c), (5, .pointer s20), (6, .pointer r21), (7, .int .i64 i22)], 44, []⟩ w (unitQ T_law08_play_3_outs C) = T_law08_play_3 l19a l19l l19c s20 r21 i22 w (fun b67 w => C .normal [.bool b67] w) (fun ch w => C (.panic ch) [] w) := by kernel_rfl

theorem T_law08_play_3_ok : UnitOk Tryz.prog H_law08_play_3 (at_ (bodyOf Tryz.f13) [1, 1, 0, 1, 0, 0, 1, 0, 0, 0]) 1864 := unit_ok (H := (hookAt [])) (by kernel_rfl) T_law08_play_3_hok fun l w C hk => by
    obtain ⟨v0, l_v0, rfl, k_v0, hk_v0⟩ := Kinds.cons_ hk
    obtain ⟨l19a, l19l, l19c, rfl⟩ := kind_slice k_v0
    obtain ⟨v1, l_v1, rfl, k_v1, hk_v1⟩ := Kinds.cons_ hk_v0
    obtain ⟨s20, rfl⟩ := kind_pointer k_v1
    obtain ⟨v2, l_v2, rfl, k_v2, hk_v2⟩ := Kinds.cons_ hk_v1
    obtain ⟨r21, rfl⟩ := kind_pointer k_v2
    obtain ⟨v3, l_v3, rfl, k_v3, hk_v3⟩ := Kinds.cons_ hk_v2
    obtain ⟨i22, rfl⟩ := kind_int k_v3
    obtain rfl := Kinds.nil_ hk_v3
    exact T_law08_play_3_eq C l19a l19l l19c s20 r21 i22 w

def T_law08_play_1_body (X : Int → World → Prop) (i8 : Int) (l9a : Option Addr) (l9l : Nat) (l9c : Nat) (s10 : Option Addr) (r11 : Option Addr) (w : World) (Kn : World → Prop) (Kr : Option Addr → Option Addr → Bool → World → Prop) (Kp : List PanicEntry → World → Prop)  : Prop :=
  T_law08_play_2 l9a l9l l9c i8 w (fun b17 w18 => if b17 = true then (T_law08_play_3 l9a l9l l9c s10 r11 i8 w18 (fun b68 w69 => if b68 = true then (Kr s10 r11 false w69) else (X (IntKind.wrap .i64 ((i8 : Int) + 1)) w69)) Kp) else (Kn  w18)) Kp

def T_law08_play_1 (i8 : Int) (l9a : Option Addr) (l9l : Nat) (l9c : Nat) (s10 : Option Addr) (r11 : Option Addr) (w : World) (Kn : World → Prop) (Kr : Option Addr → Option Addr → Bool → World → Prop) (Kp : List PanicEntry → World → Prop) : Prop :=
  ∀ X : Int → World → Prop, (∀ (i8 : Int) (w : World), T_law08_play_1_body X i8 l9a l9l l9c s10 r11 w Kn Kr Kp → X i8 w) → X i8 w

def T_law08_play_1_outs : Exit → Option (List (Nat × Value)) := fun x => match x with | .normal => some [] | .ret => some [(2, .pointer none), (3, .pointer none), (4, .bool false)] | .panic _ => some [] | _ => none

def T_law08_play_1_ks : Nat → Bool := ksOf [2, 3, 4, 7, 10, 11, 12, 13, 14, 15, 16, 17, 18, 19, 20, 21, 22, 23, 24, 25, 26, 27, 28, 29, 30, 31, 32, 33, 34, 35, 36, 37, 38, 39, 40, 41]

def H_law08_play_1 : Env → World → QT → Prop := unitHook 44 T_law08_play_1_ks [(7, .int .i64 0), (0, .slice none 0 0), (5, .pointer none), (6, .pointer none)] T_law08_play_1_outs fun l w C => match l with | [v0, v1, v2, v3] => T_law08_play_1 (pInt v0) (pA v1) (pL v1) (pC v1) (pPtr v2) (pPtr v3) w (fun w => C .normal [] w) (fun p73 p74 b75 w => C .ret [.pointer p73, .pointer p74, .bool b75] w) (fun ch w => C (.panic ch) [] w) | _ => False

theorem T_law08_play_1_hl : allP (hokL Tryz.prog (hookAt [(464, H_law08_play_2), (1864, H_law08_play_3)]) (at_ (bodyOf Tryz.f13) [1, 1, 0, 1, 0, 0]) 116) = (UnitOk Tryz.prog H_law08_play_2 (at_ (bodyOf Tryz.f13) [1, 1, 0, 1, 0, 0, 0, 0]) 464 ∧ UnitOk Tryz.prog H_law08_play_3 (at_ (bodyOf Tryz.f13) [1, 1, 0, 1, 0, 0, 1, 0, 0, 0]) 1864 ∧ True) := by kernel_rfl
theorem T_law08_play_1_hok : HOk Tryz.prog (hookAt [(464, H_law08_play_2), (1864, H_law08_play_3)]) (at_ (bodyOf Tryz.f13) [1, 1, 0, 1, 0, 0]) 116 := HOk_of _ _ (by rw [T_law08_play_1_hl]; exact ⟨T_law08_play_2_ok, T_law08_play_3_ok, trivial⟩)

theorem T_law08_play_1_eq (C : Conts) (X : List Value → World → Prop) (i8 : Int) (l9a : Option Addr) (l9l : Nat) (l9c : Nat) (s10 : Option Addr) (r11 : Option Addr) (w : World) : vcCode Tryz.prog (hookAt [(464, H_law08_play_2), (1864, H_law08_play_3)]) (at_ (bodyOf Tryz.f13) [1, 1, 0, 1, 0, 0]) 116 ⟨[(7, .int .i64 i8)] ++ [(0, .slice l9a l9l l9c), (5, .pointer s10), (6, .pointer r11)], 44, []⟩ w (seqQ (fun e w => takeAll e [(7, .int .i64 0)] fun l => X l w) (blockQ 0 (unitQ T_law08_play_1_outs C))) = T_law08_play_1_body (fun i8 w => X [.int .i64 i8] w) i8 l9a l9l l9c s10 r11 w (fun w => C .normal [] w) (fun p76 p77 b78 w => C .ret [.pointer p76, .pointer p77, .bool b78] w) (fun ch w => C (.panic ch) [] w) := by kernel_rfl

theorem T_law08_play_1_ok : UnitOk Tryz.prog H_law08_play_1 (at_ (bodyOf Tryz.f13) [1, 1, 0, 1]) 29 := by
  have hc : at_ (bodyOf Tryz.f13) [1, 1, 0, 1] = .block 0 (.loop (at_ (bodyOf Tryz.f13) [1, 1, 0, 1, 0, 0])) := by kernel_rfl
  rw [hc]
  refine loop_unit_ok (carr := [(7, .int .i64 0)]) (fix := [(0, .slice none 0 0), (5, .pointer none), (6, .pointer none)]) (ks := T_law08_play_1_ks) (H := (hookAt [(464, H_law08_play_2), (1864, H_law08_play_3)])) (B := fun C X l u w => match l, u with | [v0], [v1, v2, v3] => T_law08_play_1_body (fun i8 w => X [.int .i64 i8] w) (pInt v0) (pA v1) (pL v1) (pC v1) (pPtr v2) (pPtr v3) w (fun w => C .normal [] w) (fun p79 p80 b81 w => C .ret [.pointer p79, .pointer p80, .bool b81] w) (fun ch w => C (.panic ch) [] w) | _, _ => False) (by kernel_rfl) (by kernel_rfl) T_law08_play_1_hok ?_ ?_
  · intro C X l u w hl hu
    obtain ⟨v0, l_v0, rfl, k_v0, hl_v0⟩ := Kinds.cons_ hl
    obtain ⟨i8, rfl⟩ := kind_int k_v0
    obtain rfl := Kinds.nil_ hl_v0
    obtain ⟨v1, l_v1, rfl, k_v1, hu_v1⟩ := Kinds.cons_ hu
    obtain ⟨l9a, l9l, l9c, rfl⟩ := kind_slice k_v1
    obtain ⟨v2, l_v2, rfl, k_v2, hu_v2⟩ := Kinds.cons_ hu_v1
    obtain ⟨s10, rfl⟩ := kind_pointer k_v2
    obtain ⟨v3, l_v3, rfl, k_v3, hu_v3⟩ := Kinds.cons_ hu_v2
    obtain ⟨r11, rfl⟩ := kind_pointer k_v3
    obtain rfl := Kinds.nil_ hu_v3
    exact T_law08_play_1_eq C X i8 l9a l9l l9c s10 r11 w
  · intro l u w C hl hu
    obtain ⟨v0, l_v0, rfl, k_v0, hl_v0⟩ := Kinds.cons_ hl
    obtain ⟨i8, rfl⟩ := kind_int k_v0
    obtain rfl := Kinds.nil_ hl_v0
    obtain ⟨v1, l_v1, rfl, k_v1, hu_v1⟩ := Kinds.cons_ hu
    obtain ⟨l9a, l9l, l9c, rfl⟩ := kind_slice k_v1
    obtain ⟨v2, l_v2, rfl, k_v2, hu_v2⟩ := Kinds.cons_ hu_v1
    obtain ⟨s10, rfl⟩ := kind_pointer k_v2
    obtain ⟨v3, l_v3, rfl, k_v3, hu_v3⟩ := Kinds.cons_ hu_v2
    obtain ⟨r11, rfl⟩ := kind_pointer k_v3
    obtain rfl := Kinds.nil_ hu_v3
    constructor
    · intro h X hX
      exact h (fun i8 w => X [.int .i64 i8] w) (fun i8 w hb => hX [.int .i64 i8] w ⟨rfl, trivial⟩ hb)
    · intro h X hX
      exact h (fun l w => match l with | [v0] => X (pInt v0) w | _ => True) (fun l w hl hb => by
        obtain ⟨v0, l_v0, rfl, k_v0, hl_v0⟩ := Kinds.cons_ hl
        obtain ⟨i8, rfl⟩ := kind_int k_v0
        obtain rfl := Kinds.nil_ hl_v0
        exact hX i8 w hb)

def T_law08_play (l1a : Option Addr) (l1l : Nat) (l1c : Nat) (w : World) (R : Ending → World → Prop) : Prop :=
  Calls Tryz.prog 35 #[] w (ret (fun r2 w3 => ∃ p4 : Option Addr, r2 = .pointer p4 ∧ Calls Tryz.prog 36 #[] w3 (ret (fun r5 w6 => ∃ p7 : Option Addr, r5 = .pointer p7 ∧ T_law08_play_1 0 l1a l1l l1c p4 p7 w6 (fun w82 => R (.returned (.tuple #[.pointer p4, .pointer p7, .bool true])) w82) (fun p83 p84 b85 w86 => R (.returned (.tuple #[.pointer p83, .pointer p84, .bool b85])) w86) (pan R)) (pan R))) (pan R))

theorem T_law08_play_hl : allP (hokL Tryz.prog (hookAt [(29, H_law08_play_1)]) (bodyOf Tryz.f13) 1) = (UnitOk Tryz.prog H_law08_play_1 (at_ (bodyOf Tryz.f13) [1, 1, 0, 1]) 29 ∧ True) := by kernel_rfl

theorem T_law08_play_eq (l1a : Option Addr) (l1l : Nat) (l1c : Nat) (w : World) (R : Ending → World → Prop) : vcCode Tryz.prog (hookAt [(29, H_law08_play_1)]) (bodyOf Tryz.f13) 1 ⟨argEnv [.slice l1a l1l l1c] 0, Tryz.f13.ntmps, []⟩ w (finQ Tryz.prog Tryz.f13.results.toList R) = T_law08_play l1a l1l l1c w R := by kernel_rfl

theorem T_law08_play_b : Tryz.f13.body = some (bodyOf Tryz.f13) := by kernel_rfl
theorem T_law08_play_s : (quietSel (bodyOf Tryz.f13) && Nat.ble 1 Tryz.f13.ntmps) = true := by kernel_rfl

theorem C_law08_play {l1a : Option Addr} {l1l : Nat} {l1c : Nat} {w : World} {R : Ending → World → Prop} (h : T_law08_play l1a l1l l1c w R) : Calls Tryz.prog 13 #[.slice l1a l1l l1c] w R :=
  calls_of_text (args := [.slice l1a l1l l1c]) mixed Tryz.func13 T_law08_play_b T_law08_play_s (HOk_of _ _ (by rw [T_law08_play_hl]; exact ⟨T_law08_play_1_ok, trivial⟩)) (by rw [T_law08_play_eq]; exact h)

end Go.Proofs.YtcpmfjclkdjfmaaGreat

/-
  Commands on both stores: whatever they are, both come to the same.
-/
namespace Go.Vc
open Go Go.Proofs Go.Proofs.YtcpmfjclkdjfmaaGreat
set_option maxRecDepth 100000
section
variable {E w : World} {L : List Asrt} {R : Ending → World → Prop} {F G : Fz} {s : Cm.Sm} {c : Cm.Cmd} {q : Sl} {p r : Nat}
def shortC (c : Cm.Cmd) (q : Sl) : Bool := decide (q.2.1 ≤ 100) && (decide (c.host.length ≤ 1000) && (decide (c.pfx.length ≤ 1000) && decide (c.pool.length ≤ 1000)))
theorem short_spec (h : St E L w) (k : ∀ w', St E L w' → R (.returned (.bool (shortC c q))) w') : Calls Tryz.prog 16 #[cmdV c q] w R := by
  refine C_law08_short ?_
  unfold T_law08_short
  intro w9
  have h9 : St E (blkL w.heap.size 42 (cmdL c q) :: L) w9 := h.alloc _
  have e : ∀ s : Cm.Bs, decide (((bs s).size : Int) ≤ 1000) = decide (s.length ≤ 1000) := fun s => by rw [bs_size, Bool.eq_iff_iff]; simp; omega
  have e0 : decide ((q.2.1 : Int) ≤ 100) = decide (q.2.1 ≤ 100) := by rw [Bool.eq_iff_iff]; simp; omega
  refine ⟨_, _, _, rd_fld h9.at_blk rfl rfl, ?_⟩
  rw [e0]
  refine ite_b (fun h1 => ⟨_, rd_fld h9.at_blk rfl rfl, ?_⟩) fun h1 => congB (k _ h9.drop) (by unfold shortC; rw [h1, Bool.false_and])
  rw [e]
  refine ite_b (fun h2 => ⟨_, rd_fld h9.at_blk rfl rfl, ?_⟩) fun h2 => congB (k _ h9.drop) (by unfold shortC; rw [h1, h2, Bool.true_and, Bool.false_and])
  rw [e]
  refine ite_b (fun h3 => ⟨_, rd_fld h9.at_blk rfl rfl, ?_⟩) fun h3 => congB (k _ h9.drop) (by unfold shortC; rw [h1, h2, h3, Bool.true_and, Bool.true_and, Bool.false_and])
  rw [e]
  exact congB (k _ h9.drop) (by unfold shortC; rw [h1, h2, h3, Bool.true_and, Bool.true_and, Bool.true_and])
theorem cmd_at {ds : List (Cm.Cmd × Sl)} {a : Option Addr} {l : Nat} (h : RdS w a l 8 (ds.flatMap fun d => cmdL d.1 d.2)) {j : Nat} (hj : j < ds.length) : ∃ ad, a = some ad ∧ rd w (ad.add (j * 8)) (cmdV ds[j].1 ds[j].2) := by
  obtain ⟨ad, ha, h1, _⟩ := h.elem (f := fun d : Cm.Cmd × Sl => cmdL d.1 d.2) cmdL_len (List.getElem?_eq_getElem hj) (by decide)
  exact ⟨ad, ha, h1⟩
theorem CmdsR.mono {a : Option Addr} {l : Nat} {ds : List (Cm.Cmd × Sl)} (h : CmdsR F a l ds) (k : Fz.le F G) : CmdsR G a l ds := ⟨RdF.mono h.1 k, fun d hd => ⟨(h.2 d hd).1, RdF.mono (h.2 d hd).2 k⟩⟩
set_option maxHeartbeats 2000000 in
/-- play: both stores, at the same state. -/
theorem play_spec {a : Option Addr} {l cc : Nat} {ds : List (Cm.Cmd × Sl)} (hd : CmdsR F a l ds) (h : St E (kn F :: L) w)
    (k : ∀ (G : Fz) (p r : Nat) (s : Cm.Sm) (w' : World), Fz.le F G → Cm.Inv s → St E (stA G p s :: refA G r s :: kn G :: L) w' → R (.returned (.tuple #[.pointer (some ⟨p, 0, none⟩), .pointer (some ⟨r, 0, none⟩), .bool true])) w') :
    Calls Tryz.prog 13 #[.slice a l cc] w R := by
  refine C_law08_play ?_
  unfold T_law08_play
  refine New_spec F h fun p w3 h3 => ⟨_, rfl, RNew_spec F h3 fun r w6 h6 => ⟨_, rfl, ?_⟩⟩
  have n1 := hd.1.count cmdL_len (by decide) h6 at2
  unfold T_law08_play_1
  intro X hX
  refine up_to (min l 150) (Q := fun j => ∀ (w : World) (G : Fz) (s : Cm.Sm), Fz.le F G → Cm.Inv s → St E (stA G p s :: refA G r s :: kn G :: L) w → X (j : Int) w) ?_ w6 F Cm.new (Fz.le_refl F) Cm.Inv.new (h6.f1)
  intro j hj ih w G s hG I h
  refine hX _ _ ?_
  unfold T_law08_play_1_body T_law08_play_2
  refine ite_d (fun h1 => ?_) fun h1 => ite_b (fun hh => by cases hh) fun _ => k G p r s _ hG I h
  refine ite_b (fun h2 => ?_) fun h2 => k G p r s _ hG I h
  have h2 : (j : Int) < 150 := of_decide_eq_true h2
  have hjl : j < ds.length := by omega
  obtain ⟨hok, hrd⟩ := hd.2 _ (List.getElem_mem hjl)
  unfold T_law08_play_3
  intro w23
  have h23 : St E _ w23 := h.drew
  clear_value w23
  obtain ⟨ad, ha, hc⟩ := cmd_at ((RdF.mono hd.1 hG).at h23 at2) hjl
  rw [Int.toNat_natCast, succ_big (by unfold big; omega)]
  refine ⟨by omega, by omega, ad, ha, _, _, _, _, _, _, _, _, _, _, hc, short_spec h23 fun w34 h34 => ⟨_, rfl, trivial, ite_b (fun hs => ?_) fun hs => ⟨trivial, trivial, trivial, ite_b (fun hh => by cases hh) fun _ => ih (by omega) _ G s hG I h34⟩⟩⟩
  obtain ⟨ad2, ha2, hc2⟩ := cmd_at ((RdF.mono hd.1 hG).at h34 at2) hjl
  rw [ha] at ha2
  injection ha2 with ha2
  subst ha2
  refine ⟨by omega, by omega, ad, ha, _, _, _, _, _, _, _, _, _, _, hc2, by omega, by omega, ad, ha, _, _, _, _, _, _, _, _, _, _, hc2, ?_⟩
  refine Do_spec (c := ds[j].1) (q := ds[j].2) (L := refA G r s :: L) I (RdF.mono hrd hG) hok (h34.sel 3 [0, 2, 1]) fun G1 w55 hG1 h55 => ⟨_, _, rfl, ⟨?_, trivial⟩, ?_⟩
  · obtain ⟨ad3, ha3, hc3⟩ := cmd_at ((RdF.mono hd.1 (Fz.le_trans hG hG1)).at h55 at1) hjl
    rw [ha] at ha3
    injection ha3 with ha3
    subst ha3
    exact hc3
  · refine RDo_spec (c := ds[j].1) (q := ds[j].2) (L := stA G1 p (Cm.doC s ds[j].1).1 :: L) I (RdF.mono hrd (Fz.le_trans hG hG1)) hok (St.rf_mono (h55.sel 3 [2, 1, 0]) hG1) fun G2 w59 hG2 h59 => ⟨_, _, rfl, trivial, ?_⟩
    refine runV_ok (res_ne _ _ _ _ _ _) ?_
    refine ⟨_, rfl, trivial, ?_⟩
    refine ite_b (fun hh => ?_) fun _ => ?_
    · simp at hh
    refine ih (by omega) _ G2 (Cm.doC s ds[j].1).1 (Fz.le_trans hG (Fz.le_trans hG1 hG2)) (Cm.doC_keeps I ds[j].1) ?_
    exact St.st_mono (h59.sel 3 [2, 0, 1]) hG2
end
end Go.Vc

/-
  Config, and what it tells stays as it is.
-/
namespace Go.Vc
open Go Go.Proofs Go.Proofs.YtcpmfjclkdjfmaaGreat Go.RowKit
set_option maxRecDepth 100000
section
variable {E w : World} {L : List Asrt} {R : Ending → World → Prop} {F G : Fz} {s : Cm.Sm} {p : Nat}
/-- Config, and what it tells stays as it is. -/
theorem Config_kn (S : Sz s) (h : St E (stA F p s :: kn F :: L) w) (k : ∀ (G : Fz) (w' : World) (ra pa : Sl), Fz.le F G → cfgR G ra pa s.routes s.pools → St E (stA G p s :: kn G :: L) w' → R (.returned (cfgV s.ver ra pa)) w') :
    Calls Tryz.prog 14 #[.pointer (some ⟨p, 0, none⟩)] w R := by
  refine Config_spec (L := kn F :: L) at0 S h fun w' ra pa xs hxs h' => ?_
  obtain ⟨G, hG, h2, hc⟩ := St.cfg_freeze hxs (h'.sel 5 [0, 1, 2, 4, 3])
  have h3 : St E (kn G :: stA F p s :: L) w' := h2
  exact k G w' ra pa hG hc (h3.f1.st_mono hG)
theorem wrap_pred {j : Nat} (h : 0 < j) (hl : j ≤ 1000000) : IntKind.wrap .i64 ((j : Int) - 1) = ((j - 1 : Nat) : Int) := by rw [wrap_id (by omega) (by omega)]; omega
end
end Go.Vc

/-
  What the functions' code comes to; printed by a program of this claim's own.
-/
namespace Go.Proofs.YtcpmfjclkdjfmaaGreat
open Go Go.Vc
set_option maxRecDepth 100000
set_option linter.unusedVariables false

/-! tollgate/conf.GetCommand -/
/-! tollgate/tollgateref08.GetCommand -/
/-! (*tollgate/conf.reader).num -/
def T_conf_reader_num_1 (most15 : Int) (n16 : Int) (e17 : Int) (w : World) (Kn : Bool → World → Prop) (Kp : List PanicEntry → World → Prop) : Prop :=
  if ((e17 : Int) == 0) = true then (Kn (decide ((n16 : Int) > most15)) w) else (Kn false w)

def T_conf_reader_num_1_outs : Exit → Option (List (Nat × Value)) := fun x => match x with | .normal => some [(32, .bool false)] | .panic _ => some [] | _ => none

def T_conf_reader_num_1_ks : Nat → Bool := ksOf [26, 27, 28, 29, 30, 31, 32]

def H_conf_reader_num_1 : Env → World → QT → Prop := unitHook 44 T_conf_reader_num_1_ks [(1, .int .i64 0), (5, .int .i64 0), (7, .int .i64 0)] T_conf_reader_num_1_outs fun l w C => match l with | [v0, v1, v2] => T_conf_reader_num_1 (pInt v0) (pInt v1) (pInt v2) w (fun b19 w => C .normal [.bool b19] w) (fun ch w => C (.panic ch) [] w) | _ => False

theorem T_conf_reader_num_1_hl : allP (hokL Tryz.prog (hookAt []) (at_ (bodyOf Tryz.f63) [1, 1, 1, 0, 0]) 60) = (True) := by kernel_rfl
theorem T_conf_reader_num_1_hok : HOk Tryz.prog (hookAt []) (at_ (bodyOf Tryz.f63) [1, 1, 1, 0, 0]) 60 := HOk_of _ _ (by rw [T_conf_reader_num_1_hl]; exact trivial)

theorem T_conf_reader_num_1_eq (C : Conts) (most15 : Int) (n16 : Int) (e17 : Int) (w : World) : vcCode Tryz.prog (hookAt []) (at_ (bodyOf Tryz.f63) [1, 1, 1, 0, 0]) 60 ⟨[(1, .int .i64 most15), (5, .int .i64 n16), (7, .int .i64 e17)], 44, []⟩ w (unitQ T_conf_reader_num_1_outs C) = T_conf_reader_num_1 most15 n16 e17 w (fun b20 w => C .normal [.bool b20] w) (fun ch w => C (.panic ch) [] w) := by kernel_rfl

theorem T_conf_reader_num_1_ok : UnitOk Tryz.prog H_conf_reader_num_1 (at_ (bodyOf Tryz.f63) [1, 1, 1, 0, 0]) 60 := unit_ok (H := (hookAt [])) (by kernel_rfl) T_conf_reader_num_1_hok fun l w C hk => by
    obtain ⟨v0, l_v0, rfl, k_v0, hk_v0⟩ := Kinds.cons_ hk
    obtain ⟨most15, rfl⟩ := kind_int k_v0
    obtain ⟨v1, l_v1, rfl, k_v1, hk_v1⟩ := Kinds.cons_ hk_v0
    obtain ⟨n16, rfl⟩ := kind_int k_v1
    obtain ⟨v2, l_v2, rfl, k_v2, hk_v2⟩ := Kinds.cons_ hk_v1
    obtain ⟨e17, rfl⟩ := kind_int k_v2
    obtain rfl := Kinds.nil_ hk_v2
    exact T_conf_reader_num_1_eq C most15 n16 e17 w

def T_conf_reader_num_2 (e23 : Int) (b24 : Bool) (w : World) (Kn : Int → World → Prop) (Kp : List PanicEntry → World → Prop) : Prop :=
  if b24 = true then (Kn 6 w) else (Kn e23 w)

def T_conf_reader_num_2_outs : Exit → Option (List (Nat × Value)) := fun x => match x with | .normal => some [(7, .int .i64 0)] | .panic _ => some [] | _ => none

def T_conf_reader_num_2_ks : Nat → Bool := ksOf [7]

def H_conf_reader_num_2 : Env → World → QT → Prop := unitHook 44 T_conf_reader_num_2_ks [(7, .int .i64 0), (32, .bool false)] T_conf_reader_num_2_outs fun l w C => match l with | [v0, v1] => T_conf_reader_num_2 (pInt v0) (pBool v1) w (fun e26 w => C .normal [.int .i64 e26] w) (fun ch w => C (.panic ch) [] w) | _ => False

theorem T_conf_reader_num_2_hl : allP (hokL Tryz.prog (hookAt []) (at_ (bodyOf Tryz.f63) [1, 1, 1, 0, 1]) 61) = (True) := by kernel_rfl
theorem T_conf_reader_num_2_hok : HOk Tryz.prog (hookAt []) (at_ (bodyOf Tryz.f63) [1, 1, 1, 0, 1]) 61 := HOk_of _ _ (by rw [T_conf_reader_num_2_hl]; exact trivial)

theorem T_conf_reader_num_2_eq (C : Conts) (e23 : Int) (b24 : Bool) (w : World) : vcCode Tryz.prog (hookAt []) (at_ (bodyOf Tryz.f63) [1, 1, 1, 0, 1]) 61 ⟨[(7, .int .i64 e23), (32, .bool b24)], 44, []⟩ w (unitQ T_conf_reader_num_2_outs C) = T_conf_reader_num_2 e23 b24 w (fun e27 w => C .normal [.int .i64 e27] w) (fun ch w => C (.panic ch) [] w) := by kernel_rfl

theorem T_conf_reader_num_2_ok : UnitOk Tryz.prog H_conf_reader_num_2 (at_ (bodyOf Tryz.f63) [1, 1, 1, 0, 1]) 61 := unit_ok (H := (hookAt [])) (by kernel_rfl) T_conf_reader_num_2_hok fun l w C hk => by
    obtain ⟨v0, l_v0, rfl, k_v0, hk_v0⟩ := Kinds.cons_ hk
    obtain ⟨e23, rfl⟩ := kind_int k_v0
    obtain ⟨v1, l_v1, rfl, k_v1, hk_v1⟩ := Kinds.cons_ hk_v0
    obtain ⟨b24, rfl⟩ := kind_bool k_v1
    obtain rfl := Kinds.nil_ hk_v1
    exact T_conf_reader_num_2_eq C e23 b24 w

def T_conf_reader_num (r1 : Option Addr) (most2 : Int) (w : World) (R : Ending → World → Prop) : Prop :=
  ∃ a3, r1 = some a3 ∧ ∃ x4 : Int, rd w (a3.add 2) (.int .i64 x4) ∧ if ((x4 : Int) != 0) = true then (R (.returned (.int .i64 0)) w) else (let w5 : World := w.drew
  ∃ a6, r1 = some a6 ∧ ∃ s7a : Option Addr, ∃ s7l : Nat, ∃ s7c : Nat, rd w5 a6 (.slice s7a s7l s7c) ∧ ∃ a8, r1 = some a8 ∧ ∃ x9 : Int, rd w5 (a8.add 1) (.int .i64 x9) ∧ Calls Tryz.prog 101 #[.slice s7a s7l s7c, .int .i64 x9] w5 (ret (fun r10 w11 => ∃ x12 : Int, ∃ x13 : Int, ∃ x14 : Int, r10 = .tuple #[.int .i64 x12, .int .i64 x13, .int .i64 x14] ∧ (True) ∧ T_conf_reader_num_1 most2 x12 x14 w11 (fun b21 w22 => T_conf_reader_num_2 x14 b21 w22 (fun e28 w29 => if ((e28 : Int) != 0) = true then (∃ a30, r1 = some a30 ∧ (.int .i64 e28 : Value).cells.size = 1 ∧ wrOk w29 (a30.add 2) (.int .i64 e28) ∧ let w31 : World := wr w29 (a30.add 2) (.int .i64 e28)
  R (.returned (.int .i64 0)) w31) else (∃ a32, r1 = some a32 ∧ (.int .i64 x13 : Value).cells.size = 1 ∧ wrOk w29 (a32.add 1) (.int .i64 x13) ∧ let w33 : World := wr w29 (a32.add 1) (.int .i64 x13)
  R (.returned (.int .i64 x12)) w33)) (pan R)) (pan R)) (pan R)))

theorem T_conf_reader_num_hl : allP (hokL Tryz.prog (hookAt [(60, H_conf_reader_num_1), (61, H_conf_reader_num_2)]) (bodyOf Tryz.f63) 1) = (UnitOk Tryz.prog H_conf_reader_num_1 (at_ (bodyOf Tryz.f63) [1, 1, 1, 0, 0]) 60 ∧ UnitOk Tryz.prog H_conf_reader_num_2 (at_ (bodyOf Tryz.f63) [1, 1, 1, 0, 1]) 61 ∧ True) := by kernel_rfl

theorem T_conf_reader_num_eq (r1 : Option Addr) (most2 : Int) (w : World) (R : Ending → World → Prop) : vcCode Tryz.prog (hookAt [(60, H_conf_reader_num_1), (61, H_conf_reader_num_2)]) (bodyOf Tryz.f63) 1 ⟨argEnv [.pointer r1, .int .i64 most2] 0, Tryz.f63.ntmps, []⟩ w (finQ Tryz.prog Tryz.f63.results.toList R) = T_conf_reader_num r1 most2 w R := by kernel_rfl

theorem T_conf_reader_num_b : Tryz.f63.body = some (bodyOf Tryz.f63) := by kernel_rfl
theorem T_conf_reader_num_s : (quietSel (bodyOf Tryz.f63) && Nat.ble 2 Tryz.f63.ntmps) = true := by kernel_rfl

theorem C_conf_reader_num {r1 : Option Addr} {most2 : Int} {w : World} {R : Ending → World → Prop} (h : T_conf_reader_num r1 most2 w R) : Calls Tryz.prog 63 #[.pointer r1, .int .i64 most2] w R :=
  calls_of_text (args := [.pointer r1, .int .i64 most2]) mixed Tryz.func63 T_conf_reader_num_b T_conf_reader_num_s (HOk_of _ _ (by rw [T_conf_reader_num_hl]; exact ⟨T_conf_reader_num_1_ok, T_conf_reader_num_2_ok, trivial⟩)) (by rw [T_conf_reader_num_eq]; exact h)

/-! (*tollgate/conf.reader).text -/
def T_conf_reader_text (r1 : Option Addr) (w : World) (R : Ending → World → Prop) : Prop :=
  Calls Tryz.prog 63 #[.pointer r1, .int .i64 128] w (ret (fun r2 w3 => ∃ x4 : Int, r2 = .int .i64 x4 ∧ Calls Tryz.prog 102 #[.pointer r1, .int .i64 x4] w3 (ret (fun r5 w6 => ∃ s7a : Option Addr, ∃ s7l : Nat, ∃ s7c : Nat, r5 = .slice s7a s7l s7c ∧ runV Tryz.prog (convert 56 9 (.slice s7a s7l s7c)) w6 (fun r8 w9 => ∃ s10 : ByteArray, r8 = .string s10 ∧ R (.returned (.string s10)) w9) (pan R)) (pan R))) (pan R))

theorem T_conf_reader_text_hl : allP (hokL Tryz.prog (hookAt []) (bodyOf Tryz.f64) 1) = (True) := by kernel_rfl

theorem T_conf_reader_text_eq (r1 : Option Addr) (w : World) (R : Ending → World → Prop) : vcCode Tryz.prog (hookAt []) (bodyOf Tryz.f64) 1 ⟨argEnv [.pointer r1] 0, Tryz.f64.ntmps, []⟩ w (finQ Tryz.prog Tryz.f64.results.toList R) = T_conf_reader_text r1 w R := by kernel_rfl

theorem T_conf_reader_text_b : Tryz.f64.body = some (bodyOf Tryz.f64) := by kernel_rfl
theorem T_conf_reader_text_s : (quietSel (bodyOf Tryz.f64) && Nat.ble 1 Tryz.f64.ntmps) = true := by kernel_rfl

theorem C_conf_reader_text {r1 : Option Addr} {w : World} {R : Ending → World → Prop} (h : T_conf_reader_text r1 w R) : Calls Tryz.prog 64 #[.pointer r1] w R :=
  calls_of_text (args := [.pointer r1]) mixed Tryz.func64 T_conf_reader_text_b T_conf_reader_text_s (HOk_of _ _ (by rw [T_conf_reader_text_hl]; exact trivial)) (by rw [T_conf_reader_text_eq]; exact h)

/-! (*tollgate/conf.reader).targets -/
def T_conf_reader_targets_2 (r8 : Option Addr) (n9 : Int) (w : World) (Kn : Bool → World → Prop) (Kp : List PanicEntry → World → Prop) : Prop :=
  if (decide ((n9 : Int) > 0)) = true then (∃ a10, r8 = some a10 ∧ ∃ x11 : Int, rd w (a10.add 2) (.int .i64 x11) ∧ Kn ((x11 : Int) == 0) w) else (Kn false w)

def T_conf_reader_targets_2_outs : Exit → Option (List (Nat × Value)) := fun x => match x with | .normal => some [(15, .bool false)] | .panic _ => some [] | _ => none

def T_conf_reader_targets_2_ks : Nat → Bool := ksOf [7, 8, 9, 10, 11, 12, 13, 14, 15]

def H_conf_reader_targets_2 : Env → World → QT → Prop := unitHook 27 T_conf_reader_targets_2_ks [(0, .pointer none), (4, .int .i64 0)] T_conf_reader_targets_2_outs fun l w C => match l with | [v0, v1] => T_conf_reader_targets_2 (pPtr v0) (pInt v1) w (fun b13 w => C .normal [.bool b13] w) (fun ch w => C (.panic ch) [] w) | _ => False

theorem T_conf_reader_targets_2_hl : allP (hokL Tryz.prog (hookAt []) (at_ (bodyOf Tryz.f65) [1, 1, 0, 1, 0, 0, 0, 0]) 464) = (True) := by kernel_rfl
theorem T_conf_reader_targets_2_hok : HOk Tryz.prog (hookAt []) (at_ (bodyOf Tryz.f65) [1, 1, 0, 1, 0, 0, 0, 0]) 464 := HOk_of _ _ (by rw [T_conf_reader_targets_2_hl]; exact trivial)

theorem T_conf_reader_targets_2_eq (C : Conts) (r8 : Option Addr) (n9 : Int) (w : World) : vcCode Tryz.prog (hookAt []) (at_ (bodyOf Tryz.f65) [1, 1, 0, 1, 0, 0, 0, 0]) 464 ⟨[(0, .pointer r8), (4, .int .i64 n9)], 27, []⟩ w (unitQ T_conf_reader_targets_2_outs C) = T_conf_reader_targets_2 r8 n9 w (fun b14 w => C .normal [.bool b14] w) (fun ch w => C (.panic ch) [] w) := by kernel_rfl

theorem T_conf_reader_targets_2_ok : UnitOk Tryz.prog H_conf_reader_targets_2 (at_ (bodyOf Tryz.f65) [1, 1, 0, 1, 0, 0, 0, 0]) 464 := unit_ok (H := (hookAt [])) (by kernel_rfl) T_conf_reader_targets_2_hok fun l w C hk => by
    obtain ⟨v0, l_v0, rfl, k_v0, hk_v0⟩ := Kinds.cons_ hk
    obtain ⟨r8, rfl⟩ := kind_pointer k_v0
    obtain ⟨v1, l_v1, rfl, k_v1, hk_v1⟩ := Kinds.cons_ hk_v0
    obtain ⟨n9, rfl⟩ := kind_int k_v1
    obtain rfl := Kinds.nil_ hk_v1
    exact T_conf_reader_targets_2_eq C r8 n9 w

def T_conf_reader_targets_1_body (X : Option Addr → Nat → Nat → Int → World → Prop) (l5a : Option Addr) (l5l : Nat) (l5c : Nat) (n6 : Int) (r7 : Option Addr) (w : World) (Kn : Option Addr → Nat → Nat → World → Prop) (Kp : List PanicEntry → World → Prop)  : Prop :=
  T_conf_reader_targets_2 r7 n6 w (fun b15 w16 => if b15 = true then (Calls Tryz.prog 64 #[.pointer r7] w16 (ret (fun r17 w18 => ∃ s19 : ByteArray, r17 = .string s19 ∧ Calls Tryz.prog 103 #[.pointer r7] w18 (ret (fun r20 w21 => ∃ f22 : Nat, r20 = .float .f64 f22 ∧ let w23 : World := w21.alloc (.cells #[.string s19, .float .f64 f22] 64)
  runV Tryz.prog (Builtin.append_ #[32, 32] 32 #[.slice l5a l5l l5c, .slice (some (⟨w21.heap.size, 0, none⟩ : Addr)) 1 1]) w23 (fun r24 w25 => ∃ s26a : Option Addr, ∃ s26l : Nat, ∃ s26c : Nat, r24 = .slice s26a s26l s26c ∧ X s26a s26l s26c (IntKind.wrap .i64 ((n6 : Int) - 1)) w25) Kp) Kp)) Kp)) else (Kn l5a l5l l5c w16)) Kp

def T_conf_reader_targets_1 (l5a : Option Addr) (l5l : Nat) (l5c : Nat) (n6 : Int) (r7 : Option Addr) (w : World) (Kn : Option Addr → Nat → Nat → World → Prop) (Kp : List PanicEntry → World → Prop) : Prop :=
  ∀ X : Option Addr → Nat → Nat → Int → World → Prop, (∀ (l5a : Option Addr) (l5l : Nat) (l5c : Nat) (n6 : Int) (w : World), T_conf_reader_targets_1_body X l5a l5l l5c n6 r7 w Kn Kp → X l5a l5l l5c n6 w) → X l5a l5l l5c n6 w

def T_conf_reader_targets_1_outs : Exit → Option (List (Nat × Value)) := fun x => match x with | .normal => some [(3, .slice none 0 0)] | .panic _ => some [] | _ => none

def T_conf_reader_targets_1_ks : Nat → Bool := ksOf [3, 4, 7, 8, 9, 10, 11, 12, 13, 14, 15, 16, 17, 18, 19, 20, 21, 22, 23, 24, 25]

def H_conf_reader_targets_1 : Env → World → QT → Prop := unitHook 27 T_conf_reader_targets_1_ks [(3, .slice none 0 0), (4, .int .i64 0), (0, .pointer none)] T_conf_reader_targets_1_outs fun l w C => match l with | [v0, v1, v2] => T_conf_reader_targets_1 (pA v0) (pL v0) (pC v0) (pInt v1) (pPtr v2) w (fun l28a l28l l28c w => C .normal [.slice l28a l28l l28c] w) (fun ch w => C (.panic ch) [] w) | _ => False

theorem T_conf_reader_targets_1_hl : allP (hokL Tryz.prog (hookAt [(464, H_conf_reader_targets_2)]) (at_ (bodyOf Tryz.f65) [1, 1, 0, 1, 0, 0]) 116) = (UnitOk Tryz.prog H_conf_reader_targets_2 (at_ (bodyOf Tryz.f65) [1, 1, 0, 1, 0, 0, 0, 0]) 464 ∧ True) := by kernel_rfl
theorem T_conf_reader_targets_1_hok : HOk Tryz.prog (hookAt [(464, H_conf_reader_targets_2)]) (at_ (bodyOf Tryz.f65) [1, 1, 0, 1, 0, 0]) 116 := HOk_of _ _ (by rw [T_conf_reader_targets_1_hl]; exact ⟨T_conf_reader_targets_2_ok, trivial⟩)

theorem T_conf_reader_targets_1_eq (C : Conts) (X : List Value → World → Prop) (l5a : Option Addr) (l5l : Nat) (l5c : Nat) (n6 : Int) (r7 : Option Addr) (w : World) : vcCode Tryz.prog (hookAt [(464, H_conf_reader_targets_2)]) (at_ (bodyOf Tryz.f65) [1, 1, 0, 1, 0, 0]) 116 ⟨[(3, .slice l5a l5l l5c), (4, .int .i64 n6)] ++ [(0, .pointer r7)], 27, []⟩ w (seqQ (fun e w => takeAll e [(3, .slice none 0 0), (4, .int .i64 0)] fun l => X l w) (blockQ 0 (unitQ T_conf_reader_targets_1_outs C))) = T_conf_reader_targets_1_body (fun l5a l5l l5c n6 w => X [.slice l5a l5l l5c, .int .i64 n6] w) l5a l5l l5c n6 r7 w (fun l29a l29l l29c w => C .normal [.slice l29a l29l l29c] w) (fun ch w => C (.panic ch) [] w) := by kernel_rfl

theorem T_conf_reader_targets_1_ok : UnitOk Tryz.prog H_conf_reader_targets_1 (at_ (bodyOf Tryz.f65) [1, 1, 0, 1]) 29 := by
  have hc : at_ (bodyOf Tryz.f65) [1, 1, 0, 1] = .block 0 (.loop (at_ (bodyOf Tryz.f65) [1, 1, 0, 1, 0, 0])) := by kernel_rfl
  rw [hc]
  refine loop_unit_ok (carr := [(3, .slice none 0 0), (4, .int .i64 0)]) (fix := [(0, .pointer none)]) (ks := T_conf_reader_targets_1_ks) (H := (hookAt [(464, H_conf_reader_targets_2)])) (B := fun C X l u w => match l, u with | [v0, v1], [v2] => T_conf_reader_targets_1_body (fun l5a l5l l5c n6 w => X [.slice l5a l5l l5c, .int .i64 n6] w) (pA v0) (pL v0) (pC v0) (pInt v1) (pPtr v2) w (fun l30a l30l l30c w => C .normal [.slice l30a l30l l30c] w) (fun ch w => C (.panic ch) [] w) | _, _ => False) (by kernel_rfl) (by kernel_rfl) T_conf_reader_targets_1_hok ?_ ?_
  · intro C X l u w hl hu
    obtain ⟨v0, l_v0, rfl, k_v0, hl_v0⟩ := Kinds.cons_ hl
    obtain ⟨l5a, l5l, l5c, rfl⟩ := kind_slice k_v0
    obtain ⟨v1, l_v1, rfl, k_v1, hl_v1⟩ := Kinds.cons_ hl_v0
    obtain ⟨n6, rfl⟩ := kind_int k_v1
    obtain rfl := Kinds.nil_ hl_v1
    obtain ⟨v2, l_v2, rfl, k_v2, hu_v2⟩ := Kinds.cons_ hu
    obtain ⟨r7, rfl⟩ := kind_pointer k_v2
    obtain rfl := Kinds.nil_ hu_v2
    exact T_conf_reader_targets_1_eq C X l5a l5l l5c n6 r7 w
  · intro l u w C hl hu
    obtain ⟨v0, l_v0, rfl, k_v0, hl_v0⟩ := Kinds.cons_ hl
    obtain ⟨l5a, l5l, l5c, rfl⟩ := kind_slice k_v0
    obtain ⟨v1, l_v1, rfl, k_v1, hl_v1⟩ := Kinds.cons_ hl_v0
    obtain ⟨n6, rfl⟩ := kind_int k_v1
    obtain rfl := Kinds.nil_ hl_v1
    obtain ⟨v2, l_v2, rfl, k_v2, hu_v2⟩ := Kinds.cons_ hu
    obtain ⟨r7, rfl⟩ := kind_pointer k_v2
    obtain rfl := Kinds.nil_ hu_v2
    constructor
    · intro h X hX
      exact h (fun l5a l5l l5c n6 w => X [.slice l5a l5l l5c, .int .i64 n6] w) (fun l5a l5l l5c n6 w hb => hX [.slice l5a l5l l5c, .int .i64 n6] w ⟨rfl, rfl, trivial⟩ hb)
    · intro h X hX
      exact h (fun l w => match l with | [v0, v1] => X (pA v0) (pL v0) (pC v0) (pInt v1) w | _ => True) (fun l w hl hb => by
        obtain ⟨v0, l_v0, rfl, k_v0, hl_v0⟩ := Kinds.cons_ hl
        obtain ⟨l5a, l5l, l5c, rfl⟩ := kind_slice k_v0
        obtain ⟨v1, l_v1, rfl, k_v1, hl_v1⟩ := Kinds.cons_ hl_v0
        obtain ⟨n6, rfl⟩ := kind_int k_v1
        obtain rfl := Kinds.nil_ hl_v1
        exact hX l5a l5l l5c n6 w hb)

def T_conf_reader_targets (r1 : Option Addr) (w : World) (R : Ending → World → Prop) : Prop :=
  Calls Tryz.prog 63 #[.pointer r1, .int .i64 16] w (ret (fun r2 w3 => ∃ x4 : Int, r2 = .int .i64 x4 ∧ T_conf_reader_targets_1 none 0 0 x4 r1 w3 (fun l31a l31l l31c w32 => R (.returned (.slice l31a l31l l31c)) w32) (pan R)) (pan R))

theorem T_conf_reader_targets_hl : allP (hokL Tryz.prog (hookAt [(29, H_conf_reader_targets_1)]) (bodyOf Tryz.f65) 1) = (UnitOk Tryz.prog H_conf_reader_targets_1 (at_ (bodyOf Tryz.f65) [1, 1, 0, 1]) 29 ∧ True) := by kernel_rfl

theorem T_conf_reader_targets_eq (r1 : Option Addr) (w : World) (R : Ending → World → Prop) : vcCode Tryz.prog (hookAt [(29, H_conf_reader_targets_1)]) (bodyOf Tryz.f65) 1 ⟨argEnv [.pointer r1] 0, Tryz.f65.ntmps, []⟩ w (finQ Tryz.prog Tryz.f65.results.toList R) = T_conf_reader_targets r1 w R := by kernel_rfl

theorem T_conf_reader_targets_b : Tryz.f65.body = some (bodyOf Tryz.f65) := by kernel_rfl
theorem T_conf_reader_targets_s : (quietSel (bodyOf Tryz.f65) && Nat.ble 1 Tryz.f65.ntmps) = true := by kernel_rfl

theorem C_conf_reader_targets {r1 : Option Addr} {w : World} {R : Ending → World → Prop} (h : T_conf_reader_targets r1 w R) : Calls Tryz.prog 65 #[.pointer r1] w R :=
  calls_of_text (args := [.pointer r1]) mixed Tryz.func65 T_conf_reader_targets_b T_conf_reader_targets_s (HOk_of _ _ (by rw [T_conf_reader_targets_hl]; exact ⟨T_conf_reader_targets_1_ok, trivial⟩)) (by rw [T_conf_reader_targets_eq]; exact h)

/-! (*tollgate/conf.reader).end -/
def T_conf_reader_end_1 (r3 : Option Addr) (right4g : FuncId) (right4i : Array Value) (right4c : Array Value) (w : World) (Kn : Bool → World → Prop) (Kp : List PanicEntry → World → Prop) : Prop :=
  let w5 : World := w.drew
  ∃ a6, r3 = some a6 ∧ ∃ x7 : Int, rd w5 (a6.add 2) (.int .i64 x7) ∧ if ((x7 : Int) == 0) = true then (∃ a8, r3 = some a8 ∧ ∃ x9 : Int, rd w5 (a8.add 1) (.int .i64 x9) ∧ ∃ a10, r3 = some a10 ∧ ∃ s11a : Option Addr, ∃ s11l : Nat, ∃ s11c : Nat, rd w5 a10 (.slice s11a s11l s11c) ∧ if (decide ((x9 : Int) < ((s11l : Nat) : Int))) = true then ((rd w5 a10 (.slice s11a s11l s11c) ∧ rd w5 (a6.add 2) (.int .i64 x7) ∧ True) ∧ Kn true w5) else (hasBody Tryz.prog right4g = true ∧ Calls Tryz.prog right4g ⟨right4i.toList ++ ([] ++ right4c.toList)⟩ w5 (ret (fun r12 w13 => ∃ b14 : Bool, r12 = .bool b14 ∧ (rd w13 a10 (.slice s11a s11l s11c) ∧ rd w13 (a6.add 2) (.int .i64 x7) ∧ True) ∧ Kn (!b14) w13) Kp))) else ((rd w5 (a6.add 2) (.int .i64 x7) ∧ True) ∧ Kn false w5)

def T_conf_reader_end_1_outs : Exit → Option (List (Nat × Value)) := fun x => match x with | .normal => some [(26, .bool false)] | .panic _ => some [] | _ => none

def T_conf_reader_end_1_ks : Nat → Bool := ksOf [5, 6, 7, 8, 9, 10, 11, 12, 13, 14, 15, 16, 17, 18, 19, 20, 21, 22, 23, 24, 25, 26]

def H_conf_reader_end_1 : Env → World → QT → Prop := unitHook 34 T_conf_reader_end_1_ks [(0, .pointer none), (1, .func (.func 0) #[] #[])] T_conf_reader_end_1_outs fun l w C => match l with | [v0, v1] => T_conf_reader_end_1 (pPtr v0) (pFn v1) (pFi v1) (pCa v1) w (fun b16 w => C .normal [.bool b16] w) (fun ch w => C (.panic ch) [] w) | _ => False

theorem T_conf_reader_end_1_hl : allP (hokL Tryz.prog (hookAt []) (at_ (bodyOf Tryz.f66) [1, 0, 0]) 12) = (True) := by kernel_rfl
theorem T_conf_reader_end_1_hok : HOk Tryz.prog (hookAt []) (at_ (bodyOf Tryz.f66) [1, 0, 0]) 12 := HOk_of _ _ (by rw [T_conf_reader_end_1_hl]; exact trivial)

theorem T_conf_reader_end_1_eq (C : Conts) (r3 : Option Addr) (right4g : FuncId) (right4i : Array Value) (right4c : Array Value) (w : World) : vcCode Tryz.prog (hookAt []) (at_ (bodyOf Tryz.f66) [1, 0, 0]) 12 ⟨[(0, .pointer r3), (1, .func (.func right4g) right4i right4c)], 34, []⟩ w (unitQ T_conf_reader_end_1_outs C) = T_conf_reader_end_1 r3 right4g right4i right4c w (fun b17 w => C .normal [.bool b17] w) (fun ch w => C (.panic ch) [] w) := by kernel_rfl

theorem T_conf_reader_end_1_ok : UnitOk Tryz.prog H_conf_reader_end_1 (at_ (bodyOf Tryz.f66) [1, 0, 0]) 12 := unit_ok (H := (hookAt [])) (by kernel_rfl) T_conf_reader_end_1_hok fun l w C hk => by
    obtain ⟨v0, l_v0, rfl, k_v0, hk_v0⟩ := Kinds.cons_ hk
    obtain ⟨r3, rfl⟩ := kind_pointer k_v0
    obtain ⟨v1, l_v1, rfl, k_v1, hk_v1⟩ := Kinds.cons_ hk_v0
    obtain ⟨right4g, right4i, right4c, rfl⟩ := kind_func k_v1
    obtain rfl := Kinds.nil_ hk_v1
    exact T_conf_reader_end_1_eq C r3 right4g right4i right4c w

def T_conf_reader_end (r1 : Option Addr) (right2g : FuncId) (right2i : Array Value) (right2c : Array Value) (w : World) (R : Ending → World → Prop) : Prop :=
  T_conf_reader_end_1 r1 right2g right2i right2c w (fun b18 w19 => if b18 = true then (∃ a20, r1 = some a20 ∧ (.int .i64 4 : Value).cells.size = 1 ∧ wrOk w19 (a20.add 2) (.int .i64 4) ∧ let w21 : World := wr w19 (a20.add 2) (.int .i64 4)
  ∃ a22, r1 = some a22 ∧ ∃ x23 : Int, rd w21 (a22.add 2) (.int .i64 x23) ∧ R (.returned (.int .i64 x23)) w21) else (∃ a24, r1 = some a24 ∧ ∃ x25 : Int, rd w19 (a24.add 2) (.int .i64 x25) ∧ R (.returned (.int .i64 x25)) w19)) (pan R)

theorem T_conf_reader_end_hl : allP (hokL Tryz.prog (hookAt [(12, H_conf_reader_end_1)]) (bodyOf Tryz.f66) 1) = (UnitOk Tryz.prog H_conf_reader_end_1 (at_ (bodyOf Tryz.f66) [1, 0, 0]) 12 ∧ True) := by kernel_rfl

theorem T_conf_reader_end_eq (r1 : Option Addr) (right2g : FuncId) (right2i : Array Value) (right2c : Array Value) (w : World) (R : Ending → World → Prop) : vcCode Tryz.prog (hookAt [(12, H_conf_reader_end_1)]) (bodyOf Tryz.f66) 1 ⟨argEnv [.pointer r1, .func (.func right2g) right2i right2c] 0, Tryz.f66.ntmps, []⟩ w (finQ Tryz.prog Tryz.f66.results.toList R) = T_conf_reader_end r1 right2g right2i right2c w R := by kernel_rfl

theorem T_conf_reader_end_b : Tryz.f66.body = some (bodyOf Tryz.f66) := by kernel_rfl
theorem T_conf_reader_end_s : (quietSel (bodyOf Tryz.f66) && Nat.ble 2 Tryz.f66.ntmps) = true := by kernel_rfl

theorem C_conf_reader_end {r1 : Option Addr} {right2g : FuncId} {right2i : Array Value} {right2c : Array Value} {w : World} {R : Ending → World → Prop} (h : T_conf_reader_end r1 right2g right2i right2c w R) : Calls Tryz.prog 66 #[.pointer r1, .func (.func right2g) right2i right2c] w R :=
  calls_of_text (args := [.pointer r1, .func (.func right2g) right2i right2c]) mixed Tryz.func66 T_conf_reader_end_b T_conf_reader_end_s (HOk_of _ _ (by rw [T_conf_reader_end_hl]; exact ⟨T_conf_reader_end_1_ok, trivial⟩)) (by rw [T_conf_reader_end_eq]; exact h)

/-! tollgate/conf.GetCommand$1 -/
/-! (*tollgate/tollgateref08.scan).num -/
/-! (*tollgate/tollgateref08.scan).text -/
/-! (*tollgate/tollgateref08.scan).targets -/
/-! tollgate/wire.TakeNumber -/
def T_wire_TakeNumber_1 (b3a : Option Addr) (b3l : Nat) (b3c : Nat) (at4 : Int) (w : World) (Kn : Bool → World → Prop) (Kp : List PanicEntry → World → Prop) : Prop :=
  if (decide ((at4 : Int) < 0)) = true then (Kn true w) else (Kn (decide ((at4 : Int) > ((b3l : Nat) : Int))) w)

def T_wire_TakeNumber_1_outs : Exit → Option (List (Nat × Value)) := fun x => match x with | .normal => some [(17, .bool false)] | .panic _ => some [] | _ => none

def T_wire_TakeNumber_1_ks : Nat → Bool := ksOf [10, 11, 12, 13, 14, 15, 16, 17]

def H_wire_TakeNumber_1 : Env → World → QT → Prop := unitHook 58 T_wire_TakeNumber_1_ks [(0, .slice none 0 0), (1, .int .i64 0)] T_wire_TakeNumber_1_outs fun l w C => match l with | [v0, v1] => T_wire_TakeNumber_1 (pA v0) (pL v0) (pC v0) (pInt v1) w (fun b6 w => C .normal [.bool b6] w) (fun ch w => C (.panic ch) [] w) | _ => False

theorem T_wire_TakeNumber_1_hl : allP (hokL Tryz.prog (hookAt []) (at_ (turnB 0 900001 900002 (bodyOf Tryz.f101)) [1, 0, 0]) 12) = (True) := by kernel_rfl
theorem T_wire_TakeNumber_1_hok : HOk Tryz.prog (hookAt []) (at_ (turnB 0 900001 900002 (bodyOf Tryz.f101)) [1, 0, 0]) 12 := HOk_of _ _ (by rw [T_wire_TakeNumber_1_hl]; exact trivial)

theorem T_wire_TakeNumber_1_eq (C : Conts) (b3a : Option Addr) (b3l : Nat) (b3c : Nat) (at4 : Int) (w : World) : vcCode Tryz.prog (hookAt []) (at_ (turnB 0 900001 900002 (bodyOf Tryz.f101)) [1, 0, 0]) 12 ⟨[(0, .slice b3a b3l b3c), (1, .int .i64 at4)], 58, []⟩ w (unitQ T_wire_TakeNumber_1_outs C) = T_wire_TakeNumber_1 b3a b3l b3c at4 w (fun b7 w => C .normal [.bool b7] w) (fun ch w => C (.panic ch) [] w) := by kernel_rfl

theorem T_wire_TakeNumber_1_ok : UnitOk Tryz.prog H_wire_TakeNumber_1 (at_ (turnB 0 900001 900002 (bodyOf Tryz.f101)) [1, 0, 0]) 12 := unit_ok (H := (hookAt [])) (by kernel_rfl) T_wire_TakeNumber_1_hok fun l w C hk => by
    obtain ⟨v0, l_v0, rfl, k_v0, hk_v0⟩ := Kinds.cons_ hk
    obtain ⟨b3a, b3l, b3c, rfl⟩ := kind_slice k_v0
    obtain ⟨v1, l_v1, rfl, k_v1, hk_v1⟩ := Kinds.cons_ hk_v0
    obtain ⟨at4, rfl⟩ := kind_int k_v1
    obtain rfl := Kinds.nil_ hk_v1
    exact T_wire_TakeNumber_1_eq C b3a b3l b3c at4 w

def T_wire_TakeNumber_3 (k19 : Int) (c20 : Int) (w : World) (Kn : Bool → World → Prop) (Kp : List PanicEntry → World → Prop) : Prop :=
  if ((c20 : Int) == 0) = true then (Kn (decide ((k19 : Int) > 1)) w) else (Kn false w)

def T_wire_TakeNumber_3_outs : Exit → Option (List (Nat × Value)) := fun x => match x with | .normal => some [(44, .bool false)] | .panic _ => some [] | _ => none

def T_wire_TakeNumber_3_ks : Nat → Bool := ksOf [44, 45, 46, 47, 48, 49, 50]

def H_wire_TakeNumber_3 : Env → World → QT → Prop := unitHook 58 T_wire_TakeNumber_3_ks [(8, .int .i64 0), (9, .int .i64 0)] T_wire_TakeNumber_3_outs fun l w C => match l with | [v0, v1] => T_wire_TakeNumber_3 (pInt v0) (pInt v1) w (fun b22 w => C .normal [.bool b22] w) (fun ch w => C (.panic ch) [] w) | _ => False

theorem T_wire_TakeNumber_3_hl : allP (hokL Tryz.prog (hookAt []) (at_ (turnB 0 900001 900002 (bodyOf Tryz.f101)) [1, 1, 1, 0, 0, 0, 0, 1, 1, 1, 1, 1, 0, 0, 0]) 61688) = (True) := by kernel_rfl
theorem T_wire_TakeNumber_3_hok : HOk Tryz.prog (hookAt []) (at_ (turnB 0 900001 900002 (bodyOf Tryz.f101)) [1, 1, 1, 0, 0, 0, 0, 1, 1, 1, 1, 1, 0, 0, 0]) 61688 := HOk_of _ _ (by rw [T_wire_TakeNumber_3_hl]; exact trivial)

theorem T_wire_TakeNumber_3_eq (C : Conts) (k19 : Int) (c20 : Int) (w : World) : vcCode Tryz.prog (hookAt []) (at_ (turnB 0 900001 900002 (bodyOf Tryz.f101)) [1, 1, 1, 0, 0, 0, 0, 1, 1, 1, 1, 1, 0, 0, 0]) 61688 ⟨[(8, .int .i64 k19), (9, .int .i64 c20)], 58, []⟩ w (unitQ T_wire_TakeNumber_3_outs C) = T_wire_TakeNumber_3 k19 c20 w (fun b23 w => C .normal [.bool b23] w) (fun ch w => C (.panic ch) [] w) := by kernel_rfl

theorem T_wire_TakeNumber_3_ok : UnitOk Tryz.prog H_wire_TakeNumber_3 (at_ (turnB 0 900001 900002 (bodyOf Tryz.f101)) [1, 1, 1, 0, 0, 0, 0, 1, 1, 1, 1, 1, 0, 0, 0]) 61688 := unit_ok (H := (hookAt [])) (by kernel_rfl) T_wire_TakeNumber_3_hok fun l w C hk => by
    obtain ⟨v0, l_v0, rfl, k_v0, hk_v0⟩ := Kinds.cons_ hk
    obtain ⟨k19, rfl⟩ := kind_int k_v0
    obtain ⟨v1, l_v1, rfl, k_v1, hk_v1⟩ := Kinds.cons_ hk_v0
    obtain ⟨c20, rfl⟩ := kind_int k_v1
    obtain rfl := Kinds.nil_ hk_v1
    exact T_wire_TakeNumber_3_eq C k19 c20 w

def T_wire_TakeNumber_2_body (X : Int → Int → World → Prop) (n10 : Int) (k11 : Int) (b12a : Option Addr) (b12l : Nat) (b12c : Nat) (at13 : Int) (w : World) (Kr : Int → Int → Int → World → Prop) (Kp : List PanicEntry → World → Prop)  : Prop :=
  if ((IntKind.wrap .i64 ((at13 : Int) + k11) : Int) == ((b12l : Nat) : Int)) = true then (Kr 0 0 3 w) else (0 ≤ (IntKind.wrap .i64 ((at13 : Int) + k11) : Int) ∧ (IntKind.wrap .i64 ((at13 : Int) + k11) : Int) < ((b12l : Nat) : Int) ∧ ∃ b14, b12a = some b14 ∧ ∃ x15 : Int, rd w (b14.add ((IntKind.wrap .i64 ((at13 : Int) + k11) : Int).toNat * 1)) (.int .u8 x15) ∧ runV Tryz.prog (do eqGuard .shl 3 (.tmp 33) (.tmp 35) (.int .i64 (IntKind.wrap .i64 ((BitVec.ofInt (IntKind.bits .i64) (IntKind.wrap .i64 x15)) &&& (BitVec.ofInt (IntKind.bits .i64) 127)).toNat)) (.int .i64 (IntKind.wrap .i64 ((7 : Int) * k11))); binOp .shl 3 (.int .i64 (IntKind.wrap .i64 ((BitVec.ofInt (IntKind.bits .i64) (IntKind.wrap .i64 x15)) &&& (BitVec.ofInt (IntKind.bits .i64) 127)).toNat)) (.int .i64 (IntKind.wrap .i64 ((7 : Int) * k11)))) w (fun r16 w17 => ∃ x18 : Int, r16 = .int .i64 x18 ∧ if (decide ((IntKind.wrap .i64 x15 : Int) ≥ 128)) = true then (if ((IntKind.wrap .i64 ((k11 : Int) + 1) : Int) == 6) = true then (Kr 0 0 6 w17) else (X (IntKind.wrap .i64 ((BitVec.ofInt (IntKind.bits .i64) n10) ||| (BitVec.ofInt (IntKind.bits .i64) x18)).toNat) (IntKind.wrap .i64 ((k11 : Int) + 1)) w17)) else (T_wire_TakeNumber_3 (IntKind.wrap .i64 ((k11 : Int) + 1)) (IntKind.wrap .i64 x15) w17 (fun b24 w25 => if b24 = true then (Kr 0 0 4 w25) else (if (decide ((IntKind.wrap .i64 ((BitVec.ofInt (IntKind.bits .i64) n10) ||| (BitVec.ofInt (IntKind.bits .i64) x18)).toNat : Int) > 1099511627776)) = true then (Kr 0 0 6 w25) else (Kr (IntKind.wrap .i64 ((BitVec.ofInt (IntKind.bits .i64) n10) ||| (BitVec.ofInt (IntKind.bits .i64) x18)).toNat) (IntKind.wrap .i64 ((at13 : Int) + (IntKind.wrap .i64 ((k11 : Int) + 1)))) 0 w25))) Kp)) Kp)

def T_wire_TakeNumber_2 (n10 : Int) (k11 : Int) (b12a : Option Addr) (b12l : Nat) (b12c : Nat) (at13 : Int) (w : World) (Kr : Int → Int → Int → World → Prop) (Kp : List PanicEntry → World → Prop) : Prop :=
  ∀ X : Int → Int → World → Prop, (∀ (n10 : Int) (k11 : Int) (w : World), T_wire_TakeNumber_2_body X n10 k11 b12a b12l b12c at13 w Kr Kp → X n10 k11 w) → X n10 k11 w

def T_wire_TakeNumber_2_outs : Exit → Option (List (Nat × Value)) := fun x => match x with | .ret => some [(4, .int .i64 0), (5, .int .i64 0), (6, .int .i64 0)] | .panic _ => some [] | _ => none

def T_wire_TakeNumber_2_ks : Nat → Bool := ksOf [4, 5, 6, 7, 8, 9, 18, 19, 20, 21, 22, 23, 24, 25, 26, 27, 28, 29, 30, 31, 32, 33, 34, 35, 36, 37, 38, 39, 40, 41, 42, 43, 44, 45, 46, 47, 48, 49, 50, 51, 52, 53, 54, 55, 56, 57]

def H_wire_TakeNumber_2 : Env → World → QT → Prop := unitHook 58 T_wire_TakeNumber_2_ks [(7, .int .i64 0), (8, .int .i64 0), (0, .slice none 0 0), (1, .int .i64 0)] T_wire_TakeNumber_2_outs fun l w C => match l with | [v0, v1, v2, v3] => T_wire_TakeNumber_2 (pInt v0) (pInt v1) (pA v2) (pL v2) (pC v2) (pInt v3) w (fun x29 x30 x31 w => C .ret [.int .i64 x29, .int .i64 x30, .int .i64 x31] w) (fun ch w => C (.panic ch) [] w) | _ => False

theorem T_wire_TakeNumber_2_hl : allP (hokL Tryz.prog (hookAt [(61688, H_wire_TakeNumber_3)]) (at_ (turnB 0 900001 900002 (bodyOf Tryz.f101)) [1, 1, 1, 0, 0]) 60) = (UnitOk Tryz.prog H_wire_TakeNumber_3 (at_ (turnB 0 900001 900002 (bodyOf Tryz.f101)) [1, 1, 1, 0, 0, 0, 0, 1, 1, 1, 1, 1, 0, 0, 0]) 61688 ∧ True) := by kernel_rfl
theorem T_wire_TakeNumber_2_hok : HOk Tryz.prog (hookAt [(61688, H_wire_TakeNumber_3)]) (at_ (turnB 0 900001 900002 (bodyOf Tryz.f101)) [1, 1, 1, 0, 0]) 60 := HOk_of _ _ (by rw [T_wire_TakeNumber_2_hl]; exact ⟨T_wire_TakeNumber_3_ok, trivial⟩)

theorem T_wire_TakeNumber_2_eq (C : Conts) (X : List Value → World → Prop) (n10 : Int) (k11 : Int) (b12a : Option Addr) (b12l : Nat) (b12c : Nat) (at13 : Int) (w : World) : vcCode Tryz.prog (hookAt [(61688, H_wire_TakeNumber_3)]) (at_ (turnB 0 900001 900002 (bodyOf Tryz.f101)) [1, 1, 1, 0, 0]) 60 ⟨[(7, .int .i64 n10), (8, .int .i64 k11)] ++ [(0, .slice b12a b12l b12c), (1, .int .i64 at13)], 58, []⟩ w (seqQ (fun e w => takeAll e [(7, .int .i64 0), (8, .int .i64 0)] fun l => X l w) (blockQ 900002 (unitQ T_wire_TakeNumber_2_outs C))) = T_wire_TakeNumber_2_body (fun n10 k11 w => X [.int .i64 n10, .int .i64 k11] w) n10 k11 b12a b12l b12c at13 w (fun x32 x33 x34 w => C .ret [.int .i64 x32, .int .i64 x33, .int .i64 x34] w) (fun ch w => C (.panic ch) [] w) := by kernel_rfl

theorem T_wire_TakeNumber_2_ok : UnitOk Tryz.prog H_wire_TakeNumber_2 (at_ (turnB 0 900001 900002 (bodyOf Tryz.f101)) [1, 1, 1]) 15 := by
  have hc : at_ (turnB 0 900001 900002 (bodyOf Tryz.f101)) [1, 1, 1] = .block 900002 (.loop (at_ (turnB 0 900001 900002 (bodyOf Tryz.f101)) [1, 1, 1, 0, 0])) := by kernel_rfl
  rw [hc]
  refine loop_unit_ok (carr := [(7, .int .i64 0), (8, .int .i64 0)]) (fix := [(0, .slice none 0 0), (1, .int .i64 0)]) (ks := T_wire_TakeNumber_2_ks) (H := (hookAt [(61688, H_wire_TakeNumber_3)])) (B := fun C X l u w => match l, u with | [v0, v1], [v2, v3] => T_wire_TakeNumber_2_body (fun n10 k11 w => X [.int .i64 n10, .int .i64 k11] w) (pInt v0) (pInt v1) (pA v2) (pL v2) (pC v2) (pInt v3) w (fun x35 x36 x37 w => C .ret [.int .i64 x35, .int .i64 x36, .int .i64 x37] w) (fun ch w => C (.panic ch) [] w) | _, _ => False) (by kernel_rfl) (by kernel_rfl) T_wire_TakeNumber_2_hok ?_ ?_
  · intro C X l u w hl hu
    obtain ⟨v0, l_v0, rfl, k_v0, hl_v0⟩ := Kinds.cons_ hl
    obtain ⟨n10, rfl⟩ := kind_int k_v0
    obtain ⟨v1, l_v1, rfl, k_v1, hl_v1⟩ := Kinds.cons_ hl_v0
    obtain ⟨k11, rfl⟩ := kind_int k_v1
    obtain rfl := Kinds.nil_ hl_v1
    obtain ⟨v2, l_v2, rfl, k_v2, hu_v2⟩ := Kinds.cons_ hu
    obtain ⟨b12a, b12l, b12c, rfl⟩ := kind_slice k_v2
    obtain ⟨v3, l_v3, rfl, k_v3, hu_v3⟩ := Kinds.cons_ hu_v2
    obtain ⟨at13, rfl⟩ := kind_int k_v3
    obtain rfl := Kinds.nil_ hu_v3
    exact T_wire_TakeNumber_2_eq C X n10 k11 b12a b12l b12c at13 w
  · intro l u w C hl hu
    obtain ⟨v0, l_v0, rfl, k_v0, hl_v0⟩ := Kinds.cons_ hl
    obtain ⟨n10, rfl⟩ := kind_int k_v0
    obtain ⟨v1, l_v1, rfl, k_v1, hl_v1⟩ := Kinds.cons_ hl_v0
    obtain ⟨k11, rfl⟩ := kind_int k_v1
    obtain rfl := Kinds.nil_ hl_v1
    obtain ⟨v2, l_v2, rfl, k_v2, hu_v2⟩ := Kinds.cons_ hu
    obtain ⟨b12a, b12l, b12c, rfl⟩ := kind_slice k_v2
    obtain ⟨v3, l_v3, rfl, k_v3, hu_v3⟩ := Kinds.cons_ hu_v2
    obtain ⟨at13, rfl⟩ := kind_int k_v3
    obtain rfl := Kinds.nil_ hu_v3
    constructor
    · intro h X hX
      exact h (fun n10 k11 w => X [.int .i64 n10, .int .i64 k11] w) (fun n10 k11 w hb => hX [.int .i64 n10, .int .i64 k11] w ⟨rfl, rfl, trivial⟩ hb)
    · intro h X hX
      exact h (fun l w => match l with | [v0, v1] => X (pInt v0) (pInt v1) w | _ => True) (fun l w hl hb => by
        obtain ⟨v0, l_v0, rfl, k_v0, hl_v0⟩ := Kinds.cons_ hl
        obtain ⟨n10, rfl⟩ := kind_int k_v0
        obtain ⟨v1, l_v1, rfl, k_v1, hl_v1⟩ := Kinds.cons_ hl_v0
        obtain ⟨k11, rfl⟩ := kind_int k_v1
        obtain rfl := Kinds.nil_ hl_v1
        exact hX n10 k11 w hb)

def T_wire_TakeNumber (b1a : Option Addr) (b1l : Nat) (b1c : Nat) (at2 : Int) (w : World) (R : Ending → World → Prop) : Prop :=
  T_wire_TakeNumber_1 b1a b1l b1c at2 w (fun b8 w9 => if b8 = true then (R (.returned (.tuple #[.int .i64 0, .int .i64 0, .int .i64 2])) w9) else (T_wire_TakeNumber_2 0 0 b1a b1l b1c at2 w9 (fun x38 x39 x40 w41 => R (.returned (.tuple #[.int .i64 x38, .int .i64 x39, .int .i64 x40])) w41) (pan R))) (pan R)

theorem T_wire_TakeNumber_hl : allP (hokL Tryz.prog (hookAt [(12, H_wire_TakeNumber_1), (15, H_wire_TakeNumber_2)]) (turnB 0 900001 900002 (bodyOf Tryz.f101)) 1) = (UnitOk Tryz.prog H_wire_TakeNumber_1 (at_ (turnB 0 900001 900002 (bodyOf Tryz.f101)) [1, 0, 0]) 12 ∧ UnitOk Tryz.prog H_wire_TakeNumber_2 (at_ (turnB 0 900001 900002 (bodyOf Tryz.f101)) [1, 1, 1]) 15 ∧ True) := by kernel_rfl

theorem T_wire_TakeNumber_eq (b1a : Option Addr) (b1l : Nat) (b1c : Nat) (at2 : Int) (w : World) (R : Ending → World → Prop) : vcCode Tryz.prog (hookAt [(12, H_wire_TakeNumber_1), (15, H_wire_TakeNumber_2)]) (turnB 0 900001 900002 (bodyOf Tryz.f101)) 1 ⟨argEnv [.slice b1a b1l b1c, .int .i64 at2] 0, Tryz.f101.ntmps, []⟩ w (finQ Tryz.prog Tryz.f101.results.toList R) = T_wire_TakeNumber b1a b1l b1c at2 w R := by kernel_rfl

theorem T_wire_TakeNumber_b : Tryz.f101.body = some (.seq (rOf (bodyOf Tryz.f101)) (.scope (cOf (bodyOf Tryz.f101)))) := by kernel_rfl
theorem T_wire_TakeNumber_f : findLabel (cOf (bodyOf Tryz.f101)) 0 = some (.seq .skip ((lapOf 0 (cOf (bodyOf Tryz.f101))).getD .skip)) := by kernel_rfl
theorem T_wire_TakeNumber_l : lapOf 0 (cOf (bodyOf Tryz.f101)) = some ((lapOf 0 (cOf (bodyOf Tryz.f101))).getD .skip) := by kernel_rfl

theorem T_wire_TakeNumber_s : ((quietSel (rOf (bodyOf Tryz.f101)) && quietSel (cOf (bodyOf Tryz.f101)) && quietSel ((lapOf 0 (cOf (bodyOf Tryz.f101))).getD .skip)) && (freshC 900001 ((lapOf 0 (cOf (bodyOf Tryz.f101))).getD .skip) && noExit 900001 ((lapOf 0 (cOf (bodyOf Tryz.f101))).getD .skip) && noExit 900002 ((lapOf 0 (cOf (bodyOf Tryz.f101))).getD .skip)) && Nat.ble 2 Tryz.f101.ntmps) = true := by kernel_rfl

theorem C_wire_TakeNumber {b1a : Option Addr} {b1l : Nat} {b1c : Nat} {at2 : Int} {w : World} {R : Ending → World → Prop} (h : T_wire_TakeNumber b1a b1l b1c at2 w R) : Calls Tryz.prog 101 #[.slice b1a b1l b1c, .int .i64 at2] w R :=
  calls_of_scope (args := [.slice b1a b1l b1c, .int .i64 at2]) mixed Tryz.func101 T_wire_TakeNumber_b T_wire_TakeNumber_f T_wire_TakeNumber_l T_wire_TakeNumber_s (HOk_of _ _ (show allP (hokL Tryz.prog (hookAt [(12, H_wire_TakeNumber_1), (15, H_wire_TakeNumber_2)]) (turnB 0 900001 900002 (bodyOf Tryz.f101)) 1) from by rw [T_wire_TakeNumber_hl]; exact ⟨T_wire_TakeNumber_1_ok, T_wire_TakeNumber_2_ok, trivial⟩)) (show vcCode Tryz.prog (hookAt [(12, H_wire_TakeNumber_1), (15, H_wire_TakeNumber_2)]) (turnB 0 900001 900002 (bodyOf Tryz.f101)) 1 ⟨argEnv [.slice b1a b1l b1c, .int .i64 at2] 0, Tryz.f101.ntmps, []⟩ w (finQ Tryz.prog Tryz.f101.results.toList R) from by rw [T_wire_TakeNumber_eq]; exact h)

/-! (*tollgate/conf.reader).take -/
def T_conf_reader_take_1 (r3 : Option Addr) (n4 : Int) (w : World) (Kn : Bool → World → Prop) (Kp : List PanicEntry → World → Prop) : Prop :=
  let w5 : World := w.drew
  ∃ a6, r3 = some a6 ∧ ∃ x7 : Int, rd w5 (a6.add 2) (.int .i64 x7) ∧ if ((x7 : Int) == 0) = true then (∃ a8, r3 = some a8 ∧ ∃ s9a : Option Addr, ∃ s9l : Nat, ∃ s9c : Nat, rd w5 a8 (.slice s9a s9l s9c) ∧ ∃ a10, r3 = some a10 ∧ ∃ x11 : Int, rd w5 (a10.add 1) (.int .i64 x11) ∧ Kn (decide ((IntKind.wrap .i64 (((s9l : Nat) : Int) - x11) : Int) < n4)) w5) else (Kn false w5)

def T_conf_reader_take_1_outs : Exit → Option (List (Nat × Value)) := fun x => match x with | .normal => some [(23, .bool false)] | .panic _ => some [] | _ => none

def T_conf_reader_take_1_ks : Nat → Bool := ksOf [5, 6, 7, 8, 9, 10, 11, 12, 13, 14, 15, 16, 17, 18, 19, 20, 21, 22, 23]

def H_conf_reader_take_1 : Env → World → QT → Prop := unitHook 55 T_conf_reader_take_1_ks [(0, .pointer none), (1, .int .i64 0)] T_conf_reader_take_1_outs fun l w C => match l with | [v0, v1] => T_conf_reader_take_1 (pPtr v0) (pInt v1) w (fun b13 w => C .normal [.bool b13] w) (fun ch w => C (.panic ch) [] w) | _ => False

theorem T_conf_reader_take_1_hl : allP (hokL Tryz.prog (hookAt []) (at_ (bodyOf Tryz.f102) [1, 0, 0]) 12) = (True) := by kernel_rfl
theorem T_conf_reader_take_1_hok : HOk Tryz.prog (hookAt []) (at_ (bodyOf Tryz.f102) [1, 0, 0]) 12 := HOk_of _ _ (by rw [T_conf_reader_take_1_hl]; exact trivial)

theorem T_conf_reader_take_1_eq (C : Conts) (r3 : Option Addr) (n4 : Int) (w : World) : vcCode Tryz.prog (hookAt []) (at_ (bodyOf Tryz.f102) [1, 0, 0]) 12 ⟨[(0, .pointer r3), (1, .int .i64 n4)], 55, []⟩ w (unitQ T_conf_reader_take_1_outs C) = T_conf_reader_take_1 r3 n4 w (fun b14 w => C .normal [.bool b14] w) (fun ch w => C (.panic ch) [] w) := by kernel_rfl

theorem T_conf_reader_take_1_ok : UnitOk Tryz.prog H_conf_reader_take_1 (at_ (bodyOf Tryz.f102) [1, 0, 0]) 12 := unit_ok (H := (hookAt [])) (by kernel_rfl) T_conf_reader_take_1_hok fun l w C hk => by
    obtain ⟨v0, l_v0, rfl, k_v0, hk_v0⟩ := Kinds.cons_ hk
    obtain ⟨r3, rfl⟩ := kind_pointer k_v0
    obtain ⟨v1, l_v1, rfl, k_v1, hk_v1⟩ := Kinds.cons_ hk_v0
    obtain ⟨n4, rfl⟩ := kind_int k_v1
    obtain rfl := Kinds.nil_ hk_v1
    exact T_conf_reader_take_1_eq C r3 n4 w

def T_conf_reader_take_2 (r17 : Option Addr) (b18 : Bool) (w : World) (Kn : World → Prop) (Kp : List PanicEntry → World → Prop) : Prop :=
  if b18 = true then (∃ a19, r17 = some a19 ∧ (.int .i64 3 : Value).cells.size = 1 ∧ wrOk w (a19.add 2) (.int .i64 3) ∧ let w20 : World := wr w (a19.add 2) (.int .i64 3)
  Kn  w20) else (Kn  w)

def T_conf_reader_take_2_outs : Exit → Option (List (Nat × Value)) := fun x => match x with | .normal => some [] | .panic _ => some [] | _ => none

def T_conf_reader_take_2_ks : Nat → Bool := ksOf [24, 25, 26]

def H_conf_reader_take_2 : Env → World → QT → Prop := unitHook 55 T_conf_reader_take_2_ks [(0, .pointer none), (23, .bool false)] T_conf_reader_take_2_outs fun l w C => match l with | [v0, v1] => T_conf_reader_take_2 (pPtr v0) (pBool v1) w (fun w => C .normal [] w) (fun ch w => C (.panic ch) [] w) | _ => False

theorem T_conf_reader_take_2_hl : allP (hokL Tryz.prog (hookAt []) (at_ (bodyOf Tryz.f102) [1, 0, 1]) 13) = (True) := by kernel_rfl
theorem T_conf_reader_take_2_hok : HOk Tryz.prog (hookAt []) (at_ (bodyOf Tryz.f102) [1, 0, 1]) 13 := HOk_of _ _ (by rw [T_conf_reader_take_2_hl]; exact trivial)

theorem T_conf_reader_take_2_eq (C : Conts) (r17 : Option Addr) (b18 : Bool) (w : World) : vcCode Tryz.prog (hookAt []) (at_ (bodyOf Tryz.f102) [1, 0, 1]) 13 ⟨[(0, .pointer r17), (23, .bool b18)], 55, []⟩ w (unitQ T_conf_reader_take_2_outs C) = T_conf_reader_take_2 r17 b18 w (fun w => C .normal [] w) (fun ch w => C (.panic ch) [] w) := by kernel_rfl

theorem T_conf_reader_take_2_ok : UnitOk Tryz.prog H_conf_reader_take_2 (at_ (bodyOf Tryz.f102) [1, 0, 1]) 13 := unit_ok (H := (hookAt [])) (by kernel_rfl) T_conf_reader_take_2_hok fun l w C hk => by
    obtain ⟨v0, l_v0, rfl, k_v0, hk_v0⟩ := Kinds.cons_ hk
    obtain ⟨r17, rfl⟩ := kind_pointer k_v0
    obtain ⟨v1, l_v1, rfl, k_v1, hk_v1⟩ := Kinds.cons_ hk_v0
    obtain ⟨b18, rfl⟩ := kind_bool k_v1
    obtain rfl := Kinds.nil_ hk_v1
    exact T_conf_reader_take_2_eq C r17 b18 w

def T_conf_reader_take (r1 : Option Addr) (n2 : Int) (w : World) (R : Ending → World → Prop) : Prop :=
  T_conf_reader_take_1 r1 n2 w (fun b15 w16 => T_conf_reader_take_2 r1 b15 w16 (fun w21 => ∃ a22, r1 = some a22 ∧ ∃ x23 : Int, rd w21 (a22.add 2) (.int .i64 x23) ∧ if ((x23 : Int) != 0) = true then (R (.returned (.slice none 0 0)) w21) else (∃ a24, r1 = some a24 ∧ ∃ x25 : Int, rd w21 (a24.add 1) (.int .i64 x25) ∧ ∃ a26, r1 = some a26 ∧ (.int .i64 (IntKind.wrap .i64 ((x25 : Int) + n2)) : Value).cells.size = 1 ∧ wrOk w21 (a26.add 1) (.int .i64 (IntKind.wrap .i64 ((x25 : Int) + n2))) ∧ let w27 : World := wr w21 (a26.add 1) (.int .i64 (IntKind.wrap .i64 ((x25 : Int) + n2)))
  let w28 : World := w27.drew
  ∃ a29, r1 = some a29 ∧ ∃ s30a : Option Addr, ∃ s30l : Nat, ∃ s30c : Nat, rd w28 a29 (.slice s30a s30l s30c) ∧ ∃ a31, r1 = some a31 ∧ ∃ x32 : Int, rd w28 (a31.add 1) (.int .i64 x32) ∧ ∃ a33, r1 = some a33 ∧ ∃ x34 : Int, rd w28 (a33.add 1) (.int .i64 x34) ∧ 0 ≤ (x34 : Int) ∧ (x34 : Int) ≤ ((s30c : Nat) : Int) ∧ 0 ≤ (IntKind.wrap .i64 ((x32 : Int) - n2) : Int) ∧ (IntKind.wrap .i64 ((x32 : Int) - n2) : Int) ≤ (((x34 : Int).toNat : Nat) : Int) ∧ R (.returned (.slice (if s30c = ((IntKind.wrap .i64 ((x32 : Int) - n2) : Int).toNat) then s30a else s30a.map (fun x => x.add (((IntKind.wrap .i64 ((x32 : Int) - n2) : Int).toNat) * 1))) (((x34 : Int).toNat) - ((IntKind.wrap .i64 ((x32 : Int) - n2) : Int).toNat)) (s30c - ((IntKind.wrap .i64 ((x32 : Int) - n2) : Int).toNat)))) w28)) (pan R)) (pan R)

theorem T_conf_reader_take_hl : allP (hokL Tryz.prog (hookAt [(12, H_conf_reader_take_1), (13, H_conf_reader_take_2)]) (bodyOf Tryz.f102) 1) = (UnitOk Tryz.prog H_conf_reader_take_1 (at_ (bodyOf Tryz.f102) [1, 0, 0]) 12 ∧ UnitOk Tryz.prog H_conf_reader_take_2 (at_ (bodyOf Tryz.f102) [1, 0, 1]) 13 ∧ True) := by kernel_rfl

theorem T_conf_reader_take_eq (r1 : Option Addr) (n2 : Int) (w : World) (R : Ending → World → Prop) : vcCode Tryz.prog (hookAt [(12, H_conf_reader_take_1), (13, H_conf_reader_take_2)]) (bodyOf Tryz.f102) 1 ⟨argEnv [.pointer r1, .int .i64 n2] 0, Tryz.f102.ntmps, []⟩ w (finQ Tryz.prog Tryz.f102.results.toList R) = T_conf_reader_take r1 n2 w R := by kernel_rfl

theorem T_conf_reader_take_b : Tryz.f102.body = some (bodyOf Tryz.f102) := by kernel_rfl
theorem T_conf_reader_take_s : (quietSel (bodyOf Tryz.f102) && Nat.ble 2 Tryz.f102.ntmps) = true := by kernel_rfl

theorem C_conf_reader_take {r1 : Option Addr} {n2 : Int} {w : World} {R : Ending → World → Prop} (h : T_conf_reader_take r1 n2 w R) : Calls Tryz.prog 102 #[.pointer r1, .int .i64 n2] w R :=
  calls_of_text (args := [.pointer r1, .int .i64 n2]) mixed Tryz.func102 T_conf_reader_take_b T_conf_reader_take_s (HOk_of _ _ (by rw [T_conf_reader_take_hl]; exact ⟨T_conf_reader_take_1_ok, T_conf_reader_take_2_ok, trivial⟩)) (by rw [T_conf_reader_take_eq]; exact h)

/-! (*tollgate/conf.reader).float -/
def T_conf_reader_float_1_body (X : Int → Int → World → Prop) (n5 : Int) (x6 : Int) (s7a : Option Addr) (s7l : Nat) (s7c : Nat) (x8 : Int) (w : World) (Kn : Int → World → Prop) (Kp : List PanicEntry → World → Prop)  : Prop :=
  if (decide ((x6 : Int) < x8)) = true then (0 ≤ (x6 : Int) ∧ (x6 : Int) < ((s7l : Nat) : Int) ∧ ∃ b9, s7a = some b9 ∧ ∃ x10 : Int, rd w (b9.add ((x6 : Int).toNat * 1)) (.int .u8 x10) ∧ X (IntKind.wrap .u64 ((BitVec.ofInt (IntKind.bits .u64) (IntKind.wrap .u64 ((n5 : Int) * 2 ^ 8))) ||| (BitVec.ofInt (IntKind.bits .u64) (IntKind.wrap .u64 x10))).toNat) (IntKind.wrap .i64 ((x6 : Int) + 1)) w) else (Kn n5 w)

def T_conf_reader_float_1 (n5 : Int) (x6 : Int) (s7a : Option Addr) (s7l : Nat) (s7c : Nat) (x8 : Int) (w : World) (Kn : Int → World → Prop) (Kp : List PanicEntry → World → Prop) : Prop :=
  ∀ X : Int → Int → World → Prop, (∀ (n5 : Int) (x6 : Int) (w : World), T_conf_reader_float_1_body X n5 x6 s7a s7l s7c x8 w Kn Kp → X n5 x6 w) → X n5 x6 w

def T_conf_reader_float_1_outs : Exit → Option (List (Nat × Value)) := fun x => match x with | .normal => some [(3, .int .u64 0)] | .panic _ => some [] | _ => none

def T_conf_reader_float_1_ks : Nat → Bool := ksOf [3, 5, 9, 10, 11, 12, 13, 14, 15, 16, 17, 18]

def H_conf_reader_float_1 : Env → World → QT → Prop := unitHook 21 T_conf_reader_float_1_ks [(3, .int .u64 0), (9, .int .i64 0), (7, .slice none 0 0), (8, .int .i64 0)] T_conf_reader_float_1_outs fun l w C => match l with | [v0, v1, v2, v3] => T_conf_reader_float_1 (pInt v0) (pInt v1) (pA v2) (pL v2) (pC v2) (pInt v3) w (fun n12 w => C .normal [.int .u64 n12] w) (fun ch w => C (.panic ch) [] w) | _ => False

theorem T_conf_reader_float_1_hl : allP (hokL Tryz.prog (hookAt []) (at_ (bodyOf Tryz.f103) [1, 1, 0, 1, 0, 0]) 116) = (True) := by kernel_rfl
theorem T_conf_reader_float_1_hok : HOk Tryz.prog (hookAt []) (at_ (bodyOf Tryz.f103) [1, 1, 0, 1, 0, 0]) 116 := HOk_of _ _ (by rw [T_conf_reader_float_1_hl]; exact trivial)

theorem T_conf_reader_float_1_eq (C : Conts) (X : List Value → World → Prop) (n5 : Int) (x6 : Int) (s7a : Option Addr) (s7l : Nat) (s7c : Nat) (x8 : Int) (w : World) : vcCode Tryz.prog (hookAt []) (at_ (bodyOf Tryz.f103) [1, 1, 0, 1, 0, 0]) 116 ⟨[(3, .int .u64 n5), (9, .int .i64 x6)] ++ [(7, .slice s7a s7l s7c), (8, .int .i64 x8)], 21, []⟩ w (seqQ (fun e w => takeAll e [(3, .int .u64 0), (9, .int .i64 0)] fun l => X l w) (blockQ 0 (unitQ T_conf_reader_float_1_outs C))) = T_conf_reader_float_1_body (fun n5 x6 w => X [.int .u64 n5, .int .i64 x6] w) n5 x6 s7a s7l s7c x8 w (fun n13 w => C .normal [.int .u64 n13] w) (fun ch w => C (.panic ch) [] w) := by kernel_rfl

theorem T_conf_reader_float_1_ok : UnitOk Tryz.prog H_conf_reader_float_1 (at_ (bodyOf Tryz.f103) [1, 1, 0, 1]) 29 := by
  have hc : at_ (bodyOf Tryz.f103) [1, 1, 0, 1] = .block 0 (.loop (at_ (bodyOf Tryz.f103) [1, 1, 0, 1, 0, 0])) := by kernel_rfl
  rw [hc]
  refine loop_unit_ok (carr := [(3, .int .u64 0), (9, .int .i64 0)]) (fix := [(7, .slice none 0 0), (8, .int .i64 0)]) (ks := T_conf_reader_float_1_ks) (H := (hookAt [])) (B := fun C X l u w => match l, u with | [v0, v1], [v2, v3] => T_conf_reader_float_1_body (fun n5 x6 w => X [.int .u64 n5, .int .i64 x6] w) (pInt v0) (pInt v1) (pA v2) (pL v2) (pC v2) (pInt v3) w (fun n14 w => C .normal [.int .u64 n14] w) (fun ch w => C (.panic ch) [] w) | _, _ => False) (by kernel_rfl) (by kernel_rfl) T_conf_reader_float_1_hok ?_ ?_
  · intro C X l u w hl hu
    obtain ⟨v0, l_v0, rfl, k_v0, hl_v0⟩ := Kinds.cons_ hl
    obtain ⟨n5, rfl⟩ := kind_int k_v0
    obtain ⟨v1, l_v1, rfl, k_v1, hl_v1⟩ := Kinds.cons_ hl_v0
    obtain ⟨x6, rfl⟩ := kind_int k_v1
    obtain rfl := Kinds.nil_ hl_v1
    obtain ⟨v2, l_v2, rfl, k_v2, hu_v2⟩ := Kinds.cons_ hu
    obtain ⟨s7a, s7l, s7c, rfl⟩ := kind_slice k_v2
    obtain ⟨v3, l_v3, rfl, k_v3, hu_v3⟩ := Kinds.cons_ hu_v2
    obtain ⟨x8, rfl⟩ := kind_int k_v3
    obtain rfl := Kinds.nil_ hu_v3
    exact T_conf_reader_float_1_eq C X n5 x6 s7a s7l s7c x8 w
  · intro l u w C hl hu
    obtain ⟨v0, l_v0, rfl, k_v0, hl_v0⟩ := Kinds.cons_ hl
    obtain ⟨n5, rfl⟩ := kind_int k_v0
    obtain ⟨v1, l_v1, rfl, k_v1, hl_v1⟩ := Kinds.cons_ hl_v0
    obtain ⟨x6, rfl⟩ := kind_int k_v1
    obtain rfl := Kinds.nil_ hl_v1
    obtain ⟨v2, l_v2, rfl, k_v2, hu_v2⟩ := Kinds.cons_ hu
    obtain ⟨s7a, s7l, s7c, rfl⟩ := kind_slice k_v2
    obtain ⟨v3, l_v3, rfl, k_v3, hu_v3⟩ := Kinds.cons_ hu_v2
    obtain ⟨x8, rfl⟩ := kind_int k_v3
    obtain rfl := Kinds.nil_ hu_v3
    constructor
    · intro h X hX
      exact h (fun n5 x6 w => X [.int .u64 n5, .int .i64 x6] w) (fun n5 x6 w hb => hX [.int .u64 n5, .int .i64 x6] w ⟨rfl, rfl, trivial⟩ hb)
    · intro h X hX
      exact h (fun l w => match l with | [v0, v1] => X (pInt v0) (pInt v1) w | _ => True) (fun l w hl hb => by
        obtain ⟨v0, l_v0, rfl, k_v0, hl_v0⟩ := Kinds.cons_ hl
        obtain ⟨n5, rfl⟩ := kind_int k_v0
        obtain ⟨v1, l_v1, rfl, k_v1, hl_v1⟩ := Kinds.cons_ hl_v0
        obtain ⟨x6, rfl⟩ := kind_int k_v1
        obtain rfl := Kinds.nil_ hl_v1
        exact hX n5 x6 w hb)

def T_conf_reader_float (r1 : Option Addr) (w : World) (R : Ending → World → Prop) : Prop :=
  Calls Tryz.prog 102 #[.pointer r1, .int .i64 8] w (ret (fun r2 w3 => ∃ s4a : Option Addr, ∃ s4l : Nat, ∃ s4c : Nat, r2 = .slice s4a s4l s4c ∧ T_conf_reader_float_1 0 0 s4a s4l s4c ((s4l : Nat) : Int) w3 (fun n15 w16 => runV Tryz.prog (callFunc 106 #[.int .u64 n15]) w16 (nxv (fun r17 w18 => ∃ f19 : Nat, r17 = .float .f64 f19 ∧ R (.returned (.float .f64 f19)) w18)) (pan R)) (pan R)) (pan R))

theorem T_conf_reader_float_hl : allP (hokL Tryz.prog (hookAt [(29, H_conf_reader_float_1)]) (bodyOf Tryz.f103) 1) = (UnitOk Tryz.prog H_conf_reader_float_1 (at_ (bodyOf Tryz.f103) [1, 1, 0, 1]) 29 ∧ True) := by kernel_rfl

theorem T_conf_reader_float_eq (r1 : Option Addr) (w : World) (R : Ending → World → Prop) : vcCode Tryz.prog (hookAt [(29, H_conf_reader_float_1)]) (bodyOf Tryz.f103) 1 ⟨argEnv [.pointer r1] 0, Tryz.f103.ntmps, []⟩ w (finQ Tryz.prog Tryz.f103.results.toList R) = T_conf_reader_float r1 w R := by kernel_rfl

theorem T_conf_reader_float_b : Tryz.f103.body = some (bodyOf Tryz.f103) := by kernel_rfl
theorem T_conf_reader_float_s : (quietSel (bodyOf Tryz.f103) && Nat.ble 1 Tryz.f103.ntmps) = true := by kernel_rfl

theorem C_conf_reader_float {r1 : Option Addr} {w : World} {R : Ending → World → Prop} (h : T_conf_reader_float r1 w R) : Calls Tryz.prog 103 #[.pointer r1] w R :=
  calls_of_text (args := [.pointer r1]) mixed Tryz.func103 T_conf_reader_float_b T_conf_reader_float_s (HOk_of _ _ (by rw [T_conf_reader_float_hl]; exact ⟨T_conf_reader_float_1_ok, trivial⟩)) (by rw [T_conf_reader_float_eq]; exact h)

/-! tollgate/tollgateref02.TakeNumber -/
/-! (*tollgate/tollgateref08.scan).row -/
end Go.Proofs.YtcpmfjclkdjfmaaGreat

/-
  Bytes that are gone through: the program's reader and the document's scan.
-/
namespace Go.Vc
open Go Go.Proofs Go.Proofs.YtcpmfjclkdjfmaaGreat
set_option maxRecDepth 100000

/-- Bytes that are read from, known for good. -/
structure Src (F : Fz) (q : Sl) (b : Cm.Bs) : Prop where
  rd : RdF F q.1 q.2.1 1 (bytesV b)
  len : b.length = q.2.1
  cap : q.2.1 ≤ q.2.2
  big : b.length ≤ 9223372036854775807
theorem Src.mono {F G : Fz} {q : Sl} {b : Cm.Bs} (h : Src F q b) (k : Fz.le F G) : Src G q b := ⟨h.rd.mono k, h.len, h.cap, h.big⟩
/-- The number that stands at a place, as the functions tell it. -/
def tkR (n0 : Nat) (x : Except Int (Nat × Cm.Bs)) : Int × Int × Int := match x with
  | .error e => (0, 0, e)
  | .ok (n, r) => (n, (n0 - r.length : Nat), 0)
def rdrL (q : Sl) (at_ : Nat) (e : Int) : List Value := [.slice q.1 q.2.1 q.2.2, .int .i64 (at_ : Int), .int .i64 e]
def rdrOk (b : Cm.Bs) (at_ : Nat) (e : Int) : Cm.Ps → Prop
  | .ok r => e = 0 ∧ at_ ≤ b.length ∧ r = b.drop at_
  | .error x => e = x ∧ x ≠ 0
def rdrA (ty p : Nat) (q : Sl) (b : Cm.Bs) (st : Cm.Ps) : Asrt := fun h => ∃ (at_ : Nat) (e : Int), rdrOk b at_ e st ∧ blkL p ty (rdrL q at_ e) h

section
variable {E w : World} {L : List Asrt} {R : Ending → World → Prop} {F : Fz} {q : Sl} {b : Cm.Bs} {st : Cm.Ps} {p ty : Nat}
theorem St.rdr_open (h : St E (rdrA ty p q b st :: L) w) : ∃ (at_ : Nat) (e : Int), rdrOk b at_ e st ∧ St E (blkL p ty (rdrL q at_ e) :: L) w := by
  obtain ⟨en, x, ⟨h1, h2, d, rfl, ⟨a, e, ho, hs⟩, hL⟩, hl⟩ := h
  exact ⟨a, e, ho, en, _, ⟨h1, h2, d, rfl, hs, hL⟩, hl⟩
theorem St.rdr_mk {at_ : Nat} {e : Int} (h : St E (blkL p ty (rdrL q at_ e) :: L) w) (ho : rdrOk b at_ e st) : St E (rdrA ty p q b st :: L) w := h.mono fun _ hx => ⟨at_, e, ho, hx⟩
theorem St.rdr_new (h : St E L w) (ty : Nat) (q : Sl) (b : Cm.Bs) : St E (rdrA ty w.heap.size q b (.ok b) :: L) (w.alloc (.cells ⟨rdrL q 0 0⟩ ty)) :=
  St.rdr_mk (at_ := 0) (e := 0) (h.alloc _) ⟨rfl, Nat.zero_le _, rfl⟩

/-! ### one number -/
theorem run_shl (t : TypeId) (x y : Operand) {v n : Nat} (hn : n < 64) : (do eqGuard .shl t x y (.int .i64 (v : Int)) (.int .i64 (n : Int)); binOp .shl t (.int .i64 (v : Int)) (.int .i64 (n : Int)) : Sem Value).run Tryz.prog w = .ok (.int .i64 (IntKind.wrap .i64 ((v * 2 ^ n : Nat) : Int))) w := by
  have e : min (n : Int).toNat (IntKind.bits .i64) = n := by rw [Int.toNat_natCast]; exact Nat.min_eq_left (by show n ≤ 64; omega)
  have h0 : ¬ ((n : Int) < 0) := by omega
  simp only [eqGuard, binOp, Op.shift]
  rw [if_neg h0, e]
  simp
theorem byte_at (hs : Src F q b) (hm : kn F ∈ L) (h : St E L w) {i : Nat} (hi : i < b.length) : ∃ ad, q.1 = some ad ∧ rd w (ad.add (i * 1)) (.int .u8 (b[i].toNat : Int)) := by
  have hr := hs.rd.at h hm
  obtain ⟨ad, ha, _, hc⟩ := hr.cells (by have := hs.len; omega)
  refine ⟨ad, ha, ?_⟩
  rw [Nat.mul_one]
  exact hr.rd_cell ha (by have := hs.len; omega) (v := .int .u8 (b[i].toNat : Int)) (by simp [bytesV, hi]) rfl
theorem takeGo_cons (j n : Nat) (c : UInt8) (r : Cm.Bs) : Cm.takeGo j n (c :: r) = if 128 ≤ c.toNat then (if j = 5 then .error 6 else Cm.takeGo (j + 1) (n + c.toNat % 128 * 128 ^ j) r)
    else if c.toNat = 0 ∧ 0 < j then .error 4 else if 1099511627776 < n + c.toNat % 128 * 128 ^ j then .error 6 else .ok (n + c.toNat % 128 * 128 ^ j, r) := rfl
theorem pow7 (k : Nat) (_h : k ≤ 5) : 128 ^ k = 2 ^ (7 * k) := by rw [show 128 = 2 ^ 7 from rfl, ← Nat.pow_mul]
theorem TakeNumber_spec {at_ : Nat} (hs : Src F q b) (hm : kn F ∈ L) (h : St E L w) (ha : at_ ≤ b.length)
    (k : ∀ w', St E L w' → R (.returned (.tuple #[.int .i64 (tkR b.length (Cm.takeGo 0 0 (b.drop at_))).1, .int .i64 (tkR b.length (Cm.takeGo 0 0 (b.drop at_))).2.1, .int .i64 (tkR b.length (Cm.takeGo 0 0 (b.drop at_))).2.2])) w') :
    Calls Tryz.prog 101 #[.slice q.1 q.2.1 q.2.2, .int .i64 (at_ : Int)] w R := by
  have hlen := hs.len
  have hbig := hs.big
  refine C_wire_TakeNumber ?_
  unfold T_wire_TakeNumber T_wire_TakeNumber_1
  refine ite_d (fun h1 => absurd h1 (by omega)) fun _ => ite_d (fun h1 => absurd h1 (by omega)) fun _ => ?_
  unfold T_wire_TakeNumber_2
  intro X hX
  have go : ∀ (r : Cm.Bs) (j n : Nat), r = b.drop (at_ + j) → j ≤ 5 → n < 2 ^ (7 * j) → at_ + j ≤ b.length → Cm.takeGo 0 0 (b.drop at_) = Cm.takeGo j n r → X (n : Int) (j : Int) w := by
    intro r
    induction r with
    | nil =>
      intro j n hr hj hn hle he
      refine hX _ _ _ ?_
      unfold T_wire_TakeNumber_2_body
      have : at_ + j = b.length := by have := congrArg List.length hr; simp at this; omega
      rw [show ((at_ : Int) + (j : Int)) = ((at_ + j : Nat) : Int) from by omega, wrap_nat (by omega), eq_dec]
      refine ite_d (fun _ => ?_) (fun hh => absurd hh (by omega))
      have := k w h
      rw [he] at this
      exact this
    | cons c r ih =>
      intro j n hr hj hn hle he
      refine hX _ _ _ ?_
      unfold T_wire_TakeNumber_2_body
      have hlt : at_ + j < b.length := by have := congrArg List.length hr; simp at this; omega
      have hd := List.drop_eq_getElem_cons hlt
      rw [← hr] at hd
      injection hd with hc hr2
      rw [show ((at_ : Int) + (j : Int)) = ((at_ + j : Nat) : Int) from by omega, wrap_nat (n := at_ + j) (by omega), eq_dec]
      refine ite_d (fun hh => absurd hh (by omega)) (fun _ => ?_)
      obtain ⟨ad, had, hrd⟩ := byte_at hs hm h hlt
      rw [← hc] at hrd
      have h256 := c.toNat_lt
      have hk := k w h
      rw [he] at hk
      refine ⟨by omega, by omega, ad, had, (c.toNat : Int), by rw [Int.toNat_natCast]; exact hrd, ?_⟩
      rw [wrap_nat (n := c.toNat) (by omega), and127 _ (by omega), wrap_nat (n := c.toNat % 128) (by omega), show (7 : Int) * (j : Int) = ((7 * j : Nat) : Int) from by omega, wrap_nat (n := 7 * j) (by omega)]
      have hp : 2 ^ (7 * j) ≤ 34359738368 := Nat.le_trans (Nat.pow_le_pow_right (by decide) (by omega : 7 * j ≤ 35)) (by decide)
      have hmul : c.toNat % 128 * 2 ^ (7 * j) ≤ 127 * 34359738368 := Nat.mul_le_mul (by omega) hp
      refine runV_ok (run_shl _ _ _ (by omega)) ⟨_, rfl, ?_⟩
      rw [wrap_nat (n := c.toNat % 128 * 2 ^ (7 * j)) (by omega), or_add hn (by omega), show ((j : Int) + 1) = ((j + 1 : Nat) : Int) from by omega, wrap_nat (n := j + 1) (by omega)]
      rw [← pow7 j hj]
      rw [takeGo_cons] at hk he
      refine ite_d (fun hc1 => ?_) (fun hc1 => ?_)
      · rw [if_pos (by omega)] at hk he
        rw [eq_dec]
        refine ite_d (fun h5 => ?_) (fun h5 => ?_)
        · rw [if_pos (by omega)] at hk
          exact hk
        · rw [if_neg (by omega)] at he
          refine ih (j + 1) _ hr2 (by omega) ?_ (by omega) he
          rw [pow7 j hj, show 7 * (j + 1) = 7 * j + 7 from by omega, Nat.pow_add]
          have : c.toNat % 128 * 2 ^ (7 * j) ≤ 127 * 2 ^ (7 * j) := Nat.mul_le_mul_right _ (by omega)
          omega
      · rw [if_neg (by omega)] at hk
        unfold T_wire_TakeNumber_3
        rw [eq_dec]
        have tail : ¬ (c.toNat = 0 ∧ 0 < j) → (if decide ((((n + c.toNat % 128 * 128 ^ j : Nat) : Int)) > 1099511627776) = true then R (.returned (.tuple #[.int .i64 0, .int .i64 0, .int .i64 6])) w else
            R (.returned (.tuple #[.int .i64 ((n + c.toNat % 128 * 128 ^ j : Nat) : Int), .int .i64 (IntKind.wrap .i64 ((at_ : Int) + ((j + 1 : Nat) : Int))), .int .i64 0])) w) := fun hz => by
          rw [if_neg hz] at hk
          refine ite_d (fun h6 => ?_) (fun h6 => ?_)
          · rw [if_pos (by omega)] at hk
            exact hk
          · rw [if_neg (by omega)] at hk
            rw [show ((at_ : Int) + ((j + 1 : Nat) : Int)) = ((at_ + (j + 1) : Nat) : Int) from by omega, wrap_nat (n := at_ + (j + 1)) (by omega)]
            have e : b.length - r.length = at_ + (j + 1) := by rw [hr2, List.length_drop]; omega
            simp only [tkR, e] at hk
            exact hk
        refine ite_d (fun h0 => ite_d (fun h2 => ?_) (fun h2 => tail (by omega))) (fun h0 => tail (by omega))
        rw [if_pos (by omega)] at hk
        exact hk
  exact go (b.drop at_) 0 0 rfl (by omega) (by decide) (by omega) rfl
theorem takeGo_rest : ∀ (r : Cm.Bs) (j n m : Nat) (r' : Cm.Bs), Cm.takeGo j n r = .ok (m, r') → ∃ i, r' = r.drop i ∧ i ≤ r.length
  | [], _, _, _, _, h => by simp [Cm.takeGo] at h
  | c :: r, j, n, m, r', h => by
    unfold Cm.takeGo at h
    split at h
    · split at h
      · cases h
      · obtain ⟨i, h1, h2⟩ := takeGo_rest r _ _ m r' h
        exact ⟨i + 1, by simpa using h1, by simpa using h2⟩
    · split at h
      · cases h
      · split at h
        · cases h
        · injection h with h; injection h with h1 h2
          exact ⟨1, by simpa using h2.symm, by simp⟩
theorem takeGo_err : ∀ (r : Cm.Bs) (j n : Nat) (e : Int), Cm.takeGo j n r = .error e → e ≠ 0
  | [], _, _, e, h => by simp [Cm.takeGo] at h; omega
  | c :: r, j, n, e, h => by
    unfold Cm.takeGo at h
    split at h
    · split at h
      · injection h with h; omega
      · exact takeGo_err r _ _ e h
    · split at h
      · injection h with h; omega
      · split at h
        · injection h with h; omega
        · cases h

/-! ### the reader's steps -/
theorem rnum_spec {most : Nat} (hs : Src F q b) (hm : kn F ∈ L) (h : St E (rdrA 116 p q b st :: L) w)
    (k : ∀ w', St E (rdrA 116 p q b (Cm.rNum most st).2 :: L) w' → R (.returned (.int .i64 ((Cm.rNum most st).1 : Int))) w') : Calls Tryz.prog 63 #[.pointer (some ⟨p, 0, none⟩), .int .i64 (most : Int)] w R := by
  obtain ⟨a, e, ho, h0⟩ := h.rdr_open
  refine C_conf_reader_num ?_
  unfold T_conf_reader_num
  refine ⟨_, rfl, _, rd_fld h0.at_blk rfl rfl, ?_⟩
  rw [ne_dec]
  cases st with
  | error x =>
    obtain ⟨rfl, hx⟩ := ho
    exact ite_d (fun _ => k w h) fun hh => absurd hx hh
  | ok r =>
    obtain ⟨rfl, hab, rfl⟩ := ho
    refine ite_d (fun hh => absurd rfl hh) fun _ => ?_
    intro w5
    have h5 := h0.drew
    refine ⟨_, rfl, _, _, _, rd_cell h5.at_blk rfl rfl, _, rfl, _, rd_fld h5.at_blk rfl rfl, TakeNumber_spec hs (List.mem_cons_of_mem _ hm) h5 hab fun w1 h1 => ⟨_, _, _, rfl, trivial, ?_⟩⟩
    unfold T_conf_reader_num_1 T_conf_reader_num_2
    cases ht : Cm.takeGo 0 0 (b.drop a) with
    | error x =>
      have hx := takeGo_err _ _ _ _ ht
      have hk := k
      simp only [Cm.rNum, ht] at hk
      simp only [tkR, eq_dec, ne_dec]
      refine ite_d (fun hh => absurd hh hx) fun _ => ite_b (fun hh => by cases hh) fun _ => ite_d (fun _ => ⟨_, rfl, rfl, wrOk_fld h1.at_blk (by simp [rdrL]) rfl, hk _ (St.rdr_mk (at_ := a) (e := x) (h1.wr_fld (k := 2) (v := .int .i64 x) rfl) ⟨rfl, hx⟩)⟩) fun hh => absurd hx hh
    | ok nr =>
      obtain ⟨n, r'⟩ := nr
      obtain ⟨i, hi1, hi2⟩ := takeGo_rest _ _ _ _ _ ht
      have hk := k
      simp only [Cm.rNum, ht] at hk
      simp only [tkR, eq_dec, ne_dec]
      refine ite_d (fun _ => ite_d (fun hgt => ite_d (fun _ => ?_) fun hh => absurd (by decide) hh) fun hle => ite_d (fun hh => absurd (by trivial) hh) fun _ => ?_) fun hh => absurd (by trivial) hh
      · rw [if_pos (by omega)] at hk
        exact ⟨_, rfl, rfl, wrOk_fld h1.at_blk (by simp [rdrL]) rfl, hk _ (St.rdr_mk (at_ := a) (e := 6) (h1.wr_fld (k := 2) (v := .int .i64 6) rfl) ⟨rfl, by decide⟩)⟩
      · rw [if_neg (by omega)] at hk
        have hl : b.length - r'.length = a + i := by rw [hi1]; simp only [List.length_drop] at hi2 ⊢; omega
        rw [hl]
        exact ⟨_, rfl, rfl, wrOk_fld h1.at_blk (by simp [rdrL]) rfl, hk _ (St.rdr_mk (at_ := a + i) (e := 0) (h1.wr_fld (k := 1) (v := .int .i64 ((a + i : Nat) : Int)) rfl) ⟨rfl, by simp only [List.length_drop] at hi2; omega, by rw [hi1, List.drop_drop]⟩)⟩
theorem Src.cut (hs : Src F q b) {a n : Nat} (h : a + n ≤ b.length) : RdF F (if q.2.2 = a then q.1 else q.1.map fun x => x.add (a * 1)) (a + n - a) 1 (bytesV ((b.drop a).take n)) := by
  have hlen := hs.len
  have hcap := hs.cap
  have := hs.rd.sub (lo := a) (hi := a + n) (by omega) (by omega) q.2.2 (by omega)
  refine Eq.mp ?_ this
  congr 1
  simp only [bytesV, List.map_take, List.map_drop, Nat.mul_one]
  congr 1; omega
theorem take_spec {n : Nat} (hn : n ≤ 1000000000) (hs : Src F q b) (hm : kn F ∈ L) (h : St E (rdrA 116 p q b st :: L) w)
    (k : ∀ w' (s : Sl), St E (rdrA 116 p q b (Cm.rRow n st).2 :: L) w' → RdF F s.1 s.2.1 1 (bytesV (Cm.rRow n st).1) → R (.returned (.slice s.1 s.2.1 s.2.2)) w') : Calls Tryz.prog 102 #[.pointer (some ⟨p, 0, none⟩), .int .i64 (n : Int)] w R := by
  have hlen := hs.len
  have hcap := hs.cap
  have hbig := hs.big
  obtain ⟨a, e, ho, h0⟩ := h.rdr_open
  refine C_conf_reader_take ?_
  unfold T_conf_reader_take T_conf_reader_take_1
  intro w5
  have h5 := h0.drew
  refine ⟨_, rfl, _, rd_fld h5.at_blk rfl rfl, ?_⟩
  rw [eq_dec]
  cases st with
  | error x =>
    obtain ⟨rfl, hx⟩ := ho
    refine ite_d (fun hh => absurd hh hx) fun _ => ?_
    unfold T_conf_reader_take_2
    refine ite_b (fun hh => by cases hh) fun _ => ⟨_, rfl, _, rd_fld h5.at_blk rfl rfl, ?_⟩
    rw [ne_dec]
    exact ite_d (fun _ => k w5 (none, 0, 0) (St.rdr_mk h5 ⟨rfl, hx⟩) (RdF.nil F none)) fun hh => absurd hx hh
  | ok r =>
    obtain ⟨rfl, hab, rfl⟩ := ho
    refine ite_d (fun _ => ⟨_, rfl, _, _, _, rd_cell h5.at_blk rfl rfl, _, rfl, _, rd_fld h5.at_blk rfl rfl, ?_⟩) fun hh => absurd rfl hh
    rw [show ((q.2.1 : Int) - (a : Int)) = ((q.2.1 - a : Nat) : Int) from by omega, wrap_nat (n := q.2.1 - a) (by omega)]
    unfold T_conf_reader_take_2
    simp only [Cm.rRow, List.length_drop] at k
    refine ite_d (fun hlt => ?_) fun hge => ?_
    · rw [if_pos (by omega)] at k
      refine ⟨_, rfl, rfl, wrOk_fld h5.at_blk (by simp [rdrL]) rfl, ?_⟩
      intro w20
      have h20 : St E (blkL p 116 (rdrL q a 3) :: L) w20 := h5.wr_fld (k := 2) (v := .int .i64 3) rfl
      exact ⟨_, rfl, _, rd_fld h20.at_blk rfl rfl, k w20 (none, 0, 0) (St.rdr_mk h20 ⟨rfl, by decide⟩) (RdF.nil F none)⟩
    · rw [if_neg (by omega)] at k
      refine ⟨_, rfl, _, rd_fld h5.at_blk rfl rfl, ?_⟩
      rw [ne_dec]
      refine ite_d (fun hh => absurd rfl hh) fun _ => ⟨_, rfl, _, rd_fld h5.at_blk rfl rfl, _, rfl, rfl, wrOk_fld h5.at_blk (by simp [rdrL]) rfl, ?_⟩
      rw [show ((a : Int) + (n : Int)) = ((a + n : Nat) : Int) from by omega, wrap_nat (n := a + n) (by omega)]
      intro w27 w28
      have h28 : St E (blkL p 116 (rdrL q (a + n) 0) :: L) w28 := (h5.wr_fld (k := 1) (v := .int .i64 ((a + n : Nat) : Int)) rfl).drew
      refine ⟨_, rfl, _, _, _, rd_cell h28.at_blk rfl rfl, _, rfl, _, rd_fld h28.at_blk rfl rfl, _, rfl, _, rd_fld h28.at_blk rfl rfl, by omega, by omega, ?_⟩
      rw [show (((a + n : Nat) : Int) - (n : Int)) = (a : Int) from by omega, wrap_nat (n := a) (by omega), Int.toNat_natCast, Int.toNat_natCast]
      exact ⟨by omega, by omega, k w28 (_, _, _) (St.rdr_mk h28 ⟨rfl, by omega, by rw [List.drop_drop]⟩) (hs.cut (by omega))⟩
theorem rNum_le (most : Nat) (st : Cm.Ps) : (Cm.rNum most st).1 ≤ most := by
  cases st with
  | error e => simp [Cm.rNum]
  | ok r =>
    simp only [Cm.rNum]
    split
    · simp
    · split
      · simp
      · simp only; omega
theorem rtext_spec (hs : Src F q b) (hm : kn F ∈ L) (h : St E (rdrA 116 p q b st :: L) w)
    (k : ∀ w', St E (rdrA 116 p q b (Cm.rText st).2 :: L) w' → R (.returned (.string (bs (Cm.rText st).1))) w') : Calls Tryz.prog 64 #[.pointer (some ⟨p, 0, none⟩)] w R := by
  refine C_conf_reader_text ?_
  unfold T_conf_reader_text
  refine rnum_spec (most := 128) hs hm h fun w1 h1 => ⟨_, rfl, take_spec (by have := rNum_le 128 st; omega) hs hm h1 fun w2 s h2 hr => ⟨_, _, _, rfl, ?_⟩⟩
  exact runV_ok (convert_string (e := 5) (by kernel_rfl) (by kernel_rfl) (by kernel_rfl) (hr.at h2 (List.mem_cons_of_mem _ hm))) ⟨_, rfl, k w2 h2⟩
/-! ### weights -/
theorem bits_pre (l : Cm.Bs) (_hl : l.length ≤ 8) : ∀ j, j ≤ l.length → Cm.bits (l.take j) < 256 ^ j := by
  intro j
  induction j with
  | zero => intro _; simp [Cm.bits]
  | succ j ih =>
    intro hj
    rw [List.take_succ_eq_append_getElem (by omega)]
    have := ih (by omega)
    have hlt := (l[j]'(by omega)).toNat_lt
    simp only [Cm.bits, List.foldl_append, List.foldl_cons, List.foldl_nil] at this ⊢
    rw [Nat.pow_succ]; omega
theorem wrap_u64 {n : Nat} (h : n < 18446744073709551616) : IntKind.wrap .u64 (n : Int) = n := by
  unfold IntKind.wrap
  simp [IntKind.signed, IntKind.bits]
  omega
theorem or8 (a : Nat) (c : Nat) (hc : c < 256) (h : a * 256 + c < 18446744073709551616) :
    IntKind.wrap .u64 ((BitVec.ofInt (IntKind.bits .u64) (IntKind.wrap .u64 ((a : Int) * 2 ^ 8))) ||| (BitVec.ofInt (IntKind.bits .u64) (IntKind.wrap .u64 (c : Int)))).toNat = ((a * 256 + c : Nat) : Int) := by
  rw [show ((a : Int) * 2 ^ 8) = ((a * 256 : Nat) : Int) from by push_cast; rfl, wrap_u64 (n := a * 256) (by omega), wrap_u64 (n := c) (by omega)]
  have e : ((BitVec.ofInt (IntKind.bits .u64) ((a * 256 : Nat) : Int)) ||| (BitVec.ofInt (IntKind.bits .u64) (c : Int))).toNat = a * 256 + c := by
    show ((BitVec.ofInt 64 ((a * 256 : Nat) : Int)) ||| (BitVec.ofInt 64 (c : Int))).toNat = _
    rw [BitVec.toNat_or, ofInt_nat _ (by omega), ofInt_nat _ (by omega), show a * 256 = 2 ^ 8 * a from by omega, ← Nat.two_pow_add_eq_or_of_lt (by omega)]
  rw [e, wrap_u64 h]
theorem rRow_len (n : Nat) (st : Cm.Ps) : (Cm.rRow n st).1.length ≤ n := by
  cases st with
  | error e => simp [Cm.rRow]
  | ok r => simp only [Cm.rRow]; split <;> simp; omega
theorem row_at {s : Sl} {l : Cm.Bs} (hr : RdF F s.1 s.2.1 1 (bytesV l)) (hm : kn F ∈ L) (h : St E L w) {i : Nat} (hi : i < l.length) : ∃ ad, s.1 = some ad ∧ rd w (ad.add (i * 1)) (.int .u8 (l[i].toNat : Int)) := by
  have hr' := hr.at h hm
  have hl : l.length = s.2.1 := by have := hr'.1; rw [bytesV_len] at this; omega
  obtain ⟨ad, ha, _, hc⟩ := hr'.cells (by omega)
  refine ⟨ad, ha, ?_⟩
  rw [Nat.mul_one]
  exact hr'.rd_cell ha (by omega) (v := .int .u8 (l[i].toNat : Int)) (by simp [bytesV, hi]) rfl
theorem row_len {s : Sl} {l : Cm.Bs} (hr : RdF F s.1 s.2.1 1 (bytesV l)) (hm : kn F ∈ L) (h : St E L w) : l.length = s.2.1 := by have := (hr.at h hm).1; rw [bytesV_len] at this; omega
theorem bits_next (l : Cm.Bs) (j : Nat) (hj : j < l.length) : Cm.bits (l.take (j + 1)) = Cm.bits (l.take j) * 256 + l[j].toNat := by
  rw [List.take_succ_eq_append_getElem hj]; simp only [Cm.bits, List.foldl_append, List.foldl_cons, List.foldl_nil]
theorem bits_small (l : Cm.Bs) (hl : l.length ≤ 8) (j : Nat) (hj : j ≤ l.length) : Cm.bits (l.take j) < 18446744073709551616 :=
  Nat.lt_of_lt_of_le (bits_pre l hl j hj) (Nat.le_trans (Nat.pow_le_pow_right (by decide) (by omega : j ≤ 8)) (by decide))
theorem rfloat_spec (hs : Src F q b) (hm : kn F ∈ L) (h : St E (rdrA 116 p q b st :: L) w)
    (k : ∀ w', St E (rdrA 116 p q b (Cm.rRow 8 st).2 :: L) w' → R (.returned (.float .f64 (Cm.bits (Cm.rRow 8 st).1))) w') : Calls Tryz.prog 103 #[.pointer (some ⟨p, 0, none⟩)] w R := by
  refine C_conf_reader_float ?_
  unfold T_conf_reader_float
  refine take_spec (n := 8) (by omega) hs hm h fun w1 s h1 hr => ⟨_, _, _, rfl, ?_⟩
  have hl8 := rRow_len 8 st
  have hm1 := List.mem_cons_of_mem (rdrA 116 p q b (Cm.rRow 8 st).2) hm
  have hln := row_len hr hm1 h1
  unfold T_conf_reader_float_1
  intro X hX
  refine up_to (Cm.rRow 8 st).1.length (Q := fun j => X ((Cm.bits ((Cm.rRow 8 st).1.take j) : Nat) : Int) (j : Int) w1) ?_
  intro j hj ih
  refine hX _ _ _ ?_
  unfold T_conf_reader_float_1_body
  rw [← hln]
  refine ite_d (fun hc => ?_) fun hc => ?_
  · have hjl : j < (Cm.rRow 8 st).1.length := by omega
    obtain ⟨ad, ha, hrd⟩ := row_at hr hm1 h1 hjl
    refine ⟨by omega, by omega, ad, ha, _, by rw [Int.toNat_natCast]; exact hrd, ?_⟩
    have e := bits_next (Cm.rRow 8 st).1 j hjl
    rw [or8 _ _ (UInt8.toNat_lt _) (by rw [← e]; exact bits_small _ hl8 _ (by omega)), ← e, succ_big (by unfold big; omega)]
    exact ih hjl
  · rw [List.take_of_length_le (by omega)]
    refine runV_ok run_ffrom ⟨_, rfl, ?_⟩
    rw [Int.toNat_natCast]
    exact k w1 h1

/-! ### targets -/
theorem rMany_bad {α : Type} (f : Cm.Ps → α × Cm.Ps) (n : Nat) {s : Cm.Ps} (h : Cm.bad s = true) : Cm.rMany f n s = ([], s) := by
  cases n with
  | zero => rfl
  | succ n => simp [Cm.rMany, h]
theorem rdrOk_bad {at_ : Nat} {e : Int} (h : rdrOk b at_ e st) : decide (e = 0) = !Cm.bad st := by
  cases st with
  | ok r => simp [Cm.bad, h.1]
  | error x => simp [Cm.bad, h.1, h.2]
theorem rtargets_spec (hs : Src F q b) (hm : kn F ∈ L) (h : St E (rdrA 116 p q b st :: L) w)
    (k : ∀ w' (s : Sl), St E (tgA s (Cm.rTgs st).1 :: rdrA 116 p q b (Cm.rTgs st).2 :: L) w' → R (.returned (.slice s.1 s.2.1 s.2.2)) w') : Calls Tryz.prog 65 #[.pointer (some ⟨p, 0, none⟩)] w R := by
  refine C_conf_reader_targets ?_
  unfold T_conf_reader_targets
  refine rnum_spec (most := 16) hs hm h fun w1 h1 => ⟨_, rfl, ?_⟩
  have hle := rNum_le 16 st
  unfold T_conf_reader_targets_1
  intro X hX
  have go : ∀ (n : Nat) (s : Sl) (xs : List Cm.Tgt) (st2 : Cm.Ps) (w : World), xs.length + n ≤ 16 → St E (tgA s xs :: rdrA 116 p q b st2 :: L) w → Cm.rTgs st = (xs ++ (Cm.rMany Cm.rTgt n st2).1, (Cm.rMany Cm.rTgt n st2).2) → X s.1 s.2.1 s.2.2 (n : Int) w := by
    intro n
    induction n with
    | zero =>
      intro s xs st2 w hn h he
      refine hX _ _ _ _ _ ?_
      unfold T_conf_reader_targets_1_body T_conf_reader_targets_2
      refine ite_d (fun hh => absurd hh (by decide)) fun _ => ite_b (fun hh => by cases hh) fun _ => ?_
      have := k w s
      rw [he] at this
      simp only [Cm.rMany, List.append_nil] at this
      exact this h
    | succ n ih =>
      intro s xs st2 w hn h he
      refine hX _ _ _ _ _ ?_
      unfold T_conf_reader_targets_1_body T_conf_reader_targets_2
      obtain ⟨a, e, ho, h0⟩ := h.f1.rdr_open
      refine ite_d (fun _ => ⟨_, rfl, _, rd_fld h0.at_blk rfl rfl, ?_⟩) fun hh => absurd (by omega) hh
      rw [eq_dec, rdrOk_bad ho]
      refine ite_n (fun hb => ?_) fun hb => ?_
      · refine rtext_spec hs (List.mem_cons_of_mem _ hm) h.f1 fun w2 h2 => ⟨_, rfl, rfloat_spec hs (List.mem_cons_of_mem _ hm) h2 fun w3 h3 => ⟨_, rfl, ?_⟩⟩
        intro w23
        obtain ⟨s', w', hr, hs'⟩ := app_t1 (t := (Cm.rTgt st2).1) h3.f1 (by omega)
        refine runV_ok hr ⟨_, _, _, rfl, ?_⟩
        rw [wrap_id (by omega) (by omega), show ((n + 1 : Nat) : Int) - 1 = (n : Int) from by omega]
        refine ih s' _ (Cm.rTgt st2).2 w' (by simp; omega) hs' ?_
        rw [he]
        simp only [Cm.rMany, hb, Bool.false_eq_true, if_false, List.append_assoc, List.cons_append, List.nil_append]
      · have := k w s
        rw [he, rMany_bad _ _ hb, List.append_nil] at this
        exact this h
  exact go _ (none, 0, 0) [] _ w1 (by simp; omega) (St.ownS_nil h1) rfl
end
end Go.Vc

/-
  Commands out of bytes; targets, commands, configurations held against each other.
-/
namespace Go.Vc
open Go Go.Proofs Go.Proofs.YtcpmfjclkdjfmaaGreat
set_option maxRecDepth 100000

section
variable {E w : World} {L : List Asrt} {R : Ending → World → Prop} {F : Fz} {q : Sl} {b : Cm.Bs} {st : Cm.Ps} {p ty : Nat}

/-! ### the end -/
def endE (st : Cm.Ps) (v : Bool) : Int := match st with
  | .error e => e
  | .ok r => if r ≠ [] ∨ v = false then 4 else 0
theorem drop_nil {a : Nat} (ha : a ≤ b.length) : b.drop a = [] ↔ ¬ a < b.length := by
  rw [List.drop_eq_nil_iff]; omega
theorem end_spec {g : FuncId} {gi gc : Array Value} {v : Bool} (hs : Src F q b) (hb : hasBody Tryz.prog g = true) (h : St E (rdrA 116 p q b st :: L) w)
    (hc : ∀ (A : Asrt) (w : World) (R : Ending → World → Prop), Cm.bad st = false → St E (A :: L) w → (∀ w', St E (A :: L) w' → R (.returned (.bool v)) w') → Calls Tryz.prog g ⟨gi.toList ++ ([] ++ gc.toList)⟩ w R)
    (k : ∀ w', St E L w' → R (.returned (.int .i64 (endE st v))) w') : Calls Tryz.prog 66 #[.pointer (some ⟨p, 0, none⟩), .func (.func g) gi gc] w R := by
  have hlen := hs.len
  obtain ⟨a, e, ho, h0⟩ := h.rdr_open
  refine C_conf_reader_end ?_
  unfold T_conf_reader_end T_conf_reader_end_1
  intro w5
  have h5 := h0.drew
  refine ⟨_, rfl, _, rd_fld h5.at_blk rfl rfl, ?_⟩
  rw [eq_dec]
  cases st with
  | error x =>
    obtain ⟨rfl, hx⟩ := ho
    refine ite_d (fun hh => absurd hh hx) fun _ => ⟨⟨rd_fld h5.at_blk rfl rfl, trivial⟩, ite_b (fun hh => by cases hh) fun _ => ⟨_, rfl, _, rd_fld h5.at_blk rfl rfl, k _ h5.drop⟩⟩
  | ok r =>
    obtain ⟨rfl, hab, rfl⟩ := ho
    have four : ∀ w1, St E (blkL p 116 (rdrL q a 0) :: L) w1 → endE (.ok (b.drop a)) v = 4 → ∃ a20, some (⟨p, 0, none⟩ : Addr) = some a20 ∧ (.int .i64 4 : Value).cells.size = 1 ∧ wrOk w1 (a20.add 2) (.int .i64 4) ∧ let w21 : World := wr w1 (a20.add 2) (.int .i64 4)
        ∃ a22, some (⟨p, 0, none⟩ : Addr) = some a22 ∧ ∃ x23 : Int, rd w21 (a22.add 2) (.int .i64 x23) ∧ R (.returned (.int .i64 x23)) w21 := fun w1 h1 e4 => by
      refine ⟨_, rfl, rfl, wrOk_fld h1.at_blk (by simp [rdrL]) rfl, ?_⟩
      intro w21
      have h21 : St E (blkL p 116 (rdrL q a 4) :: L) w21 := h1.wr_fld (k := 2) (v := .int .i64 4) rfl
      exact ⟨_, rfl, _, rd_fld h21.at_blk rfl rfl, congI (k _ h21.drop) e4⟩
    refine ite_d (fun _ => ⟨_, rfl, _, rd_fld h5.at_blk rfl rfl, _, rfl, _, _, _, rd_cell h5.at_blk rfl rfl, ite_d (fun hlt => ?_) fun hge => ?_⟩) fun hh => absurd rfl hh
    · refine ⟨⟨rd_cell h5.at_blk rfl rfl, rd_fld h5.at_blk rfl rfl, trivial⟩, ite_b (fun _ => four _ h5 ?_) fun hh => by cases hh⟩
      have : b.drop a ≠ [] := by rw [Ne, drop_nil hab]; omega
      simp [endE, this]
    · have hnil : b.drop a = [] := (drop_nil hab).2 (by omega)
      refine ⟨hb, hc _ _ _ rfl h5 fun w1 h1 => ⟨_, rfl, ⟨rd_cell h1.at_blk rfl rfl, rd_fld h1.at_blk rfl rfl, trivial⟩, ite_n (fun hv => four _ h1 ?_) fun hv => ⟨_, rfl, _, rd_fld h1.at_blk rfl rfl, congI (k _ h1.drop) ?_⟩⟩⟩
      · simp [endE, hv]
      · simp [endE, hv, hnil]

/-! ### a command out of bytes -/
theorem rText_len (st : Cm.Ps) : (Cm.rText st).1.length ≤ 128 := Nat.le_trans (rRow_len _ _) (rNum_le 128 st)
theorem rMany_all {α : Type} {f : Cm.Ps → α × Cm.Ps} {g : α → Prop} (hf : ∀ s, g (f s).1) : ∀ (n : Nat) (s : Cm.Ps), (Cm.rMany f n s).1.length ≤ n ∧ ∀ a ∈ (Cm.rMany f n s).1, g a
  | 0, s => ⟨by simp [Cm.rMany], fun a ha => by simp [Cm.rMany] at ha⟩
  | n + 1, s => by
    unfold Cm.rMany
    split
    · exact ⟨by simp, fun a ha => by simp at ha⟩
    · obtain ⟨h1, h2⟩ := rMany_all hf n (f s).2
      refine ⟨by simpa using h1, fun a ha => ?_⟩
      rcases List.mem_cons.1 ha with rfl | ha
      · exact hf s
      · exact h2 a ha
theorem bits_all (l : Cm.Bs) (hl : l.length ≤ 8) : Cm.bits l < two64 := by
  have := bits_small l hl l.length (Nat.le_refl _)
  rwa [List.take_length] at this
theorem rTgs_short (st : Cm.Ps) : shortTs (Cm.rTgs st).1 := by
  obtain ⟨h1, h2⟩ := rMany_all (f := Cm.rTgt) (g := fun t => t.addr.length ≤ 128 ∧ t.w < two64) (fun s => ⟨rText_len s, bits_all _ (rRow_len 8 _)⟩) (Cm.rNum 16 st).1 (Cm.rNum 16 st).2
  exact ⟨Nat.le_trans h1 (rNum_le 16 st), h2⟩
end
end Go.Vc

/-
  What the functions' code comes to; printed by a program of this claim's own.
-/
namespace Go.Proofs.YtcpmfjclkdjfmaaGreat
open Go Go.Vc
set_option maxRecDepth 100000
set_option linter.unusedVariables false

/-! tollgate/conf.Load -/
def T_conf_Load_2 (r25 : Addr) (n26 : Int) (w : World) (Kn : Bool → World → Prop) (Kp : List PanicEntry → World → Prop) : Prop :=
  if (decide ((n26 : Int) > 0)) = true then (∃ a27, some r25 = some a27 ∧ ∃ x28 : Int, rd w (a27.add 2) (.int .i64 x28) ∧ Kn ((x28 : Int) == 0) w) else (Kn false w)

def T_conf_Load_2_outs : Exit → Option (List (Nat × Value)) := fun x => match x with | .normal => some [(41, .bool false)] | .panic _ => some [] | _ => none

def T_conf_Load_2_ks : Nat → Bool := ksOf [33, 34, 35, 36, 37, 38, 39, 40, 41]

def H_conf_Load_2 : Env → World → QT → Prop := unitHook 239 T_conf_Load_2_ks [(4, .pointer (some ⟨0, 0, none⟩)), (8, .int .i64 0)] T_conf_Load_2_outs fun l w C => match l with | [v0, v1] => T_conf_Load_2 (pAddr v0) (pInt v1) w (fun b30 w => C .normal [.bool b30] w) (fun ch w => C (.panic ch) [] w) | _ => False

theorem T_conf_Load_2_hl : allP (hokL Tryz.prog (hookAt []) (at_ (bodyOf Tryz.f33) [1, 1, 1, 1, 1, 0, 1, 0, 0, 0, 0]) 4048) = (True) := by kernel_rfl
theorem T_conf_Load_2_hok : HOk Tryz.prog (hookAt []) (at_ (bodyOf Tryz.f33) [1, 1, 1, 1, 1, 0, 1, 0, 0, 0, 0]) 4048 := HOk_of _ _ (by rw [T_conf_Load_2_hl]; exact trivial)

theorem T_conf_Load_2_eq (C : Conts) (r25 : Addr) (n26 : Int) (w : World) : vcCode Tryz.prog (hookAt []) (at_ (bodyOf Tryz.f33) [1, 1, 1, 1, 1, 0, 1, 0, 0, 0, 0]) 4048 ⟨[(4, .pointer (some r25)), (8, .int .i64 n26)], 239, []⟩ w (unitQ T_conf_Load_2_outs C) = T_conf_Load_2 r25 n26 w (fun b31 w => C .normal [.bool b31] w) (fun ch w => C (.panic ch) [] w) := by kernel_rfl

theorem T_conf_Load_2_ok : UnitOk Tryz.prog H_conf_Load_2 (at_ (bodyOf Tryz.f33) [1, 1, 1, 1, 1, 0, 1, 0, 0, 0, 0]) 4048 := unit_ok (H := (hookAt [])) (by kernel_rfl) T_conf_Load_2_hok fun l w C hk => by
    obtain ⟨v0, l_v0, rfl, k_v0, hk_v0⟩ := Kinds.cons_ hk
    obtain ⟨r25, rfl⟩ := kind_addr k_v0
    obtain ⟨v1, l_v1, rfl, k_v1, hk_v1⟩ := Kinds.cons_ hk_v0
    obtain ⟨n26, rfl⟩ := kind_int k_v1
    obtain rfl := Kinds.nil_ hk_v1
    exact T_conf_Load_2_eq C r25 n26 w

def T_conf_Load_1_body (X : ByteArray → Int → World → Prop) (last20 : ByteArray) (n21 : Int) (r22 : Addr) (s23 : Addr) (ok24 : Addr) (w : World) (Kn : World → Prop) (Kp : List PanicEntry → World → Prop)  : Prop :=
  T_conf_Load_2 r22 n21 w (fun b32 w33 => if b32 = true then (Calls Tryz.prog 64 #[.pointer (some r22)] w33 (ret (fun r34 w35 => ∃ s36 : ByteArray, r34 = .string s36 ∧ let w37 : World := w35.drew
  ∃ p38 : Option Addr, rd w37 s23 (.pointer p38) ∧ ∃ a39, p38 = some a39 ∧ ∃ m40 : Option Nat, rd w37 (a39.add 1) (.map m40) ∧ Calls Tryz.prog 65 #[.pointer (some r22)] w37 (ret (fun r41 w42 => ∃ s43a : Option Addr, ∃ s43l : Nat, ∃ s43c : Nat, r41 = .slice s43a s43l s43c ∧ (rd w42 (a39.add 1) (.map m40) ∧ rd w42 s23 (.pointer p38) ∧ True) ∧ runV Tryz.prog (Instr.mapUpdate 75 (.map m40) (.string s36) (.slice s43a s43l s43c)) w42 (fun _ w44 => (True) ∧ ∃ b45 : Bool, rd w44 ok24 (.bool b45) ∧ if b45 = true then (Calls Tryz.prog 45 #[.string s36] w44 (ret (fun r46 w47 => ∃ b48 : Bool, r46 = .bool b48 ∧ if b48 = true then (if (!(Op.bytesLess s36.toList last20.toList || s36.toList == last20.toList)) = true then (∃ p49 : Option Addr, rd w47 s23 (.pointer p49) ∧ ∃ a50, p49 = some a50 ∧ ∃ m51 : Option Nat, rd w47 (a50.add 1) (.map m51) ∧ runV Tryz.prog (Instr.lookup 75 (.map m51) (.string s36) false) w47 (fun r52 w53 => ∃ s54a : Option Addr, ∃ s54l : Nat, ∃ s54c : Nat, r52 = .slice s54a s54l s54c ∧ Calls Tryz.prog 48 #[.slice s54a s54l s54c] w53 (ret (fun r55 w56 => ∃ x57 : Int, r55 = .int .i64 x57 ∧ (.bool ((x57 : Int) == 0) : Value).cells.size = 1 ∧ wrOk w56 ok24 (.bool ((x57 : Int) == 0)) ∧ let w58 : World := wr w56 ok24 (.bool ((x57 : Int) == 0))
  X s36 (IntKind.wrap .i64 ((n21 : Int) - 1)) w58) Kp)) Kp) else ((.bool false : Value).cells.size = 1 ∧ wrOk w47 ok24 (.bool false) ∧ let w59 : World := wr w47 ok24 (.bool false)
  X s36 (IntKind.wrap .i64 ((n21 : Int) - 1)) w59)) else ((.bool false : Value).cells.size = 1 ∧ wrOk w47 ok24 (.bool false) ∧ let w60 : World := wr w47 ok24 (.bool false)
  X s36 (IntKind.wrap .i64 ((n21 : Int) - 1)) w60)) Kp)) else ((.bool false : Value).cells.size = 1 ∧ wrOk w44 ok24 (.bool false) ∧ let w61 : World := wr w44 ok24 (.bool false)
  X s36 (IntKind.wrap .i64 ((n21 : Int) - 1)) w61)) Kp) Kp)) Kp)) else (Kn  w33)) Kp

def T_conf_Load_1 (last20 : ByteArray) (n21 : Int) (r22 : Addr) (s23 : Addr) (ok24 : Addr) (w : World) (Kn : World → Prop) (Kp : List PanicEntry → World → Prop) : Prop :=
  ∀ X : ByteArray → Int → World → Prop, (∀ (last20 : ByteArray) (n21 : Int) (w : World), T_conf_Load_1_body X last20 n21 r22 s23 ok24 w Kn Kp → X last20 n21 w) → X last20 n21 w

def T_conf_Load_1_outs : Exit → Option (List (Nat × Value)) := fun x => match x with | .normal => some [] | .panic _ => some [] | _ => none

def T_conf_Load_1_ks : Nat → Bool := ksOf [7, 8, 9, 33, 34, 35, 36, 37, 38, 39, 40, 41, 42, 43, 44, 45, 46, 47, 48, 49, 50, 51, 52, 53, 54, 55, 56, 57, 58, 59, 60, 61, 62, 63, 64, 65, 66, 67, 68, 69, 70, 71, 72, 73]

def H_conf_Load_1 : Env → World → QT → Prop := unitHook 239 T_conf_Load_1_ks [(7, .string default), (8, .int .i64 0), (4, .pointer (some ⟨0, 0, none⟩)), (5, .pointer (some ⟨0, 0, none⟩)), (6, .pointer (some ⟨0, 0, none⟩))] T_conf_Load_1_outs fun l w C => match l with | [v0, v1, v2, v3, v4] => T_conf_Load_1 (pStr v0) (pInt v1) (pAddr v2) (pAddr v3) (pAddr v4) w (fun w => C .normal [] w) (fun ch w => C (.panic ch) [] w) | _ => False

theorem T_conf_Load_1_hl : allP (hokL Tryz.prog (hookAt [(4048, H_conf_Load_2)]) (at_ (bodyOf Tryz.f33) [1, 1, 1, 1, 1, 0, 1, 0, 0]) 1012) = (UnitOk Tryz.prog H_conf_Load_2 (at_ (bodyOf Tryz.f33) [1, 1, 1, 1, 1, 0, 1, 0, 0, 0, 0]) 4048 ∧ True) := by kernel_rfl
theorem T_conf_Load_1_hok : HOk Tryz.prog (hookAt [(4048, H_conf_Load_2)]) (at_ (bodyOf Tryz.f33) [1, 1, 1, 1, 1, 0, 1, 0, 0]) 1012 := HOk_of _ _ (by rw [T_conf_Load_1_hl]; exact ⟨T_conf_Load_2_ok, trivial⟩)

theorem T_conf_Load_1_eq (C : Conts) (X : List Value → World → Prop) (last20 : ByteArray) (n21 : Int) (r22 : Addr) (s23 : Addr) (ok24 : Addr) (w : World) : vcCode Tryz.prog (hookAt [(4048, H_conf_Load_2)]) (at_ (bodyOf Tryz.f33) [1, 1, 1, 1, 1, 0, 1, 0, 0]) 1012 ⟨[(7, .string last20), (8, .int .i64 n21)] ++ [(4, .pointer (some r22)), (5, .pointer (some s23)), (6, .pointer (some ok24))], 239, []⟩ w (seqQ (fun e w => takeAll e [(7, .string default), (8, .int .i64 0)] fun l => X l w) (blockQ 0 (unitQ T_conf_Load_1_outs C))) = T_conf_Load_1_body (fun last20 n21 w => X [.string last20, .int .i64 n21] w) last20 n21 r22 s23 ok24 w (fun w => C .normal [] w) (fun ch w => C (.panic ch) [] w) := by kernel_rfl

theorem T_conf_Load_1_ok : UnitOk Tryz.prog H_conf_Load_1 (at_ (bodyOf Tryz.f33) [1, 1, 1, 1, 1, 0, 1]) 253 := by
  have hc : at_ (bodyOf Tryz.f33) [1, 1, 1, 1, 1, 0, 1] = .block 0 (.loop (at_ (bodyOf Tryz.f33) [1, 1, 1, 1, 1, 0, 1, 0, 0])) := by kernel_rfl
  rw [hc]
  refine loop_unit_ok (carr := [(7, .string default), (8, .int .i64 0)]) (fix := [(4, .pointer (some ⟨0, 0, none⟩)), (5, .pointer (some ⟨0, 0, none⟩)), (6, .pointer (some ⟨0, 0, none⟩))]) (ks := T_conf_Load_1_ks) (H := (hookAt [(4048, H_conf_Load_2)])) (B := fun C X l u w => match l, u with | [v0, v1], [v2, v3, v4] => T_conf_Load_1_body (fun last20 n21 w => X [.string last20, .int .i64 n21] w) (pStr v0) (pInt v1) (pAddr v2) (pAddr v3) (pAddr v4) w (fun w => C .normal [] w) (fun ch w => C (.panic ch) [] w) | _, _ => False) (by kernel_rfl) (by kernel_rfl) T_conf_Load_1_hok ?_ ?_
  · intro C X l u w hl hu
    obtain ⟨v0, l_v0, rfl, k_v0, hl_v0⟩ := Kinds.cons_ hl
    obtain ⟨last20, rfl⟩ := kind_string k_v0
    obtain ⟨v1, l_v1, rfl, k_v1, hl_v1⟩ := Kinds.cons_ hl_v0
    obtain ⟨n21, rfl⟩ := kind_int k_v1
    obtain rfl := Kinds.nil_ hl_v1
    obtain ⟨v2, l_v2, rfl, k_v2, hu_v2⟩ := Kinds.cons_ hu
    obtain ⟨r22, rfl⟩ := kind_addr k_v2
    obtain ⟨v3, l_v3, rfl, k_v3, hu_v3⟩ := Kinds.cons_ hu_v2
    obtain ⟨s23, rfl⟩ := kind_addr k_v3
    obtain ⟨v4, l_v4, rfl, k_v4, hu_v4⟩ := Kinds.cons_ hu_v3
    obtain ⟨ok24, rfl⟩ := kind_addr k_v4
    obtain rfl := Kinds.nil_ hu_v4
    exact T_conf_Load_1_eq C X last20 n21 r22 s23 ok24 w
  · intro l u w C hl hu
    obtain ⟨v0, l_v0, rfl, k_v0, hl_v0⟩ := Kinds.cons_ hl
    obtain ⟨last20, rfl⟩ := kind_string k_v0
    obtain ⟨v1, l_v1, rfl, k_v1, hl_v1⟩ := Kinds.cons_ hl_v0
    obtain ⟨n21, rfl⟩ := kind_int k_v1
    obtain rfl := Kinds.nil_ hl_v1
    obtain ⟨v2, l_v2, rfl, k_v2, hu_v2⟩ := Kinds.cons_ hu
    obtain ⟨r22, rfl⟩ := kind_addr k_v2
    obtain ⟨v3, l_v3, rfl, k_v3, hu_v3⟩ := Kinds.cons_ hu_v2
    obtain ⟨s23, rfl⟩ := kind_addr k_v3
    obtain ⟨v4, l_v4, rfl, k_v4, hu_v4⟩ := Kinds.cons_ hu_v3
    obtain ⟨ok24, rfl⟩ := kind_addr k_v4
    obtain rfl := Kinds.nil_ hu_v4
    constructor
    · intro h X hX
      exact h (fun last20 n21 w => X [.string last20, .int .i64 n21] w) (fun last20 n21 w hb => hX [.string last20, .int .i64 n21] w ⟨rfl, rfl, trivial⟩ hb)
    · intro h X hX
      exact h (fun l w => match l with | [v0, v1] => X (pStr v0) (pInt v1) w | _ => True) (fun l w hl hb => by
        obtain ⟨v0, l_v0, rfl, k_v0, hl_v0⟩ := Kinds.cons_ hl
        obtain ⟨last20, rfl⟩ := kind_string k_v0
        obtain ⟨v1, l_v1, rfl, k_v1, hl_v1⟩ := Kinds.cons_ hl_v0
        obtain ⟨n21, rfl⟩ := kind_int k_v1
        obtain rfl := Kinds.nil_ hl_v1
        exact hX last20 n21 w hb)

def T_conf_Load_4 (r73 : Addr) (n74 : Int) (w : World) (Kn : Bool → World → Prop) (Kp : List PanicEntry → World → Prop) : Prop :=
  if (decide ((n74 : Int) > 0)) = true then (∃ a75, some r73 = some a75 ∧ ∃ x76 : Int, rd w (a75.add 2) (.int .i64 x76) ∧ Kn ((x76 : Int) == 0) w) else (Kn false w)

def T_conf_Load_4_outs : Exit → Option (List (Nat × Value)) := fun x => match x with | .normal => some [(85, .bool false)] | .panic _ => some [] | _ => none

def T_conf_Load_4_ks : Nat → Bool := ksOf [77, 78, 79, 80, 81, 82, 83, 84, 85]

def H_conf_Load_4 : Env → World → QT → Prop := unitHook 239 T_conf_Load_4_ks [(4, .pointer (some ⟨0, 0, none⟩)), (11, .int .i64 0)] T_conf_Load_4_outs fun l w C => match l with | [v0, v1] => T_conf_Load_4 (pAddr v0) (pInt v1) w (fun b78 w => C .normal [.bool b78] w) (fun ch w => C (.panic ch) [] w) | _ => False

theorem T_conf_Load_4_hl : allP (hokL Tryz.prog (hookAt []) (at_ (bodyOf Tryz.f33) [1, 1, 1, 1, 1, 1, 1, 0, 1, 0, 0, 0, 0]) 16336) = (True) := by kernel_rfl
theorem T_conf_Load_4_hok : HOk Tryz.prog (hookAt []) (at_ (bodyOf Tryz.f33) [1, 1, 1, 1, 1, 1, 1, 0, 1, 0, 0, 0, 0]) 16336 := HOk_of _ _ (by rw [T_conf_Load_4_hl]; exact trivial)

theorem T_conf_Load_4_eq (C : Conts) (r73 : Addr) (n74 : Int) (w : World) : vcCode Tryz.prog (hookAt []) (at_ (bodyOf Tryz.f33) [1, 1, 1, 1, 1, 1, 1, 0, 1, 0, 0, 0, 0]) 16336 ⟨[(4, .pointer (some r73)), (11, .int .i64 n74)], 239, []⟩ w (unitQ T_conf_Load_4_outs C) = T_conf_Load_4 r73 n74 w (fun b79 w => C .normal [.bool b79] w) (fun ch w => C (.panic ch) [] w) := by kernel_rfl

theorem T_conf_Load_4_ok : UnitOk Tryz.prog H_conf_Load_4 (at_ (bodyOf Tryz.f33) [1, 1, 1, 1, 1, 1, 1, 0, 1, 0, 0, 0, 0]) 16336 := unit_ok (H := (hookAt [])) (by kernel_rfl) T_conf_Load_4_hok fun l w C hk => by
    obtain ⟨v0, l_v0, rfl, k_v0, hk_v0⟩ := Kinds.cons_ hk
    obtain ⟨r73, rfl⟩ := kind_addr k_v0
    obtain ⟨v1, l_v1, rfl, k_v1, hk_v1⟩ := Kinds.cons_ hk_v0
    obtain ⟨n74, rfl⟩ := kind_int k_v1
    obtain rfl := Kinds.nil_ hk_v1
    exact T_conf_Load_4_eq C r73 n74 w

def T_conf_Load_3_body (X : Int → World → Prop) (n68 : Int) (r69 : Addr) (s70 : Addr) (ok71 : Addr) (was72 : Addr) (w : World) (Kn : World → Prop) (Kp : List PanicEntry → World → Prop)  : Prop :=
  T_conf_Load_4 r69 n68 w (fun b80 w81 => if b80 = true then (Calls Tryz.prog 64 #[.pointer (some r69)] w81 (ret (fun r82 w83 => ∃ s84 : ByteArray, r82 = .string s84 ∧ Calls Tryz.prog 64 #[.pointer (some r69)] w83 (ret (fun r85 w86 => ∃ s87 : ByteArray, r85 = .string s87 ∧ let w88 : World := w86.alloc (.cells #[.string (ByteArray.mk #[]), .string (ByteArray.mk #[])] 89)
  (.agg #[.string s84, .string s87] : Value).cells.size = 2 ∧ wrOk w88 (⟨w86.heap.size, 0, none⟩ : Addr) (.agg #[.string s84, .string s87]) ∧ let w89 : World := wr w88 (⟨w86.heap.size, 0, none⟩ : Addr) (.agg #[.string s84, .string s87])
  Calls Tryz.prog 64 #[.pointer (some r69)] w89 (ret (fun r90 w91 => ∃ s92 : ByteArray, r90 = .string s92 ∧ ∃ p93 : Option Addr, rd w91 s70 (.pointer p93) ∧ ∃ a94, p93 = some a94 ∧ ∃ m95 : Option Nat, rd w91 (a94.add 1) (.map m95) ∧ runV Tryz.prog (Instr.lookup 75 (.map m95) (.string s92) true) w91 (fun r96 w97 => ∃ s98a : Option Addr, ∃ s98l : Nat, ∃ s98c : Nat, ∃ b99 : Bool, r96 = .tuple #[.slice s98a s98l s98c, .bool b99] ∧ let w100 : World := w97.drew
  ∃ p101 : Option Addr, rd w100 s70 (.pointer p101) ∧ ∃ a102, p101 = some a102 ∧ ∃ m103 : Option Nat, rd w100 (a102.add 2) (.map m103) ∧ ∃ s104 : ByteArray, ∃ s105 : ByteArray, rd w100 (⟨w86.heap.size, 0, none⟩ : Addr) (.agg #[.string s104, .string s105]) ∧ runV Tryz.prog (Instr.mapUpdate 76 (.map m103) (.agg #[.string s104, .string s105]) (.string s92)) w100 (fun _ w106 => (True) ∧ ∃ b107 : Bool, rd w106 ok71 (.bool b107) ∧ if b107 = true then (if b99 = true then (∃ s108 : ByteArray, rd w106 (⟨w86.heap.size, 0, none⟩ : Addr) (.string s108) ∧ Calls Tryz.prog 46 #[.string s108] w106 (ret (fun r109 w110 => ∃ b111 : Bool, r109 = .bool b111 ∧ if b111 = true then (∃ s112 : ByteArray, rd w110 ((⟨w86.heap.size, 0, none⟩ : Addr).add 1) (.string s112) ∧ Calls Tryz.prog 47 #[.string s112] w110 (ret (fun r113 w114 => ∃ b115 : Bool, r113 = .bool b115 ∧ if b115 = true then (∃ s116 : ByteArray, rd w114 (⟨w86.heap.size, 0, none⟩ : Addr) (.string s116) ∧ ∃ s117 : ByteArray, rd w114 was72 (.string s117) ∧ if (!(Op.bytesLess s116.toList s117.toList || s116.toList == s117.toList)) = true then ((.bool true : Value).cells.size = 1 ∧ wrOk w114 ok71 (.bool true) ∧ let w118 : World := wr w114 ok71 (.bool true)
  ∃ s119 : ByteArray, ∃ s120 : ByteArray, rd w118 (⟨w86.heap.size, 0, none⟩ : Addr) (.agg #[.string s119, .string s120]) ∧ (.agg #[.string s119, .string s120] : Value).cells.size = 2 ∧ wrOk w118 was72 (.agg #[.string s119, .string s120]) ∧ let w121 : World := wr w118 was72 (.agg #[.string s119, .string s120])
  X (IntKind.wrap .i64 ((n68 : Int) - 1)) w121) else (∃ s122 : ByteArray, rd w114 (⟨w86.heap.size, 0, none⟩ : Addr) (.string s122) ∧ ∃ s123 : ByteArray, rd w114 was72 (.string s123) ∧ if (s122.toList == s123.toList) = true then (∃ s124 : ByteArray, rd w114 ((⟨w86.heap.size, 0, none⟩ : Addr).add 1) (.string s124) ∧ ∃ s125 : ByteArray, rd w114 (was72.add 1) (.string s125) ∧ (.bool (!(Op.bytesLess s124.toList s125.toList || s124.toList == s125.toList)) : Value).cells.size = 1 ∧ wrOk w114 ok71 (.bool (!(Op.bytesLess s124.toList s125.toList || s124.toList == s125.toList))) ∧ let w126 : World := wr w114 ok71 (.bool (!(Op.bytesLess s124.toList s125.toList || s124.toList == s125.toList)))
  ∃ s127 : ByteArray, ∃ s128 : ByteArray, rd w126 (⟨w86.heap.size, 0, none⟩ : Addr) (.agg #[.string s127, .string s128]) ∧ (.agg #[.string s127, .string s128] : Value).cells.size = 2 ∧ wrOk w126 was72 (.agg #[.string s127, .string s128]) ∧ let w129 : World := wr w126 was72 (.agg #[.string s127, .string s128])
  X (IntKind.wrap .i64 ((n68 : Int) - 1)) w129) else ((.bool false : Value).cells.size = 1 ∧ wrOk w114 ok71 (.bool false) ∧ let w130 : World := wr w114 ok71 (.bool false)
  ∃ s131 : ByteArray, ∃ s132 : ByteArray, rd w130 (⟨w86.heap.size, 0, none⟩ : Addr) (.agg #[.string s131, .string s132]) ∧ (.agg #[.string s131, .string s132] : Value).cells.size = 2 ∧ wrOk w130 was72 (.agg #[.string s131, .string s132]) ∧ let w133 : World := wr w130 was72 (.agg #[.string s131, .string s132])
  X (IntKind.wrap .i64 ((n68 : Int) - 1)) w133))) else ((.bool false : Value).cells.size = 1 ∧ wrOk w114 ok71 (.bool false) ∧ let w134 : World := wr w114 ok71 (.bool false)
  ∃ s135 : ByteArray, ∃ s136 : ByteArray, rd w134 (⟨w86.heap.size, 0, none⟩ : Addr) (.agg #[.string s135, .string s136]) ∧ (.agg #[.string s135, .string s136] : Value).cells.size = 2 ∧ wrOk w134 was72 (.agg #[.string s135, .string s136]) ∧ let w137 : World := wr w134 was72 (.agg #[.string s135, .string s136])
  X (IntKind.wrap .i64 ((n68 : Int) - 1)) w137)) Kp)) else ((.bool false : Value).cells.size = 1 ∧ wrOk w110 ok71 (.bool false) ∧ let w138 : World := wr w110 ok71 (.bool false)
  ∃ s139 : ByteArray, ∃ s140 : ByteArray, rd w138 (⟨w86.heap.size, 0, none⟩ : Addr) (.agg #[.string s139, .string s140]) ∧ (.agg #[.string s139, .string s140] : Value).cells.size = 2 ∧ wrOk w138 was72 (.agg #[.string s139, .string s140]) ∧ let w141 : World := wr w138 was72 (.agg #[.string s139, .string s140])
  X (IntKind.wrap .i64 ((n68 : Int) - 1)) w141)) Kp)) else ((.bool false : Value).cells.size = 1 ∧ wrOk w106 ok71 (.bool false) ∧ let w142 : World := wr w106 ok71 (.bool false)
  ∃ s143 : ByteArray, ∃ s144 : ByteArray, rd w142 (⟨w86.heap.size, 0, none⟩ : Addr) (.agg #[.string s143, .string s144]) ∧ (.agg #[.string s143, .string s144] : Value).cells.size = 2 ∧ wrOk w142 was72 (.agg #[.string s143, .string s144]) ∧ let w145 : World := wr w142 was72 (.agg #[.string s143, .string s144])
  X (IntKind.wrap .i64 ((n68 : Int) - 1)) w145)) else ((.bool false : Value).cells.size = 1 ∧ wrOk w106 ok71 (.bool false) ∧ let w146 : World := wr w106 ok71 (.bool false)
  ∃ s147 : ByteArray, ∃ s148 : ByteArray, rd w146 (⟨w86.heap.size, 0, none⟩ : Addr) (.agg #[.string s147, .string s148]) ∧ (.agg #[.string s147, .string s148] : Value).cells.size = 2 ∧ wrOk w146 was72 (.agg #[.string s147, .string s148]) ∧ let w149 : World := wr w146 was72 (.agg #[.string s147, .string s148])
  X (IntKind.wrap .i64 ((n68 : Int) - 1)) w149)) Kp) Kp) Kp)) Kp)) Kp)) else (Kn  w81)) Kp

def T_conf_Load_3 (n68 : Int) (r69 : Addr) (s70 : Addr) (ok71 : Addr) (was72 : Addr) (w : World) (Kn : World → Prop) (Kp : List PanicEntry → World → Prop) : Prop :=
  ∀ X : Int → World → Prop, (∀ (n68 : Int) (w : World), T_conf_Load_3_body X n68 r69 s70 ok71 was72 w Kn Kp → X n68 w) → X n68 w

def T_conf_Load_3_outs : Exit → Option (List (Nat × Value)) := fun x => match x with | .normal => some [] | .panic _ => some [] | _ => none

def T_conf_Load_3_ks : Nat → Bool := ksOf [11, 12, 13, 14, 15, 77, 78, 79, 80, 81, 82, 83, 84, 85, 86, 87, 88, 89, 90, 91, 92, 93, 94, 95, 96, 97, 98, 99, 100, 101, 102, 103, 104, 105, 106, 107, 108, 109, 110, 111, 112, 113, 114, 115, 116, 117, 118, 119, 120, 121, 122, 123, 124, 125, 126, 127, 128, 129, 130, 131, 132, 133, 134, 135, 136, 137, 138, 139, 140, 141, 142, 143, 144, 145]

def H_conf_Load_3 : Env → World → QT → Prop := unitHook 239 T_conf_Load_3_ks [(11, .int .i64 0), (4, .pointer (some ⟨0, 0, none⟩)), (5, .pointer (some ⟨0, 0, none⟩)), (6, .pointer (some ⟨0, 0, none⟩)), (10, .pointer (some ⟨0, 0, none⟩))] T_conf_Load_3_outs fun l w C => match l with | [v0, v1, v2, v3, v4] => T_conf_Load_3 (pInt v0) (pAddr v1) (pAddr v2) (pAddr v3) (pAddr v4) w (fun w => C .normal [] w) (fun ch w => C (.panic ch) [] w) | _ => False

theorem T_conf_Load_3_hl : allP (hokL Tryz.prog (hookAt [(16336, H_conf_Load_4)]) (at_ (bodyOf Tryz.f33) [1, 1, 1, 1, 1, 1, 1, 0, 1, 0, 0]) 4084) = (UnitOk Tryz.prog H_conf_Load_4 (at_ (bodyOf Tryz.f33) [1, 1, 1, 1, 1, 1, 1, 0, 1, 0, 0, 0, 0]) 16336 ∧ True) := by kernel_rfl
theorem T_conf_Load_3_hok : HOk Tryz.prog (hookAt [(16336, H_conf_Load_4)]) (at_ (bodyOf Tryz.f33) [1, 1, 1, 1, 1, 1, 1, 0, 1, 0, 0]) 4084 := HOk_of _ _ (by rw [T_conf_Load_3_hl]; exact ⟨T_conf_Load_4_ok, trivial⟩)

theorem T_conf_Load_3_eq (C : Conts) (X : List Value → World → Prop) (n68 : Int) (r69 : Addr) (s70 : Addr) (ok71 : Addr) (was72 : Addr) (w : World) : vcCode Tryz.prog (hookAt [(16336, H_conf_Load_4)]) (at_ (bodyOf Tryz.f33) [1, 1, 1, 1, 1, 1, 1, 0, 1, 0, 0]) 4084 ⟨[(11, .int .i64 n68)] ++ [(4, .pointer (some r69)), (5, .pointer (some s70)), (6, .pointer (some ok71)), (10, .pointer (some was72))], 239, []⟩ w (seqQ (fun e w => takeAll e [(11, .int .i64 0)] fun l => X l w) (blockQ 2 (unitQ T_conf_Load_3_outs C))) = T_conf_Load_3_body (fun n68 w => X [.int .i64 n68] w) n68 r69 s70 ok71 was72 w (fun w => C .normal [] w) (fun ch w => C (.panic ch) [] w) := by kernel_rfl

theorem T_conf_Load_3_ok : UnitOk Tryz.prog H_conf_Load_3 (at_ (bodyOf Tryz.f33) [1, 1, 1, 1, 1, 1, 1, 0, 1]) 1021 := by
  have hc : at_ (bodyOf Tryz.f33) [1, 1, 1, 1, 1, 1, 1, 0, 1] = .block 2 (.loop (at_ (bodyOf Tryz.f33) [1, 1, 1, 1, 1, 1, 1, 0, 1, 0, 0])) := by kernel_rfl
  rw [hc]
  refine loop_unit_ok (carr := [(11, .int .i64 0)]) (fix := [(4, .pointer (some ⟨0, 0, none⟩)), (5, .pointer (some ⟨0, 0, none⟩)), (6, .pointer (some ⟨0, 0, none⟩)), (10, .pointer (some ⟨0, 0, none⟩))]) (ks := T_conf_Load_3_ks) (H := (hookAt [(16336, H_conf_Load_4)])) (B := fun C X l u w => match l, u with | [v0], [v1, v2, v3, v4] => T_conf_Load_3_body (fun n68 w => X [.int .i64 n68] w) (pInt v0) (pAddr v1) (pAddr v2) (pAddr v3) (pAddr v4) w (fun w => C .normal [] w) (fun ch w => C (.panic ch) [] w) | _, _ => False) (by kernel_rfl) (by kernel_rfl) T_conf_Load_3_hok ?_ ?_
  · intro C X l u w hl hu
    obtain ⟨v0, l_v0, rfl, k_v0, hl_v0⟩ := Kinds.cons_ hl
    obtain ⟨n68, rfl⟩ := kind_int k_v0
    obtain rfl := Kinds.nil_ hl_v0
    obtain ⟨v1, l_v1, rfl, k_v1, hu_v1⟩ := Kinds.cons_ hu
    obtain ⟨r69, rfl⟩ := kind_addr k_v1
    obtain ⟨v2, l_v2, rfl, k_v2, hu_v2⟩ := Kinds.cons_ hu_v1
    obtain ⟨s70, rfl⟩ := kind_addr k_v2
    obtain ⟨v3, l_v3, rfl, k_v3, hu_v3⟩ := Kinds.cons_ hu_v2
    obtain ⟨ok71, rfl⟩ := kind_addr k_v3
    obtain ⟨v4, l_v4, rfl, k_v4, hu_v4⟩ := Kinds.cons_ hu_v3
    obtain ⟨was72, rfl⟩ := kind_addr k_v4
    obtain rfl := Kinds.nil_ hu_v4
    exact T_conf_Load_3_eq C X n68 r69 s70 ok71 was72 w
  · intro l u w C hl hu
    obtain ⟨v0, l_v0, rfl, k_v0, hl_v0⟩ := Kinds.cons_ hl
    obtain ⟨n68, rfl⟩ := kind_int k_v0
    obtain rfl := Kinds.nil_ hl_v0
    obtain ⟨v1, l_v1, rfl, k_v1, hu_v1⟩ := Kinds.cons_ hu
    obtain ⟨r69, rfl⟩ := kind_addr k_v1
    obtain ⟨v2, l_v2, rfl, k_v2, hu_v2⟩ := Kinds.cons_ hu_v1
    obtain ⟨s70, rfl⟩ := kind_addr k_v2
    obtain ⟨v3, l_v3, rfl, k_v3, hu_v3⟩ := Kinds.cons_ hu_v2
    obtain ⟨ok71, rfl⟩ := kind_addr k_v3
    obtain ⟨v4, l_v4, rfl, k_v4, hu_v4⟩ := Kinds.cons_ hu_v3
    obtain ⟨was72, rfl⟩ := kind_addr k_v4
    obtain rfl := Kinds.nil_ hu_v4
    constructor
    · intro h X hX
      exact h (fun n68 w => X [.int .i64 n68] w) (fun n68 w hb => hX [.int .i64 n68] w ⟨rfl, trivial⟩ hb)
    · intro h X hX
      exact h (fun l w => match l with | [v0] => X (pInt v0) w | _ => True) (fun l w hl hb => by
        obtain ⟨v0, l_v0, rfl, k_v0, hl_v0⟩ := Kinds.cons_ hl
        obtain ⟨n68, rfl⟩ := kind_int k_v0
        obtain rfl := Kinds.nil_ hl_v0
        exact hX n68 w hb)

def T_conf_Load_6 (r159 : Addr) (n160 : Int) (w : World) (Kn : Bool → World → Prop) (Kp : List PanicEntry → World → Prop) : Prop :=
  if (decide ((n160 : Int) > 0)) = true then (∃ a161, some r159 = some a161 ∧ ∃ x162 : Int, rd w (a161.add 2) (.int .i64 x162) ∧ Kn ((x162 : Int) == 0) w) else (Kn false w)

def T_conf_Load_6_outs : Exit → Option (List (Nat × Value)) := fun x => match x with | .normal => some [(156, .bool false)] | .panic _ => some [] | _ => none

def T_conf_Load_6_ks : Nat → Bool := ksOf [148, 149, 150, 151, 152, 153, 154, 155, 156]

def H_conf_Load_6 : Env → World → QT → Prop := unitHook 239 T_conf_Load_6_ks [(4, .pointer (some ⟨0, 0, none⟩)), (17, .int .i64 0)] T_conf_Load_6_outs fun l w C => match l with | [v0, v1] => T_conf_Load_6 (pAddr v0) (pInt v1) w (fun b164 w => C .normal [.bool b164] w) (fun ch w => C (.panic ch) [] w) | _ => False

theorem T_conf_Load_6_hl : allP (hokL Tryz.prog (hookAt []) (at_ (bodyOf Tryz.f33) [1, 1, 1, 1, 1, 1, 1, 1, 1, 0, 1, 0, 0, 0, 0]) 65488) = (True) := by kernel_rfl
theorem T_conf_Load_6_hok : HOk Tryz.prog (hookAt []) (at_ (bodyOf Tryz.f33) [1, 1, 1, 1, 1, 1, 1, 1, 1, 0, 1, 0, 0, 0, 0]) 65488 := HOk_of _ _ (by rw [T_conf_Load_6_hl]; exact trivial)

theorem T_conf_Load_6_eq (C : Conts) (r159 : Addr) (n160 : Int) (w : World) : vcCode Tryz.prog (hookAt []) (at_ (bodyOf Tryz.f33) [1, 1, 1, 1, 1, 1, 1, 1, 1, 0, 1, 0, 0, 0, 0]) 65488 ⟨[(4, .pointer (some r159)), (17, .int .i64 n160)], 239, []⟩ w (unitQ T_conf_Load_6_outs C) = T_conf_Load_6 r159 n160 w (fun b165 w => C .normal [.bool b165] w) (fun ch w => C (.panic ch) [] w) := by kernel_rfl

theorem T_conf_Load_6_ok : UnitOk Tryz.prog H_conf_Load_6 (at_ (bodyOf Tryz.f33) [1, 1, 1, 1, 1, 1, 1, 1, 1, 0, 1, 0, 0, 0, 0]) 65488 := unit_ok (H := (hookAt [])) (by kernel_rfl) T_conf_Load_6_hok fun l w C hk => by
    obtain ⟨v0, l_v0, rfl, k_v0, hk_v0⟩ := Kinds.cons_ hk
    obtain ⟨r159, rfl⟩ := kind_addr k_v0
    obtain ⟨v1, l_v1, rfl, k_v1, hk_v1⟩ := Kinds.cons_ hk_v0
    obtain ⟨n160, rfl⟩ := kind_int k_v1
    obtain rfl := Kinds.nil_ hk_v1
    exact T_conf_Load_6_eq C r159 n160 w

def T_conf_Load_7 (x190 : Addr) (w : World) (Kn : Bool → World → Prop) (Kp : List PanicEntry → World → Prop) : Prop :=
  ∃ x191 : Int, rd w (x190.add 1) (.int .i64 x191) ∧ if ((x191 : Int) == 0) = true then (Kn true w) else (∃ x192 : Int, rd w (x190.add 1) (.int .i64 x192) ∧ if ((x192 : Int) == 6) = true then (Kn true w) else (∃ x193 : Int, rd w (x190.add 1) (.int .i64 x193) ∧ if ((x193 : Int) == 8) = true then (Kn true w) else (∃ x194 : Int, rd w (x190.add 1) (.int .i64 x194) ∧ if ((x194 : Int) == 12) = true then (Kn true w) else (∃ x195 : Int, rd w (x190.add 1) (.int .i64 x195) ∧ Kn ((x195 : Int) == 13) w))))

def T_conf_Load_7_outs : Exit → Option (List (Nat × Value)) := fun x => match x with | .normal => some [(20, .bool false)] | .panic _ => some [] | _ => none

def T_conf_Load_7_ks : Nat → Bool := ksOf [20, 175, 176, 177, 178, 179, 180, 181, 182, 183, 184, 185, 186, 187, 188, 189, 190, 191, 192, 193, 194, 195, 196, 197, 198, 199, 200, 201, 202]

def H_conf_Load_7 : Env → World → QT → Prop := unitHook 239 T_conf_Load_7_ks [(19, .pointer (some ⟨0, 0, none⟩))] T_conf_Load_7_outs fun l w C => match l with | [v0] => T_conf_Load_7 (pAddr v0) w (fun told197 w => C .normal [.bool told197] w) (fun ch w => C (.panic ch) [] w) | _ => False

theorem T_conf_Load_7_hl : allP (hokL Tryz.prog (hookAt []) (at_ (bodyOf Tryz.f33) [1, 1, 1, 1, 1, 1, 1, 1, 1, 0, 1, 0, 0, 1, 0, 0, 1, 1, 1, 0]) 2095694) = (True) := by kernel_rfl
theorem T_conf_Load_7_hok : HOk Tryz.prog (hookAt []) (at_ (bodyOf Tryz.f33) [1, 1, 1, 1, 1, 1, 1, 1, 1, 0, 1, 0, 0, 1, 0, 0, 1, 1, 1, 0]) 2095694 := HOk_of _ _ (by rw [T_conf_Load_7_hl]; exact trivial)

theorem T_conf_Load_7_eq (C : Conts) (x190 : Addr) (w : World) : vcCode Tryz.prog (hookAt []) (at_ (bodyOf Tryz.f33) [1, 1, 1, 1, 1, 1, 1, 1, 1, 0, 1, 0, 0, 1, 0, 0, 1, 1, 1, 0]) 2095694 ⟨[(19, .pointer (some x190))], 239, []⟩ w (unitQ T_conf_Load_7_outs C) = T_conf_Load_7 x190 w (fun told198 w => C .normal [.bool told198] w) (fun ch w => C (.panic ch) [] w) := by kernel_rfl

theorem T_conf_Load_7_ok : UnitOk Tryz.prog H_conf_Load_7 (at_ (bodyOf Tryz.f33) [1, 1, 1, 1, 1, 1, 1, 1, 1, 0, 1, 0, 0, 1, 0, 0, 1, 1, 1, 0]) 2095694 := unit_ok (H := (hookAt [])) (by kernel_rfl) T_conf_Load_7_hok fun l w C hk => by
    obtain ⟨v0, l_v0, rfl, k_v0, hk_v0⟩ := Kinds.cons_ hk
    obtain ⟨x190, rfl⟩ := kind_addr k_v0
    obtain rfl := Kinds.nil_ hk_v0
    exact T_conf_Load_7_eq C x190 w

def T_conf_Load_5_body (X : Int → Int → World → Prop) (least154 : Int) (n155 : Int) (r156 : Addr) (s157 : Addr) (ok158 : Addr) (w : World) (Kn : World → Prop) (Kp : List PanicEntry → World → Prop)  : Prop :=
  T_conf_Load_6 r156 n155 w (fun b166 w167 => if b166 = true then (Calls Tryz.prog 63 #[.pointer (some r156), .int .i64 1099511627776] w167 (ret (fun r168 w169 => ∃ x170 : Int, r168 = .int .i64 x170 ∧ Calls Tryz.prog 63 #[.pointer (some r156), .int .i64 1099511627776] w169 (ret (fun r171 w172 => ∃ x173 : Int, r171 = .int .i64 x173 ∧ Calls Tryz.prog 63 #[.pointer (some r156), .int .i64 1099511627776] w172 (ret (fun r174 w175 => ∃ x176 : Int, r174 = .int .i64 x176 ∧ Calls Tryz.prog 63 #[.pointer (some r156), .int .i64 1099511627776] w175 (ret (fun r177 w178 => ∃ x179 : Int, r177 = .int .i64 x179 ∧ let w180 : World := w178.alloc (.cells #[.int .i64 0, .int .i64 0, .int .i64 0] 91)
  (.agg #[.int .i64 x173, .int .i64 x176, .int .i64 x179] : Value).cells.size = 3 ∧ wrOk w180 (⟨w178.heap.size, 0, none⟩ : Addr) (.agg #[.int .i64 x173, .int .i64 x176, .int .i64 x179]) ∧ let w181 : World := wr w180 (⟨w178.heap.size, 0, none⟩ : Addr) (.agg #[.int .i64 x173, .int .i64 x176, .int .i64 x179])
  let w182 : World := w181.drew
  ∃ p183 : Option Addr, rd w182 s157 (.pointer p183) ∧ ∃ a184, p183 = some a184 ∧ ∃ m185 : Option Nat, rd w182 (a184.add 3) (.map m185) ∧ ∃ x186 : Int, ∃ x187 : Int, ∃ x188 : Int, rd w182 (⟨w178.heap.size, 0, none⟩ : Addr) (.agg #[.int .i64 x186, .int .i64 x187, .int .i64 x188]) ∧ runV Tryz.prog (Instr.mapUpdate 77 (.map m185) (.int .i64 x170) (.agg #[.int .i64 x186, .int .i64 x187, .int .i64 x188])) w182 (fun _ w189 => (True) ∧ T_conf_Load_7 (⟨w178.heap.size, 0, none⟩ : Addr) w189 (fun told199 w200 => let w201 : World := w200.drew
  ∃ b202 : Bool, rd w201 ok158 (.bool b202) ∧ if b202 = true then (if (decide ((x170 : Int) > least154)) = true then (if (decide ((x170 : Int) ≤ 32)) = true then (∃ x203 : Int, rd w201 (⟨w178.heap.size, 0, none⟩ : Addr) (.int .i64 x203) ∧ if (decide ((x203 : Int) > 0)) = true then (if told199 = true then (∃ x204 : Int, rd w201 (((⟨w178.heap.size, 0, none⟩ : Addr).add 1).add 1) (.int .i64 x204) ∧ ∃ p205 : Option Addr, rd w201 s157 (.pointer p205) ∧ ∃ a206, p205 = some a206 ∧ ∃ x207 : Int, rd w201 a206 (.int .i64 x207) ∧ (.bool (decide ((x204 : Int) ≤ x207)) : Value).cells.size = 1 ∧ wrOk w201 ok158 (.bool (decide ((x204 : Int) ≤ x207))) ∧ let w208 : World := wr w201 ok158 (.bool (decide ((x204 : Int) ≤ x207)))
  (True) ∧ X x170 (IntKind.wrap .i64 ((n155 : Int) - 1)) w208) else ((.bool false : Value).cells.size = 1 ∧ wrOk w201 ok158 (.bool false) ∧ let w209 : World := wr w201 ok158 (.bool false)
  (True) ∧ X x170 (IntKind.wrap .i64 ((n155 : Int) - 1)) w209)) else ((.bool false : Value).cells.size = 1 ∧ wrOk w201 ok158 (.bool false) ∧ let w210 : World := wr w201 ok158 (.bool false)
  (True) ∧ X x170 (IntKind.wrap .i64 ((n155 : Int) - 1)) w210)) else ((.bool false : Value).cells.size = 1 ∧ wrOk w201 ok158 (.bool false) ∧ let w211 : World := wr w201 ok158 (.bool false)
  (True) ∧ X x170 (IntKind.wrap .i64 ((n155 : Int) - 1)) w211)) else ((.bool false : Value).cells.size = 1 ∧ wrOk w201 ok158 (.bool false) ∧ let w212 : World := wr w201 ok158 (.bool false)
  (True) ∧ X x170 (IntKind.wrap .i64 ((n155 : Int) - 1)) w212)) else ((.bool false : Value).cells.size = 1 ∧ wrOk w201 ok158 (.bool false) ∧ let w213 : World := wr w201 ok158 (.bool false)
  (True) ∧ X x170 (IntKind.wrap .i64 ((n155 : Int) - 1)) w213)) Kp) Kp) Kp)) Kp)) Kp)) Kp)) else (Kn  w167)) Kp

def T_conf_Load_5 (least154 : Int) (n155 : Int) (r156 : Addr) (s157 : Addr) (ok158 : Addr) (w : World) (Kn : World → Prop) (Kp : List PanicEntry → World → Prop) : Prop :=
  ∀ X : Int → Int → World → Prop, (∀ (least154 : Int) (n155 : Int) (w : World), T_conf_Load_5_body X least154 n155 r156 s157 ok158 w Kn Kp → X least154 n155 w) → X least154 n155 w

def T_conf_Load_5_outs : Exit → Option (List (Nat × Value)) := fun x => match x with | .normal => some [] | .panic _ => some [] | _ => none

def T_conf_Load_5_ks : Nat → Bool := ksOf [16, 17, 18, 19, 20, 148, 149, 150, 151, 152, 153, 154, 155, 156, 157, 158, 159, 160, 161, 162, 163, 164, 165, 166, 167, 168, 169, 170, 171, 172, 173, 174, 175, 176, 177, 178, 179, 180, 181, 182, 183, 184, 185, 186, 187, 188, 189, 190, 191, 192, 193, 194, 195, 196, 197, 198, 199, 200, 201, 202, 203, 204, 205, 206, 207, 208, 209, 210, 211, 212, 213, 214, 215, 216, 217, 218, 219, 220, 221, 222, 223, 224, 225, 226, 227, 228, 229, 230, 231]

def H_conf_Load_5 : Env → World → QT → Prop := unitHook 239 T_conf_Load_5_ks [(16, .int .i64 0), (17, .int .i64 0), (4, .pointer (some ⟨0, 0, none⟩)), (5, .pointer (some ⟨0, 0, none⟩)), (6, .pointer (some ⟨0, 0, none⟩))] T_conf_Load_5_outs fun l w C => match l with | [v0, v1, v2, v3, v4] => T_conf_Load_5 (pInt v0) (pInt v1) (pAddr v2) (pAddr v3) (pAddr v4) w (fun w => C .normal [] w) (fun ch w => C (.panic ch) [] w) | _ => False

theorem T_conf_Load_5_hl : allP (hokL Tryz.prog (hookAt [(65488, H_conf_Load_6), (2095694, H_conf_Load_7)]) (at_ (bodyOf Tryz.f33) [1, 1, 1, 1, 1, 1, 1, 1, 1, 0, 1, 0, 0]) 16372) = (UnitOk Tryz.prog H_conf_Load_6 (at_ (bodyOf Tryz.f33) [1, 1, 1, 1, 1, 1, 1, 1, 1, 0, 1, 0, 0, 0, 0]) 65488 ∧ UnitOk Tryz.prog H_conf_Load_7 (at_ (bodyOf Tryz.f33) [1, 1, 1, 1, 1, 1, 1, 1, 1, 0, 1, 0, 0, 1, 0, 0, 1, 1, 1, 0]) 2095694 ∧ True) := by kernel_rfl
theorem T_conf_Load_5_hok : HOk Tryz.prog (hookAt [(65488, H_conf_Load_6), (2095694, H_conf_Load_7)]) (at_ (bodyOf Tryz.f33) [1, 1, 1, 1, 1, 1, 1, 1, 1, 0, 1, 0, 0]) 16372 := HOk_of _ _ (by rw [T_conf_Load_5_hl]; exact ⟨T_conf_Load_6_ok, T_conf_Load_7_ok, trivial⟩)

theorem T_conf_Load_5_eq (C : Conts) (X : List Value → World → Prop) (least154 : Int) (n155 : Int) (r156 : Addr) (s157 : Addr) (ok158 : Addr) (w : World) : vcCode Tryz.prog (hookAt [(65488, H_conf_Load_6), (2095694, H_conf_Load_7)]) (at_ (bodyOf Tryz.f33) [1, 1, 1, 1, 1, 1, 1, 1, 1, 0, 1, 0, 0]) 16372 ⟨[(16, .int .i64 least154), (17, .int .i64 n155)] ++ [(4, .pointer (some r156)), (5, .pointer (some s157)), (6, .pointer (some ok158))], 239, []⟩ w (seqQ (fun e w => takeAll e [(16, .int .i64 0), (17, .int .i64 0)] fun l => X l w) (blockQ 4 (unitQ T_conf_Load_5_outs C))) = T_conf_Load_5_body (fun least154 n155 w => X [.int .i64 least154, .int .i64 n155] w) least154 n155 r156 s157 ok158 w (fun w => C .normal [] w) (fun ch w => C (.panic ch) [] w) := by kernel_rfl

theorem T_conf_Load_5_ok : UnitOk Tryz.prog H_conf_Load_5 (at_ (bodyOf Tryz.f33) [1, 1, 1, 1, 1, 1, 1, 1, 1, 0, 1]) 4093 := by
  have hc : at_ (bodyOf Tryz.f33) [1, 1, 1, 1, 1, 1, 1, 1, 1, 0, 1] = .block 4 (.loop (at_ (bodyOf Tryz.f33) [1, 1, 1, 1, 1, 1, 1, 1, 1, 0, 1, 0, 0])) := by kernel_rfl
  rw [hc]
  refine loop_unit_ok (carr := [(16, .int .i64 0), (17, .int .i64 0)]) (fix := [(4, .pointer (some ⟨0, 0, none⟩)), (5, .pointer (some ⟨0, 0, none⟩)), (6, .pointer (some ⟨0, 0, none⟩))]) (ks := T_conf_Load_5_ks) (H := (hookAt [(65488, H_conf_Load_6), (2095694, H_conf_Load_7)])) (B := fun C X l u w => match l, u with | [v0, v1], [v2, v3, v4] => T_conf_Load_5_body (fun least154 n155 w => X [.int .i64 least154, .int .i64 n155] w) (pInt v0) (pInt v1) (pAddr v2) (pAddr v3) (pAddr v4) w (fun w => C .normal [] w) (fun ch w => C (.panic ch) [] w) | _, _ => False) (by kernel_rfl) (by kernel_rfl) T_conf_Load_5_hok ?_ ?_
  · intro C X l u w hl hu
    obtain ⟨v0, l_v0, rfl, k_v0, hl_v0⟩ := Kinds.cons_ hl
    obtain ⟨least154, rfl⟩ := kind_int k_v0
    obtain ⟨v1, l_v1, rfl, k_v1, hl_v1⟩ := Kinds.cons_ hl_v0
    obtain ⟨n155, rfl⟩ := kind_int k_v1
    obtain rfl := Kinds.nil_ hl_v1
    obtain ⟨v2, l_v2, rfl, k_v2, hu_v2⟩ := Kinds.cons_ hu
    obtain ⟨r156, rfl⟩ := kind_addr k_v2
    obtain ⟨v3, l_v3, rfl, k_v3, hu_v3⟩ := Kinds.cons_ hu_v2
    obtain ⟨s157, rfl⟩ := kind_addr k_v3
    obtain ⟨v4, l_v4, rfl, k_v4, hu_v4⟩ := Kinds.cons_ hu_v3
    obtain ⟨ok158, rfl⟩ := kind_addr k_v4
    obtain rfl := Kinds.nil_ hu_v4
    exact T_conf_Load_5_eq C X least154 n155 r156 s157 ok158 w
  · intro l u w C hl hu
    obtain ⟨v0, l_v0, rfl, k_v0, hl_v0⟩ := Kinds.cons_ hl
    obtain ⟨least154, rfl⟩ := kind_int k_v0
    obtain ⟨v1, l_v1, rfl, k_v1, hl_v1⟩ := Kinds.cons_ hl_v0
    obtain ⟨n155, rfl⟩ := kind_int k_v1
    obtain rfl := Kinds.nil_ hl_v1
    obtain ⟨v2, l_v2, rfl, k_v2, hu_v2⟩ := Kinds.cons_ hu
    obtain ⟨r156, rfl⟩ := kind_addr k_v2
    obtain ⟨v3, l_v3, rfl, k_v3, hu_v3⟩ := Kinds.cons_ hu_v2
    obtain ⟨s157, rfl⟩ := kind_addr k_v3
    obtain ⟨v4, l_v4, rfl, k_v4, hu_v4⟩ := Kinds.cons_ hu_v3
    obtain ⟨ok158, rfl⟩ := kind_addr k_v4
    obtain rfl := Kinds.nil_ hu_v4
    constructor
    · intro h X hX
      exact h (fun least154 n155 w => X [.int .i64 least154, .int .i64 n155] w) (fun least154 n155 w hb => hX [.int .i64 least154, .int .i64 n155] w ⟨rfl, rfl, trivial⟩ hb)
    · intro h X hX
      exact h (fun l w => match l with | [v0, v1] => X (pInt v0) (pInt v1) w | _ => True) (fun l w hl hb => by
        obtain ⟨v0, l_v0, rfl, k_v0, hl_v0⟩ := Kinds.cons_ hl
        obtain ⟨least154, rfl⟩ := kind_int k_v0
        obtain ⟨v1, l_v1, rfl, k_v1, hl_v1⟩ := Kinds.cons_ hl_v0
        obtain ⟨n155, rfl⟩ := kind_int k_v1
        obtain rfl := Kinds.nil_ hl_v1
        exact hX least154 n155 w hb)

def T_conf_Load (b1a : Option Addr) (b1l : Nat) (b1c : Nat) (w : World) (R : Ending → World → Prop) : Prop :=
  let w2 : World := w.alloc (.cells #[.slice b1a b1l b1c, .int .i64 0, .int .i64 0] 116)
  Calls Tryz.prog 35 #[] w2 (ret (fun r3 w4 => ∃ p5 : Option Addr, r3 = .pointer p5 ∧ let w6 : World := w4.alloc (.cells #[.pointer none] 23)
  (.pointer p5 : Value).cells.size = 1 ∧ wrOk w6 (⟨w4.heap.size, 0, none⟩ : Addr) (.pointer p5) ∧ let w7 : World := wr w6 (⟨w4.heap.size, 0, none⟩ : Addr) (.pointer p5)
  let w8 : World := w7.drew
  ∃ p9 : Option Addr, rd w8 (⟨w4.heap.size, 0, none⟩ : Addr) (.pointer p9) ∧ Calls Tryz.prog 63 #[.pointer (some (⟨w.heap.size, 0, none⟩ : Addr)), .int .i64 1099511627776] w8 (ret (fun r10 w11 => ∃ x12 : Int, r10 = .int .i64 x12 ∧ (rd w11 (⟨w4.heap.size, 0, none⟩ : Addr) (.pointer p9) ∧ True) ∧ ∃ a13, p9 = some a13 ∧ (.int .i64 x12 : Value).cells.size = 1 ∧ wrOk w11 a13 (.int .i64 x12) ∧ let w14 : World := wr w11 a13 (.int .i64 x12)
  (True) ∧ let w15 : World := w14.alloc (.cells #[.bool false] 4)
  (.bool true : Value).cells.size = 1 ∧ wrOk w15 (⟨w14.heap.size, 0, none⟩ : Addr) (.bool true) ∧ let w16 : World := wr w15 (⟨w14.heap.size, 0, none⟩ : Addr) (.bool true)
  Calls Tryz.prog 63 #[.pointer (some (⟨w.heap.size, 0, none⟩ : Addr)), .int .i64 32] w16 (ret (fun r17 w18 => ∃ x19 : Int, r17 = .int .i64 x19 ∧ T_conf_Load_1 (ByteArray.mk #[]) x19 (⟨w.heap.size, 0, none⟩ : Addr) (⟨w4.heap.size, 0, none⟩ : Addr) (⟨w14.heap.size, 0, none⟩ : Addr) w18 (fun w62 => let w63 : World := w62.alloc (.cells #[.string (ByteArray.mk #[]), .string (ByteArray.mk #[])] 89)
  (.agg #[.string (ByteArray.mk #[]), .string (ByteArray.mk #[])] : Value).cells.size = 2 ∧ wrOk w63 (⟨w62.heap.size, 0, none⟩ : Addr) (.agg #[.string (ByteArray.mk #[]), .string (ByteArray.mk #[])]) ∧ let w64 : World := wr w63 (⟨w62.heap.size, 0, none⟩ : Addr) (.agg #[.string (ByteArray.mk #[]), .string (ByteArray.mk #[])])
  Calls Tryz.prog 63 #[.pointer (some (⟨w.heap.size, 0, none⟩ : Addr)), .int .i64 64] w64 (ret (fun r65 w66 => ∃ x67 : Int, r65 = .int .i64 x67 ∧ T_conf_Load_3 x67 (⟨w.heap.size, 0, none⟩ : Addr) (⟨w4.heap.size, 0, none⟩ : Addr) (⟨w14.heap.size, 0, none⟩ : Addr) (⟨w62.heap.size, 0, none⟩ : Addr) w66 (fun w150 => Calls Tryz.prog 63 #[.pointer (some (⟨w.heap.size, 0, none⟩ : Addr)), .int .i64 32] w150 (ret (fun r151 w152 => ∃ x153 : Int, r151 = .int .i64 x153 ∧ T_conf_Load_5 0 x153 (⟨w.heap.size, 0, none⟩ : Addr) (⟨w4.heap.size, 0, none⟩ : Addr) (⟨w14.heap.size, 0, none⟩ : Addr) w152 (fun w214 => Calls Tryz.prog 66 #[.pointer (some (⟨w.heap.size, 0, none⟩ : Addr)), .func (.func 71) #[] #[.pointer (some (⟨w14.heap.size, 0, none⟩ : Addr)), .pointer (some (⟨w4.heap.size, 0, none⟩ : Addr))]] w214 (ret (fun r215 w216 => ∃ x217 : Int, r215 = .int .i64 x217 ∧ if ((x217 : Int) != 0) = true then (R (.returned (.tuple #[.pointer none, .int .i64 x217])) w216) else (∃ p218 : Option Addr, rd w216 (⟨w4.heap.size, 0, none⟩ : Addr) (.pointer p218) ∧ R (.returned (.tuple #[.pointer p218, .int .i64 0])) w216)) (pan R))) (pan R)) (pan R))) (pan R)) (pan R))) (pan R)) (pan R))) (pan R))) (pan R))

theorem T_conf_Load_hl : allP (hokL Tryz.prog (hookAt [(253, H_conf_Load_1), (1021, H_conf_Load_3), (4093, H_conf_Load_5)]) (bodyOf Tryz.f33) 1) = (UnitOk Tryz.prog H_conf_Load_1 (at_ (bodyOf Tryz.f33) [1, 1, 1, 1, 1, 0, 1]) 253 ∧ UnitOk Tryz.prog H_conf_Load_3 (at_ (bodyOf Tryz.f33) [1, 1, 1, 1, 1, 1, 1, 0, 1]) 1021 ∧ UnitOk Tryz.prog H_conf_Load_5 (at_ (bodyOf Tryz.f33) [1, 1, 1, 1, 1, 1, 1, 1, 1, 0, 1]) 4093 ∧ True) := by kernel_rfl

theorem T_conf_Load_eq (b1a : Option Addr) (b1l : Nat) (b1c : Nat) (w : World) (R : Ending → World → Prop) : vcCode Tryz.prog (hookAt [(253, H_conf_Load_1), (1021, H_conf_Load_3), (4093, H_conf_Load_5)]) (bodyOf Tryz.f33) 1 ⟨argEnv [.slice b1a b1l b1c] 0, Tryz.f33.ntmps, []⟩ w (finQ Tryz.prog Tryz.f33.results.toList R) = T_conf_Load b1a b1l b1c w R := by kernel_rfl

theorem T_conf_Load_b : Tryz.f33.body = some (bodyOf Tryz.f33) := by kernel_rfl
theorem T_conf_Load_s : (quietSel (bodyOf Tryz.f33) && Nat.ble 1 Tryz.f33.ntmps) = true := by kernel_rfl

theorem C_conf_Load {b1a : Option Addr} {b1l : Nat} {b1c : Nat} {w : World} {R : Ending → World → Prop} (h : T_conf_Load b1a b1l b1c w R) : Calls Tryz.prog 33 #[.slice b1a b1l b1c] w R :=
  calls_of_text (args := [.slice b1a b1l b1c]) mixed Tryz.func33 T_conf_Load_b T_conf_Load_s (HOk_of _ _ (by rw [T_conf_Load_hl]; exact ⟨T_conf_Load_1_ok, T_conf_Load_3_ok, T_conf_Load_5_ok, trivial⟩)) (by rw [T_conf_Load_eq]; exact h)

end Go.Proofs.YtcpmfjclkdjfmaaGreat

/-
  conf.Load: pools, read one by one into the store's map.
-/
namespace Go.Cm
/-- What Load asks of pools, behind a name. -/
def okP : Bs → List Pl → Bool
  | _, [] => true
  | last, x :: r => isName x.name && (decide (last < x.name) && (decide (chkT x.tg = 0) && okP x.name r))
theorem gt_dec (a b : Bs) : (!(decide (a < b) || decide (a = b))) = decide (b < a) := by
  rw [Bool.eq_iff_iff]
  simp only [Bool.not_eq_true', Bool.or_eq_false_iff, decide_eq_false_iff_not, decide_eq_true_eq]
  constructor
  · rintro ⟨h1, h2⟩
    rcases slt_tri a b with h | h | h
    · exact absurd h h1
    · exact absurd h h2
    · exact h
  · intro h
    exact ⟨fun h1 => slt_irrefl _ (slt_trans h h1), fun h1 => slt_irrefl b (by rw [h1] at h; exact h)⟩
end Go.Cm
namespace Go.Vc
open Go Go.Proofs Go.Proofs.YtcpmfjclkdjfmaaGreat Go.RowKit
set_option maxRecDepth 100000
section
variable {E w : World} {L : List Asrt} {R : Ending → World → Prop} {F G : Fz} {q : Sl} {b : Cm.Bs} {st : Cm.Ps} {p r b0 bp mp mr mc : Nat} {v : Int} {Mp : List (Cm.Bs × PV)} {Mr : List (Pr × Cm.Bs)} {Mc : List (Int × LV)}
theorem rdr_err {ty : Nat} (h : St E (rdrA ty r q b st :: L) w) : ∃ e : Int, rd w ((⟨r, 0, none⟩ : Addr).add 2) (.int .i64 e) ∧ (e == 0) = !Cm.bad st := by
  obtain ⟨a, e, ho, h0⟩ := h.rdr_open
  refine ⟨e, rd_fld h0.at_blk rfl rfl, ?_⟩
  cases st with
  | ok r => simp [Cm.bad, ho.1]
  | error x => simp [Cm.bad, ho.1, ho.2]
abbrev ldL (r b0 bp p mp mr mc : Nat) (q : Sl) (b : Cm.Bs) (st : Cm.Ps) (ok : Bool) (v : Int) (Mp : List (Cm.Bs × PV)) (Mr : List (Pr × Cm.Bs)) (Mc : List (Int × LV)) (F : Fz) (L : List Asrt) : List Asrt :=
  rdrA 116 r q b st :: blkL b0 4 [.bool ok] :: blkL bp 23 [.pointer (some ⟨p, 0, none⟩)] :: st4 p v mp mr mc Mp Mr Mc (kn F :: L)
theorem mget_mset2 {κ ν : Type} [DecidableEq κ] {m : List (κ × ν)} (hn : (m.map (·.1)).Nodup) (a : κ) (v : ν) : mget (mset m a v) a = some v :=
  mget_mem (e := (a, v)) (nodup_mset hn a v) ((mset_perm hn a v).mem_iff.2 List.mem_cons_self)
theorem pools_more {xs : List Cm.Pl} {x : Cm.Bs} {tg : List Cm.Tgt} {s : Sl} (h : poolsR F Mp xs) (hn : (Mp.map (·.1)).Nodup) (hx : ∀ y ∈ xs, y.name ≠ x) (hr : RdF F s.1 s.2.1 2 (tg.flatMap tV)) : poolsR F (mset Mp x (s, tg)) (xs ++ [⟨x, tg⟩]) := by
  have hni : x ∉ Mp.map (·.1) := fun hm => by
    obtain ⟨e, he, h1⟩ := List.mem_map.1 hm
    exact hx (plOf e) (h.2.mem_iff.1 (List.mem_map_of_mem he)) h1
  have hp : (mset Mp x (s, tg)).Perm ((x, s, tg) :: Mp) := by
    have := mset_perm hn x (s, tg)
    rwa [butM_self hni] at this
  refine ⟨fun e he => ?_, ?_⟩
  · rcases List.mem_cons.1 (hp.mem_iff.1 he) with rfl | he
    · exact hr
    · exact h.1 e he
  · refine (hp.map plOf).trans ?_
    refine List.Perm.trans (List.Perm.cons _ h.2) ?_
    exact (List.perm_append_singleton _ _).symm
set_option maxHeartbeats 4000000 in
theorem load1_spec {Kn : World → Prop} {Kp : List PanicEntry → World → Prop} {n0 : Nat} (hs : Src F q b) (hn0 : n0 ≤ 1000) (h : St E (ldL r b0 bp p mp mr mc q b st true v [] Mr Mc F L) w)
    (k : ∀ (G : Fz) (w' : World) (Mp : List (Cm.Bs × PV)), Fz.le F G → (Cm.okP [] (Cm.rMany Cm.rPl n0 st).1 = true → poolsR G Mp (Cm.rMany Cm.rPl n0 st).1) → St E (ldL r b0 bp p mp mr mc q b (Cm.rMany Cm.rPl n0 st).2 (Cm.okP [] (Cm.rMany Cm.rPl n0 st).1) v Mp Mr Mc G L) w' → Kn w') :
    T_conf_Load_1 (bs []) (n0 : Int) ⟨r, 0, none⟩ ⟨bp, 0, none⟩ ⟨b0, 0, none⟩ w Kn Kp := by
  unfold T_conf_Load_1
  intro X hX
  have key : ∀ (n : Nat) (st : Cm.Ps) (last : Cm.Bs) (ok : Bool) (xs : List Cm.Pl) (Mp : List (Cm.Bs × PV)) (F : Fz) (w : World), n ≤ 1000 → Src F q b → (ok = true → poolsR F Mp xs ∧ ∀ y ∈ xs, y.name = last ∨ y.name < last) → St E (ldL r b0 bp p mp mr mc q b st ok v Mp Mr Mc F L) w →
      (∀ (G : Fz) (w' : World) (Mp' : List (Cm.Bs × PV)), Fz.le F G → ((ok && Cm.okP last (Cm.rMany Cm.rPl n st).1) = true → poolsR G Mp' (xs ++ (Cm.rMany Cm.rPl n st).1)) → St E (ldL r b0 bp p mp mr mc q b (Cm.rMany Cm.rPl n st).2 (ok && Cm.okP last (Cm.rMany Cm.rPl n st).1) v Mp' Mr Mc G L) w' → Kn w') →
      X (bs last) (n : Int) w := by
    intro n
    induction n with
    | zero =>
      intro st last ok xs Mp F w hn hs hok h k
      refine hX _ _ _ ?_
      unfold T_conf_Load_1_body T_conf_Load_2
      refine ite_d (fun hh => absurd hh (by omega)) fun _ => ite_b (fun hh => by cases hh) fun _ => k F w Mp (Fz.le_refl F) (fun ho => ?_) ?_
      · rw [show (Cm.rMany Cm.rPl 0 st).1 = [] from rfl, List.append_nil]
        exact (hok (by simpa [Cm.rMany, Cm.okP] using ho)).1
      · have e : (ok && Cm.okP last (Cm.rMany Cm.rPl 0 st).1) = ok := by simp [Cm.rMany, Cm.okP]
        rw [e]
        exact h
    | succ n ihn =>
      intro st last ok xs Mp F w hn hs hok h k
      refine hX _ _ _ ?_
      unfold T_conf_Load_1_body T_conf_Load_2
      obtain ⟨er, he, hb⟩ := rdr_err h
      refine ite_d (fun _ => ⟨_, rfl, er, he, ?_⟩) fun hh => absurd (show ((n + 1 : Nat) : Int) > 0 by omega) hh
      rw [hb]
      cases hbad : Cm.bad st with
      | true =>
        have em : Cm.rMany Cm.rPl (n + 1) st = ([], st) := by unfold Cm.rMany; rw [hbad]; rfl
        rw [em] at k
        refine ite_b (fun hh => by cases hh) fun _ => k F w Mp (Fz.le_refl F) (fun ho => ?_) ?_
        · rw [List.append_nil]
          exact (hok (by simpa [Cm.okP] using ho)).1
        · have e : (ok && Cm.okP last []) = ok := by simp [Cm.okP]
          rw [e]
          exact h
      | false =>
        have em : Cm.rMany Cm.rPl (n + 1) st = ((Cm.rPl st).1 :: (Cm.rMany Cm.rPl n (Cm.rPl st).2).1, (Cm.rMany Cm.rPl n (Cm.rPl st).2).2) := by
          conv => lhs; unfold Cm.rMany
          rw [hbad]; rfl
        rw [em] at k
        refine ite_b (fun _ => ?_) fun hh => by cases hh
        refine rtext_spec hs at6 h fun w35 h35 => ⟨_, rfl, ?_⟩
        intro w37
        have h37 : St E (ldL r b0 bp p mp mr mc q b (Cm.rText st).2 ok v Mp Mr Mc F L) w37 := h35.drew
        clear_value w37
        have hnl := rText_len st
        refine ⟨_, rd_cell h37.f2.at_blk rfl rfl, _, rfl, _, rd_fld h37.f3.at_blk rfl rfl, ?_⟩
        refine rtargets_spec hs at6 h37 fun w42 s h42 => ⟨_, _, _, rfl, ⟨rd_fld h42.f4.at_blk rfl rfl, rd_cell h42.f3.at_blk rfl rfl, trivial⟩, ?_⟩
        have hx : Cm.rPl st = (⟨(Cm.rText st).1, (Cm.rTgs (Cm.rText st).2).1⟩, (Cm.rTgs (Cm.rText st).2).2) := rfl
        rw [hx] at k
        have hsh := rTgs_short (Cm.rText st).2
        generalize (Cm.rTgs (Cm.rText st).2).1 = tg at *
        generalize (Cm.rTgs (Cm.rText st).2).2 = st2 at *
        generalize (Cm.rText st).1 = x at *
        obtain ⟨G, hG, h43, hrt⟩ := St.freezeT (h42.sel 9 [0, 8, 1, 2, 3, 4, 5, 6, 7])
        have h43 : St E (kn G :: rdrA 116 r q b st2 :: blkL b0 4 [.bool ok] :: blkL bp 23 [.pointer (some ⟨p, 0, none⟩)] :: st4 p v mp mr mc Mp Mr Mc L) w42 := h43
        have hnd : (Mp.map (·.1)).Nodup := St.nodup h43.f5
        obtain ⟨w44, hr44, h44⟩ := mapUpdate_run strLaw und_pools h43.f5 x ((s, tg) : PV)
        have h45 : St E (ldL r b0 bp p mp mr mc q b st2 ok v (mset Mp x (s, tg)) Mr Mc G L) w44 := St.sel (L := mapA mp encS pvV (mset Mp x (s, tg)) :: kn G :: rdrA 116 r q b st2 :: blkL b0 4 [.bool ok] :: blkL bp 23 [.pointer (some ⟨p, 0, none⟩)] :: blkL p 79 (stL v mp mr mc) :: mapA mr encP encS Mr :: mapA mc encI lvV Mc :: L) h44 8 [2, 3, 4, 5, 0, 6, 7, 1]
        -- one step on: with what 'ok' has become
        have fin : ∀ (w : World) (val : Bool), val = (ok && (Cm.isName x && (decide (last < x) && decide (Cm.chkT tg = 0)))) → St E (ldL r b0 bp p mp mr mc q b st2 ok v (mset Mp x (s, tg)) Mr Mc G L) w →
            (.bool val : Value).cells.size = 1 ∧ wrOk w (⟨b0, 0, none⟩ : Addr) (.bool val) ∧ let w58 : World := wr w (⟨b0, 0, none⟩ : Addr) (.bool val)
            X (bs x) (IntKind.wrap .i64 (((n + 1 : Nat) : Int) - 1)) w58 := fun w val hval h => by
          refine ⟨rfl, wrOk_cell h.f1.at_blk (by simp) rfl, ?_⟩
          intro w58
          have h58 : St E (blkL b0 4 [.bool val] :: rdrA 116 r q b st2 :: blkL bp 23 [.pointer (some ⟨p, 0, none⟩)] :: st4 p v mp mr mc (mset Mp x (s, tg)) Mr Mc (kn G :: L)) w58 := h.f1.wr_cell (off := 0) (v := .bool val) rfl
          rw [wrap_pred (by omega) (by omega)]
          refine ihn st2 x val (xs ++ [⟨x, tg⟩]) (mset Mp x (s, tg)) G w58 (by omega) (hs.mono hG) (fun ho => ?_) h58.f1 fun G' w' Mp' hG' hp' h' => ?_
          · rw [hval] at ho
            simp only [Bool.and_eq_true, decide_eq_true_eq] at ho
            obtain ⟨h1, h2, h3, h4⟩ := ho
            obtain ⟨hp, hle⟩ := hok h1
            refine ⟨pools_more (hp.mono hG) hnd (fun y hy e => ?_) hrt, fun y hy => ?_⟩
            · rcases hle y hy with h5 | h5
              · rw [← h5, e] at h3; exact Cm.slt_irrefl _ h3
              · rw [e] at h5; exact Cm.slt_irrefl _ (Cm.slt_trans h3 h5)
            · rcases List.mem_append.1 hy with hy | hy
              · refine .inr ?_
                rcases hle y hy with h5 | h5
                · rw [h5]; exact h3
                · exact Cm.slt_trans h5 h3
              · rw [List.mem_singleton.1 hy]; exact .inl rfl
          · have e : (val && Cm.okP x (Cm.rMany Cm.rPl n st2).1) = (ok && Cm.okP last (⟨x, tg⟩ :: (Cm.rMany Cm.rPl n st2).1)) := by
              rw [hval]
              simp only [Cm.okP, Bool.and_assoc]
            rw [e] at hp' h'
            refine k G' w' Mp' (Fz.le_trans hG hG') (fun ho => ?_) h'
            have := hp' ho
            rwa [List.append_assoc] at this
        refine runV_ok hr44 ⟨trivial, ?_⟩
        refine ⟨_, rd_cell h45.f1.at_blk rfl rfl, ite_b (fun ho => ?_) fun ho => fin _ _ (by rw [ho]; rfl) h45⟩
        refine poolName_spec h45 (by unfold huge; omega) fun w47 h47 => ⟨_, rfl, ite_b (fun h1 => ?_) fun h1 => fin _ _ (by rw [h1, Bool.false_and, Bool.and_false]) h47⟩
        rw [str_beq, bs_toList, bs_toList, bytesLess_eq, Cm.gt_dec]
        refine ite_d (fun h2 => ?_) fun h2 => fin _ _ (by rw [decide_eq_false h2, Bool.false_and, Bool.and_false, Bool.and_false]) h47
        refine ⟨_, rd_cell h47.f2.at_blk rfl rfl, _, rfl, _, rd_fld h47.f3.at_blk rfl rfl, ?_⟩
        refine runV_ok (look_pool (v := (s, tg)) h47.f4 (mget_mset2 hnd x (s, tg))) ⟨_, _, _, rfl, ?_⟩
        refine targets_spec (s := s) at7 h47 hrt hsh.ok fun w56 h56 => ⟨_, rfl, ?_⟩
        exact fin _ _ (by rw [ho, h1, decide_eq_true h2, eq_dec]; rfl) h56
  refine key n0 st [] true [] [] F w hn0 hs (fun _ => ⟨⟨fun e he => (nomatch he), List.Perm.nil⟩, fun y hy => (nomatch hy)⟩) h fun G w' Mp' hG hp h' => ?_
  rw [Bool.true_and] at hp h'
  exact k G w' Mp' hG hp h'
end
end Go.Vc

/-
  conf.Load: routes, read one by one into the store's map.
-/
namespace Go.Cm
/-- What Load asks of routes, behind a place. -/
def okR (ps : List Pl) : Bs → Bs → List Rt → Bool
  | _, _, [] => true
  | h, p, x :: r => ps.any (fun y => decide (y.name = x.pool)) && (isHost x.host && (isPfx x.pfx && ((decide (h < x.host) || (decide (x.host = h) && decide (p < x.pfx))) && okR ps x.host x.pfx r)))
end Go.Cm
namespace Go.Vc
open Go Go.Proofs Go.Proofs.YtcpmfjclkdjfmaaGreat Go.RowKit
set_option maxRecDepth 100000
section
variable {E w : World} {L : List Asrt} {R : Ending → World → Prop} {F G : Fz} {q : Sl} {b : Cm.Bs} {st : Cm.Ps} {p r b0 bp bw mp mr mc : Nat} {v : Int} {Mp : List (Cm.Bs × PV)} {Mr : List (Pr × Cm.Bs)} {Mc : List (Int × LV)} {ps : List Cm.Pl}
abbrev ldR (r b0 bp bw p mp mr mc : Nat) (q : Sl) (b : Cm.Bs) (st : Cm.Ps) (ok : Bool) (lh lp : Cm.Bs) (v : Int) (Mp : List (Cm.Bs × PV)) (Mr : List (Pr × Cm.Bs)) (Mc : List (Int × LV)) (F : Fz) (L : List Asrt) : List Asrt :=
  rdrA 116 r q b st :: blkL b0 4 [.bool ok] :: blkL bp 23 [.pointer (some ⟨p, 0, none⟩)] :: blkL bw 89 (celP (lh, lp)) :: st4 p v mp mr mc Mp Mr Mc (kn F :: L)
theorem routes_more {xs : List Cm.Rt} {x : Cm.Rt} (h : routesR Mr xs) (hn : (Mr.map (·.1)).Nodup) (hx : ∀ y ∈ xs, ¬ (y.host = x.host ∧ y.pfx = x.pfx)) : routesR (mset Mr (x.host, x.pfx) x.pool) (xs ++ [x]) := by
  have hni : (x.host, x.pfx) ∉ Mr.map (·.1) := fun hm => by
    obtain ⟨e, he, h1⟩ := List.mem_map.1 hm
    obtain ⟨y, hy, h2⟩ := List.mem_map.1 (List.Perm.mem_iff h |>.1 he)
    rw [← h2] at h1
    simp only [rtK, Prod.mk.injEq] at h1
    exact hx y hy h1
  have hp := mset_perm hn (x.host, x.pfx) x.pool
  rw [butM_self hni] at hp
  refine hp.trans ?_
  refine List.Perm.trans (List.Perm.cons _ h) ?_
  rw [List.map_append]
  exact (List.perm_append_singleton _ _).symm
theorem ok_place {bk t : Nat} {l : List Value} (h : St E (blkL bk t l :: L) w) (hl : l.length = 2) (x y : Cm.Bs) : wrOk w ⟨bk, 0, none⟩ (.agg #[.string (bs x), .string (bs y)]) :=
  wrOk_agg h.at_blk (xs := celP (x, y)) (by rw [hl]; simp [celP]) (by intro u hu; simp [celP] at hu; rcases hu with rfl | rfl <;> rfl)
theorem rd_place {bk t : Nat} {x y : Cm.Bs} (h : St E (blkL bk t (celP (x, y)) :: L) w) : rd w ⟨bk, 0, none⟩ (.agg #[.string (bs x), .string (bs y)]) := rd_agg (xs := celP (x, y)) h.at_blk (by intro i u hu; rw [Nat.zero_add]; exact hu)
theorem St.wr_place {bk t : Nat} {l : List Value} (h : St E (blkL bk t l :: L) w) (hl : l.length = 2) (x y : Cm.Bs) : St E (blkL bk t (celP (x, y)) :: L) (wr w ⟨bk, 0, none⟩ (.agg #[.string (bs x), .string (bs y)])) := h.wr_agg0 (xs := celP (x, y)) (by rw [hl]; rfl)
theorem some_any (hp : poolsR F Mp ps) (n : Cm.Bs) : (mget Mp n).isSome = ps.any fun y => decide (y.name = n) :=
  there_get (s := ⟨0, [], ps, []⟩) hp (n := n)
set_option maxHeartbeats 8000000 in
theorem load3_spec {Kn : World → Prop} {Kp : List PanicEntry → World → Prop} {n0 : Nat} {ok0 : Bool} (hs : Src F q b) (hn0 : n0 ≤ 1000) (hp0 : ok0 = true → poolsR F Mp ps) (h : St E (ldR r b0 bp bw p mp mr mc q b st ok0 [] [] v Mp [] Mc F L) w)
    (k : ∀ (w' : World) (Mr : List (Pr × Cm.Bs)) (lh lp : Cm.Bs), ((ok0 && Cm.okR ps [] [] (Cm.rMany Cm.rRt n0 st).1) = true → routesR Mr (Cm.rMany Cm.rRt n0 st).1) → St E (ldR r b0 bp bw p mp mr mc q b (Cm.rMany Cm.rRt n0 st).2 (ok0 && Cm.okR ps [] [] (Cm.rMany Cm.rRt n0 st).1) lh lp v Mp Mr Mc F L) w' → Kn w') :
    T_conf_Load_3 (n0 : Int) ⟨r, 0, none⟩ ⟨bp, 0, none⟩ ⟨b0, 0, none⟩ ⟨bw, 0, none⟩ w Kn Kp := by
  unfold T_conf_Load_3
  intro X hX
  have key : ∀ (n : Nat) (st : Cm.Ps) (lh lp : Cm.Bs) (ok : Bool) (xs : List Cm.Rt) (Mr : List (Pr × Cm.Bs)) (w : World), n ≤ 1000 → (ok = true → poolsR F Mp ps ∧ routesR Mr xs ∧ ∀ y ∈ xs, (y.host = lh ∧ y.pfx = lp) ∨ y.host < lh ∨ (y.host = lh ∧ y.pfx < lp)) → St E (ldR r b0 bp bw p mp mr mc q b st ok lh lp v Mp Mr Mc F L) w →
      (∀ (w' : World) (Mr' : List (Pr × Cm.Bs)) (lh' lp' : Cm.Bs), ((ok && Cm.okR ps lh lp (Cm.rMany Cm.rRt n st).1) = true → routesR Mr' (xs ++ (Cm.rMany Cm.rRt n st).1)) → St E (ldR r b0 bp bw p mp mr mc q b (Cm.rMany Cm.rRt n st).2 (ok && Cm.okR ps lh lp (Cm.rMany Cm.rRt n st).1) lh' lp' v Mp Mr' Mc F L) w' → Kn w') →
      X (n : Int) w := by
    intro n
    induction n with
    | zero =>
      intro st lh lp ok xs Mr w hn hok h k
      refine hX _ _ ?_
      unfold T_conf_Load_3_body T_conf_Load_4
      refine ite_d (fun hh => absurd hh (by omega)) fun _ => ite_b (fun hh => by cases hh) fun _ => k w Mr lh lp (fun ho => ?_) ?_
      · rw [show (Cm.rMany Cm.rRt 0 st).1 = [] from rfl, List.append_nil]
        exact (hok (by simpa [Cm.rMany, Cm.okR] using ho)).2.1
      · have e : (ok && Cm.okR ps lh lp (Cm.rMany Cm.rRt 0 st).1) = ok := by simp [Cm.rMany, Cm.okR]
        rw [e]
        exact h
    | succ n ihn =>
      intro st lh lp ok xs Mr w hn hok h k
      refine hX _ _ ?_
      unfold T_conf_Load_3_body T_conf_Load_4
      obtain ⟨er, he, hb⟩ := rdr_err h
      refine ite_d (fun _ => ⟨_, rfl, er, he, ?_⟩) fun hh => absurd (show ((n + 1 : Nat) : Int) > 0 by omega) hh
      rw [hb]
      cases hbad : Cm.bad st with
      | true =>
        have em : Cm.rMany Cm.rRt (n + 1) st = ([], st) := by unfold Cm.rMany; rw [hbad]; rfl
        rw [em] at k
        refine ite_b (fun hh => by cases hh) fun _ => k w Mr lh lp (fun ho => ?_) ?_
        · rw [List.append_nil]
          exact (hok (by simpa [Cm.okR] using ho)).2.1
        · have e : (ok && Cm.okR ps lh lp []) = ok := by simp [Cm.okR]
          rw [e]
          exact h
      | false =>
        have em : Cm.rMany Cm.rRt (n + 1) st = ((Cm.rRt st).1 :: (Cm.rMany Cm.rRt n (Cm.rRt st).2).1, (Cm.rMany Cm.rRt n (Cm.rRt st).2).2) := by
          conv => lhs; unfold Cm.rMany
          rw [hbad]; rfl
        rw [em] at k
        refine ite_b (fun _ => ?_) fun hh => by cases hh
        refine rtext_spec hs at7 h fun w83 h83 => ⟨_, rfl, rtext_spec hs at7 h83 fun w86 h86 => ⟨_, rfl, ?_⟩⟩
        intro w88
        have h88 := h86.alloc (.cells #[.string (ByteArray.mk #[]), .string (ByteArray.mk #[])] 89)
        refine ⟨rfl, ok_place h88 rfl _ _, ?_⟩
        intro w89
        have h89 : St E (blkL w86.heap.size 89 (celP ((Cm.rText st).1, (Cm.rText (Cm.rText st).2).1)) :: ldR r b0 bp bw p mp mr mc q b (Cm.rText (Cm.rText st).2).2 ok lh lp v Mp Mr Mc F L) w89 := St.wr_place h88 rfl _ _
        clear_value w89
        clear h88
        clear_value w88
        generalize w86.heap.size = bk at *
        refine rtext_spec hs at8 h89.f1 fun w91 h91 => ⟨_, rfl, ?_⟩
        have hx : Cm.rRt st = (⟨(Cm.rText st).1, (Cm.rText (Cm.rText st).2).1, (Cm.rText (Cm.rText (Cm.rText st).2).2).1⟩, (Cm.rText (Cm.rText (Cm.rText st).2).2).2) := rfl
        rw [hx] at k
        have hl1 := rText_len st
        have hl2 := rText_len (Cm.rText st).2
        generalize (Cm.rText (Cm.rText (Cm.rText st).2).2).1 = xo at *
        generalize (Cm.rText (Cm.rText (Cm.rText st).2).2).2 = st2 at *
        generalize (Cm.rText (Cm.rText st).2).1 = xp at *
        generalize (Cm.rText st).1 = xh at *
        have h91 : St E (rdrA 116 r q b st2 :: blkL bk 89 (celP (xh, xp)) :: blkL b0 4 [.bool ok] :: blkL bp 23 [.pointer (some ⟨p, 0, none⟩)] :: blkL bw 89 (celP (lh, lp)) :: st4 p v mp mr mc Mp Mr Mc (kn F :: L)) w91 := h91
        refine ⟨_, rd_cell h91.f3.at_blk rfl rfl, _, rfl, _, rd_fld h91.f5.at_blk rfl rfl, ?_⟩
        have hlk := lookup_ok_run strLaw und_pools tm_tgs (St.sel h91 9 [6, 0, 1, 2, 3, 4, 5, 7, 8]) xo
        obtain ⟨sv, hsv⟩ : ∃ sv : Sl, (Instr.lookup 75 (.map (some mp)) (.string (bs xo)) true).run Tryz.prog w91 = .ok (.tuple #[.slice sv.1 sv.2.1 sv.2.2, .bool (mget Mp xo).isSome]) w91 := by
          cases hv : mget Mp xo with
          | none => rw [hv] at hlk; exact ⟨(none, 0, 0), hlk⟩
          | some u => rw [hv] at hlk; exact ⟨u.1, hlk⟩
        refine runV_ok hsv ⟨_, _, _, _, rfl, ?_⟩
        intro w100
        have h100 : St E (rdrA 116 r q b st2 :: blkL bk 89 (celP (xh, xp)) :: blkL b0 4 [.bool ok] :: blkL bp 23 [.pointer (some ⟨p, 0, none⟩)] :: blkL bw 89 (celP (lh, lp)) :: st4 p v mp mr mc Mp Mr Mc (kn F :: L)) w100 := h91.drew
        clear_value w100
        refine ⟨_, rd_cell h100.f3.at_blk rfl rfl, _, rfl, _, rd_fld h100.f5.at_blk rfl rfl, _, _, rd_place h100.f1, ?_⟩
        have hnd : (Mr.map (·.1)).Nodup := St.nodup (St.sel h100 9 [7, 0])
        obtain ⟨w106, hr106, h106⟩ := mapUpdate_run placeLaw und_routes (St.sel h100 9 [7, 1, 0, 2, 3, 4, 5, 6, 8]) (xh, xp) xo
        have h107 : St E (blkL bk 89 (celP (xh, xp)) :: ldR r b0 bp bw p mp mr mc q b st2 ok lh lp v Mp (mset Mr (xh, xp) xo) Mc F L) w106 := St.sel (L := mapA mr encP encS (mset Mr (xh, xp) xo) :: blkL bk 89 (celP (xh, xp)) :: rdrA 116 r q b st2 :: blkL b0 4 [.bool ok] :: blkL bp 23 [.pointer (some ⟨p, 0, none⟩)] :: blkL bw 89 (celP (lh, lp)) :: blkL p 79 (stL v mp mr mc) :: mapA mp encS pvV Mp :: mapA mc encI lvV Mc :: kn F :: L) h106 10 [1, 2, 3, 4, 5, 6, 7, 0, 8, 9]
        refine runV_ok hr106 ⟨trivial, ?_⟩
        have fin : ∀ (w : World) (val : Bool), val = (ok && ((mget Mp xo).isSome && (Cm.isHost xh && (Cm.isPfx xp && (decide (lh < xh) || (decide (xh = lh) && decide (lp < xp))))))) → St E (blkL bk 89 (celP (xh, xp)) :: ldR r b0 bp bw p mp mr mc q b st2 ok lh lp v Mp (mset Mr (xh, xp) xo) Mc F L) w →
            (.bool val : Value).cells.size = 1 ∧ wrOk w (⟨b0, 0, none⟩ : Addr) (.bool val) ∧ let w1 : World := wr w (⟨b0, 0, none⟩ : Addr) (.bool val)
            ∃ s1 : ByteArray, ∃ s2 : ByteArray, rd w1 (⟨bk, 0, none⟩ : Addr) (.agg #[.string s1, .string s2]) ∧ (.agg #[.string s1, .string s2] : Value).cells.size = 2 ∧ wrOk w1 (⟨bw, 0, none⟩ : Addr) (.agg #[.string s1, .string s2]) ∧ let w2 : World := wr w1 (⟨bw, 0, none⟩ : Addr) (.agg #[.string s1, .string s2])
            X (IntKind.wrap .i64 (((n + 1 : Nat) : Int) - 1)) w2 := fun w val hval h => by
          refine ⟨rfl, wrOk_cell h.f2.at_blk (by simp) rfl, ?_⟩
          intro w1
          have h1 : St E (blkL b0 4 [.bool val] :: blkL bk 89 (celP (xh, xp)) :: rdrA 116 r q b st2 :: blkL bp 23 [.pointer (some ⟨p, 0, none⟩)] :: blkL bw 89 (celP (lh, lp)) :: st4 p v mp mr mc Mp (mset Mr (xh, xp) xo) Mc (kn F :: L)) w1 := h.f2.wr_cell (off := 0) (v := .bool val) rfl
          clear_value w1
          refine ⟨_, _, rd_place h1.f1, rfl, ok_place h1.f4 rfl _ _, ?_⟩
          intro w2
          have h2 := St.wr_place h1.f4 rfl xh xp
          have h3 : St E (ldR r b0 bp bw p mp mr mc q b st2 val xh xp v Mp (mset Mr (xh, xp) xo) Mc F L) w2 := St.sel (L := blkL bw 89 (celP (xh, xp)) :: blkL b0 4 [.bool val] :: blkL bk 89 (celP (xh, xp)) :: rdrA 116 r q b st2 :: blkL bp 23 [.pointer (some ⟨p, 0, none⟩)] :: st4 p v mp mr mc Mp (mset Mr (xh, xp) xo) Mc (kn F :: L)) h2 5 [3, 1, 4, 0]
          rw [wrap_pred (by omega) (by omega)]
          have hall : val = true → poolsR F Mp ps ∧ routesR Mr xs ∧ (∀ y ∈ xs, (y.host = lh ∧ y.pfx = lp) ∨ y.host < lh ∨ (y.host = lh ∧ y.pfx < lp)) ∧ (lh < xh ∨ (xh = lh ∧ lp < xp)) := fun ho => by
            rw [hval] at ho
            simp only [Bool.and_eq_true, Bool.or_eq_true, decide_eq_true_eq] at ho
            obtain ⟨a1, _, _, _, a5⟩ := ho
            obtain ⟨c1, c2, c3⟩ := hok a1
            exact ⟨c1, c2, c3, a5⟩
          refine ihn st2 xh xp val (xs ++ [⟨xh, xp, xo⟩]) (mset Mr (xh, xp) xo) w2 (by omega) (fun ho => ?_) h3 fun w' Mr' lh' lp' hp' h' => ?_
          · obtain ⟨c1, c2, c3, c4⟩ := hall ho
            have lt : ∀ y ∈ xs, y.host < xh ∨ (y.host = xh ∧ y.pfx < xp) := fun y hy => by
              rcases c3 y hy with ⟨d1, d2⟩ | d | ⟨d1, d2⟩ <;> rcases c4 with c | ⟨c, c'⟩
              · exact .inl (d1 ▸ c)
              · exact .inr ⟨d1.trans c.symm, d2 ▸ c'⟩
              · exact .inl (Cm.slt_trans d c)
              · exact .inl (c ▸ d)
              · exact .inl (d1 ▸ c)
              · exact .inr ⟨d1.trans c.symm, Cm.slt_trans d2 c'⟩
            refine ⟨c1, routes_more (x := ⟨xh, xp, xo⟩) c2 hnd fun y hy e => ?_, fun y hy => ?_⟩
            · rcases lt y hy with d | ⟨_, d⟩
              · rw [e.1] at d; exact Cm.slt_irrefl _ d
              · rw [e.2] at d; exact Cm.slt_irrefl _ d
            · rcases List.mem_append.1 hy with hy | hy
              · exact .inr (lt y hy)
              · rw [List.mem_singleton.1 hy]; exact .inl ⟨rfl, rfl⟩
          · have e : (val && Cm.okR ps xh xp (Cm.rMany Cm.rRt n st2).1) = (ok && Cm.okR ps lh lp (⟨xh, xp, xo⟩ :: (Cm.rMany Cm.rRt n st2).1)) := by
              rw [hval]
              cases hk : ok with
              | false => rfl
              | true =>
                simp only [Cm.okR, Bool.true_and, Bool.and_assoc]
                rw [some_any (hok hk).1]
            rw [e] at hp' h'
            refine k w' Mr' lh' lp' (fun ho => ?_) h'
            have := hp' ho
            rwa [List.append_assoc] at this
        refine ⟨_, rd_cell h107.f2.at_blk rfl rfl, ite_b (fun ho => ?_) fun ho => fin _ _ (by rw [ho]; rfl) h107⟩
        refine ite_b (fun ht => ?_) fun ht => fin _ _ (by rw [ht, Bool.false_and, Bool.and_false]) h107
        refine ⟨bs xh, rd_cell h107.at_blk rfl rfl, ?_⟩
        refine host_spec h107 (by unfold huge; omega) fun w110 h110 => ⟨_, rfl, ite_b (fun h1 => ?_) fun h1 => fin _ _ (by rw [h1, Bool.false_and, Bool.and_false, Bool.and_false]) h110⟩
        refine ⟨bs xp, rd_fld h110.at_blk rfl rfl, ?_⟩
        refine prefix_spec h110 (by unfold huge; omega) fun w114 h114 => ⟨_, rfl, ite_b (fun h2 => ?_) fun h2 => fin _ _ (by rw [h2, Bool.false_and, Bool.and_false, Bool.and_false, Bool.and_false]) h114⟩
        refine ⟨bs xh, rd_cell h114.at_blk rfl rfl, bs lh, rd_cell h114.f4.at_blk rfl rfl, ?_⟩
        rw [str_beq, bs_toList, bs_toList, bytesLess_eq, Cm.gt_dec]
        refine ite_d (fun h3 => fin _ _ (by rw [ho, ht, h1, h2, decide_eq_true h3]; rfl) h114) fun h3 => ?_
        refine ⟨bs xh, rd_cell h114.at_blk rfl rfl, bs lh, rd_cell h114.f4.at_blk rfl rfl, ?_⟩
        rw [str_beq]
        refine ite_d (fun h4 => ?_) fun h4 => fin _ _ (by rw [decide_eq_false h3, decide_eq_false h4, Bool.false_and, Bool.or_false, Bool.and_false, Bool.and_false, Bool.and_false, Bool.and_false]) h114
        refine ⟨bs xp, rd_fld h114.at_blk rfl rfl, bs lp, rd_fld h114.f4.at_blk rfl rfl, ?_⟩
        rw [str_beq, bs_toList, bs_toList, bytesLess_eq, Cm.gt_dec]
        exact fin _ _ (by rw [ho, ht, h1, h2, decide_eq_false h3, decide_eq_true h4]; rfl) h114
  refine key n0 st [] [] ok0 [] [] w hn0 (fun ho => ⟨hp0 ho, List.Perm.nil, fun y hy => (nomatch hy)⟩) h fun w' Mr' lh lp hp h' => k w' Mr' lh lp hp h'
end
end Go.Vc

/-
  conf.Load: what was told last, read one by one into the store's map.
-/
namespace Go.Cm
/-- What Load asks of what was told last, behind a client. -/
def okL (v : Int) : Int → List Last → Bool
  | _, [] => true
  | least, x :: r => decide (least < x.client) && (decide (x.client ≤ 32) && (decide (0 < x.seq) && (told x.e && (decide (x.ver ≤ v) && okL v x.client r))))
end Go.Cm
namespace Go.Vc
open Go Go.Proofs Go.Proofs.YtcpmfjclkdjfmaaGreat Go.RowKit
set_option maxRecDepth 100000
section
variable {E w : World} {L : List Asrt} {R : Ending → World → Prop} {F G : Fz} {q : Sl} {b : Cm.Bs} {st : Cm.Ps} {p r b0 bp mp mr mc : Nat} {v : Int} {Mp : List (Cm.Bs × PV)} {Mr : List (Pr × Cm.Bs)} {Mc : List (Int × LV)}
theorem clients_more {xs : List Cm.Last} {x : Cm.Last} (h : clientsR Mc xs) (hn : (Mc.map (·.1)).Nodup) (hx : ∀ y ∈ xs, y.client ≠ x.client) : clientsR (mset Mc x.client (x.seq, x.e, x.ver)) (xs ++ [x]) := by
  have hni : x.client ∉ Mc.map (·.1) := fun hm => by
    obtain ⟨e, he, h1⟩ := List.mem_map.1 hm
    obtain ⟨y, hy, h2⟩ := List.mem_map.1 (List.Perm.mem_iff h |>.1 he)
    rw [← h2] at h1
    exact hx y hy h1
  have hp := mset_perm hn x.client ((x.seq, x.e, x.ver) : LV)
  rw [butM_self hni] at hp
  refine hp.trans ?_
  refine List.Perm.trans (List.Perm.cons _ h) ?_
  rw [List.map_append]
  exact (List.perm_append_singleton _ _).symm
theorem rd_seen {bk t : Nat} {x : LV} (h : St E (blkL bk t (seenL x) :: L) w) : rd w ⟨bk, 0, none⟩ (.agg #[.int .i64 x.1, .int .i64 x.2.1, .int .i64 x.2.2]) := rd_agg (xs := seenL x) h.at_blk (by intro i u hu; rw [Nat.zero_add]; exact hu)
theorem told7_spec {Kn : Bool → World → Prop} {Kp : List PanicEntry → World → Prop} {bk t : Nat} {x : LV} (h : St E (blkL bk t (seenL x) :: L) w) (k : Kn (Cm.told x.2.1) w) : T_conf_Load_7 ⟨bk, 0, none⟩ w Kn Kp := by
  unfold T_conf_Load_7
  have rdE : rd w ((⟨bk, 0, none⟩ : Addr).add 1) (.int .i64 x.2.1) := rd_fld h.at_blk rfl rfl
  have e : Cm.told x.2.1 = (decide (x.2.1 = 0) || decide (x.2.1 = 6) || decide (x.2.1 = 8) || decide (x.2.1 = 12) || decide (x.2.1 = 13)) := rfl
  rw [e] at k
  refine ⟨_, rdE, ?_⟩
  rw [eq_dec]
  refine ite_d (fun h0 => by rw [decide_eq_true h0] at k; simpa using k) fun h0 => ⟨_, rdE, ?_⟩
  rw [eq_dec]
  refine ite_d (fun h1 => by rw [decide_eq_true h1] at k; simpa using k) fun h1 => ⟨_, rdE, ?_⟩
  rw [eq_dec]
  refine ite_d (fun h2 => by rw [decide_eq_true h2] at k; simpa using k) fun h2 => ⟨_, rdE, ?_⟩
  rw [eq_dec]
  refine ite_d (fun h3 => by rw [decide_eq_true h3] at k; simpa using k) fun h3 => ⟨_, rdE, ?_⟩
  rw [eq_dec]
  rw [decide_eq_false h0, decide_eq_false h1, decide_eq_false h2, decide_eq_false h3] at k
  simpa using k
set_option maxHeartbeats 8000000 in
theorem load5_spec {Kn : World → Prop} {Kp : List PanicEntry → World → Prop} {n0 : Nat} {ok0 : Bool} (hs : Src F q b) (hn0 : n0 ≤ 1000) (h : St E (ldL r b0 bp p mp mr mc q b st ok0 v Mp Mr [] F L) w)
    (k : ∀ (w' : World) (Mc : List (Int × LV)), ((ok0 && Cm.okL v 0 (Cm.rMany Cm.rLa n0 st).1) = true → clientsR Mc (Cm.rMany Cm.rLa n0 st).1) → St E (ldL r b0 bp p mp mr mc q b (Cm.rMany Cm.rLa n0 st).2 (ok0 && Cm.okL v 0 (Cm.rMany Cm.rLa n0 st).1) v Mp Mr Mc F L) w' → Kn w') :
    T_conf_Load_5 0 (n0 : Int) ⟨r, 0, none⟩ ⟨bp, 0, none⟩ ⟨b0, 0, none⟩ w Kn Kp := by
  unfold T_conf_Load_5
  intro X hX
  have key : ∀ (n : Nat) (st : Cm.Ps) (least : Int) (ok : Bool) (xs : List Cm.Last) (Mc : List (Int × LV)) (w : World), n ≤ 1000 → (ok = true → clientsR Mc xs ∧ ∀ y ∈ xs, y.client ≤ least) → St E (ldL r b0 bp p mp mr mc q b st ok v Mp Mr Mc F L) w →
      (∀ (w' : World) (Mc' : List (Int × LV)), ((ok && Cm.okL v least (Cm.rMany Cm.rLa n st).1) = true → clientsR Mc' (xs ++ (Cm.rMany Cm.rLa n st).1)) → St E (ldL r b0 bp p mp mr mc q b (Cm.rMany Cm.rLa n st).2 (ok && Cm.okL v least (Cm.rMany Cm.rLa n st).1) v Mp Mr Mc' F L) w' → Kn w') →
      X least (n : Int) w := by
    intro n
    induction n with
    | zero =>
      intro st least ok xs Mc w hn hok h k
      refine hX _ _ _ ?_
      unfold T_conf_Load_5_body T_conf_Load_6
      refine ite_d (fun hh => absurd hh (by omega)) fun _ => ite_b (fun hh => by cases hh) fun _ => k w Mc (fun ho => ?_) ?_
      · rw [show (Cm.rMany Cm.rLa 0 st).1 = [] from rfl, List.append_nil]
        exact (hok (by simpa [Cm.rMany, Cm.okL] using ho)).1
      · have e : (ok && Cm.okL v least (Cm.rMany Cm.rLa 0 st).1) = ok := by simp [Cm.rMany, Cm.okL]
        rw [e]
        exact h
    | succ n ihn =>
      intro st least ok xs Mc w hn hok h k
      refine hX _ _ _ ?_
      unfold T_conf_Load_5_body T_conf_Load_6
      obtain ⟨er, he, hb⟩ := rdr_err h
      refine ite_d (fun _ => ⟨_, rfl, er, he, ?_⟩) fun hh => absurd (show ((n + 1 : Nat) : Int) > 0 by omega) hh
      rw [hb]
      cases hbad : Cm.bad st with
      | true =>
        have em : Cm.rMany Cm.rLa (n + 1) st = ([], st) := by unfold Cm.rMany; rw [hbad]; rfl
        rw [em] at k
        refine ite_b (fun hh => by cases hh) fun _ => k w Mc (fun ho => ?_) ?_
        · rw [List.append_nil]
          exact (hok (by simpa [Cm.okL] using ho)).1
        · have e : (ok && Cm.okL v least []) = ok := by simp [Cm.okL]
          rw [e]
          exact h
      | false =>
        have em : Cm.rMany Cm.rLa (n + 1) st = ((Cm.rLa st).1 :: (Cm.rMany Cm.rLa n (Cm.rLa st).2).1, (Cm.rMany Cm.rLa n (Cm.rLa st).2).2) := by
          conv => lhs; unfold Cm.rMany
          rw [hbad]; rfl
        rw [em] at k
        refine ite_b (fun _ => ?_) fun hh => by cases hh
        refine rnum_spec (most := 1099511627776) hs at6 h fun w1 h1 => ⟨_, rfl, rnum_spec (most := 1099511627776) hs at6 h1 fun w2 h2 => ⟨_, rfl, rnum_spec (most := 1099511627776) hs at6 h2 fun w3 h3 => ⟨_, rfl, rnum_spec (most := 1099511627776) hs at6 h3 fun w4 h4 => ⟨_, rfl, ?_⟩⟩⟩⟩
        obtain ⟨xk, xq, xe, xv, st2, hx, e1, e2, e3, e4, e5⟩ : ∃ (xk xq xe xv : Nat) (st2 : Cm.Ps), Cm.rLa st = (⟨xk, xq, xe, xv⟩, st2) ∧ (Cm.rNum 1099511627776 st).1 = xk ∧ (Cm.rNum 1099511627776 (Cm.rNum 1099511627776 st).2).1 = xq ∧ (Cm.rNum 1099511627776 (Cm.rNum 1099511627776 (Cm.rNum 1099511627776 st).2).2).1 = xe ∧ (Cm.rNum 1099511627776 (Cm.rNum 1099511627776 (Cm.rNum 1099511627776 (Cm.rNum 1099511627776 st).2).2).2).1 = xv ∧ (Cm.rNum 1099511627776 (Cm.rNum 1099511627776 (Cm.rNum 1099511627776 (Cm.rNum 1099511627776 st).2).2).2).2 = st2 := ⟨_, _, _, _, _, rfl, rfl, rfl, rfl, rfl, rfl⟩
        rw [hx] at k
        rw [e5] at h4
        rw [e1, e2, e3, e4]
        intro w180
        have h180 := h4.alloc (.cells #[.int .i64 0, .int .i64 0, .int .i64 0] 91)
        refine ⟨rfl, ok_seen h180 rfl ((xq : Int), (xe : Int), (xv : Int)), ?_⟩
        intro w181
        have h181 : St E (blkL w4.heap.size 91 (seenL ((xq : Int), (xe : Int), (xv : Int))) :: ldL r b0 bp p mp mr mc q b st2 ok v Mp Mr Mc F L) w181 := St.wr_seen h180 rfl ((xq : Int), (xe : Int), (xv : Int))
        clear_value w181
        clear h180
        clear_value w180
        generalize w4.heap.size = bk at *
        intro w182
        have h182 : St E (blkL bk 91 (seenL ((xq : Int), (xe : Int), (xv : Int))) :: ldL r b0 bp p mp mr mc q b st2 ok v Mp Mr Mc F L) w182 := h181.drew
        clear_value w182
        refine ⟨_, rd_cell h182.f3.at_blk rfl rfl, _, rfl, _, rd_fld h182.f4.at_blk rfl rfl, _, _, _, rd_seen h182, ?_⟩
        have hnd : (Mc.map (·.1)).Nodup := St.nodup (St.sel h182 9 [7, 0])
        obtain ⟨w189, hr189, h189⟩ := mapUpdate_run intLaw und_clients (St.sel h182 9 [7, 0, 1, 2, 3, 4, 5, 6, 8]) (xk : Int) (((xq : Int), (xe : Int), (xv : Int)) : LV)
        have h190 : St E (blkL bk 91 (seenL ((xq : Int), (xe : Int), (xv : Int))) :: ldL r b0 bp p mp mr mc q b st2 ok v Mp Mr (mset Mc (xk : Int) ((xq : Int), (xe : Int), (xv : Int))) F L) w189 := St.sel (L := mapA mc encI lvV (mset Mc (xk : Int) ((xq : Int), (xe : Int), (xv : Int))) :: blkL bk 91 (seenL ((xq : Int), (xe : Int), (xv : Int))) :: rdrA 116 r q b st2 :: blkL b0 4 [.bool ok] :: blkL bp 23 [.pointer (some ⟨p, 0, none⟩)] :: blkL p 79 (stL v mp mr mc) :: mapA mp encS pvV Mp :: mapA mr encP encS Mr :: kn F :: L) h189 9 [1, 2, 3, 4, 5, 6, 7, 0, 8]
        refine runV_ok hr189 ⟨trivial, ?_⟩
        refine told7_spec h190 ?_
        intro w201
        have h201 : St E (blkL bk 91 (seenL ((xq : Int), (xe : Int), (xv : Int))) :: ldL r b0 bp p mp mr mc q b st2 ok v Mp Mr (mset Mc (xk : Int) ((xq : Int), (xe : Int), (xv : Int))) F L) w201 := h190.drew
        clear_value w201
        have fin : ∀ (val : Bool), val = (ok && (decide (least < (xk : Int)) && (decide ((xk : Int) ≤ 32) && (decide (0 < (xq : Int)) && (Cm.told (xe : Int) && decide ((xv : Int) ≤ v)))))) →
            (.bool val : Value).cells.size = 1 ∧ wrOk w201 (⟨b0, 0, none⟩ : Addr) (.bool val) ∧ let w1 : World := wr w201 (⟨b0, 0, none⟩ : Addr) (.bool val)
            True ∧ X (xk : Int) (IntKind.wrap .i64 (((n + 1 : Nat) : Int) - 1)) w1 := fun val hval => by
          refine ⟨rfl, wrOk_cell h201.f2.at_blk (by simp) rfl, ?_⟩
          intro w1
          have h1 : St E (blkL b0 4 [.bool val] :: blkL bk 91 (seenL ((xq : Int), (xe : Int), (xv : Int))) :: rdrA 116 r q b st2 :: blkL bp 23 [.pointer (some ⟨p, 0, none⟩)] :: st4 p v mp mr mc Mp Mr (mset Mc (xk : Int) ((xq : Int), (xe : Int), (xv : Int))) (kn F :: L)) w1 := h201.f2.wr_cell (off := 0) (v := .bool val) rfl
          clear_value w1
          refine ⟨trivial, ?_⟩
          rw [wrap_pred (by omega) (by omega)]
          have h2 : St E (ldL r b0 bp p mp mr mc q b st2 val v Mp Mr (mset Mc (xk : Int) ((xq : Int), (xe : Int), (xv : Int))) F L) w1 := St.sel (L := blkL b0 4 [.bool val] :: blkL bk 91 (seenL ((xq : Int), (xe : Int), (xv : Int))) :: rdrA 116 r q b st2 :: blkL bp 23 [.pointer (some ⟨p, 0, none⟩)] :: st4 p v mp mr mc Mp Mr (mset Mc (xk : Int) ((xq : Int), (xe : Int), (xv : Int))) (kn F :: L)) h1 3 [2, 0]
          refine ihn st2 xk val (xs ++ [⟨xk, xq, xe, xv⟩]) _ w1 (by omega) (fun ho => ?_) h2 fun w' Mc' hp' h' => ?_
          · rw [hval] at ho
            simp only [Bool.and_eq_true, decide_eq_true_eq] at ho
            obtain ⟨a1, a2, _⟩ := ho
            obtain ⟨c1, c2⟩ := hok a1
            refine ⟨clients_more (x := ⟨xk, xq, xe, xv⟩) c1 hnd fun y hy e => ?_, fun y hy => ?_⟩
            · have := c2 y hy
              simp only at e
              omega
            · rcases List.mem_append.1 hy with hy | hy
              · have := c2 y hy; omega
              · rw [List.mem_singleton.1 hy]; exact Int.le_refl _
          · have e : (val && Cm.okL v xk (Cm.rMany Cm.rLa n st2).1) = (ok && Cm.okL v least (⟨xk, xq, xe, xv⟩ :: (Cm.rMany Cm.rLa n st2).1)) := by
              rw [hval]
              simp only [Cm.okL, Bool.and_assoc]
            rw [e] at hp' h'
            refine k w' Mc' (fun ho => ?_) h'
            have := hp' ho
            rwa [List.append_assoc] at this
        refine ⟨_, rd_cell h201.f2.at_blk rfl rfl, ite_b (fun ho => ?_) fun ho => fin _ (by rw [ho]; rfl)⟩
        refine ite_d (fun h1 => ?_) fun h1 => fin _ (by rw [decide_eq_false (show ¬ least < (xk : Int) from h1), Bool.false_and, Bool.and_false])
        refine ite_d (fun h2 => ?_) fun h2 => fin _ (by rw [decide_eq_false h2, Bool.false_and, Bool.and_false, Bool.and_false])
        refine ⟨_, rd_cell h201.at_blk rfl rfl, ite_d (fun h3 => ?_) fun h3 => fin _ (by rw [decide_eq_false (show ¬ 0 < (xq : Int) from h3), Bool.false_and, Bool.and_false, Bool.and_false, Bool.and_false])⟩
        refine ite_b (fun h4 => ?_) fun h4 => fin _ (by rw [show Cm.told (xe : Int) = false from h4, Bool.false_and, Bool.and_false, Bool.and_false, Bool.and_false, Bool.and_false])
        refine ⟨(xv : Int), rd_fld (k := 2) h201.at_blk rfl rfl, _, rd_cell h201.f3.at_blk rfl rfl, _, rfl, v, rd_cell h201.f4.at_blk rfl rfl, ?_⟩
        exact fin _ (by rw [ho, decide_eq_true (show least < (xk : Int) from h1), decide_eq_true h2, decide_eq_true (show 0 < (xq : Int) from h3), show Cm.told (xe : Int) = true from h4]; rfl)
  exact key n0 st 0 ok0 [] [] w hn0 (fun _ => ⟨List.Perm.nil, fun y hy => (nomatch hy)⟩) h k
end
end Go.Vc

/-
  conf.Load: what its flag comes to is 'right'. No program in sight.
-/
namespace Go.Cm
theorem nil_lt {s : Bs} (h : s ≠ []) : ([] : Bs) < s := by
  cases s with
  | nil => exact absurd rfl h
  | cons a l => exact List.nil_lt_cons a l
def headP (last : Bs) : List Pl → Bool
  | [] => true
  | x :: _ => decide (last < x.name)
theorem okP_eq : ∀ (l : List Pl) (last : Bs), okP last l = (headP last l && (l.all (fun p => isName p.name && decide (chkT p.tg = 0)) && rises plLt l))
  | [], _ => rfl
  | [x], last => by
    simp only [okP, headP, List.all_cons, List.all_nil, rises, Bool.and_true]
    ac_rfl
  | x :: y :: r, last => by
    rw [okP, okP_eq (y :: r) x.name]
    simp only [headP, List.all_cons, rises, plLt]
    ac_rfl
theorem okP_nil (l : List Pl) : okP [] l = (l.all (fun p => isName p.name && decide (chkT p.tg = 0)) && rises plLt l) := by
  rw [okP_eq]
  cases l with
  | nil => rfl
  | cons x r =>
    cases hx : isName x.name with
    | false => simp [hx]
    | true =>
      have : x.name ≠ [] := fun e => by have := (name_len hx).1; rw [e] at this; simp at this
      rw [show headP [] (x :: r) = true from decide_eq_true (nil_lt this), Bool.true_and]
def headR (h p : Bs) : List Rt → Bool
  | [] => true
  | x :: _ => decide (h < x.host) || (decide (x.host = h) && decide (p < x.pfx))
theorem okR_eq (ps : List Pl) : ∀ (l : List Rt) (h p : Bs), okR ps h p l = (headR h p l && (l.all (fun r => ps.any (fun p => decide (p.name = r.pool)) && isHost r.host && isPfx r.pfx) && rises rtLt l))
  | [], _, _ => rfl
  | [x], h, p => by
    simp only [okR, headR, List.all_cons, List.all_nil, rises, Bool.and_true]
    ac_rfl
  | x :: y :: r, h, p => by
    rw [okR, okR_eq ps (y :: r) x.host x.pfx]
    have e : headR x.host x.pfx (y :: r) = rtLt x y := by
      simp only [headR, rtLt]
      rw [show decide (y.host = x.host) = decide (x.host = y.host) from by rw [Bool.eq_iff_iff]; simp only [decide_eq_true_eq]; exact ⟨Eq.symm, Eq.symm⟩]
    rw [e]
    simp only [headR, List.all_cons, rises]
    ac_rfl
theorem okR_nil (ps : List Pl) (l : List Rt) : okR ps [] [] l = (l.all (fun r => ps.any (fun p => decide (p.name = r.pool)) && isHost r.host && isPfx r.pfx) && rises rtLt l) := by
  rw [okR_eq]
  cases l with
  | nil => rfl
  | cons x r =>
    cases hx : isHost x.host with
    | false => simp [hx]
    | true =>
      have : x.host ≠ [] := fun e => by have := (host_len hx).1; rw [e] at this; simp at this
      rw [show headR [] [] (x :: r) = true from by simp [headR, nil_lt this], Bool.true_and]
def headL (least : Int) : List Last → Bool
  | [] => true
  | x :: _ => decide (least < x.client)
theorem rightL_eq {v : Int} {x : Last} (h : 0 < x.client) : rightL v x = (decide (x.client ≤ 32) && (decide (0 < x.seq) && (told x.e && decide (x.ver ≤ v)))) := by
  unfold rightL
  rw [show decide (1 ≤ x.client ∧ x.client ≤ 32) = decide (x.client ≤ 32) from decide_eq_decide.2 (by omega), show decide (1 ≤ x.seq) = decide (0 < x.seq) from decide_eq_decide.2 (by omega)]
  ac_rfl
theorem okL_eq (v : Int) : ∀ (l : List Last) (least : Int), 0 ≤ least → okL v least l = (headL least l && (l.all (rightL v) && rises (fun a b => decide (a.client < b.client)) l))
  | [], _, _ => rfl
  | [x], least, h => by
    by_cases hl : least < x.client
    · simp only [okL, headL, List.all_cons, List.all_nil, rises, Bool.and_true]
      rw [rightL_eq (by omega)]
    · simp [okL, headL, hl]
  | x :: y :: r, least, h => by
    by_cases hl : least < x.client
    · rw [okL, okL_eq v (y :: r) x.client (by omega)]
      simp only [headL, List.all_cons, rises]
      rw [rightL_eq (x := x) (by omega)]
      ac_rfl
    · simp [okL, headL, hl]
theorem okL_nil (v : Int) (l : List Last) : okL v 0 l = (l.all (rightL v) && rises (fun a b => decide (a.client < b.client)) l) := by
  rw [okL_eq v l 0 (Int.le_refl 0)]
  cases l with
  | nil => rfl
  | cons x r =>
    cases hx : rightL v x with
    | false => simp [hx]
    | true =>
      have : 0 < x.client := by
        unfold rightL at hx
        simp only [Bool.and_eq_true, decide_eq_true_eq] at hx
        omega
      rw [show headL 0 (x :: r) = true from decide_eq_true this, Bool.true_and]
/-- What Load's flag comes to, and its last look, is 'right'. -/
theorem right_eq (s : Sm) : right s = (((okP [] s.pools && okR s.pools [] [] s.routes) && okL s.ver 0 s.l) && decide ((confB s.pools s.routes).length ≤ 12000)) := by
  rw [okP_nil, okR_nil, okL_nil]
  rfl
end Go.Cm

/-
  conf.Load, whole.
-/
namespace Go.Vc
open Go Go.Proofs Go.Proofs.YtcpmfjclkdjfmaaGreat Go.RowKit
set_option maxRecDepth 100000
section
variable {E w : World} {L : List Asrt} {R : Ending → World → Prop} {F G : Fz} {q : Sl} {b : Cm.Bs} {st : Cm.Ps} {p r b0 bp bw mp mr mc : Nat} {v : Int} {Mp : List (Cm.Bs × PV)} {Mr : List (Pr × Cm.Bs)} {Mc : List (Int × LV)} {s : Cm.Sm}
theorem sz_ok (hp : Cm.okP [] s.pools = true) (hr : Cm.okR s.pools [] [] s.routes = true) (h1 : s.pools.length ≤ 32) (h2 : s.routes.length ≤ 64) : Sz s := by
  rw [Cm.okP_nil] at hp
  rw [Cm.okR_nil] at hr
  simp only [Bool.and_eq_true, List.all_eq_true, decide_eq_true_eq] at hp hr
  have hn : ∀ x ∈ s.pools, x.name.length ≤ 128 ∧ shortTs x.tg := fun x hx => ⟨by have := (Cm.name_len (hp.1 x hx).1).2; omega, short_of (hp.1 x hx).2⟩
  refine { pl := hn, pr := hp.2, pn := by omega, rt := fun x hx => ?_, rr := hr.2, rn := by omega }
  obtain ⟨⟨a1, a2⟩, a3⟩ := hr.1 x hx
  obtain ⟨y, hy, e⟩ := List.any_eq_true.1 a1
  have e : y.name = x.pool := by simpa using e
  refine ⟨by have := (Cm.host_len a2).2; omega, by have := (Cm.pfx_len a3).2; omega, by rw [← e]; exact (hn y hy).1⟩
theorem body_load1 : hasBody Tryz.prog 71 = true := by kernel_rfl
theorem load_c1 {ok : Bool} {A : Asrt} (hm : kn F ∈ L) (hsz : ok = true → Sz s ∧ poolsR F Mp s.pools ∧ routesR Mr s.routes) (h : St E (A :: blkL b0 4 [.bool ok] :: blkL bp 23 [.pointer (some ⟨p, 0, none⟩)] :: st4 p s.ver mp mr mc Mp Mr Mc L) w)
    (k : ∀ w', St E (A :: blkL b0 4 [.bool ok] :: blkL bp 23 [.pointer (some ⟨p, 0, none⟩)] :: st4 p s.ver mp mr mc Mp Mr Mc L) w' → R (.returned (.bool (ok && decide ((Cm.confB s.pools s.routes).length ≤ 12000)))) w') :
    Calls Tryz.prog 71 #[.pointer (some ⟨b0, 0, none⟩), .pointer (some ⟨bp, 0, none⟩)] w R := by
  refine C_conf_Load_c1 ?_
  unfold T_conf_Load_c1
  refine ⟨_, rd_cell h.f1.at_blk rfl rfl, ite_b (fun ho => ?_) fun ho => congB (k _ h) (by rw [ho]; rfl)⟩
  obtain ⟨S, hp, hr⟩ := hsz ho
  refine ⟨_, rd_cell h.f2.at_blk rfl rfl, ?_⟩
  refine config_spec4 (b := (none, 0, 0)) (xs := []) (s := s) (L := A :: blkL b0 4 [.bool ok] :: blkL bp 23 [.pointer (some ⟨p, 0, none⟩)] :: L) (List.mem_cons_of_mem _ (mem2 hm)) S hp hr (St.by_nil (h.sel 7 [3, 4, 5, 6, 0, 1, 2])) (by simp) fun w' b' h' => ⟨_, _, _, rfl, ?_⟩
  have hl := h'.by_len
  refine congB (k _ (St.sel (L := st4 p s.ver mp mr mc Mp Mr Mc (A :: blkL b0 4 [.bool ok] :: blkL bp 23 [.pointer (some ⟨p, 0, none⟩)] :: L)) h'.drop 7 [4, 5, 6, 0, 1, 2, 3])) ?_
  rw [ho, Bool.true_and]
  exact decide_eq_decide.2 (by rw [List.nil_append] at hl; omega)
set_option maxHeartbeats 8000000 in
/-- Load: at any bytes. -/
theorem Load_spec (hs : Src F q b) (h : St E (kn F :: L) w)
    (k1 : ∀ (e : Int) (G : Fz) (w' : World), Cm.load b = .error e → e ≠ 0 → Fz.le F G → St E (kn G :: L) w' → R (.returned (.tuple #[.pointer none, .int .i64 e])) w')
    (k2 : ∀ (s : Cm.Sm) (p : Nat) (G : Fz) (w' : World), Cm.load b = .ok s → Fz.le F G → St E (stA G p s :: kn G :: L) w' → R (.returned (.tuple #[.pointer (some ⟨p, 0, none⟩), .int .i64 0])) w') :
    Calls Tryz.prog 33 #[.slice q.1 q.2.1 q.2.2] w R := by
  refine C_conf_Load ?_
  unfold T_conf_Load
  intro w2
  have h2 : St E (rdrA 116 w.heap.size q b (.ok b) :: kn F :: L) w2 := h.rdr_new _ q b
  clear_value w2
  generalize w.heap.size = r at *
  refine New_spec F h2 fun p w4 h4 => ⟨_, rfl, ?_⟩
  obtain ⟨mp, mr, mc, Mp, Mr, Mc, hp, hr, hc, h4⟩ := St.st_open h4
  have e1 : Mp = [] := List.map_eq_nil_iff.1 (List.Perm.eq_nil hp.2)
  have e2 : Mr = [] := List.Perm.eq_nil hr
  have e3 : Mc = [] := List.Perm.eq_nil hc
  subst e1 e2 e3
  have h4 : St E (st4 p 0 mp mr mc [] [] [] (rdrA 116 r q b (.ok b) :: kn F :: L)) w4 := h4
  intro w6
  have h6 := h4.alloc (.cells #[.pointer none] 23)
  refine ⟨rfl, wrOk_cell h6.at_blk (by simp) rfl, ?_⟩
  intro w7
  have h7 : St E (blkL w4.heap.size 23 [.pointer (some ⟨p, 0, none⟩)] :: st4 p 0 mp mr mc [] [] [] (rdrA 116 r q b (.ok b) :: kn F :: L)) w7 := h6.wr_cell (off := 0) (v := .pointer (some ⟨p, 0, none⟩)) rfl
  clear_value w7
  clear h6
  clear_value w6
  generalize w4.heap.size = bp at *
  intro w8
  have h8 : St E (rdrA 116 r q b (.ok b) :: blkL bp 23 [.pointer (some ⟨p, 0, none⟩)] :: st4 p 0 mp mr mc [] [] [] (kn F :: L)) w8 := (h7.drew).sel 7 [5, 0, 1, 2, 3, 4, 6]
  clear_value w8
  refine ⟨_, rd_cell h8.f1.at_blk rfl rfl, ?_⟩
  refine rnum_spec (most := 1099511627776) hs at5 h8 fun w11 h11 => ⟨_, rfl, ⟨rd_cell h11.f1.at_blk rfl rfl, trivial⟩, _, rfl, rfl, wrOk_cell h11.f2.at_blk (by simp [stL]) rfl, ?_⟩
  obtain ⟨sm, hsm⟩ : ∃ sm, Cm.rSm b = sm := ⟨_, rfl⟩
  have hsm' : Cm.rSm b = (⟨((Cm.rNum 1099511627776 (.ok b)).1 : Int), (Cm.rMany Cm.rRt (Cm.rNum 64 (Cm.rMany Cm.rPl (Cm.rNum 32 (Cm.rNum 1099511627776 (.ok b)).2).1 (Cm.rNum 32 (Cm.rNum 1099511627776 (.ok b)).2).2).2).1 (Cm.rNum 64 (Cm.rMany Cm.rPl (Cm.rNum 32 (Cm.rNum 1099511627776 (.ok b)).2).1 (Cm.rNum 32 (Cm.rNum 1099511627776 (.ok b)).2).2).2).2).1, (Cm.rMany Cm.rPl (Cm.rNum 32 (Cm.rNum 1099511627776 (.ok b)).2).1 (Cm.rNum 32 (Cm.rNum 1099511627776 (.ok b)).2).2).1, _⟩, _) := rfl
  have hn1 := rNum_le 32 (Cm.rNum 1099511627776 (.ok b)).2
  obtain ⟨v, hv⟩ : ∃ v : Int, ((Cm.rNum 1099511627776 (.ok b)).1 : Int) = v := ⟨_, rfl⟩
  rw [hv]
  intro w14
  have h14 : St E (blkL p 79 (stL v mp mr mc) :: rdrA 116 r q b (Cm.rNum 1099511627776 (.ok b)).2 :: blkL bp 23 [.pointer (some ⟨p, 0, none⟩)] :: mapA mp encS pvV [] :: mapA mr encP encS [] :: mapA mc encI lvV [] :: kn F :: L) w14 := h11.f2.wr_cell (off := 0) (v := .int .i64 v) rfl
  clear_value w14
  refine ⟨trivial, ?_⟩
  intro w15
  have h15 := h14.alloc (.cells #[.bool false] 4)
  refine ⟨rfl, wrOk_cell h15.at_blk (by simp) rfl, ?_⟩
  intro w16
  have h16 : St E (blkL w14.heap.size 4 [.bool true] :: blkL p 79 (stL v mp mr mc) :: rdrA 116 r q b (Cm.rNum 1099511627776 (.ok b)).2 :: blkL bp 23 [.pointer (some ⟨p, 0, none⟩)] :: mapA mp encS pvV [] :: mapA mr encP encS [] :: mapA mc encI lvV [] :: kn F :: L) w16 := h15.wr_cell (off := 0) (v := .bool true) rfl
  clear_value w16
  clear h15
  clear_value w15
  generalize w14.heap.size = b0 at *
  refine rnum_spec (most := 32) hs at6 (h16.sel 8 [2, 0, 3, 1, 4, 5, 6, 7]) fun w18 h18 => ⟨_, rfl, ?_⟩
  refine load1_spec (v := v) hs (by omega) h18 fun G w62 Mp hG hpp h62 => ?_
  generalize hps : Cm.rMany Cm.rPl (Cm.rNum 32 (Cm.rNum 1099511627776 (.ok b)).2).1 (Cm.rNum 32 (Cm.rNum 1099511627776 (.ok b)).2).2 = P1 at *
  have hn2 := rNum_le 64 P1.2
  intro w63
  have h63 := h62.alloc (.cells #[.string (ByteArray.mk #[]), .string (ByteArray.mk #[])] 89)
  refine ⟨rfl, ok_place h63 rfl [] [], ?_⟩
  intro w64
  have h64 : St E (blkL w62.heap.size 89 (celP ([], [])) :: ldL r b0 bp p mp mr mc q b P1.2 (Cm.okP [] P1.1) v Mp [] [] G L) w64 := St.wr_place h63 rfl [] []
  clear_value w64
  clear h63
  clear_value w63
  generalize w62.heap.size = bw at *
  refine rnum_spec (most := 64) (hs.mono hG) at7 (h64.sel 9 [1, 2, 3, 0, 4, 5, 6, 7, 8]) fun w66 h66 => ⟨_, rfl, ?_⟩
  refine load3_spec (ps := P1.1) (v := v) (hs.mono hG) (by omega) hpp h66 fun w150 Mr lh lp hrr h150 => ?_
  generalize hrs : Cm.rMany Cm.rRt (Cm.rNum 64 P1.2).1 (Cm.rNum 64 P1.2).2 = R1 at *
  have hn3 := rNum_le 32 R1.2
  refine rnum_spec (most := 32) (hs.mono hG) at7 h150 fun w152 h152 => ⟨_, rfl, ?_⟩
  refine load5_spec (v := v) (hs.mono hG) (by omega) (h152.sel 9 [0, 1, 2, 4, 5, 6, 7, 8]) fun w214 Mc hcc h214 => ?_
  generalize hls : Cm.rMany Cm.rLa (Cm.rNum 32 R1.2).1 (Cm.rNum 32 R1.2).2 = L1 at *
  have hrm : Cm.rSm b = (⟨v, R1.1, P1.1, L1.1⟩, L1.2) := by
    rw [← hls, ← hrs, ← hps, ← hv]
    rfl
  have hpl : P1.1.length ≤ 32 := by rw [← hps]; exact Nat.le_trans (rMany_all (g := fun _ => True) (fun _ => trivial) _ _).1 hn1
  have hrl : R1.1.length ≤ 64 := by rw [← hrs]; exact Nat.le_trans (rMany_all (g := fun _ => True) (fun _ => trivial) _ _).1 hn2
  have hall : ((Cm.okP [] P1.1 && Cm.okR P1.1 [] [] R1.1) && Cm.okL v 0 L1.1) = true → Sz ⟨v, R1.1, P1.1, L1.1⟩ ∧ poolsR G Mp P1.1 ∧ routesR Mr R1.1 := fun ho => by
    simp only [Bool.and_eq_true] at ho
    exact ⟨sz_ok ho.1.1 ho.1.2 hpl hrl, hpp ho.1.1, hrr (by rw [ho.1.1, ho.1.2]; rfl)⟩
  obtain ⟨a, e, hro, _⟩ := h214.rdr_open
  refine end_spec (v := ((Cm.okP [] P1.1 && Cm.okR P1.1 [] [] R1.1) && Cm.okL v 0 L1.1) && decide ((Cm.confB P1.1 R1.1).length ≤ 12000)) (hs.mono hG) body_load1 h214 (fun A w R _ h k => load_c1 (s := ⟨v, R1.1, P1.1, L1.1⟩) (L := kn G :: L) at0 hall h k) fun w216 h216 => ⟨_, rfl, ?_⟩
  have hre := Cm.right_eq ⟨v, R1.1, P1.1, L1.1⟩
  have h216 : St E (blkL b0 4 [.bool ((Cm.okP [] P1.1 && Cm.okR P1.1 [] [] R1.1) && Cm.okL v 0 L1.1)] :: blkL bp 23 [.pointer (some ⟨p, 0, none⟩)] :: st4 p v mp mr mc Mp Mr Mc (kn G :: L)) w216 := h216
  rw [← hre]
  cases hst : L1.2 with
  | error x =>
    rw [hst] at hro
    have hx : x ≠ 0 := hro.2
    have hld : Cm.load b = .error x := by unfold Cm.load; rw [hrm]; simp only [hst]
    refine ite_b (fun _ => k1 x G _ hld hx hG (h216.sel 7 [6])) fun hh => by simp [endE, hx] at hh
  | ok rest =>
    by_cases hg : rest ≠ [] ∨ Cm.right ⟨v, R1.1, P1.1, L1.1⟩ = false
    · have hld : Cm.load b = .error 4 := by unfold Cm.load; rw [hrm]; simp only [hst]; rw [if_pos hg]
      have e4 : endE (.ok rest) (Cm.right ⟨v, R1.1, P1.1, L1.1⟩) = 4 := by unfold endE; simp only; rw [if_pos hg]
      rw [e4]
      exact ite_b (fun _ => k1 4 G _ hld (by decide) hG (h216.sel 7 [6])) fun hh => by cases hh
    · have hld : Cm.load b = .ok ⟨v, R1.1, P1.1, L1.1⟩ := by unfold Cm.load; rw [hrm]; simp only [hst]; rw [if_neg hg]
      have e4 : endE (.ok rest) (Cm.right ⟨v, R1.1, P1.1, L1.1⟩) = 0 := by unfold endE; simp only; rw [if_neg hg]
      have hr1 : Cm.right ⟨v, R1.1, P1.1, L1.1⟩ = true := by simpa using fun hf => hg (.inr hf)
      rw [hr1] at hre
      have ho := (Bool.and_eq_true _ _ ▸ hre.symm : _ ∧ _).1
      rw [e4]
      refine ite_b (fun hh => by cases hh) fun _ => ⟨_, rd_cell h216.f1.at_blk rfl rfl, ?_⟩
      obtain ⟨_, c1, c2⟩ := hall ho
      have hcl : clientsR Mc L1.1 := hcc ho
      exact k2 ⟨v, R1.1, P1.1, L1.1⟩ p G _ hld hG (St.st_mk (s := ⟨v, R1.1, P1.1, L1.1⟩) c1 c2 hcl (h216.sel 7 [2, 3, 4, 5, 6]))
end
end Go.Vc

/-
  What the functions' code comes to; printed by a program of this claim's own.
-/
namespace Go.Proofs.YtcpmfjclkdjfmaaGreat
open Go Go.Vc
set_option maxRecDepth 100000
set_option linter.unusedVariables false

/-! tollgate/tollgatelaw08.ConfSaves -/
def T_law08_ConfSaves_1 (t15 : Option Addr) (e16 : Int) (w : World) (Kn : Bool → World → Prop) (Kp : List PanicEntry → World → Prop) : Prop :=
  if ((e16 : Int) != 0) = true then (Kn true w) else (Kn t15.isNone w)

def T_law08_ConfSaves_1_outs : Exit → Option (List (Nat × Value)) := fun x => match x with | .normal => some [(30, .bool false)] | .panic _ => some [] | _ => none

def T_law08_ConfSaves_1_ks : Nat → Bool := ksOf [25, 26, 27, 28, 29, 30]

def H_law08_ConfSaves_1 : Env → World → QT → Prop := unitHook 78 T_law08_ConfSaves_1_ks [(8, .pointer none), (9, .int .i64 0)] T_law08_ConfSaves_1_outs fun l w C => match l with | [v0, v1] => T_law08_ConfSaves_1 (pPtr v0) (pInt v1) w (fun b18 w => C .normal [.bool b18] w) (fun ch w => C (.panic ch) [] w) | _ => False

theorem T_law08_ConfSaves_1_hl : allP (hokL Tryz.prog (hookAt []) (at_ (bodyOf Tryz.f11) [1, 1, 1, 1, 0, 0]) 124) = (True) := by kernel_rfl
theorem T_law08_ConfSaves_1_hok : HOk Tryz.prog (hookAt []) (at_ (bodyOf Tryz.f11) [1, 1, 1, 1, 0, 0]) 124 := HOk_of _ _ (by rw [T_law08_ConfSaves_1_hl]; exact trivial)

theorem T_law08_ConfSaves_1_eq (C : Conts) (t15 : Option Addr) (e16 : Int) (w : World) : vcCode Tryz.prog (hookAt []) (at_ (bodyOf Tryz.f11) [1, 1, 1, 1, 0, 0]) 124 ⟨[(8, .pointer t15), (9, .int .i64 e16)], 78, []⟩ w (unitQ T_law08_ConfSaves_1_outs C) = T_law08_ConfSaves_1 t15 e16 w (fun b19 w => C .normal [.bool b19] w) (fun ch w => C (.panic ch) [] w) := by kernel_rfl

theorem T_law08_ConfSaves_1_ok : UnitOk Tryz.prog H_law08_ConfSaves_1 (at_ (bodyOf Tryz.f11) [1, 1, 1, 1, 0, 0]) 124 := unit_ok (H := (hookAt [])) (by kernel_rfl) T_law08_ConfSaves_1_hok fun l w C hk => by
    obtain ⟨v0, l_v0, rfl, k_v0, hk_v0⟩ := Kinds.cons_ hk
    obtain ⟨t15, rfl⟩ := kind_pointer k_v0
    obtain ⟨v1, l_v1, rfl, k_v1, hk_v1⟩ := Kinds.cons_ hk_v0
    obtain ⟨e16, rfl⟩ := kind_int k_v1
    obtain rfl := Kinds.nil_ hk_v1
    exact T_law08_ConfSaves_1_eq C t15 e16 w

def T_law08_ConfSaves_3 (more26a : Option Addr) (more26l : Nat) (more26c : Nat) (i27 : Int) (w : World) (Kn : Bool → World → Prop) (Kp : List PanicEntry → World → Prop) : Prop :=
  if (decide ((i27 : Int) < ((more26l : Nat) : Int))) = true then (Kn (decide ((i27 : Int) < 150)) w) else (Kn false w)

def T_law08_ConfSaves_3_outs : Exit → Option (List (Nat × Value)) := fun x => match x with | .normal => some [(38, .bool false)] | .panic _ => some [] | _ => none

def T_law08_ConfSaves_3_ks : Nat → Bool := ksOf [31, 32, 33, 34, 35, 36, 37, 38]

def H_law08_ConfSaves_3 : Env → World → QT → Prop := unitHook 78 T_law08_ConfSaves_3_ks [(1, .slice none 0 0), (10, .int .i64 0)] T_law08_ConfSaves_3_outs fun l w C => match l with | [v0, v1] => T_law08_ConfSaves_3 (pA v0) (pL v0) (pC v0) (pInt v1) w (fun b29 w => C .normal [.bool b29] w) (fun ch w => C (.panic ch) [] w) | _ => False

theorem T_law08_ConfSaves_3_hl : allP (hokL Tryz.prog (hookAt []) (at_ (bodyOf Tryz.f11) [1, 1, 1, 1, 1, 0, 1, 0, 0, 0, 0]) 4048) = (True) := by kernel_rfl
theorem T_law08_ConfSaves_3_hok : HOk Tryz.prog (hookAt []) (at_ (bodyOf Tryz.f11) [1, 1, 1, 1, 1, 0, 1, 0, 0, 0, 0]) 4048 := HOk_of _ _ (by rw [T_law08_ConfSaves_3_hl]; exact trivial)

theorem T_law08_ConfSaves_3_eq (C : Conts) (more26a : Option Addr) (more26l : Nat) (more26c : Nat) (i27 : Int) (w : World) : vcCode Tryz.prog (hookAt []) (at_ (bodyOf Tryz.f11) [1, 1, 1, 1, 1, 0, 1, 0, 0, 0, 0]) 4048 ⟨[(1, .slice more26a more26l more26c), (10, .int .i64 i27)], 78, []⟩ w (unitQ T_law08_ConfSaves_3_outs C) = T_law08_ConfSaves_3 more26a more26l more26c i27 w (fun b30 w => C .normal [.bool b30] w) (fun ch w => C (.panic ch) [] w) := by kernel_rfl

theorem T_law08_ConfSaves_3_ok : UnitOk Tryz.prog H_law08_ConfSaves_3 (at_ (bodyOf Tryz.f11) [1, 1, 1, 1, 1, 0, 1, 0, 0, 0, 0]) 4048 := unit_ok (H := (hookAt [])) (by kernel_rfl) T_law08_ConfSaves_3_hok fun l w C hk => by
    obtain ⟨v0, l_v0, rfl, k_v0, hk_v0⟩ := Kinds.cons_ hk
    obtain ⟨more26a, more26l, more26c, rfl⟩ := kind_slice k_v0
    obtain ⟨v1, l_v1, rfl, k_v1, hk_v1⟩ := Kinds.cons_ hk_v0
    obtain ⟨i27, rfl⟩ := kind_int k_v1
    obtain rfl := Kinds.nil_ hk_v1
    exact T_law08_ConfSaves_3_eq C more26a more26l more26c i27 w

def T_law08_ConfSaves_2_body (X : Int → World → Prop) (i22 : Int) (more23a : Option Addr) (more23l : Nat) (more23c : Nat) (s24 : Option Addr) (t25 : Option Addr) (w : World) (Kn : World → Prop) (Kr : Bool → World → Prop) (Kp : List PanicEntry → World → Prop)  : Prop :=
  T_law08_ConfSaves_3 more23a more23l more23c i22 w (fun b31 w32 => if b31 = true then (let w33 : World := w32.drew
  0 ≤ (i22 : Int) ∧ (i22 : Int) < ((more23l : Nat) : Int) ∧ ∃ b34, more23a = some b34 ∧ ∃ x35 : Int, ∃ x36 : Int, ∃ x37 : Int, ∃ x38 : Int, ∃ s39 : ByteArray, ∃ s40 : ByteArray, ∃ s41 : ByteArray, ∃ s42a : Option Addr, ∃ s42l : Nat, ∃ s42c : Nat, rd w33 (b34.add ((i22 : Int).toNat * 8)) (.agg #[.int .i64 x35, .int .i64 x36, .int .i64 x37, .int .i64 x38, .string s39, .string s40, .string s41, .slice s42a s42l s42c]) ∧ Calls Tryz.prog 16 #[.agg #[.int .i64 x35, .int .i64 x36, .int .i64 x37, .int .i64 x38, .string s39, .string s40, .string s41, .slice s42a s42l s42c]] w33 (ret (fun r43 w44 => ∃ b45 : Bool, r43 = .bool b45 ∧ (True) ∧ if b45 = true then (0 ≤ (i22 : Int) ∧ (i22 : Int) < ((more23l : Nat) : Int) ∧ ∃ b46, more23a = some b46 ∧ ∃ x47 : Int, ∃ x48 : Int, ∃ x49 : Int, ∃ x50 : Int, ∃ s51 : ByteArray, ∃ s52 : ByteArray, ∃ s53 : ByteArray, ∃ s54a : Option Addr, ∃ s54l : Nat, ∃ s54c : Nat, rd w44 (b46.add ((i22 : Int).toNat * 8)) (.agg #[.int .i64 x47, .int .i64 x48, .int .i64 x49, .int .i64 x50, .string s51, .string s52, .string s53, .slice s54a s54l s54c]) ∧ 0 ≤ (i22 : Int) ∧ (i22 : Int) < ((more23l : Nat) : Int) ∧ ∃ b55, more23a = some b55 ∧ ∃ x56 : Int, ∃ x57 : Int, ∃ x58 : Int, ∃ x59 : Int, ∃ s60 : ByteArray, ∃ s61 : ByteArray, ∃ s62 : ByteArray, ∃ s63a : Option Addr, ∃ s63l : Nat, ∃ s63c : Nat, rd w44 (b55.add ((i22 : Int).toNat * 8)) (.agg #[.int .i64 x56, .int .i64 x57, .int .i64 x58, .int .i64 x59, .string s60, .string s61, .string s62, .slice s63a s63l s63c]) ∧ Calls Tryz.prog 17 #[.pointer s24, .agg #[.int .i64 x47, .int .i64 x48, .int .i64 x49, .int .i64 x50, .string s51, .string s52, .string s53, .slice s54a s54l s54c]] w44 (ret (fun r64 w65 => ∃ x66 : Int, ∃ x67 : Int, r64 = .agg #[.int .i64 x66, .int .i64 x67] ∧ (rd w65 (b55.add ((i22 : Int).toNat * 8)) (.agg #[.int .i64 x56, .int .i64 x57, .int .i64 x58, .int .i64 x59, .string s60, .string s61, .string s62, .slice s63a s63l s63c]) ∧ True) ∧ Calls Tryz.prog 17 #[.pointer t25, .agg #[.int .i64 x56, .int .i64 x57, .int .i64 x58, .int .i64 x59, .string s60, .string s61, .string s62, .slice s63a s63l s63c]] w65 (ret (fun r68 w69 => ∃ x70 : Int, ∃ x71 : Int, r68 = .agg #[.int .i64 x70, .int .i64 x71] ∧ (True) ∧ runV Tryz.prog (do eqGuard .neq 45 (.tmp 52) (.tmp 58) (.agg #[.int .i64 x66, .int .i64 x67]) (.agg #[.int .i64 x70, .int .i64 x71]); binOp .neq 45 (.agg #[.int .i64 x66, .int .i64 x67]) (.agg #[.int .i64 x70, .int .i64 x71])) w69 (fun r72 w73 => ∃ b74 : Bool, r72 = .bool b74 ∧ (True) ∧ if b74 = true then (Kr false w73) else (X (IntKind.wrap .i64 ((i22 : Int) + 1)) w73)) Kp) Kp)) Kp)) else ((True) ∧ (True) ∧ (True) ∧ X (IntKind.wrap .i64 ((i22 : Int) + 1)) w44)) Kp)) else (Kn  w32)) Kp

def T_law08_ConfSaves_2 (i22 : Int) (more23a : Option Addr) (more23l : Nat) (more23c : Nat) (s24 : Option Addr) (t25 : Option Addr) (w : World) (Kn : World → Prop) (Kr : Bool → World → Prop) (Kp : List PanicEntry → World → Prop) : Prop :=
  ∀ X : Int → World → Prop, (∀ (i22 : Int) (w : World), T_law08_ConfSaves_2_body X i22 more23a more23l more23c s24 t25 w Kn Kr Kp → X i22 w) → X i22 w

def T_law08_ConfSaves_2_outs : Exit → Option (List (Nat × Value)) := fun x => match x with | .normal => some [] | .ret => some [(4, .bool false)] | .panic _ => some [] | _ => none

def T_law08_ConfSaves_2_ks : Nat → Bool := ksOf [4, 10, 31, 32, 33, 34, 35, 36, 37, 38, 39, 40, 41, 42, 43, 44, 45, 46, 47, 48, 49, 50, 51, 52, 53, 54, 55, 56, 57, 58, 59, 60]

def H_law08_ConfSaves_2 : Env → World → QT → Prop := unitHook 78 T_law08_ConfSaves_2_ks [(10, .int .i64 0), (1, .slice none 0 0), (5, .pointer none), (8, .pointer none)] T_law08_ConfSaves_2_outs fun l w C => match l with | [v0, v1, v2, v3] => T_law08_ConfSaves_2 (pInt v0) (pA v1) (pL v1) (pC v1) (pPtr v2) (pPtr v3) w (fun w => C .normal [] w) (fun b76 w => C .ret [.bool b76] w) (fun ch w => C (.panic ch) [] w) | _ => False

theorem T_law08_ConfSaves_2_hl : allP (hokL Tryz.prog (hookAt [(4048, H_law08_ConfSaves_3)]) (at_ (bodyOf Tryz.f11) [1, 1, 1, 1, 1, 0, 1, 0, 0]) 1012) = (UnitOk Tryz.prog H_law08_ConfSaves_3 (at_ (bodyOf Tryz.f11) [1, 1, 1, 1, 1, 0, 1, 0, 0, 0, 0]) 4048 ∧ True) := by kernel_rfl
theorem T_law08_ConfSaves_2_hok : HOk Tryz.prog (hookAt [(4048, H_law08_ConfSaves_3)]) (at_ (bodyOf Tryz.f11) [1, 1, 1, 1, 1, 0, 1, 0, 0]) 1012 := HOk_of _ _ (by rw [T_law08_ConfSaves_2_hl]; exact ⟨T_law08_ConfSaves_3_ok, trivial⟩)

theorem T_law08_ConfSaves_2_eq (C : Conts) (X : List Value → World → Prop) (i22 : Int) (more23a : Option Addr) (more23l : Nat) (more23c : Nat) (s24 : Option Addr) (t25 : Option Addr) (w : World) : vcCode Tryz.prog (hookAt [(4048, H_law08_ConfSaves_3)]) (at_ (bodyOf Tryz.f11) [1, 1, 1, 1, 1, 0, 1, 0, 0]) 1012 ⟨[(10, .int .i64 i22)] ++ [(1, .slice more23a more23l more23c), (5, .pointer s24), (8, .pointer t25)], 78, []⟩ w (seqQ (fun e w => takeAll e [(10, .int .i64 0)] fun l => X l w) (blockQ 0 (unitQ T_law08_ConfSaves_2_outs C))) = T_law08_ConfSaves_2_body (fun i22 w => X [.int .i64 i22] w) i22 more23a more23l more23c s24 t25 w (fun w => C .normal [] w) (fun b77 w => C .ret [.bool b77] w) (fun ch w => C (.panic ch) [] w) := by kernel_rfl

theorem T_law08_ConfSaves_2_ok : UnitOk Tryz.prog H_law08_ConfSaves_2 (at_ (bodyOf Tryz.f11) [1, 1, 1, 1, 1, 0, 1]) 253 := by
  have hc : at_ (bodyOf Tryz.f11) [1, 1, 1, 1, 1, 0, 1] = .block 0 (.loop (at_ (bodyOf Tryz.f11) [1, 1, 1, 1, 1, 0, 1, 0, 0])) := by kernel_rfl
  rw [hc]
  refine loop_unit_ok (carr := [(10, .int .i64 0)]) (fix := [(1, .slice none 0 0), (5, .pointer none), (8, .pointer none)]) (ks := T_law08_ConfSaves_2_ks) (H := (hookAt [(4048, H_law08_ConfSaves_3)])) (B := fun C X l u w => match l, u with | [v0], [v1, v2, v3] => T_law08_ConfSaves_2_body (fun i22 w => X [.int .i64 i22] w) (pInt v0) (pA v1) (pL v1) (pC v1) (pPtr v2) (pPtr v3) w (fun w => C .normal [] w) (fun b78 w => C .ret [.bool b78] w) (fun ch w => C (.panic ch) [] w) | _, _ => False) (by kernel_rfl) (by kernel_rfl) T_law08_ConfSaves_2_hok ?_ ?_
  · intro C X l u w hl hu
    obtain ⟨v0, l_v0, rfl, k_v0, hl_v0⟩ := Kinds.cons_ hl
    obtain ⟨i22, rfl⟩ := kind_int k_v0
    obtain rfl := Kinds.nil_ hl_v0
    obtain ⟨v1, l_v1, rfl, k_v1, hu_v1⟩ := Kinds.cons_ hu
    obtain ⟨more23a, more23l, more23c, rfl⟩ := kind_slice k_v1
    obtain ⟨v2, l_v2, rfl, k_v2, hu_v2⟩ := Kinds.cons_ hu_v1
    obtain ⟨s24, rfl⟩ := kind_pointer k_v2
    obtain ⟨v3, l_v3, rfl, k_v3, hu_v3⟩ := Kinds.cons_ hu_v2
    obtain ⟨t25, rfl⟩ := kind_pointer k_v3
    obtain rfl := Kinds.nil_ hu_v3
    exact T_law08_ConfSaves_2_eq C X i22 more23a more23l more23c s24 t25 w
  · intro l u w C hl hu
    obtain ⟨v0, l_v0, rfl, k_v0, hl_v0⟩ := Kinds.cons_ hl
    obtain ⟨i22, rfl⟩ := kind_int k_v0
    obtain rfl := Kinds.nil_ hl_v0
    obtain ⟨v1, l_v1, rfl, k_v1, hu_v1⟩ := Kinds.cons_ hu
    obtain ⟨more23a, more23l, more23c, rfl⟩ := kind_slice k_v1
    obtain ⟨v2, l_v2, rfl, k_v2, hu_v2⟩ := Kinds.cons_ hu_v1
    obtain ⟨s24, rfl⟩ := kind_pointer k_v2
    obtain ⟨v3, l_v3, rfl, k_v3, hu_v3⟩ := Kinds.cons_ hu_v2
    obtain ⟨t25, rfl⟩ := kind_pointer k_v3
    obtain rfl := Kinds.nil_ hu_v3
    constructor
    · intro h X hX
      exact h (fun i22 w => X [.int .i64 i22] w) (fun i22 w hb => hX [.int .i64 i22] w ⟨rfl, trivial⟩ hb)
    · intro h X hX
      exact h (fun l w => match l with | [v0] => X (pInt v0) w | _ => True) (fun l w hl hb => by
        obtain ⟨v0, l_v0, rfl, k_v0, hl_v0⟩ := Kinds.cons_ hl
        obtain ⟨i22, rfl⟩ := kind_int k_v0
        obtain rfl := Kinds.nil_ hl_v0
        exact hX i22 w hb)

def T_law08_ConfSaves (l1a : Option Addr) (l1l : Nat) (l1c : Nat) (more2a : Option Addr) (more2l : Nat) (more2c : Nat) (w : World) (R : Ending → World → Prop) : Prop :=
  Calls Tryz.prog 13 #[.slice l1a l1l l1c] w (ret (fun r3 w4 => ∃ p5 : Option Addr, ∃ p6 : Option Addr, ∃ b7 : Bool, r3 = .tuple #[.pointer p5, .pointer p6, .bool b7] ∧ if (!b7) = true then (R (.returned (.bool false)) w4) else (Calls Tryz.prog 25 #[.pointer p5] w4 (ret (fun r8 w9 => ∃ s10a : Option Addr, ∃ s10l : Nat, ∃ s10c : Nat, r8 = .slice s10a s10l s10c ∧ Calls Tryz.prog 33 #[.slice s10a s10l s10c] w9 (ret (fun r11 w12 => ∃ p13 : Option Addr, ∃ x14 : Int, r11 = .tuple #[.pointer p13, .int .i64 x14] ∧ T_law08_ConfSaves_1 p13 x14 w12 (fun b20 w21 => if b20 = true then (R (.returned (.bool false)) w21) else (T_law08_ConfSaves_2 0 more2a more2l more2c p5 p13 w21 (fun w79 => let w80 : World := w79.drew
  Calls Tryz.prog 15 #[] w80 (ret (fun r81 w82 => ∃ b83 : Bool, r81 = .bool b83 ∧ (True) ∧ if b83 = true then (Calls Tryz.prog 14 #[.pointer p5] w82 (ret (fun r84 w85 => ∃ x86 : Int, ∃ s87a : Option Addr, ∃ s87l : Nat, ∃ s87c : Nat, ∃ s88a : Option Addr, ∃ s88l : Nat, ∃ s88c : Nat, r84 = .agg #[.int .i64 x86, .slice s87a s87l s87c, .slice s88a s88l s88c] ∧ (True) ∧ Calls Tryz.prog 14 #[.pointer p13] w85 (ret (fun r89 w90 => ∃ x91 : Int, ∃ s92a : Option Addr, ∃ s92l : Nat, ∃ s92c : Nat, ∃ s93a : Option Addr, ∃ s93l : Nat, ∃ s93c : Nat, r89 = .agg #[.int .i64 x91, .slice s92a s92l s92c, .slice s93a s93l s93c] ∧ (True) ∧ Calls Tryz.prog 20 #[.agg #[.int .i64 x86, .slice s87a s87l s87c, .slice s88a s88l s88c], .agg #[.int .i64 x91, .slice s92a s92l s92c, .slice s93a s93l s93c]] w90 (ret (fun r94 w95 => ∃ b96 : Bool, r94 = .bool b96 ∧ (True) ∧ if b96 = true then (Calls Tryz.prog 25 #[.pointer p5] w95 (ret (fun r97 w98 => ∃ s99a : Option Addr, ∃ s99l : Nat, ∃ s99c : Nat, r97 = .slice s99a s99l s99c ∧ (True) ∧ (runV Tryz.prog (convert 56 9 (.slice s99a s99l s99c)) w98 (fun r100 w101 => ∃ s102 : ByteArray, r100 = .string s102 ∧ (True) ∧ Calls Tryz.prog 25 #[.pointer p13] w101 (ret (fun r103 w104 => ∃ s105a : Option Addr, ∃ s105l : Nat, ∃ s105c : Nat, r103 = .slice s105a s105l s105c ∧ (True) ∧ runV Tryz.prog (convert 56 9 (.slice s105a s105l s105c)) w104 (fun r106 w107 => ∃ s108 : ByteArray, r106 = .string s108 ∧ (True) ∧ R (.returned (.bool (s102.toList == s108.toList))) w107) (pan R)) (pan R))) (pan R)) ∧ (Calls Tryz.prog 25 #[.pointer p13] w98 (ret (fun r109 w110 => ∃ s111a : Option Addr, ∃ s111l : Nat, ∃ s111c : Nat, r109 = .slice s111a s111l s111c ∧ (True) ∧ (runV Tryz.prog (convert 56 9 (.slice s99a s99l s99c)) w110 (fun r112 w113 => ∃ s114 : ByteArray, r112 = .string s114 ∧ (True) ∧ runV Tryz.prog (convert 56 9 (.slice s111a s111l s111c)) w113 (fun r115 w116 => ∃ s117 : ByteArray, r115 = .string s117 ∧ (True) ∧ R (.returned (.bool (s114.toList == s117.toList))) w116) (pan R)) (pan R)) ∧ (runV Tryz.prog (convert 56 9 (.slice s111a s111l s111c)) w110 (fun r118 w119 => ∃ s120 : ByteArray, r118 = .string s120 ∧ (True) ∧ runV Tryz.prog (convert 56 9 (.slice s99a s99l s99c)) w119 (fun r121 w122 => ∃ s123 : ByteArray, r121 = .string s123 ∧ (True) ∧ R (.returned (.bool (s123.toList == s120.toList))) w122) (pan R)) (pan R))) (pan R)))) (pan R))) else ((True) ∧ ((True) ∧ (True) ∧ (True) ∧ R (.returned (.bool false)) w95) ∧ ((True) ∧ ((True) ∧ (True) ∧ R (.returned (.bool false)) w95) ∧ ((True) ∧ (True) ∧ R (.returned (.bool false)) w95)))) (pan R))) (pan R))) (pan R))) else ((True) ∧ (True) ∧ (True) ∧ (True) ∧ ((True) ∧ (True) ∧ (True) ∧ R (.returned (.bool false)) w82) ∧ ((True) ∧ ((True) ∧ (True) ∧ R (.returned (.bool false)) w82) ∧ ((True) ∧ (True) ∧ R (.returned (.bool false)) w82)))) (pan R))) (fun b124 w125 => R (.returned (.bool b124)) w125) (pan R))) (pan R)) (pan R))) (pan R)))) (pan R))

theorem T_law08_ConfSaves_hl : allP (hokL Tryz.prog (hookAt [(124, H_law08_ConfSaves_1), (253, H_law08_ConfSaves_2)]) (bodyOf Tryz.f11) 1) = (UnitOk Tryz.prog H_law08_ConfSaves_1 (at_ (bodyOf Tryz.f11) [1, 1, 1, 1, 0, 0]) 124 ∧ UnitOk Tryz.prog H_law08_ConfSaves_2 (at_ (bodyOf Tryz.f11) [1, 1, 1, 1, 1, 0, 1]) 253 ∧ True) := by kernel_rfl

theorem T_law08_ConfSaves_eq (l1a : Option Addr) (l1l : Nat) (l1c : Nat) (more2a : Option Addr) (more2l : Nat) (more2c : Nat) (w : World) (R : Ending → World → Prop) : vcCode Tryz.prog (hookAt [(124, H_law08_ConfSaves_1), (253, H_law08_ConfSaves_2)]) (bodyOf Tryz.f11) 1 ⟨argEnv [.slice l1a l1l l1c, .slice more2a more2l more2c] 0, Tryz.f11.ntmps, []⟩ w (finQ Tryz.prog Tryz.f11.results.toList R) = T_law08_ConfSaves l1a l1l l1c more2a more2l more2c w R := by kernel_rfl

theorem T_law08_ConfSaves_b : Tryz.f11.body = some (bodyOf Tryz.f11) := by kernel_rfl
theorem T_law08_ConfSaves_s : (quietSel (bodyOf Tryz.f11) && Nat.ble 2 Tryz.f11.ntmps) = true := by kernel_rfl

theorem C_law08_ConfSaves {l1a : Option Addr} {l1l : Nat} {l1c : Nat} {more2a : Option Addr} {more2l : Nat} {more2c : Nat} {w : World} {R : Ending → World → Prop} (h : T_law08_ConfSaves l1a l1l l1c more2a more2l more2c w R) : Calls Tryz.prog 11 #[.slice l1a l1l l1c, .slice more2a more2l more2c] w R :=
  calls_of_text (args := [.slice l1a l1l l1c, .slice more2a more2l more2c]) mixed Tryz.func11 T_law08_ConfSaves_b T_law08_ConfSaves_s (HOk_of _ _ (by rw [T_law08_ConfSaves_hl]; exact ⟨T_law08_ConfSaves_1_ok, T_law08_ConfSaves_2_ok, trivial⟩)) (by rw [T_law08_ConfSaves_eq]; exact h)

end Go.Proofs.YtcpmfjclkdjfmaaGreat

/-
  The law ConfSaves: the loop.
-/
namespace Go.Vc
open Go Go.Proofs Go.Proofs.YtcpmfjclkdjfmaaGreat Go.RowKit
set_option maxRecDepth 100000
section
variable {E w : World} {L : List Asrt} {R : Ending → World → Prop} {F G : Fz} {s : Cm.Sm} {p p2 : Nat}
set_option maxHeartbeats 4000000 in
theorem saves2_spec {Kn : World → Prop} {Kr : Bool → World → Prop} {Kp : List PanicEntry → World → Prop} {a : Option Addr} {l cc : Nat} {ds : List (Cm.Cmd × Sl)} (hd : CmdsR F a l ds) (I : Cm.Inv s) (h : St E (stA F p s :: stA F p2 s :: kn F :: L) w)
    (k : ∀ (G : Fz) (s : Cm.Sm) (w' : World), Fz.le F G → Cm.Inv s → St E (stA G p s :: stA G p2 s :: kn G :: L) w' → Kn w') : T_law08_ConfSaves_2 0 a l cc (some ⟨p, 0, none⟩) (some ⟨p2, 0, none⟩) w Kn Kr Kp := by
  have n1 := hd.1.count cmdL_len (by decide) h at2
  unfold T_law08_ConfSaves_2
  intro X hX
  refine up_to (min l 150) (Q := fun j => ∀ (w : World) (G : Fz) (s : Cm.Sm), Fz.le F G → Cm.Inv s → St E (stA G p s :: stA G p2 s :: kn G :: L) w → X (j : Int) w) ?_ w F s (Fz.le_refl F) I h
  intro j hj ih w G s hG I h
  refine hX _ _ ?_
  unfold T_law08_ConfSaves_2_body T_law08_ConfSaves_3
  refine ite_d (fun h1 => ?_) fun h1 => ite_b (fun hh => by cases hh) fun _ => k G s _ hG I h
  refine ite_b (fun h2 => ?_) fun h2 => k G s _ hG I h
  have h2 : (j : Int) < 150 := of_decide_eq_true h2
  have hjl : j < ds.length := by omega
  obtain ⟨hok, hrd⟩ := hd.2 _ (List.getElem_mem hjl)
  intro w23
  have h23 : St E _ w23 := h.drew
  clear_value w23
  obtain ⟨ad, ha, hc⟩ := cmd_at ((RdF.mono hd.1 hG).at h23 at2) hjl
  rw [Int.toNat_natCast, succ_big (by unfold big; omega)]
  refine ⟨by omega, by omega, ad, ha, _, _, _, _, _, _, _, _, _, _, hc, short_spec h23 fun w34 h34 => ⟨_, rfl, trivial, ite_b (fun hs => ?_) fun hs => ⟨trivial, trivial, trivial, ih (by omega) _ G s hG I h34⟩⟩⟩
  obtain ⟨ad2, ha2, hc2⟩ := cmd_at ((RdF.mono hd.1 hG).at h34 at2) hjl
  rw [ha] at ha2
  injection ha2 with ha2
  subst ha2
  refine ⟨by omega, by omega, ad, ha, _, _, _, _, _, _, _, _, _, _, hc2, by omega, by omega, ad, ha, _, _, _, _, _, _, _, _, _, _, hc2, ?_⟩
  refine Do_spec (c := ds[j].1) (q := ds[j].2) (L := stA G p2 s :: L) I (RdF.mono hrd hG) hok (h34.sel 3 [0, 2, 1]) fun G1 w55 hG1 h55 => ⟨_, _, rfl, ⟨?_, trivial⟩, ?_⟩
  · obtain ⟨ad3, ha3, hc3⟩ := cmd_at ((RdF.mono hd.1 (Fz.le_trans hG hG1)).at h55 at1) hjl
    rw [ha] at ha3
    injection ha3 with ha3
    subst ha3
    exact hc3
  · refine Do_spec (c := ds[j].1) (q := ds[j].2) (L := stA G1 p (Cm.doC s ds[j].1).1 :: L) I (RdF.mono hrd (Fz.le_trans hG hG1)) hok (St.st_mono (h55.sel 3 [2, 1, 0]) hG1) fun G2 w59 hG2 h59 => ⟨_, _, rfl, trivial, ?_⟩
    refine runV_ok (res_ne _ _ _ _ _ _) ?_
    refine ⟨_, rfl, trivial, ?_⟩
    refine ite_b (fun hh => ?_) fun _ => ?_
    · simp at hh
    refine ih (by omega) _ G2 (Cm.doC s ds[j].1).1 (Fz.le_trans hG (Fz.le_trans hG1 hG2)) (Cm.doC_keeps I ds[j].1) ?_
    exact St.st_mono (h59.sel 3 [2, 0, 1]) hG2
end
end Go.Vc

/-
  The law ConfSaves.
-/
namespace Go.Vc
open Go Go.Proofs Go.Proofs.YtcpmfjclkdjfmaaGreat Go.RowKit
set_option maxRecDepth 100000
section
variable {E w : World} {L : List Asrt} {R : Ending → World → Prop} {F G : Fz} {s : Cm.Sm} {p p2 : Nat}
theorem St.src {q : Sl} {b : Cm.Bs} (h : St E (byA q b :: kn F :: L) w) (hb : b.length ≤ 9223372036854775807) : ∃ G, Fz.le F G ∧ St E (kn G :: L) w ∧ Src G q b := by
  have hl := h.by_len
  have hc := h.ownS_facts.2.1
  obtain ⟨G, hG, h2, hr⟩ := St.freezeS h
  exact ⟨G, hG, h2, hr, hl, hc, hb⟩
theorem conv_by2 {b : Sl} {xs : Cm.Bs} (h : St E (byA b xs :: L) w) : (convert 56 9 (.slice b.1 b.2.1 b.2.2)).run Tryz.prog w = .ok (.string (bs xs)) w :=
  convert_string (e := 5) (by kernel_rfl) (by kernel_rfl) (by kernel_rfl) h.rdS_own
set_option maxHeartbeats 4000000 in
theorem saves_walk {a a2 : Option Addr} {l cc l2 c2 : Nat} {ds ds2 : List (Cm.Cmd × Sl)} (hd : CmdsR F a l ds) (hd2 : CmdsR F a2 l2 ds2) (h : St E (kn F :: L) w) (k : ∀ G w', Fz.le F G → St E (kn G :: L) w' → R (.returned (.bool true)) w') : Calls Tryz.prog 11 #[.slice a l cc, .slice a2 l2 c2] w R := by
  refine C_law08_ConfSaves ?_
  unfold T_law08_ConfSaves
  refine play_spec hd h fun G1 p r s w4 hG1 I h4 => ⟨_, _, _, rfl, ite_n (fun hh => by cases hh) fun _ => ?_⟩
  have S := Sz.of I
  refine Put_spec (L := refA G1 r s :: kn G1 :: L) at1 S I.lr (by have := I.ln; omega) h4 fun w9 b' h9 => ⟨_, _, _, rfl, ?_⟩
  have hb : (Cm.putS s).length ≤ 9223372036854775807 := by
    have h1 := h9.by_len
    have h2 := h9.ownS_facts.2
    have e : maxLen = 9223372036854775807 := rfl
    omega
  obtain ⟨G2, hG2, h10, hs⟩ := St.src (St.sel (L := byA b' (Cm.putS s) :: stA G1 p s :: refA G1 r s :: kn G1 :: L) h9 4 [0, 3, 1, 2]) hb
  have h10 : St E (kn G2 :: stA G1 p s :: refA G1 r s :: L) w9 := h10
  refine Load_spec hs h10 (fun e G w' he => by rw [Cm.load_putS I] at he; cases he) fun s2 p2 G3 w12 hl hG3 h12 => ⟨_, _, rfl, ?_⟩
  rw [Cm.load_putS I] at hl
  injection hl with hl
  subst hl
  unfold T_law08_ConfSaves_1
  refine ite_b (fun hh => by simp at hh) fun _ => ite_b (fun hh => by cases hh) fun _ => ?_
  have l3 : Fz.le F G3 := Fz.le_trans hG1 (Fz.le_trans hG2 hG3)
  have h13 : St E (stA G3 p s :: stA G3 p2 s :: kn G3 :: refA G1 r s :: L) w12 := St.st_mono (St.sel (L := stA G3 p2 s :: kn G3 :: stA G1 p s :: refA G1 r s :: L) h12 4 [2, 0, 1, 3]) (Fz.le_trans hG2 hG3)
  refine saves2_spec (CmdsR.mono hd2 l3) I h13 fun G4 s4 w79 hG4 I4 h79 => ?_
  have S4 := Sz.of I4
  have l4 : Fz.le F G4 := Fz.le_trans l3 hG4
  have hl4 : s4.l.length ≤ 64 := by have := I4.ln; omega
  intro w80
  have h80 : St E (stA G4 p s4 :: stA G4 p2 s4 :: kn G4 :: refA G1 r s :: L) w80 := h79.drew
  clear_value w80
  refine live_spec h80.f2 fun G5 w82 hG5 h82 => ⟨_, rfl, trivial, ite_b (fun _ => ?_) fun hh => by cases hh⟩
  have h83 : St E (stA G5 p s4 :: kn G5 :: stA G4 p2 s4 :: refA G1 r s :: L) w82 := St.st_mono (h82.sel 2 [1, 0]) hG5
  refine Config_kn S4 h83 fun G6 w85 ra pa hG6 hcf h85 => ⟨_, _, _, _, _, _, _, rfl, trivial, ?_⟩
  have h86 : St E (stA G6 p2 s4 :: kn G6 :: stA G6 p s4 :: refA G1 r s :: L) w85 := St.st_mono (h85.sel 3 [2, 1, 0]) (Fz.le_trans hG5 hG6)
  refine Config_kn S4 h86 fun G7 w90 ra2 pa2 hG7 hcf2 h90 => ⟨_, _, _, _, _, _, _, rfl, trivial, ?_⟩
  have l7 : Fz.le F G7 := Fz.le_trans l4 (Fz.le_trans hG5 (Fz.le_trans hG6 hG7))
  refine SameConfig_spec (v1 := s4.ver) (v2 := s4.ver) at1 h90 (hcf.mono hG7) hcf2 (by have := I4.pn; omega) (by have := I4.rn; omega) (fun x hx => by have := (S4.pl x hx).2.1; unfold huge; omega) fun w95 h95 => ⟨_, rfl, trivial, ite_b (fun _ => ?_) fun hh => by simp at hh⟩
  have h96 : St E (stA G7 p s4 :: stA G7 p2 s4 :: kn G7 :: refA G1 r s :: L) w95 := St.st_mono (h95.sel 3 [2, 0, 1]) hG7
  refine Put_spec (L := stA G7 p2 s4 :: kn G7 :: refA G1 r s :: L) at1 S4 I4.lr hl4 h96 fun w98 b1 h98 => ⟨_, _, _, rfl, trivial, ⟨?_, ?_⟩⟩
  · refine runV_ok (conv_by2 h98) ⟨_, rfl, trivial, ?_⟩
    refine Put_spec (L := byA b1 (Cm.putS s4) :: stA G7 p s4 :: kn G7 :: refA G1 r s :: L) at2 S4 I4.lr hl4 (h98.sel 4 [2, 0, 1, 3]) fun w104 b2 h104 => ⟨_, _, _, rfl, trivial, ?_⟩
    exact runV_ok (conv_by2 h104) ⟨_, rfl, trivial, congB (k G7 _ l7 (h104.sel 6 [4])) (by simp)⟩
  · refine Put_spec (L := byA b1 (Cm.putS s4) :: stA G7 p s4 :: kn G7 :: refA G1 r s :: L) at2 S4 I4.lr hl4 (h98.sel 4 [2, 0, 1, 3]) fun w104 b2 h104 => ⟨_, _, _, rfl, trivial, ⟨?_, ?_⟩⟩
    · refine runV_ok (conv_by2 h104.f2) ⟨_, rfl, trivial, ?_⟩
      exact runV_ok (conv_by2 h104) ⟨_, rfl, trivial, congB (k G7 _ l7 (h104.sel 6 [4])) (by simp)⟩
    · refine runV_ok (conv_by2 h104) ⟨_, rfl, trivial, ?_⟩
      exact runV_ok (conv_by2 h104.f2) ⟨_, rfl, trivial, congB (k G7 _ l7 (h104.sel 6 [4])) (by simp)⟩
theorem saves_law {H : Type} {enc : TypeId × Value → H} {W : World} {a a2 : Option Addr} {l c l2 c2 : Nat} {d d2 : DataW H} {ps ps2 : List MemPlace} (h : DataW.Trod enc Tryz.prog W 0 (fun _ => true) true 22 (.slice a l c) d ps)
    (h2 : DataW.Trod enc Tryz.prog W 0 (fun _ => true) true 22 (.slice a2 l2 c2) d2 ps2) :
    Calls Tryz.prog 11 #[.slice a l c, .slice a2 l2 c2] W fun e w' => e = .returned (.bool true) ∧ RowKit.Below W.heap.size W w' := by
  obtain ⟨ds, hd, _⟩ := open_cmds h
  obtain ⟨ds2, hd2, _⟩ := open_cmds h2
  exact saves_walk hd hd2 (St.start_kn W) fun G w' hG h' => ⟨rfl, h'.below_kn hG⟩
end
end Go.Vc
