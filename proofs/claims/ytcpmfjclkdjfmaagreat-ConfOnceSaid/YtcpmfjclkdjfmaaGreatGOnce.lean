/-
  What the functions' code comes to; printed by a program of this claim's own.
-/
import Derived.Test.YtcpmfjclkdjfmaaGreatProg
import Derived.KernelRfl
import Derived.Test.YtcpmfjclkdjfmaaGreatGi
namespace Go.Proofs.YtcpmfjclkdjfmaaGreat
open Go Go.Vc
set_option maxRecDepth 100000
set_option linter.unusedVariables false

/-! tollgate/tollgatelaw08.ConfOnce -/
def T_law08_ConfOnce_1 (c17 : Addr) (ok18 : Bool) (w : World) (Kn : Bool → World → Prop) (Kp : List PanicEntry → World → Prop) : Prop :=
  if (!ok18) = true then (Kn true w) else (∃ x19 : Int, ∃ x20 : Int, ∃ x21 : Int, ∃ x22 : Int, ∃ s23 : ByteArray, ∃ s24 : ByteArray, ∃ s25 : ByteArray, ∃ s26a : Option Addr, ∃ s26l : Nat, ∃ s26c : Nat, rd w c17 (.agg #[.int .i64 x19, .int .i64 x20, .int .i64 x21, .int .i64 x22, .string s23, .string s24, .string s25, .slice s26a s26l s26c]) ∧ Calls Tryz.prog 16 #[.agg #[.int .i64 x19, .int .i64 x20, .int .i64 x21, .int .i64 x22, .string s23, .string s24, .string s25, .slice s26a s26l s26c]] w (ret (fun r27 w28 => ∃ b29 : Bool, r27 = .bool b29 ∧ if (!b29) = true then (Kn true w28) else (∃ x30 : Int, ∃ x31 : Int, ∃ x32 : Int, ∃ x33 : Int, ∃ s34 : ByteArray, ∃ s35 : ByteArray, ∃ s36 : ByteArray, ∃ s37a : Option Addr, ∃ s37l : Nat, ∃ s37c : Nat, rd w28 c17 (.agg #[.int .i64 x30, .int .i64 x31, .int .i64 x32, .int .i64 x33, .string s34, .string s35, .string s36, .slice s37a s37l s37c]) ∧ Calls Tryz.prog 23 #[.agg #[.int .i64 x30, .int .i64 x31, .int .i64 x32, .int .i64 x33, .string s34, .string s35, .string s36, .slice s37a s37l s37c]] w28 (ret (fun r38 w39 => ∃ x40 : Int, r38 = .int .i64 x40 ∧ if ((x40 : Int) != 0) = true then (Kn true w39) else (∃ x41 : Int, rd w39 (c17.add 1) (.int .i64 x41) ∧ Kn ((x41 : Int) == 0) w39)) Kp))) Kp))

def T_law08_ConfOnce_1_outs : Exit → Option (List (Nat × Value)) := fun x => match x with | .normal => some [(39, .bool false)] | .panic _ => some [] | _ => none

def T_law08_ConfOnce_1_ks : Nat → Bool := ksOf [23, 24, 25, 26, 27, 28, 29, 30, 31, 32, 33, 34, 35, 36, 37, 38, 39]

def H_law08_ConfOnce_1 : Env → World → QT → Prop := unitHook 107 T_law08_ConfOnce_1_ks [(4, .pointer (some ⟨0, 0, none⟩)), (9, .bool false)] T_law08_ConfOnce_1_outs fun l w C => match l with | [v0, v1] => T_law08_ConfOnce_1 (pAddr v0) (pBool v1) w (fun b43 w => C .normal [.bool b43] w) (fun ch w => C (.panic ch) [] w) | _ => False

theorem T_law08_ConfOnce_1_hl : allP (hokL Tryz.prog (hookAt []) (at_ (bodyOf Tryz.f5) [1, 1, 0, 0]) 28) = (True) := by kernel_rfl
theorem T_law08_ConfOnce_1_hok : HOk Tryz.prog (hookAt []) (at_ (bodyOf Tryz.f5) [1, 1, 0, 0]) 28 := HOk_of _ _ (by rw [T_law08_ConfOnce_1_hl]; exact trivial)

theorem T_law08_ConfOnce_1_eq (C : Conts) (c17 : Addr) (ok18 : Bool) (w : World) : vcCode Tryz.prog (hookAt []) (at_ (bodyOf Tryz.f5) [1, 1, 0, 0]) 28 ⟨[(4, .pointer (some c17)), (9, .bool ok18)], 107, []⟩ w (unitQ T_law08_ConfOnce_1_outs C) = T_law08_ConfOnce_1 c17 ok18 w (fun b44 w => C .normal [.bool b44] w) (fun ch w => C (.panic ch) [] w) := by kernel_rfl

theorem T_law08_ConfOnce_1_ok : UnitOk Tryz.prog H_law08_ConfOnce_1 (at_ (bodyOf Tryz.f5) [1, 1, 0, 0]) 28 := unit_ok (H := (hookAt [])) (by kernel_rfl) T_law08_ConfOnce_1_hok fun l w C hk => by
    obtain ⟨v0, l_v0, rfl, k_v0, hk_v0⟩ := Kinds.cons_ hk
    obtain ⟨c17, rfl⟩ := kind_addr k_v0
    obtain ⟨v1, l_v1, rfl, k_v1, hk_v1⟩ := Kinds.cons_ hk_v0
    obtain ⟨ok18, rfl⟩ := kind_bool k_v1
    obtain rfl := Kinds.nil_ hk_v1
    exact T_law08_ConfOnce_1_eq C c17 ok18 w

def T_law08_ConfOnce_2 (ok47 : Bool) (w : World) (Kn : Bool → World → Prop) (Kp : List PanicEntry → World → Prop) : Prop :=
  if ok47 = true then (Calls Tryz.prog 15 #[] w (ret (fun r48 w49 => ∃ b50 : Bool, r48 = .bool b50 ∧ Kn b50 w49) Kp)) else (Kn false w)

def T_law08_ConfOnce_2_outs : Exit → Option (List (Nat × Value)) := fun x => match x with | .normal => some [(6, .bool false)] | .panic _ => some [] | _ => none

def T_law08_ConfOnce_2_ks : Nat → Bool := ksOf [6, 40, 41, 42, 43]

def H_law08_ConfOnce_2 : Env → World → QT → Prop := unitHook 107 T_law08_ConfOnce_2_ks [(9, .bool false)] T_law08_ConfOnce_2_outs fun l w C => match l with | [v0] => T_law08_ConfOnce_2 (pBool v0) w (fun b52 w => C .normal [.bool b52] w) (fun ch w => C (.panic ch) [] w) | _ => False

theorem T_law08_ConfOnce_2_hl : allP (hokL Tryz.prog (hookAt []) (at_ (bodyOf Tryz.f5) [1, 1, 0, 1, 0, 0]) 116) = (True) := by kernel_rfl
theorem T_law08_ConfOnce_2_hok : HOk Tryz.prog (hookAt []) (at_ (bodyOf Tryz.f5) [1, 1, 0, 1, 0, 0]) 116 := HOk_of _ _ (by rw [T_law08_ConfOnce_2_hl]; exact trivial)

theorem T_law08_ConfOnce_2_eq (C : Conts) (ok47 : Bool) (w : World) : vcCode Tryz.prog (hookAt []) (at_ (bodyOf Tryz.f5) [1, 1, 0, 1, 0, 0]) 116 ⟨[(9, .bool ok47)], 107, []⟩ w (unitQ T_law08_ConfOnce_2_outs C) = T_law08_ConfOnce_2 ok47 w (fun b53 w => C .normal [.bool b53] w) (fun ch w => C (.panic ch) [] w) := by kernel_rfl

theorem T_law08_ConfOnce_2_ok : UnitOk Tryz.prog H_law08_ConfOnce_2 (at_ (bodyOf Tryz.f5) [1, 1, 0, 1, 0, 0]) 116 := unit_ok (H := (hookAt [])) (by kernel_rfl) T_law08_ConfOnce_2_hok fun l w C hk => by
    obtain ⟨v0, l_v0, rfl, k_v0, hk_v0⟩ := Kinds.cons_ hk
    obtain ⟨ok47, rfl⟩ := kind_bool k_v0
    obtain rfl := Kinds.nil_ hk_v0
    exact T_law08_ConfOnce_2_eq C ok47 w

def T_law08_ConfOnce_3 (r86 : Addr) (w : World) (Kn : Bool → World → Prop) (Kp : List PanicEntry → World → Prop) : Prop :=
  Calls Tryz.prog 15 #[] w (ret (fun r87 w88 => ∃ b89 : Bool, r87 = .bool b89 ∧ if b89 = true then (∃ x90 : Int, rd w88 r86 (.int .i64 x90) ∧ Kn ((x90 : Int) == 12) w88) else (Kn false w88)) Kp)

def T_law08_ConfOnce_3_outs : Exit → Option (List (Nat × Value)) := fun x => match x with | .normal => some [(6, .bool false)] | .panic _ => some [] | _ => none

def T_law08_ConfOnce_3_ks : Nat → Bool := ksOf [6, 60, 61, 62, 63, 64, 65]

def H_law08_ConfOnce_3 : Env → World → QT → Prop := unitHook 107 T_law08_ConfOnce_3_ks [(12, .pointer (some ⟨0, 0, none⟩))] T_law08_ConfOnce_3_outs fun l w C => match l with | [v0] => T_law08_ConfOnce_3 (pAddr v0) w (fun b92 w => C .normal [.bool b92] w) (fun ch w => C (.panic ch) [] w) | _ => False

theorem T_law08_ConfOnce_3_hl : allP (hokL Tryz.prog (hookAt []) (at_ (bodyOf Tryz.f5) [1, 1, 1, 1, 1, 1, 0, 1, 0, 0]) 2036) = (True) := by kernel_rfl
theorem T_law08_ConfOnce_3_hok : HOk Tryz.prog (hookAt []) (at_ (bodyOf Tryz.f5) [1, 1, 1, 1, 1, 1, 0, 1, 0, 0]) 2036 := HOk_of _ _ (by rw [T_law08_ConfOnce_3_hl]; exact trivial)

theorem T_law08_ConfOnce_3_eq (C : Conts) (r86 : Addr) (w : World) : vcCode Tryz.prog (hookAt []) (at_ (bodyOf Tryz.f5) [1, 1, 1, 1, 1, 1, 0, 1, 0, 0]) 2036 ⟨[(12, .pointer (some r86))], 107, []⟩ w (unitQ T_law08_ConfOnce_3_outs C) = T_law08_ConfOnce_3 r86 w (fun b93 w => C .normal [.bool b93] w) (fun ch w => C (.panic ch) [] w) := by kernel_rfl

theorem T_law08_ConfOnce_3_ok : UnitOk Tryz.prog H_law08_ConfOnce_3 (at_ (bodyOf Tryz.f5) [1, 1, 1, 1, 1, 1, 0, 1, 0, 0]) 2036 := unit_ok (H := (hookAt [])) (by kernel_rfl) T_law08_ConfOnce_3_hok fun l w C hk => by
    obtain ⟨v0, l_v0, rfl, k_v0, hk_v0⟩ := Kinds.cons_ hk
    obtain ⟨r86, rfl⟩ := kind_addr k_v0
    obtain rfl := Kinds.nil_ hk_v0
    exact T_law08_ConfOnce_3_eq C r86 w

def T_law08_ConfOnce_4_body (X : Int → World → Prop) (i96 : Int) (times97 : Int) (c98 : Addr) (s99 : Option Addr) (r100 : Addr) (was101 : Addr) (w : World) (Kn : World → Prop) (Kr : Bool → World → Prop) (Kp : List PanicEntry → World → Prop)  : Prop :=
  if (decide ((i96 : Int) < (Int.tmod (IntKind.wrap .i64 times97) 8))) = true then (Calls Tryz.prog 18 #[.string (ByteArray.mk #[98])] w (ret (fun r102 w103 => ∃ x104 : Int, ∃ x105 : Int, ∃ x106 : Int, ∃ x107 : Int, ∃ s108 : ByteArray, ∃ s109 : ByteArray, ∃ s110 : ByteArray, ∃ s111a : Option Addr, ∃ s111l : Nat, ∃ s111c : Nat, r102 = .agg #[.int .i64 x104, .int .i64 x105, .int .i64 x106, .int .i64 x107, .string s108, .string s109, .string s110, .slice s111a s111l s111c] ∧ Calls Tryz.prog 17 #[.pointer s99, .agg #[.int .i64 x104, .int .i64 x105, .int .i64 x106, .int .i64 x107, .string s108, .string s109, .string s110, .slice s111a s111l s111c]] w103 (ret (fun r112 w113 => ∃ x114 : Int, ∃ x115 : Int, r112 = .agg #[.int .i64 x114, .int .i64 x115] ∧ Calls Tryz.prog 14 #[.pointer s99] w113 (ret (fun r116 w117 => ∃ x118 : Int, ∃ s119a : Option Addr, ∃ s119l : Nat, ∃ s119c : Nat, ∃ s120a : Option Addr, ∃ s120l : Nat, ∃ s120c : Nat, r116 = .agg #[.int .i64 x118, .slice s119a s119l s119c, .slice s120a s120l s120c] ∧ (.agg #[.int .i64 x118, .slice s119a s119l s119c, .slice s120a s120l s120c] : Value).cells.size = 3 ∧ wrOk w117 was101 (.agg #[.int .i64 x118, .slice s119a s119l s119c, .slice s120a s120l s120c]) ∧ let w121 : World := wr w117 was101 (.agg #[.int .i64 x118, .slice s119a s119l s119c, .slice s120a s120l s120c])
  let w122 : World := w121.drew
  ∃ x123 : Int, ∃ x124 : Int, ∃ x125 : Int, ∃ x126 : Int, ∃ s127 : ByteArray, ∃ s128 : ByteArray, ∃ s129 : ByteArray, ∃ s130a : Option Addr, ∃ s130l : Nat, ∃ s130c : Nat, rd w122 c98 (.agg #[.int .i64 x123, .int .i64 x124, .int .i64 x125, .int .i64 x126, .string s127, .string s128, .string s129, .slice s130a s130l s130c]) ∧ ∃ x131 : Int, ∃ x132 : Int, rd w122 r100 (.agg #[.int .i64 x131, .int .i64 x132]) ∧ Calls Tryz.prog 17 #[.pointer s99, .agg #[.int .i64 x123, .int .i64 x124, .int .i64 x125, .int .i64 x126, .string s127, .string s128, .string s129, .slice s130a s130l s130c]] w122 (ret (fun r133 w134 => ∃ x135 : Int, ∃ x136 : Int, r133 = .agg #[.int .i64 x135, .int .i64 x136] ∧ (rd w134 r100 (.agg #[.int .i64 x131, .int .i64 x132]) ∧ True) ∧ runV Tryz.prog (do eqGuard .neq 45 (.tmp 80) (.tmp 81) (.agg #[.int .i64 x135, .int .i64 x136]) (.agg #[.int .i64 x131, .int .i64 x132]); binOp .neq 45 (.agg #[.int .i64 x135, .int .i64 x136]) (.agg #[.int .i64 x131, .int .i64 x132])) w134 (fun r137 w138 => ∃ b139 : Bool, r137 = .bool b139 ∧ (True) ∧ if b139 = true then (Kr false w138) else (let w140 : World := w138.drew
  ∃ x141 : Int, ∃ s142a : Option Addr, ∃ s142l : Nat, ∃ s142c : Nat, ∃ s143a : Option Addr, ∃ s143l : Nat, ∃ s143c : Nat, rd w140 was101 (.agg #[.int .i64 x141, .slice s142a s142l s142c, .slice s143a s143l s143c]) ∧ Calls Tryz.prog 14 #[.pointer s99] w140 (ret (fun r144 w145 => ∃ x146 : Int, ∃ s147a : Option Addr, ∃ s147l : Nat, ∃ s147c : Nat, ∃ s148a : Option Addr, ∃ s148l : Nat, ∃ s148c : Nat, r144 = .agg #[.int .i64 x146, .slice s147a s147l s147c, .slice s148a s148l s148c] ∧ (rd w145 was101 (.agg #[.int .i64 x141, .slice s142a s142l s142c, .slice s143a s143l s143c]) ∧ True) ∧ Calls Tryz.prog 20 #[.agg #[.int .i64 x146, .slice s147a s147l s147c, .slice s148a s148l s148c], .agg #[.int .i64 x141, .slice s142a s142l s142c, .slice s143a s143l s143c]] w145 (ret (fun r149 w150 => ∃ b151 : Bool, r149 = .bool b151 ∧ (True) ∧ if (!b151) = true then (Kr false w150) else (X (IntKind.wrap .i64 ((i96 : Int) + 1)) w150)) Kp)) Kp))) Kp) Kp)) Kp)) Kp)) Kp)) else (Kn  w)

def T_law08_ConfOnce_4 (i96 : Int) (times97 : Int) (c98 : Addr) (s99 : Option Addr) (r100 : Addr) (was101 : Addr) (w : World) (Kn : World → Prop) (Kr : Bool → World → Prop) (Kp : List PanicEntry → World → Prop) : Prop :=
  ∀ X : Int → World → Prop, (∀ (i96 : Int) (w : World), T_law08_ConfOnce_4_body X i96 times97 c98 s99 r100 was101 w Kn Kr Kp → X i96 w) → X i96 w

def T_law08_ConfOnce_4_outs : Exit → Option (List (Nat × Value)) := fun x => match x with | .normal => some [] | .ret => some [(6, .bool false)] | .panic _ => some [] | _ => none

def T_law08_ConfOnce_4_ks : Nat → Bool := ksOf [6, 14, 66, 67, 68, 69, 70, 71, 72, 73, 74, 75, 76, 77, 78, 79, 80, 81, 82, 83, 84, 85, 86, 87]

def H_law08_ConfOnce_4 : Env → World → QT → Prop := unitHook 107 T_law08_ConfOnce_4_ks [(14, .int .i64 0), (2, .int .u8 0), (4, .pointer (some ⟨0, 0, none⟩)), (7, .pointer none), (12, .pointer (some ⟨0, 0, none⟩)), (13, .pointer (some ⟨0, 0, none⟩))] T_law08_ConfOnce_4_outs fun l w C => match l with | [v0, v1, v2, v3, v4, v5] => T_law08_ConfOnce_4 (pInt v0) (pInt v1) (pAddr v2) (pPtr v3) (pAddr v4) (pAddr v5) w (fun w => C .normal [] w) (fun b153 w => C .ret [.bool b153] w) (fun ch w => C (.panic ch) [] w) | _ => False

theorem T_law08_ConfOnce_4_hl : allP (hokL Tryz.prog (hookAt []) (at_ (bodyOf Tryz.f5) [1, 1, 1, 1, 1, 1, 1, 0, 1, 0, 0]) 4084) = (True) := by kernel_rfl
theorem T_law08_ConfOnce_4_hok : HOk Tryz.prog (hookAt []) (at_ (bodyOf Tryz.f5) [1, 1, 1, 1, 1, 1, 1, 0, 1, 0, 0]) 4084 := HOk_of _ _ (by rw [T_law08_ConfOnce_4_hl]; exact trivial)

theorem T_law08_ConfOnce_4_eq (C : Conts) (X : List Value → World → Prop) (i96 : Int) (times97 : Int) (c98 : Addr) (s99 : Option Addr) (r100 : Addr) (was101 : Addr) (w : World) : vcCode Tryz.prog (hookAt []) (at_ (bodyOf Tryz.f5) [1, 1, 1, 1, 1, 1, 1, 0, 1, 0, 0]) 4084 ⟨[(14, .int .i64 i96)] ++ [(2, .int .u8 times97), (4, .pointer (some c98)), (7, .pointer s99), (12, .pointer (some r100)), (13, .pointer (some was101))], 107, []⟩ w (seqQ (fun e w => takeAll e [(14, .int .i64 0)] fun l => X l w) (blockQ 0 (unitQ T_law08_ConfOnce_4_outs C))) = T_law08_ConfOnce_4_body (fun i96 w => X [.int .i64 i96] w) i96 times97 c98 s99 r100 was101 w (fun w => C .normal [] w) (fun b154 w => C .ret [.bool b154] w) (fun ch w => C (.panic ch) [] w) := by kernel_rfl

theorem T_law08_ConfOnce_4_ok : UnitOk Tryz.prog H_law08_ConfOnce_4 (at_ (bodyOf Tryz.f5) [1, 1, 1, 1, 1, 1, 1, 0, 1]) 1021 := by
  have hc : at_ (bodyOf Tryz.f5) [1, 1, 1, 1, 1, 1, 1, 0, 1] = .block 0 (.loop (at_ (bodyOf Tryz.f5) [1, 1, 1, 1, 1, 1, 1, 0, 1, 0, 0])) := by kernel_rfl
  rw [hc]
  refine loop_unit_ok (carr := [(14, .int .i64 0)]) (fix := [(2, .int .u8 0), (4, .pointer (some ⟨0, 0, none⟩)), (7, .pointer none), (12, .pointer (some ⟨0, 0, none⟩)), (13, .pointer (some ⟨0, 0, none⟩))]) (ks := T_law08_ConfOnce_4_ks) (H := (hookAt [])) (B := fun C X l u w => match l, u with | [v0], [v1, v2, v3, v4, v5] => T_law08_ConfOnce_4_body (fun i96 w => X [.int .i64 i96] w) (pInt v0) (pInt v1) (pAddr v2) (pPtr v3) (pAddr v4) (pAddr v5) w (fun w => C .normal [] w) (fun b155 w => C .ret [.bool b155] w) (fun ch w => C (.panic ch) [] w) | _, _ => False) (by kernel_rfl) (by kernel_rfl) T_law08_ConfOnce_4_hok ?_ ?_
  · intro C X l u w hl hu
    obtain ⟨v0, l_v0, rfl, k_v0, hl_v0⟩ := Kinds.cons_ hl
    obtain ⟨i96, rfl⟩ := kind_int k_v0
    obtain rfl := Kinds.nil_ hl_v0
    obtain ⟨v1, l_v1, rfl, k_v1, hu_v1⟩ := Kinds.cons_ hu
    obtain ⟨times97, rfl⟩ := kind_int k_v1
    obtain ⟨v2, l_v2, rfl, k_v2, hu_v2⟩ := Kinds.cons_ hu_v1
    obtain ⟨c98, rfl⟩ := kind_addr k_v2
    obtain ⟨v3, l_v3, rfl, k_v3, hu_v3⟩ := Kinds.cons_ hu_v2
    obtain ⟨s99, rfl⟩ := kind_pointer k_v3
    obtain ⟨v4, l_v4, rfl, k_v4, hu_v4⟩ := Kinds.cons_ hu_v3
    obtain ⟨r100, rfl⟩ := kind_addr k_v4
    obtain ⟨v5, l_v5, rfl, k_v5, hu_v5⟩ := Kinds.cons_ hu_v4
    obtain ⟨was101, rfl⟩ := kind_addr k_v5
    obtain rfl := Kinds.nil_ hu_v5
    exact T_law08_ConfOnce_4_eq C X i96 times97 c98 s99 r100 was101 w
  · intro l u w C hl hu
    obtain ⟨v0, l_v0, rfl, k_v0, hl_v0⟩ := Kinds.cons_ hl
    obtain ⟨i96, rfl⟩ := kind_int k_v0
    obtain rfl := Kinds.nil_ hl_v0
    obtain ⟨v1, l_v1, rfl, k_v1, hu_v1⟩ := Kinds.cons_ hu
    obtain ⟨times97, rfl⟩ := kind_int k_v1
    obtain ⟨v2, l_v2, rfl, k_v2, hu_v2⟩ := Kinds.cons_ hu_v1
    obtain ⟨c98, rfl⟩ := kind_addr k_v2
    obtain ⟨v3, l_v3, rfl, k_v3, hu_v3⟩ := Kinds.cons_ hu_v2
    obtain ⟨s99, rfl⟩ := kind_pointer k_v3
    obtain ⟨v4, l_v4, rfl, k_v4, hu_v4⟩ := Kinds.cons_ hu_v3
    obtain ⟨r100, rfl⟩ := kind_addr k_v4
    obtain ⟨v5, l_v5, rfl, k_v5, hu_v5⟩ := Kinds.cons_ hu_v4
    obtain ⟨was101, rfl⟩ := kind_addr k_v5
    obtain rfl := Kinds.nil_ hu_v5
    constructor
    · intro h X hX
      exact h (fun i96 w => X [.int .i64 i96] w) (fun i96 w hb => hX [.int .i64 i96] w ⟨rfl, trivial⟩ hb)
    · intro h X hX
      exact h (fun l w => match l with | [v0] => X (pInt v0) w | _ => True) (fun l w hl hb => by
        obtain ⟨v0, l_v0, rfl, k_v0, hl_v0⟩ := Kinds.cons_ hl
        obtain ⟨i96, rfl⟩ := kind_int k_v0
        obtain rfl := Kinds.nil_ hl_v0
        exact hX i96 w hb)

def T_law08_ConfOnce (l1a : Option Addr) (l1l : Nat) (l1c : Nat) (x2 : Int) (x3 : Int) (x4 : Int) (x5 : Int) (s6 : ByteArray) (s7 : ByteArray) (s8 : ByteArray) (s9a : Option Addr) (s9l : Nat) (s9c : Nat) (times10 : Int) (w : World) (R : Ending → World → Prop) : Prop :=
  let w11 : World := w.alloc (.cells #[.int .i64 x2, .int .i64 x3, .int .i64 x4, .int .i64 x5, .string s6, .string s7, .string s8, .slice s9a s9l s9c] 42)
  Calls Tryz.prog 13 #[.slice l1a l1l l1c] w11 (ret (fun r12 w13 => ∃ p14 : Option Addr, ∃ p15 : Option Addr, ∃ b16 : Bool, r12 = .tuple #[.pointer p14, .pointer p15, .bool b16] ∧ T_law08_ConfOnce_1 (⟨w.heap.size, 0, none⟩ : Addr) b16 w13 (fun b45 w46 => if b45 = true then (T_law08_ConfOnce_2 b16 w46 (fun b54 w55 => R (.returned (.bool b54)) w55) (pan R)) else (∃ x56 : Int, rd w46 ((⟨w.heap.size, 0, none⟩ : Addr).add 1) (.int .i64 x56) ∧ Calls Tryz.prog 24 #[.pointer p14, .int .i64 x56] w46 (ret (fun r57 w58 => ∃ x59 : Int, ∃ x60 : Int, ∃ x61 : Int, r57 = .tuple #[.int .i64 x59, .agg #[.int .i64 x60, .int .i64 x61]] ∧ let w62 : World := w58.alloc (.cells #[.int .i64 0, .int .i64 0] 45)
  (.agg #[.int .i64 x60, .int .i64 x61] : Value).cells.size = 2 ∧ wrOk w62 (⟨w58.heap.size, 0, none⟩ : Addr) (.agg #[.int .i64 x60, .int .i64 x61]) ∧ let w63 : World := wr w62 (⟨w58.heap.size, 0, none⟩ : Addr) (.agg #[.int .i64 x60, .int .i64 x61])
  ∃ x64 : Int, ∃ x65 : Int, ∃ x66 : Int, ∃ x67 : Int, ∃ s68 : ByteArray, ∃ s69 : ByteArray, ∃ s70 : ByteArray, ∃ s71a : Option Addr, ∃ s71l : Nat, ∃ s71c : Nat, rd w63 (⟨w.heap.size, 0, none⟩ : Addr) (.agg #[.int .i64 x64, .int .i64 x65, .int .i64 x66, .int .i64 x67, .string s68, .string s69, .string s70, .slice s71a s71l s71c]) ∧ Calls Tryz.prog 17 #[.pointer p14, .agg #[.int .i64 x64, .int .i64 x65, .int .i64 x66, .int .i64 x67, .string s68, .string s69, .string s70, .slice s71a s71l s71c]] w63 (ret (fun r72 w73 => ∃ x74 : Int, ∃ x75 : Int, r72 = .agg #[.int .i64 x74, .int .i64 x75] ∧ let w76 : World := w73.alloc (.cells #[.int .i64 0, .int .i64 0] 45)
  (.agg #[.int .i64 x74, .int .i64 x75] : Value).cells.size = 2 ∧ wrOk w76 (⟨w73.heap.size, 0, none⟩ : Addr) (.agg #[.int .i64 x74, .int .i64 x75]) ∧ let w77 : World := wr w76 (⟨w73.heap.size, 0, none⟩ : Addr) (.agg #[.int .i64 x74, .int .i64 x75])
  Calls Tryz.prog 14 #[.pointer p14] w77 (ret (fun r78 w79 => ∃ x80 : Int, ∃ s81a : Option Addr, ∃ s81l : Nat, ∃ s81c : Nat, ∃ s82a : Option Addr, ∃ s82l : Nat, ∃ s82c : Nat, r78 = .agg #[.int .i64 x80, .slice s81a s81l s81c, .slice s82a s82l s82c] ∧ let w83 : World := w79.alloc (.cells #[.int .i64 0, .slice none 0 0, .slice none 0 0] 30)
  (.agg #[.int .i64 x80, .slice s81a s81l s81c, .slice s82a s82l s82c] : Value).cells.size = 3 ∧ wrOk w83 (⟨w79.heap.size, 0, none⟩ : Addr) (.agg #[.int .i64 x80, .slice s81a s81l s81c, .slice s82a s82l s82c]) ∧ let w84 : World := wr w83 (⟨w79.heap.size, 0, none⟩ : Addr) (.agg #[.int .i64 x80, .slice s81a s81l s81c, .slice s82a s82l s82c])
  ∃ x85 : Int, rd w84 ((⟨w.heap.size, 0, none⟩ : Addr).add 2) (.int .i64 x85) ∧ if (decide ((x85 : Int) < x59)) = true then (T_law08_ConfOnce_3 (⟨w73.heap.size, 0, none⟩ : Addr) w84 (fun b94 w95 => R (.returned (.bool b94)) w95) (pan R)) else (T_law08_ConfOnce_4 0 times10 (⟨w.heap.size, 0, none⟩ : Addr) p14 (⟨w73.heap.size, 0, none⟩ : Addr) (⟨w79.heap.size, 0, none⟩ : Addr) w84 (fun w156 => ∃ x157 : Int, rd w156 ((⟨w.heap.size, 0, none⟩ : Addr).add 1) (.int .i64 x157) ∧ Calls Tryz.prog 24 #[.pointer p14, .int .i64 x157] w156 (ret (fun r158 w159 => ∃ x160 : Int, ∃ x161 : Int, ∃ x162 : Int, r158 = .tuple #[.int .i64 x160, .agg #[.int .i64 x161, .int .i64 x162]] ∧ let w163 : World := w159.alloc (.cells #[.int .i64 0, .int .i64 0] 45)
  (.agg #[.int .i64 x161, .int .i64 x162] : Value).cells.size = 2 ∧ wrOk w163 (⟨w159.heap.size, 0, none⟩ : Addr) (.agg #[.int .i64 x161, .int .i64 x162]) ∧ let w164 : World := wr w163 (⟨w159.heap.size, 0, none⟩ : Addr) (.agg #[.int .i64 x161, .int .i64 x162])
  Calls Tryz.prog 15 #[] w164 (ret (fun r165 w166 => ∃ b167 : Bool, r165 = .bool b167 ∧ if b167 = true then (∃ x168 : Int, rd w166 ((⟨w.heap.size, 0, none⟩ : Addr).add 2) (.int .i64 x168) ∧ if ((x160 : Int) == x168) = true then (∃ x169 : Int, ∃ x170 : Int, rd w166 (⟨w159.heap.size, 0, none⟩ : Addr) (.agg #[.int .i64 x169, .int .i64 x170]) ∧ ∃ x171 : Int, ∃ x172 : Int, rd w166 (⟨w73.heap.size, 0, none⟩ : Addr) (.agg #[.int .i64 x171, .int .i64 x172]) ∧ runV Tryz.prog (do eqGuard .eql 45 (.tmp 103) (.tmp 104) (.agg #[.int .i64 x169, .int .i64 x170]) (.agg #[.int .i64 x171, .int .i64 x172]); binOp .eql 45 (.agg #[.int .i64 x169, .int .i64 x170]) (.agg #[.int .i64 x171, .int .i64 x172])) w166 (fun r173 w174 => ∃ b175 : Bool, r173 = .bool b175 ∧ R (.returned (.bool b175)) w174) (pan R)) else (R (.returned (.bool false)) w166)) else (R (.returned (.bool false)) w166)) (pan R))) (pan R))) (fun b176 w177 => R (.returned (.bool b176)) w177) (pan R))) (pan R))) (pan R))) (pan R)))) (pan R)) (pan R))

theorem T_law08_ConfOnce_hl : allP (hokL Tryz.prog (hookAt [(28, H_law08_ConfOnce_1), (116, H_law08_ConfOnce_2), (2036, H_law08_ConfOnce_3), (1021, H_law08_ConfOnce_4)]) (bodyOf Tryz.f5) 1) = (UnitOk Tryz.prog H_law08_ConfOnce_1 (at_ (bodyOf Tryz.f5) [1, 1, 0, 0]) 28 ∧ UnitOk Tryz.prog H_law08_ConfOnce_2 (at_ (bodyOf Tryz.f5) [1, 1, 0, 1, 0, 0]) 116 ∧ UnitOk Tryz.prog H_law08_ConfOnce_3 (at_ (bodyOf Tryz.f5) [1, 1, 1, 1, 1, 1, 0, 1, 0, 0]) 2036 ∧ UnitOk Tryz.prog H_law08_ConfOnce_4 (at_ (bodyOf Tryz.f5) [1, 1, 1, 1, 1, 1, 1, 0, 1]) 1021 ∧ True) := by kernel_rfl

theorem T_law08_ConfOnce_eq (l1a : Option Addr) (l1l : Nat) (l1c : Nat) (x2 : Int) (x3 : Int) (x4 : Int) (x5 : Int) (s6 : ByteArray) (s7 : ByteArray) (s8 : ByteArray) (s9a : Option Addr) (s9l : Nat) (s9c : Nat) (times10 : Int) (w : World) (R : Ending → World → Prop) : vcCode Tryz.prog (hookAt [(28, H_law08_ConfOnce_1), (116, H_law08_ConfOnce_2), (2036, H_law08_ConfOnce_3), (1021, H_law08_ConfOnce_4)]) (bodyOf Tryz.f5) 1 ⟨argEnv [.slice l1a l1l l1c, .agg #[.int .i64 x2, .int .i64 x3, .int .i64 x4, .int .i64 x5, .string s6, .string s7, .string s8, .slice s9a s9l s9c], .int .u8 times10] 0, Tryz.f5.ntmps, []⟩ w (finQ Tryz.prog Tryz.f5.results.toList R) = T_law08_ConfOnce l1a l1l l1c x2 x3 x4 x5 s6 s7 s8 s9a s9l s9c times10 w R := by kernel_rfl

theorem T_law08_ConfOnce_b : Tryz.f5.body = some (bodyOf Tryz.f5) := by kernel_rfl
theorem T_law08_ConfOnce_s : (quietSel (bodyOf Tryz.f5) && Nat.ble 3 Tryz.f5.ntmps) = true := by kernel_rfl

theorem C_law08_ConfOnce {l1a : Option Addr} {l1l : Nat} {l1c : Nat} {x2 : Int} {x3 : Int} {x4 : Int} {x5 : Int} {s6 : ByteArray} {s7 : ByteArray} {s8 : ByteArray} {s9a : Option Addr} {s9l : Nat} {s9c : Nat} {times10 : Int} {w : World} {R : Ending → World → Prop} (h : T_law08_ConfOnce l1a l1l l1c x2 x3 x4 x5 s6 s7 s8 s9a s9l s9c times10 w R) : Calls Tryz.prog 5 #[.slice l1a l1l l1c, .agg #[.int .i64 x2, .int .i64 x3, .int .i64 x4, .int .i64 x5, .string s6, .string s7, .string s8, .slice s9a s9l s9c], .int .u8 times10] w R :=
  calls_of_text (args := [.slice l1a l1l l1c, .agg #[.int .i64 x2, .int .i64 x3, .int .i64 x4, .int .i64 x5, .string s6, .string s7, .string s8, .slice s9a s9l s9c], .int .u8 times10]) mixed Tryz.func5 T_law08_ConfOnce_b T_law08_ConfOnce_s (HOk_of _ _ (by rw [T_law08_ConfOnce_hl]; exact ⟨T_law08_ConfOnce_1_ok, T_law08_ConfOnce_2_ok, T_law08_ConfOnce_3_ok, T_law08_ConfOnce_4_ok, trivial⟩)) (by rw [T_law08_ConfOnce_eq]; exact h)

end Go.Proofs.YtcpmfjclkdjfmaaGreat
