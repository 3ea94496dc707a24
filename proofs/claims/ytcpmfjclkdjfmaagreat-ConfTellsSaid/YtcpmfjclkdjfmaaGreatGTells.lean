/-
  What the functions' code comes to; printed by a program of this claim's own.
-/
import Derived.Test.YtcpmfjclkdjfmaaGreatProg
import Derived.KernelRfl
import Derived.Test.YtcpmfjclkdjfmaaGreatGi
namespace Go.Proofs.YtcpmfjclkdjfmaaGreat
open Go Go.Vc
set_option maxRecDepth 100000
set_option linter.unusedVariables false

/-! tollgate/tollgatelaw08.ConfTells -/
def T_law08_ConfTells_1 (host9 : ByteArray) (prefix10 : ByteArray) (ok11 : Bool) (w : World) (Kn : Bool → World → Prop) (Kp : List PanicEntry → World → Prop) : Prop :=
  if (!ok11) = true then (Kn true w) else (Calls Tryz.prog 16 #[.agg #[.int .i64 0, .int .i64 0, .int .i64 0, .int .i64 0, .string host9, .string prefix10, .string (ByteArray.mk #[]), .slice none 0 0]] w (ret (fun r12 w13 => ∃ b14 : Bool, r12 = .bool b14 ∧ Kn (!b14) w13) Kp))

def T_law08_ConfTells_1_outs : Exit → Option (List (Nat × Value)) := fun x => match x with | .normal => some [(34, .bool false)] | .panic _ => some [] | _ => none

def T_law08_ConfTells_1_ks : Nat → Bool := ksOf [26, 27, 28, 29, 30, 31, 32, 33, 34]

def H_law08_ConfTells_1 : Env → World → QT → Prop := unitHook 157 T_law08_ConfTells_1_ks [(1, .string default), (2, .string default), (9, .bool false)] T_law08_ConfTells_1_outs fun l w C => match l with | [v0, v1, v2] => T_law08_ConfTells_1 (pStr v0) (pStr v1) (pBool v2) w (fun b16 w => C .normal [.bool b16] w) (fun ch w => C (.panic ch) [] w) | _ => False

theorem T_law08_ConfTells_1_hl : allP (hokL Tryz.prog (hookAt []) (at_ (bodyOf Tryz.f4) [1, 1, 0, 0]) 28) = (True) := by kernel_rfl
theorem T_law08_ConfTells_1_hok : HOk Tryz.prog (hookAt []) (at_ (bodyOf Tryz.f4) [1, 1, 0, 0]) 28 := HOk_of _ _ (by rw [T_law08_ConfTells_1_hl]; exact trivial)

theorem T_law08_ConfTells_1_eq (C : Conts) (host9 : ByteArray) (prefix10 : ByteArray) (ok11 : Bool) (w : World) : vcCode Tryz.prog (hookAt []) (at_ (bodyOf Tryz.f4) [1, 1, 0, 0]) 28 ⟨[(1, .string host9), (2, .string prefix10), (9, .bool ok11)], 157, []⟩ w (unitQ T_law08_ConfTells_1_outs C) = T_law08_ConfTells_1 host9 prefix10 ok11 w (fun b17 w => C .normal [.bool b17] w) (fun ch w => C (.panic ch) [] w) := by kernel_rfl

theorem T_law08_ConfTells_1_ok : UnitOk Tryz.prog H_law08_ConfTells_1 (at_ (bodyOf Tryz.f4) [1, 1, 0, 0]) 28 := unit_ok (H := (hookAt [])) (by kernel_rfl) T_law08_ConfTells_1_hok fun l w C hk => by
    obtain ⟨v0, l_v0, rfl, k_v0, hk_v0⟩ := Kinds.cons_ hk
    obtain ⟨host9, rfl⟩ := kind_string k_v0
    obtain ⟨v1, l_v1, rfl, k_v1, hk_v1⟩ := Kinds.cons_ hk_v0
    obtain ⟨prefix10, rfl⟩ := kind_string k_v1
    obtain ⟨v2, l_v2, rfl, k_v2, hk_v2⟩ := Kinds.cons_ hk_v1
    obtain ⟨ok11, rfl⟩ := kind_bool k_v2
    obtain rfl := Kinds.nil_ hk_v2
    exact T_law08_ConfTells_1_eq C host9 prefix10 ok11 w

def T_law08_ConfTells_2 (ok20 : Bool) (w : World) (Kn : Bool → World → Prop) (Kp : List PanicEntry → World → Prop) : Prop :=
  if ok20 = true then (Calls Tryz.prog 15 #[] w (ret (fun r21 w22 => ∃ b23 : Bool, r21 = .bool b23 ∧ Kn b23 w22) Kp)) else (Kn false w)

def T_law08_ConfTells_2_outs : Exit → Option (List (Nat × Value)) := fun x => match x with | .normal => some [(6, .bool false)] | .panic _ => some [] | _ => none

def T_law08_ConfTells_2_ks : Nat → Bool := ksOf [6, 35, 36, 37, 38]

def H_law08_ConfTells_2 : Env → World → QT → Prop := unitHook 157 T_law08_ConfTells_2_ks [(9, .bool false)] T_law08_ConfTells_2_outs fun l w C => match l with | [v0] => T_law08_ConfTells_2 (pBool v0) w (fun b25 w => C .normal [.bool b25] w) (fun ch w => C (.panic ch) [] w) | _ => False

theorem T_law08_ConfTells_2_hl : allP (hokL Tryz.prog (hookAt []) (at_ (bodyOf Tryz.f4) [1, 1, 0, 1, 0, 0]) 116) = (True) := by kernel_rfl
theorem T_law08_ConfTells_2_hok : HOk Tryz.prog (hookAt []) (at_ (bodyOf Tryz.f4) [1, 1, 0, 1, 0, 0]) 116 := HOk_of _ _ (by rw [T_law08_ConfTells_2_hl]; exact trivial)

theorem T_law08_ConfTells_2_eq (C : Conts) (ok20 : Bool) (w : World) : vcCode Tryz.prog (hookAt []) (at_ (bodyOf Tryz.f4) [1, 1, 0, 1, 0, 0]) 116 ⟨[(9, .bool ok20)], 157, []⟩ w (unitQ T_law08_ConfTells_2_outs C) = T_law08_ConfTells_2 ok20 w (fun b26 w => C .normal [.bool b26] w) (fun ch w => C (.panic ch) [] w) := by kernel_rfl

theorem T_law08_ConfTells_2_ok : UnitOk Tryz.prog H_law08_ConfTells_2 (at_ (bodyOf Tryz.f4) [1, 1, 0, 1, 0, 0]) 116 := unit_ok (H := (hookAt [])) (by kernel_rfl) T_law08_ConfTells_2_hok fun l w C hk => by
    obtain ⟨v0, l_v0, rfl, k_v0, hk_v0⟩ := Kinds.cons_ hk
    obtain ⟨ok20, rfl⟩ := kind_bool k_v0
    obtain rfl := Kinds.nil_ hk_v0
    exact T_law08_ConfTells_2_eq C ok20 w

def T_law08_ConfTells_3 (host74 : ByteArray) (prefix75 : ByteArray) (was76 : Addr) (r77 : Addr) (now78 : Addr) (w : World) (Kn : Bool → World → Prop) (Kp : List PanicEntry → World → Prop) : Prop :=
  Calls Tryz.prog 15 #[] w (ret (fun r79 w80 => ∃ b81 : Bool, r79 = .bool b81 ∧ if b81 = true then (∃ x82 : Int, ∃ s83a : Option Addr, ∃ s83l : Nat, ∃ s83c : Nat, ∃ s84a : Option Addr, ∃ s84l : Nat, ∃ s84c : Nat, rd w80 now78 (.agg #[.int .i64 x82, .slice s83a s83l s83c, .slice s84a s84l s84c]) ∧ ∃ x85 : Int, ∃ s86a : Option Addr, ∃ s86l : Nat, ∃ s86c : Nat, ∃ s87a : Option Addr, ∃ s87l : Nat, ∃ s87c : Nat, rd w80 was76 (.agg #[.int .i64 x85, .slice s86a s86l s86c, .slice s87a s87l s87c]) ∧ Calls Tryz.prog 20 #[.agg #[.int .i64 x82, .slice s83a s83l s83c, .slice s84a s84l s84c], .agg #[.int .i64 x85, .slice s86a s86l s86c, .slice s87a s87l s87c]] w80 (ret (fun r88 w89 => ∃ b90 : Bool, r88 = .bool b90 ∧ if b90 = true then (∃ x91 : Int, rd w89 r77 (.int .i64 x91) ∧ if ((x91 : Int) != 14) = true then (Kn true w89) else (Calls Tryz.prog 21 #[.string host74] w89 (ret (fun r92 w93 => ∃ b94 : Bool, r92 = .bool b94 ∧ if (!b94) = true then (Kn true w93) else (Calls Tryz.prog 22 #[.string prefix75] w93 (ret (fun r95 w96 => ∃ b97 : Bool, r95 = .bool b97 ∧ Kn (!b97) w96) Kp))) Kp))) else (Kn false w89)) Kp)) else (Kn false w80)) Kp)

def T_law08_ConfTells_3_outs : Exit → Option (List (Nat × Value)) := fun x => match x with | .normal => some [(6, .bool false)] | .panic _ => some [] | _ => none

def T_law08_ConfTells_3_ks : Nat → Bool := ksOf [6, 54, 55, 56, 57, 58, 59, 60, 61, 62, 63, 64, 65, 66, 67, 68, 69, 70, 71, 72, 73, 74]

def H_law08_ConfTells_3 : Env → World → QT → Prop := unitHook 157 T_law08_ConfTells_3_ks [(1, .string default), (2, .string default), (10, .pointer (some ⟨0, 0, none⟩)), (11, .pointer (some ⟨0, 0, none⟩)), (12, .pointer (some ⟨0, 0, none⟩))] T_law08_ConfTells_3_outs fun l w C => match l with | [v0, v1, v2, v3, v4] => T_law08_ConfTells_3 (pStr v0) (pStr v1) (pAddr v2) (pAddr v3) (pAddr v4) w (fun b99 w => C .normal [.bool b99] w) (fun ch w => C (.panic ch) [] w) | _ => False

theorem T_law08_ConfTells_3_hl : allP (hokL Tryz.prog (hookAt []) (at_ (bodyOf Tryz.f4) [1, 1, 1, 1, 1, 1, 1, 0, 1, 0, 0]) 4084) = (True) := by kernel_rfl
theorem T_law08_ConfTells_3_hok : HOk Tryz.prog (hookAt []) (at_ (bodyOf Tryz.f4) [1, 1, 1, 1, 1, 1, 1, 0, 1, 0, 0]) 4084 := HOk_of _ _ (by rw [T_law08_ConfTells_3_hl]; exact trivial)

theorem T_law08_ConfTells_3_eq (C : Conts) (host74 : ByteArray) (prefix75 : ByteArray) (was76 : Addr) (r77 : Addr) (now78 : Addr) (w : World) : vcCode Tryz.prog (hookAt []) (at_ (bodyOf Tryz.f4) [1, 1, 1, 1, 1, 1, 1, 0, 1, 0, 0]) 4084 ⟨[(1, .string host74), (2, .string prefix75), (10, .pointer (some was76)), (11, .pointer (some r77)), (12, .pointer (some now78))], 157, []⟩ w (unitQ T_law08_ConfTells_3_outs C) = T_law08_ConfTells_3 host74 prefix75 was76 r77 now78 w (fun b100 w => C .normal [.bool b100] w) (fun ch w => C (.panic ch) [] w) := by kernel_rfl

theorem T_law08_ConfTells_3_ok : UnitOk Tryz.prog H_law08_ConfTells_3 (at_ (bodyOf Tryz.f4) [1, 1, 1, 1, 1, 1, 1, 0, 1, 0, 0]) 4084 := unit_ok (H := (hookAt [])) (by kernel_rfl) T_law08_ConfTells_3_hok fun l w C hk => by
    obtain ⟨v0, l_v0, rfl, k_v0, hk_v0⟩ := Kinds.cons_ hk
    obtain ⟨host74, rfl⟩ := kind_string k_v0
    obtain ⟨v1, l_v1, rfl, k_v1, hk_v1⟩ := Kinds.cons_ hk_v0
    obtain ⟨prefix75, rfl⟩ := kind_string k_v1
    obtain ⟨v2, l_v2, rfl, k_v2, hk_v2⟩ := Kinds.cons_ hk_v1
    obtain ⟨was76, rfl⟩ := kind_addr k_v2
    obtain ⟨v3, l_v3, rfl, k_v3, hk_v3⟩ := Kinds.cons_ hk_v2
    obtain ⟨r77, rfl⟩ := kind_addr k_v3
    obtain ⟨v4, l_v4, rfl, k_v4, hk_v4⟩ := Kinds.cons_ hk_v3
    obtain ⟨now78, rfl⟩ := kind_addr k_v4
    obtain rfl := Kinds.nil_ hk_v4
    exact T_law08_ConfTells_3_eq C host74 prefix75 was76 r77 now78 w

def T_law08_ConfTells_5 (host117 : ByteArray) (prefix118 : ByteArray) (x119 : Addr) (w : World) (Kn : Bool → World → Prop) (Kp : List PanicEntry → World → Prop) : Prop :=
  ∃ s120 : ByteArray, rd w x119 (.string s120) ∧ if (s120.toList == host117.toList) = true then (∃ s121 : ByteArray, rd w (x119.add 1) (.string s121) ∧ Kn (s121.toList == prefix118.toList) w) else (Kn false w)

def T_law08_ConfTells_5_outs : Exit → Option (List (Nat × Value)) := fun x => match x with | .normal => some [(96, .bool false)] | .panic _ => some [] | _ => none

def T_law08_ConfTells_5_ks : Nat → Bool := ksOf [87, 88, 89, 90, 91, 92, 93, 94, 95, 96]

def H_law08_ConfTells_5 : Env → World → QT → Prop := unitHook 157 T_law08_ConfTells_5_ks [(1, .string default), (2, .string default), (15, .pointer (some ⟨0, 0, none⟩))] T_law08_ConfTells_5_outs fun l w C => match l with | [v0, v1, v2] => T_law08_ConfTells_5 (pStr v0) (pStr v1) (pAddr v2) w (fun b123 w => C .normal [.bool b123] w) (fun ch w => C (.panic ch) [] w) | _ => False

theorem T_law08_ConfTells_5_hl : allP (hokL Tryz.prog (hookAt []) (at_ (bodyOf Tryz.f4) [1, 1, 1, 1, 1, 1, 1, 1, 1, 0, 1, 0, 0, 1, 0, 0, 1, 0, 0]) 1047844) = (True) := by kernel_rfl
theorem T_law08_ConfTells_5_hok : HOk Tryz.prog (hookAt []) (at_ (bodyOf Tryz.f4) [1, 1, 1, 1, 1, 1, 1, 1, 1, 0, 1, 0, 0, 1, 0, 0, 1, 0, 0]) 1047844 := HOk_of _ _ (by rw [T_law08_ConfTells_5_hl]; exact trivial)

theorem T_law08_ConfTells_5_eq (C : Conts) (host117 : ByteArray) (prefix118 : ByteArray) (x119 : Addr) (w : World) : vcCode Tryz.prog (hookAt []) (at_ (bodyOf Tryz.f4) [1, 1, 1, 1, 1, 1, 1, 1, 1, 0, 1, 0, 0, 1, 0, 0, 1, 0, 0]) 1047844 ⟨[(1, .string host117), (2, .string prefix118), (15, .pointer (some x119))], 157, []⟩ w (unitQ T_law08_ConfTells_5_outs C) = T_law08_ConfTells_5 host117 prefix118 x119 w (fun b124 w => C .normal [.bool b124] w) (fun ch w => C (.panic ch) [] w) := by kernel_rfl

theorem T_law08_ConfTells_5_ok : UnitOk Tryz.prog H_law08_ConfTells_5 (at_ (bodyOf Tryz.f4) [1, 1, 1, 1, 1, 1, 1, 1, 1, 0, 1, 0, 0, 1, 0, 0, 1, 0, 0]) 1047844 := unit_ok (H := (hookAt [])) (by kernel_rfl) T_law08_ConfTells_5_hok fun l w C hk => by
    obtain ⟨v0, l_v0, rfl, k_v0, hk_v0⟩ := Kinds.cons_ hk
    obtain ⟨host117, rfl⟩ := kind_string k_v0
    obtain ⟨v1, l_v1, rfl, k_v1, hk_v1⟩ := Kinds.cons_ hk_v0
    obtain ⟨prefix118, rfl⟩ := kind_string k_v1
    obtain ⟨v2, l_v2, rfl, k_v2, hk_v2⟩ := Kinds.cons_ hk_v1
    obtain ⟨x119, rfl⟩ := kind_addr k_v2
    obtain rfl := Kinds.nil_ hk_v2
    exact T_law08_ConfTells_5_eq C host117 prefix118 x119 w

def T_law08_ConfTells_6_body (X : Bool → Int → World → Prop) (kept128 : Bool) (k129 : Int) (was130 : Addr) (x131 : Addr) (w : World) (Kn : Bool → World → Prop) (Kp : List PanicEntry → World → Prop)  : Prop :=
  ∃ s132a : Option Addr, ∃ s132l : Nat, ∃ s132c : Nat, rd w (was130.add 1) (.slice s132a s132l s132c) ∧ if (decide ((k129 : Int) < ((s132l : Nat) : Int))) = true then (let w133 : World := w.drew
  if kept128 = true then ((True) ∧ X true (IntKind.wrap .i64 ((k129 : Int) + 1)) w133) else (∃ s134a : Option Addr, ∃ s134l : Nat, ∃ s134c : Nat, rd w133 (was130.add 1) (.slice s134a s134l s134c) ∧ 0 ≤ (k129 : Int) ∧ (k129 : Int) < ((s134l : Nat) : Int) ∧ ∃ b135, s134a = some b135 ∧ ∃ s136 : ByteArray, ∃ s137 : ByteArray, ∃ s138 : ByteArray, rd w133 (b135.add ((k129 : Int).toNat * 3)) (.agg #[.string s136, .string s137, .string s138]) ∧ ∃ s139 : ByteArray, ∃ s140 : ByteArray, ∃ s141 : ByteArray, rd w133 x131 (.agg #[.string s139, .string s140, .string s141]) ∧ runV Tryz.prog (do eqGuard .eql 36 (.tmp 115) (.tmp 116) (.agg #[.string s136, .string s137, .string s138]) (.agg #[.string s139, .string s140, .string s141]); binOp .eql 36 (.agg #[.string s136, .string s137, .string s138]) (.agg #[.string s139, .string s140, .string s141])) w133 (fun r142 w143 => ∃ b144 : Bool, r142 = .bool b144 ∧ (True) ∧ X b144 (IntKind.wrap .i64 ((k129 : Int) + 1)) w143) Kp)) else (Kn kept128 w)

def T_law08_ConfTells_6 (kept128 : Bool) (k129 : Int) (was130 : Addr) (x131 : Addr) (w : World) (Kn : Bool → World → Prop) (Kp : List PanicEntry → World → Prop) : Prop :=
  ∀ X : Bool → Int → World → Prop, (∀ (kept128 : Bool) (k129 : Int) (w : World), T_law08_ConfTells_6_body X kept128 k129 was130 x131 w Kn Kp → X kept128 k129 w) → X kept128 k129 w

def T_law08_ConfTells_6_outs : Exit → Option (List (Nat × Value)) := fun x => match x with | .normal => some [(16, .bool false)] | .panic _ => some [] | _ => none

def T_law08_ConfTells_6_ks : Nat → Bool := ksOf [16, 17, 102, 103, 104, 105, 106, 107, 108, 109, 110, 111, 112, 113, 114, 115, 116, 117, 118]

def H_law08_ConfTells_6 : Env → World → QT → Prop := unitHook 157 T_law08_ConfTells_6_ks [(16, .bool false), (17, .int .i64 0), (10, .pointer (some ⟨0, 0, none⟩)), (15, .pointer (some ⟨0, 0, none⟩))] T_law08_ConfTells_6_outs fun l w C => match l with | [v0, v1, v2, v3] => T_law08_ConfTells_6 (pBool v0) (pInt v1) (pAddr v2) (pAddr v3) w (fun kept146 w => C .normal [.bool kept146] w) (fun ch w => C (.panic ch) [] w) | _ => False

theorem T_law08_ConfTells_6_hl : allP (hokL Tryz.prog (hookAt []) (at_ (bodyOf Tryz.f4) [1, 1, 1, 1, 1, 1, 1, 1, 1, 0, 1, 0, 0, 1, 0, 0, 1, 1, 1, 0, 1, 0, 0]) 16765556) = (True) := by kernel_rfl
theorem T_law08_ConfTells_6_hok : HOk Tryz.prog (hookAt []) (at_ (bodyOf Tryz.f4) [1, 1, 1, 1, 1, 1, 1, 1, 1, 0, 1, 0, 0, 1, 0, 0, 1, 1, 1, 0, 1, 0, 0]) 16765556 := HOk_of _ _ (by rw [T_law08_ConfTells_6_hl]; exact trivial)

theorem T_law08_ConfTells_6_eq (C : Conts) (X : List Value → World → Prop) (kept128 : Bool) (k129 : Int) (was130 : Addr) (x131 : Addr) (w : World) : vcCode Tryz.prog (hookAt []) (at_ (bodyOf Tryz.f4) [1, 1, 1, 1, 1, 1, 1, 1, 1, 0, 1, 0, 0, 1, 0, 0, 1, 1, 1, 0, 1, 0, 0]) 16765556 ⟨[(16, .bool kept128), (17, .int .i64 k129)] ++ [(10, .pointer (some was130)), (15, .pointer (some x131))], 157, []⟩ w (seqQ (fun e w => takeAll e [(16, .bool false), (17, .int .i64 0)] fun l => X l w) (blockQ 2 (unitQ T_law08_ConfTells_6_outs C))) = T_law08_ConfTells_6_body (fun kept128 k129 w => X [.bool kept128, .int .i64 k129] w) kept128 k129 was130 x131 w (fun kept147 w => C .normal [.bool kept147] w) (fun ch w => C (.panic ch) [] w) := by kernel_rfl

theorem T_law08_ConfTells_6_ok : UnitOk Tryz.prog H_law08_ConfTells_6 (at_ (bodyOf Tryz.f4) [1, 1, 1, 1, 1, 1, 1, 1, 1, 0, 1, 0, 0, 1, 0, 0, 1, 1, 1, 0, 1]) 4191389 := by
  have hc : at_ (bodyOf Tryz.f4) [1, 1, 1, 1, 1, 1, 1, 1, 1, 0, 1, 0, 0, 1, 0, 0, 1, 1, 1, 0, 1] = .block 2 (.loop (at_ (bodyOf Tryz.f4) [1, 1, 1, 1, 1, 1, 1, 1, 1, 0, 1, 0, 0, 1, 0, 0, 1, 1, 1, 0, 1, 0, 0])) := by kernel_rfl
  rw [hc]
  refine loop_unit_ok (carr := [(16, .bool false), (17, .int .i64 0)]) (fix := [(10, .pointer (some ⟨0, 0, none⟩)), (15, .pointer (some ⟨0, 0, none⟩))]) (ks := T_law08_ConfTells_6_ks) (H := (hookAt [])) (B := fun C X l u w => match l, u with | [v0, v1], [v2, v3] => T_law08_ConfTells_6_body (fun kept128 k129 w => X [.bool kept128, .int .i64 k129] w) (pBool v0) (pInt v1) (pAddr v2) (pAddr v3) w (fun kept148 w => C .normal [.bool kept148] w) (fun ch w => C (.panic ch) [] w) | _, _ => False) (by kernel_rfl) (by kernel_rfl) T_law08_ConfTells_6_hok ?_ ?_
  · intro C X l u w hl hu
    obtain ⟨v0, l_v0, rfl, k_v0, hl_v0⟩ := Kinds.cons_ hl
    obtain ⟨kept128, rfl⟩ := kind_bool k_v0
    obtain ⟨v1, l_v1, rfl, k_v1, hl_v1⟩ := Kinds.cons_ hl_v0
    obtain ⟨k129, rfl⟩ := kind_int k_v1
    obtain rfl := Kinds.nil_ hl_v1
    obtain ⟨v2, l_v2, rfl, k_v2, hu_v2⟩ := Kinds.cons_ hu
    obtain ⟨was130, rfl⟩ := kind_addr k_v2
    obtain ⟨v3, l_v3, rfl, k_v3, hu_v3⟩ := Kinds.cons_ hu_v2
    obtain ⟨x131, rfl⟩ := kind_addr k_v3
    obtain rfl := Kinds.nil_ hu_v3
    exact T_law08_ConfTells_6_eq C X kept128 k129 was130 x131 w
  · intro l u w C hl hu
    obtain ⟨v0, l_v0, rfl, k_v0, hl_v0⟩ := Kinds.cons_ hl
    obtain ⟨kept128, rfl⟩ := kind_bool k_v0
    obtain ⟨v1, l_v1, rfl, k_v1, hl_v1⟩ := Kinds.cons_ hl_v0
    obtain ⟨k129, rfl⟩ := kind_int k_v1
    obtain rfl := Kinds.nil_ hl_v1
    obtain ⟨v2, l_v2, rfl, k_v2, hu_v2⟩ := Kinds.cons_ hu
    obtain ⟨was130, rfl⟩ := kind_addr k_v2
    obtain ⟨v3, l_v3, rfl, k_v3, hu_v3⟩ := Kinds.cons_ hu_v2
    obtain ⟨x131, rfl⟩ := kind_addr k_v3
    obtain rfl := Kinds.nil_ hu_v3
    constructor
    · intro h X hX
      exact h (fun kept128 k129 w => X [.bool kept128, .int .i64 k129] w) (fun kept128 k129 w hb => hX [.bool kept128, .int .i64 k129] w ⟨rfl, rfl, trivial⟩ hb)
    · intro h X hX
      exact h (fun l w => match l with | [v0, v1] => X (pBool v0) (pInt v1) w | _ => True) (fun l w hl hb => by
        obtain ⟨v0, l_v0, rfl, k_v0, hl_v0⟩ := Kinds.cons_ hl
        obtain ⟨kept128, rfl⟩ := kind_bool k_v0
        obtain ⟨v1, l_v1, rfl, k_v1, hl_v1⟩ := Kinds.cons_ hl_v0
        obtain ⟨k129, rfl⟩ := kind_int k_v1
        obtain rfl := Kinds.nil_ hl_v1
        exact hX kept128 k129 w hb)

def T_law08_ConfTells_4_body (X : Int → Int → World → Prop) (found103 : Int) (i104 : Int) (host105 : ByteArray) (prefix106 : ByteArray) (was107 : Addr) (now108 : Addr) (w : World) (Kn : Int → World → Prop) (Kr : Bool → World → Prop) (Kp : List PanicEntry → World → Prop)  : Prop :=
  ∃ s109a : Option Addr, ∃ s109l : Nat, ∃ s109c : Nat, rd w (now108.add 1) (.slice s109a s109l s109c) ∧ if (decide ((i104 : Int) < ((s109l : Nat) : Int))) = true then (∃ s110a : Option Addr, ∃ s110l : Nat, ∃ s110c : Nat, rd w (now108.add 1) (.slice s110a s110l s110c) ∧ 0 ≤ (i104 : Int) ∧ (i104 : Int) < ((s110l : Nat) : Int) ∧ ∃ b111, s110a = some b111 ∧ ∃ s112 : ByteArray, ∃ s113 : ByteArray, ∃ s114 : ByteArray, rd w (b111.add ((i104 : Int).toNat * 3)) (.agg #[.string s112, .string s113, .string s114]) ∧ let w115 : World := w.alloc (.cells #[.string (ByteArray.mk #[]), .string (ByteArray.mk #[]), .string (ByteArray.mk #[])] 36)
  (.agg #[.string s112, .string s113, .string s114] : Value).cells.size = 3 ∧ wrOk w115 (⟨w.heap.size, 0, none⟩ : Addr) (.agg #[.string s112, .string s113, .string s114]) ∧ let w116 : World := wr w115 (⟨w.heap.size, 0, none⟩ : Addr) (.agg #[.string s112, .string s113, .string s114])
  T_law08_ConfTells_5 host105 prefix106 (⟨w.heap.size, 0, none⟩ : Addr) w116 (fun b125 w126 => if b125 = true then (∃ s127 : ByteArray, rd w126 ((⟨w.heap.size, 0, none⟩ : Addr).add 2) (.string s127) ∧ if (!(s127.toList == (ByteArray.mk #[113]).toList)) = true then (Kr false w126) else (X (IntKind.wrap .i64 ((found103 : Int) + 1)) (IntKind.wrap .i64 ((i104 : Int) + 1)) w126)) else (T_law08_ConfTells_6 false 0 was107 (⟨w.heap.size, 0, none⟩ : Addr) w126 (fun kept149 w150 => if (!kept149) = true then (Kr false w150) else (X found103 (IntKind.wrap .i64 ((i104 : Int) + 1)) w150)) Kp)) Kp) else (Kn found103 w)

def T_law08_ConfTells_4 (found103 : Int) (i104 : Int) (host105 : ByteArray) (prefix106 : ByteArray) (was107 : Addr) (now108 : Addr) (w : World) (Kn : Int → World → Prop) (Kr : Bool → World → Prop) (Kp : List PanicEntry → World → Prop) : Prop :=
  ∀ X : Int → Int → World → Prop, (∀ (found103 : Int) (i104 : Int) (w : World), T_law08_ConfTells_4_body X found103 i104 host105 prefix106 was107 now108 w Kn Kr Kp → X found103 i104 w) → X found103 i104 w

def T_law08_ConfTells_4_outs : Exit → Option (List (Nat × Value)) := fun x => match x with | .normal => some [(13, .int .i64 0)] | .ret => some [(6, .bool false)] | .panic _ => some [] | _ => none

def T_law08_ConfTells_4_ks : Nat → Bool := ksOf [6, 13, 14, 15, 16, 17, 75, 76, 77, 78, 79, 80, 81, 82, 83, 84, 85, 86, 87, 88, 89, 90, 91, 92, 93, 94, 95, 96, 97, 98, 99, 100, 101, 102, 103, 104, 105, 106, 107, 108, 109, 110, 111, 112, 113, 114, 115, 116, 117, 118, 119, 120]

def H_law08_ConfTells_4 : Env → World → QT → Prop := unitHook 157 T_law08_ConfTells_4_ks [(13, .int .i64 0), (14, .int .i64 0), (1, .string default), (2, .string default), (10, .pointer (some ⟨0, 0, none⟩)), (12, .pointer (some ⟨0, 0, none⟩))] T_law08_ConfTells_4_outs fun l w C => match l with | [v0, v1, v2, v3, v4, v5] => T_law08_ConfTells_4 (pInt v0) (pInt v1) (pStr v2) (pStr v3) (pAddr v4) (pAddr v5) w (fun found153 w => C .normal [.int .i64 found153] w) (fun b154 w => C .ret [.bool b154] w) (fun ch w => C (.panic ch) [] w) | _ => False

theorem T_law08_ConfTells_4_hl : allP (hokL Tryz.prog (hookAt [(1047844, H_law08_ConfTells_5), (4191389, H_law08_ConfTells_6)]) (at_ (bodyOf Tryz.f4) [1, 1, 1, 1, 1, 1, 1, 1, 1, 0, 1, 0, 0]) 16372) = (UnitOk Tryz.prog H_law08_ConfTells_5 (at_ (bodyOf Tryz.f4) [1, 1, 1, 1, 1, 1, 1, 1, 1, 0, 1, 0, 0, 1, 0, 0, 1, 0, 0]) 1047844 ∧ UnitOk Tryz.prog H_law08_ConfTells_6 (at_ (bodyOf Tryz.f4) [1, 1, 1, 1, 1, 1, 1, 1, 1, 0, 1, 0, 0, 1, 0, 0, 1, 1, 1, 0, 1]) 4191389 ∧ True) := by kernel_rfl
theorem T_law08_ConfTells_4_hok : HOk Tryz.prog (hookAt [(1047844, H_law08_ConfTells_5), (4191389, H_law08_ConfTells_6)]) (at_ (bodyOf Tryz.f4) [1, 1, 1, 1, 1, 1, 1, 1, 1, 0, 1, 0, 0]) 16372 := HOk_of _ _ (by rw [T_law08_ConfTells_4_hl]; exact ⟨T_law08_ConfTells_5_ok, T_law08_ConfTells_6_ok, trivial⟩)

theorem T_law08_ConfTells_4_eq (C : Conts) (X : List Value → World → Prop) (found103 : Int) (i104 : Int) (host105 : ByteArray) (prefix106 : ByteArray) (was107 : Addr) (now108 : Addr) (w : World) : vcCode Tryz.prog (hookAt [(1047844, H_law08_ConfTells_5), (4191389, H_law08_ConfTells_6)]) (at_ (bodyOf Tryz.f4) [1, 1, 1, 1, 1, 1, 1, 1, 1, 0, 1, 0, 0]) 16372 ⟨[(13, .int .i64 found103), (14, .int .i64 i104)] ++ [(1, .string host105), (2, .string prefix106), (10, .pointer (some was107)), (12, .pointer (some now108))], 157, []⟩ w (seqQ (fun e w => takeAll e [(13, .int .i64 0), (14, .int .i64 0)] fun l => X l w) (blockQ 0 (unitQ T_law08_ConfTells_4_outs C))) = T_law08_ConfTells_4_body (fun found103 i104 w => X [.int .i64 found103, .int .i64 i104] w) found103 i104 host105 prefix106 was107 now108 w (fun found155 w => C .normal [.int .i64 found155] w) (fun b156 w => C .ret [.bool b156] w) (fun ch w => C (.panic ch) [] w) := by kernel_rfl

theorem T_law08_ConfTells_4_ok : UnitOk Tryz.prog H_law08_ConfTells_4 (at_ (bodyOf Tryz.f4) [1, 1, 1, 1, 1, 1, 1, 1, 1, 0, 1]) 4093 := by
  have hc : at_ (bodyOf Tryz.f4) [1, 1, 1, 1, 1, 1, 1, 1, 1, 0, 1] = .block 0 (.loop (at_ (bodyOf Tryz.f4) [1, 1, 1, 1, 1, 1, 1, 1, 1, 0, 1, 0, 0])) := by kernel_rfl
  rw [hc]
  refine loop_unit_ok (carr := [(13, .int .i64 0), (14, .int .i64 0)]) (fix := [(1, .string default), (2, .string default), (10, .pointer (some ⟨0, 0, none⟩)), (12, .pointer (some ⟨0, 0, none⟩))]) (ks := T_law08_ConfTells_4_ks) (H := (hookAt [(1047844, H_law08_ConfTells_5), (4191389, H_law08_ConfTells_6)])) (B := fun C X l u w => match l, u with | [v0, v1], [v2, v3, v4, v5] => T_law08_ConfTells_4_body (fun found103 i104 w => X [.int .i64 found103, .int .i64 i104] w) (pInt v0) (pInt v1) (pStr v2) (pStr v3) (pAddr v4) (pAddr v5) w (fun found157 w => C .normal [.int .i64 found157] w) (fun b158 w => C .ret [.bool b158] w) (fun ch w => C (.panic ch) [] w) | _, _ => False) (by kernel_rfl) (by kernel_rfl) T_law08_ConfTells_4_hok ?_ ?_
  · intro C X l u w hl hu
    obtain ⟨v0, l_v0, rfl, k_v0, hl_v0⟩ := Kinds.cons_ hl
    obtain ⟨found103, rfl⟩ := kind_int k_v0
    obtain ⟨v1, l_v1, rfl, k_v1, hl_v1⟩ := Kinds.cons_ hl_v0
    obtain ⟨i104, rfl⟩ := kind_int k_v1
    obtain rfl := Kinds.nil_ hl_v1
    obtain ⟨v2, l_v2, rfl, k_v2, hu_v2⟩ := Kinds.cons_ hu
    obtain ⟨host105, rfl⟩ := kind_string k_v2
    obtain ⟨v3, l_v3, rfl, k_v3, hu_v3⟩ := Kinds.cons_ hu_v2
    obtain ⟨prefix106, rfl⟩ := kind_string k_v3
    obtain ⟨v4, l_v4, rfl, k_v4, hu_v4⟩ := Kinds.cons_ hu_v3
    obtain ⟨was107, rfl⟩ := kind_addr k_v4
    obtain ⟨v5, l_v5, rfl, k_v5, hu_v5⟩ := Kinds.cons_ hu_v4
    obtain ⟨now108, rfl⟩ := kind_addr k_v5
    obtain rfl := Kinds.nil_ hu_v5
    exact T_law08_ConfTells_4_eq C X found103 i104 host105 prefix106 was107 now108 w
  · intro l u w C hl hu
    obtain ⟨v0, l_v0, rfl, k_v0, hl_v0⟩ := Kinds.cons_ hl
    obtain ⟨found103, rfl⟩ := kind_int k_v0
    obtain ⟨v1, l_v1, rfl, k_v1, hl_v1⟩ := Kinds.cons_ hl_v0
    obtain ⟨i104, rfl⟩ := kind_int k_v1
    obtain rfl := Kinds.nil_ hl_v1
    obtain ⟨v2, l_v2, rfl, k_v2, hu_v2⟩ := Kinds.cons_ hu
    obtain ⟨host105, rfl⟩ := kind_string k_v2
    obtain ⟨v3, l_v3, rfl, k_v3, hu_v3⟩ := Kinds.cons_ hu_v2
    obtain ⟨prefix106, rfl⟩ := kind_string k_v3
    obtain ⟨v4, l_v4, rfl, k_v4, hu_v4⟩ := Kinds.cons_ hu_v3
    obtain ⟨was107, rfl⟩ := kind_addr k_v4
    obtain ⟨v5, l_v5, rfl, k_v5, hu_v5⟩ := Kinds.cons_ hu_v4
    obtain ⟨now108, rfl⟩ := kind_addr k_v5
    obtain rfl := Kinds.nil_ hu_v5
    constructor
    · intro h X hX
      exact h (fun found103 i104 w => X [.int .i64 found103, .int .i64 i104] w) (fun found103 i104 w hb => hX [.int .i64 found103, .int .i64 i104] w ⟨rfl, rfl, trivial⟩ hb)
    · intro h X hX
      exact h (fun l w => match l with | [v0, v1] => X (pInt v0) (pInt v1) w | _ => True) (fun l w hl hb => by
        obtain ⟨v0, l_v0, rfl, k_v0, hl_v0⟩ := Kinds.cons_ hl
        obtain ⟨found103, rfl⟩ := kind_int k_v0
        obtain ⟨v1, l_v1, rfl, k_v1, hl_v1⟩ := Kinds.cons_ hl_v0
        obtain ⟨i104, rfl⟩ := kind_int k_v1
        obtain rfl := Kinds.nil_ hl_v1
        exact hX found103 i104 w hb)

def T_law08_ConfTells (l1a : Option Addr) (l1l : Nat) (l1c : Nat) (host2 : ByteArray) (prefix3 : ByteArray) (w : World) (R : Ending → World → Prop) : Prop :=
  Calls Tryz.prog 13 #[.slice l1a l1l l1c] w (ret (fun r4 w5 => ∃ p6 : Option Addr, ∃ p7 : Option Addr, ∃ b8 : Bool, r4 = .tuple #[.pointer p6, .pointer p7, .bool b8] ∧ T_law08_ConfTells_1 host2 prefix3 b8 w5 (fun b18 w19 => if b18 = true then (T_law08_ConfTells_2 b8 w19 (fun b27 w28 => R (.returned (.bool b27)) w28) (pan R)) else (Calls Tryz.prog 18 #[.string (ByteArray.mk #[113])] w19 (ret (fun r29 w30 => ∃ x31 : Int, ∃ x32 : Int, ∃ x33 : Int, ∃ x34 : Int, ∃ s35 : ByteArray, ∃ s36 : ByteArray, ∃ s37 : ByteArray, ∃ s38a : Option Addr, ∃ s38l : Nat, ∃ s38c : Nat, r29 = .agg #[.int .i64 x31, .int .i64 x32, .int .i64 x33, .int .i64 x34, .string s35, .string s36, .string s37, .slice s38a s38l s38c] ∧ Calls Tryz.prog 17 #[.pointer p6, .agg #[.int .i64 x31, .int .i64 x32, .int .i64 x33, .int .i64 x34, .string s35, .string s36, .string s37, .slice s38a s38l s38c]] w30 (ret (fun r39 w40 => ∃ x41 : Int, ∃ x42 : Int, r39 = .agg #[.int .i64 x41, .int .i64 x42] ∧ Calls Tryz.prog 14 #[.pointer p6] w40 (ret (fun r43 w44 => ∃ x45 : Int, ∃ s46a : Option Addr, ∃ s46l : Nat, ∃ s46c : Nat, ∃ s47a : Option Addr, ∃ s47l : Nat, ∃ s47c : Nat, r43 = .agg #[.int .i64 x45, .slice s46a s46l s46c, .slice s47a s47l s47c] ∧ let w48 : World := w44.alloc (.cells #[.int .i64 0, .slice none 0 0, .slice none 0 0] 30)
  (.agg #[.int .i64 x45, .slice s46a s46l s46c, .slice s47a s47l s47c] : Value).cells.size = 3 ∧ wrOk w48 (⟨w44.heap.size, 0, none⟩ : Addr) (.agg #[.int .i64 x45, .slice s46a s46l s46c, .slice s47a s47l s47c]) ∧ let w49 : World := wr w48 (⟨w44.heap.size, 0, none⟩ : Addr) (.agg #[.int .i64 x45, .slice s46a s46l s46c, .slice s47a s47l s47c])
  Calls Tryz.prog 19 #[.string host2, .string prefix3, .string (ByteArray.mk #[113])] w49 (ret (fun r50 w51 => ∃ x52 : Int, ∃ x53 : Int, ∃ x54 : Int, ∃ x55 : Int, ∃ s56 : ByteArray, ∃ s57 : ByteArray, ∃ s58 : ByteArray, ∃ s59a : Option Addr, ∃ s59l : Nat, ∃ s59c : Nat, r50 = .agg #[.int .i64 x52, .int .i64 x53, .int .i64 x54, .int .i64 x55, .string s56, .string s57, .string s58, .slice s59a s59l s59c] ∧ Calls Tryz.prog 17 #[.pointer p6, .agg #[.int .i64 x52, .int .i64 x53, .int .i64 x54, .int .i64 x55, .string s56, .string s57, .string s58, .slice s59a s59l s59c]] w51 (ret (fun r60 w61 => ∃ x62 : Int, ∃ x63 : Int, r60 = .agg #[.int .i64 x62, .int .i64 x63] ∧ let w64 : World := w61.alloc (.cells #[.int .i64 0, .int .i64 0] 45)
  (.agg #[.int .i64 x62, .int .i64 x63] : Value).cells.size = 2 ∧ wrOk w64 (⟨w61.heap.size, 0, none⟩ : Addr) (.agg #[.int .i64 x62, .int .i64 x63]) ∧ let w65 : World := wr w64 (⟨w61.heap.size, 0, none⟩ : Addr) (.agg #[.int .i64 x62, .int .i64 x63])
  Calls Tryz.prog 14 #[.pointer p6] w65 (ret (fun r66 w67 => ∃ x68 : Int, ∃ s69a : Option Addr, ∃ s69l : Nat, ∃ s69c : Nat, ∃ s70a : Option Addr, ∃ s70l : Nat, ∃ s70c : Nat, r66 = .agg #[.int .i64 x68, .slice s69a s69l s69c, .slice s70a s70l s70c] ∧ let w71 : World := w67.alloc (.cells #[.int .i64 0, .slice none 0 0, .slice none 0 0] 30)
  (.agg #[.int .i64 x68, .slice s69a s69l s69c, .slice s70a s70l s70c] : Value).cells.size = 3 ∧ wrOk w71 (⟨w67.heap.size, 0, none⟩ : Addr) (.agg #[.int .i64 x68, .slice s69a s69l s69c, .slice s70a s70l s70c]) ∧ let w72 : World := wr w71 (⟨w67.heap.size, 0, none⟩ : Addr) (.agg #[.int .i64 x68, .slice s69a s69l s69c, .slice s70a s70l s70c])
  ∃ x73 : Int, rd w72 (⟨w61.heap.size, 0, none⟩ : Addr) (.int .i64 x73) ∧ if ((x73 : Int) != 0) = true then (T_law08_ConfTells_3 host2 prefix3 (⟨w44.heap.size, 0, none⟩ : Addr) (⟨w61.heap.size, 0, none⟩ : Addr) (⟨w67.heap.size, 0, none⟩ : Addr) w72 (fun b101 w102 => R (.returned (.bool b101)) w102) (pan R)) else (T_law08_ConfTells_4 0 0 host2 prefix3 (⟨w44.heap.size, 0, none⟩ : Addr) (⟨w67.heap.size, 0, none⟩ : Addr) w72 (fun found159 w160 => Calls Tryz.prog 17 #[.pointer p6, .agg #[.int .i64 4, .int .i64 0, .int .i64 0, .int .i64 (-1), .string host2, .string prefix3, .string (ByteArray.mk #[]), .slice none 0 0]] w160 (ret (fun r161 w162 => ∃ x163 : Int, ∃ x164 : Int, r161 = .agg #[.int .i64 x163, .int .i64 x164] ∧ let w165 : World := w162.alloc (.cells #[.int .i64 0, .int .i64 0] 45)
  (.agg #[.int .i64 x163, .int .i64 x164] : Value).cells.size = 2 ∧ wrOk w165 (⟨w162.heap.size, 0, none⟩ : Addr) (.agg #[.int .i64 x163, .int .i64 x164]) ∧ let w166 : World := wr w165 (⟨w162.heap.size, 0, none⟩ : Addr) (.agg #[.int .i64 x163, .int .i64 x164])
  Calls Tryz.prog 17 #[.pointer p6, .agg #[.int .i64 4, .int .i64 0, .int .i64 0, .int .i64 (-1), .string host2, .string prefix3, .string (ByteArray.mk #[]), .slice none 0 0]] w166 (ret (fun r167 w168 => ∃ x169 : Int, ∃ x170 : Int, r167 = .agg #[.int .i64 x169, .int .i64 x170] ∧ let w171 : World := w168.alloc (.cells #[.int .i64 0, .int .i64 0] 45)
  (.agg #[.int .i64 x169, .int .i64 x170] : Value).cells.size = 2 ∧ wrOk w171 (⟨w168.heap.size, 0, none⟩ : Addr) (.agg #[.int .i64 x169, .int .i64 x170]) ∧ let w172 : World := wr w171 (⟨w168.heap.size, 0, none⟩ : Addr) (.agg #[.int .i64 x169, .int .i64 x170])
  let w173 : World := w172.drew
  Calls Tryz.prog 15 #[] w173 (ret (fun r174 w175 => ∃ b176 : Bool, r174 = .bool b176 ∧ (True) ∧ if b176 = true then (if ((found159 : Int) == 1) = true then (∃ x177 : Int, rd w175 (⟨w162.heap.size, 0, none⟩ : Addr) (.int .i64 x177) ∧ if ((x177 : Int) == 0) = true then (∃ x178 : Int, rd w175 (⟨w168.heap.size, 0, none⟩ : Addr) (.int .i64 x178) ∧ if ((x178 : Int) == 8) = true then (∃ s179a : Option Addr, ∃ s179l : Nat, ∃ s179c : Nat, rd w175 ((⟨w67.heap.size, 0, none⟩ : Addr).add 1) (.slice s179a s179l s179c) ∧ Calls Tryz.prog 14 #[.pointer p6] w175 (ret (fun r180 w181 => ∃ x182 : Int, ∃ s183a : Option Addr, ∃ s183l : Nat, ∃ s183c : Nat, ∃ s184a : Option Addr, ∃ s184l : Nat, ∃ s184c : Nat, r180 = .agg #[.int .i64 x182, .slice s183a s183l s183c, .slice s184a s184l s184c] ∧ (rd w181 ((⟨w67.heap.size, 0, none⟩ : Addr).add 1) (.slice s179a s179l s179c) ∧ rd w181 (⟨w168.heap.size, 0, none⟩ : Addr) (.int .i64 x178) ∧ rd w181 (⟨w162.heap.size, 0, none⟩ : Addr) (.int .i64 x177) ∧ True) ∧ R (.returned (.bool (((s183l : Nat) : Int) == (IntKind.wrap .i64 (((s179l : Nat) : Int) - 1))))) w181) (pan R))) else ((rd w175 (⟨w168.heap.size, 0, none⟩ : Addr) (.int .i64 x178) ∧ rd w175 (⟨w162.heap.size, 0, none⟩ : Addr) (.int .i64 x177) ∧ True) ∧ R (.returned (.bool false)) w175)) else ((rd w175 (⟨w162.heap.size, 0, none⟩ : Addr) (.int .i64 x177) ∧ True) ∧ R (.returned (.bool false)) w175)) else ((True) ∧ R (.returned (.bool false)) w175)) else ((True) ∧ R (.returned (.bool false)) w175)) (pan R))) (pan R))) (pan R))) (fun b185 w186 => R (.returned (.bool b185)) w186) (pan R))) (pan R))) (pan R))) (pan R))) (pan R))) (pan R))) (pan R)))) (pan R)) (pan R))

theorem T_law08_ConfTells_hl : allP (hokL Tryz.prog (hookAt [(28, H_law08_ConfTells_1), (116, H_law08_ConfTells_2), (4084, H_law08_ConfTells_3), (4093, H_law08_ConfTells_4)]) (bodyOf Tryz.f4) 1) = (UnitOk Tryz.prog H_law08_ConfTells_1 (at_ (bodyOf Tryz.f4) [1, 1, 0, 0]) 28 ∧ UnitOk Tryz.prog H_law08_ConfTells_2 (at_ (bodyOf Tryz.f4) [1, 1, 0, 1, 0, 0]) 116 ∧ UnitOk Tryz.prog H_law08_ConfTells_3 (at_ (bodyOf Tryz.f4) [1, 1, 1, 1, 1, 1, 1, 0, 1, 0, 0]) 4084 ∧ UnitOk Tryz.prog H_law08_ConfTells_4 (at_ (bodyOf Tryz.f4) [1, 1, 1, 1, 1, 1, 1, 1, 1, 0, 1]) 4093 ∧ True) := by kernel_rfl

theorem T_law08_ConfTells_eq (l1a : Option Addr) (l1l : Nat) (l1c : Nat) (host2 : ByteArray) (prefix3 : ByteArray) (w : World) (R : Ending → World → Prop) : vcCode Tryz.prog (hookAt [(28, H_law08_ConfTells_1), (116, H_law08_ConfTells_2), (4084, H_law08_ConfTells_3), (4093, H_law08_ConfTells_4)]) (bodyOf Tryz.f4) 1 ⟨argEnv [.slice l1a l1l l1c, .string host2, .string prefix3] 0, Tryz.f4.ntmps, []⟩ w (finQ Tryz.prog Tryz.f4.results.toList R) = T_law08_ConfTells l1a l1l l1c host2 prefix3 w R := by kernel_rfl

theorem T_law08_ConfTells_b : Tryz.f4.body = some (bodyOf Tryz.f4) := by kernel_rfl
theorem T_law08_ConfTells_s : (quietSel (bodyOf Tryz.f4) && Nat.ble 3 Tryz.f4.ntmps) = true := by kernel_rfl

theorem C_law08_ConfTells {l1a : Option Addr} {l1l : Nat} {l1c : Nat} {host2 : ByteArray} {prefix3 : ByteArray} {w : World} {R : Ending → World → Prop} (h : T_law08_ConfTells l1a l1l l1c host2 prefix3 w R) : Calls Tryz.prog 4 #[.slice l1a l1l l1c, .string host2, .string prefix3] w R :=
  calls_of_text (args := [.slice l1a l1l l1c, .string host2, .string prefix3]) mixed Tryz.func4 T_law08_ConfTells_b T_law08_ConfTells_s (HOk_of _ _ (by rw [T_law08_ConfTells_hl]; exact ⟨T_law08_ConfTells_1_ok, T_law08_ConfTells_2_ok, T_law08_ConfTells_3_ok, T_law08_ConfTells_4_ok, trivial⟩)) (by rw [T_law08_ConfTells_eq]; exact h)

end Go.Proofs.YtcpmfjclkdjfmaaGreat
