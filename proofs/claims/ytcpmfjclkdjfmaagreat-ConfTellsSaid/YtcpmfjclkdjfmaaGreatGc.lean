/-
  What the functions' code comes to; printed by a program of this claim's own.
-/
import Derived.Test.YtcpmfjclkdjfmaaGreatProg
import Derived.KernelRfl
import Derived.Test.YtcpmfjclkdjfmaaGreatGb
namespace Go.Proofs.YtcpmfjclkdjfmaaGreat
open Go Go.Vc
set_option maxRecDepth 100000
set_option linter.unusedVariables false

/-! (*tollgate/conf.Store).Config -/
def T_conf_Store_Config_1_body (X : Int → World → Prop) (x19 : Int) (s20 : Option Addr) (c21 : Addr) (s22a : Option Addr) (s22l : Nat) (s22c : Nat) (x23 : Int) (w : World) (Kn : World → Prop) (Kp : List PanicEntry → World → Prop)  : Prop :=
  if (decide ((x19 : Int) < x23)) = true then (0 ≤ (x19 : Int) ∧ (x19 : Int) < ((s22l : Nat) : Int) ∧ ∃ b24, s22a = some b24 ∧ ∃ s25 : ByteArray, rd w (b24.add ((x19 : Int).toNat * 1)) (.string s25) ∧ let w26 : World := w.drew
  ∃ s27a : Option Addr, ∃ s27l : Nat, ∃ s27c : Nat, rd w26 (c21.add 2) (.slice s27a s27l s27c) ∧ ∃ a28, s20 = some a28 ∧ ∃ m29 : Option Nat, rd w26 (a28.add 1) (.map m29) ∧ runV Tryz.prog (Instr.lookup 75 (.map m29) (.string s25) false) w26 (fun r30 w31 => ∃ s32a : Option Addr, ∃ s32l : Nat, ∃ s32c : Nat, r30 = .slice s32a s32l s32c ∧ (rd w31 (c21.add 2) (.slice s27a s27l s27c) ∧ True) ∧ Calls Tryz.prog 39 #[.slice s32a s32l s32c] w31 (ret (fun r33 w34 => ∃ s35a : Option Addr, ∃ s35l : Nat, ∃ s35c : Nat, r33 = .slice s35a s35l s35c ∧ (rd w34 (c21.add 2) (.slice s27a s27l s27c) ∧ True) ∧ let w36 : World := w34.alloc (.cells #[.string s25, .slice s35a s35l s35c] 34)
  (rd w36 (c21.add 2) (.slice s27a s27l s27c) ∧ True) ∧ runV Tryz.prog (Builtin.append_ #[28, 28] 28 #[.slice s27a s27l s27c, .slice (some (⟨w34.heap.size, 0, none⟩ : Addr)) 1 1]) w36 (fun r37 w38 => ∃ s39a : Option Addr, ∃ s39l : Nat, ∃ s39c : Nat, r37 = .slice s39a s39l s39c ∧ (True) ∧ (.slice s39a s39l s39c : Value).cells.size = 1 ∧ wrOk w38 (c21.add 2) (.slice s39a s39l s39c) ∧ let w40 : World := wr w38 (c21.add 2) (.slice s39a s39l s39c)
  (True) ∧ X (IntKind.wrap .i64 ((x19 : Int) + 1)) w40) Kp) Kp)) Kp) else (Kn  w)

def T_conf_Store_Config_1 (x19 : Int) (s20 : Option Addr) (c21 : Addr) (s22a : Option Addr) (s22l : Nat) (s22c : Nat) (x23 : Int) (w : World) (Kn : World → Prop) (Kp : List PanicEntry → World → Prop) : Prop :=
  ∀ X : Int → World → Prop, (∀ (x19 : Int) (w : World), T_conf_Store_Config_1_body X x19 s20 c21 s22a s22l s22c x23 w Kn Kp → X x19 w) → X x19 w

def T_conf_Store_Config_1_outs : Exit → Option (List (Nat × Value)) := fun x => match x with | .normal => some [] | .panic _ => some [] | _ => none

def T_conf_Store_Config_1_ks : Nat → Bool := ksOf [5, 23, 24, 25, 26, 27, 28, 29, 30, 31, 32, 33, 34, 35, 36, 37, 38, 39, 40, 41]

def H_conf_Store_Config_1 : Env → World → QT → Prop := unitHook 67 T_conf_Store_Config_1_ks [(23, .int .i64 0), (0, .pointer none), (3, .pointer (some ⟨0, 0, none⟩)), (21, .slice none 0 0), (22, .int .i64 0)] T_conf_Store_Config_1_outs fun l w C => match l with | [v0, v1, v2, v3, v4] => T_conf_Store_Config_1 (pInt v0) (pPtr v1) (pAddr v2) (pA v3) (pL v3) (pC v3) (pInt v4) w (fun w => C .normal [] w) (fun ch w => C (.panic ch) [] w) | _ => False

theorem T_conf_Store_Config_1_hl : allP (hokL Tryz.prog (hookAt []) (at_ (bodyOf Tryz.f14) [1, 1, 1, 0, 1, 0, 0]) 244) = (True) := by kernel_rfl
theorem T_conf_Store_Config_1_hok : HOk Tryz.prog (hookAt []) (at_ (bodyOf Tryz.f14) [1, 1, 1, 0, 1, 0, 0]) 244 := HOk_of _ _ (by rw [T_conf_Store_Config_1_hl]; exact trivial)

theorem T_conf_Store_Config_1_eq (C : Conts) (X : List Value → World → Prop) (x19 : Int) (s20 : Option Addr) (c21 : Addr) (s22a : Option Addr) (s22l : Nat) (s22c : Nat) (x23 : Int) (w : World) : vcCode Tryz.prog (hookAt []) (at_ (bodyOf Tryz.f14) [1, 1, 1, 0, 1, 0, 0]) 244 ⟨[(23, .int .i64 x19)] ++ [(0, .pointer s20), (3, .pointer (some c21)), (21, .slice s22a s22l s22c), (22, .int .i64 x23)], 67, []⟩ w (seqQ (fun e w => takeAll e [(23, .int .i64 0)] fun l => X l w) (blockQ 0 (unitQ T_conf_Store_Config_1_outs C))) = T_conf_Store_Config_1_body (fun x19 w => X [.int .i64 x19] w) x19 s20 c21 s22a s22l s22c x23 w (fun w => C .normal [] w) (fun ch w => C (.panic ch) [] w) := by kernel_rfl

theorem T_conf_Store_Config_1_ok : UnitOk Tryz.prog H_conf_Store_Config_1 (at_ (bodyOf Tryz.f14) [1, 1, 1, 0, 1]) 61 := by
  have hc : at_ (bodyOf Tryz.f14) [1, 1, 1, 0, 1] = .block 0 (.loop (at_ (bodyOf Tryz.f14) [1, 1, 1, 0, 1, 0, 0])) := by kernel_rfl
  rw [hc]
  refine loop_unit_ok (carr := [(23, .int .i64 0)]) (fix := [(0, .pointer none), (3, .pointer (some ⟨0, 0, none⟩)), (21, .slice none 0 0), (22, .int .i64 0)]) (ks := T_conf_Store_Config_1_ks) (H := (hookAt [])) (B := fun C X l u w => match l, u with | [v0], [v1, v2, v3, v4] => T_conf_Store_Config_1_body (fun x19 w => X [.int .i64 x19] w) (pInt v0) (pPtr v1) (pAddr v2) (pA v3) (pL v3) (pC v3) (pInt v4) w (fun w => C .normal [] w) (fun ch w => C (.panic ch) [] w) | _, _ => False) (by kernel_rfl) (by kernel_rfl) T_conf_Store_Config_1_hok ?_ ?_
  · intro C X l u w hl hu
    obtain ⟨v0, l_v0, rfl, k_v0, hl_v0⟩ := Kinds.cons_ hl
    obtain ⟨x19, rfl⟩ := kind_int k_v0
    obtain rfl := Kinds.nil_ hl_v0
    obtain ⟨v1, l_v1, rfl, k_v1, hu_v1⟩ := Kinds.cons_ hu
    obtain ⟨s20, rfl⟩ := kind_pointer k_v1
    obtain ⟨v2, l_v2, rfl, k_v2, hu_v2⟩ := Kinds.cons_ hu_v1
    obtain ⟨c21, rfl⟩ := kind_addr k_v2
    obtain ⟨v3, l_v3, rfl, k_v3, hu_v3⟩ := Kinds.cons_ hu_v2
    obtain ⟨s22a, s22l, s22c, rfl⟩ := kind_slice k_v3
    obtain ⟨v4, l_v4, rfl, k_v4, hu_v4⟩ := Kinds.cons_ hu_v3
    obtain ⟨x23, rfl⟩ := kind_int k_v4
    obtain rfl := Kinds.nil_ hu_v4
    exact T_conf_Store_Config_1_eq C X x19 s20 c21 s22a s22l s22c x23 w
  · intro l u w C hl hu
    obtain ⟨v0, l_v0, rfl, k_v0, hl_v0⟩ := Kinds.cons_ hl
    obtain ⟨x19, rfl⟩ := kind_int k_v0
    obtain rfl := Kinds.nil_ hl_v0
    obtain ⟨v1, l_v1, rfl, k_v1, hu_v1⟩ := Kinds.cons_ hu
    obtain ⟨s20, rfl⟩ := kind_pointer k_v1
    obtain ⟨v2, l_v2, rfl, k_v2, hu_v2⟩ := Kinds.cons_ hu_v1
    obtain ⟨c21, rfl⟩ := kind_addr k_v2
    obtain ⟨v3, l_v3, rfl, k_v3, hu_v3⟩ := Kinds.cons_ hu_v2
    obtain ⟨s22a, s22l, s22c, rfl⟩ := kind_slice k_v3
    obtain ⟨v4, l_v4, rfl, k_v4, hu_v4⟩ := Kinds.cons_ hu_v3
    obtain ⟨x23, rfl⟩ := kind_int k_v4
    obtain rfl := Kinds.nil_ hu_v4
    constructor
    · intro h X hX
      exact h (fun x19 w => X [.int .i64 x19] w) (fun x19 w hb => hX [.int .i64 x19] w ⟨rfl, trivial⟩ hb)
    · intro h X hX
      exact h (fun l w => match l with | [v0] => X (pInt v0) w | _ => True) (fun l w hl hb => by
        obtain ⟨v0, l_v0, rfl, k_v0, hl_v0⟩ := Kinds.cons_ hl
        obtain ⟨x19, rfl⟩ := kind_int k_v0
        obtain rfl := Kinds.nil_ hl_v0
        exact hX x19 w hb)

def T_conf_Store_Config_2_body (X : Int → World → Prop) (x45 : Int) (s46 : Option Addr) (c47 : Addr) (s48a : Option Addr) (s48l : Nat) (s48c : Nat) (x49 : Int) (w : World) (Kn : World → Prop) (Kp : List PanicEntry → World → Prop)  : Prop :=
  if (decide ((x45 : Int) < x49)) = true then (0 ≤ (x45 : Int) ∧ (x45 : Int) < ((s48l : Nat) : Int) ∧ ∃ b50, s48a = some b50 ∧ ∃ s51 : ByteArray, ∃ s52 : ByteArray, rd w (b50.add ((x45 : Int).toNat * 2)) (.agg #[.string s51, .string s52]) ∧ let w53 : World := w.alloc (.cells #[.string (ByteArray.mk #[]), .string (ByteArray.mk #[])] 89)
  (.agg #[.string s51, .string s52] : Value).cells.size = 2 ∧ wrOk w53 (⟨w.heap.size, 0, none⟩ : Addr) (.agg #[.string s51, .string s52]) ∧ let w54 : World := wr w53 (⟨w.heap.size, 0, none⟩ : Addr) (.agg #[.string s51, .string s52])
  let w55 : World := w54.drew
  ∃ s56a : Option Addr, ∃ s56l : Nat, ∃ s56c : Nat, rd w55 (c47.add 1) (.slice s56a s56l s56c) ∧ ∃ s57 : ByteArray, rd w55 (⟨w.heap.size, 0, none⟩ : Addr) (.string s57) ∧ ∃ s58 : ByteArray, rd w55 ((⟨w.heap.size, 0, none⟩ : Addr).add 1) (.string s58) ∧ ∃ a59, s46 = some a59 ∧ ∃ m60 : Option Nat, rd w55 (a59.add 2) (.map m60) ∧ ∃ s61 : ByteArray, ∃ s62 : ByteArray, rd w55 (⟨w.heap.size, 0, none⟩ : Addr) (.agg #[.string s61, .string s62]) ∧ runV Tryz.prog (Instr.lookup 76 (.map m60) (.agg #[.string s61, .string s62]) false) w55 (fun r63 w64 => ∃ s65 : ByteArray, r63 = .string s65 ∧ (rd w64 ((⟨w.heap.size, 0, none⟩ : Addr).add 1) (.string s58) ∧ rd w64 (⟨w.heap.size, 0, none⟩ : Addr) (.string s57) ∧ rd w64 (c47.add 1) (.slice s56a s56l s56c) ∧ True) ∧ let w66 : World := w64.alloc (.cells #[.string s57, .string s58, .string s65] 36)
  (rd w66 (c47.add 1) (.slice s56a s56l s56c) ∧ True) ∧ runV Tryz.prog (Builtin.append_ #[27, 27] 27 #[.slice s56a s56l s56c, .slice (some (⟨w64.heap.size, 0, none⟩ : Addr)) 1 1]) w66 (fun r67 w68 => ∃ s69a : Option Addr, ∃ s69l : Nat, ∃ s69c : Nat, r67 = .slice s69a s69l s69c ∧ (True) ∧ (.slice s69a s69l s69c : Value).cells.size = 1 ∧ wrOk w68 (c47.add 1) (.slice s69a s69l s69c) ∧ let w70 : World := wr w68 (c47.add 1) (.slice s69a s69l s69c)
  (True) ∧ X (IntKind.wrap .i64 ((x45 : Int) + 1)) w70) Kp) Kp) else (Kn  w)

def T_conf_Store_Config_2 (x45 : Int) (s46 : Option Addr) (c47 : Addr) (s48a : Option Addr) (s48l : Nat) (s48c : Nat) (x49 : Int) (w : World) (Kn : World → Prop) (Kp : List PanicEntry → World → Prop) : Prop :=
  ∀ X : Int → World → Prop, (∀ (x45 : Int) (w : World), T_conf_Store_Config_2_body X x45 s46 c47 s48a s48l s48c x49 w Kn Kp → X x45 w) → X x45 w

def T_conf_Store_Config_2_outs : Exit → Option (List (Nat × Value)) := fun x => match x with | .normal => some [] | .panic _ => some [] | _ => none

def T_conf_Store_Config_2_ks : Nat → Bool := ksOf [7, 45, 46, 47, 48, 49, 50, 51, 52, 53, 54, 55, 56, 57, 58, 59, 60, 61, 62, 63, 64, 65]

def H_conf_Store_Config_2 : Env → World → QT → Prop := unitHook 67 T_conf_Store_Config_2_ks [(45, .int .i64 0), (0, .pointer none), (3, .pointer (some ⟨0, 0, none⟩)), (43, .slice none 0 0), (44, .int .i64 0)] T_conf_Store_Config_2_outs fun l w C => match l with | [v0, v1, v2, v3, v4] => T_conf_Store_Config_2 (pInt v0) (pPtr v1) (pAddr v2) (pA v3) (pL v3) (pC v3) (pInt v4) w (fun w => C .normal [] w) (fun ch w => C (.panic ch) [] w) | _ => False

theorem T_conf_Store_Config_2_hl : allP (hokL Tryz.prog (hookAt []) (at_ (bodyOf Tryz.f14) [1, 1, 1, 1, 0, 1, 0, 0]) 500) = (True) := by kernel_rfl
theorem T_conf_Store_Config_2_hok : HOk Tryz.prog (hookAt []) (at_ (bodyOf Tryz.f14) [1, 1, 1, 1, 0, 1, 0, 0]) 500 := HOk_of _ _ (by rw [T_conf_Store_Config_2_hl]; exact trivial)

theorem T_conf_Store_Config_2_eq (C : Conts) (X : List Value → World → Prop) (x45 : Int) (s46 : Option Addr) (c47 : Addr) (s48a : Option Addr) (s48l : Nat) (s48c : Nat) (x49 : Int) (w : World) : vcCode Tryz.prog (hookAt []) (at_ (bodyOf Tryz.f14) [1, 1, 1, 1, 0, 1, 0, 0]) 500 ⟨[(45, .int .i64 x45)] ++ [(0, .pointer s46), (3, .pointer (some c47)), (43, .slice s48a s48l s48c), (44, .int .i64 x49)], 67, []⟩ w (seqQ (fun e w => takeAll e [(45, .int .i64 0)] fun l => X l w) (blockQ 2 (unitQ T_conf_Store_Config_2_outs C))) = T_conf_Store_Config_2_body (fun x45 w => X [.int .i64 x45] w) x45 s46 c47 s48a s48l s48c x49 w (fun w => C .normal [] w) (fun ch w => C (.panic ch) [] w) := by kernel_rfl

theorem T_conf_Store_Config_2_ok : UnitOk Tryz.prog H_conf_Store_Config_2 (at_ (bodyOf Tryz.f14) [1, 1, 1, 1, 0, 1]) 125 := by
  have hc : at_ (bodyOf Tryz.f14) [1, 1, 1, 1, 0, 1] = .block 2 (.loop (at_ (bodyOf Tryz.f14) [1, 1, 1, 1, 0, 1, 0, 0])) := by kernel_rfl
  rw [hc]
  refine loop_unit_ok (carr := [(45, .int .i64 0)]) (fix := [(0, .pointer none), (3, .pointer (some ⟨0, 0, none⟩)), (43, .slice none 0 0), (44, .int .i64 0)]) (ks := T_conf_Store_Config_2_ks) (H := (hookAt [])) (B := fun C X l u w => match l, u with | [v0], [v1, v2, v3, v4] => T_conf_Store_Config_2_body (fun x45 w => X [.int .i64 x45] w) (pInt v0) (pPtr v1) (pAddr v2) (pA v3) (pL v3) (pC v3) (pInt v4) w (fun w => C .normal [] w) (fun ch w => C (.panic ch) [] w) | _, _ => False) (by kernel_rfl) (by kernel_rfl) T_conf_Store_Config_2_hok ?_ ?_
  · intro C X l u w hl hu
    obtain ⟨v0, l_v0, rfl, k_v0, hl_v0⟩ := Kinds.cons_ hl
    obtain ⟨x45, rfl⟩ := kind_int k_v0
    obtain rfl := Kinds.nil_ hl_v0
    obtain ⟨v1, l_v1, rfl, k_v1, hu_v1⟩ := Kinds.cons_ hu
    obtain ⟨s46, rfl⟩ := kind_pointer k_v1
    obtain ⟨v2, l_v2, rfl, k_v2, hu_v2⟩ := Kinds.cons_ hu_v1
    obtain ⟨c47, rfl⟩ := kind_addr k_v2
    obtain ⟨v3, l_v3, rfl, k_v3, hu_v3⟩ := Kinds.cons_ hu_v2
    obtain ⟨s48a, s48l, s48c, rfl⟩ := kind_slice k_v3
    obtain ⟨v4, l_v4, rfl, k_v4, hu_v4⟩ := Kinds.cons_ hu_v3
    obtain ⟨x49, rfl⟩ := kind_int k_v4
    obtain rfl := Kinds.nil_ hu_v4
    exact T_conf_Store_Config_2_eq C X x45 s46 c47 s48a s48l s48c x49 w
  · intro l u w C hl hu
    obtain ⟨v0, l_v0, rfl, k_v0, hl_v0⟩ := Kinds.cons_ hl
    obtain ⟨x45, rfl⟩ := kind_int k_v0
    obtain rfl := Kinds.nil_ hl_v0
    obtain ⟨v1, l_v1, rfl, k_v1, hu_v1⟩ := Kinds.cons_ hu
    obtain ⟨s46, rfl⟩ := kind_pointer k_v1
    obtain ⟨v2, l_v2, rfl, k_v2, hu_v2⟩ := Kinds.cons_ hu_v1
    obtain ⟨c47, rfl⟩ := kind_addr k_v2
    obtain ⟨v3, l_v3, rfl, k_v3, hu_v3⟩ := Kinds.cons_ hu_v2
    obtain ⟨s48a, s48l, s48c, rfl⟩ := kind_slice k_v3
    obtain ⟨v4, l_v4, rfl, k_v4, hu_v4⟩ := Kinds.cons_ hu_v3
    obtain ⟨x49, rfl⟩ := kind_int k_v4
    obtain rfl := Kinds.nil_ hu_v4
    constructor
    · intro h X hX
      exact h (fun x45 w => X [.int .i64 x45] w) (fun x45 w hb => hX [.int .i64 x45] w ⟨rfl, trivial⟩ hb)
    · intro h X hX
      exact h (fun l w => match l with | [v0] => X (pInt v0) w | _ => True) (fun l w hl hb => by
        obtain ⟨v0, l_v0, rfl, k_v0, hl_v0⟩ := Kinds.cons_ hl
        obtain ⟨x45, rfl⟩ := kind_int k_v0
        obtain rfl := Kinds.nil_ hl_v0
        exact hX x45 w hb)

def T_conf_Store_Config (s1 : Option Addr) (w : World) (R : Ending → World → Prop) : Prop :=
  let w2 : World := w.alloc (.cells #[.int .i64 0, .slice none 0 0, .slice none 0 0] 30)
  if s1.isNone = true then ((.agg #[.int .i64 0, .slice none 0 0, .slice none 0 0] : Value).cells.size = 3 ∧ wrOk w2 (⟨w.heap.size, 0, none⟩ : Addr) (.agg #[.int .i64 0, .slice none 0 0, .slice none 0 0]) ∧ let w3 : World := wr w2 (⟨w.heap.size, 0, none⟩ : Addr) (.agg #[.int .i64 0, .slice none 0 0, .slice none 0 0])
  ∃ x4 : Int, ∃ s5a : Option Addr, ∃ s5l : Nat, ∃ s5c : Nat, ∃ s6a : Option Addr, ∃ s6l : Nat, ∃ s6c : Nat, rd w3 (⟨w.heap.size, 0, none⟩ : Addr) (.agg #[.int .i64 x4, .slice s5a s5l s5c, .slice s6a s6l s6c]) ∧ R (.returned (.agg #[.int .i64 x4, .slice s5a s5l s5c, .slice s6a s6l s6c])) w3) else (∃ a7, s1 = some a7 ∧ ∃ x8 : Int, rd w2 a7 (.int .i64 x8) ∧ let w9 : World := w2.alloc (.cells #[.int .i64 0, .slice none 0 0, .slice none 0 0] 30)
  (.agg #[.int .i64 x8, .slice none 0 0, .slice none 0 0] : Value).cells.size = 3 ∧ wrOk w9 (⟨w2.heap.size, 0, none⟩ : Addr) (.agg #[.int .i64 x8, .slice none 0 0, .slice none 0 0]) ∧ let w10 : World := wr w9 (⟨w2.heap.size, 0, none⟩ : Addr) (.agg #[.int .i64 x8, .slice none 0 0, .slice none 0 0])
  ∃ a11, s1 = some a11 ∧ ∃ m12 : Option Nat, rd w10 (a11.add 1) (.map m12) ∧ Calls Tryz.prog 38 #[.map m12] w10 (ret (fun r13 w14 => ∃ u15 : Value, one u15 = true ∧ r13 = u15 ∧ Calls Tryz.prog 37 #[u15] w14 (ret (fun r16 w17 => ∃ s18a : Option Addr, ∃ s18l : Nat, ∃ s18c : Nat, r16 = .slice s18a s18l s18c ∧ T_conf_Store_Config_1 0 s1 (⟨w2.heap.size, 0, none⟩ : Addr) s18a s18l s18c ((s18l : Nat) : Int) w17 (fun w41 => Calls Tryz.prog 40 #[.pointer s1] w41 (ret (fun r42 w43 => ∃ s44a : Option Addr, ∃ s44l : Nat, ∃ s44c : Nat, r42 = .slice s44a s44l s44c ∧ T_conf_Store_Config_2 0 s1 (⟨w2.heap.size, 0, none⟩ : Addr) s44a s44l s44c ((s44l : Nat) : Int) w43 (fun w71 => ∃ x72 : Int, ∃ s73a : Option Addr, ∃ s73l : Nat, ∃ s73c : Nat, ∃ s74a : Option Addr, ∃ s74l : Nat, ∃ s74c : Nat, rd w71 (⟨w2.heap.size, 0, none⟩ : Addr) (.agg #[.int .i64 x72, .slice s73a s73l s73c, .slice s74a s74l s74c]) ∧ (.agg #[.int .i64 x72, .slice s73a s73l s73c, .slice s74a s74l s74c] : Value).cells.size = 3 ∧ wrOk w71 (⟨w.heap.size, 0, none⟩ : Addr) (.agg #[.int .i64 x72, .slice s73a s73l s73c, .slice s74a s74l s74c]) ∧ let w75 : World := wr w71 (⟨w.heap.size, 0, none⟩ : Addr) (.agg #[.int .i64 x72, .slice s73a s73l s73c, .slice s74a s74l s74c])
  ∃ x76 : Int, ∃ s77a : Option Addr, ∃ s77l : Nat, ∃ s77c : Nat, ∃ s78a : Option Addr, ∃ s78l : Nat, ∃ s78c : Nat, rd w75 (⟨w.heap.size, 0, none⟩ : Addr) (.agg #[.int .i64 x76, .slice s77a s77l s77c, .slice s78a s78l s78c]) ∧ R (.returned (.agg #[.int .i64 x76, .slice s77a s77l s77c, .slice s78a s78l s78c])) w75) (pan R)) (pan R))) (pan R)) (pan R))) (pan R)))

theorem T_conf_Store_Config_hl : allP (hokL Tryz.prog (hookAt [(61, H_conf_Store_Config_1), (125, H_conf_Store_Config_2)]) (bodyOf Tryz.f14) 1) = (UnitOk Tryz.prog H_conf_Store_Config_1 (at_ (bodyOf Tryz.f14) [1, 1, 1, 0, 1]) 61 ∧ UnitOk Tryz.prog H_conf_Store_Config_2 (at_ (bodyOf Tryz.f14) [1, 1, 1, 1, 0, 1]) 125 ∧ True) := by kernel_rfl

theorem T_conf_Store_Config_eq (s1 : Option Addr) (w : World) (R : Ending → World → Prop) : vcCode Tryz.prog (hookAt [(61, H_conf_Store_Config_1), (125, H_conf_Store_Config_2)]) (bodyOf Tryz.f14) 1 ⟨argEnv [.pointer s1] 0, Tryz.f14.ntmps, []⟩ w (finQ Tryz.prog Tryz.f14.results.toList R) = T_conf_Store_Config s1 w R := by kernel_rfl

theorem T_conf_Store_Config_b : Tryz.f14.body = some (bodyOf Tryz.f14) := by kernel_rfl
theorem T_conf_Store_Config_s : (quietSel (bodyOf Tryz.f14) && Nat.ble 1 Tryz.f14.ntmps) = true := by kernel_rfl

theorem C_conf_Store_Config {s1 : Option Addr} {w : World} {R : Ending → World → Prop} (h : T_conf_Store_Config s1 w R) : Calls Tryz.prog 14 #[.pointer s1] w R :=
  calls_of_text (args := [.pointer s1]) mixed Tryz.func14 T_conf_Store_Config_b T_conf_Store_Config_s (HOk_of _ _ (by rw [T_conf_Store_Config_hl]; exact ⟨T_conf_Store_Config_1_ok, T_conf_Store_Config_2_ok, trivial⟩)) (by rw [T_conf_Store_Config_eq]; exact h)

/-! (*tollgate/conf.Store).Do -/
def T_conf_Store_Do_1 (s32 : Option Addr) (c33 : Addr) (a34 : Addr) (b35 : Bool) (w : World) (Kn : World → Prop) (Kr : World → Prop) (Kp : List PanicEntry → World → Prop) : Prop :=
  if b35 = true then (let w36 : World := w.drew
  ∃ a37, s32 = some a37 ∧ ∃ m38 : Option Nat, rd w36 (a37.add 3) (.map m38) ∧ ∃ x39 : Int, rd w36 (c33.add 1) (.int .i64 x39) ∧ (runV Tryz.prog (Instr.lookup 77 (.map m38) (.int .i64 x39) false) w36 (fun r40 w41 => ∃ x42 : Int, ∃ x43 : Int, ∃ x44 : Int, r40 = .agg #[.int .i64 x42, .int .i64 x43, .int .i64 x44] ∧ (True) ∧ let w45 : World := w41.alloc (.cells #[.int .i64 0, .int .i64 0, .int .i64 0] 91)
  (True) ∧ (.agg #[.int .i64 x42, .int .i64 x43, .int .i64 x44] : Value).cells.size = 3 ∧ wrOk w45 (⟨w41.heap.size, 0, none⟩ : Addr) (.agg #[.int .i64 x42, .int .i64 x43, .int .i64 x44]) ∧ let w46 : World := wr w45 (⟨w41.heap.size, 0, none⟩ : Addr) (.agg #[.int .i64 x42, .int .i64 x43, .int .i64 x44])
  (True) ∧ ∃ x47 : Int, rd w46 (c33.add 2) (.int .i64 x47) ∧ ∃ x48 : Int, rd w46 (⟨w41.heap.size, 0, none⟩ : Addr) (.int .i64 x48) ∧ if ((x47 : Int) == x48) = true then (∃ x49 : Int, ∃ x50 : Int, rd w46 ((⟨w41.heap.size, 0, none⟩ : Addr).add 1) (.agg #[.int .i64 x49, .int .i64 x50]) ∧ (.agg #[.int .i64 x49, .int .i64 x50] : Value).cells.size = 2 ∧ wrOk w46 a34 (.agg #[.int .i64 x49, .int .i64 x50]) ∧ let w51 : World := wr w46 a34 (.agg #[.int .i64 x49, .int .i64 x50])
  Kr  w51) else (∃ x52 : Int, rd w46 (c33.add 2) (.int .i64 x52) ∧ ∃ x53 : Int, rd w46 (⟨w41.heap.size, 0, none⟩ : Addr) (.int .i64 x53) ∧ if (decide ((x52 : Int) < x53)) = true then (∃ a54, s32 = some a54 ∧ ∃ x55 : Int, rd w46 a54 (.int .i64 x55) ∧ (.agg #[.int .i64 12, .int .i64 x55] : Value).cells.size = 2 ∧ wrOk w46 a34 (.agg #[.int .i64 12, .int .i64 x55]) ∧ let w56 : World := wr w46 a34 (.agg #[.int .i64 12, .int .i64 x55])
  Kr  w56) else (Kn  w46))) Kp) ∧ (let w57 : World := w36.alloc (.cells #[.int .i64 0, .int .i64 0, .int .i64 0] 91)
  (rd w57 (c33.add 1) (.int .i64 x39) ∧ rd w57 (a37.add 3) (.map m38) ∧ True) ∧ runV Tryz.prog (Instr.lookup 77 (.map m38) (.int .i64 x39) false) w57 (fun r58 w59 => ∃ x60 : Int, ∃ x61 : Int, ∃ x62 : Int, r58 = .agg #[.int .i64 x60, .int .i64 x61, .int .i64 x62] ∧ (True) ∧ (.agg #[.int .i64 x60, .int .i64 x61, .int .i64 x62] : Value).cells.size = 3 ∧ wrOk w59 (⟨w36.heap.size, 0, none⟩ : Addr) (.agg #[.int .i64 x60, .int .i64 x61, .int .i64 x62]) ∧ let w63 : World := wr w59 (⟨w36.heap.size, 0, none⟩ : Addr) (.agg #[.int .i64 x60, .int .i64 x61, .int .i64 x62])
  (True) ∧ ∃ x64 : Int, rd w63 (c33.add 2) (.int .i64 x64) ∧ ∃ x65 : Int, rd w63 (⟨w36.heap.size, 0, none⟩ : Addr) (.int .i64 x65) ∧ if ((x64 : Int) == x65) = true then (∃ x66 : Int, ∃ x67 : Int, rd w63 ((⟨w36.heap.size, 0, none⟩ : Addr).add 1) (.agg #[.int .i64 x66, .int .i64 x67]) ∧ (.agg #[.int .i64 x66, .int .i64 x67] : Value).cells.size = 2 ∧ wrOk w63 a34 (.agg #[.int .i64 x66, .int .i64 x67]) ∧ let w68 : World := wr w63 a34 (.agg #[.int .i64 x66, .int .i64 x67])
  Kr  w68) else (∃ x69 : Int, rd w63 (c33.add 2) (.int .i64 x69) ∧ ∃ x70 : Int, rd w63 (⟨w36.heap.size, 0, none⟩ : Addr) (.int .i64 x70) ∧ if (decide ((x69 : Int) < x70)) = true then (∃ a71, s32 = some a71 ∧ ∃ x72 : Int, rd w63 a71 (.int .i64 x72) ∧ (.agg #[.int .i64 12, .int .i64 x72] : Value).cells.size = 2 ∧ wrOk w63 a34 (.agg #[.int .i64 12, .int .i64 x72]) ∧ let w73 : World := wr w63 a34 (.agg #[.int .i64 12, .int .i64 x72])
  Kr  w73) else (Kn  w63))) Kp)) else (Kn  w)

def T_conf_Store_Do_1_outs : Exit → Option (List (Nat × Value)) := fun x => match x with | .normal => some [] | .ret => some [] | .panic _ => some [] | _ => none

def T_conf_Store_Do_1_ks : Nat → Bool := ksOf [6, 25, 26, 27, 28, 29, 30, 31, 32, 33, 34, 35, 36, 37, 38, 39, 40, 41, 42, 43, 44, 45, 46, 47, 48, 49, 50]

def H_conf_Store_Do_1 : Env → World → QT → Prop := unitHook 102 T_conf_Store_Do_1_ks [(0, .pointer none), (3, .pointer (some ⟨0, 0, none⟩)), (4, .pointer (some ⟨0, 0, none⟩)), (24, .bool false)] T_conf_Store_Do_1_outs fun l w C => match l with | [v0, v1, v2, v3] => T_conf_Store_Do_1 (pPtr v0) (pAddr v1) (pAddr v2) (pBool v3) w (fun w => C .normal [] w) (fun w => C .ret [] w) (fun ch w => C (.panic ch) [] w) | _ => False

theorem T_conf_Store_Do_1_hl : allP (hokL Tryz.prog (hookAt []) (at_ (bodyOf Tryz.f17) [1, 1, 1, 0, 1]) 61) = (True) := by kernel_rfl
theorem T_conf_Store_Do_1_hok : HOk Tryz.prog (hookAt []) (at_ (bodyOf Tryz.f17) [1, 1, 1, 0, 1]) 61 := HOk_of _ _ (by rw [T_conf_Store_Do_1_hl]; exact trivial)

theorem T_conf_Store_Do_1_eq (C : Conts) (s32 : Option Addr) (c33 : Addr) (a34 : Addr) (b35 : Bool) (w : World) : vcCode Tryz.prog (hookAt []) (at_ (bodyOf Tryz.f17) [1, 1, 1, 0, 1]) 61 ⟨[(0, .pointer s32), (3, .pointer (some c33)), (4, .pointer (some a34)), (24, .bool b35)], 102, []⟩ w (unitQ T_conf_Store_Do_1_outs C) = T_conf_Store_Do_1 s32 c33 a34 b35 w (fun w => C .normal [] w) (fun w => C .ret [] w) (fun ch w => C (.panic ch) [] w) := by kernel_rfl

theorem T_conf_Store_Do_1_ok : UnitOk Tryz.prog H_conf_Store_Do_1 (at_ (bodyOf Tryz.f17) [1, 1, 1, 0, 1]) 61 := unit_ok (H := (hookAt [])) (by kernel_rfl) T_conf_Store_Do_1_hok fun l w C hk => by
    obtain ⟨v0, l_v0, rfl, k_v0, hk_v0⟩ := Kinds.cons_ hk
    obtain ⟨s32, rfl⟩ := kind_pointer k_v0
    obtain ⟨v1, l_v1, rfl, k_v1, hk_v1⟩ := Kinds.cons_ hk_v0
    obtain ⟨c33, rfl⟩ := kind_addr k_v1
    obtain ⟨v2, l_v2, rfl, k_v2, hk_v2⟩ := Kinds.cons_ hk_v1
    obtain ⟨a34, rfl⟩ := kind_addr k_v2
    obtain ⟨v3, l_v3, rfl, k_v3, hk_v3⟩ := Kinds.cons_ hk_v2
    obtain ⟨b35, rfl⟩ := kind_bool k_v3
    obtain rfl := Kinds.nil_ hk_v3
    exact T_conf_Store_Do_1_eq C s32 c33 a34 b35 w

def T_conf_Store_Do_3 (s78 : Option Addr) (c79 : Addr) (w : World) (Kn : Bool → World → Prop) (Kp : List PanicEntry → World → Prop) : Prop :=
  let w80 : World := w.drew
  ∃ x81 : Int, rd w80 (c79.add 3) (.int .i64 x81) ∧ if (decide ((x81 : Int) ≥ 0)) = true then (∃ x82 : Int, rd w80 (c79.add 3) (.int .i64 x82) ∧ ∃ a83, s78 = some a83 ∧ ∃ x84 : Int, rd w80 a83 (.int .i64 x84) ∧ Kn ((x82 : Int) != x84) w80) else (Kn false w80)

def T_conf_Store_Do_3_outs : Exit → Option (List (Nat × Value)) := fun x => match x with | .normal => some [(54, .bool false)] | .panic _ => some [] | _ => none

def T_conf_Store_Do_3_ks : Nat → Bool := ksOf [54, 55, 56, 57, 58, 59, 60, 61, 62, 63, 64, 65, 66]

def H_conf_Store_Do_3 : Env → World → QT → Prop := unitHook 102 T_conf_Store_Do_3_ks [(0, .pointer none), (3, .pointer (some ⟨0, 0, none⟩))] T_conf_Store_Do_3_outs fun l w C => match l with | [v0, v1] => T_conf_Store_Do_3 (pPtr v0) (pAddr v1) w (fun b86 w => C .normal [.bool b86] w) (fun ch w => C (.panic ch) [] w) | _ => False

theorem T_conf_Store_Do_3_hl : allP (hokL Tryz.prog (hookAt []) (at_ (bodyOf Tryz.f17) [1, 1, 1, 1, 1, 0, 0, 0]) 504) = (True) := by kernel_rfl
theorem T_conf_Store_Do_3_hok : HOk Tryz.prog (hookAt []) (at_ (bodyOf Tryz.f17) [1, 1, 1, 1, 1, 0, 0, 0]) 504 := HOk_of _ _ (by rw [T_conf_Store_Do_3_hl]; exact trivial)

theorem T_conf_Store_Do_3_eq (C : Conts) (s78 : Option Addr) (c79 : Addr) (w : World) : vcCode Tryz.prog (hookAt []) (at_ (bodyOf Tryz.f17) [1, 1, 1, 1, 1, 0, 0, 0]) 504 ⟨[(0, .pointer s78), (3, .pointer (some c79))], 102, []⟩ w (unitQ T_conf_Store_Do_3_outs C) = T_conf_Store_Do_3 s78 c79 w (fun b87 w => C .normal [.bool b87] w) (fun ch w => C (.panic ch) [] w) := by kernel_rfl

theorem T_conf_Store_Do_3_ok : UnitOk Tryz.prog H_conf_Store_Do_3 (at_ (bodyOf Tryz.f17) [1, 1, 1, 1, 1, 0, 0, 0]) 504 := unit_ok (H := (hookAt [])) (by kernel_rfl) T_conf_Store_Do_3_hok fun l w C hk => by
    obtain ⟨v0, l_v0, rfl, k_v0, hk_v0⟩ := Kinds.cons_ hk
    obtain ⟨s78, rfl⟩ := kind_pointer k_v0
    obtain ⟨v1, l_v1, rfl, k_v1, hk_v1⟩ := Kinds.cons_ hk_v0
    obtain ⟨c79, rfl⟩ := kind_addr k_v1
    obtain rfl := Kinds.nil_ hk_v1
    exact T_conf_Store_Do_3_eq C s78 c79 w

def T_conf_Store_Do_2 (s75 : Option Addr) (c76 : Addr) (e77 : Int) (w : World) (Kn : Int → World → Prop) (Kp : List PanicEntry → World → Prop) : Prop :=
  T_conf_Store_Do_3 s75 c76 w (fun b88 w89 => if b88 = true then (Kn e77 w89) else (∃ a90, s75 = some a90 ∧ ∃ x91 : Int, rd w89 a90 (.int .i64 x91) ∧ if ((x91 : Int) == 1099511627776) = true then (Kn 6 w89) else (∃ x92 : Int, ∃ x93 : Int, ∃ x94 : Int, ∃ x95 : Int, ∃ s96 : ByteArray, ∃ s97 : ByteArray, ∃ s98 : ByteArray, ∃ s99a : Option Addr, ∃ s99l : Nat, ∃ s99c : Nat, rd w89 c76 (.agg #[.int .i64 x92, .int .i64 x93, .int .i64 x94, .int .i64 x95, .string s96, .string s97, .string s98, .slice s99a s99l s99c]) ∧ Calls Tryz.prog 41 #[.pointer s75, .agg #[.int .i64 x92, .int .i64 x93, .int .i64 x94, .int .i64 x95, .string s96, .string s97, .string s98, .slice s99a s99l s99c]] w89 (ret (fun r100 w101 => ∃ x102 : Int, r100 = .int .i64 x102 ∧ Kn x102 w101) Kp)))) Kp

def T_conf_Store_Do_2_outs : Exit → Option (List (Nat × Value)) := fun x => match x with | .normal => some [(7, .int .i64 0)] | .panic _ => some [] | _ => none

def T_conf_Store_Do_2_ks : Nat → Bool := ksOf [7, 51, 52, 53, 54, 55, 56, 57, 58, 59, 60, 61, 62, 63, 64, 65, 66, 67, 68, 69, 70, 71, 72]

def H_conf_Store_Do_2 : Env → World → QT → Prop := unitHook 102 T_conf_Store_Do_2_ks [(0, .pointer none), (3, .pointer (some ⟨0, 0, none⟩)), (7, .int .i64 0)] T_conf_Store_Do_2_outs fun l w C => match l with | [v0, v1, v2] => T_conf_Store_Do_2 (pPtr v0) (pAddr v1) (pInt v2) w (fun e104 w => C .normal [.int .i64 e104] w) (fun ch w => C (.panic ch) [] w) | _ => False

theorem T_conf_Store_Do_2_hl : allP (hokL Tryz.prog (hookAt [(504, H_conf_Store_Do_3)]) (at_ (bodyOf Tryz.f17) [1, 1, 1, 1, 1, 0]) 126) = (UnitOk Tryz.prog H_conf_Store_Do_3 (at_ (bodyOf Tryz.f17) [1, 1, 1, 1, 1, 0, 0, 0]) 504 ∧ True) := by kernel_rfl
theorem T_conf_Store_Do_2_hok : HOk Tryz.prog (hookAt [(504, H_conf_Store_Do_3)]) (at_ (bodyOf Tryz.f17) [1, 1, 1, 1, 1, 0]) 126 := HOk_of _ _ (by rw [T_conf_Store_Do_2_hl]; exact ⟨T_conf_Store_Do_3_ok, trivial⟩)

theorem T_conf_Store_Do_2_eq (C : Conts) (s75 : Option Addr) (c76 : Addr) (e77 : Int) (w : World) : vcCode Tryz.prog (hookAt [(504, H_conf_Store_Do_3)]) (at_ (bodyOf Tryz.f17) [1, 1, 1, 1, 1, 0]) 126 ⟨[(0, .pointer s75), (3, .pointer (some c76)), (7, .int .i64 e77)], 102, []⟩ w (unitQ T_conf_Store_Do_2_outs C) = T_conf_Store_Do_2 s75 c76 e77 w (fun e105 w => C .normal [.int .i64 e105] w) (fun ch w => C (.panic ch) [] w) := by kernel_rfl

theorem T_conf_Store_Do_2_ok : UnitOk Tryz.prog H_conf_Store_Do_2 (at_ (bodyOf Tryz.f17) [1, 1, 1, 1, 1, 0]) 126 := unit_ok (H := (hookAt [(504, H_conf_Store_Do_3)])) (by kernel_rfl) T_conf_Store_Do_2_hok fun l w C hk => by
    obtain ⟨v0, l_v0, rfl, k_v0, hk_v0⟩ := Kinds.cons_ hk
    obtain ⟨s75, rfl⟩ := kind_pointer k_v0
    obtain ⟨v1, l_v1, rfl, k_v1, hk_v1⟩ := Kinds.cons_ hk_v0
    obtain ⟨c76, rfl⟩ := kind_addr k_v1
    obtain ⟨v2, l_v2, rfl, k_v2, hk_v2⟩ := Kinds.cons_ hk_v1
    obtain ⟨e77, rfl⟩ := kind_int k_v2
    obtain rfl := Kinds.nil_ hk_v2
    exact T_conf_Store_Do_2_eq C s75 c76 e77 w

def T_conf_Store_Do_4 (s108 : Option Addr) (b109 : Bool) (w : World) (Kn : World → Prop) (Kp : List PanicEntry → World → Prop) : Prop :=
  if b109 = true then (∃ a110, s108 = some a110 ∧ ∃ x111 : Int, rd w a110 (.int .i64 x111) ∧ ∃ a112, s108 = some a112 ∧ (.int .i64 (IntKind.wrap .i64 ((x111 : Int) + 1)) : Value).cells.size = 1 ∧ wrOk w a112 (.int .i64 (IntKind.wrap .i64 ((x111 : Int) + 1))) ∧ let w113 : World := wr w a112 (.int .i64 (IntKind.wrap .i64 ((x111 : Int) + 1)))
  Kn  w113) else (Kn  w)

def T_conf_Store_Do_4_outs : Exit → Option (List (Nat × Value)) := fun x => match x with | .normal => some [] | .panic _ => some [] | _ => none

def T_conf_Store_Do_4_ks : Nat → Bool := ksOf [75, 76, 77, 78, 79, 80, 81]

def H_conf_Store_Do_4 : Env → World → QT → Prop := unitHook 102 T_conf_Store_Do_4_ks [(0, .pointer none), (74, .bool false)] T_conf_Store_Do_4_outs fun l w C => match l with | [v0, v1] => T_conf_Store_Do_4 (pPtr v0) (pBool v1) w (fun w => C .normal [] w) (fun ch w => C (.panic ch) [] w) | _ => False

theorem T_conf_Store_Do_4_hl : allP (hokL Tryz.prog (hookAt []) (at_ (bodyOf Tryz.f17) [1, 1, 1, 1, 1, 1, 0, 1]) 509) = (True) := by kernel_rfl
theorem T_conf_Store_Do_4_hok : HOk Tryz.prog (hookAt []) (at_ (bodyOf Tryz.f17) [1, 1, 1, 1, 1, 1, 0, 1]) 509 := HOk_of _ _ (by rw [T_conf_Store_Do_4_hl]; exact trivial)

theorem T_conf_Store_Do_4_eq (C : Conts) (s108 : Option Addr) (b109 : Bool) (w : World) : vcCode Tryz.prog (hookAt []) (at_ (bodyOf Tryz.f17) [1, 1, 1, 1, 1, 1, 0, 1]) 509 ⟨[(0, .pointer s108), (74, .bool b109)], 102, []⟩ w (unitQ T_conf_Store_Do_4_outs C) = T_conf_Store_Do_4 s108 b109 w (fun w => C .normal [] w) (fun ch w => C (.panic ch) [] w) := by kernel_rfl

theorem T_conf_Store_Do_4_ok : UnitOk Tryz.prog H_conf_Store_Do_4 (at_ (bodyOf Tryz.f17) [1, 1, 1, 1, 1, 1, 0, 1]) 509 := unit_ok (H := (hookAt [])) (by kernel_rfl) T_conf_Store_Do_4_hok fun l w C hk => by
    obtain ⟨v0, l_v0, rfl, k_v0, hk_v0⟩ := Kinds.cons_ hk
    obtain ⟨s108, rfl⟩ := kind_pointer k_v0
    obtain ⟨v1, l_v1, rfl, k_v1, hk_v1⟩ := Kinds.cons_ hk_v0
    obtain ⟨b109, rfl⟩ := kind_bool k_v1
    obtain rfl := Kinds.nil_ hk_v1
    exact T_conf_Store_Do_4_eq C s108 b109 w

def T_conf_Store_Do (s1 : Option Addr) (x2 : Int) (x3 : Int) (x4 : Int) (x5 : Int) (s6 : ByteArray) (s7 : ByteArray) (s8 : ByteArray) (s9a : Option Addr) (s9l : Nat) (s9c : Nat) (w : World) (R : Ending → World → Prop) : Prop :=
  let w10 : World := w.alloc (.cells #[.int .i64 x2, .int .i64 x3, .int .i64 x4, .int .i64 x5, .string s6, .string s7, .string s8, .slice s9a s9l s9c] 42)
  let w11 : World := w10.alloc (.cells #[.int .i64 0, .int .i64 0] 45)
  if s1.isNone = true then ((.agg #[.int .i64 1, .int .i64 0] : Value).cells.size = 2 ∧ wrOk w11 (⟨w10.heap.size, 0, none⟩ : Addr) (.agg #[.int .i64 1, .int .i64 0]) ∧ let w12 : World := wr w11 (⟨w10.heap.size, 0, none⟩ : Addr) (.agg #[.int .i64 1, .int .i64 0])
  ∃ x13 : Int, ∃ x14 : Int, rd w12 (⟨w10.heap.size, 0, none⟩ : Addr) (.agg #[.int .i64 x13, .int .i64 x14]) ∧ R (.returned (.agg #[.int .i64 x13, .int .i64 x14])) w12) else (∃ x15 : Int, ∃ x16 : Int, ∃ x17 : Int, ∃ x18 : Int, ∃ s19 : ByteArray, ∃ s20 : ByteArray, ∃ s21 : ByteArray, ∃ s22a : Option Addr, ∃ s22l : Nat, ∃ s22c : Nat, rd w11 (⟨w.heap.size, 0, none⟩ : Addr) (.agg #[.int .i64 x15, .int .i64 x16, .int .i64 x17, .int .i64 x18, .string s19, .string s20, .string s21, .slice s22a s22l s22c]) ∧ Calls Tryz.prog 23 #[.agg #[.int .i64 x15, .int .i64 x16, .int .i64 x17, .int .i64 x18, .string s19, .string s20, .string s21, .slice s22a s22l s22c]] w11 (ret (fun r23 w24 => ∃ x25 : Int, r23 = .int .i64 x25 ∧ if ((x25 : Int) != 0) = true then (∃ a26, s1 = some a26 ∧ ∃ x27 : Int, rd w24 a26 (.int .i64 x27) ∧ (.agg #[.int .i64 x25, .int .i64 x27] : Value).cells.size = 2 ∧ wrOk w24 (⟨w10.heap.size, 0, none⟩ : Addr) (.agg #[.int .i64 x25, .int .i64 x27]) ∧ let w28 : World := wr w24 (⟨w10.heap.size, 0, none⟩ : Addr) (.agg #[.int .i64 x25, .int .i64 x27])
  ∃ x29 : Int, ∃ x30 : Int, rd w28 (⟨w10.heap.size, 0, none⟩ : Addr) (.agg #[.int .i64 x29, .int .i64 x30]) ∧ R (.returned (.agg #[.int .i64 x29, .int .i64 x30])) w28) else (∃ x31 : Int, rd w24 ((⟨w.heap.size, 0, none⟩ : Addr).add 1) (.int .i64 x31) ∧ T_conf_Store_Do_1 s1 (⟨w.heap.size, 0, none⟩ : Addr) (⟨w10.heap.size, 0, none⟩ : Addr) (decide ((x31 : Int) > 0)) w24 (fun w74 => T_conf_Store_Do_2 s1 (⟨w.heap.size, 0, none⟩ : Addr) 12 w74 (fun e106 w107 => T_conf_Store_Do_4 s1 ((e106 : Int) == 0) w107 (fun w114 => ∃ a115, s1 = some a115 ∧ ∃ x116 : Int, rd w114 a115 (.int .i64 x116) ∧ let w117 : World := w114.alloc (.cells #[.int .i64 0, .int .i64 0] 45)
  (.agg #[.int .i64 e106, .int .i64 x116] : Value).cells.size = 2 ∧ wrOk w117 (⟨w114.heap.size, 0, none⟩ : Addr) (.agg #[.int .i64 e106, .int .i64 x116]) ∧ let w118 : World := wr w117 (⟨w114.heap.size, 0, none⟩ : Addr) (.agg #[.int .i64 e106, .int .i64 x116])
  ∃ x119 : Int, rd w118 ((⟨w.heap.size, 0, none⟩ : Addr).add 1) (.int .i64 x119) ∧ if (decide ((x119 : Int) > 0)) = true then (let w120 : World := w118.drew
  ∃ a121, s1 = some a121 ∧ ∃ m122 : Option Nat, rd w120 (a121.add 3) (.map m122) ∧ ∃ x123 : Int, rd w120 ((⟨w.heap.size, 0, none⟩ : Addr).add 1) (.int .i64 x123) ∧ ∃ x124 : Int, rd w120 ((⟨w.heap.size, 0, none⟩ : Addr).add 2) (.int .i64 x124) ∧ ∃ x125 : Int, ∃ x126 : Int, rd w120 (⟨w114.heap.size, 0, none⟩ : Addr) (.agg #[.int .i64 x125, .int .i64 x126]) ∧ runV Tryz.prog (Instr.mapUpdate 77 (.map m122) (.int .i64 x123) (.agg #[.int .i64 x124, .int .i64 x125, .int .i64 x126])) w120 (fun _ w127 => (True) ∧ ∃ x128 : Int, ∃ x129 : Int, rd w127 (⟨w114.heap.size, 0, none⟩ : Addr) (.agg #[.int .i64 x128, .int .i64 x129]) ∧ (.agg #[.int .i64 x128, .int .i64 x129] : Value).cells.size = 2 ∧ wrOk w127 (⟨w10.heap.size, 0, none⟩ : Addr) (.agg #[.int .i64 x128, .int .i64 x129]) ∧ let w130 : World := wr w127 (⟨w10.heap.size, 0, none⟩ : Addr) (.agg #[.int .i64 x128, .int .i64 x129])
  ∃ x131 : Int, ∃ x132 : Int, rd w130 (⟨w10.heap.size, 0, none⟩ : Addr) (.agg #[.int .i64 x131, .int .i64 x132]) ∧ R (.returned (.agg #[.int .i64 x131, .int .i64 x132])) w130) (pan R)) else (∃ x133 : Int, ∃ x134 : Int, rd w118 (⟨w114.heap.size, 0, none⟩ : Addr) (.agg #[.int .i64 x133, .int .i64 x134]) ∧ (.agg #[.int .i64 x133, .int .i64 x134] : Value).cells.size = 2 ∧ wrOk w118 (⟨w10.heap.size, 0, none⟩ : Addr) (.agg #[.int .i64 x133, .int .i64 x134]) ∧ let w135 : World := wr w118 (⟨w10.heap.size, 0, none⟩ : Addr) (.agg #[.int .i64 x133, .int .i64 x134])
  ∃ x136 : Int, ∃ x137 : Int, rd w135 (⟨w10.heap.size, 0, none⟩ : Addr) (.agg #[.int .i64 x136, .int .i64 x137]) ∧ R (.returned (.agg #[.int .i64 x136, .int .i64 x137])) w135)) (pan R)) (pan R)) (fun w138 => ∃ x139 : Int, ∃ x140 : Int, rd w138 (⟨w10.heap.size, 0, none⟩ : Addr) (.agg #[.int .i64 x139, .int .i64 x140]) ∧ R (.returned (.agg #[.int .i64 x139, .int .i64 x140])) w138) (pan R))) (pan R)))

theorem T_conf_Store_Do_hl : allP (hokL Tryz.prog (hookAt [(61, H_conf_Store_Do_1), (126, H_conf_Store_Do_2), (509, H_conf_Store_Do_4)]) (bodyOf Tryz.f17) 1) = (UnitOk Tryz.prog H_conf_Store_Do_1 (at_ (bodyOf Tryz.f17) [1, 1, 1, 0, 1]) 61 ∧ UnitOk Tryz.prog H_conf_Store_Do_2 (at_ (bodyOf Tryz.f17) [1, 1, 1, 1, 1, 0]) 126 ∧ UnitOk Tryz.prog H_conf_Store_Do_4 (at_ (bodyOf Tryz.f17) [1, 1, 1, 1, 1, 1, 0, 1]) 509 ∧ True) := by kernel_rfl

theorem T_conf_Store_Do_eq (s1 : Option Addr) (x2 : Int) (x3 : Int) (x4 : Int) (x5 : Int) (s6 : ByteArray) (s7 : ByteArray) (s8 : ByteArray) (s9a : Option Addr) (s9l : Nat) (s9c : Nat) (w : World) (R : Ending → World → Prop) : vcCode Tryz.prog (hookAt [(61, H_conf_Store_Do_1), (126, H_conf_Store_Do_2), (509, H_conf_Store_Do_4)]) (bodyOf Tryz.f17) 1 ⟨argEnv [.pointer s1, .agg #[.int .i64 x2, .int .i64 x3, .int .i64 x4, .int .i64 x5, .string s6, .string s7, .string s8, .slice s9a s9l s9c]] 0, Tryz.f17.ntmps, []⟩ w (finQ Tryz.prog Tryz.f17.results.toList R) = T_conf_Store_Do s1 x2 x3 x4 x5 s6 s7 s8 s9a s9l s9c w R := by kernel_rfl

theorem T_conf_Store_Do_b : Tryz.f17.body = some (bodyOf Tryz.f17) := by kernel_rfl
theorem T_conf_Store_Do_s : (quietSel (bodyOf Tryz.f17) && Nat.ble 2 Tryz.f17.ntmps) = true := by kernel_rfl

theorem C_conf_Store_Do {s1 : Option Addr} {x2 : Int} {x3 : Int} {x4 : Int} {x5 : Int} {s6 : ByteArray} {s7 : ByteArray} {s8 : ByteArray} {s9a : Option Addr} {s9l : Nat} {s9c : Nat} {w : World} {R : Ending → World → Prop} (h : T_conf_Store_Do s1 x2 x3 x4 x5 s6 s7 s8 s9a s9l s9c w R) : Calls Tryz.prog 17 #[.pointer s1, .agg #[.int .i64 x2, .int .i64 x3, .int .i64 x4, .int .i64 x5, .string s6, .string s7, .string s8, .slice s9a s9l s9c]] w R :=
  calls_of_text (args := [.pointer s1, .agg #[.int .i64 x2, .int .i64 x3, .int .i64 x4, .int .i64 x5, .string s6, .string s7, .string s8, .slice s9a s9l s9c]]) mixed Tryz.func17 T_conf_Store_Do_b T_conf_Store_Do_s (HOk_of _ _ (by rw [T_conf_Store_Do_hl]; exact ⟨T_conf_Store_Do_1_ok, T_conf_Store_Do_2_ok, T_conf_Store_Do_4_ok, trivial⟩)) (by rw [T_conf_Store_Do_eq]; exact h)

/-! (*tollgate/conf.Store).Seen -/
def T_conf_Store_Seen (s1 : Option Addr) (client2 : Int) (w : World) (R : Ending → World → Prop) : Prop :=
  let w3 : World := w.alloc (.cells #[.int .i64 0, .int .i64 0] 45)
  if s1.isNone = true then ((.agg #[.int .i64 0, .int .i64 0] : Value).cells.size = 2 ∧ wrOk w3 (⟨w.heap.size, 0, none⟩ : Addr) (.agg #[.int .i64 0, .int .i64 0]) ∧ let w4 : World := wr w3 (⟨w.heap.size, 0, none⟩ : Addr) (.agg #[.int .i64 0, .int .i64 0])
  ∃ x5 : Int, ∃ x6 : Int, rd w4 (⟨w.heap.size, 0, none⟩ : Addr) (.agg #[.int .i64 x5, .int .i64 x6]) ∧ R (.returned (.tuple #[.int .i64 0, .agg #[.int .i64 x5, .int .i64 x6]])) w4) else (∃ a7, s1 = some a7 ∧ ∃ m8 : Option Nat, rd w3 (a7.add 3) (.map m8) ∧ runV Tryz.prog (Instr.lookup 77 (.map m8) (.int .i64 client2) false) w3 (fun r9 w10 => ∃ x11 : Int, ∃ x12 : Int, ∃ x13 : Int, r9 = .agg #[.int .i64 x11, .int .i64 x12, .int .i64 x13] ∧ let w14 : World := w10.alloc (.cells #[.int .i64 0, .int .i64 0, .int .i64 0] 91)
  (.agg #[.int .i64 x11, .int .i64 x12, .int .i64 x13] : Value).cells.size = 3 ∧ wrOk w14 (⟨w10.heap.size, 0, none⟩ : Addr) (.agg #[.int .i64 x11, .int .i64 x12, .int .i64 x13]) ∧ let w15 : World := wr w14 (⟨w10.heap.size, 0, none⟩ : Addr) (.agg #[.int .i64 x11, .int .i64 x12, .int .i64 x13])
  let w16 : World := w15.drew
  ∃ x17 : Int, rd w16 (⟨w10.heap.size, 0, none⟩ : Addr) (.int .i64 x17) ∧ ∃ x18 : Int, ∃ x19 : Int, rd w16 ((⟨w10.heap.size, 0, none⟩ : Addr).add 1) (.agg #[.int .i64 x18, .int .i64 x19]) ∧ (.agg #[.int .i64 x18, .int .i64 x19] : Value).cells.size = 2 ∧ wrOk w16 (⟨w.heap.size, 0, none⟩ : Addr) (.agg #[.int .i64 x18, .int .i64 x19]) ∧ let w20 : World := wr w16 (⟨w.heap.size, 0, none⟩ : Addr) (.agg #[.int .i64 x18, .int .i64 x19])
  (True) ∧ ∃ x21 : Int, ∃ x22 : Int, rd w20 (⟨w.heap.size, 0, none⟩ : Addr) (.agg #[.int .i64 x21, .int .i64 x22]) ∧ R (.returned (.tuple #[.int .i64 x17, .agg #[.int .i64 x21, .int .i64 x22]])) w20) (pan R))

theorem T_conf_Store_Seen_hl : allP (hokL Tryz.prog (hookAt []) (bodyOf Tryz.f24) 1) = (True) := by kernel_rfl

theorem T_conf_Store_Seen_eq (s1 : Option Addr) (client2 : Int) (w : World) (R : Ending → World → Prop) : vcCode Tryz.prog (hookAt []) (bodyOf Tryz.f24) 1 ⟨argEnv [.pointer s1, .int .i64 client2] 0, Tryz.f24.ntmps, []⟩ w (finQ Tryz.prog Tryz.f24.results.toList R) = T_conf_Store_Seen s1 client2 w R := by kernel_rfl

theorem T_conf_Store_Seen_b : Tryz.f24.body = some (bodyOf Tryz.f24) := by kernel_rfl
theorem T_conf_Store_Seen_s : (quietSel (bodyOf Tryz.f24) && Nat.ble 2 Tryz.f24.ntmps) = true := by kernel_rfl

theorem C_conf_Store_Seen {s1 : Option Addr} {client2 : Int} {w : World} {R : Ending → World → Prop} (h : T_conf_Store_Seen s1 client2 w R) : Calls Tryz.prog 24 #[.pointer s1, .int .i64 client2] w R :=
  calls_of_text (args := [.pointer s1, .int .i64 client2]) mixed Tryz.func24 T_conf_Store_Seen_b T_conf_Store_Seen_s (HOk_of _ _ (by rw [T_conf_Store_Seen_hl]; exact trivial)) (by rw [T_conf_Store_Seen_eq]; exact h)

/-! (*tollgate/conf.Store).Put -/
def T_conf_Store_Put_1_body (X : Option Addr → Nat → Nat → Int → World → Prop) (b27a : Option Addr) (b27l : Nat) (b27c : Nat) (x28 : Int) (s29 : Option Addr) (s30a : Option Addr) (s30l : Nat) (s30c : Nat) (x31 : Int) (w : World) (Kn : Option Addr → Nat → Nat → World → Prop) (Kp : List PanicEntry → World → Prop)  : Prop :=
  if (decide ((x28 : Int) < x31)) = true then (0 ≤ (x28 : Int) ∧ (x28 : Int) < ((s30l : Nat) : Int) ∧ ∃ b32, s30a = some b32 ∧ ∃ x33 : Int, rd w (b32.add ((x28 : Int).toNat * 1)) (.int .i64 x33) ∧ ∃ a34, s29 = some a34 ∧ ∃ m35 : Option Nat, rd w (a34.add 3) (.map m35) ∧ runV Tryz.prog (Instr.lookup 77 (.map m35) (.int .i64 x33) false) w (fun r36 w37 => ∃ x38 : Int, ∃ x39 : Int, ∃ x40 : Int, r36 = .agg #[.int .i64 x38, .int .i64 x39, .int .i64 x40] ∧ let w41 : World := w37.alloc (.cells #[.int .i64 0, .int .i64 0, .int .i64 0] 91)
  (.agg #[.int .i64 x38, .int .i64 x39, .int .i64 x40] : Value).cells.size = 3 ∧ wrOk w41 (⟨w37.heap.size, 0, none⟩ : Addr) (.agg #[.int .i64 x38, .int .i64 x39, .int .i64 x40]) ∧ let w42 : World := wr w41 (⟨w37.heap.size, 0, none⟩ : Addr) (.agg #[.int .i64 x38, .int .i64 x39, .int .i64 x40])
  let w43 : World := w42.drew
  ∃ x44 : Int, rd w43 (⟨w37.heap.size, 0, none⟩ : Addr) (.int .i64 x44) ∧ ∃ x45 : Int, rd w43 ((⟨w37.heap.size, 0, none⟩ : Addr).add 1) (.int .i64 x45) ∧ ∃ x46 : Int, rd w43 (((⟨w37.heap.size, 0, none⟩ : Addr).add 1).add 1) (.int .i64 x46) ∧ Calls Tryz.prog 49 #[.slice b27a b27l b27c, .int .i64 x33] w43 (ret (fun r47 w48 => ∃ s49a : Option Addr, ∃ s49l : Nat, ∃ s49c : Nat, r47 = .slice s49a s49l s49c ∧ (rd w48 (((⟨w37.heap.size, 0, none⟩ : Addr).add 1).add 1) (.int .i64 x46) ∧ rd w48 ((⟨w37.heap.size, 0, none⟩ : Addr).add 1) (.int .i64 x45) ∧ rd w48 (⟨w37.heap.size, 0, none⟩ : Addr) (.int .i64 x44) ∧ True) ∧ Calls Tryz.prog 49 #[.slice s49a s49l s49c, .int .i64 x44] w48 (ret (fun r50 w51 => ∃ s52a : Option Addr, ∃ s52l : Nat, ∃ s52c : Nat, r50 = .slice s52a s52l s52c ∧ (rd w51 (((⟨w37.heap.size, 0, none⟩ : Addr).add 1).add 1) (.int .i64 x46) ∧ rd w51 ((⟨w37.heap.size, 0, none⟩ : Addr).add 1) (.int .i64 x45) ∧ True) ∧ Calls Tryz.prog 49 #[.slice s52a s52l s52c, .int .i64 x45] w51 (ret (fun r53 w54 => ∃ s55a : Option Addr, ∃ s55l : Nat, ∃ s55c : Nat, r53 = .slice s55a s55l s55c ∧ (rd w54 (((⟨w37.heap.size, 0, none⟩ : Addr).add 1).add 1) (.int .i64 x46) ∧ True) ∧ Calls Tryz.prog 49 #[.slice s55a s55l s55c, .int .i64 x46] w54 (ret (fun r56 w57 => ∃ s58a : Option Addr, ∃ s58l : Nat, ∃ s58c : Nat, r56 = .slice s58a s58l s58c ∧ (True) ∧ X s58a s58l s58c (IntKind.wrap .i64 ((x28 : Int) + 1)) w57) Kp)) Kp)) Kp)) Kp)) Kp) else (Kn b27a b27l b27c w)

def T_conf_Store_Put_1 (b27a : Option Addr) (b27l : Nat) (b27c : Nat) (x28 : Int) (s29 : Option Addr) (s30a : Option Addr) (s30l : Nat) (s30c : Nat) (x31 : Int) (w : World) (Kn : Option Addr → Nat → Nat → World → Prop) (Kp : List PanicEntry → World → Prop) : Prop :=
  ∀ X : Option Addr → Nat → Nat → Int → World → Prop, (∀ (b27a : Option Addr) (b27l : Nat) (b27c : Nat) (x28 : Int) (w : World), T_conf_Store_Put_1_body X b27a b27l b27c x28 s29 s30a s30l s30c x31 w Kn Kp → X b27a b27l b27c x28 w) → X b27a b27l b27c x28 w

def T_conf_Store_Put_1_outs : Exit → Option (List (Nat × Value)) := fun x => match x with | .normal => some [(3, .slice none 0 0)] | .panic _ => some [] | _ => none

def T_conf_Store_Put_1_ks : Nat → Bool := ksOf [3, 5, 6, 29, 30, 31, 32, 33, 34, 35, 36, 37, 38, 39, 40, 41, 42, 43, 44, 45, 46, 47, 48, 49, 50, 51, 52, 53]

def H_conf_Store_Put_1 : Env → World → QT → Prop := unitHook 55 T_conf_Store_Put_1_ks [(3, .slice none 0 0), (29, .int .i64 0), (0, .pointer none), (27, .slice none 0 0), (28, .int .i64 0)] T_conf_Store_Put_1_outs fun l w C => match l with | [v0, v1, v2, v3, v4] => T_conf_Store_Put_1 (pA v0) (pL v0) (pC v0) (pInt v1) (pPtr v2) (pA v3) (pL v3) (pC v3) (pInt v4) w (fun b60a b60l b60c w => C .normal [.slice b60a b60l b60c] w) (fun ch w => C (.panic ch) [] w) | _ => False

theorem T_conf_Store_Put_1_hl : allP (hokL Tryz.prog (hookAt []) (at_ (bodyOf Tryz.f25) [1, 1, 1, 0, 1, 0, 0]) 244) = (True) := by kernel_rfl
theorem T_conf_Store_Put_1_hok : HOk Tryz.prog (hookAt []) (at_ (bodyOf Tryz.f25) [1, 1, 1, 0, 1, 0, 0]) 244 := HOk_of _ _ (by rw [T_conf_Store_Put_1_hl]; exact trivial)

theorem T_conf_Store_Put_1_eq (C : Conts) (X : List Value → World → Prop) (b27a : Option Addr) (b27l : Nat) (b27c : Nat) (x28 : Int) (s29 : Option Addr) (s30a : Option Addr) (s30l : Nat) (s30c : Nat) (x31 : Int) (w : World) : vcCode Tryz.prog (hookAt []) (at_ (bodyOf Tryz.f25) [1, 1, 1, 0, 1, 0, 0]) 244 ⟨[(3, .slice b27a b27l b27c), (29, .int .i64 x28)] ++ [(0, .pointer s29), (27, .slice s30a s30l s30c), (28, .int .i64 x31)], 55, []⟩ w (seqQ (fun e w => takeAll e [(3, .slice none 0 0), (29, .int .i64 0)] fun l => X l w) (blockQ 0 (unitQ T_conf_Store_Put_1_outs C))) = T_conf_Store_Put_1_body (fun b27a b27l b27c x28 w => X [.slice b27a b27l b27c, .int .i64 x28] w) b27a b27l b27c x28 s29 s30a s30l s30c x31 w (fun b61a b61l b61c w => C .normal [.slice b61a b61l b61c] w) (fun ch w => C (.panic ch) [] w) := by kernel_rfl

theorem T_conf_Store_Put_1_ok : UnitOk Tryz.prog H_conf_Store_Put_1 (at_ (bodyOf Tryz.f25) [1, 1, 1, 0, 1]) 61 := by
  have hc : at_ (bodyOf Tryz.f25) [1, 1, 1, 0, 1] = .block 0 (.loop (at_ (bodyOf Tryz.f25) [1, 1, 1, 0, 1, 0, 0])) := by kernel_rfl
  rw [hc]
  refine loop_unit_ok (carr := [(3, .slice none 0 0), (29, .int .i64 0)]) (fix := [(0, .pointer none), (27, .slice none 0 0), (28, .int .i64 0)]) (ks := T_conf_Store_Put_1_ks) (H := (hookAt [])) (B := fun C X l u w => match l, u with | [v0, v1], [v2, v3, v4] => T_conf_Store_Put_1_body (fun b27a b27l b27c x28 w => X [.slice b27a b27l b27c, .int .i64 x28] w) (pA v0) (pL v0) (pC v0) (pInt v1) (pPtr v2) (pA v3) (pL v3) (pC v3) (pInt v4) w (fun b62a b62l b62c w => C .normal [.slice b62a b62l b62c] w) (fun ch w => C (.panic ch) [] w) | _, _ => False) (by kernel_rfl) (by kernel_rfl) T_conf_Store_Put_1_hok ?_ ?_
  · intro C X l u w hl hu
    obtain ⟨v0, l_v0, rfl, k_v0, hl_v0⟩ := Kinds.cons_ hl
    obtain ⟨b27a, b27l, b27c, rfl⟩ := kind_slice k_v0
    obtain ⟨v1, l_v1, rfl, k_v1, hl_v1⟩ := Kinds.cons_ hl_v0
    obtain ⟨x28, rfl⟩ := kind_int k_v1
    obtain rfl := Kinds.nil_ hl_v1
    obtain ⟨v2, l_v2, rfl, k_v2, hu_v2⟩ := Kinds.cons_ hu
    obtain ⟨s29, rfl⟩ := kind_pointer k_v2
    obtain ⟨v3, l_v3, rfl, k_v3, hu_v3⟩ := Kinds.cons_ hu_v2
    obtain ⟨s30a, s30l, s30c, rfl⟩ := kind_slice k_v3
    obtain ⟨v4, l_v4, rfl, k_v4, hu_v4⟩ := Kinds.cons_ hu_v3
    obtain ⟨x31, rfl⟩ := kind_int k_v4
    obtain rfl := Kinds.nil_ hu_v4
    exact T_conf_Store_Put_1_eq C X b27a b27l b27c x28 s29 s30a s30l s30c x31 w
  · intro l u w C hl hu
    obtain ⟨v0, l_v0, rfl, k_v0, hl_v0⟩ := Kinds.cons_ hl
    obtain ⟨b27a, b27l, b27c, rfl⟩ := kind_slice k_v0
    obtain ⟨v1, l_v1, rfl, k_v1, hl_v1⟩ := Kinds.cons_ hl_v0
    obtain ⟨x28, rfl⟩ := kind_int k_v1
    obtain rfl := Kinds.nil_ hl_v1
    obtain ⟨v2, l_v2, rfl, k_v2, hu_v2⟩ := Kinds.cons_ hu
    obtain ⟨s29, rfl⟩ := kind_pointer k_v2
    obtain ⟨v3, l_v3, rfl, k_v3, hu_v3⟩ := Kinds.cons_ hu_v2
    obtain ⟨s30a, s30l, s30c, rfl⟩ := kind_slice k_v3
    obtain ⟨v4, l_v4, rfl, k_v4, hu_v4⟩ := Kinds.cons_ hu_v3
    obtain ⟨x31, rfl⟩ := kind_int k_v4
    obtain rfl := Kinds.nil_ hu_v4
    constructor
    · intro h X hX
      exact h (fun b27a b27l b27c x28 w => X [.slice b27a b27l b27c, .int .i64 x28] w) (fun b27a b27l b27c x28 w hb => hX [.slice b27a b27l b27c, .int .i64 x28] w ⟨rfl, rfl, trivial⟩ hb)
    · intro h X hX
      exact h (fun l w => match l with | [v0, v1] => X (pA v0) (pL v0) (pC v0) (pInt v1) w | _ => True) (fun l w hl hb => by
        obtain ⟨v0, l_v0, rfl, k_v0, hl_v0⟩ := Kinds.cons_ hl
        obtain ⟨b27a, b27l, b27c, rfl⟩ := kind_slice k_v0
        obtain ⟨v1, l_v1, rfl, k_v1, hl_v1⟩ := Kinds.cons_ hl_v0
        obtain ⟨x28, rfl⟩ := kind_int k_v1
        obtain rfl := Kinds.nil_ hl_v1
        exact hX b27a b27l b27c x28 w hb)

def T_conf_Store_Put (s1 : Option Addr) (w : World) (R : Ending → World → Prop) : Prop :=
  if s1.isNone = true then (R (.returned (.slice none 0 0)) w) else (let w2 : World := w.drew
  ∃ a3, s1 = some a3 ∧ ∃ x4 : Int, rd w2 a3 (.int .i64 x4) ∧ ∃ a5, s1 = some a5 ∧ ∃ m6 : Option Nat, rd w2 (a5.add 3) (.map m6) ∧ Calls Tryz.prog 49 #[.slice none 0 0, .int .i64 x4] w2 (ret (fun r7 w8 => ∃ s9a : Option Addr, ∃ s9l : Nat, ∃ s9c : Nat, r7 = .slice s9a s9l s9c ∧ (rd w8 (a5.add 3) (.map m6) ∧ True) ∧ Calls Tryz.prog 50 #[.pointer s1, .slice s9a s9l s9c] w8 (ret (fun r10 w11 => ∃ s12a : Option Addr, ∃ s12l : Nat, ∃ s12c : Nat, r10 = .slice s12a s12l s12c ∧ (rd w11 (a5.add 3) (.map m6) ∧ True) ∧ runV Tryz.prog (Builtin.len_ #[77] 3 #[.map m6]) w11 (fun r13 w14 => ∃ x15 : Int, r13 = .int .i64 x15 ∧ (True) ∧ Calls Tryz.prog 49 #[.slice s12a s12l s12c, .int .i64 x15] w14 (ret (fun r16 w17 => ∃ s18a : Option Addr, ∃ s18l : Nat, ∃ s18c : Nat, r16 = .slice s18a s18l s18c ∧ (True) ∧ ∃ a19, s1 = some a19 ∧ ∃ m20 : Option Nat, rd w17 (a19.add 3) (.map m20) ∧ Calls Tryz.prog 52 #[.map m20] w17 (ret (fun r21 w22 => ∃ u23 : Value, one u23 = true ∧ r21 = u23 ∧ Calls Tryz.prog 51 #[u23] w22 (ret (fun r24 w25 => ∃ s26a : Option Addr, ∃ s26l : Nat, ∃ s26c : Nat, r24 = .slice s26a s26l s26c ∧ T_conf_Store_Put_1 s18a s18l s18c 0 s1 s26a s26l s26c ((s26l : Nat) : Int) w25 (fun b63a b63l b63c w64 => R (.returned (.slice b63a b63l b63c)) w64) (pan R)) (pan R))) (pan R))) (pan R))) (pan R)) (pan R))) (pan R)))

theorem T_conf_Store_Put_hl : allP (hokL Tryz.prog (hookAt [(61, H_conf_Store_Put_1)]) (bodyOf Tryz.f25) 1) = (UnitOk Tryz.prog H_conf_Store_Put_1 (at_ (bodyOf Tryz.f25) [1, 1, 1, 0, 1]) 61 ∧ True) := by kernel_rfl

theorem T_conf_Store_Put_eq (s1 : Option Addr) (w : World) (R : Ending → World → Prop) : vcCode Tryz.prog (hookAt [(61, H_conf_Store_Put_1)]) (bodyOf Tryz.f25) 1 ⟨argEnv [.pointer s1] 0, Tryz.f25.ntmps, []⟩ w (finQ Tryz.prog Tryz.f25.results.toList R) = T_conf_Store_Put s1 w R := by kernel_rfl

theorem T_conf_Store_Put_b : Tryz.f25.body = some (bodyOf Tryz.f25) := by kernel_rfl
theorem T_conf_Store_Put_s : (quietSel (bodyOf Tryz.f25) && Nat.ble 1 Tryz.f25.ntmps) = true := by kernel_rfl

theorem C_conf_Store_Put {s1 : Option Addr} {w : World} {R : Ending → World → Prop} (h : T_conf_Store_Put s1 w R) : Calls Tryz.prog 25 #[.pointer s1] w R :=
  calls_of_text (args := [.pointer s1]) mixed Tryz.func25 T_conf_Store_Put_b T_conf_Store_Put_s (HOk_of _ _ (by rw [T_conf_Store_Put_hl]; exact ⟨T_conf_Store_Put_1_ok, trivial⟩)) (by rw [T_conf_Store_Put_eq]; exact h)

/-! tollgate/tollgatelaw08.same -/
def T_law08_same_1 (s3 : Option Addr) (r4 : Option Addr) (w : World) (Kn : Bool → World → Prop) (Kp : List PanicEntry → World → Prop) : Prop :=
  let w5 : World := w.drew
  Calls Tryz.prog 14 #[.pointer s3] w5 (ret (fun r6 w7 => ∃ x8 : Int, ∃ s9a : Option Addr, ∃ s9l : Nat, ∃ s9c : Nat, ∃ s10a : Option Addr, ∃ s10l : Nat, ∃ s10c : Nat, r6 = .agg #[.int .i64 x8, .slice s9a s9l s9c, .slice s10a s10l s10c] ∧ (True) ∧ Calls Tryz.prog 53 #[.pointer r4] w7 (ret (fun r11 w12 => ∃ x13 : Int, ∃ s14a : Option Addr, ∃ s14l : Nat, ∃ s14c : Nat, ∃ s15a : Option Addr, ∃ s15l : Nat, ∃ s15c : Nat, r11 = .agg #[.int .i64 x13, .slice s14a s14l s14c, .slice s15a s15l s15c] ∧ (True) ∧ Calls Tryz.prog 20 #[.agg #[.int .i64 x8, .slice s9a s9l s9c, .slice s10a s10l s10c], .agg #[.int .i64 x13, .slice s14a s14l s14c, .slice s15a s15l s15c]] w12 (ret (fun r16 w17 => ∃ b18 : Bool, r16 = .bool b18 ∧ (True) ∧ if (!b18) = true then ((True) ∧ ((True) ∧ (True) ∧ (True) ∧ Kn true w17) ∧ ((True) ∧ ((True) ∧ (True) ∧ Kn true w17) ∧ ((True) ∧ (True) ∧ Kn true w17))) else (Calls Tryz.prog 25 #[.pointer s3] w17 (ret (fun r19 w20 => ∃ s21a : Option Addr, ∃ s21l : Nat, ∃ s21c : Nat, r19 = .slice s21a s21l s21c ∧ (True) ∧ (runV Tryz.prog (convert 56 9 (.slice s21a s21l s21c)) w20 (fun r22 w23 => ∃ s24 : ByteArray, r22 = .string s24 ∧ (True) ∧ Calls Tryz.prog 54 #[.pointer r4] w23 (ret (fun r25 w26 => ∃ s27a : Option Addr, ∃ s27l : Nat, ∃ s27c : Nat, r25 = .slice s27a s27l s27c ∧ (True) ∧ runV Tryz.prog (convert 56 9 (.slice s27a s27l s27c)) w26 (fun r28 w29 => ∃ s30 : ByteArray, r28 = .string s30 ∧ (True) ∧ Kn (!(s24.toList == s30.toList)) w29) Kp) Kp)) Kp) ∧ (Calls Tryz.prog 54 #[.pointer r4] w20 (ret (fun r31 w32 => ∃ s33a : Option Addr, ∃ s33l : Nat, ∃ s33c : Nat, r31 = .slice s33a s33l s33c ∧ (True) ∧ (runV Tryz.prog (convert 56 9 (.slice s21a s21l s21c)) w32 (fun r34 w35 => ∃ s36 : ByteArray, r34 = .string s36 ∧ (True) ∧ runV Tryz.prog (convert 56 9 (.slice s33a s33l s33c)) w35 (fun r37 w38 => ∃ s39 : ByteArray, r37 = .string s39 ∧ (True) ∧ Kn (!(s36.toList == s39.toList)) w38) Kp) Kp) ∧ (runV Tryz.prog (convert 56 9 (.slice s33a s33l s33c)) w32 (fun r40 w41 => ∃ s42 : ByteArray, r40 = .string s42 ∧ (True) ∧ runV Tryz.prog (convert 56 9 (.slice s21a s21l s21c)) w41 (fun r43 w44 => ∃ s45 : ByteArray, r43 = .string s45 ∧ (True) ∧ Kn (!(s45.toList == s42.toList)) w44) Kp) Kp)) Kp))) Kp))) Kp)) Kp)) Kp)

def T_law08_same_1_outs : Exit → Option (List (Nat × Value)) := fun x => match x with | .normal => some [(24, .bool false)] | .panic _ => some [] | _ => none

def T_law08_same_1_ks : Nat → Bool := ksOf [10, 11, 12, 13, 14, 15, 16, 17, 18, 19, 20, 21, 22, 23, 24]

def H_law08_same_1 : Env → World → QT → Prop := unitHook 49 T_law08_same_1_ks [(0, .pointer none), (1, .pointer none)] T_law08_same_1_outs fun l w C => match l with | [v0, v1] => T_law08_same_1 (pPtr v0) (pPtr v1) w (fun b47 w => C .normal [.bool b47] w) (fun ch w => C (.panic ch) [] w) | _ => False

theorem T_law08_same_1_hl : allP (hokL Tryz.prog (hookAt []) (at_ (bodyOf Tryz.f26) [1, 0, 0]) 12) = (True) := by kernel_rfl
theorem T_law08_same_1_hok : HOk Tryz.prog (hookAt []) (at_ (bodyOf Tryz.f26) [1, 0, 0]) 12 := HOk_of _ _ (by rw [T_law08_same_1_hl]; exact trivial)

theorem T_law08_same_1_eq (C : Conts) (s3 : Option Addr) (r4 : Option Addr) (w : World) : vcCode Tryz.prog (hookAt []) (at_ (bodyOf Tryz.f26) [1, 0, 0]) 12 ⟨[(0, .pointer s3), (1, .pointer r4)], 49, []⟩ w (unitQ T_law08_same_1_outs C) = T_law08_same_1 s3 r4 w (fun b48 w => C .normal [.bool b48] w) (fun ch w => C (.panic ch) [] w) := by kernel_rfl

theorem T_law08_same_1_ok : UnitOk Tryz.prog H_law08_same_1 (at_ (bodyOf Tryz.f26) [1, 0, 0]) 12 := unit_ok (H := (hookAt [])) (by kernel_rfl) T_law08_same_1_hok fun l w C hk => by
    obtain ⟨v0, l_v0, rfl, k_v0, hk_v0⟩ := Kinds.cons_ hk
    obtain ⟨s3, rfl⟩ := kind_pointer k_v0
    obtain ⟨v1, l_v1, rfl, k_v1, hk_v1⟩ := Kinds.cons_ hk_v0
    obtain ⟨r4, rfl⟩ := kind_pointer k_v1
    obtain rfl := Kinds.nil_ hk_v1
    exact T_law08_same_1_eq C s3 r4 w

def T_law08_same_2_body (X : Int → World → Prop) (k51 : Int) (s52 : Option Addr) (r53 : Option Addr) (w : World) (Kn : World → Prop) (Kr : Bool → World → Prop) (Kp : List PanicEntry → World → Prop)  : Prop :=
  if (decide ((k51 : Int) ≤ 33)) = true then (Calls Tryz.prog 24 #[.pointer s52, .int .i64 k51] w (ret (fun r54 w55 => ∃ x56 : Int, ∃ x57 : Int, ∃ x58 : Int, r54 = .tuple #[.int .i64 x56, .agg #[.int .i64 x57, .int .i64 x58]] ∧ let w59 : World := w55.alloc (.cells #[.int .i64 0, .int .i64 0] 45)
  (.agg #[.int .i64 x57, .int .i64 x58] : Value).cells.size = 2 ∧ wrOk w59 (⟨w55.heap.size, 0, none⟩ : Addr) (.agg #[.int .i64 x57, .int .i64 x58]) ∧ let w60 : World := wr w59 (⟨w55.heap.size, 0, none⟩ : Addr) (.agg #[.int .i64 x57, .int .i64 x58])
  Calls Tryz.prog 55 #[.pointer r53, .int .i64 k51] w60 (ret (fun r61 w62 => ∃ x63 : Int, ∃ x64 : Int, ∃ x65 : Int, r61 = .tuple #[.int .i64 x63, .agg #[.int .i64 x64, .int .i64 x65]] ∧ let w66 : World := w62.alloc (.cells #[.int .i64 0, .int .i64 0] 45)
  (.agg #[.int .i64 x64, .int .i64 x65] : Value).cells.size = 2 ∧ wrOk w66 (⟨w62.heap.size, 0, none⟩ : Addr) (.agg #[.int .i64 x64, .int .i64 x65]) ∧ let w67 : World := wr w66 (⟨w62.heap.size, 0, none⟩ : Addr) (.agg #[.int .i64 x64, .int .i64 x65])
  if ((x56 : Int) != x63) = true then (Kr false w67) else (∃ x68 : Int, ∃ x69 : Int, rd w67 (⟨w55.heap.size, 0, none⟩ : Addr) (.agg #[.int .i64 x68, .int .i64 x69]) ∧ ∃ x70 : Int, ∃ x71 : Int, rd w67 (⟨w62.heap.size, 0, none⟩ : Addr) (.agg #[.int .i64 x70, .int .i64 x71]) ∧ runV Tryz.prog (do eqGuard .neq 45 (.tmp 45) (.tmp 46) (.agg #[.int .i64 x68, .int .i64 x69]) (.agg #[.int .i64 x70, .int .i64 x71]); binOp .neq 45 (.agg #[.int .i64 x68, .int .i64 x69]) (.agg #[.int .i64 x70, .int .i64 x71])) w67 (fun r72 w73 => ∃ b74 : Bool, r72 = .bool b74 ∧ if b74 = true then (Kr false w73) else (X (IntKind.wrap .i64 ((k51 : Int) + 1)) w73)) Kp)) Kp)) Kp)) else (Kn  w)

def T_law08_same_2 (k51 : Int) (s52 : Option Addr) (r53 : Option Addr) (w : World) (Kn : World → Prop) (Kr : Bool → World → Prop) (Kp : List PanicEntry → World → Prop) : Prop :=
  ∀ X : Int → World → Prop, (∀ (k51 : Int) (w : World), T_law08_same_2_body X k51 s52 r53 w Kn Kr Kp → X k51 w) → X k51 w

def T_law08_same_2_outs : Exit → Option (List (Nat × Value)) := fun x => match x with | .normal => some [] | .ret => some [(4, .bool false)] | .panic _ => some [] | _ => none

def T_law08_same_2_ks : Nat → Bool := ksOf [4, 5, 6, 7, 8, 9, 25, 26, 27, 28, 29, 30, 31, 32, 33, 34, 35, 36, 37, 38, 39, 40, 41, 42, 43, 44, 45, 46, 47, 48]

def H_law08_same_2 : Env → World → QT → Prop := unitHook 49 T_law08_same_2_ks [(5, .int .i64 0), (0, .pointer none), (1, .pointer none)] T_law08_same_2_outs fun l w C => match l with | [v0, v1, v2] => T_law08_same_2 (pInt v0) (pPtr v1) (pPtr v2) w (fun w => C .normal [] w) (fun b76 w => C .ret [.bool b76] w) (fun ch w => C (.panic ch) [] w) | _ => False

theorem T_law08_same_2_hl : allP (hokL Tryz.prog (hookAt []) (at_ (bodyOf Tryz.f26) [1, 1, 0, 1, 0, 0]) 116) = (True) := by kernel_rfl
theorem T_law08_same_2_hok : HOk Tryz.prog (hookAt []) (at_ (bodyOf Tryz.f26) [1, 1, 0, 1, 0, 0]) 116 := HOk_of _ _ (by rw [T_law08_same_2_hl]; exact trivial)

theorem T_law08_same_2_eq (C : Conts) (X : List Value → World → Prop) (k51 : Int) (s52 : Option Addr) (r53 : Option Addr) (w : World) : vcCode Tryz.prog (hookAt []) (at_ (bodyOf Tryz.f26) [1, 1, 0, 1, 0, 0]) 116 ⟨[(5, .int .i64 k51)] ++ [(0, .pointer s52), (1, .pointer r53)], 49, []⟩ w (seqQ (fun e w => takeAll e [(5, .int .i64 0)] fun l => X l w) (blockQ 0 (unitQ T_law08_same_2_outs C))) = T_law08_same_2_body (fun k51 w => X [.int .i64 k51] w) k51 s52 r53 w (fun w => C .normal [] w) (fun b77 w => C .ret [.bool b77] w) (fun ch w => C (.panic ch) [] w) := by kernel_rfl

theorem T_law08_same_2_ok : UnitOk Tryz.prog H_law08_same_2 (at_ (bodyOf Tryz.f26) [1, 1, 0, 1]) 29 := by
  have hc : at_ (bodyOf Tryz.f26) [1, 1, 0, 1] = .block 0 (.loop (at_ (bodyOf Tryz.f26) [1, 1, 0, 1, 0, 0])) := by kernel_rfl
  rw [hc]
  refine loop_unit_ok (carr := [(5, .int .i64 0)]) (fix := [(0, .pointer none), (1, .pointer none)]) (ks := T_law08_same_2_ks) (H := (hookAt [])) (B := fun C X l u w => match l, u with | [v0], [v1, v2] => T_law08_same_2_body (fun k51 w => X [.int .i64 k51] w) (pInt v0) (pPtr v1) (pPtr v2) w (fun w => C .normal [] w) (fun b78 w => C .ret [.bool b78] w) (fun ch w => C (.panic ch) [] w) | _, _ => False) (by kernel_rfl) (by kernel_rfl) T_law08_same_2_hok ?_ ?_
  · intro C X l u w hl hu
    obtain ⟨v0, l_v0, rfl, k_v0, hl_v0⟩ := Kinds.cons_ hl
    obtain ⟨k51, rfl⟩ := kind_int k_v0
    obtain rfl := Kinds.nil_ hl_v0
    obtain ⟨v1, l_v1, rfl, k_v1, hu_v1⟩ := Kinds.cons_ hu
    obtain ⟨s52, rfl⟩ := kind_pointer k_v1
    obtain ⟨v2, l_v2, rfl, k_v2, hu_v2⟩ := Kinds.cons_ hu_v1
    obtain ⟨r53, rfl⟩ := kind_pointer k_v2
    obtain rfl := Kinds.nil_ hu_v2
    exact T_law08_same_2_eq C X k51 s52 r53 w
  · intro l u w C hl hu
    obtain ⟨v0, l_v0, rfl, k_v0, hl_v0⟩ := Kinds.cons_ hl
    obtain ⟨k51, rfl⟩ := kind_int k_v0
    obtain rfl := Kinds.nil_ hl_v0
    obtain ⟨v1, l_v1, rfl, k_v1, hu_v1⟩ := Kinds.cons_ hu
    obtain ⟨s52, rfl⟩ := kind_pointer k_v1
    obtain ⟨v2, l_v2, rfl, k_v2, hu_v2⟩ := Kinds.cons_ hu_v1
    obtain ⟨r53, rfl⟩ := kind_pointer k_v2
    obtain rfl := Kinds.nil_ hu_v2
    constructor
    · intro h X hX
      exact h (fun k51 w => X [.int .i64 k51] w) (fun k51 w hb => hX [.int .i64 k51] w ⟨rfl, trivial⟩ hb)
    · intro h X hX
      exact h (fun l w => match l with | [v0] => X (pInt v0) w | _ => True) (fun l w hl hb => by
        obtain ⟨v0, l_v0, rfl, k_v0, hl_v0⟩ := Kinds.cons_ hl
        obtain ⟨k51, rfl⟩ := kind_int k_v0
        obtain rfl := Kinds.nil_ hl_v0
        exact hX k51 w hb)

def T_law08_same (s1 : Option Addr) (r2 : Option Addr) (w : World) (R : Ending → World → Prop) : Prop :=
  T_law08_same_1 s1 r2 w (fun b49 w50 => if b49 = true then (R (.returned (.bool false)) w50) else (T_law08_same_2 (-1) s1 r2 w50 (fun w79 => R (.returned (.bool true)) w79) (fun b80 w81 => R (.returned (.bool b80)) w81) (pan R))) (pan R)

theorem T_law08_same_hl : allP (hokL Tryz.prog (hookAt [(12, H_law08_same_1), (29, H_law08_same_2)]) (bodyOf Tryz.f26) 1) = (UnitOk Tryz.prog H_law08_same_1 (at_ (bodyOf Tryz.f26) [1, 0, 0]) 12 ∧ UnitOk Tryz.prog H_law08_same_2 (at_ (bodyOf Tryz.f26) [1, 1, 0, 1]) 29 ∧ True) := by kernel_rfl

theorem T_law08_same_eq (s1 : Option Addr) (r2 : Option Addr) (w : World) (R : Ending → World → Prop) : vcCode Tryz.prog (hookAt [(12, H_law08_same_1), (29, H_law08_same_2)]) (bodyOf Tryz.f26) 1 ⟨argEnv [.pointer s1, .pointer r2] 0, Tryz.f26.ntmps, []⟩ w (finQ Tryz.prog Tryz.f26.results.toList R) = T_law08_same s1 r2 w R := by kernel_rfl

theorem T_law08_same_b : Tryz.f26.body = some (bodyOf Tryz.f26) := by kernel_rfl
theorem T_law08_same_s : (quietSel (bodyOf Tryz.f26) && Nat.ble 2 Tryz.f26.ntmps) = true := by kernel_rfl

theorem C_law08_same {s1 : Option Addr} {r2 : Option Addr} {w : World} {R : Ending → World → Prop} (h : T_law08_same s1 r2 w R) : Calls Tryz.prog 26 #[.pointer s1, .pointer r2] w R :=
  calls_of_text (args := [.pointer s1, .pointer r2]) mixed Tryz.func26 T_law08_same_b T_law08_same_s (HOk_of _ _ (by rw [T_law08_same_hl]; exact ⟨T_law08_same_1_ok, T_law08_same_2_ok, trivial⟩)) (by rw [T_law08_same_eq]; exact h)

/-! (*tollgate/conf.Store).Fork -/
def T_conf_Store_Fork (s1 : Option Addr) (w : World) (R : Ending → World → Prop) : Prop :=
  if s1.isNone = true then (R (.returned (.pointer none)) w) else (let w2 : World := w.drew
  ∃ a3, s1 = some a3 ∧ ∃ x4 : Int, rd w2 a3 (.int .i64 x4) ∧ ∃ a5, s1 = some a5 ∧ ∃ m6 : Option Nat, rd w2 (a5.add 1) (.map m6) ∧ ∃ a7, s1 = some a7 ∧ ∃ m8 : Option Nat, rd w2 (a7.add 2) (.map m8) ∧ ∃ a9, s1 = some a9 ∧ ∃ m10 : Option Nat, rd w2 (a9.add 3) (.map m10) ∧ Calls Tryz.prog 56 #[.map m6] w2 (ret (fun r11 w12 => ∃ m13 : Option Nat, r11 = .map m13 ∧ (rd w12 (a9.add 3) (.map m10) ∧ rd w12 (a7.add 2) (.map m8) ∧ rd w12 a3 (.int .i64 x4) ∧ True) ∧ Calls Tryz.prog 57 #[.map m8] w12 (ret (fun r14 w15 => ∃ m16 : Option Nat, r14 = .map m16 ∧ (rd w15 (a9.add 3) (.map m10) ∧ rd w15 a3 (.int .i64 x4) ∧ True) ∧ Calls Tryz.prog 58 #[.map m10] w15 (ret (fun r17 w18 => ∃ m19 : Option Nat, r17 = .map m19 ∧ (rd w18 a3 (.int .i64 x4) ∧ True) ∧ let w20 : World := w18.alloc (.cells #[.int .i64 x4, .map m13, .map m16, .map m19] 79)
  (True) ∧ R (.returned (.pointer (some (⟨w18.heap.size, 0, none⟩ : Addr)))) w20) (pan R))) (pan R))) (pan R)))

theorem T_conf_Store_Fork_hl : allP (hokL Tryz.prog (hookAt []) (bodyOf Tryz.f27) 1) = (True) := by kernel_rfl

theorem T_conf_Store_Fork_eq (s1 : Option Addr) (w : World) (R : Ending → World → Prop) : vcCode Tryz.prog (hookAt []) (bodyOf Tryz.f27) 1 ⟨argEnv [.pointer s1] 0, Tryz.f27.ntmps, []⟩ w (finQ Tryz.prog Tryz.f27.results.toList R) = T_conf_Store_Fork s1 w R := by kernel_rfl

theorem T_conf_Store_Fork_b : Tryz.f27.body = some (bodyOf Tryz.f27) := by kernel_rfl
theorem T_conf_Store_Fork_s : (quietSel (bodyOf Tryz.f27) && Nat.ble 1 Tryz.f27.ntmps) = true := by kernel_rfl

theorem C_conf_Store_Fork {s1 : Option Addr} {w : World} {R : Ending → World → Prop} (h : T_conf_Store_Fork s1 w R) : Calls Tryz.prog 27 #[.pointer s1] w R :=
  calls_of_text (args := [.pointer s1]) mixed Tryz.func27 T_conf_Store_Fork_b T_conf_Store_Fork_s (HOk_of _ _ (by rw [T_conf_Store_Fork_hl]; exact trivial)) (by rw [T_conf_Store_Fork_eq]; exact h)

/-! tollgate/conf.New -/
def T_conf_New  (w : World) (R : Ending → World → Prop) : Prop :=
  let w1 : World := w.alloc (.map #[] 0)
  let w2 : World := w1.alloc (.map #[] 0)
  let w3 : World := w2.alloc (.map #[] 0)
  let w4 : World := w3.alloc (.cells #[.int .i64 0, .map (some w.heap.size), .map (some w1.heap.size), .map (some w2.heap.size)] 79)
  R (.returned (.pointer (some (⟨w3.heap.size, 0, none⟩ : Addr)))) w4

theorem T_conf_New_hl : allP (hokL Tryz.prog (hookAt []) (bodyOf Tryz.f35) 1) = (True) := by kernel_rfl

theorem T_conf_New_eq  (w : World) (R : Ending → World → Prop) : vcCode Tryz.prog (hookAt []) (bodyOf Tryz.f35) 1 ⟨argEnv [] 0, Tryz.f35.ntmps, []⟩ w (finQ Tryz.prog Tryz.f35.results.toList R) = T_conf_New  w R := by kernel_rfl

theorem T_conf_New_b : Tryz.f35.body = some (bodyOf Tryz.f35) := by kernel_rfl
theorem T_conf_New_s : (quietSel (bodyOf Tryz.f35) && Nat.ble 0 Tryz.f35.ntmps) = true := by kernel_rfl

theorem C_conf_New  {w : World} {R : Ending → World → Prop} (h : T_conf_New  w R) : Calls Tryz.prog 35 #[] w R :=
  calls_of_text (args := []) mixed Tryz.func35 T_conf_New_b T_conf_New_s (HOk_of _ _ (by rw [T_conf_New_hl]; exact trivial)) (by rw [T_conf_New_eq]; exact h)

/-! slices.Sorted[string] -/
def T_slices_Sorted_string (seq1g : FuncId) (seq1i : Array Value) (seq1c : Array Value) (w : World) (R : Ending → World → Prop) : Prop :=
  Calls Tryz.prog 73 #[.func (.func seq1g) seq1i seq1c] w (ret (fun r2 w3 => ∃ s4a : Option Addr, ∃ s4l : Nat, ∃ s4c : Nat, r2 = .slice s4a s4l s4c ∧ Calls Tryz.prog 74 #[.slice s4a s4l s4c] w3 (ret (fun r5 w6 => r5 = .tuple #[] ∧ R (.returned (.slice s4a s4l s4c)) w6) (pan R))) (pan R))

theorem T_slices_Sorted_string_hl : allP (hokL Tryz.prog (hookAt []) (bodyOf Tryz.f37) 1) = (True) := by kernel_rfl

theorem T_slices_Sorted_string_eq (seq1g : FuncId) (seq1i : Array Value) (seq1c : Array Value) (w : World) (R : Ending → World → Prop) : vcCode Tryz.prog (hookAt []) (bodyOf Tryz.f37) 1 ⟨argEnv [.func (.func seq1g) seq1i seq1c] 0, Tryz.f37.ntmps, []⟩ w (finQ Tryz.prog Tryz.f37.results.toList R) = T_slices_Sorted_string seq1g seq1i seq1c w R := by kernel_rfl

theorem T_slices_Sorted_string_b : Tryz.f37.body = some (bodyOf Tryz.f37) := by kernel_rfl
theorem T_slices_Sorted_string_s : (quietSel (bodyOf Tryz.f37) && Nat.ble 1 Tryz.f37.ntmps) = true := by kernel_rfl

theorem C_slices_Sorted_string {seq1g : FuncId} {seq1i : Array Value} {seq1c : Array Value} {w : World} {R : Ending → World → Prop} (h : T_slices_Sorted_string seq1g seq1i seq1c w R) : Calls Tryz.prog 37 #[.func (.func seq1g) seq1i seq1c] w R :=
  calls_of_text (args := [.func (.func seq1g) seq1i seq1c]) mixed Tryz.func37 T_slices_Sorted_string_b T_slices_Sorted_string_s (HOk_of _ _ (by rw [T_slices_Sorted_string_hl]; exact trivial)) (by rw [T_slices_Sorted_string_eq]; exact h)

/-! maps.Keys[map[string][]tollgate/api.Target,string,[]tollgate/api.Target] -/
def T_maps_Keys_map_string_api_Target_string_api_Target (m1 : Option Nat) (w : World) (R : Ending → World → Prop) : Prop :=
  let w2 : World := w.alloc (.cells #[.map m1] 75)
  R (.returned (.func (.func 75) #[] #[.pointer (some (⟨w.heap.size, 0, none⟩ : Addr))])) w2

theorem T_maps_Keys_map_string_api_Target_string_api_Target_hl : allP (hokL Tryz.prog (hookAt []) (bodyOf Tryz.f38) 1) = (True) := by kernel_rfl

theorem T_maps_Keys_map_string_api_Target_string_api_Target_eq (m1 : Option Nat) (w : World) (R : Ending → World → Prop) : vcCode Tryz.prog (hookAt []) (bodyOf Tryz.f38) 1 ⟨argEnv [.map m1] 0, Tryz.f38.ntmps, []⟩ w (finQ Tryz.prog Tryz.f38.results.toList R) = T_maps_Keys_map_string_api_Target_string_api_Target m1 w R := by kernel_rfl

theorem T_maps_Keys_map_string_api_Target_string_api_Target_b : Tryz.f38.body = some (bodyOf Tryz.f38) := by kernel_rfl
theorem T_maps_Keys_map_string_api_Target_string_api_Target_s : (quietSel (bodyOf Tryz.f38) && Nat.ble 1 Tryz.f38.ntmps) = true := by kernel_rfl

theorem C_maps_Keys_map_string_api_Target_string_api_Target {m1 : Option Nat} {w : World} {R : Ending → World → Prop} (h : T_maps_Keys_map_string_api_Target_string_api_Target m1 w R) : Calls Tryz.prog 38 #[.map m1] w R :=
  calls_of_text (args := [.map m1]) mixed Tryz.func38 T_maps_Keys_map_string_api_Target_string_api_Target_b T_maps_Keys_map_string_api_Target_string_api_Target_s (HOk_of _ _ (by rw [T_maps_Keys_map_string_api_Target_string_api_Target_hl]; exact trivial)) (by rw [T_maps_Keys_map_string_api_Target_string_api_Target_eq]; exact h)

/-! slices.Clone[[]tollgate/api.Target,tollgate/api.Target] -/
def T_slices_Clone_api_Target (s1a : Option Addr) (s1l : Nat) (s1c : Nat) (w : World) (R : Ending → World → Prop) : Prop :=
  if s1a.isNone = true then (R (.returned (.slice none 0 0)) w) else (let w2 : World := w.alloc (.cells #[] 64)
  runV Tryz.prog (Builtin.append_ #[32, 32] 32 #[.slice (some (⟨w.heap.size, 0, none⟩ : Addr)) 0 0, .slice s1a s1l s1c]) w2 (fun r3 w4 => ∃ s5a : Option Addr, ∃ s5l : Nat, ∃ s5c : Nat, r3 = .slice s5a s5l s5c ∧ R (.returned (.slice s5a s5l s5c)) w4) (pan R))

theorem T_slices_Clone_api_Target_hl : allP (hokL Tryz.prog (hookAt []) (bodyOf Tryz.f39) 1) = (True) := by kernel_rfl

theorem T_slices_Clone_api_Target_eq (s1a : Option Addr) (s1l : Nat) (s1c : Nat) (w : World) (R : Ending → World → Prop) : vcCode Tryz.prog (hookAt []) (bodyOf Tryz.f39) 1 ⟨argEnv [.slice s1a s1l s1c] 0, Tryz.f39.ntmps, []⟩ w (finQ Tryz.prog Tryz.f39.results.toList R) = T_slices_Clone_api_Target s1a s1l s1c w R := by kernel_rfl

theorem T_slices_Clone_api_Target_b : Tryz.f39.body = some (bodyOf Tryz.f39) := by kernel_rfl
theorem T_slices_Clone_api_Target_s : (quietSel (bodyOf Tryz.f39) && Nat.ble 1 Tryz.f39.ntmps) = true := by kernel_rfl

theorem C_slices_Clone_api_Target {s1a : Option Addr} {s1l : Nat} {s1c : Nat} {w : World} {R : Ending → World → Prop} (h : T_slices_Clone_api_Target s1a s1l s1c w R) : Calls Tryz.prog 39 #[.slice s1a s1l s1c] w R :=
  calls_of_text (args := [.slice s1a s1l s1c]) mixed Tryz.func39 T_slices_Clone_api_Target_b T_slices_Clone_api_Target_s (HOk_of _ _ (by rw [T_slices_Clone_api_Target_hl]; exact trivial)) (by rw [T_slices_Clone_api_Target_eq]; exact h)

/-! (*tollgate/conf.Store).sorted -/
def T_conf_Store_sorted (s1 : Option Addr) (w : World) (R : Ending → World → Prop) : Prop :=
  ∃ a2, s1 = some a2 ∧ ∃ m3 : Option Nat, rd w (a2.add 2) (.map m3) ∧ Calls Tryz.prog 77 #[.map m3] w (ret (fun r4 w5 => ∃ u6 : Value, one u6 = true ∧ r4 = u6 ∧ Calls Tryz.prog 76 #[u6, .func (.func 78) #[] #[]] w5 (ret (fun r7 w8 => ∃ s9a : Option Addr, ∃ s9l : Nat, ∃ s9c : Nat, r7 = .slice s9a s9l s9c ∧ R (.returned (.slice s9a s9l s9c)) w8) (pan R))) (pan R))

theorem T_conf_Store_sorted_hl : allP (hokL Tryz.prog (hookAt []) (bodyOf Tryz.f40) 1) = (True) := by kernel_rfl

theorem T_conf_Store_sorted_eq (s1 : Option Addr) (w : World) (R : Ending → World → Prop) : vcCode Tryz.prog (hookAt []) (bodyOf Tryz.f40) 1 ⟨argEnv [.pointer s1] 0, Tryz.f40.ntmps, []⟩ w (finQ Tryz.prog Tryz.f40.results.toList R) = T_conf_Store_sorted s1 w R := by kernel_rfl

theorem T_conf_Store_sorted_b : Tryz.f40.body = some (bodyOf Tryz.f40) := by kernel_rfl
theorem T_conf_Store_sorted_s : (quietSel (bodyOf Tryz.f40) && Nat.ble 1 Tryz.f40.ntmps) = true := by kernel_rfl

theorem C_conf_Store_sorted {s1 : Option Addr} {w : World} {R : Ending → World → Prop} (h : T_conf_Store_sorted s1 w R) : Calls Tryz.prog 40 #[.pointer s1] w R :=
  calls_of_text (args := [.pointer s1]) mixed Tryz.func40 T_conf_Store_sorted_b T_conf_Store_sorted_s (HOk_of _ _ (by rw [T_conf_Store_sorted_hl]; exact trivial)) (by rw [T_conf_Store_sorted_eq]; exact h)

/-! (*tollgate/conf.Store).act -/
def T_conf_Store_act_1 (s33 : Option Addr) (pool34 : Bool) (w : World) (Kn : Bool → World → Prop) (Kp : List PanicEntry → World → Prop) : Prop :=
  if (!pool34) = true then (∃ a35, s33 = some a35 ∧ ∃ m36 : Option Nat, rd w (a35.add 1) (.map m36) ∧ runV Tryz.prog (Builtin.len_ #[75] 3 #[.map m36]) w (fun r37 w38 => ∃ x39 : Int, r37 = .int .i64 x39 ∧ Kn (decide ((x39 : Int) ≥ 32)) w38) Kp) else (Kn false w)

def T_conf_Store_act_1_outs : Exit → Option (List (Nat × Value)) := fun x => match x with | .normal => some [(56, .bool false)] | .panic _ => some [] | _ => none

def T_conf_Store_act_1_ks : Nat → Bool := ksOf [47, 48, 49, 50, 51, 52, 53, 54, 55, 56]

def H_conf_Store_act_1 : Env → World → QT → Prop := unitHook 144 T_conf_Store_act_1_ks [(0, .pointer none), (7, .bool false)] T_conf_Store_act_1_outs fun l w C => match l with | [v0, v1] => T_conf_Store_act_1 (pPtr v0) (pBool v1) w (fun b41 w => C .normal [.bool b41] w) (fun ch w => C (.panic ch) [] w) | _ => False

theorem T_conf_Store_act_1_hl : allP (hokL Tryz.prog (hookAt []) (at_ (bodyOf Tryz.f41) [1, 1, 1, 1, 0, 1, 0, 1, 0, 0, 0]) 4008) = (True) := by kernel_rfl
theorem T_conf_Store_act_1_hok : HOk Tryz.prog (hookAt []) (at_ (bodyOf Tryz.f41) [1, 1, 1, 1, 0, 1, 0, 1, 0, 0, 0]) 4008 := HOk_of _ _ (by rw [T_conf_Store_act_1_hl]; exact trivial)

theorem T_conf_Store_act_1_eq (C : Conts) (s33 : Option Addr) (pool34 : Bool) (w : World) : vcCode Tryz.prog (hookAt []) (at_ (bodyOf Tryz.f41) [1, 1, 1, 1, 0, 1, 0, 1, 0, 0, 0]) 4008 ⟨[(0, .pointer s33), (7, .bool pool34)], 144, []⟩ w (unitQ T_conf_Store_act_1_outs C) = T_conf_Store_act_1 s33 pool34 w (fun b42 w => C .normal [.bool b42] w) (fun ch w => C (.panic ch) [] w) := by kernel_rfl

theorem T_conf_Store_act_1_ok : UnitOk Tryz.prog H_conf_Store_act_1 (at_ (bodyOf Tryz.f41) [1, 1, 1, 1, 0, 1, 0, 1, 0, 0, 0]) 4008 := unit_ok (H := (hookAt [])) (by kernel_rfl) T_conf_Store_act_1_hok fun l w C hk => by
    obtain ⟨v0, l_v0, rfl, k_v0, hk_v0⟩ := Kinds.cons_ hk
    obtain ⟨s33, rfl⟩ := kind_pointer k_v0
    obtain ⟨v1, l_v1, rfl, k_v1, hk_v1⟩ := Kinds.cons_ hk_v0
    obtain ⟨pool34, rfl⟩ := kind_bool k_v1
    obtain rfl := Kinds.nil_ hk_v1
    exact T_conf_Store_act_1_eq C s33 pool34 w

def T_conf_Store_act_2_body (X : World → Prop) (c73 : Addr) (a74 : Addr) (w : World) (Kn : World → Prop) (Kr : Int → World → Prop) (Kp : List PanicEntry → World → Prop)  : Prop :=
  runV Tryz.prog (Instr.next (.pointer (some a74)) false 0) w (fun r75 w76 => ∃ (b77 : Bool) (l78 : List Value), r75 = .tuple ⟨.bool b77 :: l78⟩ ∧ if b77 = true then (runV Tryz.prog (Instr.entry (.pointer (some a74))) w76 (fun r79 w80 => ∃ k81 u82, r79 = .tuple #[k81, u82] ∧ ∃ s83 : ByteArray, u82 = .string s83 ∧ ∃ s84 : ByteArray, rd w80 (c73.add 6) (.string s84) ∧ if (s83.toList == s84.toList) = true then (Kr 13 w80) else (X  w80)) Kp) else (Kn  w76)) Kp

def T_conf_Store_act_2 (c73 : Addr) (a74 : Addr) (w : World) (Kn : World → Prop) (Kr : Int → World → Prop) (Kp : List PanicEntry → World → Prop) : Prop :=
  ∀ X : World → Prop, (∀  (w : World), T_conf_Store_act_2_body X c73 a74 w Kn Kr Kp → X  w) → X  w

def T_conf_Store_act_2_outs : Exit → Option (List (Nat × Value)) := fun x => match x with | .normal => some [] | .ret => some [(4, .int .i64 0)] | .panic _ => some [] | _ => none

def T_conf_Store_act_2_ks : Nat → Bool := ksOf [4, 11, 93, 94, 95, 96, 97, 98, 99, 100]

def H_conf_Store_act_2 : Env → World → QT → Prop := unitHook 144 T_conf_Store_act_2_ks [(3, .pointer (some ⟨0, 0, none⟩)), (92, .pointer (some ⟨0, 0, none⟩))] T_conf_Store_act_2_outs fun l w C => match l with | [v0, v1] => T_conf_Store_act_2 (pAddr v0) (pAddr v1) w (fun w => C .normal [] w) (fun x86 w => C .ret [.int .i64 x86] w) (fun ch w => C (.panic ch) [] w) | _ => False

theorem T_conf_Store_act_2_hl : allP (hokL Tryz.prog (hookAt []) (at_ (bodyOf Tryz.f41) [1, 1, 1, 1, 0, 1, 0, 1, 1, 1, 0, 1, 0, 1, 0, 0]) 128468) = (True) := by kernel_rfl
theorem T_conf_Store_act_2_hok : HOk Tryz.prog (hookAt []) (at_ (bodyOf Tryz.f41) [1, 1, 1, 1, 0, 1, 0, 1, 1, 1, 0, 1, 0, 1, 0, 0]) 128468 := HOk_of _ _ (by rw [T_conf_Store_act_2_hl]; exact trivial)

theorem T_conf_Store_act_2_eq (C : Conts) (X : List Value → World → Prop) (c73 : Addr) (a74 : Addr) (w : World) : vcCode Tryz.prog (hookAt []) (at_ (bodyOf Tryz.f41) [1, 1, 1, 1, 0, 1, 0, 1, 1, 1, 0, 1, 0, 1, 0, 0]) 128468 ⟨[] ++ [(3, .pointer (some c73)), (92, .pointer (some a74))], 144, []⟩ w (seqQ (fun e w => takeAll e [] fun l => X l w) (blockQ 1 (unitQ T_conf_Store_act_2_outs C))) = T_conf_Store_act_2_body (fun w => X [] w) c73 a74 w (fun w => C .normal [] w) (fun x87 w => C .ret [.int .i64 x87] w) (fun ch w => C (.panic ch) [] w) := by kernel_rfl

theorem T_conf_Store_act_2_ok : UnitOk Tryz.prog H_conf_Store_act_2 (at_ (bodyOf Tryz.f41) [1, 1, 1, 1, 0, 1, 0, 1, 1, 1, 0, 1, 0, 1]) 32117 := by
  have hc : at_ (bodyOf Tryz.f41) [1, 1, 1, 1, 0, 1, 0, 1, 1, 1, 0, 1, 0, 1] = .block 1 (.loop (at_ (bodyOf Tryz.f41) [1, 1, 1, 1, 0, 1, 0, 1, 1, 1, 0, 1, 0, 1, 0, 0])) := by kernel_rfl
  rw [hc]
  refine loop_unit_ok (carr := []) (fix := [(3, .pointer (some ⟨0, 0, none⟩)), (92, .pointer (some ⟨0, 0, none⟩))]) (ks := T_conf_Store_act_2_ks) (H := (hookAt [])) (B := fun C X l u w => match l, u with | [], [v0, v1] => T_conf_Store_act_2_body (fun w => X [] w) (pAddr v0) (pAddr v1) w (fun w => C .normal [] w) (fun x88 w => C .ret [.int .i64 x88] w) (fun ch w => C (.panic ch) [] w) | _, _ => False) (by kernel_rfl) (by kernel_rfl) T_conf_Store_act_2_hok ?_ ?_
  · intro C X l u w hl hu
    obtain rfl := Kinds.nil_ hl
    obtain ⟨v0, l_v0, rfl, k_v0, hu_v0⟩ := Kinds.cons_ hu
    obtain ⟨c73, rfl⟩ := kind_addr k_v0
    obtain ⟨v1, l_v1, rfl, k_v1, hu_v1⟩ := Kinds.cons_ hu_v0
    obtain ⟨a74, rfl⟩ := kind_addr k_v1
    obtain rfl := Kinds.nil_ hu_v1
    exact T_conf_Store_act_2_eq C X c73 a74 w
  · intro l u w C hl hu
    obtain rfl := Kinds.nil_ hl
    obtain ⟨v0, l_v0, rfl, k_v0, hu_v0⟩ := Kinds.cons_ hu
    obtain ⟨c73, rfl⟩ := kind_addr k_v0
    obtain ⟨v1, l_v1, rfl, k_v1, hu_v1⟩ := Kinds.cons_ hu_v0
    obtain ⟨a74, rfl⟩ := kind_addr k_v1
    obtain rfl := Kinds.nil_ hu_v1
    constructor
    · intro h X hX
      exact h (fun w => X [] w) (fun w hb => hX [] w trivial hb)
    · intro h X hX
      exact h (fun l w => match l with | [] => X  w | _ => True) (fun l w hl hb => by
        obtain rfl := Kinds.nil_ hl
        exact hX  w hb)

def T_conf_Store_act_3 (s98 : Option Addr) (route99 : Bool) (w : World) (Kn : Bool → World → Prop) (Kp : List PanicEntry → World → Prop) : Prop :=
  if (!route99) = true then (∃ a100, s98 = some a100 ∧ ∃ m101 : Option Nat, rd w (a100.add 2) (.map m101) ∧ runV Tryz.prog (Builtin.len_ #[76] 3 #[.map m101]) w (fun r102 w103 => ∃ x104 : Int, r102 = .int .i64 x104 ∧ Kn (decide ((x104 : Int) ≥ 64)) w103) Kp) else (Kn false w)

def T_conf_Store_act_3_outs : Exit → Option (List (Nat × Value)) := fun x => match x with | .normal => some [(120, .bool false)] | .panic _ => some [] | _ => none

def T_conf_Store_act_3_ks : Nat → Bool := ksOf [111, 112, 113, 114, 115, 116, 117, 118, 119, 120]

def H_conf_Store_act_3 : Env → World → QT → Prop := unitHook 144 T_conf_Store_act_3_ks [(0, .pointer none), (9, .bool false)] T_conf_Store_act_3_outs fun l w C => match l with | [v0, v1] => T_conf_Store_act_3 (pPtr v0) (pBool v1) w (fun b106 w => C .normal [.bool b106] w) (fun ch w => C (.panic ch) [] w) | _ => False

theorem T_conf_Store_act_3_hl : allP (hokL Tryz.prog (hookAt []) (at_ (bodyOf Tryz.f41) [1, 1, 1, 1, 0, 1, 0, 1, 1, 1, 1, 1, 0, 1, 0, 0]) 128500) = (True) := by kernel_rfl
theorem T_conf_Store_act_3_hok : HOk Tryz.prog (hookAt []) (at_ (bodyOf Tryz.f41) [1, 1, 1, 1, 0, 1, 0, 1, 1, 1, 1, 1, 0, 1, 0, 0]) 128500 := HOk_of _ _ (by rw [T_conf_Store_act_3_hl]; exact trivial)

theorem T_conf_Store_act_3_eq (C : Conts) (s98 : Option Addr) (route99 : Bool) (w : World) : vcCode Tryz.prog (hookAt []) (at_ (bodyOf Tryz.f41) [1, 1, 1, 1, 0, 1, 0, 1, 1, 1, 1, 1, 0, 1, 0, 0]) 128500 ⟨[(0, .pointer s98), (9, .bool route99)], 144, []⟩ w (unitQ T_conf_Store_act_3_outs C) = T_conf_Store_act_3 s98 route99 w (fun b107 w => C .normal [.bool b107] w) (fun ch w => C (.panic ch) [] w) := by kernel_rfl

theorem T_conf_Store_act_3_ok : UnitOk Tryz.prog H_conf_Store_act_3 (at_ (bodyOf Tryz.f41) [1, 1, 1, 1, 0, 1, 0, 1, 1, 1, 1, 1, 0, 1, 0, 0]) 128500 := unit_ok (H := (hookAt [])) (by kernel_rfl) T_conf_Store_act_3_hok fun l w C hk => by
    obtain ⟨v0, l_v0, rfl, k_v0, hk_v0⟩ := Kinds.cons_ hk
    obtain ⟨s98, rfl⟩ := kind_pointer k_v0
    obtain ⟨v1, l_v1, rfl, k_v1, hk_v1⟩ := Kinds.cons_ hk_v0
    obtain ⟨route99, rfl⟩ := kind_bool k_v1
    obtain rfl := Kinds.nil_ hk_v1
    exact T_conf_Store_act_3_eq C s98 route99 w

def T_conf_Store_act (s1 : Option Addr) (x2 : Int) (x3 : Int) (x4 : Int) (x5 : Int) (s6 : ByteArray) (s7 : ByteArray) (s8 : ByteArray) (s9a : Option Addr) (s9l : Nat) (s9c : Nat) (w : World) (R : Ending → World → Prop) : Prop :=
  let w10 : World := w.alloc (.cells #[.int .i64 x2, .int .i64 x3, .int .i64 x4, .int .i64 x5, .string s6, .string s7, .string s8, .slice s9a s9l s9c] 42)
  ∃ s11 : ByteArray, rd w10 ((⟨w.heap.size, 0, none⟩ : Addr).add 4) (.string s11) ∧ ∃ s12 : ByteArray, rd w10 ((⟨w.heap.size, 0, none⟩ : Addr).add 5) (.string s12) ∧ let w13 : World := w10.alloc (.cells #[.string (ByteArray.mk #[]), .string (ByteArray.mk #[])] 89)
  (.agg #[.string s11, .string s12] : Value).cells.size = 2 ∧ wrOk w13 (⟨w10.heap.size, 0, none⟩ : Addr) (.agg #[.string s11, .string s12]) ∧ let w14 : World := wr w13 (⟨w10.heap.size, 0, none⟩ : Addr) (.agg #[.string s11, .string s12])
  let w15 : World := w14.drew
  ∃ a16, s1 = some a16 ∧ ∃ m17 : Option Nat, rd w15 (a16.add 1) (.map m17) ∧ ∃ s18 : ByteArray, rd w15 ((⟨w.heap.size, 0, none⟩ : Addr).add 6) (.string s18) ∧ runV Tryz.prog (Instr.lookup 75 (.map m17) (.string s18) true) w15 (fun r19 w20 => ∃ s21a : Option Addr, ∃ s21l : Nat, ∃ s21c : Nat, ∃ b22 : Bool, r19 = .tuple #[.slice s21a s21l s21c, .bool b22] ∧ (True) ∧ let w23 : World := w20.drew
  ∃ a24, s1 = some a24 ∧ ∃ m25 : Option Nat, rd w23 (a24.add 2) (.map m25) ∧ ∃ s26 : ByteArray, ∃ s27 : ByteArray, rd w23 (⟨w10.heap.size, 0, none⟩ : Addr) (.agg #[.string s26, .string s27]) ∧ runV Tryz.prog (Instr.lookup 76 (.map m25) (.agg #[.string s26, .string s27]) true) w23 (fun r28 w29 => ∃ s30 : ByteArray, ∃ b31 : Bool, r28 = .tuple #[.string s30, .bool b31] ∧ (True) ∧ ∃ x32 : Int, rd w29 (⟨w.heap.size, 0, none⟩ : Addr) (.int .i64 x32) ∧ if ((x32 : Int) == 1) = true then (T_conf_Store_act_1 s1 b22 w29 (fun b43 w44 => if b43 = true then (R (.returned (.int .i64 6)) w44) else (let w45 : World := w44.drew
  ∃ a46, s1 = some a46 ∧ ∃ m47 : Option Nat, rd w45 (a46.add 1) (.map m47) ∧ ∃ s48 : ByteArray, rd w45 ((⟨w.heap.size, 0, none⟩ : Addr).add 6) (.string s48) ∧ ∃ s49a : Option Addr, ∃ s49l : Nat, ∃ s49c : Nat, rd w45 ((⟨w.heap.size, 0, none⟩ : Addr).add 7) (.slice s49a s49l s49c) ∧ Calls Tryz.prog 39 #[.slice s49a s49l s49c] w45 (ret (fun r50 w51 => ∃ s52a : Option Addr, ∃ s52l : Nat, ∃ s52c : Nat, r50 = .slice s52a s52l s52c ∧ (rd w51 ((⟨w.heap.size, 0, none⟩ : Addr).add 6) (.string s48) ∧ rd w51 (a46.add 1) (.map m47) ∧ True) ∧ runV Tryz.prog (Instr.mapUpdate 75 (.map m47) (.string s48) (.slice s52a s52l s52c)) w51 (fun _ w53 => (True) ∧ Calls Tryz.prog 50 #[.pointer s1, .slice none 0 0] w53 (ret (fun r54 w55 => ∃ s56a : Option Addr, ∃ s56l : Nat, ∃ s56c : Nat, r54 = .slice s56a s56l s56c ∧ if (decide (((s56l : Nat) : Int) > 12000)) = true then (let w57 : World := w55.drew
  ∃ a58, s1 = some a58 ∧ ∃ m59 : Option Nat, rd w57 (a58.add 1) (.map m59) ∧ ∃ s60 : ByteArray, rd w57 ((⟨w.heap.size, 0, none⟩ : Addr).add 6) (.string s60) ∧ runV Tryz.prog (Builtin.delete_ #[75, 9] 0 #[.map m59, .string s60]) w57 (fun r61 w62 => (True) ∧ if b22 = true then (let w63 : World := w62.drew
  ∃ a64, s1 = some a64 ∧ ∃ m65 : Option Nat, rd w63 (a64.add 1) (.map m65) ∧ ∃ s66 : ByteArray, rd w63 ((⟨w.heap.size, 0, none⟩ : Addr).add 6) (.string s66) ∧ runV Tryz.prog (Instr.mapUpdate 75 (.map m65) (.string s66) (.slice s21a s21l s21c)) w63 (fun _ w67 => (True) ∧ R (.returned (.int .i64 6)) w67) (pan R)) else (R (.returned (.int .i64 6)) w62)) (pan R)) else (R (.returned (.int .i64 0)) w55)) (pan R))) (pan R)) (pan R)))) (pan R)) else (if ((x32 : Int) == 2) = true then (if (!b22) = true then (R (.returned (.int .i64 8)) w29) else (∃ a68, s1 = some a68 ∧ ∃ m69 : Option Nat, rd w29 (a68.add 2) (.map m69) ∧ runV Tryz.prog (Instr.range 76 (.map m69)) w29 (fun r70 w71 => ∃ a72, r70 = .pointer (some a72) ∧ T_conf_Store_act_2 (⟨w.heap.size, 0, none⟩ : Addr) a72 w71 (fun w89 => let w90 : World := w89.drew
  ∃ a91, s1 = some a91 ∧ ∃ m92 : Option Nat, rd w90 (a91.add 1) (.map m92) ∧ ∃ s93 : ByteArray, rd w90 ((⟨w.heap.size, 0, none⟩ : Addr).add 6) (.string s93) ∧ runV Tryz.prog (Builtin.delete_ #[75, 9] 0 #[.map m92, .string s93]) w90 (fun r94 w95 => (True) ∧ R (.returned (.int .i64 0)) w95) (pan R)) (fun x96 w97 => R (.returned (.int .i64 x96)) w97) (pan R)) (pan R))) else (if ((x32 : Int) == 3) = true then (if (!b22) = true then (R (.returned (.int .i64 8)) w29) else (T_conf_Store_act_3 s1 b31 w29 (fun b108 w109 => if b108 = true then (R (.returned (.int .i64 6)) w109) else (let w110 : World := w109.drew
  ∃ a111, s1 = some a111 ∧ ∃ m112 : Option Nat, rd w110 (a111.add 2) (.map m112) ∧ ∃ s113 : ByteArray, ∃ s114 : ByteArray, rd w110 (⟨w10.heap.size, 0, none⟩ : Addr) (.agg #[.string s113, .string s114]) ∧ ∃ s115 : ByteArray, rd w110 ((⟨w.heap.size, 0, none⟩ : Addr).add 6) (.string s115) ∧ runV Tryz.prog (Instr.mapUpdate 76 (.map m112) (.agg #[.string s113, .string s114]) (.string s115)) w110 (fun _ w116 => (True) ∧ Calls Tryz.prog 50 #[.pointer s1, .slice none 0 0] w116 (ret (fun r117 w118 => ∃ s119a : Option Addr, ∃ s119l : Nat, ∃ s119c : Nat, r117 = .slice s119a s119l s119c ∧ if (decide (((s119l : Nat) : Int) > 12000)) = true then (let w120 : World := w118.drew
  ∃ a121, s1 = some a121 ∧ ∃ m122 : Option Nat, rd w120 (a121.add 2) (.map m122) ∧ ∃ s123 : ByteArray, ∃ s124 : ByteArray, rd w120 (⟨w10.heap.size, 0, none⟩ : Addr) (.agg #[.string s123, .string s124]) ∧ runV Tryz.prog (Builtin.delete_ #[76, 89] 0 #[.map m122, .agg #[.string s123, .string s124]]) w120 (fun r125 w126 => (True) ∧ if b31 = true then (let w127 : World := w126.drew
  ∃ a128, s1 = some a128 ∧ ∃ m129 : Option Nat, rd w127 (a128.add 2) (.map m129) ∧ ∃ s130 : ByteArray, ∃ s131 : ByteArray, rd w127 (⟨w10.heap.size, 0, none⟩ : Addr) (.agg #[.string s130, .string s131]) ∧ runV Tryz.prog (Instr.mapUpdate 76 (.map m129) (.agg #[.string s130, .string s131]) (.string s30)) w127 (fun _ w132 => (True) ∧ R (.returned (.int .i64 6)) w132) (pan R)) else (R (.returned (.int .i64 6)) w126)) (pan R)) else (R (.returned (.int .i64 0)) w118)) (pan R))) (pan R))) (pan R))) else (if (!b31) = true then (R (.returned (.int .i64 8)) w29) else (let w133 : World := w29.drew
  ∃ a134, s1 = some a134 ∧ ∃ m135 : Option Nat, rd w133 (a134.add 2) (.map m135) ∧ ∃ s136 : ByteArray, ∃ s137 : ByteArray, rd w133 (⟨w10.heap.size, 0, none⟩ : Addr) (.agg #[.string s136, .string s137]) ∧ runV Tryz.prog (Builtin.delete_ #[76, 89] 0 #[.map m135, .agg #[.string s136, .string s137]]) w133 (fun r138 w139 => (True) ∧ R (.returned (.int .i64 0)) w139) (pan R)))))) (pan R)) (pan R)

theorem T_conf_Store_act_hl : allP (hokL Tryz.prog (hookAt [(4008, H_conf_Store_act_1), (32117, H_conf_Store_act_2), (128500, H_conf_Store_act_3)]) (bodyOf Tryz.f41) 1) = (UnitOk Tryz.prog H_conf_Store_act_1 (at_ (bodyOf Tryz.f41) [1, 1, 1, 1, 0, 1, 0, 1, 0, 0, 0]) 4008 ∧ UnitOk Tryz.prog H_conf_Store_act_2 (at_ (bodyOf Tryz.f41) [1, 1, 1, 1, 0, 1, 0, 1, 1, 1, 0, 1, 0, 1]) 32117 ∧ UnitOk Tryz.prog H_conf_Store_act_3 (at_ (bodyOf Tryz.f41) [1, 1, 1, 1, 0, 1, 0, 1, 1, 1, 1, 1, 0, 1, 0, 0]) 128500 ∧ True) := by kernel_rfl

theorem T_conf_Store_act_eq (s1 : Option Addr) (x2 : Int) (x3 : Int) (x4 : Int) (x5 : Int) (s6 : ByteArray) (s7 : ByteArray) (s8 : ByteArray) (s9a : Option Addr) (s9l : Nat) (s9c : Nat) (w : World) (R : Ending → World → Prop) : vcCode Tryz.prog (hookAt [(4008, H_conf_Store_act_1), (32117, H_conf_Store_act_2), (128500, H_conf_Store_act_3)]) (bodyOf Tryz.f41) 1 ⟨argEnv [.pointer s1, .agg #[.int .i64 x2, .int .i64 x3, .int .i64 x4, .int .i64 x5, .string s6, .string s7, .string s8, .slice s9a s9l s9c]] 0, Tryz.f41.ntmps, []⟩ w (finQ Tryz.prog Tryz.f41.results.toList R) = T_conf_Store_act s1 x2 x3 x4 x5 s6 s7 s8 s9a s9l s9c w R := by kernel_rfl

theorem T_conf_Store_act_b : Tryz.f41.body = some (bodyOf Tryz.f41) := by kernel_rfl
theorem T_conf_Store_act_s : (quietSel (bodyOf Tryz.f41) && Nat.ble 2 Tryz.f41.ntmps) = true := by kernel_rfl

theorem C_conf_Store_act {s1 : Option Addr} {x2 : Int} {x3 : Int} {x4 : Int} {x5 : Int} {s6 : ByteArray} {s7 : ByteArray} {s8 : ByteArray} {s9a : Option Addr} {s9l : Nat} {s9c : Nat} {w : World} {R : Ending → World → Prop} (h : T_conf_Store_act s1 x2 x3 x4 x5 s6 s7 s8 s9a s9l s9c w R) : Calls Tryz.prog 41 #[.pointer s1, .agg #[.int .i64 x2, .int .i64 x3, .int .i64 x4, .int .i64 x5, .string s6, .string s7, .string s8, .slice s9a s9l s9c]] w R :=
  calls_of_text (args := [.pointer s1, .agg #[.int .i64 x2, .int .i64 x3, .int .i64 x4, .int .i64 x5, .string s6, .string s7, .string s8, .slice s9a s9l s9c]]) mixed Tryz.func41 T_conf_Store_act_b T_conf_Store_act_s (HOk_of _ _ (by rw [T_conf_Store_act_hl]; exact ⟨T_conf_Store_act_1_ok, T_conf_Store_act_2_ok, T_conf_Store_act_3_ok, trivial⟩)) (by rw [T_conf_Store_act_eq]; exact h)

/-! (*tollgate/conf.Store).config -/
def T_conf_Store_config_1_body (X : Option Addr → Nat → Nat → Int → World → Prop) (b19a : Option Addr) (b19l : Nat) (b19c : Nat) (x20 : Int) (s21 : Option Addr) (s22a : Option Addr) (s22l : Nat) (s22c : Nat) (x23 : Int) (w : World) (Kn : Option Addr → Nat → Nat → World → Prop) (Kp : List PanicEntry → World → Prop)  : Prop :=
  if (decide ((x20 : Int) < x23)) = true then (0 ≤ (x20 : Int) ∧ (x20 : Int) < ((s22l : Nat) : Int) ∧ ∃ b24, s22a = some b24 ∧ ∃ s25 : ByteArray, rd w (b24.add ((x20 : Int).toNat * 1)) (.string s25) ∧ let w26 : World := w.drew
  ∃ a27, s21 = some a27 ∧ ∃ m28 : Option Nat, rd w26 (a27.add 1) (.map m28) ∧ (Calls Tryz.prog 90 #[.slice b19a b19l b19c, .string s25] w26 (ret (fun r29 w30 => ∃ s31a : Option Addr, ∃ s31l : Nat, ∃ s31c : Nat, r29 = .slice s31a s31l s31c ∧ (rd w30 (a27.add 1) (.map m28) ∧ True) ∧ runV Tryz.prog (Instr.lookup 75 (.map m28) (.string s25) false) w30 (fun r32 w33 => ∃ s34a : Option Addr, ∃ s34l : Nat, ∃ s34c : Nat, r32 = .slice s34a s34l s34c ∧ (True) ∧ Calls Tryz.prog 89 #[.slice s31a s31l s31c, .slice s34a s34l s34c] w33 (ret (fun r35 w36 => ∃ s37a : Option Addr, ∃ s37l : Nat, ∃ s37c : Nat, r35 = .slice s37a s37l s37c ∧ (True) ∧ X s37a s37l s37c (IntKind.wrap .i64 ((x20 : Int) + 1)) w36) Kp)) Kp) Kp)) ∧ (runV Tryz.prog (Instr.lookup 75 (.map m28) (.string s25) false) w26 (fun r38 w39 => ∃ s40a : Option Addr, ∃ s40l : Nat, ∃ s40c : Nat, r38 = .slice s40a s40l s40c ∧ (True) ∧ Calls Tryz.prog 90 #[.slice b19a b19l b19c, .string s25] w39 (ret (fun r41 w42 => ∃ s43a : Option Addr, ∃ s43l : Nat, ∃ s43c : Nat, r41 = .slice s43a s43l s43c ∧ (True) ∧ Calls Tryz.prog 89 #[.slice s43a s43l s43c, .slice s40a s40l s40c] w42 (ret (fun r44 w45 => ∃ s46a : Option Addr, ∃ s46l : Nat, ∃ s46c : Nat, r44 = .slice s46a s46l s46c ∧ (True) ∧ X s46a s46l s46c (IntKind.wrap .i64 ((x20 : Int) + 1)) w45) Kp)) Kp)) Kp)) else (Kn b19a b19l b19c w)

def T_conf_Store_config_1 (b19a : Option Addr) (b19l : Nat) (b19c : Nat) (x20 : Int) (s21 : Option Addr) (s22a : Option Addr) (s22l : Nat) (s22c : Nat) (x23 : Int) (w : World) (Kn : Option Addr → Nat → Nat → World → Prop) (Kp : List PanicEntry → World → Prop) : Prop :=
  ∀ X : Option Addr → Nat → Nat → Int → World → Prop, (∀ (b19a : Option Addr) (b19l : Nat) (b19c : Nat) (x20 : Int) (w : World), T_conf_Store_config_1_body X b19a b19l b19c x20 s21 s22a s22l s22c x23 w Kn Kp → X b19a b19l b19c x20 w) → X b19a b19l b19c x20 w

def T_conf_Store_config_1_outs : Exit → Option (List (Nat × Value)) := fun x => match x with | .normal => some [(1, .slice none 0 0)] | .panic _ => some [] | _ => none

def T_conf_Store_config_1_ks : Nat → Bool := ksOf [1, 6, 23, 24, 25, 26, 27, 28, 29, 30, 31, 32, 33, 34, 35, 36, 37]

def H_conf_Store_config_1 : Env → World → QT → Prop := unitHook 68 T_conf_Store_config_1_ks [(1, .slice none 0 0), (23, .int .i64 0), (0, .pointer none), (21, .slice none 0 0), (22, .int .i64 0)] T_conf_Store_config_1_outs fun l w C => match l with | [v0, v1, v2, v3, v4] => T_conf_Store_config_1 (pA v0) (pL v0) (pC v0) (pInt v1) (pPtr v2) (pA v3) (pL v3) (pC v3) (pInt v4) w (fun b48a b48l b48c w => C .normal [.slice b48a b48l b48c] w) (fun ch w => C (.panic ch) [] w) | _ => False

theorem T_conf_Store_config_1_hl : allP (hokL Tryz.prog (hookAt []) (at_ (bodyOf Tryz.f50) [1, 1, 0, 1, 0, 0]) 116) = (True) := by kernel_rfl
theorem T_conf_Store_config_1_hok : HOk Tryz.prog (hookAt []) (at_ (bodyOf Tryz.f50) [1, 1, 0, 1, 0, 0]) 116 := HOk_of _ _ (by rw [T_conf_Store_config_1_hl]; exact trivial)

theorem T_conf_Store_config_1_eq (C : Conts) (X : List Value → World → Prop) (b19a : Option Addr) (b19l : Nat) (b19c : Nat) (x20 : Int) (s21 : Option Addr) (s22a : Option Addr) (s22l : Nat) (s22c : Nat) (x23 : Int) (w : World) : vcCode Tryz.prog (hookAt []) (at_ (bodyOf Tryz.f50) [1, 1, 0, 1, 0, 0]) 116 ⟨[(1, .slice b19a b19l b19c), (23, .int .i64 x20)] ++ [(0, .pointer s21), (21, .slice s22a s22l s22c), (22, .int .i64 x23)], 68, []⟩ w (seqQ (fun e w => takeAll e [(1, .slice none 0 0), (23, .int .i64 0)] fun l => X l w) (blockQ 0 (unitQ T_conf_Store_config_1_outs C))) = T_conf_Store_config_1_body (fun b19a b19l b19c x20 w => X [.slice b19a b19l b19c, .int .i64 x20] w) b19a b19l b19c x20 s21 s22a s22l s22c x23 w (fun b49a b49l b49c w => C .normal [.slice b49a b49l b49c] w) (fun ch w => C (.panic ch) [] w) := by kernel_rfl

theorem T_conf_Store_config_1_ok : UnitOk Tryz.prog H_conf_Store_config_1 (at_ (bodyOf Tryz.f50) [1, 1, 0, 1]) 29 := by
  have hc : at_ (bodyOf Tryz.f50) [1, 1, 0, 1] = .block 0 (.loop (at_ (bodyOf Tryz.f50) [1, 1, 0, 1, 0, 0])) := by kernel_rfl
  rw [hc]
  refine loop_unit_ok (carr := [(1, .slice none 0 0), (23, .int .i64 0)]) (fix := [(0, .pointer none), (21, .slice none 0 0), (22, .int .i64 0)]) (ks := T_conf_Store_config_1_ks) (H := (hookAt [])) (B := fun C X l u w => match l, u with | [v0, v1], [v2, v3, v4] => T_conf_Store_config_1_body (fun b19a b19l b19c x20 w => X [.slice b19a b19l b19c, .int .i64 x20] w) (pA v0) (pL v0) (pC v0) (pInt v1) (pPtr v2) (pA v3) (pL v3) (pC v3) (pInt v4) w (fun b50a b50l b50c w => C .normal [.slice b50a b50l b50c] w) (fun ch w => C (.panic ch) [] w) | _, _ => False) (by kernel_rfl) (by kernel_rfl) T_conf_Store_config_1_hok ?_ ?_
  · intro C X l u w hl hu
    obtain ⟨v0, l_v0, rfl, k_v0, hl_v0⟩ := Kinds.cons_ hl
    obtain ⟨b19a, b19l, b19c, rfl⟩ := kind_slice k_v0
    obtain ⟨v1, l_v1, rfl, k_v1, hl_v1⟩ := Kinds.cons_ hl_v0
    obtain ⟨x20, rfl⟩ := kind_int k_v1
    obtain rfl := Kinds.nil_ hl_v1
    obtain ⟨v2, l_v2, rfl, k_v2, hu_v2⟩ := Kinds.cons_ hu
    obtain ⟨s21, rfl⟩ := kind_pointer k_v2
    obtain ⟨v3, l_v3, rfl, k_v3, hu_v3⟩ := Kinds.cons_ hu_v2
    obtain ⟨s22a, s22l, s22c, rfl⟩ := kind_slice k_v3
    obtain ⟨v4, l_v4, rfl, k_v4, hu_v4⟩ := Kinds.cons_ hu_v3
    obtain ⟨x23, rfl⟩ := kind_int k_v4
    obtain rfl := Kinds.nil_ hu_v4
    exact T_conf_Store_config_1_eq C X b19a b19l b19c x20 s21 s22a s22l s22c x23 w
  · intro l u w C hl hu
    obtain ⟨v0, l_v0, rfl, k_v0, hl_v0⟩ := Kinds.cons_ hl
    obtain ⟨b19a, b19l, b19c, rfl⟩ := kind_slice k_v0
    obtain ⟨v1, l_v1, rfl, k_v1, hl_v1⟩ := Kinds.cons_ hl_v0
    obtain ⟨x20, rfl⟩ := kind_int k_v1
    obtain rfl := Kinds.nil_ hl_v1
    obtain ⟨v2, l_v2, rfl, k_v2, hu_v2⟩ := Kinds.cons_ hu
    obtain ⟨s21, rfl⟩ := kind_pointer k_v2
    obtain ⟨v3, l_v3, rfl, k_v3, hu_v3⟩ := Kinds.cons_ hu_v2
    obtain ⟨s22a, s22l, s22c, rfl⟩ := kind_slice k_v3
    obtain ⟨v4, l_v4, rfl, k_v4, hu_v4⟩ := Kinds.cons_ hu_v3
    obtain ⟨x23, rfl⟩ := kind_int k_v4
    obtain rfl := Kinds.nil_ hu_v4
    constructor
    · intro h X hX
      exact h (fun b19a b19l b19c x20 w => X [.slice b19a b19l b19c, .int .i64 x20] w) (fun b19a b19l b19c x20 w hb => hX [.slice b19a b19l b19c, .int .i64 x20] w ⟨rfl, rfl, trivial⟩ hb)
    · intro h X hX
      exact h (fun l w => match l with | [v0, v1] => X (pA v0) (pL v0) (pC v0) (pInt v1) w | _ => True) (fun l w hl hb => by
        obtain ⟨v0, l_v0, rfl, k_v0, hl_v0⟩ := Kinds.cons_ hl
        obtain ⟨b19a, b19l, b19c, rfl⟩ := kind_slice k_v0
        obtain ⟨v1, l_v1, rfl, k_v1, hl_v1⟩ := Kinds.cons_ hl_v0
        obtain ⟨x20, rfl⟩ := kind_int k_v1
        obtain rfl := Kinds.nil_ hl_v1
        exact hX b19a b19l b19c x20 w hb)

def T_conf_Store_config_2_body (X : Option Addr → Nat → Nat → Int → World → Prop) (b64a : Option Addr) (b64l : Nat) (b64c : Nat) (x65 : Int) (s66 : Option Addr) (s67a : Option Addr) (s67l : Nat) (s67c : Nat) (x68 : Int) (w : World) (Kn : Option Addr → Nat → Nat → World → Prop) (Kp : List PanicEntry → World → Prop)  : Prop :=
  if (decide ((x65 : Int) < x68)) = true then (0 ≤ (x65 : Int) ∧ (x65 : Int) < ((s67l : Nat) : Int) ∧ ∃ b69, s67a = some b69 ∧ ∃ s70 : ByteArray, ∃ s71 : ByteArray, rd w (b69.add ((x65 : Int).toNat * 2)) (.agg #[.string s70, .string s71]) ∧ let w72 : World := w.alloc (.cells #[.string (ByteArray.mk #[]), .string (ByteArray.mk #[])] 89)
  (.agg #[.string s70, .string s71] : Value).cells.size = 2 ∧ wrOk w72 (⟨w.heap.size, 0, none⟩ : Addr) (.agg #[.string s70, .string s71]) ∧ let w73 : World := wr w72 (⟨w.heap.size, 0, none⟩ : Addr) (.agg #[.string s70, .string s71])
  let w74 : World := w73.drew
  ∃ s75 : ByteArray, rd w74 (⟨w.heap.size, 0, none⟩ : Addr) (.string s75) ∧ ∃ s76 : ByteArray, rd w74 ((⟨w.heap.size, 0, none⟩ : Addr).add 1) (.string s76) ∧ ∃ a77, s66 = some a77 ∧ ∃ m78 : Option Nat, rd w74 (a77.add 2) (.map m78) ∧ ∃ s79 : ByteArray, ∃ s80 : ByteArray, rd w74 (⟨w.heap.size, 0, none⟩ : Addr) (.agg #[.string s79, .string s80]) ∧ (Calls Tryz.prog 90 #[.slice b64a b64l b64c, .string s75] w74 (ret (fun r81 w82 => ∃ s83a : Option Addr, ∃ s83l : Nat, ∃ s83c : Nat, r81 = .slice s83a s83l s83c ∧ (rd w82 (⟨w.heap.size, 0, none⟩ : Addr) (.agg #[.string s79, .string s80]) ∧ rd w82 (a77.add 2) (.map m78) ∧ rd w82 ((⟨w.heap.size, 0, none⟩ : Addr).add 1) (.string s76) ∧ True) ∧ (Calls Tryz.prog 90 #[.slice s83a s83l s83c, .string s76] w82 (ret (fun r84 w85 => ∃ s86a : Option Addr, ∃ s86l : Nat, ∃ s86c : Nat, r84 = .slice s86a s86l s86c ∧ (rd w85 (⟨w.heap.size, 0, none⟩ : Addr) (.agg #[.string s79, .string s80]) ∧ rd w85 (a77.add 2) (.map m78) ∧ True) ∧ runV Tryz.prog (Instr.lookup 76 (.map m78) (.agg #[.string s79, .string s80]) false) w85 (fun r87 w88 => ∃ s89 : ByteArray, r87 = .string s89 ∧ (True) ∧ Calls Tryz.prog 90 #[.slice s86a s86l s86c, .string s89] w88 (ret (fun r90 w91 => ∃ s92a : Option Addr, ∃ s92l : Nat, ∃ s92c : Nat, r90 = .slice s92a s92l s92c ∧ (True) ∧ X s92a s92l s92c (IntKind.wrap .i64 ((x65 : Int) + 1)) w91) Kp)) Kp) Kp)) ∧ (runV Tryz.prog (Instr.lookup 76 (.map m78) (.agg #[.string s79, .string s80]) false) w82 (fun r93 w94 => ∃ s95 : ByteArray, r93 = .string s95 ∧ (rd w94 ((⟨w.heap.size, 0, none⟩ : Addr).add 1) (.string s76) ∧ True) ∧ Calls Tryz.prog 90 #[.slice s83a s83l s83c, .string s76] w94 (ret (fun r96 w97 => ∃ s98a : Option Addr, ∃ s98l : Nat, ∃ s98c : Nat, r96 = .slice s98a s98l s98c ∧ (True) ∧ Calls Tryz.prog 90 #[.slice s98a s98l s98c, .string s95] w97 (ret (fun r99 w100 => ∃ s101a : Option Addr, ∃ s101l : Nat, ∃ s101c : Nat, r99 = .slice s101a s101l s101c ∧ (True) ∧ X s101a s101l s101c (IntKind.wrap .i64 ((x65 : Int) + 1)) w100) Kp)) Kp)) Kp)) Kp)) ∧ (runV Tryz.prog (Instr.lookup 76 (.map m78) (.agg #[.string s79, .string s80]) false) w74 (fun r102 w103 => ∃ s104 : ByteArray, r102 = .string s104 ∧ (rd w103 ((⟨w.heap.size, 0, none⟩ : Addr).add 1) (.string s76) ∧ rd w103 (⟨w.heap.size, 0, none⟩ : Addr) (.string s75) ∧ True) ∧ Calls Tryz.prog 90 #[.slice b64a b64l b64c, .string s75] w103 (ret (fun r105 w106 => ∃ s107a : Option Addr, ∃ s107l : Nat, ∃ s107c : Nat, r105 = .slice s107a s107l s107c ∧ (rd w106 ((⟨w.heap.size, 0, none⟩ : Addr).add 1) (.string s76) ∧ True) ∧ Calls Tryz.prog 90 #[.slice s107a s107l s107c, .string s76] w106 (ret (fun r108 w109 => ∃ s110a : Option Addr, ∃ s110l : Nat, ∃ s110c : Nat, r108 = .slice s110a s110l s110c ∧ (True) ∧ Calls Tryz.prog 90 #[.slice s110a s110l s110c, .string s104] w109 (ret (fun r111 w112 => ∃ s113a : Option Addr, ∃ s113l : Nat, ∃ s113c : Nat, r111 = .slice s113a s113l s113c ∧ (True) ∧ X s113a s113l s113c (IntKind.wrap .i64 ((x65 : Int) + 1)) w112) Kp)) Kp)) Kp)) Kp)) else (Kn b64a b64l b64c w)

def T_conf_Store_config_2 (b64a : Option Addr) (b64l : Nat) (b64c : Nat) (x65 : Int) (s66 : Option Addr) (s67a : Option Addr) (s67l : Nat) (s67c : Nat) (x68 : Int) (w : World) (Kn : Option Addr → Nat → Nat → World → Prop) (Kp : List PanicEntry → World → Prop) : Prop :=
  ∀ X : Option Addr → Nat → Nat → Int → World → Prop, (∀ (b64a : Option Addr) (b64l : Nat) (b64c : Nat) (x65 : Int) (w : World), T_conf_Store_config_2_body X b64a b64l b64c x65 s66 s67a s67l s67c x68 w Kn Kp → X b64a b64l b64c x65 w) → X b64a b64l b64c x65 w

def T_conf_Store_config_2_outs : Exit → Option (List (Nat × Value)) := fun x => match x with | .normal => some [(1, .slice none 0 0)] | .panic _ => some [] | _ => none

def T_conf_Store_config_2_ks : Nat → Bool := ksOf [1, 8, 48, 49, 50, 51, 52, 53, 54, 55, 56, 57, 58, 59, 60, 61, 62, 63, 64, 65, 66]

def H_conf_Store_config_2 : Env → World → QT → Prop := unitHook 68 T_conf_Store_config_2_ks [(1, .slice none 0 0), (48, .int .i64 0), (0, .pointer none), (46, .slice none 0 0), (47, .int .i64 0)] T_conf_Store_config_2_outs fun l w C => match l with | [v0, v1, v2, v3, v4] => T_conf_Store_config_2 (pA v0) (pL v0) (pC v0) (pInt v1) (pPtr v2) (pA v3) (pL v3) (pC v3) (pInt v4) w (fun b115a b115l b115c w => C .normal [.slice b115a b115l b115c] w) (fun ch w => C (.panic ch) [] w) | _ => False

theorem T_conf_Store_config_2_hl : allP (hokL Tryz.prog (hookAt []) (at_ (bodyOf Tryz.f50) [1, 1, 1, 1, 0, 1, 0, 0]) 500) = (True) := by kernel_rfl
theorem T_conf_Store_config_2_hok : HOk Tryz.prog (hookAt []) (at_ (bodyOf Tryz.f50) [1, 1, 1, 1, 0, 1, 0, 0]) 500 := HOk_of _ _ (by rw [T_conf_Store_config_2_hl]; exact trivial)

theorem T_conf_Store_config_2_eq (C : Conts) (X : List Value → World → Prop) (b64a : Option Addr) (b64l : Nat) (b64c : Nat) (x65 : Int) (s66 : Option Addr) (s67a : Option Addr) (s67l : Nat) (s67c : Nat) (x68 : Int) (w : World) : vcCode Tryz.prog (hookAt []) (at_ (bodyOf Tryz.f50) [1, 1, 1, 1, 0, 1, 0, 0]) 500 ⟨[(1, .slice b64a b64l b64c), (48, .int .i64 x65)] ++ [(0, .pointer s66), (46, .slice s67a s67l s67c), (47, .int .i64 x68)], 68, []⟩ w (seqQ (fun e w => takeAll e [(1, .slice none 0 0), (48, .int .i64 0)] fun l => X l w) (blockQ 2 (unitQ T_conf_Store_config_2_outs C))) = T_conf_Store_config_2_body (fun b64a b64l b64c x65 w => X [.slice b64a b64l b64c, .int .i64 x65] w) b64a b64l b64c x65 s66 s67a s67l s67c x68 w (fun b116a b116l b116c w => C .normal [.slice b116a b116l b116c] w) (fun ch w => C (.panic ch) [] w) := by kernel_rfl

theorem T_conf_Store_config_2_ok : UnitOk Tryz.prog H_conf_Store_config_2 (at_ (bodyOf Tryz.f50) [1, 1, 1, 1, 0, 1]) 125 := by
  have hc : at_ (bodyOf Tryz.f50) [1, 1, 1, 1, 0, 1] = .block 2 (.loop (at_ (bodyOf Tryz.f50) [1, 1, 1, 1, 0, 1, 0, 0])) := by kernel_rfl
  rw [hc]
  refine loop_unit_ok (carr := [(1, .slice none 0 0), (48, .int .i64 0)]) (fix := [(0, .pointer none), (46, .slice none 0 0), (47, .int .i64 0)]) (ks := T_conf_Store_config_2_ks) (H := (hookAt [])) (B := fun C X l u w => match l, u with | [v0, v1], [v2, v3, v4] => T_conf_Store_config_2_body (fun b64a b64l b64c x65 w => X [.slice b64a b64l b64c, .int .i64 x65] w) (pA v0) (pL v0) (pC v0) (pInt v1) (pPtr v2) (pA v3) (pL v3) (pC v3) (pInt v4) w (fun b117a b117l b117c w => C .normal [.slice b117a b117l b117c] w) (fun ch w => C (.panic ch) [] w) | _, _ => False) (by kernel_rfl) (by kernel_rfl) T_conf_Store_config_2_hok ?_ ?_
  · intro C X l u w hl hu
    obtain ⟨v0, l_v0, rfl, k_v0, hl_v0⟩ := Kinds.cons_ hl
    obtain ⟨b64a, b64l, b64c, rfl⟩ := kind_slice k_v0
    obtain ⟨v1, l_v1, rfl, k_v1, hl_v1⟩ := Kinds.cons_ hl_v0
    obtain ⟨x65, rfl⟩ := kind_int k_v1
    obtain rfl := Kinds.nil_ hl_v1
    obtain ⟨v2, l_v2, rfl, k_v2, hu_v2⟩ := Kinds.cons_ hu
    obtain ⟨s66, rfl⟩ := kind_pointer k_v2
    obtain ⟨v3, l_v3, rfl, k_v3, hu_v3⟩ := Kinds.cons_ hu_v2
    obtain ⟨s67a, s67l, s67c, rfl⟩ := kind_slice k_v3
    obtain ⟨v4, l_v4, rfl, k_v4, hu_v4⟩ := Kinds.cons_ hu_v3
    obtain ⟨x68, rfl⟩ := kind_int k_v4
    obtain rfl := Kinds.nil_ hu_v4
    exact T_conf_Store_config_2_eq C X b64a b64l b64c x65 s66 s67a s67l s67c x68 w
  · intro l u w C hl hu
    obtain ⟨v0, l_v0, rfl, k_v0, hl_v0⟩ := Kinds.cons_ hl
    obtain ⟨b64a, b64l, b64c, rfl⟩ := kind_slice k_v0
    obtain ⟨v1, l_v1, rfl, k_v1, hl_v1⟩ := Kinds.cons_ hl_v0
    obtain ⟨x65, rfl⟩ := kind_int k_v1
    obtain rfl := Kinds.nil_ hl_v1
    obtain ⟨v2, l_v2, rfl, k_v2, hu_v2⟩ := Kinds.cons_ hu
    obtain ⟨s66, rfl⟩ := kind_pointer k_v2
    obtain ⟨v3, l_v3, rfl, k_v3, hu_v3⟩ := Kinds.cons_ hu_v2
    obtain ⟨s67a, s67l, s67c, rfl⟩ := kind_slice k_v3
    obtain ⟨v4, l_v4, rfl, k_v4, hu_v4⟩ := Kinds.cons_ hu_v3
    obtain ⟨x68, rfl⟩ := kind_int k_v4
    obtain rfl := Kinds.nil_ hu_v4
    constructor
    · intro h X hX
      exact h (fun b64a b64l b64c x65 w => X [.slice b64a b64l b64c, .int .i64 x65] w) (fun b64a b64l b64c x65 w hb => hX [.slice b64a b64l b64c, .int .i64 x65] w ⟨rfl, rfl, trivial⟩ hb)
    · intro h X hX
      exact h (fun l w => match l with | [v0, v1] => X (pA v0) (pL v0) (pC v0) (pInt v1) w | _ => True) (fun l w hl hb => by
        obtain ⟨v0, l_v0, rfl, k_v0, hl_v0⟩ := Kinds.cons_ hl
        obtain ⟨b64a, b64l, b64c, rfl⟩ := kind_slice k_v0
        obtain ⟨v1, l_v1, rfl, k_v1, hl_v1⟩ := Kinds.cons_ hl_v0
        obtain ⟨x65, rfl⟩ := kind_int k_v1
        obtain rfl := Kinds.nil_ hl_v1
        exact hX b64a b64l b64c x65 w hb)

def T_conf_Store_config (s1 : Option Addr) (b2a : Option Addr) (b2l : Nat) (b2c : Nat) (w : World) (R : Ending → World → Prop) : Prop :=
  ∃ a3, s1 = some a3 ∧ ∃ m4 : Option Nat, rd w (a3.add 1) (.map m4) ∧ runV Tryz.prog (Builtin.len_ #[75] 3 #[.map m4]) w (fun r5 w6 => ∃ x7 : Int, r5 = .int .i64 x7 ∧ Calls Tryz.prog 49 #[.slice b2a b2l b2c, .int .i64 x7] w6 (ret (fun r8 w9 => ∃ s10a : Option Addr, ∃ s10l : Nat, ∃ s10c : Nat, r8 = .slice s10a s10l s10c ∧ ∃ a11, s1 = some a11 ∧ ∃ m12 : Option Nat, rd w9 (a11.add 1) (.map m12) ∧ Calls Tryz.prog 38 #[.map m12] w9 (ret (fun r13 w14 => ∃ u15 : Value, one u15 = true ∧ r13 = u15 ∧ Calls Tryz.prog 37 #[u15] w14 (ret (fun r16 w17 => ∃ s18a : Option Addr, ∃ s18l : Nat, ∃ s18c : Nat, r16 = .slice s18a s18l s18c ∧ T_conf_Store_config_1 s10a s10l s10c 0 s1 s18a s18l s18c ((s18l : Nat) : Int) w17 (fun b51a b51l b51c w52 => ∃ a53, s1 = some a53 ∧ ∃ m54 : Option Nat, rd w52 (a53.add 2) (.map m54) ∧ runV Tryz.prog (Builtin.len_ #[76] 3 #[.map m54]) w52 (fun r55 w56 => ∃ x57 : Int, r55 = .int .i64 x57 ∧ Calls Tryz.prog 49 #[.slice b51a b51l b51c, .int .i64 x57] w56 (ret (fun r58 w59 => ∃ s60a : Option Addr, ∃ s60l : Nat, ∃ s60c : Nat, r58 = .slice s60a s60l s60c ∧ Calls Tryz.prog 40 #[.pointer s1] w59 (ret (fun r61 w62 => ∃ s63a : Option Addr, ∃ s63l : Nat, ∃ s63c : Nat, r61 = .slice s63a s63l s63c ∧ T_conf_Store_config_2 s60a s60l s60c 0 s1 s63a s63l s63c ((s63l : Nat) : Int) w62 (fun b118a b118l b118c w119 => R (.returned (.slice b118a b118l b118c)) w119) (pan R)) (pan R))) (pan R))) (pan R)) (pan R)) (pan R))) (pan R))) (pan R))) (pan R)

theorem T_conf_Store_config_hl : allP (hokL Tryz.prog (hookAt [(29, H_conf_Store_config_1), (125, H_conf_Store_config_2)]) (bodyOf Tryz.f50) 1) = (UnitOk Tryz.prog H_conf_Store_config_1 (at_ (bodyOf Tryz.f50) [1, 1, 0, 1]) 29 ∧ UnitOk Tryz.prog H_conf_Store_config_2 (at_ (bodyOf Tryz.f50) [1, 1, 1, 1, 0, 1]) 125 ∧ True) := by kernel_rfl

theorem T_conf_Store_config_eq (s1 : Option Addr) (b2a : Option Addr) (b2l : Nat) (b2c : Nat) (w : World) (R : Ending → World → Prop) : vcCode Tryz.prog (hookAt [(29, H_conf_Store_config_1), (125, H_conf_Store_config_2)]) (bodyOf Tryz.f50) 1 ⟨argEnv [.pointer s1, .slice b2a b2l b2c] 0, Tryz.f50.ntmps, []⟩ w (finQ Tryz.prog Tryz.f50.results.toList R) = T_conf_Store_config s1 b2a b2l b2c w R := by kernel_rfl

theorem T_conf_Store_config_b : Tryz.f50.body = some (bodyOf Tryz.f50) := by kernel_rfl
theorem T_conf_Store_config_s : (quietSel (bodyOf Tryz.f50) && Nat.ble 2 Tryz.f50.ntmps) = true := by kernel_rfl

theorem C_conf_Store_config {s1 : Option Addr} {b2a : Option Addr} {b2l : Nat} {b2c : Nat} {w : World} {R : Ending → World → Prop} (h : T_conf_Store_config s1 b2a b2l b2c w R) : Calls Tryz.prog 50 #[.pointer s1, .slice b2a b2l b2c] w R :=
  calls_of_text (args := [.pointer s1, .slice b2a b2l b2c]) mixed Tryz.func50 T_conf_Store_config_b T_conf_Store_config_s (HOk_of _ _ (by rw [T_conf_Store_config_hl]; exact ⟨T_conf_Store_config_1_ok, T_conf_Store_config_2_ok, trivial⟩)) (by rw [T_conf_Store_config_eq]; exact h)

/-! slices.Sorted[int] -/
def T_slices_Sorted_int (seq1g : FuncId) (seq1i : Array Value) (seq1c : Array Value) (w : World) (R : Ending → World → Prop) : Prop :=
  Calls Tryz.prog 91 #[.func (.func seq1g) seq1i seq1c] w (ret (fun r2 w3 => ∃ s4a : Option Addr, ∃ s4l : Nat, ∃ s4c : Nat, r2 = .slice s4a s4l s4c ∧ Calls Tryz.prog 92 #[.slice s4a s4l s4c] w3 (ret (fun r5 w6 => r5 = .tuple #[] ∧ R (.returned (.slice s4a s4l s4c)) w6) (pan R))) (pan R))

theorem T_slices_Sorted_int_hl : allP (hokL Tryz.prog (hookAt []) (bodyOf Tryz.f51) 1) = (True) := by kernel_rfl

theorem T_slices_Sorted_int_eq (seq1g : FuncId) (seq1i : Array Value) (seq1c : Array Value) (w : World) (R : Ending → World → Prop) : vcCode Tryz.prog (hookAt []) (bodyOf Tryz.f51) 1 ⟨argEnv [.func (.func seq1g) seq1i seq1c] 0, Tryz.f51.ntmps, []⟩ w (finQ Tryz.prog Tryz.f51.results.toList R) = T_slices_Sorted_int seq1g seq1i seq1c w R := by kernel_rfl

theorem T_slices_Sorted_int_b : Tryz.f51.body = some (bodyOf Tryz.f51) := by kernel_rfl
theorem T_slices_Sorted_int_s : (quietSel (bodyOf Tryz.f51) && Nat.ble 1 Tryz.f51.ntmps) = true := by kernel_rfl

theorem C_slices_Sorted_int {seq1g : FuncId} {seq1i : Array Value} {seq1c : Array Value} {w : World} {R : Ending → World → Prop} (h : T_slices_Sorted_int seq1g seq1i seq1c w R) : Calls Tryz.prog 51 #[.func (.func seq1g) seq1i seq1c] w R :=
  calls_of_text (args := [.func (.func seq1g) seq1i seq1c]) mixed Tryz.func51 T_slices_Sorted_int_b T_slices_Sorted_int_s (HOk_of _ _ (by rw [T_slices_Sorted_int_hl]; exact trivial)) (by rw [T_slices_Sorted_int_eq]; exact h)

/-! maps.Keys[map[int]tollgate/conf.seen,int,tollgate/conf.seen] -/
def T_maps_Keys_conf_seen (m1 : Option Nat) (w : World) (R : Ending → World → Prop) : Prop :=
  let w2 : World := w.alloc (.cells #[.map m1] 77)
  R (.returned (.func (.func 93) #[] #[.pointer (some (⟨w.heap.size, 0, none⟩ : Addr))])) w2

theorem T_maps_Keys_conf_seen_hl : allP (hokL Tryz.prog (hookAt []) (bodyOf Tryz.f52) 1) = (True) := by kernel_rfl

theorem T_maps_Keys_conf_seen_eq (m1 : Option Nat) (w : World) (R : Ending → World → Prop) : vcCode Tryz.prog (hookAt []) (bodyOf Tryz.f52) 1 ⟨argEnv [.map m1] 0, Tryz.f52.ntmps, []⟩ w (finQ Tryz.prog Tryz.f52.results.toList R) = T_maps_Keys_conf_seen m1 w R := by kernel_rfl

theorem T_maps_Keys_conf_seen_b : Tryz.f52.body = some (bodyOf Tryz.f52) := by kernel_rfl
theorem T_maps_Keys_conf_seen_s : (quietSel (bodyOf Tryz.f52) && Nat.ble 1 Tryz.f52.ntmps) = true := by kernel_rfl

theorem C_maps_Keys_conf_seen {m1 : Option Nat} {w : World} {R : Ending → World → Prop} (h : T_maps_Keys_conf_seen m1 w R) : Calls Tryz.prog 52 #[.map m1] w R :=
  calls_of_text (args := [.map m1]) mixed Tryz.func52 T_maps_Keys_conf_seen_b T_maps_Keys_conf_seen_s (HOk_of _ _ (by rw [T_maps_Keys_conf_seen_hl]; exact trivial)) (by rw [T_maps_Keys_conf_seen_eq]; exact h)

/-! maps.Clone[map[string][]tollgate/api.Target,string,[]tollgate/api.Target] -/
def T_maps_Clone_map_string_api_Target_string_api_Target (m1 : Option Nat) (w : World) (R : Ending → World → Prop) : Prop :=
  if m1.isNone = true then (R (.returned (.map none)) w) else (runV Tryz.prog (callFunc 96 #[.iface 75 (.map m1)]) w (nxv (fun r2 w3 => ∃ u4 : Value, one u4 = true ∧ r2 = u4 ∧ runV Tryz.prog (Instr.typeAssert u4 20 75 false) w3 (fun r5 w6 => ∃ m7 : Option Nat, r5 = .map m7 ∧ R (.returned (.map m7)) w6) (pan R))) (pan R))

theorem T_maps_Clone_map_string_api_Target_string_api_Target_hl : allP (hokL Tryz.prog (hookAt []) (bodyOf Tryz.f56) 1) = (True) := by kernel_rfl

theorem T_maps_Clone_map_string_api_Target_string_api_Target_eq (m1 : Option Nat) (w : World) (R : Ending → World → Prop) : vcCode Tryz.prog (hookAt []) (bodyOf Tryz.f56) 1 ⟨argEnv [.map m1] 0, Tryz.f56.ntmps, []⟩ w (finQ Tryz.prog Tryz.f56.results.toList R) = T_maps_Clone_map_string_api_Target_string_api_Target m1 w R := by kernel_rfl

theorem T_maps_Clone_map_string_api_Target_string_api_Target_b : Tryz.f56.body = some (bodyOf Tryz.f56) := by kernel_rfl
theorem T_maps_Clone_map_string_api_Target_string_api_Target_s : (quietSel (bodyOf Tryz.f56) && Nat.ble 1 Tryz.f56.ntmps) = true := by kernel_rfl

theorem C_maps_Clone_map_string_api_Target_string_api_Target {m1 : Option Nat} {w : World} {R : Ending → World → Prop} (h : T_maps_Clone_map_string_api_Target_string_api_Target m1 w R) : Calls Tryz.prog 56 #[.map m1] w R :=
  calls_of_text (args := [.map m1]) mixed Tryz.func56 T_maps_Clone_map_string_api_Target_string_api_Target_b T_maps_Clone_map_string_api_Target_string_api_Target_s (HOk_of _ _ (by rw [T_maps_Clone_map_string_api_Target_string_api_Target_hl]; exact trivial)) (by rw [T_maps_Clone_map_string_api_Target_string_api_Target_eq]; exact h)

/-! maps.Clone[map[tollgate/conf.place]string,tollgate/conf.place,string] -/
def T_maps_Clone_string (m1 : Option Nat) (w : World) (R : Ending → World → Prop) : Prop :=
  if m1.isNone = true then (R (.returned (.map none)) w) else (runV Tryz.prog (callFunc 96 #[.iface 76 (.map m1)]) w (nxv (fun r2 w3 => ∃ u4 : Value, one u4 = true ∧ r2 = u4 ∧ runV Tryz.prog (Instr.typeAssert u4 20 76 false) w3 (fun r5 w6 => ∃ m7 : Option Nat, r5 = .map m7 ∧ R (.returned (.map m7)) w6) (pan R))) (pan R))

theorem T_maps_Clone_string_hl : allP (hokL Tryz.prog (hookAt []) (bodyOf Tryz.f57) 1) = (True) := by kernel_rfl

theorem T_maps_Clone_string_eq (m1 : Option Nat) (w : World) (R : Ending → World → Prop) : vcCode Tryz.prog (hookAt []) (bodyOf Tryz.f57) 1 ⟨argEnv [.map m1] 0, Tryz.f57.ntmps, []⟩ w (finQ Tryz.prog Tryz.f57.results.toList R) = T_maps_Clone_string m1 w R := by kernel_rfl

theorem T_maps_Clone_string_b : Tryz.f57.body = some (bodyOf Tryz.f57) := by kernel_rfl
theorem T_maps_Clone_string_s : (quietSel (bodyOf Tryz.f57) && Nat.ble 1 Tryz.f57.ntmps) = true := by kernel_rfl

theorem C_maps_Clone_string {m1 : Option Nat} {w : World} {R : Ending → World → Prop} (h : T_maps_Clone_string m1 w R) : Calls Tryz.prog 57 #[.map m1] w R :=
  calls_of_text (args := [.map m1]) mixed Tryz.func57 T_maps_Clone_string_b T_maps_Clone_string_s (HOk_of _ _ (by rw [T_maps_Clone_string_hl]; exact trivial)) (by rw [T_maps_Clone_string_eq]; exact h)

/-! maps.Clone[map[int]tollgate/conf.seen,int,tollgate/conf.seen] -/
def T_maps_Clone_conf_seen (m1 : Option Nat) (w : World) (R : Ending → World → Prop) : Prop :=
  if m1.isNone = true then (R (.returned (.map none)) w) else (runV Tryz.prog (callFunc 96 #[.iface 77 (.map m1)]) w (nxv (fun r2 w3 => ∃ u4 : Value, one u4 = true ∧ r2 = u4 ∧ runV Tryz.prog (Instr.typeAssert u4 20 77 false) w3 (fun r5 w6 => ∃ m7 : Option Nat, r5 = .map m7 ∧ R (.returned (.map m7)) w6) (pan R))) (pan R))

theorem T_maps_Clone_conf_seen_hl : allP (hokL Tryz.prog (hookAt []) (bodyOf Tryz.f58) 1) = (True) := by kernel_rfl

theorem T_maps_Clone_conf_seen_eq (m1 : Option Nat) (w : World) (R : Ending → World → Prop) : vcCode Tryz.prog (hookAt []) (bodyOf Tryz.f58) 1 ⟨argEnv [.map m1] 0, Tryz.f58.ntmps, []⟩ w (finQ Tryz.prog Tryz.f58.results.toList R) = T_maps_Clone_conf_seen m1 w R := by kernel_rfl

theorem T_maps_Clone_conf_seen_b : Tryz.f58.body = some (bodyOf Tryz.f58) := by kernel_rfl
theorem T_maps_Clone_conf_seen_s : (quietSel (bodyOf Tryz.f58) && Nat.ble 1 Tryz.f58.ntmps) = true := by kernel_rfl

theorem C_maps_Clone_conf_seen {m1 : Option Nat} {w : World} {R : Ending → World → Prop} (h : T_maps_Clone_conf_seen m1 w R) : Calls Tryz.prog 58 #[.map m1] w R :=
  calls_of_text (args := [.map m1]) mixed Tryz.func58 T_maps_Clone_conf_seen_b T_maps_Clone_conf_seen_s (HOk_of _ _ (by rw [T_maps_Clone_conf_seen_hl]; exact trivial)) (by rw [T_maps_Clone_conf_seen_eq]; exact h)

/-! tollgate/conf.Load$1 -/
def T_conf_Load_c1 (cap1 : Addr) (cap2 : Addr) (w : World) (R : Ending → World → Prop) : Prop :=
  ∃ b3 : Bool, rd w cap1 (.bool b3) ∧ if b3 = true then (∃ p4 : Option Addr, rd w cap2 (.pointer p4) ∧ Calls Tryz.prog 50 #[.pointer p4, .slice none 0 0] w (ret (fun r5 w6 => ∃ s7a : Option Addr, ∃ s7l : Nat, ∃ s7c : Nat, r5 = .slice s7a s7l s7c ∧ R (.returned (.bool (decide (((s7l : Nat) : Int) ≤ 12000)))) w6) (pan R))) else (R (.returned (.bool false)) w)

theorem T_conf_Load_c1_hl : allP (hokL Tryz.prog (hookAt []) (bodyOf Tryz.f71) 1) = (True) := by kernel_rfl

theorem T_conf_Load_c1_eq (cap1 : Addr) (cap2 : Addr) (w : World) (R : Ending → World → Prop) : vcCode Tryz.prog (hookAt []) (bodyOf Tryz.f71) 1 ⟨argEnv [.pointer (some cap1), .pointer (some cap2)] 0, Tryz.f71.ntmps, []⟩ w (finQ Tryz.prog Tryz.f71.results.toList R) = T_conf_Load_c1 cap1 cap2 w R := by kernel_rfl

theorem T_conf_Load_c1_b : Tryz.f71.body = some (bodyOf Tryz.f71) := by kernel_rfl
theorem T_conf_Load_c1_s : (quietSel (bodyOf Tryz.f71) && Nat.ble 2 Tryz.f71.ntmps) = true := by kernel_rfl

theorem C_conf_Load_c1 {cap1 : Addr} {cap2 : Addr} {w : World} {R : Ending → World → Prop} (h : T_conf_Load_c1 cap1 cap2 w R) : Calls Tryz.prog 71 #[.pointer (some cap1), .pointer (some cap2)] w R :=
  calls_of_text (args := [.pointer (some cap1), .pointer (some cap2)]) mixed Tryz.func71 T_conf_Load_c1_b T_conf_Load_c1_s (HOk_of _ _ (by rw [T_conf_Load_c1_hl]; exact trivial)) (by rw [T_conf_Load_c1_eq]; exact h)

/-! slices.Collect[string] -/
def T_slices_Collect_string (seq1g : FuncId) (seq1i : Array Value) (seq1c : Array Value) (w : World) (R : Ending → World → Prop) : Prop :=
  Calls Tryz.prog 108 #[.slice none 0 0, .func (.func seq1g) seq1i seq1c] w (ret (fun r2 w3 => ∃ s4a : Option Addr, ∃ s4l : Nat, ∃ s4c : Nat, r2 = .slice s4a s4l s4c ∧ R (.returned (.slice s4a s4l s4c)) w3) (pan R))

theorem T_slices_Collect_string_hl : allP (hokL Tryz.prog (hookAt []) (bodyOf Tryz.f73) 1) = (True) := by kernel_rfl

theorem T_slices_Collect_string_eq (seq1g : FuncId) (seq1i : Array Value) (seq1c : Array Value) (w : World) (R : Ending → World → Prop) : vcCode Tryz.prog (hookAt []) (bodyOf Tryz.f73) 1 ⟨argEnv [.func (.func seq1g) seq1i seq1c] 0, Tryz.f73.ntmps, []⟩ w (finQ Tryz.prog Tryz.f73.results.toList R) = T_slices_Collect_string seq1g seq1i seq1c w R := by kernel_rfl

theorem T_slices_Collect_string_b : Tryz.f73.body = some (bodyOf Tryz.f73) := by kernel_rfl
theorem T_slices_Collect_string_s : (quietSel (bodyOf Tryz.f73) && Nat.ble 1 Tryz.f73.ntmps) = true := by kernel_rfl

theorem C_slices_Collect_string {seq1g : FuncId} {seq1i : Array Value} {seq1c : Array Value} {w : World} {R : Ending → World → Prop} (h : T_slices_Collect_string seq1g seq1i seq1c w R) : Calls Tryz.prog 73 #[.func (.func seq1g) seq1i seq1c] w R :=
  calls_of_text (args := [.func (.func seq1g) seq1i seq1c]) mixed Tryz.func73 T_slices_Collect_string_b T_slices_Collect_string_s (HOk_of _ _ (by rw [T_slices_Collect_string_hl]; exact trivial)) (by rw [T_slices_Collect_string_eq]; exact h)

/-! slices.SortedFunc[tollgate/conf.place] -/
def T_slices_SortedFunc_conf_place (seq1g : FuncId) (seq1i : Array Value) (seq1c : Array Value) (cmp2g : FuncId) (cmp2i : Array Value) (cmp2c : Array Value) (w : World) (R : Ending → World → Prop) : Prop :=
  Calls Tryz.prog 111 #[.func (.func seq1g) seq1i seq1c] w (ret (fun r3 w4 => ∃ s5a : Option Addr, ∃ s5l : Nat, ∃ s5c : Nat, r3 = .slice s5a s5l s5c ∧ Calls Tryz.prog 112 #[.slice s5a s5l s5c, .func (.func cmp2g) cmp2i cmp2c] w4 (ret (fun r6 w7 => r6 = .tuple #[] ∧ R (.returned (.slice s5a s5l s5c)) w7) (pan R))) (pan R))

theorem T_slices_SortedFunc_conf_place_hl : allP (hokL Tryz.prog (hookAt []) (bodyOf Tryz.f76) 1) = (True) := by kernel_rfl

theorem T_slices_SortedFunc_conf_place_eq (seq1g : FuncId) (seq1i : Array Value) (seq1c : Array Value) (cmp2g : FuncId) (cmp2i : Array Value) (cmp2c : Array Value) (w : World) (R : Ending → World → Prop) : vcCode Tryz.prog (hookAt []) (bodyOf Tryz.f76) 1 ⟨argEnv [.func (.func seq1g) seq1i seq1c, .func (.func cmp2g) cmp2i cmp2c] 0, Tryz.f76.ntmps, []⟩ w (finQ Tryz.prog Tryz.f76.results.toList R) = T_slices_SortedFunc_conf_place seq1g seq1i seq1c cmp2g cmp2i cmp2c w R := by kernel_rfl

theorem T_slices_SortedFunc_conf_place_b : Tryz.f76.body = some (bodyOf Tryz.f76) := by kernel_rfl
theorem T_slices_SortedFunc_conf_place_s : (quietSel (bodyOf Tryz.f76) && Nat.ble 2 Tryz.f76.ntmps) = true := by kernel_rfl

theorem C_slices_SortedFunc_conf_place {seq1g : FuncId} {seq1i : Array Value} {seq1c : Array Value} {cmp2g : FuncId} {cmp2i : Array Value} {cmp2c : Array Value} {w : World} {R : Ending → World → Prop} (h : T_slices_SortedFunc_conf_place seq1g seq1i seq1c cmp2g cmp2i cmp2c w R) : Calls Tryz.prog 76 #[.func (.func seq1g) seq1i seq1c, .func (.func cmp2g) cmp2i cmp2c] w R :=
  calls_of_text (args := [.func (.func seq1g) seq1i seq1c, .func (.func cmp2g) cmp2i cmp2c]) mixed Tryz.func76 T_slices_SortedFunc_conf_place_b T_slices_SortedFunc_conf_place_s (HOk_of _ _ (by rw [T_slices_SortedFunc_conf_place_hl]; exact trivial)) (by rw [T_slices_SortedFunc_conf_place_eq]; exact h)

/-! maps.Keys[map[tollgate/conf.place]string,tollgate/conf.place,string] -/
def T_maps_Keys_string (m1 : Option Nat) (w : World) (R : Ending → World → Prop) : Prop :=
  let w2 : World := w.alloc (.cells #[.map m1] 76)
  R (.returned (.func (.func 113) #[] #[.pointer (some (⟨w.heap.size, 0, none⟩ : Addr))])) w2

theorem T_maps_Keys_string_hl : allP (hokL Tryz.prog (hookAt []) (bodyOf Tryz.f77) 1) = (True) := by kernel_rfl

theorem T_maps_Keys_string_eq (m1 : Option Nat) (w : World) (R : Ending → World → Prop) : vcCode Tryz.prog (hookAt []) (bodyOf Tryz.f77) 1 ⟨argEnv [.map m1] 0, Tryz.f77.ntmps, []⟩ w (finQ Tryz.prog Tryz.f77.results.toList R) = T_maps_Keys_string m1 w R := by kernel_rfl

theorem T_maps_Keys_string_b : Tryz.f77.body = some (bodyOf Tryz.f77) := by kernel_rfl
theorem T_maps_Keys_string_s : (quietSel (bodyOf Tryz.f77) && Nat.ble 1 Tryz.f77.ntmps) = true := by kernel_rfl

theorem C_maps_Keys_string {m1 : Option Nat} {w : World} {R : Ending → World → Prop} (h : T_maps_Keys_string m1 w R) : Calls Tryz.prog 77 #[.map m1] w R :=
  calls_of_text (args := [.map m1]) mixed Tryz.func77 T_maps_Keys_string_b T_maps_Keys_string_s (HOk_of _ _ (by rw [T_maps_Keys_string_hl]; exact trivial)) (by rw [T_maps_Keys_string_eq]; exact h)

/-! slices.Collect[int] -/
def T_slices_Collect_int (seq1g : FuncId) (seq1i : Array Value) (seq1c : Array Value) (w : World) (R : Ending → World → Prop) : Prop :=
  Calls Tryz.prog 120 #[.slice none 0 0, .func (.func seq1g) seq1i seq1c] w (ret (fun r2 w3 => ∃ s4a : Option Addr, ∃ s4l : Nat, ∃ s4c : Nat, r2 = .slice s4a s4l s4c ∧ R (.returned (.slice s4a s4l s4c)) w3) (pan R))

theorem T_slices_Collect_int_hl : allP (hokL Tryz.prog (hookAt []) (bodyOf Tryz.f91) 1) = (True) := by kernel_rfl

theorem T_slices_Collect_int_eq (seq1g : FuncId) (seq1i : Array Value) (seq1c : Array Value) (w : World) (R : Ending → World → Prop) : vcCode Tryz.prog (hookAt []) (bodyOf Tryz.f91) 1 ⟨argEnv [.func (.func seq1g) seq1i seq1c] 0, Tryz.f91.ntmps, []⟩ w (finQ Tryz.prog Tryz.f91.results.toList R) = T_slices_Collect_int seq1g seq1i seq1c w R := by kernel_rfl

theorem T_slices_Collect_int_b : Tryz.f91.body = some (bodyOf Tryz.f91) := by kernel_rfl
theorem T_slices_Collect_int_s : (quietSel (bodyOf Tryz.f91) && Nat.ble 1 Tryz.f91.ntmps) = true := by kernel_rfl

theorem C_slices_Collect_int {seq1g : FuncId} {seq1i : Array Value} {seq1c : Array Value} {w : World} {R : Ending → World → Prop} (h : T_slices_Collect_int seq1g seq1i seq1c w R) : Calls Tryz.prog 91 #[.func (.func seq1g) seq1i seq1c] w R :=
  calls_of_text (args := [.func (.func seq1g) seq1i seq1c]) mixed Tryz.func91 T_slices_Collect_int_b T_slices_Collect_int_s (HOk_of _ _ (by rw [T_slices_Collect_int_hl]; exact trivial)) (by rw [T_slices_Collect_int_eq]; exact h)

/-! slices.Collect[tollgate/conf.place] -/
def T_slices_Collect_conf_place (seq1g : FuncId) (seq1i : Array Value) (seq1c : Array Value) (w : World) (R : Ending → World → Prop) : Prop :=
  Calls Tryz.prog 138 #[.slice none 0 0, .func (.func seq1g) seq1i seq1c] w (ret (fun r2 w3 => ∃ s4a : Option Addr, ∃ s4l : Nat, ∃ s4c : Nat, r2 = .slice s4a s4l s4c ∧ R (.returned (.slice s4a s4l s4c)) w3) (pan R))

theorem T_slices_Collect_conf_place_hl : allP (hokL Tryz.prog (hookAt []) (bodyOf Tryz.f111) 1) = (True) := by kernel_rfl

theorem T_slices_Collect_conf_place_eq (seq1g : FuncId) (seq1i : Array Value) (seq1c : Array Value) (w : World) (R : Ending → World → Prop) : vcCode Tryz.prog (hookAt []) (bodyOf Tryz.f111) 1 ⟨argEnv [.func (.func seq1g) seq1i seq1c] 0, Tryz.f111.ntmps, []⟩ w (finQ Tryz.prog Tryz.f111.results.toList R) = T_slices_Collect_conf_place seq1g seq1i seq1c w R := by kernel_rfl

theorem T_slices_Collect_conf_place_b : Tryz.f111.body = some (bodyOf Tryz.f111) := by kernel_rfl
theorem T_slices_Collect_conf_place_s : (quietSel (bodyOf Tryz.f111) && Nat.ble 1 Tryz.f111.ntmps) = true := by kernel_rfl

theorem C_slices_Collect_conf_place {seq1g : FuncId} {seq1i : Array Value} {seq1c : Array Value} {w : World} {R : Ending → World → Prop} (h : T_slices_Collect_conf_place seq1g seq1i seq1c w R) : Calls Tryz.prog 111 #[.func (.func seq1g) seq1i seq1c] w R :=
  calls_of_text (args := [.func (.func seq1g) seq1i seq1c]) mixed Tryz.func111 T_slices_Collect_conf_place_b T_slices_Collect_conf_place_s (HOk_of _ _ (by rw [T_slices_Collect_conf_place_hl]; exact trivial)) (by rw [T_slices_Collect_conf_place_eq]; exact h)

end Go.Proofs.YtcpmfjclkdjfmaaGreat
