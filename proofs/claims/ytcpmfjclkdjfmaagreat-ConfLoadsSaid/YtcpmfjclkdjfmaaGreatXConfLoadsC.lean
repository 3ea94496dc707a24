/-
  Texts of this claim's own, laid into one: Gc, VcSep, VcHeap, VcSlice, VcMap, VcLaw, VcFz, VcIter, VcKeys.
-/
import Derived.Test.YtcpmfjclkdjfmaaGreatProg
import Derived.KernelRfl
import Derived.Laws.AppendOwn
import Derived.Maps.AppendAt
import Derived.Below
import Derived.Laws.BytesString
import Derived.Laws.Strings
import Derived.ChangeSlices
import Derived.Maps.RangeRun
import Derived.Sort.MapsRangeIn
import Derived.RangeFuncGives
import Derived.TacticsInMore
import Derived.WalkKit
import Derived.Test.YtcpmfjclkdjfmaaGreatXConfLoadsA
import Derived.Test.YtcpmfjclkdjfmaaGreatXConfLoadsB
set_option linter.all false
/-
  What the functions' code comes to; printed by a program of this claim's own.
-/
namespace Go.Proofs.YtcpmfjclkdjfmaaGreat
open Go Go.Vc
set_option maxRecDepth 100000
set_option linter.unusedVariables false

/-! (*tollgate/conf.Store).Config -/
def T_conf_Store_Config_1_body (X : Int → World → Prop) (x19 : Int) (s20 : Option Addr) (c21 : Addr) (s22a : Option Addr) (s22l : Nat) (s22c : Nat) (x23 : Int) (w : World) (Kn : World → Prop) (Kp : List PanicEntry → World → Prop)  : Prop :=
  if (decide ((x19 : Int) < x23)) = true then (0 ≤ (x19 : Int) ∧ (x19 : Int) < ((s22l : Nat) : Int) ∧ ∃ b24, s22a = some b24 ∧ ∃ s25 : ByteArray, rd w (b24.add ((x19 : Int).toNat * 1)) (.string s25) ∧ let w26 : World := w.drew
  ∃ s27a : Option Addr, ∃ s27l : Nat, ∃ s27c : Nat, rd w26 (c21.add 2) (.slice s27a s27l s27c) ∧ ∃ a28, s20 = some a28 ∧ ∃ m29 : Option Nat, rd w26 (a28.add 1) (.map m29) ∧ runV Tryz.prog (Instr.lookup 75 (.map m29) (.string s25) false) w26 (fun r30 w31 => ∃ s32a : Option Addr, ∃ s32l : Nat, ∃ s32c : Nat, r30 = .slice s32a s32l s32c ∧ (rd w31 (c21.add 2) (.slice s27a s27l s27c) ∧ True) ∧ Calls Tryz.prog 39 #[.slice s32a s32l s32c] w31 (ret (fun r33 w34 => ∃ s35a : Option Addr, ∃ s35l : Nat, ∃ s35c : Nat, r33 = .slice s35a s35l s35c ∧ (rd w34 (c21.add 2) (.slice s27a s27l s27c) ∧ True) ∧ let w36 : World := w34.alloc (.cells #[.string s25, .slice s35a s35l s35c] 34)
  (rd w36 (c21.add 2) (.slice s27a s27l s27c) ∧ True) ∧ runV Tryz.prog (Builtin.append_ #[28, 28] 28 #[.slice s27a s27l s27c, .slice (some (⟨w34.heap.size, 0, none⟩ : Addr)) 1 1]) w36 (fun r37 w38 => ∃ s39a : Option Addr, ∃ s39l : Nat, ∃ s39c : Nat, r37 = .slice s39a s39l s39c ∧ (True) ∧ (.slice s39a s39l s39c : Value).cells.size = 1 ∧ wrOk w38 (c21.add 2) (.slice s39a s39l s39c) ∧ let w40 : World := wr w38 (c21.add 2) (.slice s39a s39l s39c)
  (True) ∧ X (IntKind.wrap .i64 ((x19 : Int) + 1)) w40) Kp) Kp)) Kp) else (Kn  w)

def T_conf_Store_Config_1 (x19 : Int) (s20 : Option Addr) (c21 : Addr) (s22a : Option Addr) (s22l : Nat) (s22c : Nat) (x23 : Int) (w : World) (Kn : World → Prop) (Kp : List PanicEntry → World → Prop) : Prop :=
  ∀ X : Int → World → Prop, (∀ (x19 : Int) (w : World), T_conf_Store_Config_1_body X x19 s20 c21 s22a s22l s22c x23 w Kn Kp → X x19 w) → X x19 w

def T_conf_Store_Config_1_outs : Exit → Option (List (Nat × Value)) := fun x => match x with | .normal => some [] | .panic _ => some [] | _ => none

def T_conf_Store_Config_1_ks : Nat → Bool := ksOf [5, 23, 24, 25, 26, 27, 28, 29, 30, 31, 32, 33, 34, 35, 36, 37, 38, 39, 40, 41]

def H_conf_Store_Config_1 : Env → World → QT → Prop := unitHook 67 T_conf_Store_Config_1_ks [(23, .int .i64 0), (0, .pointer none), (3, .pointer (some ⟨0, 0, none⟩)), (21, .slice none 0 0), (22, .int .i64 0)] T_conf_Store_Config_1_outs fun l w C => match l with | [v0, v1, v2, v3, v4] => T_conf_Store_Config_1 (pInt v0) (pPtr v1) (pAddr v2) (pA v3) (pL v3) (pC v3) (pInt v4) w (fun w => C .normal [] w) (fun ch w => C (.panic ch) [] w) | _ => False

theorem T_conf_Store_Config_1_hl : allP (hokL Tryz.prog (hookAt []) (at_ (bodyOf Tryz.f14) [1, 1, 1, 0, 1, 0, 0]) 244) = (True) := by kernel_rfl
theorem T_conf_Store_Config_1_hok : HOk Tryz.prog (hookAt []) (at_ (bodyOf Tryz.f14) [1, 1, 1, 0, 1, 0, 0]) 244 := HOk_of _ _ (by rw [T_conf_Store_Config_1_hl]; exact trivial)

theorem T_conf_Store_Config_1_eq (C : Conts) (X : List Value → World → Prop) (x19 : Int) (s20 : Option Addr) (c21 : Addr) (s22a : Option Addr) (s22l : Nat) (s22c : Nat) (x23 : Int) (w : World) : vcCode Tryz.prog (hookAt []) (at_ (bodyOf Tryz.f14) [1, 1, 1, 0, 1, 0, 0]) 244 ⟨[(23, .int .i64 x19)] ++ [(0, .pointer s20), (3, .pointer (some c21)), (21, .slice s22a s22l s22c), (22, .int .i64 x23)], 67, []⟩ w (seqQ (fun e w => takeAll e [(23, .int .i64 0)] fun l => X l w) (blockQ 0 (unitQ T_conf_Store_Config_1_outs C))) = T_conf_Store_Config_1_body (fun x19 w => X [.int .i64 x19] w) x19 s20 c21 s22a s22l s22c x23 w (fun w => C .normal [] w) (fun ch w => C (.panic ch) [] w) := by kernel_rfl

theorem T_conf_Store_Config_1_ok : UnitOk Tryz.prog H_conf_Store_Config_1 (at_ (bodyOf Tryz.f14) [1, 1, 1, 0, 1]) 61 := by
  have hc : at_ (bodyOf Tryz.f14) [1, 1, 1, 0, 1] = .block 0 (.loop (at_ (bodyOf Tryz.f14) [1, 1, 1, 0, 1, 0, 0])) := by kernel_rfl
  rw [hc]
  refine loop_unit_ok (carr := [(23, .int .i64 0)]) (fix := [(0, .pointer none), (3, .pointer (some ⟨0, 0, none⟩)), (21, .slice none 0 0), (22, .int .i64 0)]) (ks := T_conf_Store_Config_1_ks) (H := (hookAt [])) (B := fun C X l u w => match l, u with | [v0], [v1, v2, v3, v4] => T_conf_Store_Config_1_body (fun x19 w => X [.int .i64 x19] w) (pInt v0) (pPtr v1) (pAddr v2) (pA v3) (pL v3) (pC v3) (pInt v4) w (fun w => C .normal [] w) (fun ch w => C (.panic ch) [] w) | _, _ => False) (by kernel_rfl) (by kernel_rfl) T_conf_Store_Config_1_hok ?_ ?_
  · intro C X l u w hl hu
    obtain ⟨v0, l_v0, rfl, k_v0, hl_v0⟩ := Kinds.cons_ hl
    obtain ⟨x19, rfl⟩ := kind_int k_v0
    obtain rfl := Kinds.nil_ hl_v0
    obtain ⟨v1, l_v1, rfl, k_v1, hu_v1⟩ := Kinds.cons_ hu
    obtain ⟨s20, rfl⟩ := kind_pointer k_v1
    obtain ⟨v2, l_v2, rfl, k_v2, hu_v2⟩ := Kinds.cons_ hu_v1
    obtain ⟨c21, rfl⟩ := kind_addr k_v2
    obtain ⟨v3, l_v3, rfl, k_v3, hu_v3⟩ := Kinds.cons_ hu_v2
    obtain ⟨s22a, s22l, s22c, rfl⟩ := kind_slice k_v3
    obtain ⟨v4, l_v4, rfl, k_v4, hu_v4⟩ := Kinds.cons_ hu_v3
    obtain ⟨x23, rfl⟩ := kind_int k_v4
    obtain rfl := Kinds.nil_ hu_v4
    exact T_conf_Store_Config_1_eq C X x19 s20 c21 s22a s22l s22c x23 w
  · intro l u w C hl hu
    obtain ⟨v0, l_v0, rfl, k_v0, hl_v0⟩ := Kinds.cons_ hl
    obtain ⟨x19, rfl⟩ := kind_int k_v0
    obtain rfl := Kinds.nil_ hl_v0
    obtain ⟨v1, l_v1, rfl, k_v1, hu_v1⟩ := Kinds.cons_ hu
    obtain ⟨s20, rfl⟩ := kind_pointer k_v1
    obtain ⟨v2, l_v2, rfl, k_v2, hu_v2⟩ := Kinds.cons_ hu_v1
    obtain ⟨c21, rfl⟩ := kind_addr k_v2
    obtain ⟨v3, l_v3, rfl, k_v3, hu_v3⟩ := Kinds.cons_ hu_v2
    obtain ⟨s22a, s22l, s22c, rfl⟩ := kind_slice k_v3
    obtain ⟨v4, l_v4, rfl, k_v4, hu_v4⟩ := Kinds.cons_ hu_v3
    obtain ⟨x23, rfl⟩ := kind_int k_v4
    obtain rfl := Kinds.nil_ hu_v4
    constructor
    · intro h X hX
      exact h (fun x19 w => X [.int .i64 x19] w) (fun x19 w hb => hX [.int .i64 x19] w ⟨rfl, trivial⟩ hb)
    · intro h X hX
      exact h (fun l w => match l with | [v0] => X (pInt v0) w | _ => True) (fun l w hl hb => by
        obtain ⟨v0, l_v0, rfl, k_v0, hl_v0⟩ := Kinds.cons_ hl
        obtain ⟨x19, rfl⟩ := kind_int k_v0
        obtain rfl := Kinds.nil_ hl_v0
        exact hX x19 w hb)

def T_conf_Store_Config_2_body (X : Int → World → Prop) (x45 : Int) (s46 : Option Addr) (c47 : Addr) (s48a : Option Addr) (s48l : Nat) (s48c : Nat) (x49 : Int) (w : World) (Kn : World → Prop) (Kp : List PanicEntry → World → Prop)  : Prop :=
  if (decide ((x45 : Int) < x49)) = true then (0 ≤ (x45 : Int) ∧ (x45 : Int) < ((s48l : Nat) : Int) ∧ ∃ b50, s48a = some b50 ∧ ∃ s51 : ByteArray, ∃ s52 : ByteArray, rd w (b50.add ((x45 : Int).toNat * 2)) (.agg #[.string s51, .string s52]) ∧ let w53 : World := w.alloc (.cells #[.string (ByteArray.mk #[]), .string (ByteArray.mk #[])] 89)
  (.agg #[.string s51, .string s52] : Value).cells.size = 2 ∧ wrOk w53 (⟨w.heap.size, 0, none⟩ : Addr) (.agg #[.string s51, .string s52]) ∧ let w54 : World := wr w53 (⟨w.heap.size, 0, none⟩ : Addr) (.agg #[.string s51, .string s52])
  let w55 : World := w54.drew
  ∃ s56a : Option Addr, ∃ s56l : Nat, ∃ s56c : Nat, rd w55 (c47.add 1) (.slice s56a s56l s56c) ∧ ∃ s57 : ByteArray, rd w55 (⟨w.heap.size, 0, none⟩ : Addr) (.string s57) ∧ ∃ s58 : ByteArray, rd w55 ((⟨w.heap.size, 0, none⟩ : Addr).add 1) (.string s58) ∧ ∃ a59, s46 = some a59 ∧ ∃ m60 : Option Nat, rd w55 (a59.add 2) (.map m60) ∧ ∃ s61 : ByteArray, ∃ s62 : ByteArray, rd w55 (⟨w.heap.size, 0, none⟩ : Addr) (.agg #[.string s61, .string s62]) ∧ runV Tryz.prog (Instr.lookup 76 (.map m60) (.agg #[.string s61, .string s62]) false) w55 (fun r63 w64 => ∃ s65 : ByteArray, r63 = .string s65 ∧ (rd w64 ((⟨w.heap.size, 0, none⟩ : Addr).add 1) (.string s58) ∧ rd w64 (⟨w.heap.size, 0, none⟩ : Addr) (.string s57) ∧ rd w64 (c47.add 1) (.slice s56a s56l s56c) ∧ True) ∧ let w66 : World := w64.alloc (.cells #[.string s57, .string s58, .string s65] 36)
  (rd w66 (c47.add 1) (.slice s56a s56l s56c) ∧ True) ∧ runV Tryz.prog (Builtin.append_ #[27, 27] 27 #[.slice s56a s56l s56c, .slice (some (⟨w64.heap.size, 0, none⟩ : Addr)) 1 1]) w66 (fun r67 w68 => ∃ s69a : Option Addr, ∃ s69l : Nat, ∃ s69c : Nat, r67 = .slice s69a s69l s69c ∧ (True) ∧ (.slice s69a s69l s69c : Value).cells.size = 1 ∧ wrOk w68 (c47.add 1) (.slice s69a s69l s69c) ∧ let w70 : World := wr w68 (c47.add 1) (.slice s69a s69l s69c)
  (True) ∧ X (IntKind.wrap .i64 ((x45 : Int) + 1)) w70) Kp) Kp) else (Kn  w)

def T_conf_Store_Config_2 (x45 : Int) (s46 : Option Addr) (c47 : Addr) (s48a : Option Addr) (s48l : Nat) (s48c : Nat) (x49 : Int) (w : World) (Kn : World → Prop) (Kp : List PanicEntry → World → Prop) : Prop :=
  ∀ X : Int → World → Prop, (∀ (x45 : Int) (w : World), T_conf_Store_Config_2_body X x45 s46 c47 s48a s48l s48c x49 w Kn Kp → X x45 w) → X x45 w

def T_conf_Store_Config_2_outs : Exit → Option (List (Nat × Value)) := fun x => match x with | .normal => some [] | .panic _ => some [] | _ => none

def T_conf_Store_Config_2_ks : Nat → Bool := ksOf [7, 45, 46, 47, 48, 49, 50, 51, 52, 53, 54, 55, 56, 57, 58, 59, 60, 61, 62, 63, 64, 65]

def H_conf_Store_Config_2 : Env → World → QT → Prop := unitHook 67 T_conf_Store_Config_2_ks [(45, .int .i64 0), (0, .pointer none), (3, .pointer (some ⟨0, 0, none⟩)), (43, .slice none 0 0), (44, .int .i64 0)] T_conf_Store_Config_2_outs fun l w C => match l with | [v0, v1, v2, v3, v4] => T_conf_Store_Config_2 (pInt v0) (pPtr v1) (pAddr v2) (pA v3) (pL v3) (pC v3) (pInt v4) w (fun w => C .normal [] w) (fun ch w => C (.panic ch) [] w) | _ => False

theorem T_conf_Store_Config_2_hl : allP (hokL Tryz.prog (hookAt []) (at_ (bodyOf Tryz.f14) [1, 1, 1, 1, 0, 1, 0, 0]) 500) = (True) := by kernel_rfl
theorem T_conf_Store_Config_2_hok : HOk Tryz.prog (hookAt []) (at_ (bodyOf Tryz.f14) [1, 1, 1, 1, 0, 1, 0, 0]) 500 := HOk_of _ _ (by rw [T_conf_Store_Config_2_hl]; exact trivial)

theorem T_conf_Store_Config_2_eq (C : Conts) (X : List Value → World → Prop) (x45 : Int) (s46 : Option Addr) (c47 : Addr) (s48a : Option Addr) (s48l : Nat) (s48c : Nat) (x49 : Int) (w : World) : vcCode Tryz.prog (hookAt []) (at_ (bodyOf Tryz.f14) [1, 1, 1, 1, 0, 1, 0, 0]) 500 ⟨[(45, .int .i64 x45)] ++ [(0, .pointer s46), (3, .pointer (some c47)), (43, .slice s48a s48l s48c), (44, .int .i64 x49)], 67, []⟩ w (seqQ (fun e w => takeAll e [(45, .int .i64 0)] fun l => X l w) (blockQ 2 (unitQ T_conf_Store_Config_2_outs C))) = T_conf_Store_Config_2_body (fun x45 w => X [.int .i64 x45] w) x45 s46 c47 s48a s48l s48c x49 w (fun w => C .normal [] w) (fun ch w => C (.panic ch) [] w) := by kernel_rfl

theorem T_conf_Store_Config_2_ok : UnitOk Tryz.prog H_conf_Store_Config_2 (at_ (bodyOf Tryz.f14) [1, 1, 1, 1, 0, 1]) 125 := by
  have hc : at_ (bodyOf Tryz.f14) [1, 1, 1, 1, 0, 1] = .block 2 (.loop (at_ (bodyOf Tryz.f14) [1, 1, 1, 1, 0, 1, 0, 0])) := by kernel_rfl
  rw [hc]
  refine loop_unit_ok (carr := [(45, .int .i64 0)]) (fix := [(0, .pointer none), (3, .pointer (some ⟨0, 0, none⟩)), (43, .slice none 0 0), (44, .int .i64 0)]) (ks := T_conf_Store_Config_2_ks) (H := (hookAt [])) (B := fun C X l u w => match l, u with | [v0], [v1, v2, v3, v4] => T_conf_Store_Config_2_body (fun x45 w => X [.int .i64 x45] w) (pInt v0) (pPtr v1) (pAddr v2) (pA v3) (pL v3) (pC v3) (pInt v4) w (fun w => C .normal [] w) (fun ch w => C (.panic ch) [] w) | _, _ => False) (by kernel_rfl) (by kernel_rfl) T_conf_Store_Config_2_hok ?_ ?_
  · intro C X l u w hl hu
    obtain ⟨v0, l_v0, rfl, k_v0, hl_v0⟩ := Kinds.cons_ hl
    obtain ⟨x45, rfl⟩ := kind_int k_v0
    obtain rfl := Kinds.nil_ hl_v0
    obtain ⟨v1, l_v1, rfl, k_v1, hu_v1⟩ := Kinds.cons_ hu
    obtain ⟨s46, rfl⟩ := kind_pointer k_v1
    obtain ⟨v2, l_v2, rfl, k_v2, hu_v2⟩ := Kinds.cons_ hu_v1
    obtain ⟨c47, rfl⟩ := kind_addr k_v2
    obtain ⟨v3, l_v3, rfl, k_v3, hu_v3⟩ := Kinds.cons_ hu_v2
    obtain ⟨s48a, s48l, s48c, rfl⟩ := kind_slice k_v3
    obtain ⟨v4, l_v4, rfl, k_v4, hu_v4⟩ := Kinds.cons_ hu_v3
    obtain ⟨x49, rfl⟩ := kind_int k_v4
    obtain rfl := Kinds.nil_ hu_v4
    exact T_conf_Store_Config_2_eq C X x45 s46 c47 s48a s48l s48c x49 w
  · intro l u w C hl hu
    obtain ⟨v0, l_v0, rfl, k_v0, hl_v0⟩ := Kinds.cons_ hl
    obtain ⟨x45, rfl⟩ := kind_int k_v0
    obtain rfl := Kinds.nil_ hl_v0
    obtain ⟨v1, l_v1, rfl, k_v1, hu_v1⟩ := Kinds.cons_ hu
    obtain ⟨s46, rfl⟩ := kind_pointer k_v1
    obtain ⟨v2, l_v2, rfl, k_v2, hu_v2⟩ := Kinds.cons_ hu_v1
    obtain ⟨c47, rfl⟩ := kind_addr k_v2
    obtain ⟨v3, l_v3, rfl, k_v3, hu_v3⟩ := Kinds.cons_ hu_v2
    obtain ⟨s48a, s48l, s48c, rfl⟩ := kind_slice k_v3
    obtain ⟨v4, l_v4, rfl, k_v4, hu_v4⟩ := Kinds.cons_ hu_v3
    obtain ⟨x49, rfl⟩ := kind_int k_v4
    obtain rfl := Kinds.nil_ hu_v4
    constructor
    · intro h X hX
      exact h (fun x45 w => X [.int .i64 x45] w) (fun x45 w hb => hX [.int .i64 x45] w ⟨rfl, trivial⟩ hb)
    · intro h X hX
      exact h (fun l w => match l with | [v0] => X (pInt v0) w | _ => True) (fun l w hl hb => by
        obtain ⟨v0, l_v0, rfl, k_v0, hl_v0⟩ := Kinds.cons_ hl
        obtain ⟨x45, rfl⟩ := kind_int k_v0
        obtain rfl := Kinds.nil_ hl_v0
        exact hX x45 w hb)

def T_conf_Store_Config (s1 : Option Addr) (w : World) (R : Ending → World → Prop) : Prop :=
  let w2 : World := w.alloc (.cells #[.int .i64 0, .slice none 0 0, .slice none 0 0] 30)
  if s1.isNone = true then ((.agg #[.int .i64 0, .slice none 0 0, .slice none 0 0] : Value).cells.size = 3 ∧ wrOk w2 (⟨w.heap.size, 0, none⟩ : Addr) (.agg #[.int .i64 0, .slice none 0 0, .slice none 0 0]) ∧ let w3 : World := wr w2 (⟨w.heap.size, 0, none⟩ : Addr) (.agg #[.int .i64 0, .slice none 0 0, .slice none 0 0])
  ∃ x4 : Int, ∃ s5a : Option Addr, ∃ s5l : Nat, ∃ s5c : Nat, ∃ s6a : Option Addr, ∃ s6l : Nat, ∃ s6c : Nat, rd w3 (⟨w.heap.size, 0, none⟩ : Addr) (.agg #[.int .i64 x4, .slice s5a s5l s5c, .slice s6a s6l s6c]) ∧ R (.returned (.agg #[.int .i64 x4, .slice s5a s5l s5c, .slice s6a s6l s6c])) w3) else (∃ a7, s1 = some a7 ∧ ∃ x8 : Int, rd w2 a7 (.int .i64 x8) ∧ let w9 : World := w2.alloc (.cells #[.int .i64 0, .slice none 0 0, .slice none 0 0] 30)
  (.agg #[.int .i64 x8, .slice none 0 0, .slice none 0 0] : Value).cells.size = 3 ∧ wrOk w9 (⟨w2.heap.size, 0, none⟩ : Addr) (.agg #[.int .i64 x8, .slice none 0 0, .slice none 0 0]) ∧ let w10 : World := wr w9 (⟨w2.heap.size, 0, none⟩ : Addr) (.agg #[.int .i64 x8, .slice none 0 0, .slice none 0 0])
  ∃ a11, s1 = some a11 ∧ ∃ m12 : Option Nat, rd w10 (a11.add 1) (.map m12) ∧ Calls Tryz.prog 38 #[.map m12] w10 (ret (fun r13 w14 => ∃ u15 : Value, one u15 = true ∧ r13 = u15 ∧ Calls Tryz.prog 37 #[u15] w14 (ret (fun r16 w17 => ∃ s18a : Option Addr, ∃ s18l : Nat, ∃ s18c : Nat, r16 = .slice s18a s18l s18c ∧ T_conf_Store_Config_1 0 s1 (⟨w2.heap.size, 0, none⟩ : Addr) s18a s18l s18c ((s18l : Nat) : Int) w17 (fun w41 => Calls Tryz.prog 40 #[.pointer s1] w41 (ret (fun r42 w43 => ∃ s44a : Option Addr, ∃ s44l : Nat, ∃ s44c : Nat, r42 = .slice s44a s44l s44c ∧ T_conf_Store_Config_2 0 s1 (⟨w2.heap.size, 0, none⟩ : Addr) s44a s44l s44c ((s44l : Nat) : Int) w43 (fun w71 => ∃ x72 : Int, ∃ s73a : Option Addr, ∃ s73l : Nat, ∃ s73c : Nat, ∃ s74a : Option Addr, ∃ s74l : Nat, ∃ s74c : Nat, rd w71 (⟨w2.heap.size, 0, none⟩ : Addr) (.agg #[.int .i64 x72, .slice s73a s73l s73c, .slice s74a s74l s74c]) ∧ (.agg #[.int .i64 x72, .slice s73a s73l s73c, .slice s74a s74l s74c] : Value).cells.size = 3 ∧ wrOk w71 (⟨w.heap.size, 0, none⟩ : Addr) (.agg #[.int .i64 x72, .slice s73a s73l s73c, .slice s74a s74l s74c]) ∧ let w75 : World := wr w71 (⟨w.heap.size, 0, none⟩ : Addr) (.agg #[.int .i64 x72, .slice s73a s73l s73c, .slice s74a s74l s74c])
  ∃ x76 : Int, ∃ s77a : Option Addr, ∃ s77l : Nat, ∃ s77c : Nat, ∃ s78a : Option Addr, ∃ s78l : Nat, ∃ s78c : Nat, rd w75 (⟨w.heap.size, 0, none⟩ : Addr) (.agg #[.int .i64 x76, .slice s77a s77l s77c, .slice s78a s78l s78c]) ∧ R (.returned (.agg #[.int .i64 x76, .slice s77a s77l s77c, .slice s78a s78l s78c])) w75) (pan R)) (pan R))) (pan R)) (pan R))) (pan R)))

theorem T_conf_Store_Config_hl : allP (hokL Tryz.prog (hookAt [(61, H_conf_Store_Config_1), (125, H_conf_Store_Config_2)]) (bodyOf Tryz.f14) 1) = (UnitOk Tryz.prog H_conf_Store_Config_1 (at_ (bodyOf Tryz.f14) [1, 1, 1, 0, 1]) 61 ∧ UnitOk Tryz.prog H_conf_Store_Config_2 (at_ (bodyOf Tryz.f14) [1, 1, 1, 1, 0, 1]) 125 ∧ True) := by kernel_rfl

theorem T_conf_Store_Config_eq (s1 : Option Addr) (w : World) (R : Ending → World → Prop) : vcCode Tryz.prog (hookAt [(61, H_conf_Store_Config_1), (125, H_conf_Store_Config_2)]) (bodyOf Tryz.f14) 1 ⟨argEnv [.pointer s1] 0, Tryz.f14.ntmps, []⟩ w (finQ Tryz.prog Tryz.f14.results.toList R) = T_conf_Store_Config s1 w R := by kernel_rfl

theorem T_conf_Store_Config_b : Tryz.f14.body = some (bodyOf Tryz.f14) := by kernel_rfl
theorem T_conf_Store_Config_s : (quietSel (bodyOf Tryz.f14) && Nat.ble 1 Tryz.f14.ntmps) = true := by kernel_rfl

theorem C_conf_Store_Config {s1 : Option Addr} {w : World} {R : Ending → World → Prop} (h : T_conf_Store_Config s1 w R) : Calls Tryz.prog 14 #[.pointer s1] w R :=
  calls_of_text (args := [.pointer s1]) mixed Tryz.func14 T_conf_Store_Config_b T_conf_Store_Config_s (HOk_of _ _ (by rw [T_conf_Store_Config_hl]; exact ⟨T_conf_Store_Config_1_ok, T_conf_Store_Config_2_ok, trivial⟩)) (by rw [T_conf_Store_Config_eq]; exact h)

/-! (*tollgate/conf.Store).Do -/
def T_conf_Store_Do_1 (s32 : Option Addr) (c33 : Addr) (a34 : Addr) (b35 : Bool) (w : World) (Kn : World → Prop) (Kr : World → Prop) (Kp : List PanicEntry → World → Prop) : Prop :=
  if b35 = true then (let w36 : World := w.drew
  ∃ a37, s32 = some a37 ∧ ∃ m38 : Option Nat, rd w36 (a37.add 3) (.map m38) ∧ ∃ x39 : Int, rd w36 (c33.add 1) (.int .i64 x39) ∧ (runV Tryz.prog (Instr.lookup 77 (.map m38) (.int .i64 x39) false) w36 (fun r40 w41 => ∃ x42 : Int, ∃ x43 : Int, ∃ x44 : Int, r40 = .agg #[.int .i64 x42, .int .i64 x43, .int .i64 x44] ∧ (True) ∧ let w45 : World := w41.alloc (.cells #[.int .i64 0, .int .i64 0, .int .i64 0] 91)
  (True) ∧ (.agg #[.int .i64 x42, .int .i64 x43, .int .i64 x44] : Value).cells.size = 3 ∧ wrOk w45 (⟨w41.heap.size, 0, none⟩ : Addr) (.agg #[.int .i64 x42, .int .i64 x43, .int .i64 x44]) ∧ let w46 : World := wr w45 (⟨w41.heap.size, 0, none⟩ : Addr) (.agg #[.int .i64 x42, .int .i64 x43, .int .i64 x44])
  (True) ∧ ∃ x47 : Int, rd w46 (c33.add 2) (.int .i64 x47) ∧ ∃ x48 : Int, rd w46 (⟨w41.heap.size, 0, none⟩ : Addr) (.int .i64 x48) ∧ if ((x47 : Int) == x48) = true then (∃ x49 : Int, ∃ x50 : Int, rd w46 ((⟨w41.heap.size, 0, none⟩ : Addr).add 1) (.agg #[.int .i64 x49, .int .i64 x50]) ∧ (.agg #[.int .i64 x49, .int .i64 x50] : Value).cells.size = 2 ∧ wrOk w46 a34 (.agg #[.int .i64 x49, .int .i64 x50]) ∧ let w51 : World := wr w46 a34 (.agg #[.int .i64 x49, .int .i64 x50])
  Kr  w51) else (∃ x52 : Int, rd w46 (c33.add 2) (.int .i64 x52) ∧ ∃ x53 : Int, rd w46 (⟨w41.heap.size, 0, none⟩ : Addr) (.int .i64 x53) ∧ if (decide ((x52 : Int) < x53)) = true then (∃ a54, s32 = some a54 ∧ ∃ x55 : Int, rd w46 a54 (.int .i64 x55) ∧ (.agg #[.int .i64 12, .int .i64 x55] : Value).cells.size = 2 ∧ wrOk w46 a34 (.agg #[.int .i64 12, .int .i64 x55]) ∧ let w56 : World := wr w46 a34 (.agg #[.int .i64 12, .int .i64 x55])
  Kr  w56) else (Kn  w46))) Kp) ∧ (let w57 : World := w36.alloc (.cells #[.int .i64 0, .int .i64 0, .int .i64 0] 91)
  (rd w57 (c33.add 1) (.int .i64 x39) ∧ rd w57 (a37.add 3) (.map m38) ∧ True) ∧ runV Tryz.prog (Instr.lookup 77 (.map m38) (.int .i64 x39) false) w57 (fun r58 w59 => ∃ x60 : Int, ∃ x61 : Int, ∃ x62 : Int, r58 = .agg #[.int .i64 x60, .int .i64 x61, .int .i64 x62] ∧ (True) ∧ (.agg #[.int .i64 x60, .int .i64 x61, .int .i64 x62] : Value).cells.size = 3 ∧ wrOk w59 (⟨w36.heap.size, 0, none⟩ : Addr) (.agg #[.int .i64 x60, .int .i64 x61, .int .i64 x62]) ∧ let w63 : World := wr w59 (⟨w36.heap.size, 0, none⟩ : Addr) (.agg #[.int .i64 x60, .int .i64 x61, .int .i64 x62])
  (True) ∧ ∃ x64 : Int, rd w63 (c33.add 2) (.int .i64 x64) ∧ ∃ x65 : Int, rd w63 (⟨w36.heap.size, 0, none⟩ : Addr) (.int .i64 x65) ∧ if ((x64 : Int) == x65) = true then (∃ x66 : Int, ∃ x67 : Int, rd w63 ((⟨w36.heap.size, 0, none⟩ : Addr).add 1) (.agg #[.int .i64 x66, .int .i64 x67]) ∧ (.agg #[.int .i64 x66, .int .i64 x67] : Value).cells.size = 2 ∧ wrOk w63 a34 (.agg #[.int .i64 x66, .int .i64 x67]) ∧ let w68 : World := wr w63 a34 (.agg #[.int .i64 x66, .int .i64 x67])
  Kr  w68) else (∃ x69 : Int, rd w63 (c33.add 2) (.int .i64 x69) ∧ ∃ x70 : Int, rd w63 (⟨w36.heap.size, 0, none⟩ : Addr) (.int .i64 x70) ∧ if (decide ((x69 : Int) < x70)) = true then (∃ a71, s32 = some a71 ∧ ∃ x72 : Int, rd w63 a71 (.int .i64 x72) ∧ (.agg #[.int .i64 12, .int .i64 x72] : Value).cells.size = 2 ∧ wrOk w63 a34 (.agg #[.int .i64 12, .int .i64 x72]) ∧ let w73 : World := wr w63 a34 (.agg #[.int .i64 12, .int .i64 x72])
  Kr  w73) else (Kn  w63))) Kp)) else (Kn  w)

def T_conf_Store_Do_1_outs : Exit → Option (List (Nat × Value)) := fun x => match x with | .normal => some [] | .ret => some [] | .panic _ => some [] | _ => none

def T_conf_Store_Do_1_ks : Nat → Bool := ksOf [6, 25, 26, 27, 28, 29, 30, 31, 32, 33, 34, 35, 36, 37, 38, 39, 40, 41, 42, 43, 44, 45, 46, 47, 48, 49, 50]

def H_conf_Store_Do_1 : Env → World → QT → Prop := unitHook 102 T_conf_Store_Do_1_ks [(0, .pointer none), (3, .pointer (some ⟨0, 0, none⟩)), (4, .pointer (some ⟨0, 0, none⟩)), (24, .bool false)] T_conf_Store_Do_1_outs fun l w C => match l with | [v0, v1, v2, v3] => T_conf_Store_Do_1 (pPtr v0) (pAddr v1) (pAddr v2) (pBool v3) w (fun w => C .normal [] w) (fun w => C .ret [] w) (fun ch w => C (.panic ch) [] w) | _ => False

theorem T_conf_Store_Do_1_hl : allP (hokL Tryz.prog (hookAt []) (at_ (bodyOf Tryz.f17) [1, 1, 1, 0, 1]) 61) = (True) := by kernel_rfl
theorem T_conf_Store_Do_1_hok : HOk Tryz.prog (hookAt []) (at_ (bodyOf Tryz.f17) [1, 1, 1, 0, 1]) 61 := HOk_of _ _ (by rw [T_conf_Store_Do_1_hl]; exact trivial)

theorem T_conf_Store_Do_1_eq (C : Conts) (s32 : Option Addr) (c33 : Addr) (a34 : Addr) (b35 : Bool) (w : World) : vcCode Tryz.prog (hookAt []) (at_ (bodyOf Tryz.f17) [1, 1, 1, 0, 1]) 61 ⟨[(0, .pointer s32), (3, .pointer (some c33)), (4, .pointer (some a34)), (24, .bool b35)], 102, []⟩ w (unitQ T_conf_Store_Do_1_outs C) = T_conf_Store_Do_1 s32 c33 a34 b35 w (fun w => C .normal [] w) (fun w => C .ret [] w) (fun ch w => C (.panic ch) [] w) := by kernel_rfl

theorem T_conf_Store_Do_1_ok : UnitOk Tryz.prog H_conf_Store_Do_1 (at_ (bodyOf Tryz.f17) [1, 1, 1, 0, 1]) 61 := unit_ok (H := (hookAt [])) (by kernel_rfl) T_conf_Store_Do_1_hok fun l w C hk => by
    obtain ⟨v0, l_v0, rfl, k_v0, hk_v0⟩ := Kinds.cons_ hk
    obtain ⟨s32, rfl⟩ := kind_pointer k_v0
    obtain ⟨v1, l_v1, rfl, k_v1, hk_v1⟩ := Kinds.cons_ hk_v0
    obtain ⟨c33, rfl⟩ := kind_addr k_v1
    obtain ⟨v2, l_v2, rfl, k_v2, hk_v2⟩ := Kinds.cons_ hk_v1
    obtain ⟨a34, rfl⟩ := kind_addr k_v2
    obtain ⟨v3, l_v3, rfl, k_v3, hk_v3⟩ := Kinds.cons_ hk_v2
    obtain ⟨b35, rfl⟩ := kind_bool k_v3
    obtain rfl := Kinds.nil_ hk_v3
    exact T_conf_Store_Do_1_eq C s32 c33 a34 b35 w

def T_conf_Store_Do_3 (s78 : Option Addr) (c79 : Addr) (w : World) (Kn : Bool → World → Prop) (Kp : List PanicEntry → World → Prop) : Prop :=
  let w80 : World := w.drew
  ∃ x81 : Int, rd w80 (c79.add 3) (.int .i64 x81) ∧ if (decide ((x81 : Int) ≥ 0)) = true then (∃ x82 : Int, rd w80 (c79.add 3) (.int .i64 x82) ∧ ∃ a83, s78 = some a83 ∧ ∃ x84 : Int, rd w80 a83 (.int .i64 x84) ∧ Kn ((x82 : Int) != x84) w80) else (Kn false w80)

def T_conf_Store_Do_3_outs : Exit → Option (List (Nat × Value)) := fun x => match x with | .normal => some [(54, .bool false)] | .panic _ => some [] | _ => none

def T_conf_Store_Do_3_ks : Nat → Bool := ksOf [54, 55, 56, 57, 58, 59, 60, 61, 62, 63, 64, 65, 66]

def H_conf_Store_Do_3 : Env → World → QT → Prop := unitHook 102 T_conf_Store_Do_3_ks [(0, .pointer none), (3, .pointer (some ⟨0, 0, none⟩))] T_conf_Store_Do_3_outs fun l w C => match l with | [v0, v1] => T_conf_Store_Do_3 (pPtr v0) (pAddr v1) w (fun b86 w => C .normal [.bool b86] w) (fun ch w => C (.panic ch) [] w) | _ => False

theorem T_conf_Store_Do_3_hl : allP (hokL Tryz.prog (hookAt []) (at_ (bodyOf Tryz.f17) [1, 1, 1, 1, 1, 0, 0, 0]) 504) = (True) := by kernel_rfl
theorem T_conf_Store_Do_3_hok : HOk Tryz.prog (hookAt []) (at_ (bodyOf Tryz.f17) [1, 1, 1, 1, 1, 0, 0, 0]) 504 := HOk_of _ _ (by rw [T_conf_Store_Do_3_hl]; exact trivial)

theorem T_conf_Store_Do_3_eq (C : Conts) (s78 : Option Addr) (c79 : Addr) (w : World) : vcCode Tryz.prog (hookAt []) (at_ (bodyOf Tryz.f17) [1, 1, 1, 1, 1, 0, 0, 0]) 504 ⟨[(0, .pointer s78), (3, .pointer (some c79))], 102, []⟩ w (unitQ T_conf_Store_Do_3_outs C) = T_conf_Store_Do_3 s78 c79 w (fun b87 w => C .normal [.bool b87] w) (fun ch w => C (.panic ch) [] w) := by kernel_rfl

theorem T_conf_Store_Do_3_ok : UnitOk Tryz.prog H_conf_Store_Do_3 (at_ (bodyOf Tryz.f17) [1, 1, 1, 1, 1, 0, 0, 0]) 504 := unit_ok (H := (hookAt [])) (by kernel_rfl) T_conf_Store_Do_3_hok fun l w C hk => by
    obtain ⟨v0, l_v0, rfl, k_v0, hk_v0⟩ := Kinds.cons_ hk
    obtain ⟨s78, rfl⟩ := kind_pointer k_v0
    obtain ⟨v1, l_v1, rfl, k_v1, hk_v1⟩ := Kinds.cons_ hk_v0
    obtain ⟨c79, rfl⟩ := kind_addr k_v1
    obtain rfl := Kinds.nil_ hk_v1
    exact T_conf_Store_Do_3_eq C s78 c79 w

def T_conf_Store_Do_2 (s75 : Option Addr) (c76 : Addr) (e77 : Int) (w : World) (Kn : Int → World → Prop) (Kp : List PanicEntry → World → Prop) : Prop :=
  T_conf_Store_Do_3 s75 c76 w (fun b88 w89 => if b88 = true then (Kn e77 w89) else (∃ a90, s75 = some a90 ∧ ∃ x91 : Int, rd w89 a90 (.int .i64 x91) ∧ if ((x91 : Int) == 1099511627776) = true then (Kn 6 w89) else (∃ x92 : Int, ∃ x93 : Int, ∃ x94 : Int, ∃ x95 : Int, ∃ s96 : ByteArray, ∃ s97 : ByteArray, ∃ s98 : ByteArray, ∃ s99a : Option Addr, ∃ s99l : Nat, ∃ s99c : Nat, rd w89 c76 (.agg #[.int .i64 x92, .int .i64 x93, .int .i64 x94, .int .i64 x95, .string s96, .string s97, .string s98, .slice s99a s99l s99c]) ∧ Calls Tryz.prog 41 #[.pointer s75, .agg #[.int .i64 x92, .int .i64 x93, .int .i64 x94, .int .i64 x95, .string s96, .string s97, .string s98, .slice s99a s99l s99c]] w89 (ret (fun r100 w101 => ∃ x102 : Int, r100 = .int .i64 x102 ∧ Kn x102 w101) Kp)))) Kp

def T_conf_Store_Do_2_outs : Exit → Option (List (Nat × Value)) := fun x => match x with | .normal => some [(7, .int .i64 0)] | .panic _ => some [] | _ => none

def T_conf_Store_Do_2_ks : Nat → Bool := ksOf [7, 51, 52, 53, 54, 55, 56, 57, 58, 59, 60, 61, 62, 63, 64, 65, 66, 67, 68, 69, 70, 71, 72]

def H_conf_Store_Do_2 : Env → World → QT → Prop := unitHook 102 T_conf_Store_Do_2_ks [(0, .pointer none), (3, .pointer (some ⟨0, 0, none⟩)), (7, .int .i64 0)] T_conf_Store_Do_2_outs fun l w C => match l with | [v0, v1, v2] => T_conf_Store_Do_2 (pPtr v0) (pAddr v1) (pInt v2) w (fun e104 w => C .normal [.int .i64 e104] w) (fun ch w => C (.panic ch) [] w) | _ => False

theorem T_conf_Store_Do_2_hl : allP (hokL Tryz.prog (hookAt [(504, H_conf_Store_Do_3)]) (at_ (bodyOf Tryz.f17) [1, 1, 1, 1, 1, 0]) 126) = (UnitOk Tryz.prog H_conf_Store_Do_3 (at_ (bodyOf Tryz.f17) [1, 1, 1, 1, 1, 0, 0, 0]) 504 ∧ True) := by kernel_rfl
theorem T_conf_Store_Do_2_hok : HOk Tryz.prog (hookAt [(504, H_conf_Store_Do_3)]) (at_ (bodyOf Tryz.f17) [1, 1, 1, 1, 1, 0]) 126 := HOk_of _ _ (by rw [T_conf_Store_Do_2_hl]; exact ⟨T_conf_Store_Do_3_ok, trivial⟩)

theorem T_conf_Store_Do_2_eq (C : Conts) (s75 : Option Addr) (c76 : Addr) (e77 : Int) (w : World) : vcCode Tryz.prog (hookAt [(504, H_conf_Store_Do_3)]) (at_ (bodyOf Tryz.f17) [1, 1, 1, 1, 1, 0]) 126 ⟨[(0, .pointer s75), (3, .pointer (some c76)), (7, .int .i64 e77)], 102, []⟩ w (unitQ T_conf_Store_Do_2_outs C) = T_conf_Store_Do_2 s75 c76 e77 w (fun e105 w => C .normal [.int .i64 e105] w) (fun ch w => C (.panic ch) [] w) := by kernel_rfl

theorem T_conf_Store_Do_2_ok : UnitOk Tryz.prog H_conf_Store_Do_2 (at_ (bodyOf Tryz.f17) [1, 1, 1, 1, 1, 0]) 126 := unit_ok (H := (hookAt [(504, H_conf_Store_Do_3)])) (by kernel_rfl) T_conf_Store_Do_2_hok fun l w C hk => by
    obtain ⟨v0, l_v0, rfl, k_v0, hk_v0⟩ := Kinds.cons_ hk
    obtain ⟨s75, rfl⟩ := kind_pointer k_v0
    obtain ⟨v1, l_v1, rfl, k_v1, hk_v1⟩ := Kinds.cons_ hk_v0
    obtain ⟨c76, rfl⟩ := kind_addr k_v1
    obtain ⟨v2, l_v2, rfl, k_v2, hk_v2⟩ := Kinds.cons_ hk_v1
    obtain ⟨e77, rfl⟩ := kind_int k_v2
    obtain rfl := Kinds.nil_ hk_v2
    exact T_conf_Store_Do_2_eq C s75 c76 e77 w

def T_conf_Store_Do_4 (s108 : Option Addr) (b109 : Bool) (w : World) (Kn : World → Prop) (Kp : List PanicEntry → World → Prop) : Prop :=
  if b109 = true then (∃ a110, s108 = some a110 ∧ ∃ x111 : Int, rd w a110 (.int .i64 x111) ∧ ∃ a112, s108 = some a112 ∧ (.int .i64 (IntKind.wrap .i64 ((x111 : Int) + 1)) : Value).cells.size = 1 ∧ wrOk w a112 (.int .i64 (IntKind.wrap .i64 ((x111 : Int) + 1))) ∧ let w113 : World := wr w a112 (.int .i64 (IntKind.wrap .i64 ((x111 : Int) + 1)))
  Kn  w113) else (Kn  w)

def T_conf_Store_Do_4_outs : Exit → Option (List (Nat × Value)) := fun x => match x with | .normal => some [] | .panic _ => some [] | _ => none

def T_conf_Store_Do_4_ks : Nat → Bool := ksOf [75, 76, 77, 78, 79, 80, 81]

def H_conf_Store_Do_4 : Env → World → QT → Prop := unitHook 102 T_conf_Store_Do_4_ks [(0, .pointer none), (74, .bool false)] T_conf_Store_Do_4_outs fun l w C => match l with | [v0, v1] => T_conf_Store_Do_4 (pPtr v0) (pBool v1) w (fun w => C .normal [] w) (fun ch w => C (.panic ch) [] w) | _ => False

theorem T_conf_Store_Do_4_hl : allP (hokL Tryz.prog (hookAt []) (at_ (bodyOf Tryz.f17) [1, 1, 1, 1, 1, 1, 0, 1]) 509) = (True) := by kernel_rfl
theorem T_conf_Store_Do_4_hok : HOk Tryz.prog (hookAt []) (at_ (bodyOf Tryz.f17) [1, 1, 1, 1, 1, 1, 0, 1]) 509 := HOk_of _ _ (by rw [T_conf_Store_Do_4_hl]; exact trivial)

theorem T_conf_Store_Do_4_eq (C : Conts) (s108 : Option Addr) (b109 : Bool) (w : World) : vcCode Tryz.prog (hookAt []) (at_ (bodyOf Tryz.f17) [1, 1, 1, 1, 1, 1, 0, 1]) 509 ⟨[(0, .pointer s108), (74, .bool b109)], 102, []⟩ w (unitQ T_conf_Store_Do_4_outs C) = T_conf_Store_Do_4 s108 b109 w (fun w => C .normal [] w) (fun ch w => C (.panic ch) [] w) := by kernel_rfl

theorem T_conf_Store_Do_4_ok : UnitOk Tryz.prog H_conf_Store_Do_4 (at_ (bodyOf Tryz.f17) [1, 1, 1, 1, 1, 1, 0, 1]) 509 := unit_ok (H := (hookAt [])) (by kernel_rfl) T_conf_Store_Do_4_hok fun l w C hk => by
    obtain ⟨v0, l_v0, rfl, k_v0, hk_v0⟩ := Kinds.cons_ hk
    obtain ⟨s108, rfl⟩ := kind_pointer k_v0
    obtain ⟨v1, l_v1, rfl, k_v1, hk_v1⟩ := Kinds.cons_ hk_v0
    obtain ⟨b109, rfl⟩ := kind_bool k_v1
    obtain rfl := Kinds.nil_ hk_v1
    exact T_conf_Store_Do_4_eq C s108 b109 w

def T_conf_Store_Do (s1 : Option Addr) (x2 : Int) (x3 : Int) (x4 : Int) (x5 : Int) (s6 : ByteArray) (s7 : ByteArray) (s8 : ByteArray) (s9a : Option Addr) (s9l : Nat) (s9c : Nat) (w : World) (R : Ending → World → Prop) : Prop :=
  let w10 : World := w.alloc (.cells #[.int .i64 x2, .int .i64 x3, .int .i64 x4, .int .i64 x5, .string s6, .string s7, .string s8, .slice s9a s9l s9c] 42)
  let w11 : World := w10.alloc (.cells #[.int .i64 0, .int .i64 0] 45)
  if s1.isNone = true then ((.agg #[.int .i64 1, .int .i64 0] : Value).cells.size = 2 ∧ wrOk w11 (⟨w10.heap.size, 0, none⟩ : Addr) (.agg #[.int .i64 1, .int .i64 0]) ∧ let w12 : World := wr w11 (⟨w10.heap.size, 0, none⟩ : Addr) (.agg #[.int .i64 1, .int .i64 0])
  ∃ x13 : Int, ∃ x14 : Int, rd w12 (⟨w10.heap.size, 0, none⟩ : Addr) (.agg #[.int .i64 x13, .int .i64 x14]) ∧ R (.returned (.agg #[.int .i64 x13, .int .i64 x14])) w12) else (∃ x15 : Int, ∃ x16 : Int, ∃ x17 : Int, ∃ x18 : Int, ∃ s19 : ByteArray, ∃ s20 : ByteArray, ∃ s21 : ByteArray, ∃ s22a : Option Addr, ∃ s22l : Nat, ∃ s22c : Nat, rd w11 (⟨w.heap.size, 0, none⟩ : Addr) (.agg #[.int .i64 x15, .int .i64 x16, .int .i64 x17, .int .i64 x18, .string s19, .string s20, .string s21, .slice s22a s22l s22c]) ∧ Calls Tryz.prog 23 #[.agg #[.int .i64 x15, .int .i64 x16, .int .i64 x17, .int .i64 x18, .string s19, .string s20, .string s21, .slice s22a s22l s22c]] w11 (ret (fun r23 w24 => ∃ x25 : Int, r23 = .int .i64 x25 ∧ if ((x25 : Int) != 0) = true then (∃ a26, s1 = some a26 ∧ ∃ x27 : Int, rd w24 a26 (.int .i64 x27) ∧ (.agg #[.int .i64 x25, .int .i64 x27] : Value).cells.size = 2 ∧ wrOk w24 (⟨w10.heap.size, 0, none⟩ : Addr) (.agg #[.int .i64 x25, .int .i64 x27]) ∧ let w28 : World := wr w24 (⟨w10.heap.size, 0, none⟩ : Addr) (.agg #[.int .i64 x25, .int .i64 x27])
  ∃ x29 : Int, ∃ x30 : Int, rd w28 (⟨w10.heap.size, 0, none⟩ : Addr) (.agg #[.int .i64 x29, .int .i64 x30]) ∧ R (.returned (.agg #[.int .i64 x29, .int .i64 x30])) w28) else (∃ x31 : Int, rd w24 ((⟨w.heap.size, 0, none⟩ : Addr).add 1) (.int .i64 x31) ∧ T_conf_Store_Do_1 s1 (⟨w.heap.size, 0, none⟩ : Addr) (⟨w10.heap.size, 0, none⟩ : Addr) (decide ((x31 : Int) > 0)) w24 (fun w74 => T_conf_Store_Do_2 s1 (⟨w.heap.size, 0, none⟩ : Addr) 12 w74 (fun e106 w107 => T_conf_Store_Do_4 s1 ((e106 : Int) == 0) w107 (fun w114 => ∃ a115, s1 = some a115 ∧ ∃ x116 : Int, rd w114 a115 (.int .i64 x116) ∧ let w117 : World := w114.alloc (.cells #[.int .i64 0, .int .i64 0] 45)
  (.agg #[.int .i64 e106, .int .i64 x116] : Value).cells.size = 2 ∧ wrOk w117 (⟨w114.heap.size, 0, none⟩ : Addr) (.agg #[.int .i64 e106, .int .i64 x116]) ∧ let w118 : World := wr w117 (⟨w114.heap.size, 0, none⟩ : Addr) (.agg #[.int .i64 e106, .int .i64 x116])
  ∃ x119 : Int, rd w118 ((⟨w.heap.size, 0, none⟩ : Addr).add 1) (.int .i64 x119) ∧ if (decide ((x119 : Int) > 0)) = true then (let w120 : World := w118.drew
  ∃ a121, s1 = some a121 ∧ ∃ m122 : Option Nat, rd w120 (a121.add 3) (.map m122) ∧ ∃ x123 : Int, rd w120 ((⟨w.heap.size, 0, none⟩ : Addr).add 1) (.int .i64 x123) ∧ ∃ x124 : Int, rd w120 ((⟨w.heap.size, 0, none⟩ : Addr).add 2) (.int .i64 x124) ∧ ∃ x125 : Int, ∃ x126 : Int, rd w120 (⟨w114.heap.size, 0, none⟩ : Addr) (.agg #[.int .i64 x125, .int .i64 x126]) ∧ runV Tryz.prog (Instr.mapUpdate 77 (.map m122) (.int .i64 x123) (.agg #[.int .i64 x124, .int .i64 x125, .int .i64 x126])) w120 (fun _ w127 => (True) ∧ ∃ x128 : Int, ∃ x129 : Int, rd w127 (⟨w114.heap.size, 0, none⟩ : Addr) (.agg #[.int .i64 x128, .int .i64 x129]) ∧ (.agg #[.int .i64 x128, .int .i64 x129] : Value).cells.size = 2 ∧ wrOk w127 (⟨w10.heap.size, 0, none⟩ : Addr) (.agg #[.int .i64 x128, .int .i64 x129]) ∧ let w130 : World := wr w127 (⟨w10.heap.size, 0, none⟩ : Addr) (.agg #[.int .i64 x128, .int .i64 x129])
  ∃ x131 : Int, ∃ x132 : Int, rd w130 (⟨w10.heap.size, 0, none⟩ : Addr) (.agg #[.int .i64 x131, .int .i64 x132]) ∧ R (.returned (.agg #[.int .i64 x131, .int .i64 x132])) w130) (pan R)) else (∃ x133 : Int, ∃ x134 : Int, rd w118 (⟨w114.heap.size, 0, none⟩ : Addr) (.agg #[.int .i64 x133, .int .i64 x134]) ∧ (.agg #[.int .i64 x133, .int .i64 x134] : Value).cells.size = 2 ∧ wrOk w118 (⟨w10.heap.size, 0, none⟩ : Addr) (.agg #[.int .i64 x133, .int .i64 x134]) ∧ let w135 : World := wr w118 (⟨w10.heap.size, 0, none⟩ : Addr) (.agg #[.int .i64 x133, .int .i64 x134])
  ∃ x136 : Int, ∃ x137 : Int, rd w135 (⟨w10.heap.size, 0, none⟩ : Addr) (.agg #[.int .i64 x136, .int .i64 x137]) ∧ R (.returned (.agg #[.int .i64 x136, .int .i64 x137])) w135)) (pan R)) (pan R)) (fun w138 => ∃ x139 : Int, ∃ x140 : Int, rd w138 (⟨w10.heap.size, 0, none⟩ : Addr) (.agg #[.int .i64 x139, .int .i64 x140]) ∧ R (.returned (.agg #[.int .i64 x139, .int .i64 x140])) w138) (pan R))) (pan R)))

theorem T_conf_Store_Do_hl : allP (hokL Tryz.prog (hookAt [(61, H_conf_Store_Do_1), (126, H_conf_Store_Do_2), (509, H_conf_Store_Do_4)]) (bodyOf Tryz.f17) 1) = (UnitOk Tryz.prog H_conf_Store_Do_1 (at_ (bodyOf Tryz.f17) [1, 1, 1, 0, 1]) 61 ∧ UnitOk Tryz.prog H_conf_Store_Do_2 (at_ (bodyOf Tryz.f17) [1, 1, 1, 1, 1, 0]) 126 ∧ UnitOk Tryz.prog H_conf_Store_Do_4 (at_ (bodyOf Tryz.f17) [1, 1, 1, 1, 1, 1, 0, 1]) 509 ∧ True) := by kernel_rfl

theorem T_conf_Store_Do_eq (s1 : Option Addr) (x2 : Int) (x3 : Int) (x4 : Int) (x5 : Int) (s6 : ByteArray) (s7 : ByteArray) (s8 : ByteArray) (s9a : Option Addr) (s9l : Nat) (s9c : Nat) (w : World) (R : Ending → World → Prop) : vcCode Tryz.prog (hookAt [(61, H_conf_Store_Do_1), (126, H_conf_Store_Do_2), (509, H_conf_Store_Do_4)]) (bodyOf Tryz.f17) 1 ⟨argEnv [.pointer s1, .agg #[.int .i64 x2, .int .i64 x3, .int .i64 x4, .int .i64 x5, .string s6, .string s7, .string s8, .slice s9a s9l s9c]] 0, Tryz.f17.ntmps, []⟩ w (finQ Tryz.prog Tryz.f17.results.toList R) = T_conf_Store_Do s1 x2 x3 x4 x5 s6 s7 s8 s9a s9l s9c w R := by kernel_rfl

theorem T_conf_Store_Do_b : Tryz.f17.body = some (bodyOf Tryz.f17) := by kernel_rfl
theorem T_conf_Store_Do_s : (quietSel (bodyOf Tryz.f17) && Nat.ble 2 Tryz.f17.ntmps) = true := by kernel_rfl

theorem C_conf_Store_Do {s1 : Option Addr} {x2 : Int} {x3 : Int} {x4 : Int} {x5 : Int} {s6 : ByteArray} {s7 : ByteArray} {s8 : ByteArray} {s9a : Option Addr} {s9l : Nat} {s9c : Nat} {w : World} {R : Ending → World → Prop} (h : T_conf_Store_Do s1 x2 x3 x4 x5 s6 s7 s8 s9a s9l s9c w R) : Calls Tryz.prog 17 #[.pointer s1, .agg #[.int .i64 x2, .int .i64 x3, .int .i64 x4, .int .i64 x5, .string s6, .string s7, .string s8, .slice s9a s9l s9c]] w R :=
  calls_of_text (args := [.pointer s1, .agg #[.int .i64 x2, .int .i64 x3, .int .i64 x4, .int .i64 x5, .string s6, .string s7, .string s8, .slice s9a s9l s9c]]) mixed Tryz.func17 T_conf_Store_Do_b T_conf_Store_Do_s (HOk_of _ _ (by rw [T_conf_Store_Do_hl]; exact ⟨T_conf_Store_Do_1_ok, T_conf_Store_Do_2_ok, T_conf_Store_Do_4_ok, trivial⟩)) (by rw [T_conf_Store_Do_eq]; exact h)

/-! (*tollgate/conf.Store).Seen -/
def T_conf_Store_Seen (s1 : Option Addr) (client2 : Int) (w : World) (R : Ending → World → Prop) : Prop :=
  let w3 : World := w.alloc (.cells #[.int .i64 0, .int .i64 0] 45)
  if s1.isNone = true then ((.agg #[.int .i64 0, .int .i64 0] : Value).cells.size = 2 ∧ wrOk w3 (⟨w.heap.size, 0, none⟩ : Addr) (.agg #[.int .i64 0, .int .i64 0]) ∧ let w4 : World := wr w3 (⟨w.heap.size, 0, none⟩ : Addr) (.agg #[.int .i64 0, .int .i64 0])
  ∃ x5 : Int, ∃ x6 : Int, rd w4 (⟨w.heap.size, 0, none⟩ : Addr) (.agg #[.int .i64 x5, .int .i64 x6]) ∧ R (.returned (.tuple #[.int .i64 0, .agg #[.int .i64 x5, .int .i64 x6]])) w4) else (∃ a7, s1 = some a7 ∧ ∃ m8 : Option Nat, rd w3 (a7.add 3) (.map m8) ∧ runV Tryz.prog (Instr.lookup 77 (.map m8) (.int .i64 client2) false) w3 (fun r9 w10 => ∃ x11 : Int, ∃ x12 : Int, ∃ x13 : Int, r9 = .agg #[.int .i64 x11, .int .i64 x12, .int .i64 x13] ∧ let w14 : World := w10.alloc (.cells #[.int .i64 0, .int .i64 0, .int .i64 0] 91)
  (.agg #[.int .i64 x11, .int .i64 x12, .int .i64 x13] : Value).cells.size = 3 ∧ wrOk w14 (⟨w10.heap.size, 0, none⟩ : Addr) (.agg #[.int .i64 x11, .int .i64 x12, .int .i64 x13]) ∧ let w15 : World := wr w14 (⟨w10.heap.size, 0, none⟩ : Addr) (.agg #[.int .i64 x11, .int .i64 x12, .int .i64 x13])
  let w16 : World := w15.drew
  ∃ x17 : Int, rd w16 (⟨w10.heap.size, 0, none⟩ : Addr) (.int .i64 x17) ∧ ∃ x18 : Int, ∃ x19 : Int, rd w16 ((⟨w10.heap.size, 0, none⟩ : Addr).add 1) (.agg #[.int .i64 x18, .int .i64 x19]) ∧ (.agg #[.int .i64 x18, .int .i64 x19] : Value).cells.size = 2 ∧ wrOk w16 (⟨w.heap.size, 0, none⟩ : Addr) (.agg #[.int .i64 x18, .int .i64 x19]) ∧ let w20 : World := wr w16 (⟨w.heap.size, 0, none⟩ : Addr) (.agg #[.int .i64 x18, .int .i64 x19])
  (True) ∧ ∃ x21 : Int, ∃ x22 : Int, rd w20 (⟨w.heap.size, 0, none⟩ : Addr) (.agg #[.int .i64 x21, .int .i64 x22]) ∧ R (.returned (.tuple #[.int .i64 x17, .agg #[.int .i64 x21, .int .i64 x22]])) w20) (pan R))

theorem T_conf_Store_Seen_hl : allP (hokL Tryz.prog (hookAt []) (bodyOf Tryz.f24) 1) = (True) := by kernel_rfl

theorem T_conf_Store_Seen_eq (s1 : Option Addr) (client2 : Int) (w : World) (R : Ending → World → Prop) : vcCode Tryz.prog (hookAt []) (bodyOf Tryz.f24) 1 ⟨argEnv [.pointer s1, .int .i64 client2] 0, Tryz.f24.ntmps, []⟩ w (finQ Tryz.prog Tryz.f24.results.toList R) = T_conf_Store_Seen s1 client2 w R := by kernel_rfl

theorem T_conf_Store_Seen_b : Tryz.f24.body = some (bodyOf Tryz.f24) := by kernel_rfl
theorem T_conf_Store_Seen_s : (quietSel (bodyOf Tryz.f24) && Nat.ble 2 Tryz.f24.ntmps) = true := by kernel_rfl

theorem C_conf_Store_Seen {s1 : Option Addr} {client2 : Int} {w : World} {R : Ending → World → Prop} (h : T_conf_Store_Seen s1 client2 w R) : Calls Tryz.prog 24 #[.pointer s1, .int .i64 client2] w R :=
  calls_of_text (args := [.pointer s1, .int .i64 client2]) mixed Tryz.func24 T_conf_Store_Seen_b T_conf_Store_Seen_s (HOk_of _ _ (by rw [T_conf_Store_Seen_hl]; exact trivial)) (by rw [T_conf_Store_Seen_eq]; exact h)

/-! (*tollgate/conf.Store).Put -/
def T_conf_Store_Put_1_body (X : Option Addr → Nat → Nat → Int → World → Prop) (b27a : Option Addr) (b27l : Nat) (b27c : Nat) (x28 : Int) (s29 : Option Addr) (s30a : Option Addr) (s30l : Nat) (s30c : Nat) (x31 : Int) (w : World) (Kn : Option Addr → Nat → Nat → World → Prop) (Kp : List PanicEntry → World → Prop)  : Prop :=
  if (decide ((x28 : Int) < x31)) = true then (0 ≤ (x28 : Int) ∧ (x28 : Int) < ((s30l : Nat) : Int) ∧ ∃ b32, s30a = some b32 ∧ ∃ x33 : Int, rd w (b32.add ((x28 : Int).toNat * 1)) (.int .i64 x33) ∧ ∃ a34, s29 = some a34 ∧ ∃ m35 : Option Nat, rd w (a34.add 3) (.map m35) ∧ runV Tryz.prog (Instr.lookup 77 (.map m35) (.int .i64 x33) false) w (fun r36 w37 => ∃ x38 : Int, ∃ x39 : Int, ∃ x40 : Int, r36 = .agg #[.int .i64 x38, .int .i64 x39, .int .i64 x40] ∧ let w41 : World := w37.alloc (.cells #[.int .i64 0, .int .i64 0, .int .i64 0] 91)
  (.agg #[.int .i64 x38, .int .i64 x39, .int .i64 x40] : Value).cells.size = 3 ∧ wrOk w41 (⟨w37.heap.size, 0, none⟩ : Addr) (.agg #[.int .i64 x38, .int .i64 x39, .int .i64 x40]) ∧ let w42 : World := wr w41 (⟨w37.heap.size, 0, none⟩ : Addr) (.agg #[.int .i64 x38, .int .i64 x39, .int .i64 x40])
  let w43 : World := w42.drew
  ∃ x44 : Int, rd w43 (⟨w37.heap.size, 0, none⟩ : Addr) (.int .i64 x44) ∧ ∃ x45 : Int, rd w43 ((⟨w37.heap.size, 0, none⟩ : Addr).add 1) (.int .i64 x45) ∧ ∃ x46 : Int, rd w43 (((⟨w37.heap.size, 0, none⟩ : Addr).add 1).add 1) (.int .i64 x46) ∧ Calls Tryz.prog 49 #[.slice b27a b27l b27c, .int .i64 x33] w43 (ret (fun r47 w48 => ∃ s49a : Option Addr, ∃ s49l : Nat, ∃ s49c : Nat, r47 = .slice s49a s49l s49c ∧ (rd w48 (((⟨w37.heap.size, 0, none⟩ : Addr).add 1).add 1) (.int .i64 x46) ∧ rd w48 ((⟨w37.heap.size, 0, none⟩ : Addr).add 1) (.int .i64 x45) ∧ rd w48 (⟨w37.heap.size, 0, none⟩ : Addr) (.int .i64 x44) ∧ True) ∧ Calls Tryz.prog 49 #[.slice s49a s49l s49c, .int .i64 x44] w48 (ret (fun r50 w51 => ∃ s52a : Option Addr, ∃ s52l : Nat, ∃ s52c : Nat, r50 = .slice s52a s52l s52c ∧ (rd w51 (((⟨w37.heap.size, 0, none⟩ : Addr).add 1).add 1) (.int .i64 x46) ∧ rd w51 ((⟨w37.heap.size, 0, none⟩ : Addr).add 1) (.int .i64 x45) ∧ True) ∧ Calls Tryz.prog 49 #[.slice s52a s52l s52c, .int .i64 x45] w51 (ret (fun r53 w54 => ∃ s55a : Option Addr, ∃ s55l : Nat, ∃ s55c : Nat, r53 = .slice s55a s55l s55c ∧ (rd w54 (((⟨w37.heap.size, 0, none⟩ : Addr).add 1).add 1) (.int .i64 x46) ∧ True) ∧ Calls Tryz.prog 49 #[.slice s55a s55l s55c, .int .i64 x46] w54 (ret (fun r56 w57 => ∃ s58a : Option Addr, ∃ s58l : Nat, ∃ s58c : Nat, r56 = .slice s58a s58l s58c ∧ (True) ∧ X s58a s58l s58c (IntKind.wrap .i64 ((x28 : Int) + 1)) w57) Kp)) Kp)) Kp)) Kp)) Kp) else (Kn b27a b27l b27c w)

def T_conf_Store_Put_1 (b27a : Option Addr) (b27l : Nat) (b27c : Nat) (x28 : Int) (s29 : Option Addr) (s30a : Option Addr) (s30l : Nat) (s30c : Nat) (x31 : Int) (w : World) (Kn : Option Addr → Nat → Nat → World → Prop) (Kp : List PanicEntry → World → Prop) : Prop :=
  ∀ X : Option Addr → Nat → Nat → Int → World → Prop, (∀ (b27a : Option Addr) (b27l : Nat) (b27c : Nat) (x28 : Int) (w : World), T_conf_Store_Put_1_body X b27a b27l b27c x28 s29 s30a s30l s30c x31 w Kn Kp → X b27a b27l b27c x28 w) → X b27a b27l b27c x28 w

def T_conf_Store_Put_1_outs : Exit → Option (List (Nat × Value)) := fun x => match x with | .normal => some [(3, .slice none 0 0)] | .panic _ => some [] | _ => none

def T_conf_Store_Put_1_ks : Nat → Bool := ksOf [3, 5, 6, 29, 30, 31, 32, 33, 34, 35, 36, 37, 38, 39, 40, 41, 42, 43, 44, 45, 46, 47, 48, 49, 50, 51, 52, 53]

def H_conf_Store_Put_1 : Env → World → QT → Prop := unitHook 55 T_conf_Store_Put_1_ks [(3, .slice none 0 0), (29, .int .i64 0), (0, .pointer none), (27, .slice none 0 0), (28, .int .i64 0)] T_conf_Store_Put_1_outs fun l w C => match l with | [v0, v1, v2, v3, v4] => T_conf_Store_Put_1 (pA v0) (pL v0) (pC v0) (pInt v1) (pPtr v2) (pA v3) (pL v3) (pC v3) (pInt v4) w (fun b60a b60l b60c w => C .normal [.slice b60a b60l b60c] w) (fun ch w => C (.panic ch) [] w) | _ => False

theorem T_conf_Store_Put_1_hl : allP (hokL Tryz.prog (hookAt []) (at_ (bodyOf Tryz.f25) [1, 1, 1, 0, 1, 0, 0]) 244) = (True) := by kernel_rfl
theorem T_conf_Store_Put_1_hok : HOk Tryz.prog (hookAt []) (at_ (bodyOf Tryz.f25) [1, 1, 1, 0, 1, 0, 0]) 244 := HOk_of _ _ (by rw [T_conf_Store_Put_1_hl]; exact trivial)

theorem T_conf_Store_Put_1_eq (C : Conts) (X : List Value → World → Prop) (b27a : Option Addr) (b27l : Nat) (b27c : Nat) (x28 : Int) (s29 : Option Addr) (s30a : Option Addr) (s30l : Nat) (s30c : Nat) (x31 : Int) (w : World) : vcCode Tryz.prog (hookAt []) (at_ (bodyOf Tryz.f25) [1, 1, 1, 0, 1, 0, 0]) 244 ⟨[(3, .slice b27a b27l b27c), (29, .int .i64 x28)] ++ [(0, .pointer s29), (27, .slice s30a s30l s30c), (28, .int .i64 x31)], 55, []⟩ w (seqQ (fun e w => takeAll e [(3, .slice none 0 0), (29, .int .i64 0)] fun l => X l w) (blockQ 0 (unitQ T_conf_Store_Put_1_outs C))) = T_conf_Store_Put_1_body (fun b27a b27l b27c x28 w => X [.slice b27a b27l b27c, .int .i64 x28] w) b27a b27l b27c x28 s29 s30a s30l s30c x31 w (fun b61a b61l b61c w => C .normal [.slice b61a b61l b61c] w) (fun ch w => C (.panic ch) [] w) := by kernel_rfl

theorem T_conf_Store_Put_1_ok : UnitOk Tryz.prog H_conf_Store_Put_1 (at_ (bodyOf Tryz.f25) [1, 1, 1, 0, 1]) 61 := by
  have hc : at_ (bodyOf Tryz.f25) [1, 1, 1, 0, 1] = .block 0 (.loop (at_ (bodyOf Tryz.f25) [1, 1, 1, 0, 1, 0, 0])) := by kernel_rfl
  rw [hc]
  refine loop_unit_ok (carr := [(3, .slice none 0 0), (29, .int .i64 0)]) (fix := [(0, .pointer none), (27, .slice none 0 0), (28, .int .i64 0)]) (ks := T_conf_Store_Put_1_ks) (H := (hookAt [])) (B := fun C X l u w => match l, u with | [v0, v1], [v2, v3, v4] => T_conf_Store_Put_1_body (fun b27a b27l b27c x28 w => X [.slice b27a b27l b27c, .int .i64 x28] w) (pA v0) (pL v0) (pC v0) (pInt v1) (pPtr v2) (pA v3) (pL v3) (pC v3) (pInt v4) w (fun b62a b62l b62c w => C .normal [.slice b62a b62l b62c] w) (fun ch w => C (.panic ch) [] w) | _, _ => False) (by kernel_rfl) (by kernel_rfl) T_conf_Store_Put_1_hok ?_ ?_
  · intro C X l u w hl hu
    obtain ⟨v0, l_v0, rfl, k_v0, hl_v0⟩ := Kinds.cons_ hl
    obtain ⟨b27a, b27l, b27c, rfl⟩ := kind_slice k_v0
    obtain ⟨v1, l_v1, rfl, k_v1, hl_v1⟩ := Kinds.cons_ hl_v0
    obtain ⟨x28, rfl⟩ := kind_int k_v1
    obtain rfl := Kinds.nil_ hl_v1
    obtain ⟨v2, l_v2, rfl, k_v2, hu_v2⟩ := Kinds.cons_ hu
    obtain ⟨s29, rfl⟩ := kind_pointer k_v2
    obtain ⟨v3, l_v3, rfl, k_v3, hu_v3⟩ := Kinds.cons_ hu_v2
    obtain ⟨s30a, s30l, s30c, rfl⟩ := kind_slice k_v3
    obtain ⟨v4, l_v4, rfl, k_v4, hu_v4⟩ := Kinds.cons_ hu_v3
    obtain ⟨x31, rfl⟩ := kind_int k_v4
    obtain rfl := Kinds.nil_ hu_v4
    exact T_conf_Store_Put_1_eq C X b27a b27l b27c x28 s29 s30a s30l s30c x31 w
  · intro l u w C hl hu
    obtain ⟨v0, l_v0, rfl, k_v0, hl_v0⟩ := Kinds.cons_ hl
    obtain ⟨b27a, b27l, b27c, rfl⟩ := kind_slice k_v0
    obtain ⟨v1, l_v1, rfl, k_v1, hl_v1⟩ := Kinds.cons_ hl_v0
    obtain ⟨x28, rfl⟩ := kind_int k_v1
    obtain rfl := Kinds.nil_ hl_v1
    obtain ⟨v2, l_v2, rfl, k_v2, hu_v2⟩ := Kinds.cons_ hu
    obtain ⟨s29, rfl⟩ := kind_pointer k_v2
    obtain ⟨v3, l_v3, rfl, k_v3, hu_v3⟩ := Kinds.cons_ hu_v2
    obtain ⟨s30a, s30l, s30c, rfl⟩ := kind_slice k_v3
    obtain ⟨v4, l_v4, rfl, k_v4, hu_v4⟩ := Kinds.cons_ hu_v3
    obtain ⟨x31, rfl⟩ := kind_int k_v4
    obtain rfl := Kinds.nil_ hu_v4
    constructor
    · intro h X hX
      exact h (fun b27a b27l b27c x28 w => X [.slice b27a b27l b27c, .int .i64 x28] w) (fun b27a b27l b27c x28 w hb => hX [.slice b27a b27l b27c, .int .i64 x28] w ⟨rfl, rfl, trivial⟩ hb)
    · intro h X hX
      exact h (fun l w => match l with | [v0, v1] => X (pA v0) (pL v0) (pC v0) (pInt v1) w | _ => True) (fun l w hl hb => by
        obtain ⟨v0, l_v0, rfl, k_v0, hl_v0⟩ := Kinds.cons_ hl
        obtain ⟨b27a, b27l, b27c, rfl⟩ := kind_slice k_v0
        obtain ⟨v1, l_v1, rfl, k_v1, hl_v1⟩ := Kinds.cons_ hl_v0
        obtain ⟨x28, rfl⟩ := kind_int k_v1
        obtain rfl := Kinds.nil_ hl_v1
        exact hX b27a b27l b27c x28 w hb)

def T_conf_Store_Put (s1 : Option Addr) (w : World) (R : Ending → World → Prop) : Prop :=
  if s1.isNone = true then (R (.returned (.slice none 0 0)) w) else (let w2 : World := w.drew
  ∃ a3, s1 = some a3 ∧ ∃ x4 : Int, rd w2 a3 (.int .i64 x4) ∧ ∃ a5, s1 = some a5 ∧ ∃ m6 : Option Nat, rd w2 (a5.add 3) (.map m6) ∧ Calls Tryz.prog 49 #[.slice none 0 0, .int .i64 x4] w2 (ret (fun r7 w8 => ∃ s9a : Option Addr, ∃ s9l : Nat, ∃ s9c : Nat, r7 = .slice s9a s9l s9c ∧ (rd w8 (a5.add 3) (.map m6) ∧ True) ∧ Calls Tryz.prog 50 #[.pointer s1, .slice s9a s9l s9c] w8 (ret (fun r10 w11 => ∃ s12a : Option Addr, ∃ s12l : Nat, ∃ s12c : Nat, r10 = .slice s12a s12l s12c ∧ (rd w11 (a5.add 3) (.map m6) ∧ True) ∧ runV Tryz.prog (Builtin.len_ #[77] 3 #[.map m6]) w11 (fun r13 w14 => ∃ x15 : Int, r13 = .int .i64 x15 ∧ (True) ∧ Calls Tryz.prog 49 #[.slice s12a s12l s12c, .int .i64 x15] w14 (ret (fun r16 w17 => ∃ s18a : Option Addr, ∃ s18l : Nat, ∃ s18c : Nat, r16 = .slice s18a s18l s18c ∧ (True) ∧ ∃ a19, s1 = some a19 ∧ ∃ m20 : Option Nat, rd w17 (a19.add 3) (.map m20) ∧ Calls Tryz.prog 52 #[.map m20] w17 (ret (fun r21 w22 => ∃ u23 : Value, one u23 = true ∧ r21 = u23 ∧ Calls Tryz.prog 51 #[u23] w22 (ret (fun r24 w25 => ∃ s26a : Option Addr, ∃ s26l : Nat, ∃ s26c : Nat, r24 = .slice s26a s26l s26c ∧ T_conf_Store_Put_1 s18a s18l s18c 0 s1 s26a s26l s26c ((s26l : Nat) : Int) w25 (fun b63a b63l b63c w64 => R (.returned (.slice b63a b63l b63c)) w64) (pan R)) (pan R))) (pan R))) (pan R))) (pan R)) (pan R))) (pan R)))

theorem T_conf_Store_Put_hl : allP (hokL Tryz.prog (hookAt [(61, H_conf_Store_Put_1)]) (bodyOf Tryz.f25) 1) = (UnitOk Tryz.prog H_conf_Store_Put_1 (at_ (bodyOf Tryz.f25) [1, 1, 1, 0, 1]) 61 ∧ True) := by kernel_rfl

theorem T_conf_Store_Put_eq (s1 : Option Addr) (w : World) (R : Ending → World → Prop) : vcCode Tryz.prog (hookAt [(61, H_conf_Store_Put_1)]) (bodyOf Tryz.f25) 1 ⟨argEnv [.pointer s1] 0, Tryz.f25.ntmps, []⟩ w (finQ Tryz.prog Tryz.f25.results.toList R) = T_conf_Store_Put s1 w R := by kernel_rfl

theorem T_conf_Store_Put_b : Tryz.f25.body = some (bodyOf Tryz.f25) := by kernel_rfl
theorem T_conf_Store_Put_s : (quietSel (bodyOf Tryz.f25) && Nat.ble 1 Tryz.f25.ntmps) = true := by kernel_rfl

theorem C_conf_Store_Put {s1 : Option Addr} {w : World} {R : Ending → World → Prop} (h : T_conf_Store_Put s1 w R) : Calls Tryz.prog 25 #[.pointer s1] w R :=
  calls_of_text (args := [.pointer s1]) mixed Tryz.func25 T_conf_Store_Put_b T_conf_Store_Put_s (HOk_of _ _ (by rw [T_conf_Store_Put_hl]; exact ⟨T_conf_Store_Put_1_ok, trivial⟩)) (by rw [T_conf_Store_Put_eq]; exact h)

/-! tollgate/tollgatelaw08.same -/
def T_law08_same_1 (s3 : Option Addr) (r4 : Option Addr) (w : World) (Kn : Bool → World → Prop) (Kp : List PanicEntry → World → Prop) : Prop :=
  let w5 : World := w.drew
  Calls Tryz.prog 14 #[.pointer s3] w5 (ret (fun r6 w7 => ∃ x8 : Int, ∃ s9a : Option Addr, ∃ s9l : Nat, ∃ s9c : Nat, ∃ s10a : Option Addr, ∃ s10l : Nat, ∃ s10c : Nat, r6 = .agg #[.int .i64 x8, .slice s9a s9l s9c, .slice s10a s10l s10c] ∧ (True) ∧ Calls Tryz.prog 53 #[.pointer r4] w7 (ret (fun r11 w12 => ∃ x13 : Int, ∃ s14a : Option Addr, ∃ s14l : Nat, ∃ s14c : Nat, ∃ s15a : Option Addr, ∃ s15l : Nat, ∃ s15c : Nat, r11 = .agg #[.int .i64 x13, .slice s14a s14l s14c, .slice s15a s15l s15c] ∧ (True) ∧ Calls Tryz.prog 20 #[.agg #[.int .i64 x8, .slice s9a s9l s9c, .slice s10a s10l s10c], .agg #[.int .i64 x13, .slice s14a s14l s14c, .slice s15a s15l s15c]] w12 (ret (fun r16 w17 => ∃ b18 : Bool, r16 = .bool b18 ∧ (True) ∧ if (!b18) = true then ((True) ∧ ((True) ∧ (True) ∧ (True) ∧ Kn true w17) ∧ ((True) ∧ ((True) ∧ (True) ∧ Kn true w17) ∧ ((True) ∧ (True) ∧ Kn true w17))) else (Calls Tryz.prog 25 #[.pointer s3] w17 (ret (fun r19 w20 => ∃ s21a : Option Addr, ∃ s21l : Nat, ∃ s21c : Nat, r19 = .slice s21a s21l s21c ∧ (True) ∧ (runV Tryz.prog (convert 56 9 (.slice s21a s21l s21c)) w20 (fun r22 w23 => ∃ s24 : ByteArray, r22 = .string s24 ∧ (True) ∧ Calls Tryz.prog 54 #[.pointer r4] w23 (ret (fun r25 w26 => ∃ s27a : Option Addr, ∃ s27l : Nat, ∃ s27c : Nat, r25 = .slice s27a s27l s27c ∧ (True) ∧ runV Tryz.prog (convert 56 9 (.slice s27a s27l s27c)) w26 (fun r28 w29 => ∃ s30 : ByteArray, r28 = .string s30 ∧ (True) ∧ Kn (!(s24.toList == s30.toList)) w29) Kp) Kp)) Kp) ∧ (Calls Tryz.prog 54 #[.pointer r4] w20 (ret (fun r31 w32 => ∃ s33a : Option Addr, ∃ s33l : Nat, ∃ s33c : Nat, r31 = .slice s33a s33l s33c ∧ (True) ∧ (runV Tryz.prog (convert 56 9 (.slice s21a s21l s21c)) w32 (fun r34 w35 => ∃ s36 : ByteArray, r34 = .string s36 ∧ (True) ∧ runV Tryz.prog (convert 56 9 (.slice s33a s33l s33c)) w35 (fun r37 w38 => ∃ s39 : ByteArray, r37 = .string s39 ∧ (True) ∧ Kn (!(s36.toList == s39.toList)) w38) Kp) Kp) ∧ (runV Tryz.prog (convert 56 9 (.slice s33a s33l s33c)) w32 (fun r40 w41 => ∃ s42 : ByteArray, r40 = .string s42 ∧ (True) ∧ runV Tryz.prog (convert 56 9 (.slice s21a s21l s21c)) w41 (fun r43 w44 => ∃ s45 : ByteArray, r43 = .string s45 ∧ (True) ∧ Kn (!(s45.toList == s42.toList)) w44) Kp) Kp)) Kp))) Kp))) Kp)) Kp)) Kp)

def T_law08_same_1_outs : Exit → Option (List (Nat × Value)) := fun x => match x with | .normal => some [(24, .bool false)] | .panic _ => some [] | _ => none

def T_law08_same_1_ks : Nat → Bool := ksOf [10, 11, 12, 13, 14, 15, 16, 17, 18, 19, 20, 21, 22, 23, 24]

def H_law08_same_1 : Env → World → QT → Prop := unitHook 49 T_law08_same_1_ks [(0, .pointer none), (1, .pointer none)] T_law08_same_1_outs fun l w C => match l with | [v0, v1] => T_law08_same_1 (pPtr v0) (pPtr v1) w (fun b47 w => C .normal [.bool b47] w) (fun ch w => C (.panic ch) [] w) | _ => False

theorem T_law08_same_1_hl : allP (hokL Tryz.prog (hookAt []) (at_ (bodyOf Tryz.f26) [1, 0, 0]) 12) = (True) := by kernel_rfl
theorem T_law08_same_1_hok : HOk Tryz.prog (hookAt []) (at_ (bodyOf Tryz.f26) [1, 0, 0]) 12 := HOk_of _ _ (by rw [T_law08_same_1_hl]; exact trivial)

theorem T_law08_same_1_eq (C : Conts) (s3 : Option Addr) (r4 : Option Addr) (w : World) : vcCode Tryz.prog (hookAt []) (at_ (bodyOf Tryz.f26) [1, 0, 0]) 12 ⟨[(0, .pointer s3), (1, .pointer r4)], 49, []⟩ w (unitQ T_law08_same_1_outs C) = T_law08_same_1 s3 r4 w (fun b48 w => C .normal [.bool b48] w) (fun ch w => C (.panic ch) [] w) := by kernel_rfl

theorem T_law08_same_1_ok : UnitOk Tryz.prog H_law08_same_1 (at_ (bodyOf Tryz.f26) [1, 0, 0]) 12 := unit_ok (H := (hookAt [])) (by kernel_rfl) T_law08_same_1_hok fun l w C hk => by
    obtain ⟨v0, l_v0, rfl, k_v0, hk_v0⟩ := Kinds.cons_ hk
    obtain ⟨s3, rfl⟩ := kind_pointer k_v0
    obtain ⟨v1, l_v1, rfl, k_v1, hk_v1⟩ := Kinds.cons_ hk_v0
    obtain ⟨r4, rfl⟩ := kind_pointer k_v1
    obtain rfl := Kinds.nil_ hk_v1
    exact T_law08_same_1_eq C s3 r4 w

def T_law08_same_2_body (X : Int → World → Prop) (k51 : Int) (s52 : Option Addr) (r53 : Option Addr) (w : World) (Kn : World → Prop) (Kr : Bool → World → Prop) (Kp : List PanicEntry → World → Prop)  : Prop :=
  if (decide ((k51 : Int) ≤ 33)) = true then (Calls Tryz.prog 24 #[.pointer s52, .int .i64 k51] w (ret (fun r54 w55 => ∃ x56 : Int, ∃ x57 : Int, ∃ x58 : Int, r54 = .tuple #[.int .i64 x56, .agg #[.int .i64 x57, .int .i64 x58]] ∧ let w59 : World := w55.alloc (.cells #[.int .i64 0, .int .i64 0] 45)
  (.agg #[.int .i64 x57, .int .i64 x58] : Value).cells.size = 2 ∧ wrOk w59 (⟨w55.heap.size, 0, none⟩ : Addr) (.agg #[.int .i64 x57, .int .i64 x58]) ∧ let w60 : World := wr w59 (⟨w55.heap.size, 0, none⟩ : Addr) (.agg #[.int .i64 x57, .int .i64 x58])
  Calls Tryz.prog 55 #[.pointer r53, .int .i64 k51] w60 (ret (fun r61 w62 => ∃ x63 : Int, ∃ x64 : Int, ∃ x65 : Int, r61 = .tuple #[.int .i64 x63, .agg #[.int .i64 x64, .int .i64 x65]] ∧ let w66 : World := w62.alloc (.cells #[.int .i64 0, .int .i64 0] 45)
  (.agg #[.int .i64 x64, .int .i64 x65] : Value).cells.size = 2 ∧ wrOk w66 (⟨w62.heap.size, 0, none⟩ : Addr) (.agg #[.int .i64 x64, .int .i64 x65]) ∧ let w67 : World := wr w66 (⟨w62.heap.size, 0, none⟩ : Addr) (.agg #[.int .i64 x64, .int .i64 x65])
  if ((x56 : Int) != x63) = true then (Kr false w67) else (∃ x68 : Int, ∃ x69 : Int, rd w67 (⟨w55.heap.size, 0, none⟩ : Addr) (.agg #[.int .i64 x68, .int .i64 x69]) ∧ ∃ x70 : Int, ∃ x71 : Int, rd w67 (⟨w62.heap.size, 0, none⟩ : Addr) (.agg #[.int .i64 x70, .int .i64 x71]) ∧ runV Tryz.prog (do eqGuard .neq 45 (.tmp 45) (.tmp 46) (.agg #[.int .i64 x68, .int .i64 x69]) (.agg #[.int .i64 x70, .int .i64 x71]); binOp .neq 45 (.agg #[.int .i64 x68, .int .i64 x69]) (.agg #[.int .i64 x70, .int .i64 x71])) w67 (fun r72 w73 => ∃ b74 : Bool, r72 = .bool b74 ∧ if b74 = true then (Kr false w73) else (X (IntKind.wrap .i64 ((k51 : Int) + 1)) w73)) Kp)) Kp)) Kp)) else (Kn  w)

def T_law08_same_2 (k51 : Int) (s52 : Option Addr) (r53 : Option Addr) (w : World) (Kn : World → Prop) (Kr : Bool → World → Prop) (Kp : List PanicEntry → World → Prop) : Prop :=
  ∀ X : Int → World → Prop, (∀ (k51 : Int) (w : World), T_law08_same_2_body X k51 s52 r53 w Kn Kr Kp → X k51 w) → X k51 w

def T_law08_same_2_outs : Exit → Option (List (Nat × Value)) := fun x => match x with | .normal => some [] | .ret => some [(4, .bool false)] | .panic _ => some [] | _ => none

def T_law08_same_2_ks : Nat → Bool := ksOf [4, 5, 6, 7, 8, 9, 25, 26, 27, 28, 29, 30, 31, 32, 33, 34, 35, 36, 37, 38, 39, 40, 41, 42, 43, 44, 45, 46, 47, 48]

def H_law08_same_2 : Env → World → QT → Prop := unitHook 49 T_law08_same_2_ks [(5, .int .i64 0), (0, .pointer none), (1, .pointer none)] T_law08_same_2_outs fun l w C => match l with | [v0, v1, v2] => T_law08_same_2 (pInt v0) (pPtr v1) (pPtr v2) w (fun w => C .normal [] w) (fun b76 w => C .ret [.bool b76] w) (fun ch w => C (.panic ch) [] w) | _ => False

theorem T_law08_same_2_hl : allP (hokL Tryz.prog (hookAt []) (at_ (bodyOf Tryz.f26) [1, 1, 0, 1, 0, 0]) 116) = (True) := by kernel_rfl
theorem T_law08_same_2_hok : HOk Tryz.prog (hookAt []) (at_ (bodyOf Tryz.f26) [1, 1, 0, 1, 0, 0]) 116 := HOk_of _ _ (by rw [T_law08_same_2_hl]; exact trivial)

theorem T_law08_same_2_eq (C : Conts) (X : List Value → World → Prop) (k51 : Int) (s52 : Option Addr) (r53 : Option Addr) (w : World) : vcCode Tryz.prog (hookAt []) (at_ (bodyOf Tryz.f26) [1, 1, 0, 1, 0, 0]) 116 ⟨[(5, .int .i64 k51)] ++ [(0, .pointer s52), (1, .pointer r53)], 49, []⟩ w (seqQ (fun e w => takeAll e [(5, .int .i64 0)] fun l => X l w) (blockQ 0 (unitQ T_law08_same_2_outs C))) = T_law08_same_2_body (fun k51 w => X [.int .i64 k51] w) k51 s52 r53 w (fun w => C .normal [] w) (fun b77 w => C .ret [.bool b77] w) (fun ch w => C (.panic ch) [] w) := by kernel_rfl

theorem T_law08_same_2_ok : UnitOk Tryz.prog H_law08_same_2 (at_ (bodyOf Tryz.f26) [1, 1, 0, 1]) 29 := by
  have hc : at_ (bodyOf Tryz.f26) [1, 1, 0, 1] = .block 0 (.loop (at_ (bodyOf Tryz.f26) [1, 1, 0, 1, 0, 0])) := by kernel_rfl
  rw [hc]
  refine loop_unit_ok (carr := [(5, .int .i64 0)]) (fix := [(0, .pointer none), (1, .pointer none)]) (ks := T_law08_same_2_ks) (H := (hookAt [])) (B := fun C X l u w => match l, u with | [v0], [v1, v2] => T_law08_same_2_body (fun k51 w => X [.int .i64 k51] w) (pInt v0) (pPtr v1) (pPtr v2) w (fun w => C .normal [] w) (fun b78 w => C .ret [.bool b78] w) (fun ch w => C (.panic ch) [] w) | _, _ => False) (by kernel_rfl) (by kernel_rfl) T_law08_same_2_hok ?_ ?_
  · intro C X l u w hl hu
    obtain ⟨v0, l_v0, rfl, k_v0, hl_v0⟩ := Kinds.cons_ hl
    obtain ⟨k51, rfl⟩ := kind_int k_v0
    obtain rfl := Kinds.nil_ hl_v0
    obtain ⟨v1, l_v1, rfl, k_v1, hu_v1⟩ := Kinds.cons_ hu
    obtain ⟨s52, rfl⟩ := kind_pointer k_v1
    obtain ⟨v2, l_v2, rfl, k_v2, hu_v2⟩ := Kinds.cons_ hu_v1
    obtain ⟨r53, rfl⟩ := kind_pointer k_v2
    obtain rfl := Kinds.nil_ hu_v2
    exact T_law08_same_2_eq C X k51 s52 r53 w
  · intro l u w C hl hu
    obtain ⟨v0, l_v0, rfl, k_v0, hl_v0⟩ := Kinds.cons_ hl
    obtain ⟨k51, rfl⟩ := kind_int k_v0
    obtain rfl := Kinds.nil_ hl_v0
    obtain ⟨v1, l_v1, rfl, k_v1, hu_v1⟩ := Kinds.cons_ hu
    obtain ⟨s52, rfl⟩ := kind_pointer k_v1
    obtain ⟨v2, l_v2, rfl, k_v2, hu_v2⟩ := Kinds.cons_ hu_v1
    obtain ⟨r53, rfl⟩ := kind_pointer k_v2
    obtain rfl := Kinds.nil_ hu_v2
    constructor
    · intro h X hX
      exact h (fun k51 w => X [.int .i64 k51] w) (fun k51 w hb => hX [.int .i64 k51] w ⟨rfl, trivial⟩ hb)
    · intro h X hX
      exact h (fun l w => match l with | [v0] => X (pInt v0) w | _ => True) (fun l w hl hb => by
        obtain ⟨v0, l_v0, rfl, k_v0, hl_v0⟩ := Kinds.cons_ hl
        obtain ⟨k51, rfl⟩ := kind_int k_v0
        obtain rfl := Kinds.nil_ hl_v0
        exact hX k51 w hb)

def T_law08_same (s1 : Option Addr) (r2 : Option Addr) (w : World) (R : Ending → World → Prop) : Prop :=
  T_law08_same_1 s1 r2 w (fun b49 w50 => if b49 = true then (R (.returned (.bool false)) w50) else (T_law08_same_2 (-1) s1 r2 w50 (fun w79 => R (.returned (.bool true)) w79) (fun b80 w81 => R (.returned (.bool b80)) w81) (pan R))) (pan R)

theorem T_law08_same_hl : allP (hokL Tryz.prog (hookAt [(12, H_law08_same_1), (29, H_law08_same_2)]) (bodyOf Tryz.f26) 1) = (UnitOk Tryz.prog H_law08_same_1 (at_ (bodyOf Tryz.f26) [1, 0, 0]) 12 ∧ UnitOk Tryz.prog H_law08_same_2 (at_ (bodyOf Tryz.f26) [1, 1, 0, 1]) 29 ∧ True) := by kernel_rfl

theorem T_law08_same_eq (s1 : Option Addr) (r2 : Option Addr) (w : World) (R : Ending → World → Prop) : vcCode Tryz.prog (hookAt [(12, H_law08_same_1), (29, H_law08_same_2)]) (bodyOf Tryz.f26) 1 ⟨argEnv [.pointer s1, .pointer r2] 0, Tryz.f26.ntmps, []⟩ w (finQ Tryz.prog Tryz.f26.results.toList R) = T_law08_same s1 r2 w R := by kernel_rfl

theorem T_law08_same_b : Tryz.f26.body = some (bodyOf Tryz.f26) := by kernel_rfl
theorem T_law08_same_s : (quietSel (bodyOf Tryz.f26) && Nat.ble 2 Tryz.f26.ntmps) = true := by kernel_rfl

theorem C_law08_same {s1 : Option Addr} {r2 : Option Addr} {w : World} {R : Ending → World → Prop} (h : T_law08_same s1 r2 w R) : Calls Tryz.prog 26 #[.pointer s1, .pointer r2] w R :=
  calls_of_text (args := [.pointer s1, .pointer r2]) mixed Tryz.func26 T_law08_same_b T_law08_same_s (HOk_of _ _ (by rw [T_law08_same_hl]; exact ⟨T_law08_same_1_ok, T_law08_same_2_ok, trivial⟩)) (by rw [T_law08_same_eq]; exact h)

/-! (*tollgate/conf.Store).Fork -/
/-! tollgate/conf.New -/
def T_conf_New  (w : World) (R : Ending → World → Prop) : Prop :=
  let w1 : World := w.alloc (.map #[] 0)
  let w2 : World := w1.alloc (.map #[] 0)
  let w3 : World := w2.alloc (.map #[] 0)
  let w4 : World := w3.alloc (.cells #[.int .i64 0, .map (some w.heap.size), .map (some w1.heap.size), .map (some w2.heap.size)] 79)
  R (.returned (.pointer (some (⟨w3.heap.size, 0, none⟩ : Addr)))) w4

theorem T_conf_New_hl : allP (hokL Tryz.prog (hookAt []) (bodyOf Tryz.f35) 1) = (True) := by kernel_rfl

theorem T_conf_New_eq  (w : World) (R : Ending → World → Prop) : vcCode Tryz.prog (hookAt []) (bodyOf Tryz.f35) 1 ⟨argEnv [] 0, Tryz.f35.ntmps, []⟩ w (finQ Tryz.prog Tryz.f35.results.toList R) = T_conf_New  w R := by kernel_rfl

theorem T_conf_New_b : Tryz.f35.body = some (bodyOf Tryz.f35) := by kernel_rfl
theorem T_conf_New_s : (quietSel (bodyOf Tryz.f35) && Nat.ble 0 Tryz.f35.ntmps) = true := by kernel_rfl

theorem C_conf_New  {w : World} {R : Ending → World → Prop} (h : T_conf_New  w R) : Calls Tryz.prog 35 #[] w R :=
  calls_of_text (args := []) mixed Tryz.func35 T_conf_New_b T_conf_New_s (HOk_of _ _ (by rw [T_conf_New_hl]; exact trivial)) (by rw [T_conf_New_eq]; exact h)

/-! slices.Sorted[string] -/
def T_slices_Sorted_string (seq1g : FuncId) (seq1i : Array Value) (seq1c : Array Value) (w : World) (R : Ending → World → Prop) : Prop :=
  Calls Tryz.prog 73 #[.func (.func seq1g) seq1i seq1c] w (ret (fun r2 w3 => ∃ s4a : Option Addr, ∃ s4l : Nat, ∃ s4c : Nat, r2 = .slice s4a s4l s4c ∧ Calls Tryz.prog 74 #[.slice s4a s4l s4c] w3 (ret (fun r5 w6 => r5 = .tuple #[] ∧ R (.returned (.slice s4a s4l s4c)) w6) (pan R))) (pan R))

theorem T_slices_Sorted_string_hl : allP (hokL Tryz.prog (hookAt []) (bodyOf Tryz.f37) 1) = (True) := by kernel_rfl

theorem T_slices_Sorted_string_eq (seq1g : FuncId) (seq1i : Array Value) (seq1c : Array Value) (w : World) (R : Ending → World → Prop) : vcCode Tryz.prog (hookAt []) (bodyOf Tryz.f37) 1 ⟨argEnv [.func (.func seq1g) seq1i seq1c] 0, Tryz.f37.ntmps, []⟩ w (finQ Tryz.prog Tryz.f37.results.toList R) = T_slices_Sorted_string seq1g seq1i seq1c w R := by kernel_rfl

theorem T_slices_Sorted_string_b : Tryz.f37.body = some (bodyOf Tryz.f37) := by kernel_rfl
theorem T_slices_Sorted_string_s : (quietSel (bodyOf Tryz.f37) && Nat.ble 1 Tryz.f37.ntmps) = true := by kernel_rfl

theorem C_slices_Sorted_string {seq1g : FuncId} {seq1i : Array Value} {seq1c : Array Value} {w : World} {R : Ending → World → Prop} (h : T_slices_Sorted_string seq1g seq1i seq1c w R) : Calls Tryz.prog 37 #[.func (.func seq1g) seq1i seq1c] w R :=
  calls_of_text (args := [.func (.func seq1g) seq1i seq1c]) mixed Tryz.func37 T_slices_Sorted_string_b T_slices_Sorted_string_s (HOk_of _ _ (by rw [T_slices_Sorted_string_hl]; exact trivial)) (by rw [T_slices_Sorted_string_eq]; exact h)

/-! maps.Keys[map[string][]tollgate/api.Target,string,[]tollgate/api.Target] -/
def T_maps_Keys_map_string_api_Target_string_api_Target (m1 : Option Nat) (w : World) (R : Ending → World → Prop) : Prop :=
  let w2 : World := w.alloc (.cells #[.map m1] 75)
  R (.returned (.func (.func 75) #[] #[.pointer (some (⟨w.heap.size, 0, none⟩ : Addr))])) w2

theorem T_maps_Keys_map_string_api_Target_string_api_Target_hl : allP (hokL Tryz.prog (hookAt []) (bodyOf Tryz.f38) 1) = (True) := by kernel_rfl

theorem T_maps_Keys_map_string_api_Target_string_api_Target_eq (m1 : Option Nat) (w : World) (R : Ending → World → Prop) : vcCode Tryz.prog (hookAt []) (bodyOf Tryz.f38) 1 ⟨argEnv [.map m1] 0, Tryz.f38.ntmps, []⟩ w (finQ Tryz.prog Tryz.f38.results.toList R) = T_maps_Keys_map_string_api_Target_string_api_Target m1 w R := by kernel_rfl

theorem T_maps_Keys_map_string_api_Target_string_api_Target_b : Tryz.f38.body = some (bodyOf Tryz.f38) := by kernel_rfl
theorem T_maps_Keys_map_string_api_Target_string_api_Target_s : (quietSel (bodyOf Tryz.f38) && Nat.ble 1 Tryz.f38.ntmps) = true := by kernel_rfl

theorem C_maps_Keys_map_string_api_Target_string_api_Target {m1 : Option Nat} {w : World} {R : Ending → World → Prop} (h : T_maps_Keys_map_string_api_Target_string_api_Target m1 w R) : Calls Tryz.prog 38 #[.map m1] w R :=
  calls_of_text (args := [.map m1]) mixed Tryz.func38 T_maps_Keys_map_string_api_Target_string_api_Target_b T_maps_Keys_map_string_api_Target_string_api_Target_s (HOk_of _ _ (by rw [T_maps_Keys_map_string_api_Target_string_api_Target_hl]; exact trivial)) (by rw [T_maps_Keys_map_string_api_Target_string_api_Target_eq]; exact h)

/-! slices.Clone[[]tollgate/api.Target,tollgate/api.Target] -/
def T_slices_Clone_api_Target (s1a : Option Addr) (s1l : Nat) (s1c : Nat) (w : World) (R : Ending → World → Prop) : Prop :=
  if s1a.isNone = true then (R (.returned (.slice none 0 0)) w) else (let w2 : World := w.alloc (.cells #[] 64)
  runV Tryz.prog (Builtin.append_ #[32, 32] 32 #[.slice (some (⟨w.heap.size, 0, none⟩ : Addr)) 0 0, .slice s1a s1l s1c]) w2 (fun r3 w4 => ∃ s5a : Option Addr, ∃ s5l : Nat, ∃ s5c : Nat, r3 = .slice s5a s5l s5c ∧ R (.returned (.slice s5a s5l s5c)) w4) (pan R))

theorem T_slices_Clone_api_Target_hl : allP (hokL Tryz.prog (hookAt []) (bodyOf Tryz.f39) 1) = (True) := by kernel_rfl

theorem T_slices_Clone_api_Target_eq (s1a : Option Addr) (s1l : Nat) (s1c : Nat) (w : World) (R : Ending → World → Prop) : vcCode Tryz.prog (hookAt []) (bodyOf Tryz.f39) 1 ⟨argEnv [.slice s1a s1l s1c] 0, Tryz.f39.ntmps, []⟩ w (finQ Tryz.prog Tryz.f39.results.toList R) = T_slices_Clone_api_Target s1a s1l s1c w R := by kernel_rfl

theorem T_slices_Clone_api_Target_b : Tryz.f39.body = some (bodyOf Tryz.f39) := by kernel_rfl
theorem T_slices_Clone_api_Target_s : (quietSel (bodyOf Tryz.f39) && Nat.ble 1 Tryz.f39.ntmps) = true := by kernel_rfl

theorem C_slices_Clone_api_Target {s1a : Option Addr} {s1l : Nat} {s1c : Nat} {w : World} {R : Ending → World → Prop} (h : T_slices_Clone_api_Target s1a s1l s1c w R) : Calls Tryz.prog 39 #[.slice s1a s1l s1c] w R :=
  calls_of_text (args := [.slice s1a s1l s1c]) mixed Tryz.func39 T_slices_Clone_api_Target_b T_slices_Clone_api_Target_s (HOk_of _ _ (by rw [T_slices_Clone_api_Target_hl]; exact trivial)) (by rw [T_slices_Clone_api_Target_eq]; exact h)

/-! (*tollgate/conf.Store).sorted -/
def T_conf_Store_sorted (s1 : Option Addr) (w : World) (R : Ending → World → Prop) : Prop :=
  ∃ a2, s1 = some a2 ∧ ∃ m3 : Option Nat, rd w (a2.add 2) (.map m3) ∧ Calls Tryz.prog 77 #[.map m3] w (ret (fun r4 w5 => ∃ u6 : Value, one u6 = true ∧ r4 = u6 ∧ Calls Tryz.prog 76 #[u6, .func (.func 78) #[] #[]] w5 (ret (fun r7 w8 => ∃ s9a : Option Addr, ∃ s9l : Nat, ∃ s9c : Nat, r7 = .slice s9a s9l s9c ∧ R (.returned (.slice s9a s9l s9c)) w8) (pan R))) (pan R))

theorem T_conf_Store_sorted_hl : allP (hokL Tryz.prog (hookAt []) (bodyOf Tryz.f40) 1) = (True) := by kernel_rfl

theorem T_conf_Store_sorted_eq (s1 : Option Addr) (w : World) (R : Ending → World → Prop) : vcCode Tryz.prog (hookAt []) (bodyOf Tryz.f40) 1 ⟨argEnv [.pointer s1] 0, Tryz.f40.ntmps, []⟩ w (finQ Tryz.prog Tryz.f40.results.toList R) = T_conf_Store_sorted s1 w R := by kernel_rfl

theorem T_conf_Store_sorted_b : Tryz.f40.body = some (bodyOf Tryz.f40) := by kernel_rfl
theorem T_conf_Store_sorted_s : (quietSel (bodyOf Tryz.f40) && Nat.ble 1 Tryz.f40.ntmps) = true := by kernel_rfl

theorem C_conf_Store_sorted {s1 : Option Addr} {w : World} {R : Ending → World → Prop} (h : T_conf_Store_sorted s1 w R) : Calls Tryz.prog 40 #[.pointer s1] w R :=
  calls_of_text (args := [.pointer s1]) mixed Tryz.func40 T_conf_Store_sorted_b T_conf_Store_sorted_s (HOk_of _ _ (by rw [T_conf_Store_sorted_hl]; exact trivial)) (by rw [T_conf_Store_sorted_eq]; exact h)

/-! (*tollgate/conf.Store).act -/
def T_conf_Store_act_1 (s33 : Option Addr) (pool34 : Bool) (w : World) (Kn : Bool → World → Prop) (Kp : List PanicEntry → World → Prop) : Prop :=
  if (!pool34) = true then (∃ a35, s33 = some a35 ∧ ∃ m36 : Option Nat, rd w (a35.add 1) (.map m36) ∧ runV Tryz.prog (Builtin.len_ #[75] 3 #[.map m36]) w (fun r37 w38 => ∃ x39 : Int, r37 = .int .i64 x39 ∧ Kn (decide ((x39 : Int) ≥ 32)) w38) Kp) else (Kn false w)

def T_conf_Store_act_1_outs : Exit → Option (List (Nat × Value)) := fun x => match x with | .normal => some [(56, .bool false)] | .panic _ => some [] | _ => none

def T_conf_Store_act_1_ks : Nat → Bool := ksOf [47, 48, 49, 50, 51, 52, 53, 54, 55, 56]

def H_conf_Store_act_1 : Env → World → QT → Prop := unitHook 144 T_conf_Store_act_1_ks [(0, .pointer none), (7, .bool false)] T_conf_Store_act_1_outs fun l w C => match l with | [v0, v1] => T_conf_Store_act_1 (pPtr v0) (pBool v1) w (fun b41 w => C .normal [.bool b41] w) (fun ch w => C (.panic ch) [] w) | _ => False

theorem T_conf_Store_act_1_hl : allP (hokL Tryz.prog (hookAt []) (at_ (bodyOf Tryz.f41) [1, 1, 1, 1, 0, 1, 0, 1, 0, 0, 0]) 4008) = (True) := by kernel_rfl
theorem T_conf_Store_act_1_hok : HOk Tryz.prog (hookAt []) (at_ (bodyOf Tryz.f41) [1, 1, 1, 1, 0, 1, 0, 1, 0, 0, 0]) 4008 := HOk_of _ _ (by rw [T_conf_Store_act_1_hl]; exact trivial)

theorem T_conf_Store_act_1_eq (C : Conts) (s33 : Option Addr) (pool34 : Bool) (w : World) : vcCode Tryz.prog (hookAt []) (at_ (bodyOf Tryz.f41) [1, 1, 1, 1, 0, 1, 0, 1, 0, 0, 0]) 4008 ⟨[(0, .pointer s33), (7, .bool pool34)], 144, []⟩ w (unitQ T_conf_Store_act_1_outs C) = T_conf_Store_act_1 s33 pool34 w (fun b42 w => C .normal [.bool b42] w) (fun ch w => C (.panic ch) [] w) := by kernel_rfl

theorem T_conf_Store_act_1_ok : UnitOk Tryz.prog H_conf_Store_act_1 (at_ (bodyOf Tryz.f41) [1, 1, 1, 1, 0, 1, 0, 1, 0, 0, 0]) 4008 := unit_ok (H := (hookAt [])) (by kernel_rfl) T_conf_Store_act_1_hok fun l w C hk => by
    obtain ⟨v0, l_v0, rfl, k_v0, hk_v0⟩ := Kinds.cons_ hk
    obtain ⟨s33, rfl⟩ := kind_pointer k_v0
    obtain ⟨v1, l_v1, rfl, k_v1, hk_v1⟩ := Kinds.cons_ hk_v0
    obtain ⟨pool34, rfl⟩ := kind_bool k_v1
    obtain rfl := Kinds.nil_ hk_v1
    exact T_conf_Store_act_1_eq C s33 pool34 w

def T_conf_Store_act_2_body (X : World → Prop) (c73 : Addr) (a74 : Addr) (w : World) (Kn : World → Prop) (Kr : Int → World → Prop) (Kp : List PanicEntry → World → Prop)  : Prop :=
  runV Tryz.prog (Instr.next (.pointer (some a74)) false 0) w (fun r75 w76 => ∃ (b77 : Bool) (l78 : List Value), r75 = .tuple ⟨.bool b77 :: l78⟩ ∧ if b77 = true then (runV Tryz.prog (Instr.entry (.pointer (some a74))) w76 (fun r79 w80 => ∃ k81 u82, r79 = .tuple #[k81, u82] ∧ ∃ s83 : ByteArray, u82 = .string s83 ∧ ∃ s84 : ByteArray, rd w80 (c73.add 6) (.string s84) ∧ if (s83.toList == s84.toList) = true then (Kr 13 w80) else (X  w80)) Kp) else (Kn  w76)) Kp

def T_conf_Store_act_2 (c73 : Addr) (a74 : Addr) (w : World) (Kn : World → Prop) (Kr : Int → World → Prop) (Kp : List PanicEntry → World → Prop) : Prop :=
  ∀ X : World → Prop, (∀  (w : World), T_conf_Store_act_2_body X c73 a74 w Kn Kr Kp → X  w) → X  w

def T_conf_Store_act_2_outs : Exit → Option (List (Nat × Value)) := fun x => match x with | .normal => some [] | .ret => some [(4, .int .i64 0)] | .panic _ => some [] | _ => none

def T_conf_Store_act_2_ks : Nat → Bool := ksOf [4, 11, 93, 94, 95, 96, 97, 98, 99, 100]

def H_conf_Store_act_2 : Env → World → QT → Prop := unitHook 144 T_conf_Store_act_2_ks [(3, .pointer (some ⟨0, 0, none⟩)), (92, .pointer (some ⟨0, 0, none⟩))] T_conf_Store_act_2_outs fun l w C => match l with | [v0, v1] => T_conf_Store_act_2 (pAddr v0) (pAddr v1) w (fun w => C .normal [] w) (fun x86 w => C .ret [.int .i64 x86] w) (fun ch w => C (.panic ch) [] w) | _ => False

theorem T_conf_Store_act_2_hl : allP (hokL Tryz.prog (hookAt []) (at_ (bodyOf Tryz.f41) [1, 1, 1, 1, 0, 1, 0, 1, 1, 1, 0, 1, 0, 1, 0, 0]) 128468) = (True) := by kernel_rfl
theorem T_conf_Store_act_2_hok : HOk Tryz.prog (hookAt []) (at_ (bodyOf Tryz.f41) [1, 1, 1, 1, 0, 1, 0, 1, 1, 1, 0, 1, 0, 1, 0, 0]) 128468 := HOk_of _ _ (by rw [T_conf_Store_act_2_hl]; exact trivial)

theorem T_conf_Store_act_2_eq (C : Conts) (X : List Value → World → Prop) (c73 : Addr) (a74 : Addr) (w : World) : vcCode Tryz.prog (hookAt []) (at_ (bodyOf Tryz.f41) [1, 1, 1, 1, 0, 1, 0, 1, 1, 1, 0, 1, 0, 1, 0, 0]) 128468 ⟨[] ++ [(3, .pointer (some c73)), (92, .pointer (some a74))], 144, []⟩ w (seqQ (fun e w => takeAll e [] fun l => X l w) (blockQ 1 (unitQ T_conf_Store_act_2_outs C))) = T_conf_Store_act_2_body (fun w => X [] w) c73 a74 w (fun w => C .normal [] w) (fun x87 w => C .ret [.int .i64 x87] w) (fun ch w => C (.panic ch) [] w) := by kernel_rfl

theorem T_conf_Store_act_2_ok : UnitOk Tryz.prog H_conf_Store_act_2 (at_ (bodyOf Tryz.f41) [1, 1, 1, 1, 0, 1, 0, 1, 1, 1, 0, 1, 0, 1]) 32117 := by
  have hc : at_ (bodyOf Tryz.f41) [1, 1, 1, 1, 0, 1, 0, 1, 1, 1, 0, 1, 0, 1] = .block 1 (.loop (at_ (bodyOf Tryz.f41) [1, 1, 1, 1, 0, 1, 0, 1, 1, 1, 0, 1, 0, 1, 0, 0])) := by kernel_rfl
  rw [hc]
  refine loop_unit_ok (carr := []) (fix := [(3, .pointer (some ⟨0, 0, none⟩)), (92, .pointer (some ⟨0, 0, none⟩))]) (ks := T_conf_Store_act_2_ks) (H := (hookAt [])) (B := fun C X l u w => match l, u with | [], [v0, v1] => T_conf_Store_act_2_body (fun w => X [] w) (pAddr v0) (pAddr v1) w (fun w => C .normal [] w) (fun x88 w => C .ret [.int .i64 x88] w) (fun ch w => C (.panic ch) [] w) | _, _ => False) (by kernel_rfl) (by kernel_rfl) T_conf_Store_act_2_hok ?_ ?_
  · intro C X l u w hl hu
    obtain rfl := Kinds.nil_ hl
    obtain ⟨v0, l_v0, rfl, k_v0, hu_v0⟩ := Kinds.cons_ hu
    obtain ⟨c73, rfl⟩ := kind_addr k_v0
    obtain ⟨v1, l_v1, rfl, k_v1, hu_v1⟩ := Kinds.cons_ hu_v0
    obtain ⟨a74, rfl⟩ := kind_addr k_v1
    obtain rfl := Kinds.nil_ hu_v1
    exact T_conf_Store_act_2_eq C X c73 a74 w
  · intro l u w C hl hu
    obtain rfl := Kinds.nil_ hl
    obtain ⟨v0, l_v0, rfl, k_v0, hu_v0⟩ := Kinds.cons_ hu
    obtain ⟨c73, rfl⟩ := kind_addr k_v0
    obtain ⟨v1, l_v1, rfl, k_v1, hu_v1⟩ := Kinds.cons_ hu_v0
    obtain ⟨a74, rfl⟩ := kind_addr k_v1
    obtain rfl := Kinds.nil_ hu_v1
    constructor
    · intro h X hX
      exact h (fun w => X [] w) (fun w hb => hX [] w trivial hb)
    · intro h X hX
      exact h (fun l w => match l with | [] => X  w | _ => True) (fun l w hl hb => by
        obtain rfl := Kinds.nil_ hl
        exact hX  w hb)

def T_conf_Store_act_3 (s98 : Option Addr) (route99 : Bool) (w : World) (Kn : Bool → World → Prop) (Kp : List PanicEntry → World → Prop) : Prop :=
  if (!route99) = true then (∃ a100, s98 = some a100 ∧ ∃ m101 : Option Nat, rd w (a100.add 2) (.map m101) ∧ runV Tryz.prog (Builtin.len_ #[76] 3 #[.map m101]) w (fun r102 w103 => ∃ x104 : Int, r102 = .int .i64 x104 ∧ Kn (decide ((x104 : Int) ≥ 64)) w103) Kp) else (Kn false w)

def T_conf_Store_act_3_outs : Exit → Option (List (Nat × Value)) := fun x => match x with | .normal => some [(120, .bool false)] | .panic _ => some [] | _ => none

def T_conf_Store_act_3_ks : Nat → Bool := ksOf [111, 112, 113, 114, 115, 116, 117, 118, 119, 120]

def H_conf_Store_act_3 : Env → World → QT → Prop := unitHook 144 T_conf_Store_act_3_ks [(0, .pointer none), (9, .bool false)] T_conf_Store_act_3_outs fun l w C => match l with | [v0, v1] => T_conf_Store_act_3 (pPtr v0) (pBool v1) w (fun b106 w => C .normal [.bool b106] w) (fun ch w => C (.panic ch) [] w) | _ => False

theorem T_conf_Store_act_3_hl : allP (hokL Tryz.prog (hookAt []) (at_ (bodyOf Tryz.f41) [1, 1, 1, 1, 0, 1, 0, 1, 1, 1, 1, 1, 0, 1, 0, 0]) 128500) = (True) := by kernel_rfl
theorem T_conf_Store_act_3_hok : HOk Tryz.prog (hookAt []) (at_ (bodyOf Tryz.f41) [1, 1, 1, 1, 0, 1, 0, 1, 1, 1, 1, 1, 0, 1, 0, 0]) 128500 := HOk_of _ _ (by rw [T_conf_Store_act_3_hl]; exact trivial)

theorem T_conf_Store_act_3_eq (C : Conts) (s98 : Option Addr) (route99 : Bool) (w : World) : vcCode Tryz.prog (hookAt []) (at_ (bodyOf Tryz.f41) [1, 1, 1, 1, 0, 1, 0, 1, 1, 1, 1, 1, 0, 1, 0, 0]) 128500 ⟨[(0, .pointer s98), (9, .bool route99)], 144, []⟩ w (unitQ T_conf_Store_act_3_outs C) = T_conf_Store_act_3 s98 route99 w (fun b107 w => C .normal [.bool b107] w) (fun ch w => C (.panic ch) [] w) := by kernel_rfl

theorem T_conf_Store_act_3_ok : UnitOk Tryz.prog H_conf_Store_act_3 (at_ (bodyOf Tryz.f41) [1, 1, 1, 1, 0, 1, 0, 1, 1, 1, 1, 1, 0, 1, 0, 0]) 128500 := unit_ok (H := (hookAt [])) (by kernel_rfl) T_conf_Store_act_3_hok fun l w C hk => by
    obtain ⟨v0, l_v0, rfl, k_v0, hk_v0⟩ := Kinds.cons_ hk
    obtain ⟨s98, rfl⟩ := kind_pointer k_v0
    obtain ⟨v1, l_v1, rfl, k_v1, hk_v1⟩ := Kinds.cons_ hk_v0
    obtain ⟨route99, rfl⟩ := kind_bool k_v1
    obtain rfl := Kinds.nil_ hk_v1
    exact T_conf_Store_act_3_eq C s98 route99 w

def T_conf_Store_act (s1 : Option Addr) (x2 : Int) (x3 : Int) (x4 : Int) (x5 : Int) (s6 : ByteArray) (s7 : ByteArray) (s8 : ByteArray) (s9a : Option Addr) (s9l : Nat) (s9c : Nat) (w : World) (R : Ending → World → Prop) : Prop :=
  let w10 : World := w.alloc (.cells #[.int .i64 x2, .int .i64 x3, .int .i64 x4, .int .i64 x5, .string s6, .string s7, .string s8, .slice s9a s9l s9c] 42)
  ∃ s11 : ByteArray, rd w10 ((⟨w.heap.size, 0, none⟩ : Addr).add 4) (.string s11) ∧ ∃ s12 : ByteArray, rd w10 ((⟨w.heap.size, 0, none⟩ : Addr).add 5) (.string s12) ∧ let w13 : World := w10.alloc (.cells #[.string (ByteArray.mk #[]), .string (ByteArray.mk #[])] 89)
  (.agg #[.string s11, .string s12] : Value).cells.size = 2 ∧ wrOk w13 (⟨w10.heap.size, 0, none⟩ : Addr) (.agg #[.string s11, .string s12]) ∧ let w14 : World := wr w13 (⟨w10.heap.size, 0, none⟩ : Addr) (.agg #[.string s11, .string s12])
  let w15 : World := w14.drew
  ∃ a16, s1 = some a16 ∧ ∃ m17 : Option Nat, rd w15 (a16.add 1) (.map m17) ∧ ∃ s18 : ByteArray, rd w15 ((⟨w.heap.size, 0, none⟩ : Addr).add 6) (.string s18) ∧ runV Tryz.prog (Instr.lookup 75 (.map m17) (.string s18) true) w15 (fun r19 w20 => ∃ s21a : Option Addr, ∃ s21l : Nat, ∃ s21c : Nat, ∃ b22 : Bool, r19 = .tuple #[.slice s21a s21l s21c, .bool b22] ∧ (True) ∧ let w23 : World := w20.drew
  ∃ a24, s1 = some a24 ∧ ∃ m25 : Option Nat, rd w23 (a24.add 2) (.map m25) ∧ ∃ s26 : ByteArray, ∃ s27 : ByteArray, rd w23 (⟨w10.heap.size, 0, none⟩ : Addr) (.agg #[.string s26, .string s27]) ∧ runV Tryz.prog (Instr.lookup 76 (.map m25) (.agg #[.string s26, .string s27]) true) w23 (fun r28 w29 => ∃ s30 : ByteArray, ∃ b31 : Bool, r28 = .tuple #[.string s30, .bool b31] ∧ (True) ∧ ∃ x32 : Int, rd w29 (⟨w.heap.size, 0, none⟩ : Addr) (.int .i64 x32) ∧ if ((x32 : Int) == 1) = true then (T_conf_Store_act_1 s1 b22 w29 (fun b43 w44 => if b43 = true then (R (.returned (.int .i64 6)) w44) else (let w45 : World := w44.drew
  ∃ a46, s1 = some a46 ∧ ∃ m47 : Option Nat, rd w45 (a46.add 1) (.map m47) ∧ ∃ s48 : ByteArray, rd w45 ((⟨w.heap.size, 0, none⟩ : Addr).add 6) (.string s48) ∧ ∃ s49a : Option Addr, ∃ s49l : Nat, ∃ s49c : Nat, rd w45 ((⟨w.heap.size, 0, none⟩ : Addr).add 7) (.slice s49a s49l s49c) ∧ Calls Tryz.prog 39 #[.slice s49a s49l s49c] w45 (ret (fun r50 w51 => ∃ s52a : Option Addr, ∃ s52l : Nat, ∃ s52c : Nat, r50 = .slice s52a s52l s52c ∧ (rd w51 ((⟨w.heap.size, 0, none⟩ : Addr).add 6) (.string s48) ∧ rd w51 (a46.add 1) (.map m47) ∧ True) ∧ runV Tryz.prog (Instr.mapUpdate 75 (.map m47) (.string s48) (.slice s52a s52l s52c)) w51 (fun _ w53 => (True) ∧ Calls Tryz.prog 50 #[.pointer s1, .slice none 0 0] w53 (ret (fun r54 w55 => ∃ s56a : Option Addr, ∃ s56l : Nat, ∃ s56c : Nat, r54 = .slice s56a s56l s56c ∧ if (decide (((s56l : Nat) : Int) > 12000)) = true then (let w57 : World := w55.drew
  ∃ a58, s1 = some a58 ∧ ∃ m59 : Option Nat, rd w57 (a58.add 1) (.map m59) ∧ ∃ s60 : ByteArray, rd w57 ((⟨w.heap.size, 0, none⟩ : Addr).add 6) (.string s60) ∧ runV Tryz.prog (Builtin.delete_ #[75, 9] 0 #[.map m59, .string s60]) w57 (fun r61 w62 => (True) ∧ if b22 = true then (let w63 : World := w62.drew
  ∃ a64, s1 = some a64 ∧ ∃ m65 : Option Nat, rd w63 (a64.add 1) (.map m65) ∧ ∃ s66 : ByteArray, rd w63 ((⟨w.heap.size, 0, none⟩ : Addr).add 6) (.string s66) ∧ runV Tryz.prog (Instr.mapUpdate 75 (.map m65) (.string s66) (.slice s21a s21l s21c)) w63 (fun _ w67 => (True) ∧ R (.returned (.int .i64 6)) w67) (pan R)) else (R (.returned (.int .i64 6)) w62)) (pan R)) else (R (.returned (.int .i64 0)) w55)) (pan R))) (pan R)) (pan R)))) (pan R)) else (if ((x32 : Int) == 2) = true then (if (!b22) = true then (R (.returned (.int .i64 8)) w29) else (∃ a68, s1 = some a68 ∧ ∃ m69 : Option Nat, rd w29 (a68.add 2) (.map m69) ∧ runV Tryz.prog (Instr.range 76 (.map m69)) w29 (fun r70 w71 => ∃ a72, r70 = .pointer (some a72) ∧ T_conf_Store_act_2 (⟨w.heap.size, 0, none⟩ : Addr) a72 w71 (fun w89 => let w90 : World := w89.drew
  ∃ a91, s1 = some a91 ∧ ∃ m92 : Option Nat, rd w90 (a91.add 1) (.map m92) ∧ ∃ s93 : ByteArray, rd w90 ((⟨w.heap.size, 0, none⟩ : Addr).add 6) (.string s93) ∧ runV Tryz.prog (Builtin.delete_ #[75, 9] 0 #[.map m92, .string s93]) w90 (fun r94 w95 => (True) ∧ R (.returned (.int .i64 0)) w95) (pan R)) (fun x96 w97 => R (.returned (.int .i64 x96)) w97) (pan R)) (pan R))) else (if ((x32 : Int) == 3) = true then (if (!b22) = true then (R (.returned (.int .i64 8)) w29) else (T_conf_Store_act_3 s1 b31 w29 (fun b108 w109 => if b108 = true then (R (.returned (.int .i64 6)) w109) else (let w110 : World := w109.drew
  ∃ a111, s1 = some a111 ∧ ∃ m112 : Option Nat, rd w110 (a111.add 2) (.map m112) ∧ ∃ s113 : ByteArray, ∃ s114 : ByteArray, rd w110 (⟨w10.heap.size, 0, none⟩ : Addr) (.agg #[.string s113, .string s114]) ∧ ∃ s115 : ByteArray, rd w110 ((⟨w.heap.size, 0, none⟩ : Addr).add 6) (.string s115) ∧ runV Tryz.prog (Instr.mapUpdate 76 (.map m112) (.agg #[.string s113, .string s114]) (.string s115)) w110 (fun _ w116 => (True) ∧ Calls Tryz.prog 50 #[.pointer s1, .slice none 0 0] w116 (ret (fun r117 w118 => ∃ s119a : Option Addr, ∃ s119l : Nat, ∃ s119c : Nat, r117 = .slice s119a s119l s119c ∧ if (decide (((s119l : Nat) : Int) > 12000)) = true then (let w120 : World := w118.drew
  ∃ a121, s1 = some a121 ∧ ∃ m122 : Option Nat, rd w120 (a121.add 2) (.map m122) ∧ ∃ s123 : ByteArray, ∃ s124 : ByteArray, rd w120 (⟨w10.heap.size, 0, none⟩ : Addr) (.agg #[.string s123, .string s124]) ∧ runV Tryz.prog (Builtin.delete_ #[76, 89] 0 #[.map m122, .agg #[.string s123, .string s124]]) w120 (fun r125 w126 => (True) ∧ if b31 = true then (let w127 : World := w126.drew
  ∃ a128, s1 = some a128 ∧ ∃ m129 : Option Nat, rd w127 (a128.add 2) (.map m129) ∧ ∃ s130 : ByteArray, ∃ s131 : ByteArray, rd w127 (⟨w10.heap.size, 0, none⟩ : Addr) (.agg #[.string s130, .string s131]) ∧ runV Tryz.prog (Instr.mapUpdate 76 (.map m129) (.agg #[.string s130, .string s131]) (.string s30)) w127 (fun _ w132 => (True) ∧ R (.returned (.int .i64 6)) w132) (pan R)) else (R (.returned (.int .i64 6)) w126)) (pan R)) else (R (.returned (.int .i64 0)) w118)) (pan R))) (pan R))) (pan R))) else (if (!b31) = true then (R (.returned (.int .i64 8)) w29) else (let w133 : World := w29.drew
  ∃ a134, s1 = some a134 ∧ ∃ m135 : Option Nat, rd w133 (a134.add 2) (.map m135) ∧ ∃ s136 : ByteArray, ∃ s137 : ByteArray, rd w133 (⟨w10.heap.size, 0, none⟩ : Addr) (.agg #[.string s136, .string s137]) ∧ runV Tryz.prog (Builtin.delete_ #[76, 89] 0 #[.map m135, .agg #[.string s136, .string s137]]) w133 (fun r138 w139 => (True) ∧ R (.returned (.int .i64 0)) w139) (pan R)))))) (pan R)) (pan R)

theorem T_conf_Store_act_hl : allP (hokL Tryz.prog (hookAt [(4008, H_conf_Store_act_1), (32117, H_conf_Store_act_2), (128500, H_conf_Store_act_3)]) (bodyOf Tryz.f41) 1) = (UnitOk Tryz.prog H_conf_Store_act_1 (at_ (bodyOf Tryz.f41) [1, 1, 1, 1, 0, 1, 0, 1, 0, 0, 0]) 4008 ∧ UnitOk Tryz.prog H_conf_Store_act_2 (at_ (bodyOf Tryz.f41) [1, 1, 1, 1, 0, 1, 0, 1, 1, 1, 0, 1, 0, 1]) 32117 ∧ UnitOk Tryz.prog H_conf_Store_act_3 (at_ (bodyOf Tryz.f41) [1, 1, 1, 1, 0, 1, 0, 1, 1, 1, 1, 1, 0, 1, 0, 0]) 128500 ∧ True) := by kernel_rfl

theorem T_conf_Store_act_eq (s1 : Option Addr) (x2 : Int) (x3 : Int) (x4 : Int) (x5 : Int) (s6 : ByteArray) (s7 : ByteArray) (s8 : ByteArray) (s9a : Option Addr) (s9l : Nat) (s9c : Nat) (w : World) (R : Ending → World → Prop) : vcCode Tryz.prog (hookAt [(4008, H_conf_Store_act_1), (32117, H_conf_Store_act_2), (128500, H_conf_Store_act_3)]) (bodyOf Tryz.f41) 1 ⟨argEnv [.pointer s1, .agg #[.int .i64 x2, .int .i64 x3, .int .i64 x4, .int .i64 x5, .string s6, .string s7, .string s8, .slice s9a s9l s9c]] 0, Tryz.f41.ntmps, []⟩ w (finQ Tryz.prog Tryz.f41.results.toList R) = T_conf_Store_act s1 x2 x3 x4 x5 s6 s7 s8 s9a s9l s9c w R := by kernel_rfl

theorem T_conf_Store_act_b : Tryz.f41.body = some (bodyOf Tryz.f41) := by kernel_rfl
theorem T_conf_Store_act_s : (quietSel (bodyOf Tryz.f41) && Nat.ble 2 Tryz.f41.ntmps) = true := by kernel_rfl

theorem C_conf_Store_act {s1 : Option Addr} {x2 : Int} {x3 : Int} {x4 : Int} {x5 : Int} {s6 : ByteArray} {s7 : ByteArray} {s8 : ByteArray} {s9a : Option Addr} {s9l : Nat} {s9c : Nat} {w : World} {R : Ending → World → Prop} (h : T_conf_Store_act s1 x2 x3 x4 x5 s6 s7 s8 s9a s9l s9c w R) : Calls Tryz.prog 41 #[.pointer s1, .agg #[.int .i64 x2, .int .i64 x3, .int .i64 x4, .int .i64 x5, .string s6, .string s7, .string s8, .slice s9a s9l s9c]] w R :=
  calls_of_text (args := [.pointer s1, .agg #[.int .i64 x2, .int .i64 x3, .int .i64 x4, .int .i64 x5, .string s6, .string s7, .string s8, .slice s9a s9l s9c]]) mixed Tryz.func41 T_conf_Store_act_b T_conf_Store_act_s (HOk_of _ _ (by rw [T_conf_Store_act_hl]; exact ⟨T_conf_Store_act_1_ok, T_conf_Store_act_2_ok, T_conf_Store_act_3_ok, trivial⟩)) (by rw [T_conf_Store_act_eq]; exact h)

/-! (*tollgate/conf.Store).config -/
def T_conf_Store_config_1_body (X : Option Addr → Nat → Nat → Int → World → Prop) (b19a : Option Addr) (b19l : Nat) (b19c : Nat) (x20 : Int) (s21 : Option Addr) (s22a : Option Addr) (s22l : Nat) (s22c : Nat) (x23 : Int) (w : World) (Kn : Option Addr → Nat → Nat → World → Prop) (Kp : List PanicEntry → World → Prop)  : Prop :=
  if (decide ((x20 : Int) < x23)) = true then (0 ≤ (x20 : Int) ∧ (x20 : Int) < ((s22l : Nat) : Int) ∧ ∃ b24, s22a = some b24 ∧ ∃ s25 : ByteArray, rd w (b24.add ((x20 : Int).toNat * 1)) (.string s25) ∧ let w26 : World := w.drew
  ∃ a27, s21 = some a27 ∧ ∃ m28 : Option Nat, rd w26 (a27.add 1) (.map m28) ∧ (Calls Tryz.prog 90 #[.slice b19a b19l b19c, .string s25] w26 (ret (fun r29 w30 => ∃ s31a : Option Addr, ∃ s31l : Nat, ∃ s31c : Nat, r29 = .slice s31a s31l s31c ∧ (rd w30 (a27.add 1) (.map m28) ∧ True) ∧ runV Tryz.prog (Instr.lookup 75 (.map m28) (.string s25) false) w30 (fun r32 w33 => ∃ s34a : Option Addr, ∃ s34l : Nat, ∃ s34c : Nat, r32 = .slice s34a s34l s34c ∧ (True) ∧ Calls Tryz.prog 89 #[.slice s31a s31l s31c, .slice s34a s34l s34c] w33 (ret (fun r35 w36 => ∃ s37a : Option Addr, ∃ s37l : Nat, ∃ s37c : Nat, r35 = .slice s37a s37l s37c ∧ (True) ∧ X s37a s37l s37c (IntKind.wrap .i64 ((x20 : Int) + 1)) w36) Kp)) Kp) Kp)) ∧ (runV Tryz.prog (Instr.lookup 75 (.map m28) (.string s25) false) w26 (fun r38 w39 => ∃ s40a : Option Addr, ∃ s40l : Nat, ∃ s40c : Nat, r38 = .slice s40a s40l s40c ∧ (True) ∧ Calls Tryz.prog 90 #[.slice b19a b19l b19c, .string s25] w39 (ret (fun r41 w42 => ∃ s43a : Option Addr, ∃ s43l : Nat, ∃ s43c : Nat, r41 = .slice s43a s43l s43c ∧ (True) ∧ Calls Tryz.prog 89 #[.slice s43a s43l s43c, .slice s40a s40l s40c] w42 (ret (fun r44 w45 => ∃ s46a : Option Addr, ∃ s46l : Nat, ∃ s46c : Nat, r44 = .slice s46a s46l s46c ∧ (True) ∧ X s46a s46l s46c (IntKind.wrap .i64 ((x20 : Int) + 1)) w45) Kp)) Kp)) Kp)) else (Kn b19a b19l b19c w)

def T_conf_Store_config_1 (b19a : Option Addr) (b19l : Nat) (b19c : Nat) (x20 : Int) (s21 : Option Addr) (s22a : Option Addr) (s22l : Nat) (s22c : Nat) (x23 : Int) (w : World) (Kn : Option Addr → Nat → Nat → World → Prop) (Kp : List PanicEntry → World → Prop) : Prop :=
  ∀ X : Option Addr → Nat → Nat → Int → World → Prop, (∀ (b19a : Option Addr) (b19l : Nat) (b19c : Nat) (x20 : Int) (w : World), T_conf_Store_config_1_body X b19a b19l b19c x20 s21 s22a s22l s22c x23 w Kn Kp → X b19a b19l b19c x20 w) → X b19a b19l b19c x20 w

def T_conf_Store_config_1_outs : Exit → Option (List (Nat × Value)) := fun x => match x with | .normal => some [(1, .slice none 0 0)] | .panic _ => some [] | _ => none

def T_conf_Store_config_1_ks : Nat → Bool := ksOf [1, 6, 23, 24, 25, 26, 27, 28, 29, 30, 31, 32, 33, 34, 35, 36, 37]

def H_conf_Store_config_1 : Env → World → QT → Prop := unitHook 68 T_conf_Store_config_1_ks [(1, .slice none 0 0), (23, .int .i64 0), (0, .pointer none), (21, .slice none 0 0), (22, .int .i64 0)] T_conf_Store_config_1_outs fun l w C => match l with | [v0, v1, v2, v3, v4] => T_conf_Store_config_1 (pA v0) (pL v0) (pC v0) (pInt v1) (pPtr v2) (pA v3) (pL v3) (pC v3) (pInt v4) w (fun b48a b48l b48c w => C .normal [.slice b48a b48l b48c] w) (fun ch w => C (.panic ch) [] w) | _ => False

theorem T_conf_Store_config_1_hl : allP (hokL Tryz.prog (hookAt []) (at_ (bodyOf Tryz.f50) [1, 1, 0, 1, 0, 0]) 116) = (True) := by kernel_rfl
theorem T_conf_Store_config_1_hok : HOk Tryz.prog (hookAt []) (at_ (bodyOf Tryz.f50) [1, 1, 0, 1, 0, 0]) 116 := HOk_of _ _ (by rw [T_conf_Store_config_1_hl]; exact trivial)

theorem T_conf_Store_config_1_eq (C : Conts) (X : List Value → World → Prop) (b19a : Option Addr) (b19l : Nat) (b19c : Nat) (x20 : Int) (s21 : Option Addr) (s22a : Option Addr) (s22l : Nat) (s22c : Nat) (x23 : Int) (w : World) : vcCode Tryz.prog (hookAt []) (at_ (bodyOf Tryz.f50) [1, 1, 0, 1, 0, 0]) 116 ⟨[(1, .slice b19a b19l b19c), (23, .int .i64 x20)] ++ [(0, .pointer s21), (21, .slice s22a s22l s22c), (22, .int .i64 x23)], 68, []⟩ w (seqQ (fun e w => takeAll e [(1, .slice none 0 0), (23, .int .i64 0)] fun l => X l w) (blockQ 0 (unitQ T_conf_Store_config_1_outs C))) = T_conf_Store_config_1_body (fun b19a b19l b19c x20 w => X [.slice b19a b19l b19c, .int .i64 x20] w) b19a b19l b19c x20 s21 s22a s22l s22c x23 w (fun b49a b49l b49c w => C .normal [.slice b49a b49l b49c] w) (fun ch w => C (.panic ch) [] w) := by kernel_rfl

theorem T_conf_Store_config_1_ok : UnitOk Tryz.prog H_conf_Store_config_1 (at_ (bodyOf Tryz.f50) [1, 1, 0, 1]) 29 := by
  have hc : at_ (bodyOf Tryz.f50) [1, 1, 0, 1] = .block 0 (.loop (at_ (bodyOf Tryz.f50) [1, 1, 0, 1, 0, 0])) := by kernel_rfl
  rw [hc]
  refine loop_unit_ok (carr := [(1, .slice none 0 0), (23, .int .i64 0)]) (fix := [(0, .pointer none), (21, .slice none 0 0), (22, .int .i64 0)]) (ks := T_conf_Store_config_1_ks) (H := (hookAt [])) (B := fun C X l u w => match l, u with | [v0, v1], [v2, v3, v4] => T_conf_Store_config_1_body (fun b19a b19l b19c x20 w => X [.slice b19a b19l b19c, .int .i64 x20] w) (pA v0) (pL v0) (pC v0) (pInt v1) (pPtr v2) (pA v3) (pL v3) (pC v3) (pInt v4) w (fun b50a b50l b50c w => C .normal [.slice b50a b50l b50c] w) (fun ch w => C (.panic ch) [] w) | _, _ => False) (by kernel_rfl) (by kernel_rfl) T_conf_Store_config_1_hok ?_ ?_
  · intro C X l u w hl hu
    obtain ⟨v0, l_v0, rfl, k_v0, hl_v0⟩ := Kinds.cons_ hl
    obtain ⟨b19a, b19l, b19c, rfl⟩ := kind_slice k_v0
    obtain ⟨v1, l_v1, rfl, k_v1, hl_v1⟩ := Kinds.cons_ hl_v0
    obtain ⟨x20, rfl⟩ := kind_int k_v1
    obtain rfl := Kinds.nil_ hl_v1
    obtain ⟨v2, l_v2, rfl, k_v2, hu_v2⟩ := Kinds.cons_ hu
    obtain ⟨s21, rfl⟩ := kind_pointer k_v2
    obtain ⟨v3, l_v3, rfl, k_v3, hu_v3⟩ := Kinds.cons_ hu_v2
    obtain ⟨s22a, s22l, s22c, rfl⟩ := kind_slice k_v3
    obtain ⟨v4, l_v4, rfl, k_v4, hu_v4⟩ := Kinds.cons_ hu_v3
    obtain ⟨x23, rfl⟩ := kind_int k_v4
    obtain rfl := Kinds.nil_ hu_v4
    exact T_conf_Store_config_1_eq C X b19a b19l b19c x20 s21 s22a s22l s22c x23 w
  · intro l u w C hl hu
    obtain ⟨v0, l_v0, rfl, k_v0, hl_v0⟩ := Kinds.cons_ hl
    obtain ⟨b19a, b19l, b19c, rfl⟩ := kind_slice k_v0
    obtain ⟨v1, l_v1, rfl, k_v1, hl_v1⟩ := Kinds.cons_ hl_v0
    obtain ⟨x20, rfl⟩ := kind_int k_v1
    obtain rfl := Kinds.nil_ hl_v1
    obtain ⟨v2, l_v2, rfl, k_v2, hu_v2⟩ := Kinds.cons_ hu
    obtain ⟨s21, rfl⟩ := kind_pointer k_v2
    obtain ⟨v3, l_v3, rfl, k_v3, hu_v3⟩ := Kinds.cons_ hu_v2
    obtain ⟨s22a, s22l, s22c, rfl⟩ := kind_slice k_v3
    obtain ⟨v4, l_v4, rfl, k_v4, hu_v4⟩ := Kinds.cons_ hu_v3
    obtain ⟨x23, rfl⟩ := kind_int k_v4
    obtain rfl := Kinds.nil_ hu_v4
    constructor
    · intro h X hX
      exact h (fun b19a b19l b19c x20 w => X [.slice b19a b19l b19c, .int .i64 x20] w) (fun b19a b19l b19c x20 w hb => hX [.slice b19a b19l b19c, .int .i64 x20] w ⟨rfl, rfl, trivial⟩ hb)
    · intro h X hX
      exact h (fun l w => match l with | [v0, v1] => X (pA v0) (pL v0) (pC v0) (pInt v1) w | _ => True) (fun l w hl hb => by
        obtain ⟨v0, l_v0, rfl, k_v0, hl_v0⟩ := Kinds.cons_ hl
        obtain ⟨b19a, b19l, b19c, rfl⟩ := kind_slice k_v0
        obtain ⟨v1, l_v1, rfl, k_v1, hl_v1⟩ := Kinds.cons_ hl_v0
        obtain ⟨x20, rfl⟩ := kind_int k_v1
        obtain rfl := Kinds.nil_ hl_v1
        exact hX b19a b19l b19c x20 w hb)

def T_conf_Store_config_2_body (X : Option Addr → Nat → Nat → Int → World → Prop) (b64a : Option Addr) (b64l : Nat) (b64c : Nat) (x65 : Int) (s66 : Option Addr) (s67a : Option Addr) (s67l : Nat) (s67c : Nat) (x68 : Int) (w : World) (Kn : Option Addr → Nat → Nat → World → Prop) (Kp : List PanicEntry → World → Prop)  : Prop :=
  if (decide ((x65 : Int) < x68)) = true then (0 ≤ (x65 : Int) ∧ (x65 : Int) < ((s67l : Nat) : Int) ∧ ∃ b69, s67a = some b69 ∧ ∃ s70 : ByteArray, ∃ s71 : ByteArray, rd w (b69.add ((x65 : Int).toNat * 2)) (.agg #[.string s70, .string s71]) ∧ let w72 : World := w.alloc (.cells #[.string (ByteArray.mk #[]), .string (ByteArray.mk #[])] 89)
  (.agg #[.string s70, .string s71] : Value).cells.size = 2 ∧ wrOk w72 (⟨w.heap.size, 0, none⟩ : Addr) (.agg #[.string s70, .string s71]) ∧ let w73 : World := wr w72 (⟨w.heap.size, 0, none⟩ : Addr) (.agg #[.string s70, .string s71])
  let w74 : World := w73.drew
  ∃ s75 : ByteArray, rd w74 (⟨w.heap.size, 0, none⟩ : Addr) (.string s75) ∧ ∃ s76 : ByteArray, rd w74 ((⟨w.heap.size, 0, none⟩ : Addr).add 1) (.string s76) ∧ ∃ a77, s66 = some a77 ∧ ∃ m78 : Option Nat, rd w74 (a77.add 2) (.map m78) ∧ ∃ s79 : ByteArray, ∃ s80 : ByteArray, rd w74 (⟨w.heap.size, 0, none⟩ : Addr) (.agg #[.string s79, .string s80]) ∧ (Calls Tryz.prog 90 #[.slice b64a b64l b64c, .string s75] w74 (ret (fun r81 w82 => ∃ s83a : Option Addr, ∃ s83l : Nat, ∃ s83c : Nat, r81 = .slice s83a s83l s83c ∧ (rd w82 (⟨w.heap.size, 0, none⟩ : Addr) (.agg #[.string s79, .string s80]) ∧ rd w82 (a77.add 2) (.map m78) ∧ rd w82 ((⟨w.heap.size, 0, none⟩ : Addr).add 1) (.string s76) ∧ True) ∧ (Calls Tryz.prog 90 #[.slice s83a s83l s83c, .string s76] w82 (ret (fun r84 w85 => ∃ s86a : Option Addr, ∃ s86l : Nat, ∃ s86c : Nat, r84 = .slice s86a s86l s86c ∧ (rd w85 (⟨w.heap.size, 0, none⟩ : Addr) (.agg #[.string s79, .string s80]) ∧ rd w85 (a77.add 2) (.map m78) ∧ True) ∧ runV Tryz.prog (Instr.lookup 76 (.map m78) (.agg #[.string s79, .string s80]) false) w85 (fun r87 w88 => ∃ s89 : ByteArray, r87 = .string s89 ∧ (True) ∧ Calls Tryz.prog 90 #[.slice s86a s86l s86c, .string s89] w88 (ret (fun r90 w91 => ∃ s92a : Option Addr, ∃ s92l : Nat, ∃ s92c : Nat, r90 = .slice s92a s92l s92c ∧ (True) ∧ X s92a s92l s92c (IntKind.wrap .i64 ((x65 : Int) + 1)) w91) Kp)) Kp) Kp)) ∧ (runV Tryz.prog (Instr.lookup 76 (.map m78) (.agg #[.string s79, .string s80]) false) w82 (fun r93 w94 => ∃ s95 : ByteArray, r93 = .string s95 ∧ (rd w94 ((⟨w.heap.size, 0, none⟩ : Addr).add 1) (.string s76) ∧ True) ∧ Calls Tryz.prog 90 #[.slice s83a s83l s83c, .string s76] w94 (ret (fun r96 w97 => ∃ s98a : Option Addr, ∃ s98l : Nat, ∃ s98c : Nat, r96 = .slice s98a s98l s98c ∧ (True) ∧ Calls Tryz.prog 90 #[.slice s98a s98l s98c, .string s95] w97 (ret (fun r99 w100 => ∃ s101a : Option Addr, ∃ s101l : Nat, ∃ s101c : Nat, r99 = .slice s101a s101l s101c ∧ (True) ∧ X s101a s101l s101c (IntKind.wrap .i64 ((x65 : Int) + 1)) w100) Kp)) Kp)) Kp)) Kp)) ∧ (runV Tryz.prog (Instr.lookup 76 (.map m78) (.agg #[.string s79, .string s80]) false) w74 (fun r102 w103 => ∃ s104 : ByteArray, r102 = .string s104 ∧ (rd w103 ((⟨w.heap.size, 0, none⟩ : Addr).add 1) (.string s76) ∧ rd w103 (⟨w.heap.size, 0, none⟩ : Addr) (.string s75) ∧ True) ∧ Calls Tryz.prog 90 #[.slice b64a b64l b64c, .string s75] w103 (ret (fun r105 w106 => ∃ s107a : Option Addr, ∃ s107l : Nat, ∃ s107c : Nat, r105 = .slice s107a s107l s107c ∧ (rd w106 ((⟨w.heap.size, 0, none⟩ : Addr).add 1) (.string s76) ∧ True) ∧ Calls Tryz.prog 90 #[.slice s107a s107l s107c, .string s76] w106 (ret (fun r108 w109 => ∃ s110a : Option Addr, ∃ s110l : Nat, ∃ s110c : Nat, r108 = .slice s110a s110l s110c ∧ (True) ∧ Calls Tryz.prog 90 #[.slice s110a s110l s110c, .string s104] w109 (ret (fun r111 w112 => ∃ s113a : Option Addr, ∃ s113l : Nat, ∃ s113c : Nat, r111 = .slice s113a s113l s113c ∧ (True) ∧ X s113a s113l s113c (IntKind.wrap .i64 ((x65 : Int) + 1)) w112) Kp)) Kp)) Kp)) Kp)) else (Kn b64a b64l b64c w)

def T_conf_Store_config_2 (b64a : Option Addr) (b64l : Nat) (b64c : Nat) (x65 : Int) (s66 : Option Addr) (s67a : Option Addr) (s67l : Nat) (s67c : Nat) (x68 : Int) (w : World) (Kn : Option Addr → Nat → Nat → World → Prop) (Kp : List PanicEntry → World → Prop) : Prop :=
  ∀ X : Option Addr → Nat → Nat → Int → World → Prop, (∀ (b64a : Option Addr) (b64l : Nat) (b64c : Nat) (x65 : Int) (w : World), T_conf_Store_config_2_body X b64a b64l b64c x65 s66 s67a s67l s67c x68 w Kn Kp → X b64a b64l b64c x65 w) → X b64a b64l b64c x65 w

def T_conf_Store_config_2_outs : Exit → Option (List (Nat × Value)) := fun x => match x with | .normal => some [(1, .slice none 0 0)] | .panic _ => some [] | _ => none

def T_conf_Store_config_2_ks : Nat → Bool := ksOf [1, 8, 48, 49, 50, 51, 52, 53, 54, 55, 56, 57, 58, 59, 60, 61, 62, 63, 64, 65, 66]

def H_conf_Store_config_2 : Env → World → QT → Prop := unitHook 68 T_conf_Store_config_2_ks [(1, .slice none 0 0), (48, .int .i64 0), (0, .pointer none), (46, .slice none 0 0), (47, .int .i64 0)] T_conf_Store_config_2_outs fun l w C => match l with | [v0, v1, v2, v3, v4] => T_conf_Store_config_2 (pA v0) (pL v0) (pC v0) (pInt v1) (pPtr v2) (pA v3) (pL v3) (pC v3) (pInt v4) w (fun b115a b115l b115c w => C .normal [.slice b115a b115l b115c] w) (fun ch w => C (.panic ch) [] w) | _ => False

theorem T_conf_Store_config_2_hl : allP (hokL Tryz.prog (hookAt []) (at_ (bodyOf Tryz.f50) [1, 1, 1, 1, 0, 1, 0, 0]) 500) = (True) := by kernel_rfl
theorem T_conf_Store_config_2_hok : HOk Tryz.prog (hookAt []) (at_ (bodyOf Tryz.f50) [1, 1, 1, 1, 0, 1, 0, 0]) 500 := HOk_of _ _ (by rw [T_conf_Store_config_2_hl]; exact trivial)

theorem T_conf_Store_config_2_eq (C : Conts) (X : List Value → World → Prop) (b64a : Option Addr) (b64l : Nat) (b64c : Nat) (x65 : Int) (s66 : Option Addr) (s67a : Option Addr) (s67l : Nat) (s67c : Nat) (x68 : Int) (w : World) : vcCode Tryz.prog (hookAt []) (at_ (bodyOf Tryz.f50) [1, 1, 1, 1, 0, 1, 0, 0]) 500 ⟨[(1, .slice b64a b64l b64c), (48, .int .i64 x65)] ++ [(0, .pointer s66), (46, .slice s67a s67l s67c), (47, .int .i64 x68)], 68, []⟩ w (seqQ (fun e w => takeAll e [(1, .slice none 0 0), (48, .int .i64 0)] fun l => X l w) (blockQ 2 (unitQ T_conf_Store_config_2_outs C))) = T_conf_Store_config_2_body (fun b64a b64l b64c x65 w => X [.slice b64a b64l b64c, .int .i64 x65] w) b64a b64l b64c x65 s66 s67a s67l s67c x68 w (fun b116a b116l b116c w => C .normal [.slice b116a b116l b116c] w) (fun ch w => C (.panic ch) [] w) := by kernel_rfl

theorem T_conf_Store_config_2_ok : UnitOk Tryz.prog H_conf_Store_config_2 (at_ (bodyOf Tryz.f50) [1, 1, 1, 1, 0, 1]) 125 := by
  have hc : at_ (bodyOf Tryz.f50) [1, 1, 1, 1, 0, 1] = .block 2 (.loop (at_ (bodyOf Tryz.f50) [1, 1, 1, 1, 0, 1, 0, 0])) := by kernel_rfl
  rw [hc]
  refine loop_unit_ok (carr := [(1, .slice none 0 0), (48, .int .i64 0)]) (fix := [(0, .pointer none), (46, .slice none 0 0), (47, .int .i64 0)]) (ks := T_conf_Store_config_2_ks) (H := (hookAt [])) (B := fun C X l u w => match l, u with | [v0, v1], [v2, v3, v4] => T_conf_Store_config_2_body (fun b64a b64l b64c x65 w => X [.slice b64a b64l b64c, .int .i64 x65] w) (pA v0) (pL v0) (pC v0) (pInt v1) (pPtr v2) (pA v3) (pL v3) (pC v3) (pInt v4) w (fun b117a b117l b117c w => C .normal [.slice b117a b117l b117c] w) (fun ch w => C (.panic ch) [] w) | _, _ => False) (by kernel_rfl) (by kernel_rfl) T_conf_Store_config_2_hok ?_ ?_
  · intro C X l u w hl hu
    obtain ⟨v0, l_v0, rfl, k_v0, hl_v0⟩ := Kinds.cons_ hl
    obtain ⟨b64a, b64l, b64c, rfl⟩ := kind_slice k_v0
    obtain ⟨v1, l_v1, rfl, k_v1, hl_v1⟩ := Kinds.cons_ hl_v0
    obtain ⟨x65, rfl⟩ := kind_int k_v1
    obtain rfl := Kinds.nil_ hl_v1
    obtain ⟨v2, l_v2, rfl, k_v2, hu_v2⟩ := Kinds.cons_ hu
    obtain ⟨s66, rfl⟩ := kind_pointer k_v2
    obtain ⟨v3, l_v3, rfl, k_v3, hu_v3⟩ := Kinds.cons_ hu_v2
    obtain ⟨s67a, s67l, s67c, rfl⟩ := kind_slice k_v3
    obtain ⟨v4, l_v4, rfl, k_v4, hu_v4⟩ := Kinds.cons_ hu_v3
    obtain ⟨x68, rfl⟩ := kind_int k_v4
    obtain rfl := Kinds.nil_ hu_v4
    exact T_conf_Store_config_2_eq C X b64a b64l b64c x65 s66 s67a s67l s67c x68 w
  · intro l u w C hl hu
    obtain ⟨v0, l_v0, rfl, k_v0, hl_v0⟩ := Kinds.cons_ hl
    obtain ⟨b64a, b64l, b64c, rfl⟩ := kind_slice k_v0
    obtain ⟨v1, l_v1, rfl, k_v1, hl_v1⟩ := Kinds.cons_ hl_v0
    obtain ⟨x65, rfl⟩ := kind_int k_v1
    obtain rfl := Kinds.nil_ hl_v1
    obtain ⟨v2, l_v2, rfl, k_v2, hu_v2⟩ := Kinds.cons_ hu
    obtain ⟨s66, rfl⟩ := kind_pointer k_v2
    obtain ⟨v3, l_v3, rfl, k_v3, hu_v3⟩ := Kinds.cons_ hu_v2
    obtain ⟨s67a, s67l, s67c, rfl⟩ := kind_slice k_v3
    obtain ⟨v4, l_v4, rfl, k_v4, hu_v4⟩ := Kinds.cons_ hu_v3
    obtain ⟨x68, rfl⟩ := kind_int k_v4
    obtain rfl := Kinds.nil_ hu_v4
    constructor
    · intro h X hX
      exact h (fun b64a b64l b64c x65 w => X [.slice b64a b64l b64c, .int .i64 x65] w) (fun b64a b64l b64c x65 w hb => hX [.slice b64a b64l b64c, .int .i64 x65] w ⟨rfl, rfl, trivial⟩ hb)
    · intro h X hX
      exact h (fun l w => match l with | [v0, v1] => X (pA v0) (pL v0) (pC v0) (pInt v1) w | _ => True) (fun l w hl hb => by
        obtain ⟨v0, l_v0, rfl, k_v0, hl_v0⟩ := Kinds.cons_ hl
        obtain ⟨b64a, b64l, b64c, rfl⟩ := kind_slice k_v0
        obtain ⟨v1, l_v1, rfl, k_v1, hl_v1⟩ := Kinds.cons_ hl_v0
        obtain ⟨x65, rfl⟩ := kind_int k_v1
        obtain rfl := Kinds.nil_ hl_v1
        exact hX b64a b64l b64c x65 w hb)

def T_conf_Store_config (s1 : Option Addr) (b2a : Option Addr) (b2l : Nat) (b2c : Nat) (w : World) (R : Ending → World → Prop) : Prop :=
  ∃ a3, s1 = some a3 ∧ ∃ m4 : Option Nat, rd w (a3.add 1) (.map m4) ∧ runV Tryz.prog (Builtin.len_ #[75] 3 #[.map m4]) w (fun r5 w6 => ∃ x7 : Int, r5 = .int .i64 x7 ∧ Calls Tryz.prog 49 #[.slice b2a b2l b2c, .int .i64 x7] w6 (ret (fun r8 w9 => ∃ s10a : Option Addr, ∃ s10l : Nat, ∃ s10c : Nat, r8 = .slice s10a s10l s10c ∧ ∃ a11, s1 = some a11 ∧ ∃ m12 : Option Nat, rd w9 (a11.add 1) (.map m12) ∧ Calls Tryz.prog 38 #[.map m12] w9 (ret (fun r13 w14 => ∃ u15 : Value, one u15 = true ∧ r13 = u15 ∧ Calls Tryz.prog 37 #[u15] w14 (ret (fun r16 w17 => ∃ s18a : Option Addr, ∃ s18l : Nat, ∃ s18c : Nat, r16 = .slice s18a s18l s18c ∧ T_conf_Store_config_1 s10a s10l s10c 0 s1 s18a s18l s18c ((s18l : Nat) : Int) w17 (fun b51a b51l b51c w52 => ∃ a53, s1 = some a53 ∧ ∃ m54 : Option Nat, rd w52 (a53.add 2) (.map m54) ∧ runV Tryz.prog (Builtin.len_ #[76] 3 #[.map m54]) w52 (fun r55 w56 => ∃ x57 : Int, r55 = .int .i64 x57 ∧ Calls Tryz.prog 49 #[.slice b51a b51l b51c, .int .i64 x57] w56 (ret (fun r58 w59 => ∃ s60a : Option Addr, ∃ s60l : Nat, ∃ s60c : Nat, r58 = .slice s60a s60l s60c ∧ Calls Tryz.prog 40 #[.pointer s1] w59 (ret (fun r61 w62 => ∃ s63a : Option Addr, ∃ s63l : Nat, ∃ s63c : Nat, r61 = .slice s63a s63l s63c ∧ T_conf_Store_config_2 s60a s60l s60c 0 s1 s63a s63l s63c ((s63l : Nat) : Int) w62 (fun b118a b118l b118c w119 => R (.returned (.slice b118a b118l b118c)) w119) (pan R)) (pan R))) (pan R))) (pan R)) (pan R)) (pan R))) (pan R))) (pan R))) (pan R)

theorem T_conf_Store_config_hl : allP (hokL Tryz.prog (hookAt [(29, H_conf_Store_config_1), (125, H_conf_Store_config_2)]) (bodyOf Tryz.f50) 1) = (UnitOk Tryz.prog H_conf_Store_config_1 (at_ (bodyOf Tryz.f50) [1, 1, 0, 1]) 29 ∧ UnitOk Tryz.prog H_conf_Store_config_2 (at_ (bodyOf Tryz.f50) [1, 1, 1, 1, 0, 1]) 125 ∧ True) := by kernel_rfl

theorem T_conf_Store_config_eq (s1 : Option Addr) (b2a : Option Addr) (b2l : Nat) (b2c : Nat) (w : World) (R : Ending → World → Prop) : vcCode Tryz.prog (hookAt [(29, H_conf_Store_config_1), (125, H_conf_Store_config_2)]) (bodyOf Tryz.f50) 1 ⟨argEnv [.pointer s1, .slice b2a b2l b2c] 0, Tryz.f50.ntmps, []⟩ w (finQ Tryz.prog Tryz.f50.results.toList R) = T_conf_Store_config s1 b2a b2l b2c w R := by kernel_rfl

theorem T_conf_Store_config_b : Tryz.f50.body = some (bodyOf Tryz.f50) := by kernel_rfl
theorem T_conf_Store_config_s : (quietSel (bodyOf Tryz.f50) && Nat.ble 2 Tryz.f50.ntmps) = true := by kernel_rfl

theorem C_conf_Store_config {s1 : Option Addr} {b2a : Option Addr} {b2l : Nat} {b2c : Nat} {w : World} {R : Ending → World → Prop} (h : T_conf_Store_config s1 b2a b2l b2c w R) : Calls Tryz.prog 50 #[.pointer s1, .slice b2a b2l b2c] w R :=
  calls_of_text (args := [.pointer s1, .slice b2a b2l b2c]) mixed Tryz.func50 T_conf_Store_config_b T_conf_Store_config_s (HOk_of _ _ (by rw [T_conf_Store_config_hl]; exact ⟨T_conf_Store_config_1_ok, T_conf_Store_config_2_ok, trivial⟩)) (by rw [T_conf_Store_config_eq]; exact h)

/-! slices.Sorted[int] -/
def T_slices_Sorted_int (seq1g : FuncId) (seq1i : Array Value) (seq1c : Array Value) (w : World) (R : Ending → World → Prop) : Prop :=
  Calls Tryz.prog 91 #[.func (.func seq1g) seq1i seq1c] w (ret (fun r2 w3 => ∃ s4a : Option Addr, ∃ s4l : Nat, ∃ s4c : Nat, r2 = .slice s4a s4l s4c ∧ Calls Tryz.prog 92 #[.slice s4a s4l s4c] w3 (ret (fun r5 w6 => r5 = .tuple #[] ∧ R (.returned (.slice s4a s4l s4c)) w6) (pan R))) (pan R))

theorem T_slices_Sorted_int_hl : allP (hokL Tryz.prog (hookAt []) (bodyOf Tryz.f51) 1) = (True) := by kernel_rfl

theorem T_slices_Sorted_int_eq (seq1g : FuncId) (seq1i : Array Value) (seq1c : Array Value) (w : World) (R : Ending → World → Prop) : vcCode Tryz.prog (hookAt []) (bodyOf Tryz.f51) 1 ⟨argEnv [.func (.func seq1g) seq1i seq1c] 0, Tryz.f51.ntmps, []⟩ w (finQ Tryz.prog Tryz.f51.results.toList R) = T_slices_Sorted_int seq1g seq1i seq1c w R := by kernel_rfl

theorem T_slices_Sorted_int_b : Tryz.f51.body = some (bodyOf Tryz.f51) := by kernel_rfl
theorem T_slices_Sorted_int_s : (quietSel (bodyOf Tryz.f51) && Nat.ble 1 Tryz.f51.ntmps) = true := by kernel_rfl

theorem C_slices_Sorted_int {seq1g : FuncId} {seq1i : Array Value} {seq1c : Array Value} {w : World} {R : Ending → World → Prop} (h : T_slices_Sorted_int seq1g seq1i seq1c w R) : Calls Tryz.prog 51 #[.func (.func seq1g) seq1i seq1c] w R :=
  calls_of_text (args := [.func (.func seq1g) seq1i seq1c]) mixed Tryz.func51 T_slices_Sorted_int_b T_slices_Sorted_int_s (HOk_of _ _ (by rw [T_slices_Sorted_int_hl]; exact trivial)) (by rw [T_slices_Sorted_int_eq]; exact h)

/-! maps.Keys[map[int]tollgate/conf.seen,int,tollgate/conf.seen] -/
def T_maps_Keys_conf_seen (m1 : Option Nat) (w : World) (R : Ending → World → Prop) : Prop :=
  let w2 : World := w.alloc (.cells #[.map m1] 77)
  R (.returned (.func (.func 93) #[] #[.pointer (some (⟨w.heap.size, 0, none⟩ : Addr))])) w2

theorem T_maps_Keys_conf_seen_hl : allP (hokL Tryz.prog (hookAt []) (bodyOf Tryz.f52) 1) = (True) := by kernel_rfl

theorem T_maps_Keys_conf_seen_eq (m1 : Option Nat) (w : World) (R : Ending → World → Prop) : vcCode Tryz.prog (hookAt []) (bodyOf Tryz.f52) 1 ⟨argEnv [.map m1] 0, Tryz.f52.ntmps, []⟩ w (finQ Tryz.prog Tryz.f52.results.toList R) = T_maps_Keys_conf_seen m1 w R := by kernel_rfl

theorem T_maps_Keys_conf_seen_b : Tryz.f52.body = some (bodyOf Tryz.f52) := by kernel_rfl
theorem T_maps_Keys_conf_seen_s : (quietSel (bodyOf Tryz.f52) && Nat.ble 1 Tryz.f52.ntmps) = true := by kernel_rfl

theorem C_maps_Keys_conf_seen {m1 : Option Nat} {w : World} {R : Ending → World → Prop} (h : T_maps_Keys_conf_seen m1 w R) : Calls Tryz.prog 52 #[.map m1] w R :=
  calls_of_text (args := [.map m1]) mixed Tryz.func52 T_maps_Keys_conf_seen_b T_maps_Keys_conf_seen_s (HOk_of _ _ (by rw [T_maps_Keys_conf_seen_hl]; exact trivial)) (by rw [T_maps_Keys_conf_seen_eq]; exact h)

/-! maps.Clone[map[string][]tollgate/api.Target,string,[]tollgate/api.Target] -/
/-! maps.Clone[map[tollgate/conf.place]string,tollgate/conf.place,string] -/
/-! maps.Clone[map[int]tollgate/conf.seen,int,tollgate/conf.seen] -/
/-! tollgate/conf.Load$1 -/
def T_conf_Load_c1 (cap1 : Addr) (cap2 : Addr) (w : World) (R : Ending → World → Prop) : Prop :=
  ∃ b3 : Bool, rd w cap1 (.bool b3) ∧ if b3 = true then (∃ p4 : Option Addr, rd w cap2 (.pointer p4) ∧ Calls Tryz.prog 50 #[.pointer p4, .slice none 0 0] w (ret (fun r5 w6 => ∃ s7a : Option Addr, ∃ s7l : Nat, ∃ s7c : Nat, r5 = .slice s7a s7l s7c ∧ R (.returned (.bool (decide (((s7l : Nat) : Int) ≤ 12000)))) w6) (pan R))) else (R (.returned (.bool false)) w)

theorem T_conf_Load_c1_hl : allP (hokL Tryz.prog (hookAt []) (bodyOf Tryz.f71) 1) = (True) := by kernel_rfl

theorem T_conf_Load_c1_eq (cap1 : Addr) (cap2 : Addr) (w : World) (R : Ending → World → Prop) : vcCode Tryz.prog (hookAt []) (bodyOf Tryz.f71) 1 ⟨argEnv [.pointer (some cap1), .pointer (some cap2)] 0, Tryz.f71.ntmps, []⟩ w (finQ Tryz.prog Tryz.f71.results.toList R) = T_conf_Load_c1 cap1 cap2 w R := by kernel_rfl

theorem T_conf_Load_c1_b : Tryz.f71.body = some (bodyOf Tryz.f71) := by kernel_rfl
theorem T_conf_Load_c1_s : (quietSel (bodyOf Tryz.f71) && Nat.ble 2 Tryz.f71.ntmps) = true := by kernel_rfl

theorem C_conf_Load_c1 {cap1 : Addr} {cap2 : Addr} {w : World} {R : Ending → World → Prop} (h : T_conf_Load_c1 cap1 cap2 w R) : Calls Tryz.prog 71 #[.pointer (some cap1), .pointer (some cap2)] w R :=
  calls_of_text (args := [.pointer (some cap1), .pointer (some cap2)]) mixed Tryz.func71 T_conf_Load_c1_b T_conf_Load_c1_s (HOk_of _ _ (by rw [T_conf_Load_c1_hl]; exact trivial)) (by rw [T_conf_Load_c1_eq]; exact h)

/-! slices.Collect[string] -/
def T_slices_Collect_string (seq1g : FuncId) (seq1i : Array Value) (seq1c : Array Value) (w : World) (R : Ending → World → Prop) : Prop :=
  Calls Tryz.prog 108 #[.slice none 0 0, .func (.func seq1g) seq1i seq1c] w (ret (fun r2 w3 => ∃ s4a : Option Addr, ∃ s4l : Nat, ∃ s4c : Nat, r2 = .slice s4a s4l s4c ∧ R (.returned (.slice s4a s4l s4c)) w3) (pan R))

theorem T_slices_Collect_string_hl : allP (hokL Tryz.prog (hookAt []) (bodyOf Tryz.f73) 1) = (True) := by kernel_rfl

theorem T_slices_Collect_string_eq (seq1g : FuncId) (seq1i : Array Value) (seq1c : Array Value) (w : World) (R : Ending → World → Prop) : vcCode Tryz.prog (hookAt []) (bodyOf Tryz.f73) 1 ⟨argEnv [.func (.func seq1g) seq1i seq1c] 0, Tryz.f73.ntmps, []⟩ w (finQ Tryz.prog Tryz.f73.results.toList R) = T_slices_Collect_string seq1g seq1i seq1c w R := by kernel_rfl

theorem T_slices_Collect_string_b : Tryz.f73.body = some (bodyOf Tryz.f73) := by kernel_rfl
theorem T_slices_Collect_string_s : (quietSel (bodyOf Tryz.f73) && Nat.ble 1 Tryz.f73.ntmps) = true := by kernel_rfl

theorem C_slices_Collect_string {seq1g : FuncId} {seq1i : Array Value} {seq1c : Array Value} {w : World} {R : Ending → World → Prop} (h : T_slices_Collect_string seq1g seq1i seq1c w R) : Calls Tryz.prog 73 #[.func (.func seq1g) seq1i seq1c] w R :=
  calls_of_text (args := [.func (.func seq1g) seq1i seq1c]) mixed Tryz.func73 T_slices_Collect_string_b T_slices_Collect_string_s (HOk_of _ _ (by rw [T_slices_Collect_string_hl]; exact trivial)) (by rw [T_slices_Collect_string_eq]; exact h)

/-! slices.SortedFunc[tollgate/conf.place] -/
def T_slices_SortedFunc_conf_place (seq1g : FuncId) (seq1i : Array Value) (seq1c : Array Value) (cmp2g : FuncId) (cmp2i : Array Value) (cmp2c : Array Value) (w : World) (R : Ending → World → Prop) : Prop :=
  Calls Tryz.prog 111 #[.func (.func seq1g) seq1i seq1c] w (ret (fun r3 w4 => ∃ s5a : Option Addr, ∃ s5l : Nat, ∃ s5c : Nat, r3 = .slice s5a s5l s5c ∧ Calls Tryz.prog 112 #[.slice s5a s5l s5c, .func (.func cmp2g) cmp2i cmp2c] w4 (ret (fun r6 w7 => r6 = .tuple #[] ∧ R (.returned (.slice s5a s5l s5c)) w7) (pan R))) (pan R))

theorem T_slices_SortedFunc_conf_place_hl : allP (hokL Tryz.prog (hookAt []) (bodyOf Tryz.f76) 1) = (True) := by kernel_rfl

theorem T_slices_SortedFunc_conf_place_eq (seq1g : FuncId) (seq1i : Array Value) (seq1c : Array Value) (cmp2g : FuncId) (cmp2i : Array Value) (cmp2c : Array Value) (w : World) (R : Ending → World → Prop) : vcCode Tryz.prog (hookAt []) (bodyOf Tryz.f76) 1 ⟨argEnv [.func (.func seq1g) seq1i seq1c, .func (.func cmp2g) cmp2i cmp2c] 0, Tryz.f76.ntmps, []⟩ w (finQ Tryz.prog Tryz.f76.results.toList R) = T_slices_SortedFunc_conf_place seq1g seq1i seq1c cmp2g cmp2i cmp2c w R := by kernel_rfl

theorem T_slices_SortedFunc_conf_place_b : Tryz.f76.body = some (bodyOf Tryz.f76) := by kernel_rfl
theorem T_slices_SortedFunc_conf_place_s : (quietSel (bodyOf Tryz.f76) && Nat.ble 2 Tryz.f76.ntmps) = true := by kernel_rfl

theorem C_slices_SortedFunc_conf_place {seq1g : FuncId} {seq1i : Array Value} {seq1c : Array Value} {cmp2g : FuncId} {cmp2i : Array Value} {cmp2c : Array Value} {w : World} {R : Ending → World → Prop} (h : T_slices_SortedFunc_conf_place seq1g seq1i seq1c cmp2g cmp2i cmp2c w R) : Calls Tryz.prog 76 #[.func (.func seq1g) seq1i seq1c, .func (.func cmp2g) cmp2i cmp2c] w R :=
  calls_of_text (args := [.func (.func seq1g) seq1i seq1c, .func (.func cmp2g) cmp2i cmp2c]) mixed Tryz.func76 T_slices_SortedFunc_conf_place_b T_slices_SortedFunc_conf_place_s (HOk_of _ _ (by rw [T_slices_SortedFunc_conf_place_hl]; exact trivial)) (by rw [T_slices_SortedFunc_conf_place_eq]; exact h)

/-! maps.Keys[map[tollgate/conf.place]string,tollgate/conf.place,string] -/
def T_maps_Keys_string (m1 : Option Nat) (w : World) (R : Ending → World → Prop) : Prop :=
  let w2 : World := w.alloc (.cells #[.map m1] 76)
  R (.returned (.func (.func 113) #[] #[.pointer (some (⟨w.heap.size, 0, none⟩ : Addr))])) w2

theorem T_maps_Keys_string_hl : allP (hokL Tryz.prog (hookAt []) (bodyOf Tryz.f77) 1) = (True) := by kernel_rfl

theorem T_maps_Keys_string_eq (m1 : Option Nat) (w : World) (R : Ending → World → Prop) : vcCode Tryz.prog (hookAt []) (bodyOf Tryz.f77) 1 ⟨argEnv [.map m1] 0, Tryz.f77.ntmps, []⟩ w (finQ Tryz.prog Tryz.f77.results.toList R) = T_maps_Keys_string m1 w R := by kernel_rfl

theorem T_maps_Keys_string_b : Tryz.f77.body = some (bodyOf Tryz.f77) := by kernel_rfl
theorem T_maps_Keys_string_s : (quietSel (bodyOf Tryz.f77) && Nat.ble 1 Tryz.f77.ntmps) = true := by kernel_rfl

theorem C_maps_Keys_string {m1 : Option Nat} {w : World} {R : Ending → World → Prop} (h : T_maps_Keys_string m1 w R) : Calls Tryz.prog 77 #[.map m1] w R :=
  calls_of_text (args := [.map m1]) mixed Tryz.func77 T_maps_Keys_string_b T_maps_Keys_string_s (HOk_of _ _ (by rw [T_maps_Keys_string_hl]; exact trivial)) (by rw [T_maps_Keys_string_eq]; exact h)

/-! slices.Collect[int] -/
def T_slices_Collect_int (seq1g : FuncId) (seq1i : Array Value) (seq1c : Array Value) (w : World) (R : Ending → World → Prop) : Prop :=
  Calls Tryz.prog 120 #[.slice none 0 0, .func (.func seq1g) seq1i seq1c] w (ret (fun r2 w3 => ∃ s4a : Option Addr, ∃ s4l : Nat, ∃ s4c : Nat, r2 = .slice s4a s4l s4c ∧ R (.returned (.slice s4a s4l s4c)) w3) (pan R))

theorem T_slices_Collect_int_hl : allP (hokL Tryz.prog (hookAt []) (bodyOf Tryz.f91) 1) = (True) := by kernel_rfl

theorem T_slices_Collect_int_eq (seq1g : FuncId) (seq1i : Array Value) (seq1c : Array Value) (w : World) (R : Ending → World → Prop) : vcCode Tryz.prog (hookAt []) (bodyOf Tryz.f91) 1 ⟨argEnv [.func (.func seq1g) seq1i seq1c] 0, Tryz.f91.ntmps, []⟩ w (finQ Tryz.prog Tryz.f91.results.toList R) = T_slices_Collect_int seq1g seq1i seq1c w R := by kernel_rfl

theorem T_slices_Collect_int_b : Tryz.f91.body = some (bodyOf Tryz.f91) := by kernel_rfl
theorem T_slices_Collect_int_s : (quietSel (bodyOf Tryz.f91) && Nat.ble 1 Tryz.f91.ntmps) = true := by kernel_rfl

theorem C_slices_Collect_int {seq1g : FuncId} {seq1i : Array Value} {seq1c : Array Value} {w : World} {R : Ending → World → Prop} (h : T_slices_Collect_int seq1g seq1i seq1c w R) : Calls Tryz.prog 91 #[.func (.func seq1g) seq1i seq1c] w R :=
  calls_of_text (args := [.func (.func seq1g) seq1i seq1c]) mixed Tryz.func91 T_slices_Collect_int_b T_slices_Collect_int_s (HOk_of _ _ (by rw [T_slices_Collect_int_hl]; exact trivial)) (by rw [T_slices_Collect_int_eq]; exact h)

/-! slices.Collect[tollgate/conf.place] -/
def T_slices_Collect_conf_place (seq1g : FuncId) (seq1i : Array Value) (seq1c : Array Value) (w : World) (R : Ending → World → Prop) : Prop :=
  Calls Tryz.prog 138 #[.slice none 0 0, .func (.func seq1g) seq1i seq1c] w (ret (fun r2 w3 => ∃ s4a : Option Addr, ∃ s4l : Nat, ∃ s4c : Nat, r2 = .slice s4a s4l s4c ∧ R (.returned (.slice s4a s4l s4c)) w3) (pan R))

theorem T_slices_Collect_conf_place_hl : allP (hokL Tryz.prog (hookAt []) (bodyOf Tryz.f111) 1) = (True) := by kernel_rfl

theorem T_slices_Collect_conf_place_eq (seq1g : FuncId) (seq1i : Array Value) (seq1c : Array Value) (w : World) (R : Ending → World → Prop) : vcCode Tryz.prog (hookAt []) (bodyOf Tryz.f111) 1 ⟨argEnv [.func (.func seq1g) seq1i seq1c] 0, Tryz.f111.ntmps, []⟩ w (finQ Tryz.prog Tryz.f111.results.toList R) = T_slices_Collect_conf_place seq1g seq1i seq1c w R := by kernel_rfl

theorem T_slices_Collect_conf_place_b : Tryz.f111.body = some (bodyOf Tryz.f111) := by kernel_rfl
theorem T_slices_Collect_conf_place_s : (quietSel (bodyOf Tryz.f111) && Nat.ble 1 Tryz.f111.ntmps) = true := by kernel_rfl

theorem C_slices_Collect_conf_place {seq1g : FuncId} {seq1i : Array Value} {seq1c : Array Value} {w : World} {R : Ending → World → Prop} (h : T_slices_Collect_conf_place seq1g seq1i seq1c w R) : Calls Tryz.prog 111 #[.func (.func seq1g) seq1i seq1c] w R :=
  calls_of_text (args := [.func (.func seq1g) seq1i seq1c]) mixed Tryz.func111 T_slices_Collect_conf_place_b T_slices_Collect_conf_place_s (HOk_of _ _ (by rw [T_slices_Collect_conf_place_hl]; exact trivial)) (by rw [T_slices_Collect_conf_place_eq]; exact h)

end Go.Proofs.YtcpmfjclkdjfmaaGreat

/-
  What is owned of memory: assertions that lie apart, as a list.
-/
namespace Go.Vc
open Go

abbrev PHeap := Nat → Option (Bool × Obj)
abbrev Asrt := PHeap → Prop
def dj (h1 h2 : PHeap) : Prop := ∀ b, h1 b = none ∨ h2 b = none ∨ ∃ o, h1 b = some (false, o) ∧ h2 b = some (false, o)
def un (h1 h2 : PHeap) : PHeap := fun b => match h1 b with | some x => some x | none => h2 b
def sepL : List Asrt → PHeap → Prop
  | [], _ => True
  | A :: L, h => ∃ h1 h2, dj h1 h2 ∧ h = un h1 h2 ∧ A h1 ∧ sepL L h2
def lies (h : PHeap) (w : World) : Prop := ∀ b f o, h b = some (f, o) → w.heap[b]? = some o
structure SameEnv (E w : World) : Prop where
  os : w.os = E.os
  tape : w.tape = E.tape
  output : w.output = E.output
def St (E : World) (L : List Asrt) (w : World) : Prop := SameEnv E w ∧ ∃ h, sepL L h ∧ lies h w

theorem dj.symm {a b : PHeap} (h : dj a b) : dj b a := fun c => by
  rcases h c with h | h | ⟨o, h1, h2⟩
  · exact .inr (.inl h)
  · exact .inl h
  · exact .inr (.inr ⟨o, h2, h1⟩)
theorem un_comm {a b : PHeap} (h : dj a b) : un a b = un b a := by
  funext c
  unfold un
  rcases h c with h | h | ⟨o, h1, h2⟩
  · rw [h]; cases hb : b c <;> rfl
  · rw [h]; cases ha : a c <;> rfl
  · rw [h1, h2]
theorem un_assoc (a b c : PHeap) : un (un a b) c = un a (un b c) := by
  funext d; unfold un; cases a d <;> rfl
theorem dj_un {a b c : PHeap} (h : dj a (un b c)) (_hb : dj b c) : dj a b ∧ dj a c := by
  refine ⟨fun d => ?_, fun d => ?_⟩
  · rcases h d with h1 | h1 | ⟨o, h1, h2⟩
    · exact .inl h1
    · unfold un at h1; cases hb : b d <;> simp [hb] at h1; exact .inr (.inl rfl)
    · unfold un at h2
      cases hb : b d <;> simp [hb] at h2
      · exact .inr (.inl rfl)
      · exact .inr (.inr ⟨o, h1, by rw [h2]⟩)
  · rcases h d with h1 | h1 | ⟨o, h1, h2⟩
    · exact .inl h1
    · unfold un at h1; cases hb : b d <;> simp [hb] at h1; exact .inr (.inl h1)
    · unfold un at h2
      cases hb : b d <;> simp [hb] at h2
      · exact .inr (.inr ⟨o, h1, h2⟩)
      · rcases _hb d with h3 | h3 | ⟨o', h3, h4⟩
        · rw [h3] at hb; cases hb
        · exact .inr (.inl h3)
        · rw [h3] at hb; injection hb with hb; rw [← hb] at h2; injection h2 with _ h2; subst h2; exact .inr (.inr ⟨_, h1, h4⟩)
theorem dj_un_left {a b c : PHeap} (h1 : dj a c) (h2 : dj b c) : dj (un a b) c := fun d => by
  unfold un
  cases ha : a d with
  | none => exact h2 d
  | some x => have := h1 d; rw [ha] at this; exact this

theorem sepL_swap {A B : Asrt} {L : List Asrt} {h : PHeap} (hs : sepL (A :: B :: L) h) : sepL (B :: A :: L) h := by
  obtain ⟨h1, h23, d1, rfl, hA, h2, h3, d2, rfl, hB, hL⟩ := hs
  obtain ⟨d12, d13⟩ := dj_un d1 d2
  refine ⟨h2, un h1 h3, ?_, ?_, hB, h1, h3, d13, rfl, hA, hL⟩
  · exact (dj_un_left d12 d2.symm).symm
  · rw [← un_assoc, ← un_assoc, un_comm d12]
theorem sepL_perm {L L' : List Asrt} (p : L.Perm L') : ∀ {h : PHeap}, sepL L h → sepL L' h := by
  induction p with
  | nil => exact fun h => h
  | cons A _ ih => rintro h ⟨h1, h2, d, e, hA, hL⟩; exact ⟨h1, h2, d, e, hA, ih hL⟩
  | swap A B L => exact fun h => sepL_swap h
  | trans _ _ ih1 ih2 => exact fun h => ih2 (ih1 h)

section
variable {E w w' : World} {A B : Asrt} {L L' : List Asrt}

theorem St.perm (h : St E L w) (p : L.Perm L') : St E L' w := let ⟨e, x, hs, hl⟩ := h; ⟨e, x, sepL_perm p hs, hl⟩
theorem St.drop (h : St E (A :: L) w) : St E L w := by
  obtain ⟨e, x, ⟨h1, h2, d, rfl, _, hL⟩, hl⟩ := h
  refine ⟨e, h2, hL, fun b f o hb => ?_⟩
  cases h1b : h1 b with
  | none => exact hl b f o (by unfold un; rw [h1b]; exact hb)
  | some x =>
    rcases d b with h' | h' | ⟨o', h', h''⟩
    · rw [h'] at h1b; cases h1b
    · rw [h'] at hb; cases hb
    · rw [h''] at hb; injection hb with hb; injection hb with _ hb; subst hb
      exact hl b false o' (by unfold un; rw [h'])
theorem St.mono (h : St E (A :: L) w) (f : ∀ x, A x → B x) : St E (B :: L) w := by
  obtain ⟨e, x, ⟨h1, h2, d, rfl, hA, hL⟩, hl⟩ := h
  exact ⟨e, _, ⟨h1, h2, d, rfl, f _ hA, hL⟩, hl⟩
/-- Bring number n to the front. -/
theorem St.f1 {A B : Asrt} (h : St E (A :: B :: L) w) : St E (B :: A :: L) w := h.perm (.swap ..)
theorem St.f2 {A B C : Asrt} (h : St E (A :: B :: C :: L) w) : St E (C :: A :: B :: L) w := h.perm ((List.Perm.cons _ (.swap ..)).trans (.swap ..))
theorem St.f3 {A B C D : Asrt} (h : St E (A :: B :: C :: D :: L) w) : St E (D :: A :: B :: C :: L) w :=
  h.perm ((List.Perm.cons _ ((List.Perm.cons _ (.swap ..)).trans (.swap ..))).trans (.swap ..))
theorem St.f4 {A B C D F : Asrt} (h : St E (A :: B :: C :: D :: F :: L) w) : St E (F :: A :: B :: C :: D :: L) w := (h.perm ((List.perm_middle (l₁ := [A, B, C, D]) (l₂ := L) (a := F))) :)
theorem St.f5 {A B C D F G : Asrt} (h : St E (A :: B :: C :: D :: F :: G :: L) w) : St E (G :: A :: B :: C :: D :: F :: L) w := (h.perm ((List.perm_middle (l₁ := [A, B, C, D, F]) (l₂ := L) (a := G))) :)
/-- Put the first one behind n others. -/
theorem St.b2 {A B C : Asrt} (h : St E (A :: B :: C :: L) w) : St E (B :: C :: A :: L) w := h.perm (List.perm_middle (l₁ := [B, C]) (l₂ := L) (a := A)).symm
theorem St.b3 {A B C D : Asrt} (h : St E (A :: B :: C :: D :: L) w) : St E (B :: C :: D :: A :: L) w := h.perm (List.perm_middle (l₁ := [B, C, D]) (l₂ := L) (a := A)).symm
theorem St.b4 {A B C D F : Asrt} (h : St E (A :: B :: C :: D :: F :: L) w) : St E (B :: C :: D :: F :: A :: L) w := h.perm (List.perm_middle (l₁ := [B, C, D, F]) (l₂ := L) (a := A)).symm
theorem perm_front (L1 : List Asrt) (A : Asrt) (L2 : List Asrt) : (L1 ++ A :: L2).Perm (A :: (L1 ++ L2)) := List.perm_middle
theorem St.front (L1 : List Asrt) {A : Asrt} {L2 : List Asrt} (h : St E (L1 ++ A :: L2) w) : St E (A :: (L1 ++ L2)) w := h.perm (perm_front _ _ _)

/-- A list of assertions as one. -/
def seps (L : List Asrt) : Asrt := sepL L
theorem sepL_append : ∀ {L1 L2 : List Asrt} {h : PHeap}, sepL (L1 ++ L2) h ↔ ∃ h1 h2, dj h1 h2 ∧ h = un h1 h2 ∧ sepL L1 h1 ∧ sepL L2 h2
  | [], L2, h => by
    constructor
    · intro hs; exact ⟨fun _ => none, h, fun _ => .inl rfl, by funext b; rfl, trivial, hs⟩
    · rintro ⟨h1, h2, d, rfl, _, hs⟩
      -- what is beside may be let go
      have : ∀ (L : List Asrt) (x y : PHeap), dj x y → sepL L y → sepL L (un x y) := by
        intro L
        induction L with
        | nil => intros; trivial
        | cons A L ih =>
          rintro x y dxy ⟨y1, y2, d, rfl, hA, hL⟩
          obtain ⟨d1, d2⟩ := dj_un dxy d
          refine ⟨y1, un x y2, (dj_un_left d1 d.symm).symm, ?_, hA, ih _ _ d2 hL⟩
          rw [← un_assoc, ← un_assoc, un_comm d1]
      exact this _ _ _ d hs
  | A :: L1, L2, h => by
    constructor
    · rintro ⟨h1, h2, d, rfl, hA, hs⟩
      obtain ⟨h3, h4, d', rfl, hs1, hs2⟩ := sepL_append.1 hs
      obtain ⟨d3, d4⟩ := dj_un d d'
      exact ⟨un h1 h3, h4, dj_un_left d4 d', (un_assoc _ _ _).symm, ⟨h1, h3, d3, rfl, hA, hs1⟩, hs2⟩
    · rintro ⟨x, h4, d', rfl, ⟨h1, h3, d3, rfl, hA, hs1⟩, hs2⟩
      obtain ⟨e1, e2⟩ := dj_un d'.symm d3
      refine ⟨h1, un h3 h4, ?_, un_assoc _ _ _, hA, sepL_append.2 ⟨h3, h4, e2.symm, rfl, hs1, hs2⟩⟩
      exact (dj_un_left d3.symm e1).symm
theorem St.open_ {L1 L2 : List Asrt} (h : St E (seps L1 :: L2) w) : St E (L1 ++ L2) w := by
  obtain ⟨e, x, ⟨h1, h2, d, rfl, hs, hL⟩, hl⟩ := h
  exact ⟨e, _, sepL_append.2 ⟨h1, h2, d, rfl, hs, hL⟩, hl⟩
theorem St.shut {L1 L2 : List Asrt} (h : St E (L1 ++ L2) w) : St E (seps L1 :: L2) w := by
  obtain ⟨e, x, hs, hl⟩ := h
  obtain ⟨h1, h2, d, rfl, h3, h4⟩ := sepL_append.1 hs
  exact ⟨e, _, ⟨h1, h2, d, rfl, h3, h4⟩, hl⟩

/-! ### blocks -/
/-- Block b is o, and ours. -/
def blk (b : Nat) (o : Obj) : Asrt := fun h => h b = some (true, o)
/-- Block b is o, and stays. -/
def ro (b : Nat) (o : Obj) : Asrt := fun h => ∃ f, h b = some (f, o)
/-- All that was there in W stays. -/
def old (W : World) : Asrt := fun h => ∀ b o, W.heap[b]? = some o → ∃ f, h b = some (f, o)

theorem St.at_blk {b : Nat} {o : Obj} (h : St E (blk b o :: L) w) : w.heap[b]? = some o := by
  obtain ⟨_, x, ⟨h1, h2, d, rfl, hA, hL⟩, hl⟩ := h
  exact hl b true o (by unfold un; rw [show h1 b = some (true, o) from hA])
theorem St.at_old {W : World} {b : Nat} {o : Obj} (h : St E (old W :: L) w) (hb : W.heap[b]? = some o) : w.heap[b]? = some o := by
  obtain ⟨_, x, ⟨h1, h2, d, rfl, hA, hL⟩, hl⟩ := h
  obtain ⟨f, hf⟩ := hA b o hb
  exact hl b f o (by unfold un; rw [hf])

/-- A block of ours is turned; nothing else that was there is. -/
theorem St.upd {b : Nat} {o o' : Obj} (h : St E (blk b o :: L) w) (he : SameEnv w w') (hb : w'.heap[b]? = some o') (hk : ∀ c, c ≠ b → c < w.heap.size → w'.heap[c]? = w.heap[c]?) : St E (blk b o' :: L) w' := by
  obtain ⟨e, x, ⟨h1, h2, d, rfl, hA, hL⟩, hl⟩ := h
  have hA' : h1 b = some (true, o) := hA
  have hb2 : h2 b = none := by
    rcases d b with h' | h' | ⟨o2, h', _⟩
    · rw [hA'] at h'; cases h'
    · exact h'
    · rw [hA'] at h'; cases h'
  refine ⟨⟨he.os.trans e.os, he.tape.trans e.tape, he.output.trans e.output⟩, un (fun c => if c = b then some (true, o') else none) h2, ⟨_, h2, fun c => ?_, rfl, by simp [blk], hL⟩, fun c f u hc => ?_⟩
  · by_cases hcb : c = b
    · subst hcb; exact .inr (.inl hb2)
    · exact .inl (by simp [hcb])
  · unfold un at hc
    by_cases hcb : c = b
    · subst hcb; simp at hc; rw [hb, hc.2]
    · simp only [hcb, if_false] at hc
      have hw : w.heap[c]? = some u := by
        cases h1c : h1 c with
        | none => exact hl c f u (by unfold un; rw [h1c]; exact hc)
        | some y =>
          rcases d c with h' | h' | ⟨o2, h', h''⟩
          · rw [h'] at h1c; cases h1c
          · rw [h'] at hc; cases hc
          · rw [h''] at hc; injection hc with hc; injection hc with _ hc; subst hc
            exact hl c false o2 (by unfold un; rw [h'])
      have hlt : c < w.heap.size := (Array.getElem?_eq_some_iff.1 hw).1
      rw [hk c hcb hlt, hw]
/-- Nothing that was there is turned. -/
theorem St.same (h : St E L w) (he : SameEnv w w') (hk : ∀ c, c < w.heap.size → w'.heap[c]? = w.heap[c]?) : St E L w' := by
  obtain ⟨e, x, hs, hl⟩ := h
  refine ⟨⟨he.os.trans e.os, he.tape.trans e.tape, he.output.trans e.output⟩, x, hs, fun b f o hb => ?_⟩
  have hw := hl b f o hb
  rw [hk b (Array.getElem?_eq_some_iff.1 hw).1, hw]
theorem St.add_new {b : Nat} {o : Obj} (h : St E L w) (he : SameEnv w w') (hlt : w.heap.size ≤ b) (hb : w'.heap[b]? = some o) (hk : ∀ c, c < w.heap.size → w'.heap[c]? = w.heap[c]?) : St E (blk b o :: L) w' := by
  obtain ⟨e, x, hs, hl⟩ := h
  have hxb : x b = none := by
    cases hx : x b with
    | none => rfl
    | some y => have := (Array.getElem?_eq_some_iff.1 (hl b y.1 y.2 hx)).1; omega
  refine ⟨⟨he.os.trans e.os, he.tape.trans e.tape, he.output.trans e.output⟩, un (fun c => if c = b then some (true, o) else none) x, ⟨_, x, fun c => ?_, rfl, by simp [blk], hs⟩, fun c f u hc => ?_⟩
  · by_cases hcb : c = b
    · subst hcb; exact .inr (.inl hxb)
    · exact .inl (by simp [hcb])
  · unfold un at hc
    by_cases hcb : c = b
    · subst hcb; simp at hc; rw [hb, hc.2]
    · simp only [hcb, if_false] at hc
      have hw := hl c f u hc
      rw [hk c (Array.getElem?_eq_some_iff.1 hw).1, hw]

theorem SameEnv.refl (w : World) : SameEnv w w := ⟨rfl, rfl, rfl⟩
theorem St.alloc (h : St E L w) (o : Obj) : St E (blk w.heap.size o :: L) (w.alloc o) :=
  h.add_new ⟨rfl, rfl, rfl⟩ (Nat.le_refl _) (by show (w.heap.push o)[w.heap.size]? = some o; simp) fun c hc => by
    show (w.heap.push o)[c]? = _
    rw [Array.getElem?_push, if_neg (by omega)]
theorem St.drew (h : St E L w) : St E L w.drew := h.same ⟨rfl, rfl, rfl⟩ fun _ _ => rfl
theorem St.drewN (h : St E L w) (n : Nat) : St E L { w with drawn := n } := h.same ⟨rfl, rfl, rfl⟩ fun _ _ => rfl

end
end Go.Vc

/-
  Rows of cells, slices: reading, writing, appending.
-/
namespace Go.Vc
open Go

abbrev blkL (b : Nat) (t : TypeId) (l : List Value) : Asrt := blk b (.cells ⟨l⟩ t (0, 0))
theorem add_mk (b o n : Nat) : (⟨b, o, none⟩ : Addr).add n = ⟨b, o + n, none⟩ := by
  unfold Addr.add
  split
  · rename_i h; subst h; rfl
  · rfl

section
variable {E w : World} {L : List Asrt} {b t off : Nat} {l : List Value} {fr : Nat × Nat}

theorem cell_of (hb : w.heap[b]? = some (.cells ⟨l⟩ t fr)) (off : Nat) : w.cell? ⟨b, off, none⟩ = l[off]? := by
  unfold World.cell?
  rw [hb]
  simp
theorem frozen_of (hb : w.heap[b]? = some (.cells ⟨l⟩ t (0, 0))) (off : Nat) : w.frozen? ⟨b, off, none⟩ = false := by
  unfold World.frozen?
  rw [hb]
  simp
theorem cells_one {v : Value} (h : one v = true) : v.cells = #[v] := by cases v <;> first | rfl | cases h
theorem rd_cell {v : Value} (hb : w.heap[b]? = some (.cells ⟨l⟩ t fr)) (hv : l[off]? = some v) (ho : one v = true) : rd w ⟨b, off, none⟩ v := by
  intro i u hu
  rw [cells_one ho] at hu
  cases i with
  | succ i => simp at hu
  | zero =>
    simp at hu
    subst hu
    rw [add_mk, cell_of hb]
    exact hv
theorem rd_agg {xs : List Value} (hb : w.heap[b]? = some (.cells ⟨l⟩ t fr)) (hv : ∀ i u, xs[i]? = some u → l[off + i]? = some u) : rd w ⟨b, off, none⟩ (.agg ⟨xs⟩) := by
  intro i u hu
  rw [add_mk, cell_of hb]
  exact hv i u (by simpa [Value.cells] using hu)
theorem wrOk_cell {v : Value} (hb : w.heap[b]? = some (.cells ⟨l⟩ t (0, 0))) (hoff : off < l.length) (ho : one v = true) : wrOk w ⟨b, off, none⟩ v := by
  intro i u hu
  rw [cells_one ho] at hu
  cases i with
  | succ i => simp at hu
  | zero =>
    simp at hu
    subst hu
    exact ⟨ho, ⟨l[off], by rw [add_mk, cell_of hb]; exact List.getElem?_eq_getElem hoff⟩, by rw [add_mk]; exact frozen_of hb _⟩
theorem wrOk_agg {xs : List Value} (hb : w.heap[b]? = some (.cells ⟨l⟩ t (0, 0))) (hoff : off + xs.length ≤ l.length) (ho : ∀ u ∈ xs, one u = true) : wrOk w ⟨b, off, none⟩ (.agg ⟨xs⟩) := by
  intro i u hu
  have hu' : xs[i]? = some u := by simpa [Value.cells] using hu
  have hlt : i < xs.length := (List.getElem?_eq_some_iff.1 hu').1
  exact ⟨ho u (List.mem_of_getElem? hu'), ⟨l[off + i]'(by omega), by rw [add_mk, cell_of hb]; exact List.getElem?_eq_getElem _⟩, by rw [add_mk]; exact frozen_of hb _⟩

def setAll (l : List Value) (off : Nat) : List Value → List Value
  | [] => l
  | v :: r => setAll (l.set off v) (off + 1) r
theorem heap_setCell_at (hb : w.heap[b]? = some (.cells ⟨l⟩ t fr)) (v : Value) : (w.setCell ⟨b, off, none⟩ v).heap[b]? = some (.cells ⟨l.set off v⟩ t fr) := by
  simp [World.setCell, Array.getElem?_modify, hb]
theorem heap_setCell_ne {a : Addr} {c : Nat} (h : c ≠ a.block) (v : Value) : (w.setCell a v).heap[c]? = w.heap[c]? := by
  simp only [World.setCell, Array.getElem?_modify]
  rw [if_neg (fun e => h e.symm)]
theorem SameEnv.setCell (w : World) (a : Addr) (v : Value) : SameEnv w (w.setCell a v) := ⟨rfl, rfl, rfl⟩
theorem SameEnv.trans {a b c : World} (h : SameEnv a b) (k : SameEnv b c) : SameEnv a c := ⟨k.os.trans h.os, k.tape.trans h.tape, k.output.trans h.output⟩
theorem wrL_all : ∀ (xs : List Value) (i : Nat) (w : World) (l : List Value), w.heap[b]? = some (.cells ⟨l⟩ t fr) →
    (wrL w ⟨b, off, none⟩ xs i).heap[b]? = some (.cells ⟨setAll l (off + i) xs⟩ t fr) ∧ SameEnv w (wrL w ⟨b, off, none⟩ xs i) ∧ ∀ c, c ≠ b → (wrL w ⟨b, off, none⟩ xs i).heap[c]? = w.heap[c]?
  | [], _, w, _, h => ⟨h, .refl w, fun _ _ => rfl⟩
  | v :: r, i, w, l, h => by
    have h1 := heap_setCell_at (off := off + i) h v
    obtain ⟨h2, h3, h4⟩ := wrL_all r (i + 1) (w.setCell ((⟨b, off, none⟩ : Addr).add i) v) (l.set (off + i) v) (by rw [add_mk]; exact h1)
    refine ⟨?_, .trans (.setCell ..) h3, fun c hc => (h4 c hc).trans ?_⟩
    · exact h2
    · rw [add_mk]; exact heap_setCell_ne hc v
theorem St.wr_any {u : Value} (h : St E (blkL b t l :: L) w) : St E (blkL b t (setAll l off u.cells.toList) :: L) (wr w ⟨b, off, none⟩ u) := by
  obtain ⟨h1, h2, h3⟩ := wrL_all (off := off) u.cells.toList 0 w l h.at_blk
  exact h.upd h2 h1 fun c hc _ => h3 c hc
theorem St.wr_cell {v : Value} (h : St E (blkL b t l :: L) w) (ho : one v = true) : St E (blkL b t (l.set off v) :: L) (wr w ⟨b, off, none⟩ v) := by
  have := h.wr_any (off := off) (u := v)
  rw [cells_one ho] at this
  exact this
theorem setAll_eq : ∀ (xs l : List Value) (off : Nat), off + xs.length ≤ l.length → setAll l off xs = l.take off ++ xs ++ l.drop (off + xs.length)
  | [], l, off, _ => by simp [setAll]
  | v :: r, l, off, h => by
    simp only [List.length_cons] at h
    rw [setAll, setAll_eq r (l.set off v) (off + 1) (by simp; omega)]
    have hlt : off < l.length := by omega
    rw [List.take_set, List.drop_set]
    rw [if_pos (by omega)]
    rw [show (off + 1 + r.length) = off + (r.length + 1) from by omega]
    have : (l.take (off + 1)).set off v = l.take off ++ [v] := by
      rw [List.take_succ_eq_append_getElem hlt, List.set_append]
      simp [Nat.min_eq_left (Nat.le_of_lt hlt)]
    rw [this]
    simp
theorem St.wr_agg {xs : List Value} (h : St E (blkL b t l :: L) w) (hl : off + xs.length ≤ l.length) : St E (blkL b t (l.take off ++ xs ++ l.drop (off + xs.length)) :: L) (wr w ⟨b, off, none⟩ (.agg ⟨xs⟩)) := by
  have := h.wr_any (off := off) (u := .agg ⟨xs⟩)
  rw [show (Value.agg ⟨xs⟩).cells.toList = xs from rfl, setAll_eq _ _ _ hl] at this
  exact this
theorem St.wr_agg0 {xs : List Value} (h : St E (blkL b t l :: L) w) (hl : xs.length = l.length) : St E (blkL b t xs :: L) (wr w ⟨b, 0, none⟩ (.agg ⟨xs⟩)) := by
  have := h.wr_agg (off := 0) (xs := xs) (by omega)
  simpa [hl] using this
end

/-! ### slices -/

/-- A slice of ours: its elements' cells, in a row of its own. -/
def ownS (a : Option Addr) (l c : Nat) (e : TypeId) (sz : Nat) (xs : List Value) : Asrt := fun h =>
  xs.length = l * sz ∧ l ≤ c ∧ c ≤ maxLen ∧ ((a = none ∧ c = 0) ∨ ∃ g rest, a = some ⟨g, 0, none⟩ ∧ rest.length = (c - l) * sz ∧ h g = some (true, .cells ⟨xs ++ rest⟩ e (0, 0)))
/-- A slice that is read alone. -/
def roS (a : Option Addr) (l sz : Nat) (xs : List Value) : Asrt := fun h =>
  xs.length = l * sz ∧ (l = 0 ∨ ∃ g off cs t fr f, a = some ⟨g, off, none⟩ ∧ h g = some (f, .cells ⟨cs⟩ t fr) ∧ ∀ i u, xs[i]? = some u → cs[off + i]? = some u)

section
variable {E w : World} {L : List Asrt} {a : Option Addr} {l c sz : Nat} {e : TypeId} {xs : List Value}

theorem St.ownS_facts (h : St E (ownS a l c e sz xs :: L) w) : xs.length = l * sz ∧ l ≤ c ∧ c ≤ maxLen := by
  obtain ⟨_, x, ⟨h1, h2, d, rfl, hA, _⟩, _⟩ := h
  exact ⟨hA.1, hA.2.1, hA.2.2.1⟩
theorem St.roS_facts (h : St E (roS a l sz xs :: L) w) : xs.length = l * sz := by
  obtain ⟨_, x, ⟨h1, h2, d, rfl, hA, _⟩, _⟩ := h
  exact hA.1
/-- An owned slice that is not nil, as its block. -/
theorem St.ownS_open (h : St E (ownS a l c e sz xs :: L) w) : (a = none ∧ l = 0 ∧ c = 0 ∧ xs = []) ∨ ∃ g rest, a = some ⟨g, 0, none⟩ ∧ rest.length = (c - l) * sz ∧ St E (blkL g e (xs ++ rest) :: L) w := by
  obtain ⟨en, x, ⟨h1, h2, d, rfl, ⟨p1, p2, p3, hA⟩, hL⟩, hl⟩ := h
  rcases hA with ⟨ha, hc⟩ | ⟨g, rest, ha, hr, hg⟩
  · have hl0 : l = 0 := by omega
    subst hl0
    exact .inl ⟨ha, rfl, hc, List.eq_nil_of_length_eq_zero (by simpa using p1)⟩
  · exact .inr ⟨g, rest, ha, hr, en, _, ⟨h1, h2, d, rfl, hg, hL⟩, hl⟩
theorem St.ownS_nil (h : St E L w) : St E (ownS none 0 0 e sz [] :: L) w := by
  obtain ⟨en, x, hs, hl⟩ := h
  exact ⟨en, x, ⟨fun _ => none, x, fun _ => .inl rfl, by funext b; rfl, ⟨by simp, Nat.le_refl _, Nat.zero_le _, .inl ⟨rfl, rfl⟩⟩, hs⟩, hl⟩
theorem St.ownS_mk {g : Nat} {rest : List Value} (h : St E (blkL g e (xs ++ rest) :: L) w) (h1 : xs.length = l * sz) (h2 : l ≤ c) (h3 : c ≤ maxLen) (hr : rest.length = (c - l) * sz) : St E (ownS (some ⟨g, 0, none⟩) l c e sz xs :: L) w :=
  h.mono fun _ hx => ⟨h1, h2, h3, .inr ⟨g, rest, rfl, hr, hx⟩⟩
theorem St.ownS_ro (h : St E (ownS a l c e sz xs :: L) w) : St E (roS a l sz xs :: L) w := h.mono fun x ⟨h1, h2, h3, hA⟩ => ⟨h1, by
  rcases hA with ⟨ha, hc⟩ | ⟨g, rest, ha, hr, hg⟩
  · exact .inl (by omega)
  · exact .inr ⟨g, 0, _, _, _, _, ha, hg, fun i u hu => by
      rw [Nat.zero_add, List.getElem?_append_left (List.getElem?_eq_some_iff.1 hu).1]; exact hu⟩⟩
/-- Where a read slice lies. -/
theorem St.roS_at (h : St E (roS a l sz xs :: L) w) (hl : 0 < l) : ∃ g off cs t fr, a = some ⟨g, off, none⟩ ∧ w.heap[g]? = some (.cells ⟨cs⟩ t fr) ∧ ∀ i u, xs[i]? = some u → cs[off + i]? = some u := by
  obtain ⟨_, x, ⟨h1, h2, d, rfl, ⟨_, hA⟩, _⟩, hh⟩ := h
  rcases hA with h0 | ⟨g, off, cs, t, fr, f, ha, hg, hc⟩
  · omega
  · exact ⟨g, off, cs, t, fr, ha, hh g f _ (by unfold un; rw [hg]), hc⟩
theorem one_oneCell {u : Value} (h : one u = true) : u.oneCell' = true := by cases u <;> first | rfl | cases h

end
end Go.Vc

/-
  Slices as rows of elements: reading, writing, appending, cutting.
-/
namespace Go.Vc
open Go

theorem ite_d {p : Prop} [Decidable p] {A B : Prop} (h1 : p → A) (h2 : ¬ p → B) : if decide p = true then A else B := by
  by_cases h : p
  · rw [if_pos (by simpa using h)]; exact h1 h
  · rw [if_neg (by simpa using h)]; exact h2 h
theorem ite_b {b : Bool} {A B : Prop} (h1 : b = true → A) (h2 : b = false → B) : if b = true then A else B := by
  cases b
  · exact h2 rfl
  · exact h1 rfl
theorem ite_n {b : Bool} {A B : Prop} (h1 : b = false → A) (h2 : b = true → B) : if (!b) = true then A else B := by
  cases b
  · exact h1 rfl
  · exact h2 rfl
theorem ite_some {α : Type} {a : α} {A B : Prop} (h : B) : if (some a).isNone = true then A else B := h
theorem ite_none {α : Type} {A B : Prop} (h : A) : if (none : Option α).isNone = true then A else B := h
/-- In world w the slice reads so. -/
def RdS (w : World) (a : Option Addr) (l sz : Nat) (xs : List Value) : Prop :=
  xs.length = l * sz ∧ (l = 0 ∨ ∃ g off, a = some ⟨g, off, none⟩ ∧ ∀ i u, xs[i]? = some u → w.cell? ⟨g, off + i, none⟩ = some u)

section
variable {E w : World} {L : List Asrt} {a : Option Addr} {l c sz : Nat} {e : TypeId} {xs : List Value}

theorem St.rdS (h : St E (roS a l sz xs :: L) w) : RdS w a l sz xs := by
  refine ⟨h.roS_facts, ?_⟩
  rcases Nat.eq_zero_or_pos l with h0 | h0
  · exact .inl h0
  · obtain ⟨g, off, cs, t, fr, ha, hg, hc⟩ := h.roS_at h0
    exact .inr ⟨g, off, ha, fun i u hu => by rw [cell_of hg]; exact hc i u hu⟩
theorem St.rdS_own (h : St E (ownS a l c e sz xs :: L) w) : RdS w a l sz xs := h.ownS_ro.rdS
theorem RdS.cells (h : RdS w a l sz xs) (hl : 0 < l) : ∃ ad, a = some ad ∧ ad.spot = none ∧ ∀ i u, xs[i]? = some u → w.cell? (ad.add i) = some u := by
  rcases h.2 with h0 | ⟨g, off, ha, hc⟩
  · omega
  · exact ⟨_, ha, rfl, fun i u hu => by rw [add_mk]; exact hc i u hu⟩
theorem RdS.grow {w' : World} (h : RdS w a l sz xs) (hk : ∀ b, b < w.heap.size → w'.heap[b]? = w.heap[b]?) : RdS w' a l sz xs := by
  refine ⟨h.1, h.2.imp id fun ⟨g, off, ha, hc⟩ => ⟨g, off, ha, fun i u hu => ?_⟩⟩
  have := hc i u hu
  have hlt : g < w.heap.size := by
    rcases Nat.lt_or_ge g w.heap.size with h' | h'
    · exact h'
    · simp [World.cell?, Array.getElem?_eq_none h'] at this
  rw [← this]
  unfold World.cell?
  rw [hk g hlt]
theorem RdS.alloc (h : RdS w a l sz xs) (o : Obj) : RdS (w.alloc o) a l sz xs := h.grow fun b hb => by
  show (w.heap.push o)[b]? = _
  rw [Array.getElem?_push, if_neg (by omega)]
theorem RdS.nil (w : World) (a : Option Addr) : RdS w a 0 sz [] := ⟨by simp, .inl rfl⟩
theorem RdS.sub (h : RdS w a l sz xs) {lo hi : Nat} (h1 : lo ≤ hi) (h2 : hi ≤ l) (c0 : Nat) (hc : hi ≤ c0) :
    RdS w (if c0 = lo then a else a.map fun x => x.add (lo * sz)) (hi - lo) sz ((xs.drop (lo * sz)).take ((hi - lo) * sz)) := by
  have hlen := h.1
  refine ⟨?_, ?_⟩
  · rw [List.length_take, List.length_drop, hlen, ← Nat.sub_mul]
    exact Nat.min_eq_left (Nat.mul_le_mul_right _ (by omega))
  · rcases Nat.eq_zero_or_pos (hi - lo) with h0 | h0
    · exact .inl h0
    · rcases h.2 with h0' | ⟨g, off, ha, hcs⟩
      · omega
      · rw [if_neg (by omega), ha]
        refine .inr ⟨g, off + lo * sz, by simp [add_mk], fun i u hu => ?_⟩
        rw [Nat.add_assoc]
        refine hcs _ _ ?_
        rw [List.getElem?_take] at hu
        split at hu
        · rwa [List.getElem?_drop] at hu
        · cases hu
theorem RdS.rd_cell (h : RdS w a l sz xs) {ad : Addr} (ha : a = some ad) (hl : 0 < l) {i : Nat} {v : Value} (hv : xs[i]? = some v) (ho : one v = true) : rd w (ad.add i) v := by
  obtain ⟨ad', ha', _, hc⟩ := h.cells hl
  rw [ha] at ha'; injection ha' with ha'; subst ha'
  intro j u hu
  rw [cells_one ho] at hu
  cases j with
  | succ j => simp at hu
  | zero =>
    simp at hu
    subst hu
    have := hc i v hv
    obtain ⟨g, off, spot⟩ := ad
    unfold Addr.add at this ⊢
    simpa using this
theorem RdS.rd_agg (h : RdS w a l sz xs) {ad : Addr} (ha : a = some ad) (hl : 0 < l) {o : Nat} {vs : List Value} (hv : ∀ i u, vs[i]? = some u → xs[o + i]? = some u) : rd w (ad.add o) (.agg ⟨vs⟩) := by
  rcases h.2 with h0 | ⟨g, off, ha', hc⟩
  · omega
  · rw [ha] at ha'; injection ha' with ha'; subst ha'
    intro i u hu
    rw [add_mk, add_mk, Nat.add_assoc]
    exact hc _ _ (hv i u (by simpa [Value.cells] using hu))
/-- 'append(s, x...)': s ours, x whatever is read. -/
theorem append_own {P : Program} {t ty e : TypeId} {i : TypeInfo} {z : Value} (ht : P.underlying t = some (.slice e)) (hi : P.info? e = some i) (hz : i.zero = some z) (hzs : z.cells.size = i.size) (hsz : 0 < i.size)
    {a a2 : Option Addr} {l c l2 c2 : Nat} {xs ys : List Value} (h : St E (ownS a l c e i.size xs :: L) w) (hro : RdS w a2 l2 i.size ys) (h1 : ∀ u ∈ ys, one u = true) (hb : (l + l2) * i.bytes ≤ 140737488355328) (h63 : l + l2 ≤ maxLen) :
    ∃ a' c' w', (Builtin.append_ #[t, t] ty #[.slice a l c, .slice a2 l2 c2]).run P w = .ok (.slice a' (l + l2) c') w' ∧ St E (ownS a' (l + l2) c' e i.size (xs ++ ys) :: L) w' := by
  have hfact := h.ownS_facts
  have hrol := hro.1
  cases a2 with
  | none =>
    have hl2 : l2 = 0 := by
      rcases Nat.eq_zero_or_pos l2 with h0 | h0
      · exact h0
      · obtain ⟨ad, ha, _⟩ := hro.cells h0; cases ha
    subst hl2
    have hys : ys = [] := List.eq_nil_of_length_eq_zero (by simpa using hrol)
    subst hys
    refine ⟨a, c, w, ?_, by simpa using h⟩
    rcases h.ownS_open with ⟨rfl, rfl, rfl, rfl⟩ | ⟨g, rest, rfl, _, _⟩
    · simp [Builtin.append_, run_underlying_ ht, sizeOf, typeInfo, hi, Builtin.lenOf, Builtin.firstCells, program, Sem.run]
    · simp [Builtin.append_, run_underlying_ ht, sizeOf, typeInfo, hi, Builtin.lenOf, Builtin.firstCells, hfact.2.1, storeCells, program, Sem.run]
  | some ad =>
    have hcells : ∀ j u, ys[j]? = some u → w.cell? (ad.add j) = some u := by
      intro j u hu
      rcases Nat.eq_zero_or_pos l2 with h0 | h0
      · subst h0
        have hys : ys = [] := List.eq_nil_of_length_eq_zero (by simpa using hrol)
        subst hys
        simp at hu
      · obtain ⟨ad', ha, _, hc⟩ := hro.cells h0
        injection ha with ha; subst ha
        exact hc j u hu
    have hown : w.ownsRow 0 e i.size (.slice a l c) l xs := by
      refine ⟨hfact.1, ?_⟩
      rcases h.ownS_open with ⟨rfl, rfl, rfl, rfl⟩ | ⟨g, rest, rfl, hr, hs⟩
      · exact .inl ⟨rfl, rfl⟩
      · refine .inr ⟨g, c, ⟨xs ++ rest⟩, rfl, Nat.zero_le _, hs.at_blk, hfact.2.1, hfact.2.2, ?_, ?_⟩
        · simp only [List.size_toArray, List.length_append, hfact.1, hr, ← Nat.add_mul]
          rw [show l + (c - l) = c from by omega]
        · simp [hfact.1]
    obtain ⟨v', w', hrun, hown', hgrow, _, hat⟩ := run_append_own_at (P := P) w 0 t ty e i z i.size i.bytes ht hi hz rfl rfl hzs hsz (.slice a l c) l xs hown ad l2 c2 ys hrol hcells (fun u hu => one_oneCell (h1 u hu)) h63 hb (Nat.zero_le _)
    have henv : SameEnv w w' := ⟨hgrow.os, hgrow.tape, hgrow.output⟩
    rcases hown'.2 with ⟨rfl, hn0⟩ | ⟨g', cap, cur, rfl, _, hg', hcap, hcapm, hcur, htake⟩
    · -- nothing at all
      have hl0 : l = 0 := by omega
      have hl20 : l2 = 0 := by omega
      subst hl0; subst hl20
      have hys : ys = [] := List.eq_nil_of_length_eq_zero (by simpa using hrol)
      have hxs : xs = [] := List.eq_nil_of_length_eq_zero (by simpa using hfact.1)
      subst hys; subst hxs
      refine ⟨none, 0, w', hrun, St.ownS_nil (h.drop.same henv fun b hb => ?_)⟩
      refine hgrow.block b hb ?_
      rcases hat with e | e
      · rw [← e]; simp [Value.ownBlock]
      · cases e
    · have hsplit : cur = ⟨(xs ++ ys) ++ cur.toList.drop ((l + l2) * i.size)⟩ := by
        apply Array.ext'
        show cur.toList = _
        rw [← htake, List.take_append_drop]
      have hrl : (cur.toList.drop ((l + l2) * i.size)).length = (cap - (l + l2)) * i.size := by
        rw [List.length_drop, Array.length_toList, hcur, Nat.sub_mul]
      have hlen : (xs ++ ys).length = (l + l2) * i.size := hown'.1
      refine ⟨some ⟨g', 0, none⟩, cap, w', hrun, St.ownS_mk (rest := cur.toList.drop ((l + l2) * i.size)) ?_ hlen hcap hcapm hrl⟩
      have hg2 : w'.heap[g']? = some (.cells ⟨(xs ++ ys) ++ cur.toList.drop ((l + l2) * i.size)⟩ e (0, 0)) := by rw [← hsplit]; exact hg'
      rcases hat with e1 | e1
      · -- in its own row
        rcases h.ownS_open with ⟨rfl, rfl, rfl, rfl⟩ | ⟨g, rest, rfl, hr, hs⟩
        · simp [Value.ownBlock] at e1
        · have hgg : g' = g := by simpa [Value.ownBlock] using e1
          subst hgg
          exact hs.upd henv hg2 fun b hb hlt => hgrow.block b hlt (by simpa [Value.ownBlock] using fun e => hb e)
      · -- in a new one
        have hgg : g' = w.heap.size := by simpa [Value.ownBlock] using e1
        subst hgg
        rcases h.ownS_open with ⟨rfl, rfl, rfl, rfl⟩ | ⟨g, rest, rfl, hr, hs⟩
        · exact (h.drop.add_new henv (Nat.le_refl _) hg2 fun b hb => hgrow.block b hb (by simp [Value.ownBlock]))
        · -- what was the old row is let go
          have hk : ∀ b, b < w.heap.size → b ≠ g → w'.heap[b]? = w.heap[b]? := fun b hb hne => hgrow.block b hb (by simpa [Value.ownBlock] using fun e => hne e)
          have hglt : g < w.heap.size := (Array.getElem?_eq_some_iff.1 hs.at_blk).1
          have hglt' : g < w'.heap.size := Nat.lt_of_lt_of_le hglt hgrow.size
          have hs2 : St E (blk g w'.heap[g] :: L) w' := hs.upd henv (Array.getElem?_eq_getElem hglt') fun b hb hlt => hk b hlt hb
          have hs3 := hs2.drop
          obtain ⟨en, x, hsx, hlx⟩ := hs.drop
          -- the rest lies in w, apart from g
          have hs4 : St E (blk w.heap.size (.cells ⟨(xs ++ ys) ++ cur.toList.drop ((l + l2) * i.size)⟩ e (0, 0)) :: L) w' := by
            obtain ⟨en', y, ⟨y1, y2, d, rfl, hA, hL⟩, hl⟩ := hs
            have hA' : y1 g = some (true, .cells ⟨xs ++ rest⟩ e (0, 0)) := hA
            have hy2g : y2 g = none := by
              rcases d g with h' | h' | ⟨o, h', _⟩
              · rw [hA'] at h'; cases h'
              · exact h'
              · rw [hA'] at h'; cases h'
            have hl2' : ∀ b f o, y2 b = some (f, o) → w.heap[b]? = some o := by
              intro b f o hb
              cases hy1 : y1 b with
              | none => exact hl b f o (by unfold un; rw [hy1]; exact hb)
              | some q =>
                rcases d b with h' | h' | ⟨o', h', h''⟩
                · rw [h'] at hy1; cases hy1
                · rw [h'] at hb; cases hb
                · rw [h''] at hb; injection hb with hb; injection hb with _ hb; subst hb
                  exact hl b false o' (by unfold un; rw [h'])
            have hnew : y2 w.heap.size = none := by
              cases hc : y2 w.heap.size with
              | none => rfl
              | some q => have := (Array.getElem?_eq_some_iff.1 (hl2' _ q.1 q.2 hc)).1; omega
            refine ⟨⟨henv.os.trans en'.os, henv.tape.trans en'.tape, henv.output.trans en'.output⟩, un (fun b => if b = w.heap.size then some (true, .cells ⟨(xs ++ ys) ++ cur.toList.drop ((l + l2) * i.size)⟩ e (0, 0)) else none) y2, ⟨_, y2, fun b => ?_, rfl, by simp [blk], hL⟩, fun b f o hb => ?_⟩
            · by_cases hbs : b = w.heap.size
              · subst hbs; exact .inr (.inl hnew)
              · exact .inl (by simp [hbs])
            · unfold un at hb
              by_cases hbs : b = w.heap.size
              · subst hbs
                simp only [if_true] at hb
                injection hb with hb
                injection hb with _ hb
                rw [hg2, ← hb]
              · simp only [hbs, if_false] at hb
                have hw := hl2' b f o hb
                have hne : b ≠ g := fun e => by subst e; rw [hy2g] at hb; cases hb
                rw [hk b (Array.getElem?_eq_some_iff.1 hw).1 hne, hw]
          exact hs4
end

/-- What is owned tells what the slice reads as. -/
def Sees (E : World) (L : List Asrt) (a : Option Addr) (l sz : Nat) (xs : List Value) : Prop := ∀ w, St E L w → RdS w a l sz xs
theorem Sees.more {E : World} {L : List Asrt} {a : Option Addr} {l sz : Nat} {xs : List Value} (h : Sees E L a l sz xs) (A : Asrt) : Sees E (A :: L) a l sz xs := fun w hw => h w hw.drop

section
variable {E w : World} {L : List Asrt} {b t k : Nat} {l : List Value} {fr : Nat × Nat} {v : Value}
theorem rd_fld (hb : w.heap[b]? = some (.cells ⟨l⟩ t fr)) (hv : l[k]? = some v) (ho : one v = true) : rd w ((⟨b, 0, none⟩ : Addr).add k) v := by
  rw [add_mk, Nat.zero_add]; exact Go.Vc.rd_cell hb hv ho
theorem wrOk_fld (hb : w.heap[b]? = some (.cells ⟨l⟩ t (0, 0))) (hk : k < l.length) (ho : one v = true) : wrOk w ((⟨b, 0, none⟩ : Addr).add k) v := by
  rw [add_mk, Nat.zero_add]; exact wrOk_cell hb hk ho
theorem St.wr_fld (h : St E (blkL b t l :: L) w) (ho : one v = true) : St E (blkL b t (l.set k v) :: L) (wr w ((⟨b, 0, none⟩ : Addr).add k) v) := by
  rw [add_mk, Nat.zero_add]; exact h.wr_cell ho
end

/-! ### elements -/
section
variable {α : Type} {f : α → List Value} {sz : Nat}
theorem flat_len (hf : ∀ q, (f q).length = sz) : ∀ (qs : List α), (qs.flatMap f).length = qs.length * sz
  | [] => by simp
  | q :: r => by simp only [List.flatMap_cons, List.length_append, List.length_cons, hf, flat_len hf r, Nat.add_mul]; omega
theorem flat_get (hf : ∀ q, (f q).length = sz) : ∀ (qs : List α) (j k : Nat) (q : α), qs[j]? = some q → k < sz → (qs.flatMap f)[j * sz + k]? = (f q)[k]?
  | [], j, k, q, h, _ => by simp at h
  | p :: r, 0, k, q, h, hk => by
    simp at h; subst h
    rw [List.flatMap_cons, Nat.zero_mul, Nat.zero_add, List.getElem?_append_left (by rw [hf]; exact hk)]
  | p :: r, j + 1, k, q, h, hk => by
    rw [List.flatMap_cons, List.getElem?_append_right (by rw [hf, Nat.add_mul]; omega), hf, show (j + 1) * sz + k - sz = j * sz + k from by rw [Nat.add_mul]; omega]
    exact flat_get hf r j k q (by simpa using h) hk
variable {E w : World} {L : List Asrt} {a : Option Addr} {l c : Nat} {e : TypeId} {qs : List α}
theorem RdS.elem (h : RdS w a l sz (qs.flatMap f)) (hf : ∀ q, (f q).length = sz) {j : Nat} {q : α} (hj : qs[j]? = some q) (h0 : 0 < sz) : ∃ ad, a = some ad ∧ rd w (ad.add (j * sz)) (.agg ⟨f q⟩) ∧ ∀ k v, (f q)[k]? = some v → one v = true → rd w ((ad.add (j * sz)).add k) v := by
  have hl : qs.length = l := by have := h.1; rw [flat_len hf] at this; exact Nat.eq_of_mul_eq_mul_right h0 this
  have hjl : j < qs.length := (List.getElem?_eq_some_iff.1 hj).1
  have hk : ∀ k u, (f q)[k]? = some u → (qs.flatMap f)[j * sz + k]? = some u := fun k u hu => by
    rw [flat_get hf qs j k q hj (by have := (List.getElem?_eq_some_iff.1 hu).1; rwa [hf] at this)]; exact hu
  obtain ⟨ad, ha, hs, hc⟩ := h.cells (by omega)
  refine ⟨ad, ha, h.rd_agg ha (by omega) hk, fun k v hv ho => ?_⟩
  have := h.rd_cell ha (by omega) (hk k v hv) ho
  obtain ⟨g, off, spot⟩ := ad
  cases hs
  rw [add_mk, add_mk] at *
  rw [Nat.add_assoc]; exact this
theorem RdS.count (h : RdS w a l sz (qs.flatMap f)) (hf : ∀ q, (f q).length = sz) (h0 : 0 < sz) : qs.length = l := by
  have := h.1; rw [flat_len hf] at this; exact Nat.eq_of_mul_eq_mul_right h0 this
end

section
variable {E w : World} {L : List Asrt} {a : Option Addr} {l c sz : Nat} {e : TypeId} {xs : List Value}
end
section
variable {P : Program} {E w : World} {L : List Asrt} {t ty e : TypeId} {i : TypeInfo} {z : Value}
theorem wr_agg_of {w : World} {a : Addr} {vs : List Value} : wr w a (.agg ⟨vs⟩) = wrL w a vs 0 := rfl
end
end Go.Vc

/-
  Maps of ours.
-/
namespace Go.Vc
open Go

/-- What is asked of the keys: kv lays a key as a value of the key's type. -/
structure KeyLaw {κ : Type} [DecidableEq κ] (P : Program) (kt : TypeId) (d : TypeDesc) (kv : κ → Value) : Prop where
  und : P.underlying kt = some d
  eq : ∀ a b w, (Op.equal kt (kv a) (kv b)).run P w = .ok (decide (a = b)) w
  chk : ∀ a e w, (Instr.checkKey e 10000 kt (kv a)).run P w = .ok () w
  now : ∀ a b r, Instr.sameNow d (kv a) (kv b) = some r → r = decide (a = b)
  bits : ∀ a, Instr.sameBits 10000 (kv a) (kv a) = true

section
variable {κ ν : Type} [DecidableEq κ] {P : Program} {kt : TypeId} {d : TypeDesc} {kv : κ → Value} {vv : ν → Value}

def ents (kv : κ → Value) (vv : ν → Value) (es : List MapEntry) (m : List (κ × ν)) : Prop := es.map (fun e => (e.key, e.val)) = m.map fun p => (kv p.1, vv p.2)
/-- Each entry's stamp is below the clock, and its own. -/
def goodM (es : Array MapEntry) (clock : Nat) : Prop := (∀ x ∈ es.toList, x.born < clock) ∧ (es.toList.map (·.born)).Nodup
/-- The map at block b holds m. -/
def mapA (b : Nat) (kv : κ → Value) (vv : ν → Value) (m : List (κ × ν)) : Asrt := fun h => ∃ es clock, h b = some (true, .map es clock) ∧ ents kv vv es.toList m ∧ (m.map (·.1)).Nodup ∧ goodM es clock
def mget (m : List (κ × ν)) (a : κ) : Option ν := (m.find? fun p => decide (p.1 = a)).map (·.2)
def mset : List (κ × ν) → κ → ν → List (κ × ν)
  | [], a, v => [(a, v)]
  | p :: r, a, v => if p.1 = a then (a, v) :: r else p :: mset r a v
def mdel : List (κ × ν) → κ → List (κ × ν)
  | [], _ => []
  | p :: r, a => if p.1 = a then r else p :: mdel r a

theorem mget_cons (p : κ × ν) (r : List (κ × ν)) (a : κ) : mget (p :: r) a = if p.1 = a then some p.2 else mget r a := by
  unfold mget
  by_cases h : p.1 = a <;> simp [h]
theorem keys_mset : ∀ (m : List (κ × ν)) (a : κ) (v : ν), (mset m a v).map (·.1) = if a ∈ m.map (·.1) then m.map (·.1) else m.map (·.1) ++ [a]
  | [], a, v => by simp [mset]
  | p :: r, a, v => by
    unfold mset
    split
    · rename_i h; simp [h]
    · rename_i h
      have h' : ¬ a = p.1 := fun e => h e.symm
      simp only [List.map_cons, keys_mset r a v, List.mem_cons, h', false_or]
      split <;> simp
theorem nodup_mset {m : List (κ × ν)} (h : (m.map (·.1)).Nodup) (a : κ) (v : ν) : ((mset m a v).map (·.1)).Nodup := by
  rw [keys_mset]
  split
  · exact h
  · rename_i hn
    rw [List.nodup_append]
    exact ⟨h, by simp, fun x hx y hy => by simp at hy; subst hy; rintro rfl; exact hn hx⟩
theorem mdel_sub : ∀ (m : List (κ × ν)) (a : κ), (mdel m a).Sublist m
  | [], _ => .slnil
  | p :: r, a => by
    unfold mdel
    split
    · exact List.sublist_cons_self ..
    · exact (mdel_sub r a).cons_cons _
theorem nodup_mdel {m : List (κ × ν)} (h : (m.map (·.1)).Nodup) (a : κ) : ((mdel m a).map (·.1)).Nodup := h.sublist ((mdel_sub m a).map _)
theorem mget_none_of {m : List (κ × ν)} {a : κ} (h : a ∉ m.map (·.1)) : mget m a = none := by
  induction m with
  | nil => rfl
  | cons p r ih =>
    simp only [List.map_cons, List.mem_cons, not_or] at h
    rw [mget_cons, if_neg (fun e => h.1 e.symm), ih h.2]
/-! ### the model's search -/

theorem findNow_ok (K : KeyLaw P kt d kv) (a : κ) : ∀ (es : List MapEntry) (m : List (κ × ν)) (i : Nat), ents kv vv es m → ∀ r, Instr.findNow d (kv a) es i = some r →
    (r = none ∧ a ∉ m.map (·.1)) ∨ ∃ j v, r = some (i + j, vv v) ∧ (m[j]?).map (·.1) = some a ∧ mget m a = some v ∧ ∀ k, k < j → (m[k]?).map (·.1) ≠ some a
  | [], m, i, he, r, hr => by
    have : m = [] := by cases m with | nil => rfl | cons p q => simp [ents] at he
    subst this
    simp [Instr.findNow] at hr
    exact .inl ⟨hr.symm, by simp⟩
  | e :: es, m, i, he, r, hr => by
    cases m with
    | nil => simp [ents] at he
    | cons p m =>
      simp only [ents, List.map_cons, List.cons.injEq, Prod.mk.injEq] at he
      obtain ⟨⟨hk, hv⟩, he⟩ := he
      unfold Instr.findNow at hr
      rw [hk] at hr
      split at hr
      · rename_i hs
        have := K.now _ _ _ hs
        have hap : a = p.1 := by simpa using this.symm
        injection hr with hr
        exact .inr ⟨0, p.2, by rw [← hr, hv]; rfl, by simp [hap], by rw [mget_cons, if_pos hap.symm], fun k hk => by omega⟩
      · rename_i hs
        have := K.now _ _ _ hs
        have hap : ¬ a = p.1 := by simpa using this.symm
        rcases findNow_ok K a es m (i + 1) he r hr with ⟨h1, h2⟩ | ⟨j, v, h1, h2, h3, h4⟩
        · exact .inl ⟨h1, by simp [hap, h2]⟩
        · refine .inr ⟨j + 1, v, by rw [h1, Nat.add_assoc, Nat.add_comm 1 j], by simpa using h2, by rw [mget_cons, if_neg (fun e => hap e.symm), h3], fun k hk => ?_⟩
          cases k with
          | zero => simpa using fun e => hap e.symm
          | succ k => simpa using h4 k (by omega)
      · cases hr
theorem findAsking_ok (K : KeyLaw P kt d kv) (a : κ) (w : World) : ∀ (es : List MapEntry) (m : List (κ × ν)) (i : Nat), ents kv vv es m →
    ∃ r, (Instr.findAsking kt (kv a) es i).run P w = .ok r w ∧ ((r = none ∧ a ∉ m.map (·.1)) ∨ ∃ j v, r = some (i + j, vv v) ∧ (m[j]?).map (·.1) = some a ∧ mget m a = some v ∧ ∀ k, k < j → (m[k]?).map (·.1) ≠ some a)
  | [], m, i, he => by
    have : m = [] := by cases m with | nil => rfl | cons p q => simp [ents] at he
    subst this
    exact ⟨none, rfl, .inl ⟨rfl, by simp⟩⟩
  | e :: es, m, i, he => by
    cases m with
    | nil => simp [ents] at he
    | cons p m =>
      simp only [ents, List.map_cons, List.cons.injEq, Prod.mk.injEq] at he
      obtain ⟨⟨hk, hv⟩, he⟩ := he
      by_cases hap : a = p.1
      · refine ⟨some (i, vv p.2), ?_, .inr ⟨0, p.2, rfl, by simp [hap], by rw [mget_cons, if_pos hap.symm], fun k hk => by omega⟩⟩
        simp [Instr.findAsking, hk, K.eq, hap, hv]
      · obtain ⟨r, hr, hcase⟩ := findAsking_ok K a w es m (i + 1) he
        refine ⟨r, ?_, ?_⟩
        · simp [Instr.findAsking, hk, K.eq, hap, hr]
        · rcases hcase with ⟨h1, h2⟩ | ⟨j, v, h1, h2, h3, h4⟩
          · exact .inl ⟨h1, by simp [hap, h2]⟩
          · refine .inr ⟨j + 1, v, by rw [h1, Nat.add_assoc, Nat.add_comm 1 j], by simpa using h2, by rw [mget_cons, if_neg (fun e => hap e.symm), h3], fun k hk => ?_⟩
            cases k with
            | zero => simpa using fun e => hap e.symm
            | succ k => simpa using h4 k (by omega)
theorem findKey_ok (K : KeyLaw P kt d kv) (a : κ) (w : World) (es : List MapEntry) (m : List (κ × ν)) (he : ents kv vv es m) :
    ∃ r, (Instr.findKey kt (kv a) es).run P w = .ok r w ∧ ((r = none ∧ a ∉ m.map (·.1)) ∨ ∃ j v, r = some (j, vv v) ∧ (m[j]?).map (·.1) = some a ∧ mget m a = some v ∧ ∀ k, k < j → (m[k]?).map (·.1) ≠ some a) := by
  unfold Instr.findKey
  cases hf : Instr.findNow d (kv a) es 0 with
  | some r =>
    refine ⟨r, ?_, ?_⟩
    · simp [run_underlying_ K.und, hf]
    · have := findNow_ok K a es m 0 he r hf
      simpa using this
  | none =>
    obtain ⟨r, hr, hcase⟩ := findAsking_ok K a w es m 0 he
    refine ⟨r, ?_, by simpa using hcase⟩
    simp [run_underlying_ K.und, hf, hr]

/-! ### the operations -/
variable {E w : World} {L : List Asrt} {t et b : Nat} {m : List (κ × ν)}

omit [DecidableEq κ] in
theorem St.mapA_open (h : St E (mapA b kv vv m :: L) w) : ∃ es clock, St E (blk b (.map es clock) :: L) w ∧ ents kv vv es.toList m ∧ (m.map (·.1)).Nodup ∧ goodM es clock := by
  obtain ⟨en, x, ⟨h1, h2, dd, rfl, ⟨es, clock, hb, he, hn⟩, hL⟩, hl⟩ := h
  exact ⟨es, clock, ⟨en, _, ⟨h1, h2, dd, rfl, hb, hL⟩, hl⟩, he, hn⟩
omit [DecidableEq κ] in
theorem St.mapA_mk {es : Array MapEntry} {clock : Nat} (h : St E (blk b (.map es clock) :: L) w) (he : ents kv vv es.toList m) (hn : (m.map (·.1)).Nodup ∧ goodM es clock) : St E (mapA b kv vv m :: L) w :=
  h.mono fun _ hx => ⟨es, clock, hx, he, hn⟩
omit [DecidableEq κ] in
theorem St.mapA_new (h : St E L w) (kv : κ → Value) (vv : ν → Value) : St E (mapA w.heap.size kv vv [] :: L) (w.alloc (.map #[] 0)) :=
  (h.alloc _).mapA_mk (by simp [ents]) ⟨by simp, by simp [goodM]⟩

theorem run_getObj_map {es : Array MapEntry} {clock : Nat} (hb : w.heap[b]? = some (.map es clock)) : (getObj b).run P w = .ok (.map es clock) w := by
  simp [getObj, Sem.run, hb]
theorem run_setObj_map {es : Array MapEntry} {clock : Nat} (o : Obj) (hb : w.heap[b]? = some (.map es clock)) : (setObj b o).run P w = .ok () { w with heap := w.heap.setIfInBounds b o } := by
  simp [setObj, Sem.run, hb]
theorem St.setObj_ {es : Array MapEntry} {clock : Nat} (h : St E (blk b (.map es clock) :: L) w) (o : Obj) : St E (blk b o :: L) { w with heap := w.heap.setIfInBounds b o } := by
  have hb := h.at_blk
  have hlt : b < w.heap.size := (Array.getElem?_eq_some_iff.1 hb).1
  refine h.upd ⟨rfl, rfl, rfl⟩ (by simp [hlt]) fun c hc _ => ?_
  simp [Array.getElem?_setIfInBounds_ne (fun e => hc e.symm)]

theorem lookup_run (K : KeyLaw P kt d kv) (ht : P.underlying t = some (.map kt et)) {z : Value} (hz : tmpl P et = some z) (h : St E (mapA b kv vv m :: L) w) (a : κ) :
    (Instr.lookup t (.map (some b)) (kv a) false).run P w = .ok (match mget m a with | some v => vv v | none => z) w := by
  obtain ⟨es, clock, hs, he, hn, hg⟩ := h.mapA_open
  obtain ⟨r, hr, hcase⟩ := findKey_ok K a w es.toList m he
  rcases hcase with ⟨rfl, h2⟩ | ⟨j, v, rfl, _, h3, _⟩
  · rw [mget_none_of h2]
    simp [Instr.lookup, run_underlying_ ht, run_getObj_map hs.at_blk, K.chk, hr, run_zeroValue_ hz]
  · rw [h3]
    simp [Instr.lookup, run_underlying_ ht, run_getObj_map hs.at_blk, K.chk, hr]
theorem lookup_ok_run (K : KeyLaw P kt d kv) (ht : P.underlying t = some (.map kt et)) {z : Value} (hz : tmpl P et = some z) (h : St E (mapA b kv vv m :: L) w) (a : κ) :
    (Instr.lookup t (.map (some b)) (kv a) true).run P w = .ok (.tuple #[match mget m a with | some v => vv v | none => z, .bool (mget m a).isSome]) w := by
  obtain ⟨es, clock, hs, he, hn, hg⟩ := h.mapA_open
  obtain ⟨r, hr, hcase⟩ := findKey_ok K a w es.toList m he
  rcases hcase with ⟨rfl, h2⟩ | ⟨j, v, rfl, _, h3, _⟩
  · rw [mget_none_of h2]
    simp [Instr.lookup, run_underlying_ ht, run_getObj_map hs.at_blk, K.chk, hr, run_zeroValue_ hz]
  · rw [h3]
    simp [Instr.lookup, run_underlying_ ht, run_getObj_map hs.at_blk, K.chk, hr]

theorem mset_at : ∀ (m : List (κ × ν)) (a : κ) (v : ν) (j : Nat), (m[j]?).map (·.1) = some a → (∀ k, k < j → (m[k]?).map (·.1) ≠ some a) → mset m a v = m.modify j fun _ => (a, v)
  | [], _, _, _, h, _ => by simp at h
  | p :: r, a, v, 0, h, _ => by
    simp at h
    simp [mset, h]
  | p :: r, a, v, j + 1, h, hk => by
    have hp : ¬ p.1 = a := by simpa using hk 0 (by omega)
    simp only [mset, hp, if_false, List.modify_succ_cons]
    rw [mset_at r a v j (by simpa using h) fun k hkj => by simpa using hk (k + 1) (by omega)]
theorem mset_new : ∀ (m : List (κ × ν)) (a : κ) (v : ν), a ∉ m.map (·.1) → mset m a v = m ++ [(a, v)]
  | [], _, _, _ => rfl
  | p :: r, a, v, h => by
    simp only [List.map_cons, List.mem_cons, not_or] at h
    have h' : ¬ p.1 = a := fun e => h.1 e.symm
    simp [mset, h', mset_new r a v h.2]
omit [DecidableEq κ] in
theorem map_erase {α β : Type} (f : α → β) : ∀ (l : List α) (j : Nat), (l.map f).eraseIdx j = (l.eraseIdx j).map f
  | [], _ => by simp
  | _ :: _, 0 => by simp
  | a :: l, j + 1 => by simp [map_erase f l j]
theorem mdel_at : ∀ (m : List (κ × ν)) (a : κ) (j : Nat), (m[j]?).map (·.1) = some a → (∀ k, k < j → (m[k]?).map (·.1) ≠ some a) → mdel m a = m.eraseIdx j
  | [], _, _, h, _ => by simp at h
  | p :: r, a, 0, h, _ => by
    simp at h
    simp [mdel, h]
  | p :: r, a, j + 1, h, hk => by
    have hp : ¬ p.1 = a := by simpa using hk 0 (by omega)
    simp only [mdel, hp, if_false, List.eraseIdx_cons_succ]
    rw [mdel_at r a j (by simpa using h) fun k hkj => by simpa using hk (k + 1) (by omega)]
theorem mdel_none : ∀ (m : List (κ × ν)) (a : κ), a ∉ m.map (·.1) → mdel m a = m
  | [], _, _ => rfl
  | p :: r, a, h => by
    simp only [List.map_cons, List.mem_cons, not_or] at h
    have h' : ¬ p.1 = a := fun e => h.1 e.symm
    simp [mdel, h', mdel_none r a h.2]

theorem goodM_push {es : Array MapEntry} {clock : Nat} (h : goodM es clock) (k v : Value) : goodM (es.push { key := k, val := v, born := clock }) (clock + 1) := by
  refine ⟨fun x hx => ?_, ?_⟩
  · simp only [Array.toList_push, List.mem_append, List.mem_singleton] at hx
    rcases hx with hx | rfl
    · have := h.1 x hx; omega
    · exact Nat.lt_succ_self _
  · simp only [Array.toList_push, List.map_append, List.map_cons, List.map_nil]
    rw [List.nodup_append]
    refine ⟨h.2, by simp, fun a ha b hb => ?_⟩
    simp only [List.mem_singleton] at hb
    obtain ⟨x, hx, rfl⟩ := List.mem_map.1 ha
    have := h.1 x hx; omega
theorem goodM_modify {es : Array MapEntry} {clock : Nat} (h : goodM es clock) (j : Nat) (k v : Value) : goodM (es.modify j fun e => { e with key := k, val := v }) clock := by
  have e : (es.modify j fun e => { e with key := k, val := v }).toList.map (·.born) = es.toList.map (·.born) := by
    rw [Array.toList_modify]
    apply List.ext_getElem?
    intro i
    simp only [List.getElem?_map, List.getElem?_modify]
    split
    · cases es.toList[i]? <;> rfl
    · cases es.toList[i]? <;> rfl
  refine ⟨fun x hx => ?_, by rw [e]; exact h.2⟩
  have : x.born ∈ es.toList.map (·.born) := by rw [← e]; exact List.mem_map_of_mem hx
  obtain ⟨y, hy, hxy⟩ := List.mem_map.1 this
  rw [← hxy]; exact h.1 y hy
theorem goodM_erase {es : Array MapEntry} {clock : Nat} (h : goodM es clock) (j : Nat) : goodM (es.eraseIdxIfInBounds j) clock := by
  have e : (es.eraseIdxIfInBounds j).toList.Sublist es.toList := by rw [Array.toList_eraseIdxIfInBounds]; exact List.eraseIdx_sublist _ _
  exact ⟨fun x hx => h.1 x (e.subset hx), h.2.sublist (e.map _)⟩
theorem mapUpdate_run (K : KeyLaw P kt d kv) (ht : P.underlying t = some (.map kt et)) (h : St E (mapA b kv vv m :: L) w) (a : κ) (v : ν) :
    ∃ w', (Instr.mapUpdate t (.map (some b)) (kv a) (vv v)).run P w = .ok () w' ∧ St E (mapA b kv vv (mset m a v) :: L) w' := by
  obtain ⟨es, clock, hs, he, hn, hg⟩ := h.mapA_open
  obtain ⟨r, hr, hcase⟩ := findKey_ok K a w es.toList m he
  rcases hcase with ⟨rfl, h2⟩ | ⟨j, u, rfl, h3, _, h5⟩
  · refine ⟨_, ?_, (hs.setObj_ (.map (es.push { key := kv a, val := vv v, born := clock }) (clock + 1))).mapA_mk ?_ ⟨nodup_mset hn a v, goodM_push hg _ _⟩⟩
    · simp [Instr.mapUpdate, run_underlying_ ht, run_getObj_map hs.at_blk, K.chk, hr, run_setObj_map _ hs.at_blk]
    · rw [mset_new m a v h2]
      simp only [ents] at he
      simp [ents, he]
  · have hje : (es.toList[j]?).map (·.key) = some (kv a) := by
      have := congrArg (fun l => (l[j]?).map (·.1)) he
      simp only [List.getElem?_map, Option.map_map] at this
      rw [show ((fun x : Value × Value => x.1) ∘ fun e : MapEntry => (e.key, e.val)) = (·.key) from rfl] at this
      rw [this]
      have e2 : ((fun x : Value × Value => x.1) ∘ fun p : κ × ν => (kv p.1, vv p.2)) = kv ∘ (·.1) := rfl
      rw [e2, ← Option.map_map, h3]
      rfl
    have hkey : ((es[j]?).map (·.key)).getD (kv a) = kv a := by
      rw [← Array.getElem?_toList, hje]; rfl
    refine ⟨_, ?_, (hs.setObj_ (.map (es.modify j fun e => { e with key := kv a, val := vv v }) clock)).mapA_mk ?_ ⟨nodup_mset hn a v, goodM_modify hg _ _ _⟩⟩
    · simp only [Instr.mapUpdate, Sem.run_bind, run_underlying_ ht, Result.andThen_ok, run_getObj_map hs.at_blk, K.chk, hr, hkey]
      simp [Instr.keyThatStays, K.bits, run_setObj_map _ hs.at_blk]
    · rw [mset_at m a v j h3 h5]
      simp only [ents] at he
      simp only [ents, Array.toList_modify]
      apply List.ext_getElem?
      intro k
      have hk := congrArg (fun l => l[k]?) he
      simp only [List.getElem?_map] at hk
      simp only [List.getElem?_map, List.getElem?_modify]
      by_cases hkj : j = k
      · subst hkj
        simp only [if_true]
        have hl : (es.toList[j]?).isSome = (m[j]?).isSome := by
          have := congrArg Option.isSome hk
          simpa using this
        cases h1 : es.toList[j]? <;> cases h2 : m[j]? <;> simp [h1, h2] at hl ⊢
      · simp only [hkj, if_false]
        simpa using hk
theorem delete_run (K : KeyLaw P kt d kv) (ht : P.underlying t = some (.map kt et)) (h : St E (mapA b kv vv m :: L) w) (a : κ) (ats : Array TypeId) (ty : TypeId) (h0 : ats[0]? = some t) :
    ∃ w', (Builtin.delete_ ats ty #[.map (some b), kv a]).run P w = .ok (.tuple #[]) w' ∧ St E (mapA b kv vv (mdel m a) :: L) w' := by
  obtain ⟨es, clock, hs, he, hn, hg⟩ := h.mapA_open
  obtain ⟨r, hr, hcase⟩ := findKey_ok K a w es.toList m he
  rcases hcase with ⟨rfl, h2⟩ | ⟨j, u, rfl, h3, _, h5⟩
  · refine ⟨_, ?_, (hs.setObj_ (.map es clock)).mapA_mk ?_ ⟨nodup_mdel hn a, hg⟩⟩
    · simp [Builtin.delete_, h0, run_underlying_ ht, run_getObj_map hs.at_blk, K.chk, hr, run_setObj_map _ hs.at_blk]
    · rw [mdel_none m a h2]; exact he
  · refine ⟨_, ?_, (hs.setObj_ (.map (es.eraseIdxIfInBounds j) clock)).mapA_mk ?_ ⟨nodup_mdel hn a, goodM_erase hg _⟩⟩
    · simp [Builtin.delete_, h0, run_underlying_ ht, run_getObj_map hs.at_blk, K.chk, hr, run_setObj_map _ hs.at_blk]
    · rw [mdel_at m a j h3 h5]
      simp only [ents] at he ⊢
      rw [Array.toList_eraseIdxIfInBounds, ← map_erase, ← map_erase, he]
omit [DecidableEq κ] in
theorem lenMap_run (ht : P.underlying t = some (.map kt et)) (h : St E (mapA b kv vv m :: L) w) (ats : Array TypeId) (ty : TypeId) (h0 : ats[0]? = some t) :
    (Builtin.len_ ats ty #[.map (some b)]).run P w = .ok (.int .i64 m.length) w := by
  obtain ⟨es, clock, hs, he, hn, hg⟩ := h.mapA_open
  have : es.size = m.length := by
    have := congrArg List.length he
    simpa using this
  simp [Builtin.len_, h0, run_underlying_ ht, run_getObj_map hs.at_blk, goInt, this]
end

/-! ### keys -/

theorem equalIn_int {P : Program} {t : TypeId} {k : IntKind} (hu : P.underlying t = some (.int k)) (a b : Int) (d : Nat) (w : World) : (Op.equalIn (d + 1) t (.int k a) (.int k b)).run P w = .ok (a == b) w := by
  simp [Op.equalIn, run_underlying_ hu]
theorem equalIn_string {P : Program} {t : TypeId} (hu : P.underlying t = some .string) (a b : ByteArray) (d : Nat) (w : World) : (Op.equalIn (d + 1) t (.string a) (.string b)).run P w = .ok (a == b) w := by
  simp [Op.equalIn, run_underlying_ hu]
theorem checkKey_int {P : Program} {t : TypeId} {k : IntKind} (hu : P.underlying t = some (.int k)) (a : Int) (e : Bool) (d : Nat) (w : World) : (Instr.checkKey e (d + 1) t (.int k a)).run P w = .ok () w := by
  simp [Instr.checkKey, run_underlying_ hu]
theorem checkKey_string {P : Program} {t : TypeId} (hu : P.underlying t = some .string) (a : ByteArray) (e : Bool) (d : Nat) (w : World) : (Instr.checkKey e (d + 1) t (.string a)).run P w = .ok () w := by
  simp [Instr.checkKey, run_underlying_ hu]
theorem keyLaw_int {P : Program} {t : TypeId} {k : IntKind} (hu : P.underlying t = some (.int k)) : KeyLaw P t (.int k) (fun n : Int => Value.int k n) where
  und := hu
  eq a b w := by
    have := equalIn_int hu a b 9999 w
    simp only [Op.equal, Op.maxDepth]
    rw [this]
    simp [BEq.beq]
  chk a e w := checkKey_int hu a e 9999 w
  now a b r h := by simp [Instr.sameNow] at h; rw [← h]; simp [BEq.beq]
  bits a := by simp [Instr.sameBits]
theorem bytes_beq (a b : ByteArray) : (a == b) = decide (a = b) := by
  have h : (a == b) = (a.data == b.data) := rfl
  rw [h, Bool.eq_iff_iff]
  cases a; cases b
  simp
theorem keyLaw_string {P : Program} {t : TypeId} (hu : P.underlying t = some .string) : KeyLaw P t .string (fun s : ByteArray => Value.string s) where
  und := hu
  eq a b w := by
    have := equalIn_string hu a b 9999 w
    simp only [Op.equal, Op.maxDepth]
    rw [this, bytes_beq]
  chk a e w := checkKey_string hu a e 9999 w
  now a b r h := by simp only [Instr.sameNow, Option.some.injEq] at h; rw [← h, bytes_beq]
  bits a := by simp only [Instr.sameBits]; rw [bytes_beq]; simp
/-- A key of two whole numbers. -/
theorem keyLaw_int2 {P : Program} {t : TypeId} {f0 f1 : Field} {k : IntKind} (hu : P.underlying t = some (.struct #[f0, f1])) (h0 : P.underlying f0.type = some (.int k)) (h1 : P.underlying f1.type = some (.int k))
    (hn0 : f0.name ≠ "_") (hn1 : f1.name ≠ "_") (ho0 : f0.offset = 0) (ho1 : f1.offset = 1) (hst : P.stoodInHeld t = false) :
    KeyLaw P t (.struct #[f0, f1]) (fun p : Int × Int => Value.agg #[.int k p.1, .int k p.2]) where
  und := hu
  eq a b w := by
    have e0 : ∀ x y : Int, (Op.equalIn 9999 f0.type (.int k x) (.int k y)).run P w = .ok (x == y) w := fun x y => equalIn_int (P := P) h0 x y 9998 w
    have e1 : ∀ x y : Int, (Op.equalIn 9999 f1.type (.int k x) (.int k y)).run P w = .ok (x == y) w := fun x y => equalIn_int (P := P) h1 x y 9998 w
    have hag : ∀ f : Field, P.underlying f.type = some (.int k) → aggT P f.type = false := fun f hf => by simp [aggT, hf]
    have hp0 : ∀ x y : Value, (part f0.type #[x, y] f0.offset).run P w = .ok x w := fun x y => by
      simp [part, run_isAgg h0, hag f0 h0, ho0]
    have hp1 : ∀ x y : Value, (part f1.type #[x, y] f1.offset).run P w = .ok y w := fun x y => by
      simp [part, run_isAgg h1, hag f1 h1, ho1]
    have key : (Op.equalIn (9999 + 1) t (.agg #[.int k a.1, .int k a.2]) (.agg #[.int k b.1, .int k b.2])).run P w = .ok (decide (a = b)) w := by
      unfold Op.equalIn
      simp only [Sem.run_bind, run_underlying_ hu, Result.andThen_ok, program, Sem.run, hst]
      by_cases ha : a.1 = b.1
      · by_cases hb : a.2 = b.2
        · have : a = b := Prod.ext ha hb
          subst this
          simp [hn0, hn1, hp0, hp1, e0, e1]
        · have : ¬ a = b := fun e => hb (by rw [e])
          have hb' : (a.2 == b.2) = false := by simpa using hb
          simp [hn0, hn1, hp0, hp1, e0, e1, ha, hb', this]
      · have : ¬ a = b := fun e => ha (by rw [e])
        have ha' : (a.1 == b.1) = false := by simpa using ha
        simp [hn0, hp0, e0, ha', this]
    exact key
  chk a e w := by
    have c0 : (Instr.checkKey e 9999 f0.type (.int k a.1)).run P w = .ok () w := checkKey_int (P := P) h0 a.1 e 9998 w
    have c1 : (Instr.checkKey e 9999 f1.type (.int k a.2)).run P w = .ok () w := checkKey_int (P := P) h1 a.2 e 9998 w
    have hag : ∀ f : Field, P.underlying f.type = some (.int k) → aggT P f.type = false := fun f hf => by simp [aggT, hf]
    have hp0 : ∀ x y : Value, (part f0.type #[x, y] f0.offset).run P w = .ok x w := fun x y => by
      simp [part, run_isAgg h0, hag f0 h0, ho0]
    have hp1 : ∀ x y : Value, (part f1.type #[x, y] f1.offset).run P w = .ok y w := fun x y => by
      simp [part, run_isAgg h1, hag f1 h1, ho1]
    have key : (Instr.checkKey e (9999 + 1) t (.agg #[.int k a.1, .int k a.2])).run P w = .ok () w := by
      unfold Instr.checkKey
      simp only [Sem.run_bind, run_underlying_ hu, Result.andThen_ok]
      simp [hn0, hn1, hp0, hp1, c0, c1]
    exact key
  now a b r h := by simp [Instr.sameNow] at h
  bits a := by simp [Instr.sameBits]
/-- A key of two texts. -/
theorem keyLaw_str2 {P : Program} {t : TypeId} {f0 f1 : Field} (hu : P.underlying t = some (.struct #[f0, f1])) (h0 : P.underlying f0.type = some .string) (h1 : P.underlying f1.type = some .string)
    (hn0 : f0.name ≠ "_") (hn1 : f1.name ≠ "_") (ho0 : f0.offset = 0) (ho1 : f1.offset = 1) (hst : P.stoodInHeld t = false) :
    KeyLaw P t (.struct #[f0, f1]) (fun p : ByteArray × ByteArray => Value.agg #[.string p.1, .string p.2]) where
  und := hu
  eq a b w := by
    have e0 : ∀ x y : ByteArray, (Op.equalIn 9999 f0.type (.string x) (.string y)).run P w = .ok (x == y) w := fun x y => equalIn_string (P := P) h0 x y 9998 w
    have e1 : ∀ x y : ByteArray, (Op.equalIn 9999 f1.type (.string x) (.string y)).run P w = .ok (x == y) w := fun x y => equalIn_string (P := P) h1 x y 9998 w
    have hag : ∀ f : Field, P.underlying f.type = some .string → aggT P f.type = false := fun f hf => by simp [aggT, hf]
    have hp0 : ∀ x y : Value, (part f0.type #[x, y] f0.offset).run P w = .ok x w := fun x y => by
      simp [part, run_isAgg h0, hag f0 h0, ho0]
    have hp1 : ∀ x y : Value, (part f1.type #[x, y] f1.offset).run P w = .ok y w := fun x y => by
      simp [part, run_isAgg h1, hag f1 h1, ho1]
    have key : (Op.equalIn (9999 + 1) t (.agg #[.string a.1, .string a.2]) (.agg #[.string b.1, .string b.2])).run P w = .ok (decide (a = b)) w := by
      unfold Op.equalIn
      simp only [Sem.run_bind, run_underlying_ hu, Result.andThen_ok, program, Sem.run, hst]
      by_cases ha : a.1 = b.1
      · by_cases hb : a.2 = b.2
        · have : a = b := Prod.ext ha hb
          subst this
          simp [hn0, hn1, hp0, hp1, e0, e1, bytes_beq]
        · have : ¬ a = b := fun e => hb (by rw [e])
          have hb' : (a.2 == b.2) = false := by rw [bytes_beq]; simpa using hb
          simp [hn0, hn1, hp0, hp1, e0, e1, ha, hb', this]
      · have : ¬ a = b := fun e => ha (by rw [e])
        have ha' : (a.1 == b.1) = false := by rw [bytes_beq]; simpa using ha
        simp [hn0, hp0, e0, ha', this]
    exact key
  chk a e w := by
    have c0 : (Instr.checkKey e 9999 f0.type (.string a.1)).run P w = .ok () w := checkKey_string (P := P) h0 a.1 e 9998 w
    have c1 : (Instr.checkKey e 9999 f1.type (.string a.2)).run P w = .ok () w := checkKey_string (P := P) h1 a.2 e 9998 w
    have hag : ∀ f : Field, P.underlying f.type = some .string → aggT P f.type = false := fun f hf => by simp [aggT, hf]
    have hp0 : ∀ x y : Value, (part f0.type #[x, y] f0.offset).run P w = .ok x w := fun x y => by
      simp [part, run_isAgg h0, hag f0 h0, ho0]
    have hp1 : ∀ x y : Value, (part f1.type #[x, y] f1.offset).run P w = .ok y w := fun x y => by
      simp [part, run_isAgg h1, hag f1 h1, ho1]
    have key : (Instr.checkKey e (9999 + 1) t (.agg #[.string a.1, .string a.2])).run P w = .ok () w := by
      unfold Instr.checkKey
      simp only [Sem.run_bind, run_underlying_ hu, Result.andThen_ok]
      simp [hn0, hn1, hp0, hp1, c0, c1]
    exact key
  now a b r h := by simp [Instr.sameNow] at h
  bits a := by simp [Instr.sameBits, bytes_beq]
end Go.Vc

/-
  A law's frame: from the world as it was to the world as it came out; bytes and strings.
-/
namespace Go.Vc
open Go Go.RowKit

theorem St.start (w : World) : St w [old w] w := by
  refine ⟨.refl w, fun b => (w.heap[b]?).map fun o => (false, o), ⟨fun b => (w.heap[b]?).map fun o => (false, o), fun _ => none, fun _ => .inr (.inl rfl), ?_, fun b o hb => ⟨false, by simp [hb]⟩, trivial⟩, fun b f o hb => ?_⟩
  · funext b
    unfold un
    cases hw : w.heap[b]? <;> simp [hw]
  · cases hw : w.heap[b]? <;> simp [hw] at hb
    rw [← hb.2]
theorem St.below {w w' : World} {L : List Asrt} (h : St w (old w :: L) w') : Below w.heap.size w w' := by
  have hat : ∀ k, k < w.heap.size → w'.heap[k]? = w.heap[k]? := fun k hk => by
    rw [Array.getElem?_eq_getElem hk]
    exact h.at_old (Array.getElem?_eq_getElem hk)
  refine ⟨h.1.os, h.1.tape, h.1.output, ?_, hat⟩
  rcases Nat.eq_zero_or_pos w.heap.size with h0 | h0
  · omega
  · have h1 := h.at_old (Array.getElem?_eq_getElem (show w.heap.size - 1 < w.heap.size by omega))
    have := (Array.getElem?_eq_some_iff.1 h1).1
    omega

section
variable {P : Program} {E w : World} {L : List Asrt} {t e g : TypeId}
theorem foldl_push (bs : List UInt8) : ∀ (acc : ByteArray), (bs.map fun b => (b.toNat : Int)).foldl (fun (r : ByteArray) (n : Int) => r.push (UInt8.ofNat n.toNat)) acc = ⟨acc.data ++ bs.toArray⟩ := by
  induction bs with
  | nil => intro acc; simp
  | cons b r ih =>
    intro acc
    simp only [List.map_cons, List.foldl_cons, ih]
    congr 1
    simp [ByteArray.push]
/-- 'string(x)' of bytes. -/
theorem convert_string (ht : P.underlying t = some (.slice e)) (he : P.underlying e = some (.int .u8)) (hs : P.underlying g = some .string) {a : Option Addr} {l c : Nat} {bs : List UInt8} (h : RdS w a l 1 (bs.map fun b => .int .u8 (b.toNat : Int))) :
    (convert t g (.slice a l c)).run P w = .ok (.string ⟨bs.toArray⟩) w := by
  have hlen : bs.length = l := by have := h.1; simpa using this
  cases a with
  | none =>
    have hl0 : l = 0 := by
      rcases Nat.eq_zero_or_pos l with h0 | h0
      · exact h0
      · obtain ⟨ad, ha, _⟩ := h.cells h0; cases ha
    subst hl0
    have hbs : bs = [] := List.eq_nil_of_length_eq_zero hlen
    subst hbs
    simp [convert, run_underlying_ ht, run_underlying_ he, run_underlying_ hs, Conv.bytesToString]
    rfl
  | some ad =>
    have hld : (loadCells ad l).run P w = .ok ((bs.map fun b => (b.toNat : Int)).map (Value.int .u8)).toArray w := by
      have h1 : (bs.map fun b => Value.int .u8 (b.toNat : Int)).length = l := by simpa using hlen
      rw [List.map_map, ← h1]
      refine run_loadCells_list w ad _ fun j v hv => ?_
      rcases Nat.eq_zero_or_pos l with h0 | h0
      · simp [h0] at h1; simp [h1] at hv
      · obtain ⟨ad', ha', _, hcc⟩ := h.cells h0
        injection ha' with ha'; subst ha'
        exact hcc j v hv
    have := run_bytesToString w ad l c (bs.map fun b => (b.toNat : Int)) hld
    rw [foldl_push] at this
    simp [convert, run_underlying_ ht, run_underlying_ he, run_underlying_ hs, this]
theorem toList_mk (bs : List UInt8) : (⟨bs.toArray⟩ : ByteArray).toList = bs := by
  rw [ByteArray.toList_eq]
end

/-! ### what came in: slices -/
section
variable {H : Type} {enc : TypeId × Value → H} {P : Program} {W : World} {t e : TypeId} {a : Option Addr} {l c sz : Nat}
/-- A slice that came in, its elements by whatever reads them. -/
theorem open_elems {β : Type} {f : β → List Value} (good : β → Prop) (hf : ∀ b, (f b).length = sz) (h0 : 0 < sz) (ht : P.underlying t = some (.slice e)) (hc : P.cellsOf e = sz)
    (he : ∀ n cs x, DataW.trod enc P W 0 (fun _ => true) true n e cs = some x → ∃ b, cs = f b ∧ good b)
    {fuel : Nat} {x : DataW H × List MemPlace} (h : DataW.trod enc P W 0 (fun _ => true) true fuel t [.slice a l c] = some x) :
    ∃ bs : List β, RdS W a l sz (bs.flatMap f) ∧ l ≤ maxLen ∧ ∀ b ∈ bs, good b := by
  rcases DataW.trod_slice ht h with ⟨hcs, _⟩ | ⟨ad, len, cap, elems, rest, n, _, hcs, _, _, hl, hm, hlen, hel, _⟩
  · simp at hcs
    obtain ⟨rfl, rfl, rfl⟩ := hcs
    exact ⟨[], RdS.nil _ _, Nat.zero_le _, fun b hb => by simp at hb⟩
  · simp at hcs
    obtain ⟨rfl, rfl, rfl⟩ := hcs
    rw [hc] at hel
    have one : ∀ i, i < l → ∃ b, good b ∧ ∀ j u, (f b)[j]? = some u → W.cell? ((ad.add (i * sz)).add j) = some u := by
      intro i hi
      have h1 := hel i hi
      rw [List.getElem?_eq_getElem (by omega), Option.bind_eq_some_iff] at h1
      obtain ⟨cs, h2, h3⟩ := h1
      obtain ⟨b, rfl, hg⟩ := he _ _ _ h3
      refine ⟨b, hg, fun j u hu => ?_⟩
      unfold World.cells? at h2
      rw [if_pos (Nat.zero_le _)] at h2
      have hj : j < sz := by rw [← hf b]; exact (List.getElem?_eq_some_iff.1 hu).1
      have := mapM_some_get h2 j j (by simp [hj])
      rw [this, hu]
    have all : ∀ m, m ≤ l → ∃ bs : List β, bs.length = m ∧ (∀ b ∈ bs, good b) ∧ ∀ i b, bs[i]? = some b → ∀ j u, (f b)[j]? = some u → W.cell? ((ad.add (i * sz)).add j) = some u := by
      intro m
      induction m with
      | zero => intro _; exact ⟨[], rfl, fun b hb => by simp at hb, fun i b hb => by simp at hb⟩
      | succ m ih =>
        intro hml
        obtain ⟨bs, h1, h2, h3⟩ := ih (by omega)
        obtain ⟨b, g1, g2⟩ := one m (by omega)
        refine ⟨bs ++ [b], by simp [h1], fun x hx => ?_, fun i x hx => ?_⟩
        · rcases List.mem_append.1 hx with hx | hx
          · exact h2 x hx
          · simp at hx; subst hx; exact g1
        · rw [List.getElem?_append] at hx
          split at hx
          · exact h3 i x hx
          · have hi : i = m := by
              have := (List.getElem?_eq_some_iff.1 hx).1
              simp at this; omega
            subst hi
            rw [h1, Nat.sub_self] at hx
            simp at hx; subst hx; exact g2
    obtain ⟨bs, h1, h2, h3⟩ := all l (Nat.le_refl _)
    refine ⟨bs, ?_, by omega, h2⟩
    rcases Nat.eq_zero_or_pos l with hl0 | hl0
    · subst hl0
      have : bs = [] := List.eq_nil_of_length_eq_zero h1
      subst this
      exact ⟨by simp, .inl rfl⟩
    · -- the first cell tells the address's make
      obtain ⟨g, off, spot⟩ := ad
      have hb0 : bs[0]? = some bs[0] := List.getElem?_eq_getElem (by omega)
      have hc0 := h3 0 bs[0] hb0 0 ((f bs[0])[0]'(by rw [hf]; exact h0)) (List.getElem?_eq_getElem _)
      have hspot : spot = none := by simpa [Addr.add] using World.cell?_spot hc0
      subst hspot
      refine ⟨by rw [flat_len hf, h1], .inr ⟨g, off, rfl, fun i u hu => ?_⟩⟩
      have hi : i < l * sz := by have := (List.getElem?_eq_some_iff.1 hu).1; rwa [flat_len hf, h1] at this
      have hq : i / sz < bs.length := by rw [h1]; exact Nat.div_lt_of_lt_mul (by rw [Nat.mul_comm]; exact hi)
      have hm2 : i % sz < sz := Nat.mod_lt _ h0
      have e1 : i / sz * sz + i % sz = i := by rw [Nat.mul_comm]; exact Nat.div_add_mod i sz
      have e2 := flat_get hf bs (i / sz) (i % sz) bs[i / sz] (List.getElem?_eq_getElem hq) hm2
      rw [e1, hu] at e2
      have := h3 (i / sz) bs[i / sz] (List.getElem?_eq_getElem hq) (i % sz) u e2.symm
      rw [add_mk, add_mk, Nat.add_assoc, e1] at this
      exact this
theorem open_bytes (ht : P.underlying t = some (.slice e)) (he : P.underlying e = some (.int .u8)) (hc : P.cellsOf e = 1)
    {fuel : Nat} {x : DataW H × List MemPlace} (h : DataW.trod enc P W 0 (fun _ => true) true fuel t [.slice a l c] = some x) :
    ∃ bs : List UInt8, RdS W a l 1 (bs.map fun b => .int .u8 (b.toNat : Int)) ∧ l ≤ maxLen := by
  obtain ⟨bs, h1, h2, _⟩ := open_elems (β := UInt8) (f := fun b => [.int .u8 (b.toNat : Int)]) (fun _ => True) (fun _ => rfl) (by decide) ht hc (fun n cs x hx => by
    obtain ⟨k, rfl, _, hw⟩ := DataW.trod_int he hx
    refine ⟨UInt8.ofNat k.toNat, ?_, trivial⟩
    simp [Lit.wf, IntKind.min, IntKind.max, IntKind.signed, IntKind.bits] at hw
    congr 2
    simp
    omega) h
  refine ⟨bs, ?_, h2⟩
  have e : ∀ (bs : List UInt8), bs.flatMap (fun b => [Value.int .u8 (b.toNat : Int)]) = bs.map fun b => .int .u8 (b.toNat : Int) := by
    intro bs; induction bs with
    | nil => rfl
    | cons b r ih => simp [ih]
  rw [← e]; exact h1
end
end Go.Vc

/-
  What is known of memory for good (a growing map of blocks), beside what is owned; selections out of what is owned.
-/
namespace Go.Vc
open Go Go.RowKit

/-! ### selections -/
def nth : List Asrt → Nat → Asrt
  | [], _ => fun _ => True
  | A :: _, 0 => A
  | _ :: L, n + 1 => nth L n
def behindN : Nat → List Asrt → List Asrt
  | 0, L => L
  | n + 1, L => behindN n L.tail
abbrev behind (L : List Asrt) (n : Nat) : List Asrt := behindN n L
def pick (L : List Asrt) (n : Nat) : List Nat → List Asrt
  | [] => behind L n
  | i :: r => nth L i :: pick L n r
def pickOk (n : Nat) : List Nat → Bool
  | [] => true
  | i :: r => decide (i < n) && !r.contains i && pickOk n r
section
variable {E w : World} {L L' : List Asrt}
theorem St.dropN {L1 L2 : List Asrt} (h : St E (L1 ++ L2) w) : St E L2 w := by
  induction L1 with
  | nil => exact h
  | cons A r ih => exact ih h.drop
theorem St.sub (h : St E L w) (hs : L'.Sublist L) : St E L' w := by
  obtain ⟨l, hp⟩ := hs.exists_perm_append
  exact (h.perm (hp.trans List.perm_append_comm)).dropN
theorem nth_eq : ∀ (L : List Asrt) (i : Nat), i < L.length → L[i]? = some (nth L i)
  | [], _, h => by simp at h
  | A :: L, 0, _ => rfl
  | A :: L, i + 1, h => by simpa [nth] using nth_eq L i (by simpa using h)
theorem behind_eq : ∀ (L : List Asrt) (n : Nat), behind L n = L.drop n
  | L, 0 => by simp [behind, behindN]
  | [], n + 1 => by simpa [behind, behindN] using behind_eq [] n
  | A :: L, n + 1 => by simpa [behind, behindN] using behind_eq L n
theorem pick_eq (L : List Asrt) (n : Nat) : ∀ is : List Nat, pick L n is = is.map (nth L) ++ behind L n
  | [] => rfl
  | i :: r => by simp [pick, pick_eq L n r]
theorem pickOk_lt {n : Nat} : ∀ {is : List Nat}, pickOk n is = true → ∀ i ∈ is, i < n
  | [], _, _, h => by cases h
  | i :: r, h, j, hj => by
    simp only [pickOk, Bool.and_eq_true, decide_eq_true_eq] at h
    rcases List.mem_cons.1 hj with rfl | hj
    · exact h.1.1
    · exact pickOk_lt h.2 j hj
theorem pickOk_nodup {n : Nat} : ∀ {is : List Nat}, pickOk n is = true → is.Nodup
  | [], _ => List.nodup_nil
  | i :: r, h => by
    simp only [pickOk, Bool.and_eq_true, Bool.not_eq_true', List.contains_eq_mem, decide_eq_false_iff_not] at h
    exact List.nodup_cons.2 ⟨h.1.2, pickOk_nodup h.2⟩
theorem range_nth : ∀ (L : List Asrt) (n : Nat), n ≤ L.length → (List.range n).map (nth L) = L.take n := by
  intro L n hn
  apply List.ext_getElem?
  intro i
  simp only [List.getElem?_map, List.getElem?_take]
  by_cases hi : i < n
  · rw [List.getElem?_range hi, if_pos hi, nth_eq L i (by omega)]; rfl
  · rw [if_neg hi, List.getElem?_eq_none (by simp; omega)]; rfl
/-- Those of the first n that are named, in this order; the others of the n are let go. -/
theorem St.sel (h : St E L w) (n : Nat) (is : List Nat) (hn : n ≤ L.length := by first | simp | exact Nat.le_of_ble_eq_true rfl) (hk : pickOk n is = true := by decide) : St E (pick L n is) w := by
  rw [pick_eq, behind_eq]
  have hp : (is ++ (List.range n).filter fun i => !is.contains i).Perm (List.range n) := by
    refine (List.Perm.append_right _ ?_).trans (List.filter_append_perm (fun i => is.contains i) (List.range n))
    refine (List.perm_ext_iff_of_nodup (pickOk_nodup hk) (List.nodup_range.filter _)).2 fun a => ?_
    simp only [List.mem_filter, List.mem_range, List.contains_eq_mem, decide_eq_true_eq]
    exact ⟨fun ha => ⟨pickOk_lt hk a ha, ha⟩, fun ha => ha.2⟩
  have hp2 := hp.map (nth L)
  rw [range_nth L n hn, List.map_append] at hp2
  have h2 : St E (L.take n ++ L.drop n) w := by rwa [List.take_append_drop]
  have h3 := h2.perm (hp2.symm.append_right (L.drop n))
  exact h3.sub ((List.sublist_append_left _ _).append_right _)
end

/-! ### where it stands -/
section
variable {α : Type} {x : α} {l : List α}
theorem at0 : x ∈ x :: l := List.mem_cons_self
theorem at1 {a0 : α} : x ∈ a0 :: x :: l := List.mem_cons_of_mem _ at0
theorem at2 {a0 a1 : α} : x ∈ a0 :: a1 :: x :: l := List.mem_cons_of_mem _ at1
theorem at3 {a0 a1 a2 : α} : x ∈ a0 :: a1 :: a2 :: x :: l := List.mem_cons_of_mem _ at2
theorem at4 {a0 a1 a2 a3 : α} : x ∈ a0 :: a1 :: a2 :: a3 :: x :: l := List.mem_cons_of_mem _ at3
theorem at5 {a0 a1 a2 a3 a4 : α} : x ∈ a0 :: a1 :: a2 :: a3 :: a4 :: x :: l := List.mem_cons_of_mem _ at4
theorem at6 {a0 a1 a2 a3 a4 a5 : α} : x ∈ a0 :: a1 :: a2 :: a3 :: a4 :: a5 :: x :: l := List.mem_cons_of_mem _ at5
theorem at7 {a0 a1 a2 a3 a4 a5 a6 : α} : x ∈ a0 :: a1 :: a2 :: a3 :: a4 :: a5 :: a6 :: x :: l := List.mem_cons_of_mem _ at6
theorem at8 {a0 a1 a2 a3 a4 a5 a6 a7 : α} : x ∈ a0 :: a1 :: a2 :: a3 :: a4 :: a5 :: a6 :: a7 :: x :: l := List.mem_cons_of_mem _ at7
end
/-! ### what is known for good -/
abbrev Fz := Nat → Option Obj
def kn (F : Fz) : Asrt := fun h => ∀ b o, F b = some o → ∃ f, h b = some (f, o)
def Fz.le (F G : Fz) : Prop := ∀ b o, F b = some o → G b = some o
def Knows (F : Fz) (w : World) : Prop := ∀ b o, F b = some o → w.heap[b]? = some o
def Fz.put (F : Fz) (b : Nat) (o : Obj) : Fz := fun c => if c = b then some o else F c
def RdF (F : Fz) (a : Option Addr) (l sz : Nat) (xs : List Value) : Prop := ∀ w, Knows F w → RdS w a l sz xs
section
variable {E w : World} {L : List Asrt} {F G H : Fz} {a : Option Addr} {l c sz : Nat} {e : TypeId} {xs : List Value}
theorem Fz.le_refl (F : Fz) : Fz.le F F := fun _ _ h => h
theorem Fz.le_trans (h : Fz.le F G) (k : Fz.le G H) : Fz.le F H := fun b o x => k b o (h b o x)
theorem Knows.mono (h : Knows G w) (k : Fz.le F G) : Knows F w := fun b o x => h b o (k b o x)
theorem RdF.mono (h : RdF F a l sz xs) (k : Fz.le F G) : RdF G a l sz xs := fun w hw => h w (hw.mono k)
theorem St.knows (h : St E (kn F :: L) w) : Knows F w := fun b o hb => by
  obtain ⟨_, x, ⟨h1, h2, d, rfl, hA, hL⟩, hl⟩ := h
  obtain ⟨f, hf⟩ := hA b o hb
  exact hl b f o (by unfold un; rw [hf])
theorem St.know (h : St E L w) (hm : kn F ∈ L) : Knows F w := by
  obtain ⟨l1, l2, rfl⟩ := List.append_of_mem hm
  exact (St.front l1 h).knows
theorem RdF.at (h : RdF F a l sz xs) (hs : St E L w) (hm : kn F ∈ L := by simp) : RdS w a l sz xs := h w (hs.know hm)
theorem RdF.nil (F : Fz) (a : Option Addr) : RdF F a 0 sz [] := fun w _ => RdS.nil w a
theorem RdF.len (h : RdF F a l sz xs) (hs : St E L w) (hm : kn F ∈ L := by simp) : xs.length = l * sz := (h.at hs hm).1
theorem RdF.count {α : Type} {f : α → List Value} {qs : List α} (h : RdF F a l sz (qs.flatMap f)) (hf : ∀ q, (f q).length = sz) (h0 : 0 < sz) (hs : St E L w) (hm : kn F ∈ L := by simp) : qs.length = l := (h.at hs hm).count hf h0
theorem RdF.of_world {W : World} (h : RdS W a l sz xs) : RdF (fun b => W.heap[b]?) a l sz xs := fun w hw => by
  refine h.grow fun b hb => ?_
  rw [Array.getElem?_eq_getElem hb]
  exact hw b _ (Array.getElem?_eq_getElem hb)
theorem St.start_kn (w : World) : St w [kn fun b => w.heap[b]?] w := St.start w
theorem St.below_kn {w w' : World} (h : St w (kn F :: L) w') (k : Fz.le (fun b => w.heap[b]?) F) : Below w.heap.size w w' :=
  St.below (L := []) (St.sub (h.mono (B := old w) fun x hx b o hb => hx b o (k b o hb)) (List.Sublist.cons_cons _ (List.nil_sublist _)))
/-- A block of ours is given up: it stays for good. -/
theorem St.learn {b : Nat} {o : Obj} (h : St E (blk b o :: kn F :: L) w) : Fz.le F (F.put b o) ∧ St E (kn (F.put b o) :: L) w := by
  obtain ⟨en, x, ⟨h1, h23, d, rfl, hA, h2, h3, d2, rfl, hB, hL⟩, hl⟩ := h
  have hA' : h1 b = some (true, o) := hA
  refine ⟨fun c u hc => ?_, en, un (un h1 h2) h3, ⟨un h1 h2, h3, ?_, rfl, ?_, hL⟩, ?_⟩
  · unfold Fz.put
    split
    · rename_i e
      subst e
      obtain ⟨f, hf⟩ := hB c u hc
      rcases d c with h' | h' | ⟨o', h', _⟩
      · rw [hA'] at h'; cases h'
      · simp [un, hf] at h'
      · rw [hA'] at h'; cases h'
    · exact hc
  · obtain ⟨d12, d13⟩ := dj_un d d2
    exact dj_un_left d13 d2
  · intro c u hc
    unfold Fz.put at hc
    split at hc
    · rename_i e
      subst e
      injection hc with hc
      subst hc
      exact ⟨true, by simp [un, hA']⟩
    · obtain ⟨f, hf⟩ := hB c u hc
      cases h1c : h1 c with
      | none => exact ⟨f, by simp [un, h1c, hf]⟩
      | some y =>
        rcases d c with h' | h' | ⟨o', h', h''⟩
        · rw [h'] at h1c; cases h1c
        · simp [un, hf] at h'
        · simp [un, hf] at h''
          exact ⟨false, by simp [un, h', h''.2]⟩
  · rw [un_assoc]; exact hl
theorem St.freezeS (h : St E (ownS a l c e sz xs :: kn F :: L) w) : ∃ G, Fz.le F G ∧ St E (kn G :: L) w ∧ RdF G a l sz xs := by
  have hf := h.ownS_facts
  rcases h.ownS_open with ⟨rfl, rfl, rfl, rfl⟩ | ⟨g, rest, rfl, hr, hs⟩
  · exact ⟨F, Fz.le_refl F, h.drop, RdF.nil F none⟩
  · obtain ⟨hle, h2⟩ := hs.learn
    refine ⟨_, hle, h2, fun w' hw => ⟨hf.1, .inr ⟨g, 0, rfl, fun i u hu => ?_⟩⟩⟩
    have hb := hw g (.cells ⟨xs ++ rest⟩ e (0, 0)) (by simp [Fz.put])
    rw [Nat.zero_add, cell_of hb, List.getElem?_append_left (List.getElem?_eq_some_iff.1 hu).1, hu]
theorem RdF.sub (h : RdF F a l sz xs) {lo hi : Nat} (h1 : lo ≤ hi) (h2 : hi ≤ l) (c0 : Nat) (hc : hi ≤ c0) :
    RdF F (if c0 = lo then a else a.map fun x => x.add (lo * sz)) (hi - lo) sz ((xs.drop (lo * sz)).take ((hi - lo) * sz)) := fun w hw => (h w hw).sub h1 h2 c0 hc
end

/-- Up to l, one by one. -/
theorem up_to (l : Nat) {Q : Nat → Prop} (h : ∀ j, j ≤ l → (j < l → Q (j + 1)) → Q j) : Q 0 := by
  have go : ∀ n j, n = l - j → j ≤ l → Q j := by
    intro n
    induction n with
    | zero => intro j hn hj; exact h j hj fun hl => absurd hl (by omega)
    | succ n ih => intro j hn hj; exact h j hj fun hl => ih (j + 1) (by omega) (by omega)
  exact go l 0 (by omega) (by omega)
theorem wrap_id {x : Int} (h1 : -9223372036854775808 ≤ x) (h2 : x ≤ 9223372036854775807) : IntKind.wrap .i64 x = x := by
  unfold IntKind.wrap
  simp [IntKind.signed, IntKind.bits]
  omega
end Go.Vc

/-
  A range over a map of ours, step by step.
-/
namespace Go.Vc
open Go Go.RowKit

section
variable {κ ν : Type} [DecidableEq κ] {P : Program} {kt et t : TypeId} {kv : κ → Value} {vv : ν → Value} {E w : World} {L : List Asrt} {m rest : List (κ × ν)} {b r : Nat}

structure IterOk (kv : κ → Value) (vv : ν → Value) (m rest : List (κ × ν)) (es : Array MapEntry) (clock since : Nat) (seen : Array Nat) (c0 : Nat) : Prop where
  he : ents kv vv es.toList m
  hn : (m.map (·.1)).Nodup
  hg : goodM es clock
  old : ∀ x ∈ es.toList, x.born < since
  s0 : since ≤ c0
  s1 : since ≤ clock
  left : ents kv vv (es.toList.filter fun e => !seen.contains e.born) rest
/-- The iterator in block r over the map in block b, which holds m: these are still to come. -/
def iterA (r b : Nat) (kv : κ → Value) (vv : ν → Value) (m rest : List (κ × ν)) : Asrt := fun h => ∃ es clock since seen c0, IterOk kv vv m rest es clock since seen c0 ∧
  seps [blk r (.mapIter (some b) since seen c0), blk b (.map es clock)] h

omit [DecidableEq κ] in
theorem St.iter_open (h : St E (iterA r b kv vv m rest :: L) w) : ∃ es clock since seen c0, IterOk kv vv m rest es clock since seen c0 ∧ St E (blk r (.mapIter (some b) since seen c0) :: blk b (.map es clock) :: L) w := by
  obtain ⟨en, x, ⟨h1, h2, d, rfl, ⟨es, clock, since, seen, c0, ok, hs⟩, hL⟩, hl⟩ := h
  exact ⟨es, clock, since, seen, c0, ok, (St.open_ (L1 := [_, _]) ⟨en, _, ⟨h1, h2, d, rfl, hs, hL⟩, hl⟩ :)⟩
omit [DecidableEq κ] in
theorem St.iter_mk {es : Array MapEntry} {clock since : Nat} {seen : Array Nat} {c0 : Nat} (ok : IterOk kv vv m rest es clock since seen c0) (h : St E (blk r (.mapIter (some b) since seen c0) :: blk b (.map es clock) :: L) w) : St E (iterA r b kv vv m rest :: L) w :=
  (St.shut (L1 := [_, _]) h).mono fun _ hx => ⟨es, clock, since, seen, c0, ok, hx⟩
omit [DecidableEq κ] in
theorem St.iter_done (h : St E (iterA r b kv vv m rest :: L) w) : St E (mapA b kv vv m :: L) w := by
  obtain ⟨es, clock, since, seen, c0, ok, hs⟩ := h.iter_open
  exact hs.drop.mapA_mk ok.he ⟨ok.hn, ok.hg⟩
omit [DecidableEq κ] in
theorem range_run (ht : P.underlying t = some (.map kt et)) (h : St E (mapA b kv vv m :: L) w) :
    ∃ w', (Instr.range t (.map (some b))).run P w = .ok (.pointer (some ⟨w.heap.size, 0, none⟩)) w' ∧ St E (iterA w.heap.size b kv vv m m :: L) w' := by
  obtain ⟨es, clock, hs, he, hn, hg⟩ := h.mapA_open
  refine ⟨_, run_range_map w t kt et b es clock ht hs.at_blk, St.iter_mk ⟨he, hn, hg, hg.1, Nat.le_refl _, Nat.le_refl _, ?_⟩ (hs.alloc _)⟩
  rw [show (es.toList.filter fun e => !(#[] : Array Nat).contains e.born) = es.toList from List.filter_eq_self.2 fun x _ => by simp]
  exact he
omit [DecidableEq κ] in
theorem ents_split : ∀ {es1 : List MapEntry} {e : MapEntry} {es2 : List MapEntry} {m : List (κ × ν)}, ents kv vv (es1 ++ e :: es2) m → ∃ m1 p m2, m = m1 ++ p :: m2 ∧ e.key = kv p.1 ∧ e.val = vv p.2 ∧ ents kv vv (es1 ++ es2) (m1 ++ m2)
  | [], e, es2, [], h => by simp [ents] at h
  | [], e, es2, p :: m, h => by
    simp only [ents, List.nil_append, List.map_cons, List.cons.injEq, Prod.mk.injEq] at h
    exact ⟨[], p, m, rfl, h.1.1, h.1.2, by simpa [ents] using h.2⟩
  | e1 :: es1, e, es2, [], h => by simp [ents] at h
  | e1 :: es1, e, es2, q :: m, h => by
    simp only [ents, List.cons_append, List.map_cons, List.cons.injEq] at h
    obtain ⟨m1, p, m2, rfl, h1, h2, h3⟩ := ents_split (es1 := es1) (e := e) (es2 := es2) (m := m) h.2
    refine ⟨q :: m1, p, m2, rfl, h1, h2, ?_⟩
    simp only [ents, List.cons_append, List.map_cons, List.cons.injEq]
    exact ⟨h.1, h3⟩
theorem filter_one_less {l1 l2 : List MapEntry} {e : MapEntry} : ∀ (l : List MapEntry) (p : MapEntry → Bool), (l.map (·.born)).Nodup → l.filter p = l1 ++ e :: l2 → l.filter (fun x => p x && !(x.born == e.born)) = l1 ++ l2 := by
  intro l p hn hf
  have h1 : l.filter (fun x => p x && !(x.born == e.born)) = (l.filter p).filter (fun x => !(x.born == e.born)) := by
    rw [List.filter_filter]
    congr 1
    funext x
    cases p x <;> simp
  have hn2 : ((l1 ++ e :: l2).map (·.born)).Nodup := by rw [← hf]; exact hn.sublist (List.filter_sublist.map _)
  rw [h1, hf]
  rw [List.map_append, List.map_cons, List.nodup_append, List.nodup_cons] at hn2
  rw [List.filter_append, List.filter_cons, if_neg (by simp)]
  congr 1
  · refine List.filter_eq_self.2 fun x hx => ?_
    have := hn2.2.2 x.born (List.mem_map_of_mem hx) e.born (by simp)
    simpa using this
  · refine List.filter_eq_self.2 fun x hx => ?_
    have : e.born ∉ l2.map (·.born) := hn2.2.1.1
    have h3 : x.born ≠ e.born := fun he => this (he ▸ List.mem_map_of_mem hx)
    simpa using h3
omit [DecidableEq κ] in
theorem next_run (ty : TypeId) (h : St E (iterA r b kv vv m rest :: L) w) :
    (rest = [] ∧ (Instr.next (.pointer (some ⟨r, 0, none⟩)) false ty).run P w = .ok (.tuple #[.bool false]) w) ∨
    ∃ r1 p r2 w', rest = r1 ++ p :: r2 ∧ (Instr.next (.pointer (some ⟨r, 0, none⟩)) false ty).run P w = .ok (.tuple #[.bool true, kv p.1, vv p.2]) w' ∧ St E (iterA r b kv vv m (r1 ++ r2) :: L) w' ∧
      (Instr.entry (.pointer (some ⟨r, 0, none⟩))).run P w' = .ok (.tuple #[kv p.1, vv p.2]) w' := by
  obtain ⟨es, clock, since, seen, c0, ok, hs⟩ := h.iter_open
  have hleft : (leftOf es seen).toList = es.toList.filter fun e => !seen.contains e.born := by simp [leftOf]
  rcases run_next_at (P := P) w ty r b since c0 seen es clock hs.at_blk hs.f1.at_blk ok.old ok.s0 with ⟨h0, hrun⟩ | ⟨e, he, w1, hal, hrun⟩
  · refine .inl ⟨?_, hrun⟩
    have h1 : (leftOf es seen).toList = [] := List.eq_nil_of_length_eq_zero (by simpa using h0)
    have h2 := ok.left
    rw [← hleft, h1] at h2
    simp only [ents, List.map_nil] at h2
    exact List.map_eq_nil_iff.1 h2.symm
  · refine .inr ?_
    obtain ⟨l1, l2, hl⟩ := List.append_of_mem he
    rw [hleft] at hl
    have hL := ok.left
    rw [hl] at hL
    obtain ⟨m1, p, m2, rfl, hk, hv, hL2⟩ := ents_split hL
    have hs1 : St E (blk r (.mapIter (some b) since seen c0) :: blk b (.map es clock) :: L) w1 := by
      rcases hal with rfl | rfl
      · exact hs
      · exact hs.drew
    have hlt : r < w1.heap.size := (Array.getElem?_eq_some_iff.1 hs1.at_blk).1
    have hem : e ∈ es.toList := by rw [hleft] at he; exact (List.mem_filter.1 he).1
    have hs2 : St E (blk r (.mapIter (some b) since (seen.push e.born) clock) :: blk b (.map es clock) :: L) (ChangeMaps.setBlock w1 r (.mapIter (some b) since (seen.push e.born) clock)) := by
      refine hs1.upd ⟨rfl, rfl, rfl⟩ ?_ fun c hc _ => ?_
      · simp [ChangeMaps.setBlock, hlt]
      · simp [ChangeMaps.setBlock, Array.getElem?_setIfInBounds_ne (fun e => hc e.symm)]
    refine ⟨m1, p, m2, ChangeMaps.setBlock w1 r (.mapIter (some b) since (seen.push e.born) clock), rfl, by rw [hrun, hk, hv], St.iter_mk (since := since) (seen := seen.push e.born) (c0 := clock) ⟨ok.he, ok.hn, ok.hg, ok.old, ok.s1, ok.s1, ?_⟩ hs2,
      by rw [run_entry_at _ r b since seen es clock e hs2.at_blk hs2.f1.at_blk hem ok.hg.2, hk, hv]⟩
    · have := filter_one_less es.toList (fun x => !seen.contains x.born) ok.hg.2 hl
      rw [← this] at hL2
      refine Eq.mp ?_ hL2
      congr 2
      funext x
      by_cases hx : x.born = e.born <;> simp [hx]
end
end Go.Vc

/-
  A range over a map in the fenced walk: what holds of the iterator while other hands lay and turn blocks of theirs.
-/
namespace Go.Vc
open Go Go.RowKit Go.Maps

section
variable {κ ν : Type} {P : Program} {kt et t : TypeId} {kv : κ → Value} {vv : ν → Value} {w : World} {m rest : List (κ × ν)} {b r : Nat}

def MapW (w : World) (b : Nat) (kv : κ → Value) (vv : ν → Value) (m : List (κ × ν)) : Prop := ∃ es clock, w.heap[b]? = some (.map es clock) ∧ ents kv vv es.toList m ∧ (m.map (·.1)).Nodup ∧ goodM es clock
def IterW (w : World) (r b : Nat) (kv : κ → Value) (vv : ν → Value) (m rest : List (κ × ν)) : Prop := ∃ es clock since seen c0, IterOk kv vv m rest es clock since seen c0 ∧ w.heap[r]? = some (.mapIter (some b) since seen c0) ∧ w.heap[b]? = some (.map es clock)
theorem St.mapW {E : World} {L : List Asrt} (h : St E (mapA b kv vv m :: L) w) : MapW w b kv vv m := by
  obtain ⟨es, clock, hs, he, hn, hg⟩ := h.mapA_open
  exact ⟨es, clock, hs.at_blk, he, hn, hg⟩
theorem MapW.later {w' : World} (h : MapW w b kv vv m) (hb : Below w.heap.size w w') : MapW w' b kv vv m := by
  obtain ⟨es, clock, h1, h2⟩ := h
  exact ⟨es, clock, (hb.block b (Array.getElem?_eq_some_iff.1 h1).1).trans h1, h2⟩
theorem IterW.of_walks {w' : World} (h : IterW w r b kv vv m rest) (hk : KeepsWalks w w') : IterW w' r b kv vv m rest := by
  obtain ⟨es, clock, since, seen, c0, ok, h1, h2⟩ := h
  exact ⟨es, clock, since, seen, c0, ok, hk.same r _ h1 rfl, hk.same b _ h2 rfl⟩
theorem IterW.walk (h : IterW w r b kv vv m rest) : ∃ o : Obj, w.heap[r]? = some o ∧ o.isWalk = true := by
  obtain ⟨es, clock, since, seen, c0, _, h1, _⟩ := h
  exact ⟨_, h1, rfl⟩
theorem IterW.left (h : IterW w r b kv vv m rest) : w.rangeLeft b r = rest.length := by
  obtain ⟨es, clock, since, seen, c0, ok, h1, h2⟩ := h
  simp only [World.rangeLeft, h1, h2]
  have := congrArg List.length ok.left
  simp only [List.length_map] at this
  have e : (leftOf es seen).toList = es.toList.filter fun e => !seen.contains e.born := by simp [leftOf]
  rw [← this, ← e, Array.length_toList]
theorem MapW.range (h : MapW w b kv vv m) (ht : P.underlying t = some (.map kt et)) :
    ∃ w', (Instr.range t (.map (some b))).run P w = .ok (.pointer (some ⟨w.heap.size, 0, none⟩)) w' ∧ IterW w' w.heap.size b kv vv m m ∧ w.grownBy w' none ∧ w'.heap.size = w.heap.size + 1 := by
  obtain ⟨es, clock, hb, he, hn, hg⟩ := h
  refine ⟨_, run_range_map w t kt et b es clock ht hb, ⟨es, clock, clock, #[], clock, ⟨he, hn, hg, hg.1, Nat.le_refl _, Nat.le_refl _, ?_⟩, World.alloc_heap_new w _, (Below.heap_alloc w _ b (Array.getElem?_eq_some_iff.1 hb).1).trans hb⟩, World.grownBy_alloc w _ none, by simp⟩
  rw [show (es.toList.filter fun e => !(#[] : Array Nat).contains e.born) = es.toList from List.filter_eq_self.2 fun x _ => by simp]
  exact he
theorem IterW.next (h : IterW w r b kv vv m rest) (ty : TypeId) :
    (rest = [] ∧ (Instr.next (.pointer (some ⟨r, 0, none⟩)) false ty).run P w = .ok (.tuple #[.bool false]) w) ∨
    ∃ r1 p r2 w', rest = r1 ++ p :: r2 ∧ (Instr.next (.pointer (some ⟨r, 0, none⟩)) false ty).run P w = .ok (.tuple #[.bool true, kv p.1, vv p.2]) w' ∧ IterW w' r b kv vv m (r1 ++ r2) ∧ w.grownBy w' (some r) ∧ w'.heap.size = w.heap.size ∧
      (Instr.entry (.pointer (some ⟨r, 0, none⟩))).run P w' = .ok (.tuple #[kv p.1, vv p.2]) w' := by
  obtain ⟨es, clock, since, seen, c0, ok, hr, hb⟩ := h
  have hne : r ≠ b := fun e => by rw [e, hb] at hr; cases hr
  have hleft : (leftOf es seen).toList = es.toList.filter fun e => !seen.contains e.born := by simp [leftOf]
  rcases run_next_at (P := P) w ty r b since c0 seen es clock hr hb ok.old ok.s0 with ⟨h0, hrun⟩ | ⟨e, he, w1, hal, hrun⟩
  · refine .inl ⟨?_, hrun⟩
    have h1 : (leftOf es seen).toList = [] := List.eq_nil_of_length_eq_zero (by simpa using h0)
    have h2 := ok.left
    rw [← hleft, h1] at h2
    simp only [ents, List.map_nil] at h2
    exact List.map_eq_nil_iff.1 h2.symm
  · refine .inr ?_
    have hem : e ∈ es.toList := by rw [hleft] at he; exact (List.mem_filter.1 he).1
    obtain ⟨l1, l2, hl⟩ := List.append_of_mem he
    rw [hleft] at hl
    have hL := ok.left
    rw [hl] at hL
    obtain ⟨m1, p, m2, rfl, hk, hv, hL2⟩ := ents_split hL
    have hr1 : w1.heap[r]? = some (.mapIter (some b) since seen c0) := by rcases hal with rfl | rfl <;> exact hr
    have hb1 : w1.heap[b]? = some (.map es clock) := by rcases hal with rfl | rfl <;> exact hb
    have hlt : r < w1.heap.size := (Array.getElem?_eq_some_iff.1 hr1).1
    have hr2 : (ChangeMaps.setBlock w1 r (.mapIter (some b) since (seen.push e.born) clock)).heap[r]? = some (.mapIter (some b) since (seen.push e.born) clock) := by simp [ChangeMaps.setBlock, hlt]
    have hb2 : (ChangeMaps.setBlock w1 r (.mapIter (some b) since (seen.push e.born) clock)).heap[b]? = some (.map es clock) := by
      simp only [ChangeMaps.setBlock]
      rw [Array.getElem?_setIfInBounds_ne hne]; exact hb1
    have hgr : w.grownBy (ChangeMaps.setBlock w1 r (.mapIter (some b) since (seen.push e.born) clock)) (some r) := by
      rcases hal with rfl | rfl <;> exact ⟨rfl, rfl, rfl, by simp [ChangeMaps.setBlock], fun i _ hi => by
        simp only [ChangeMaps.setBlock]
        rw [Array.getElem?_setIfInBounds_ne (fun e => hi (by rw [e]))]
        try rfl⟩
    have hent : (Instr.entry (.pointer (some ⟨r, 0, none⟩))).run P (ChangeMaps.setBlock w1 r (.mapIter (some b) since (seen.push e.born) clock)) = .ok (.tuple #[kv p.1, vv p.2]) (ChangeMaps.setBlock w1 r (.mapIter (some b) since (seen.push e.born) clock)) := by
      rw [run_entry_at _ r b since seen es clock e hr2 hb2 hem ok.hg.2, hk, hv]
    refine ⟨m1, p, m2, _, rfl, by rw [hrun, hk, hv], ⟨es, clock, since, seen.push e.born, clock, ⟨ok.he, ok.hn, ok.hg, ok.old, ok.s1, ok.s1, ?_⟩, hr2, hb2⟩, hgr, by rcases hal with rfl | rfl <;> simp [ChangeMaps.setBlock], hent⟩
    have := filter_one_less es.toList (fun x => !seen.contains x.born) ok.hg.2 hl
    rw [← this] at hL2
    refine Eq.mp ?_ hL2
    congr 2
    funext x
    by_cases hx : x.born = e.born <;> simp [hx]
end
section
variable {κ ν : Type} {F : Fence} {n : Nat} {P : Program} {kt et t : TypeId} {kv : κ → Value} {vv : ν → Value} (w : World) {m rest : List (κ × ν)} {b r : Nat} {ops : Array Oper} {ro : List Oper} {o : Oper} {a : Act} {Q : Exit → Act → World → Prop}
theorem wpListIn_range_it (hg : o.guard = none) (mo : Operand) (t : TypeId) (hop : o.op = Op.range t mo) (ht : P.underlying t = some (.map kt et)) (hm : a.eval mo = .map (some b)) (h : MapW w b kv vv m)
    (hK : ∀ w', IterW w' w.heap.size b kv vv m m → w.grownBy w' none → w'.heap.size = w.heap.size + 1 → wpListIn F n P ops Q ro (a.put o.dst (.pointer (some ⟨w.heap.size, 0, none⟩))) w') :
    wpListIn F n P ops Q (o :: ro) a w := by
  refine wpListIn_plain hg fun K' hK' => ?_
  obtain ⟨w', hrun, r1, r2, r3⟩ := h.range ht
  unfold Oper.wpIn
  refine ⟨?_, ?_⟩
  · simp [Oper.about, hop]
  · rw [Oper.semAt_plain F _ _ (by rw [hop]; intro c hc'; cases hc')]
    simp [execOp, hop, hm, hrun, Result.andThen]
    exact hK' _ _ (hK w' r1 r2 r3)
theorem wpListIn_next_it (hg : o.guard = none) (it : Operand) (hop : o.op = Op.next it false) (hit : a.eval it = .pointer (some ⟨r, 0, none⟩)) (h : IterW w r b kv vv m rest)
    (hDone : rest = [] → wpListIn F n P ops Q ro (a.put o.dst (.tuple #[.bool false])) w)
    (hMore : ∀ (r1 : List (κ × ν)) (p : κ × ν) (r2 : List (κ × ν)) (w' : World), rest = r1 ++ p :: r2 → IterW w' r b kv vv m (r1 ++ r2) → w.grownBy w' (some r) → w'.heap.size = w.heap.size →
      (Instr.entry (.pointer (some ⟨r, 0, none⟩))).run P w' = .ok (.tuple #[kv p.1, vv p.2]) w' → wpListIn F n P ops Q ro (a.put o.dst (.tuple #[.bool true, kv p.1, vv p.2])) w') :
    wpListIn F n P ops Q (o :: ro) a w := by
  refine wpListIn_plain hg fun K' hK' => ?_
  unfold Oper.wpIn
  refine ⟨by simp [Oper.about, hop], ?_⟩
  rw [Oper.semAt_plain F _ _ (by rw [hop]; intro c hc'; cases hc')]
  rcases h.next (P := P) o.type with ⟨h0, hrun⟩ | ⟨r1, p, r2, w', he, hrun, hrg, hgr, hsz, hen⟩
  · simp [execOp, hop, hit, hrun, Result.andThen]
    exact hK' _ _ (hDone h0)
  · simp [execOp, hop, hit, hrun, Result.andThen]
    exact hK' _ _ (hMore r1 p r2 w' he hrg hgr hsz hen)
end
end Go.Vc
