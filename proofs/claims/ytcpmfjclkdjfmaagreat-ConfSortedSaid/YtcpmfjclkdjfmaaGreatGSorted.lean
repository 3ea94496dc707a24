/-
  What the functions' code comes to; printed by a program of this claim's own.
-/
import Derived.Test.YtcpmfjclkdjfmaaGreatProg
import Derived.KernelRfl
import Derived.Test.YtcpmfjclkdjfmaaGreatGi
namespace Go.Proofs.YtcpmfjclkdjfmaaGreat
open Go Go.Vc
set_option maxRecDepth 100000
set_option linter.unusedVariables false

/-! tollgate/tollgatelaw08.ConfSorted -/
def T_law08_ConfSorted_1 (ok14 : Bool) (c15 : Addr) (w : World) (Kn : Bool → World → Prop) (Kp : List PanicEntry → World → Prop) : Prop :=
  if (!ok14) = true then (Kn true w) else (∃ s16a : Option Addr, ∃ s16l : Nat, ∃ s16c : Nat, rd w (c15.add 2) (.slice s16a s16l s16c) ∧ if (decide (((s16l : Nat) : Int) > 32)) = true then (Kn true w) else (∃ s17a : Option Addr, ∃ s17l : Nat, ∃ s17c : Nat, rd w (c15.add 1) (.slice s17a s17l s17c) ∧ Kn (decide (((s17l : Nat) : Int) > 64)) w))

def T_law08_ConfSorted_1_outs : Exit → Option (List (Nat × Value)) := fun x => match x with | .normal => some [(33, .bool false)] | .panic _ => some [] | _ => none

def T_law08_ConfSorted_1_ks : Nat → Bool := ksOf [20, 21, 22, 23, 24, 25, 26, 27, 28, 29, 30, 31, 32, 33]

def H_law08_ConfSorted_1 : Env → World → QT → Prop := unitHook 143 T_law08_ConfSorted_1_ks [(5, .bool false), (6, .pointer (some ⟨0, 0, none⟩))] T_law08_ConfSorted_1_outs fun l w C => match l with | [v0, v1] => T_law08_ConfSorted_1 (pBool v0) (pAddr v1) w (fun b19 w => C .normal [.bool b19] w) (fun ch w => C (.panic ch) [] w) | _ => False

theorem T_law08_ConfSorted_1_hl : allP (hokL Tryz.prog (hookAt []) (at_ (bodyOf Tryz.f3) [1, 1, 1, 0, 0]) 60) = (True) := by kernel_rfl
theorem T_law08_ConfSorted_1_hok : HOk Tryz.prog (hookAt []) (at_ (bodyOf Tryz.f3) [1, 1, 1, 0, 0]) 60 := HOk_of _ _ (by rw [T_law08_ConfSorted_1_hl]; exact trivial)

theorem T_law08_ConfSorted_1_eq (C : Conts) (ok14 : Bool) (c15 : Addr) (w : World) : vcCode Tryz.prog (hookAt []) (at_ (bodyOf Tryz.f3) [1, 1, 1, 0, 0]) 60 ⟨[(5, .bool ok14), (6, .pointer (some c15))], 143, []⟩ w (unitQ T_law08_ConfSorted_1_outs C) = T_law08_ConfSorted_1 ok14 c15 w (fun b20 w => C .normal [.bool b20] w) (fun ch w => C (.panic ch) [] w) := by kernel_rfl

theorem T_law08_ConfSorted_1_ok : UnitOk Tryz.prog H_law08_ConfSorted_1 (at_ (bodyOf Tryz.f3) [1, 1, 1, 0, 0]) 60 := unit_ok (H := (hookAt [])) (by kernel_rfl) T_law08_ConfSorted_1_hok fun l w C hk => by
    obtain ⟨v0, l_v0, rfl, k_v0, hk_v0⟩ := Kinds.cons_ hk
    obtain ⟨ok14, rfl⟩ := kind_bool k_v0
    obtain ⟨v1, l_v1, rfl, k_v1, hk_v1⟩ := Kinds.cons_ hk_v0
    obtain ⟨c15, rfl⟩ := kind_addr k_v1
    obtain rfl := Kinds.nil_ hk_v1
    exact T_law08_ConfSorted_1_eq C ok14 c15 w

def T_law08_ConfSorted_2_body (X : Int → World → Prop) (i23 : Int) (c24 : Addr) (w : World) (Kn : World → Prop) (Kr : Bool → World → Prop) (Kp : List PanicEntry → World → Prop)  : Prop :=
  ∃ s25a : Option Addr, ∃ s25l : Nat, ∃ s25c : Nat, rd w (c24.add 2) (.slice s25a s25l s25c) ∧ if (decide ((i23 : Int) < ((s25l : Nat) : Int))) = true then (let w26 : World := w.drew
  if (decide ((i23 : Int) > 0)) = true then (∃ s27a : Option Addr, ∃ s27l : Nat, ∃ s27c : Nat, rd w26 (c24.add 2) (.slice s27a s27l s27c) ∧ 0 ≤ (IntKind.wrap .i64 ((i23 : Int) - 1) : Int) ∧ (IntKind.wrap .i64 ((i23 : Int) - 1) : Int) < ((s27l : Nat) : Int) ∧ ∃ b28, s27a = some b28 ∧ ∃ s29 : ByteArray, rd w26 (b28.add ((IntKind.wrap .i64 ((i23 : Int) - 1) : Int).toNat * 2)) (.string s29) ∧ ∃ s30a : Option Addr, ∃ s30l : Nat, ∃ s30c : Nat, rd w26 (c24.add 2) (.slice s30a s30l s30c) ∧ 0 ≤ (i23 : Int) ∧ (i23 : Int) < ((s30l : Nat) : Int) ∧ ∃ b31, s30a = some b31 ∧ ∃ s32 : ByteArray, rd w26 (b31.add ((i23 : Int).toNat * 2)) (.string s32) ∧ if (!(Op.bytesLess s29.toList s32.toList)) = true then (Kr false w26) else (∃ s33a : Option Addr, ∃ s33l : Nat, ∃ s33c : Nat, rd w26 (c24.add 2) (.slice s33a s33l s33c) ∧ 0 ≤ (i23 : Int) ∧ (i23 : Int) < ((s33l : Nat) : Int) ∧ ∃ b34, s33a = some b34 ∧ ∃ s35a : Option Addr, ∃ s35l : Nat, ∃ s35c : Nat, rd w26 ((b34.add ((i23 : Int).toNat * 2)).add 1) (.slice s35a s35l s35c) ∧ if (decide (((s35l : Nat) : Int) > 16)) = true then (Kr false w26) else (X (IntKind.wrap .i64 ((i23 : Int) + 1)) w26))) else (∃ s36a : Option Addr, ∃ s36l : Nat, ∃ s36c : Nat, rd w26 (c24.add 2) (.slice s36a s36l s36c) ∧ 0 ≤ (i23 : Int) ∧ (i23 : Int) < ((s36l : Nat) : Int) ∧ ∃ b37, s36a = some b37 ∧ ∃ s38a : Option Addr, ∃ s38l : Nat, ∃ s38c : Nat, rd w26 ((b37.add ((i23 : Int).toNat * 2)).add 1) (.slice s38a s38l s38c) ∧ if (decide (((s38l : Nat) : Int) > 16)) = true then (Kr false w26) else (X (IntKind.wrap .i64 ((i23 : Int) + 1)) w26))) else (Kn  w)

def T_law08_ConfSorted_2 (i23 : Int) (c24 : Addr) (w : World) (Kn : World → Prop) (Kr : Bool → World → Prop) (Kp : List PanicEntry → World → Prop) : Prop :=
  ∀ X : Int → World → Prop, (∀ (i23 : Int) (w : World), T_law08_ConfSorted_2_body X i23 c24 w Kn Kr Kp → X i23 w) → X i23 w

def T_law08_ConfSorted_2_outs : Exit → Option (List (Nat × Value)) := fun x => match x with | .normal => some [] | .ret => some [(2, .bool false)] | .panic _ => some [] | _ => none

def T_law08_ConfSorted_2_ks : Nat → Bool := ksOf [2, 7, 34, 35, 36, 37, 38, 39, 40, 41, 42, 43, 44, 45, 46, 47, 48, 49, 50, 51, 52, 53, 54, 55, 56, 57, 58, 59, 60, 61, 62, 63, 64, 65, 66, 67, 68]

def H_law08_ConfSorted_2 : Env → World → QT → Prop := unitHook 143 T_law08_ConfSorted_2_ks [(7, .int .i64 0), (6, .pointer (some ⟨0, 0, none⟩))] T_law08_ConfSorted_2_outs fun l w C => match l with | [v0, v1] => T_law08_ConfSorted_2 (pInt v0) (pAddr v1) w (fun w => C .normal [] w) (fun b40 w => C .ret [.bool b40] w) (fun ch w => C (.panic ch) [] w) | _ => False

theorem T_law08_ConfSorted_2_hl : allP (hokL Tryz.prog (hookAt []) (at_ (bodyOf Tryz.f3) [1, 1, 1, 1, 0, 1, 0, 0]) 500) = (True) := by kernel_rfl
theorem T_law08_ConfSorted_2_hok : HOk Tryz.prog (hookAt []) (at_ (bodyOf Tryz.f3) [1, 1, 1, 1, 0, 1, 0, 0]) 500 := HOk_of _ _ (by rw [T_law08_ConfSorted_2_hl]; exact trivial)

theorem T_law08_ConfSorted_2_eq (C : Conts) (X : List Value → World → Prop) (i23 : Int) (c24 : Addr) (w : World) : vcCode Tryz.prog (hookAt []) (at_ (bodyOf Tryz.f3) [1, 1, 1, 1, 0, 1, 0, 0]) 500 ⟨[(7, .int .i64 i23)] ++ [(6, .pointer (some c24))], 143, []⟩ w (seqQ (fun e w => takeAll e [(7, .int .i64 0)] fun l => X l w) (blockQ 0 (unitQ T_law08_ConfSorted_2_outs C))) = T_law08_ConfSorted_2_body (fun i23 w => X [.int .i64 i23] w) i23 c24 w (fun w => C .normal [] w) (fun b41 w => C .ret [.bool b41] w) (fun ch w => C (.panic ch) [] w) := by kernel_rfl

theorem T_law08_ConfSorted_2_ok : UnitOk Tryz.prog H_law08_ConfSorted_2 (at_ (bodyOf Tryz.f3) [1, 1, 1, 1, 0, 1]) 125 := by
  have hc : at_ (bodyOf Tryz.f3) [1, 1, 1, 1, 0, 1] = .block 0 (.loop (at_ (bodyOf Tryz.f3) [1, 1, 1, 1, 0, 1, 0, 0])) := by kernel_rfl
  rw [hc]
  refine loop_unit_ok (carr := [(7, .int .i64 0)]) (fix := [(6, .pointer (some ⟨0, 0, none⟩))]) (ks := T_law08_ConfSorted_2_ks) (H := (hookAt [])) (B := fun C X l u w => match l, u with | [v0], [v1] => T_law08_ConfSorted_2_body (fun i23 w => X [.int .i64 i23] w) (pInt v0) (pAddr v1) w (fun w => C .normal [] w) (fun b42 w => C .ret [.bool b42] w) (fun ch w => C (.panic ch) [] w) | _, _ => False) (by kernel_rfl) (by kernel_rfl) T_law08_ConfSorted_2_hok ?_ ?_
  · intro C X l u w hl hu
    obtain ⟨v0, l_v0, rfl, k_v0, hl_v0⟩ := Kinds.cons_ hl
    obtain ⟨i23, rfl⟩ := kind_int k_v0
    obtain rfl := Kinds.nil_ hl_v0
    obtain ⟨v1, l_v1, rfl, k_v1, hu_v1⟩ := Kinds.cons_ hu
    obtain ⟨c24, rfl⟩ := kind_addr k_v1
    obtain rfl := Kinds.nil_ hu_v1
    exact T_law08_ConfSorted_2_eq C X i23 c24 w
  · intro l u w C hl hu
    obtain ⟨v0, l_v0, rfl, k_v0, hl_v0⟩ := Kinds.cons_ hl
    obtain ⟨i23, rfl⟩ := kind_int k_v0
    obtain rfl := Kinds.nil_ hl_v0
    obtain ⟨v1, l_v1, rfl, k_v1, hu_v1⟩ := Kinds.cons_ hu
    obtain ⟨c24, rfl⟩ := kind_addr k_v1
    obtain rfl := Kinds.nil_ hu_v1
    constructor
    · intro h X hX
      exact h (fun i23 w => X [.int .i64 i23] w) (fun i23 w hb => hX [.int .i64 i23] w ⟨rfl, trivial⟩ hb)
    · intro h X hX
      exact h (fun l w => match l with | [v0] => X (pInt v0) w | _ => True) (fun l w hl hb => by
        obtain ⟨v0, l_v0, rfl, k_v0, hl_v0⟩ := Kinds.cons_ hl
        obtain ⟨i23, rfl⟩ := kind_int k_v0
        obtain rfl := Kinds.nil_ hl_v0
        exact hX i23 w hb)

def T_law08_ConfSorted_4_body (X : Bool → Int → World → Prop) (there54 : Bool) (k55 : Int) (c56 : Addr) (x57 : Addr) (w : World) (Kn : Bool → World → Prop) (Kp : List PanicEntry → World → Prop)  : Prop :=
  ∃ s58a : Option Addr, ∃ s58l : Nat, ∃ s58c : Nat, rd w (c56.add 2) (.slice s58a s58l s58c) ∧ if (decide ((k55 : Int) < ((s58l : Nat) : Int))) = true then (let w59 : World := w.drew
  if there54 = true then (X true (IntKind.wrap .i64 ((k55 : Int) + 1)) w59) else (∃ s60a : Option Addr, ∃ s60l : Nat, ∃ s60c : Nat, rd w59 (c56.add 2) (.slice s60a s60l s60c) ∧ 0 ≤ (k55 : Int) ∧ (k55 : Int) < ((s60l : Nat) : Int) ∧ ∃ b61, s60a = some b61 ∧ ∃ s62 : ByteArray, rd w59 (b61.add ((k55 : Int).toNat * 2)) (.string s62) ∧ ∃ s63 : ByteArray, rd w59 (x57.add 2) (.string s63) ∧ X (s62.toList == s63.toList) (IntKind.wrap .i64 ((k55 : Int) + 1)) w59)) else (Kn there54 w)

def T_law08_ConfSorted_4 (there54 : Bool) (k55 : Int) (c56 : Addr) (x57 : Addr) (w : World) (Kn : Bool → World → Prop) (Kp : List PanicEntry → World → Prop) : Prop :=
  ∀ X : Bool → Int → World → Prop, (∀ (there54 : Bool) (k55 : Int) (w : World), T_law08_ConfSorted_4_body X there54 k55 c56 x57 w Kn Kp → X there54 k55 w) → X there54 k55 w

def T_law08_ConfSorted_4_outs : Exit → Option (List (Nat × Value)) := fun x => match x with | .normal => some [(10, .bool false)] | .panic _ => some [] | _ => none

def T_law08_ConfSorted_4_ks : Nat → Bool := ksOf [10, 11, 81, 82, 83, 84, 85, 86, 87, 88, 89, 90, 91, 92, 93, 94, 95, 96, 97, 98, 99]

def H_law08_ConfSorted_4 : Env → World → QT → Prop := unitHook 143 T_law08_ConfSorted_4_ks [(10, .bool false), (11, .int .i64 0), (6, .pointer (some ⟨0, 0, none⟩)), (9, .pointer (some ⟨0, 0, none⟩))] T_law08_ConfSorted_4_outs fun l w C => match l with | [v0, v1, v2, v3] => T_law08_ConfSorted_4 (pBool v0) (pInt v1) (pAddr v2) (pAddr v3) w (fun there65 w => C .normal [.bool there65] w) (fun ch w => C (.panic ch) [] w) | _ => False

theorem T_law08_ConfSorted_4_hl : allP (hokL Tryz.prog (hookAt []) (at_ (bodyOf Tryz.f3) [1, 1, 1, 1, 1, 0, 1, 0, 0, 1, 0, 0, 1, 1, 0, 1, 0, 0]) 518452) = (True) := by kernel_rfl
theorem T_law08_ConfSorted_4_hok : HOk Tryz.prog (hookAt []) (at_ (bodyOf Tryz.f3) [1, 1, 1, 1, 1, 0, 1, 0, 0, 1, 0, 0, 1, 1, 0, 1, 0, 0]) 518452 := HOk_of _ _ (by rw [T_law08_ConfSorted_4_hl]; exact trivial)

theorem T_law08_ConfSorted_4_eq (C : Conts) (X : List Value → World → Prop) (there54 : Bool) (k55 : Int) (c56 : Addr) (x57 : Addr) (w : World) : vcCode Tryz.prog (hookAt []) (at_ (bodyOf Tryz.f3) [1, 1, 1, 1, 1, 0, 1, 0, 0, 1, 0, 0, 1, 1, 0, 1, 0, 0]) 518452 ⟨[(10, .bool there54), (11, .int .i64 k55)] ++ [(6, .pointer (some c56)), (9, .pointer (some x57))], 143, []⟩ w (seqQ (fun e w => takeAll e [(10, .bool false), (11, .int .i64 0)] fun l => X l w) (blockQ 4 (unitQ T_law08_ConfSorted_4_outs C))) = T_law08_ConfSorted_4_body (fun there54 k55 w => X [.bool there54, .int .i64 k55] w) there54 k55 c56 x57 w (fun there66 w => C .normal [.bool there66] w) (fun ch w => C (.panic ch) [] w) := by kernel_rfl

theorem T_law08_ConfSorted_4_ok : UnitOk Tryz.prog H_law08_ConfSorted_4 (at_ (bodyOf Tryz.f3) [1, 1, 1, 1, 1, 0, 1, 0, 0, 1, 0, 0, 1, 1, 0, 1]) 129613 := by
  have hc : at_ (bodyOf Tryz.f3) [1, 1, 1, 1, 1, 0, 1, 0, 0, 1, 0, 0, 1, 1, 0, 1] = .block 4 (.loop (at_ (bodyOf Tryz.f3) [1, 1, 1, 1, 1, 0, 1, 0, 0, 1, 0, 0, 1, 1, 0, 1, 0, 0])) := by kernel_rfl
  rw [hc]
  refine loop_unit_ok (carr := [(10, .bool false), (11, .int .i64 0)]) (fix := [(6, .pointer (some ⟨0, 0, none⟩)), (9, .pointer (some ⟨0, 0, none⟩))]) (ks := T_law08_ConfSorted_4_ks) (H := (hookAt [])) (B := fun C X l u w => match l, u with | [v0, v1], [v2, v3] => T_law08_ConfSorted_4_body (fun there54 k55 w => X [.bool there54, .int .i64 k55] w) (pBool v0) (pInt v1) (pAddr v2) (pAddr v3) w (fun there67 w => C .normal [.bool there67] w) (fun ch w => C (.panic ch) [] w) | _, _ => False) (by kernel_rfl) (by kernel_rfl) T_law08_ConfSorted_4_hok ?_ ?_
  · intro C X l u w hl hu
    obtain ⟨v0, l_v0, rfl, k_v0, hl_v0⟩ := Kinds.cons_ hl
    obtain ⟨there54, rfl⟩ := kind_bool k_v0
    obtain ⟨v1, l_v1, rfl, k_v1, hl_v1⟩ := Kinds.cons_ hl_v0
    obtain ⟨k55, rfl⟩ := kind_int k_v1
    obtain rfl := Kinds.nil_ hl_v1
    obtain ⟨v2, l_v2, rfl, k_v2, hu_v2⟩ := Kinds.cons_ hu
    obtain ⟨c56, rfl⟩ := kind_addr k_v2
    obtain ⟨v3, l_v3, rfl, k_v3, hu_v3⟩ := Kinds.cons_ hu_v2
    obtain ⟨x57, rfl⟩ := kind_addr k_v3
    obtain rfl := Kinds.nil_ hu_v3
    exact T_law08_ConfSorted_4_eq C X there54 k55 c56 x57 w
  · intro l u w C hl hu
    obtain ⟨v0, l_v0, rfl, k_v0, hl_v0⟩ := Kinds.cons_ hl
    obtain ⟨there54, rfl⟩ := kind_bool k_v0
    obtain ⟨v1, l_v1, rfl, k_v1, hl_v1⟩ := Kinds.cons_ hl_v0
    obtain ⟨k55, rfl⟩ := kind_int k_v1
    obtain rfl := Kinds.nil_ hl_v1
    obtain ⟨v2, l_v2, rfl, k_v2, hu_v2⟩ := Kinds.cons_ hu
    obtain ⟨c56, rfl⟩ := kind_addr k_v2
    obtain ⟨v3, l_v3, rfl, k_v3, hu_v3⟩ := Kinds.cons_ hu_v2
    obtain ⟨x57, rfl⟩ := kind_addr k_v3
    obtain rfl := Kinds.nil_ hu_v3
    constructor
    · intro h X hX
      exact h (fun there54 k55 w => X [.bool there54, .int .i64 k55] w) (fun there54 k55 w hb => hX [.bool there54, .int .i64 k55] w ⟨rfl, rfl, trivial⟩ hb)
    · intro h X hX
      exact h (fun l w => match l with | [v0, v1] => X (pBool v0) (pInt v1) w | _ => True) (fun l w hl hb => by
        obtain ⟨v0, l_v0, rfl, k_v0, hl_v0⟩ := Kinds.cons_ hl
        obtain ⟨there54, rfl⟩ := kind_bool k_v0
        obtain ⟨v1, l_v1, rfl, k_v1, hl_v1⟩ := Kinds.cons_ hl_v0
        obtain ⟨k55, rfl⟩ := kind_int k_v1
        obtain rfl := Kinds.nil_ hl_v1
        exact hX there54 k55 w hb)

def T_law08_ConfSorted_3_body (X : Int → World → Prop) (i44 : Int) (c45 : Addr) (w : World) (Kn : World → Prop) (Kr : Bool → World → Prop) (Kp : List PanicEntry → World → Prop)  : Prop :=
  ∃ s46a : Option Addr, ∃ s46l : Nat, ∃ s46c : Nat, rd w (c45.add 1) (.slice s46a s46l s46c) ∧ if (decide ((i44 : Int) < ((s46l : Nat) : Int))) = true then (∃ s47a : Option Addr, ∃ s47l : Nat, ∃ s47c : Nat, rd w (c45.add 1) (.slice s47a s47l s47c) ∧ 0 ≤ (i44 : Int) ∧ (i44 : Int) < ((s47l : Nat) : Int) ∧ ∃ b48, s47a = some b48 ∧ ∃ s49 : ByteArray, ∃ s50 : ByteArray, ∃ s51 : ByteArray, rd w (b48.add ((i44 : Int).toNat * 3)) (.agg #[.string s49, .string s50, .string s51]) ∧ let w52 : World := w.alloc (.cells #[.string (ByteArray.mk #[]), .string (ByteArray.mk #[]), .string (ByteArray.mk #[])] 36)
  (.agg #[.string s49, .string s50, .string s51] : Value).cells.size = 3 ∧ wrOk w52 (⟨w.heap.size, 0, none⟩ : Addr) (.agg #[.string s49, .string s50, .string s51]) ∧ let w53 : World := wr w52 (⟨w.heap.size, 0, none⟩ : Addr) (.agg #[.string s49, .string s50, .string s51])
  T_law08_ConfSorted_4 false 0 c45 (⟨w.heap.size, 0, none⟩ : Addr) w53 (fun there68 w69 => let w70 : World := w69.drew
  if (!there68) = true then (Kr false w70) else (if (decide ((i44 : Int) > 0)) = true then (∃ s71a : Option Addr, ∃ s71l : Nat, ∃ s71c : Nat, rd w70 (c45.add 1) (.slice s71a s71l s71c) ∧ 0 ≤ (IntKind.wrap .i64 ((i44 : Int) - 1) : Int) ∧ (IntKind.wrap .i64 ((i44 : Int) - 1) : Int) < ((s71l : Nat) : Int) ∧ ∃ b72, s71a = some b72 ∧ ∃ s73 : ByteArray, rd w70 (b72.add ((IntKind.wrap .i64 ((i44 : Int) - 1) : Int).toNat * 3)) (.string s73) ∧ ∃ s74 : ByteArray, rd w70 (⟨w.heap.size, 0, none⟩ : Addr) (.string s74) ∧ if (!(Op.bytesLess s73.toList s74.toList || s73.toList == s74.toList)) = true then (Kr false w70) else (∃ s75a : Option Addr, ∃ s75l : Nat, ∃ s75c : Nat, rd w70 (c45.add 1) (.slice s75a s75l s75c) ∧ 0 ≤ (IntKind.wrap .i64 ((i44 : Int) - 1) : Int) ∧ (IntKind.wrap .i64 ((i44 : Int) - 1) : Int) < ((s75l : Nat) : Int) ∧ ∃ b76, s75a = some b76 ∧ ∃ s77 : ByteArray, rd w70 (b76.add ((IntKind.wrap .i64 ((i44 : Int) - 1) : Int).toNat * 3)) (.string s77) ∧ ∃ s78 : ByteArray, rd w70 (⟨w.heap.size, 0, none⟩ : Addr) (.string s78) ∧ if (s77.toList == s78.toList) = true then (∃ s79a : Option Addr, ∃ s79l : Nat, ∃ s79c : Nat, rd w70 (c45.add 1) (.slice s79a s79l s79c) ∧ 0 ≤ (IntKind.wrap .i64 ((i44 : Int) - 1) : Int) ∧ (IntKind.wrap .i64 ((i44 : Int) - 1) : Int) < ((s79l : Nat) : Int) ∧ ∃ b80, s79a = some b80 ∧ ∃ s81 : ByteArray, rd w70 ((b80.add ((IntKind.wrap .i64 ((i44 : Int) - 1) : Int).toNat * 3)).add 1) (.string s81) ∧ ∃ s82 : ByteArray, rd w70 ((⟨w.heap.size, 0, none⟩ : Addr).add 1) (.string s82) ∧ if (!(Op.bytesLess s81.toList s82.toList)) = true then (Kr false w70) else (X (IntKind.wrap .i64 ((i44 : Int) + 1)) w70)) else (X (IntKind.wrap .i64 ((i44 : Int) + 1)) w70))) else (X (IntKind.wrap .i64 ((i44 : Int) + 1)) w70))) Kp) else (Kn  w)

def T_law08_ConfSorted_3 (i44 : Int) (c45 : Addr) (w : World) (Kn : World → Prop) (Kr : Bool → World → Prop) (Kp : List PanicEntry → World → Prop) : Prop :=
  ∀ X : Int → World → Prop, (∀ (i44 : Int) (w : World), T_law08_ConfSorted_3_body X i44 c45 w Kn Kr Kp → X i44 w) → X i44 w

def T_law08_ConfSorted_3_outs : Exit → Option (List (Nat × Value)) := fun x => match x with | .normal => some [] | .ret => some [(2, .bool false)] | .panic _ => some [] | _ => none

def T_law08_ConfSorted_3_ks : Nat → Bool := ksOf [2, 8, 9, 10, 11, 69, 70, 71, 72, 73, 74, 75, 76, 77, 78, 79, 80, 81, 82, 83, 84, 85, 86, 87, 88, 89, 90, 91, 92, 93, 94, 95, 96, 97, 98, 99, 100, 101, 102, 103, 104, 105, 106, 107, 108, 109, 110, 111, 112, 113, 114, 115, 116, 117, 118, 119, 120, 121, 122, 123, 124, 125, 126, 127, 128, 129, 130, 131, 132, 133, 134, 135, 136, 137, 138, 139, 140, 141]

def H_law08_ConfSorted_3 : Env → World → QT → Prop := unitHook 143 T_law08_ConfSorted_3_ks [(8, .int .i64 0), (6, .pointer (some ⟨0, 0, none⟩))] T_law08_ConfSorted_3_outs fun l w C => match l with | [v0, v1] => T_law08_ConfSorted_3 (pInt v0) (pAddr v1) w (fun w => C .normal [] w) (fun b84 w => C .ret [.bool b84] w) (fun ch w => C (.panic ch) [] w) | _ => False

theorem T_law08_ConfSorted_3_hl : allP (hokL Tryz.prog (hookAt [(129613, H_law08_ConfSorted_4)]) (at_ (bodyOf Tryz.f3) [1, 1, 1, 1, 1, 0, 1, 0, 0]) 1012) = (UnitOk Tryz.prog H_law08_ConfSorted_4 (at_ (bodyOf Tryz.f3) [1, 1, 1, 1, 1, 0, 1, 0, 0, 1, 0, 0, 1, 1, 0, 1]) 129613 ∧ True) := by kernel_rfl
theorem T_law08_ConfSorted_3_hok : HOk Tryz.prog (hookAt [(129613, H_law08_ConfSorted_4)]) (at_ (bodyOf Tryz.f3) [1, 1, 1, 1, 1, 0, 1, 0, 0]) 1012 := HOk_of _ _ (by rw [T_law08_ConfSorted_3_hl]; exact ⟨T_law08_ConfSorted_4_ok, trivial⟩)

theorem T_law08_ConfSorted_3_eq (C : Conts) (X : List Value → World → Prop) (i44 : Int) (c45 : Addr) (w : World) : vcCode Tryz.prog (hookAt [(129613, H_law08_ConfSorted_4)]) (at_ (bodyOf Tryz.f3) [1, 1, 1, 1, 1, 0, 1, 0, 0]) 1012 ⟨[(8, .int .i64 i44)] ++ [(6, .pointer (some c45))], 143, []⟩ w (seqQ (fun e w => takeAll e [(8, .int .i64 0)] fun l => X l w) (blockQ 2 (unitQ T_law08_ConfSorted_3_outs C))) = T_law08_ConfSorted_3_body (fun i44 w => X [.int .i64 i44] w) i44 c45 w (fun w => C .normal [] w) (fun b85 w => C .ret [.bool b85] w) (fun ch w => C (.panic ch) [] w) := by kernel_rfl

theorem T_law08_ConfSorted_3_ok : UnitOk Tryz.prog H_law08_ConfSorted_3 (at_ (bodyOf Tryz.f3) [1, 1, 1, 1, 1, 0, 1]) 253 := by
  have hc : at_ (bodyOf Tryz.f3) [1, 1, 1, 1, 1, 0, 1] = .block 2 (.loop (at_ (bodyOf Tryz.f3) [1, 1, 1, 1, 1, 0, 1, 0, 0])) := by kernel_rfl
  rw [hc]
  refine loop_unit_ok (carr := [(8, .int .i64 0)]) (fix := [(6, .pointer (some ⟨0, 0, none⟩))]) (ks := T_law08_ConfSorted_3_ks) (H := (hookAt [(129613, H_law08_ConfSorted_4)])) (B := fun C X l u w => match l, u with | [v0], [v1] => T_law08_ConfSorted_3_body (fun i44 w => X [.int .i64 i44] w) (pInt v0) (pAddr v1) w (fun w => C .normal [] w) (fun b86 w => C .ret [.bool b86] w) (fun ch w => C (.panic ch) [] w) | _, _ => False) (by kernel_rfl) (by kernel_rfl) T_law08_ConfSorted_3_hok ?_ ?_
  · intro C X l u w hl hu
    obtain ⟨v0, l_v0, rfl, k_v0, hl_v0⟩ := Kinds.cons_ hl
    obtain ⟨i44, rfl⟩ := kind_int k_v0
    obtain rfl := Kinds.nil_ hl_v0
    obtain ⟨v1, l_v1, rfl, k_v1, hu_v1⟩ := Kinds.cons_ hu
    obtain ⟨c45, rfl⟩ := kind_addr k_v1
    obtain rfl := Kinds.nil_ hu_v1
    exact T_law08_ConfSorted_3_eq C X i44 c45 w
  · intro l u w C hl hu
    obtain ⟨v0, l_v0, rfl, k_v0, hl_v0⟩ := Kinds.cons_ hl
    obtain ⟨i44, rfl⟩ := kind_int k_v0
    obtain rfl := Kinds.nil_ hl_v0
    obtain ⟨v1, l_v1, rfl, k_v1, hu_v1⟩ := Kinds.cons_ hu
    obtain ⟨c45, rfl⟩ := kind_addr k_v1
    obtain rfl := Kinds.nil_ hu_v1
    constructor
    · intro h X hX
      exact h (fun i44 w => X [.int .i64 i44] w) (fun i44 w hb => hX [.int .i64 i44] w ⟨rfl, trivial⟩ hb)
    · intro h X hX
      exact h (fun l w => match l with | [v0] => X (pInt v0) w | _ => True) (fun l w hl hb => by
        obtain ⟨v0, l_v0, rfl, k_v0, hl_v0⟩ := Kinds.cons_ hl
        obtain ⟨i44, rfl⟩ := kind_int k_v0
        obtain rfl := Kinds.nil_ hl_v0
        exact hX i44 w hb)

def T_law08_ConfSorted (l1a : Option Addr) (l1l : Nat) (l1c : Nat) (w : World) (R : Ending → World → Prop) : Prop :=
  Calls Tryz.prog 13 #[.slice l1a l1l l1c] w (ret (fun r2 w3 => ∃ p4 : Option Addr, ∃ p5 : Option Addr, ∃ b6 : Bool, r2 = .tuple #[.pointer p4, .pointer p5, .bool b6] ∧ Calls Tryz.prog 14 #[.pointer p4] w3 (ret (fun r7 w8 => ∃ x9 : Int, ∃ s10a : Option Addr, ∃ s10l : Nat, ∃ s10c : Nat, ∃ s11a : Option Addr, ∃ s11l : Nat, ∃ s11c : Nat, r7 = .agg #[.int .i64 x9, .slice s10a s10l s10c, .slice s11a s11l s11c] ∧ let w12 : World := w8.alloc (.cells #[.int .i64 0, .slice none 0 0, .slice none 0 0] 30)
  (.agg #[.int .i64 x9, .slice s10a s10l s10c, .slice s11a s11l s11c] : Value).cells.size = 3 ∧ wrOk w12 (⟨w8.heap.size, 0, none⟩ : Addr) (.agg #[.int .i64 x9, .slice s10a s10l s10c, .slice s11a s11l s11c]) ∧ let w13 : World := wr w12 (⟨w8.heap.size, 0, none⟩ : Addr) (.agg #[.int .i64 x9, .slice s10a s10l s10c, .slice s11a s11l s11c])
  T_law08_ConfSorted_1 b6 (⟨w8.heap.size, 0, none⟩ : Addr) w13 (fun b21 w22 => if b21 = true then (R (.returned (.bool false)) w22) else (T_law08_ConfSorted_2 0 (⟨w8.heap.size, 0, none⟩ : Addr) w22 (fun w43 => T_law08_ConfSorted_3 0 (⟨w8.heap.size, 0, none⟩ : Addr) w43 (fun w87 => Calls Tryz.prog 15 #[] w87 (ret (fun r88 w89 => ∃ b90 : Bool, r88 = .bool b90 ∧ R (.returned (.bool b90)) w89) (pan R))) (fun b91 w92 => R (.returned (.bool b91)) w92) (pan R)) (fun b93 w94 => R (.returned (.bool b93)) w94) (pan R))) (pan R)) (pan R))) (pan R))

theorem T_law08_ConfSorted_hl : allP (hokL Tryz.prog (hookAt [(60, H_law08_ConfSorted_1), (125, H_law08_ConfSorted_2), (253, H_law08_ConfSorted_3)]) (bodyOf Tryz.f3) 1) = (UnitOk Tryz.prog H_law08_ConfSorted_1 (at_ (bodyOf Tryz.f3) [1, 1, 1, 0, 0]) 60 ∧ UnitOk Tryz.prog H_law08_ConfSorted_2 (at_ (bodyOf Tryz.f3) [1, 1, 1, 1, 0, 1]) 125 ∧ UnitOk Tryz.prog H_law08_ConfSorted_3 (at_ (bodyOf Tryz.f3) [1, 1, 1, 1, 1, 0, 1]) 253 ∧ True) := by kernel_rfl

theorem T_law08_ConfSorted_eq (l1a : Option Addr) (l1l : Nat) (l1c : Nat) (w : World) (R : Ending → World → Prop) : vcCode Tryz.prog (hookAt [(60, H_law08_ConfSorted_1), (125, H_law08_ConfSorted_2), (253, H_law08_ConfSorted_3)]) (bodyOf Tryz.f3) 1 ⟨argEnv [.slice l1a l1l l1c] 0, Tryz.f3.ntmps, []⟩ w (finQ Tryz.prog Tryz.f3.results.toList R) = T_law08_ConfSorted l1a l1l l1c w R := by kernel_rfl

theorem T_law08_ConfSorted_b : Tryz.f3.body = some (bodyOf Tryz.f3) := by kernel_rfl
theorem T_law08_ConfSorted_s : (quietSel (bodyOf Tryz.f3) && Nat.ble 1 Tryz.f3.ntmps) = true := by kernel_rfl

theorem C_law08_ConfSorted {l1a : Option Addr} {l1l : Nat} {l1c : Nat} {w : World} {R : Ending → World → Prop} (h : T_law08_ConfSorted l1a l1l l1c w R) : Calls Tryz.prog 3 #[.slice l1a l1l l1c] w R :=
  calls_of_text (args := [.slice l1a l1l l1c]) mixed Tryz.func3 T_law08_ConfSorted_b T_law08_ConfSorted_s (HOk_of _ _ (by rw [T_law08_ConfSorted_hl]; exact ⟨T_law08_ConfSorted_1_ok, T_law08_ConfSorted_2_ok, T_law08_ConfSorted_3_ok, trivial⟩)) (by rw [T_law08_ConfSorted_eq]; exact h)

end Go.Proofs.YtcpmfjclkdjfmaaGreat
