/-
  What the functions' code comes to; printed by a program of this claim's own.
-/
import Derived.Test.YtilhnmncbpnfjaaProg
import Derived.KernelRfl
import Derived.Test.YtilhnmncbpnfjaaGb
namespace Go.Proofs.Ytilhnmncbpnfjaa
open Go Go.Vc
set_option maxRecDepth 100000

/-! tollgate/tollgatelaw04.FlightClocks -/
def T_law04_FlightClocks_2 (l10a : Option Addr) (l10l : Nat) (l10c : Nat) (i11 : Int) (w : World) (Kn : Bool → World → Prop) (Kp : List PanicEntry → World → Prop) : Prop :=
  if (decide ((i11 : Int) < ((l10l : Nat) : Int))) = true then (Kn (decide ((i11 : Int) < 2000)) w) else (Kn false w)

def T_law04_FlightClocks_2_outs : Exit → Option (List (Nat × Value)) := fun x => match x with | .normal => some [(17, .bool false)] | .panic _ => some [] | _ => none

def T_law04_FlightClocks_2_ks : Nat → Bool := ksOf [10, 11, 12, 13, 14, 15, 16, 17]

def H_law04_FlightClocks_2 : Env → World → QT → Prop := unitHook 89 T_law04_FlightClocks_2_ks [(0, .slice none 0 0), (5, .int .i64 0)] T_law04_FlightClocks_2_outs fun l w C => match l with | [v0, v1] => T_law04_FlightClocks_2 (pA v0) (pL v0) (pC v0) (pInt v1) w (fun b13 w => C .normal [.bool b13] w) (fun ch w => C (.panic ch) [] w) | _ => False

theorem T_law04_FlightClocks_2_hl : allP (hokL Try.prog (hookAt []) (at_ (bodyOf Try.f3) [1, 1, 1, 0, 1, 0, 0, 0, 0]) 976) = (True) := by kernel_rfl
theorem T_law04_FlightClocks_2_hok : HOk Try.prog (hookAt []) (at_ (bodyOf Try.f3) [1, 1, 1, 0, 1, 0, 0, 0, 0]) 976 := HOk_of _ _ (by rw [T_law04_FlightClocks_2_hl]; exact trivial)

theorem T_law04_FlightClocks_2_eq (C : Conts) (l10a : Option Addr) (l10l : Nat) (l10c : Nat) (i11 : Int) (w : World) : vcCode Try.prog (hookAt []) (at_ (bodyOf Try.f3) [1, 1, 1, 0, 1, 0, 0, 0, 0]) 976 ⟨[(0, .slice l10a l10l l10c), (5, .int .i64 i11)], 89, []⟩ w (unitQ T_law04_FlightClocks_2_outs C) = T_law04_FlightClocks_2 l10a l10l l10c i11 w (fun b14 w => C .normal [.bool b14] w) (fun ch w => C (.panic ch) [] w) := by kernel_rfl

theorem T_law04_FlightClocks_2_ok : UnitOk Try.prog H_law04_FlightClocks_2 (at_ (bodyOf Try.f3) [1, 1, 1, 0, 1, 0, 0, 0, 0]) 976 := unit_ok (H := (hookAt [])) (by kernel_rfl) T_law04_FlightClocks_2_hok fun l w C hk => by
    obtain ⟨v0, l_v0, rfl, k_v0, hk_v0⟩ := Kinds.cons_ hk
    obtain ⟨l10a, l10l, l10c, rfl⟩ := kind_slice k_v0
    obtain ⟨v1, l_v1, rfl, k_v1, hk_v1⟩ := Kinds.cons_ hk_v0
    obtain ⟨i11, rfl⟩ := kind_int k_v1
    obtain rfl := Kinds.nil_ hk_v1
    exact T_law04_FlightClocks_2_eq C l10a l10l l10c i11 w

def T_law04_FlightClocks_3 (l23a : Option Addr) (l23l : Nat) (l23c : Nat) (i24 : Int) (w : World) (Kn : Bool → World → Prop) (Kp : List PanicEntry → World → Prop) : Prop :=
  0 ≤ (i24 : Int) ∧ (i24 : Int) < ((l23l : Nat) : Int) ∧ ∃ b25, l23a = some b25 ∧ ∃ x26 : Int, rd w (b25.add ((i24 : Int).toNat * 1)) (.int .i64 x26) ∧ if (decide ((x26 : Int) < 1)) = true then (Kn true w) else (0 ≤ (i24 : Int) ∧ (i24 : Int) < ((l23l : Nat) : Int) ∧ ∃ b27, l23a = some b27 ∧ ∃ x28 : Int, rd w (b27.add ((i24 : Int).toNat * 1)) (.int .i64 x28) ∧ Kn (decide ((x28 : Int) > 9)) w)

def T_law04_FlightClocks_3_outs : Exit → Option (List (Nat × Value)) := fun x => match x with | .normal => some [(40, .bool false)] | .panic _ => some [] | _ => none

def T_law04_FlightClocks_3_ks : Nat → Bool := ksOf [29, 30, 31, 32, 33, 34, 35, 36, 37, 38, 39, 40]

def H_law04_FlightClocks_3 : Env → World → QT → Prop := unitHook 89 T_law04_FlightClocks_3_ks [(0, .slice none 0 0), (5, .int .i64 0)] T_law04_FlightClocks_3_outs fun l w C => match l with | [v0, v1] => T_law04_FlightClocks_3 (pA v0) (pL v0) (pC v0) (pInt v1) w (fun b30 w => C .normal [.bool b30] w) (fun ch w => C (.panic ch) [] w) | _ => False

theorem T_law04_FlightClocks_3_hl : allP (hokL Try.prog (hookAt []) (at_ (bodyOf Try.f3) [1, 1, 1, 0, 1, 0, 0, 1, 0, 0, 1, 0, 0]) 15652) = (True) := by kernel_rfl
theorem T_law04_FlightClocks_3_hok : HOk Try.prog (hookAt []) (at_ (bodyOf Try.f3) [1, 1, 1, 0, 1, 0, 0, 1, 0, 0, 1, 0, 0]) 15652 := HOk_of _ _ (by rw [T_law04_FlightClocks_3_hl]; exact trivial)

theorem T_law04_FlightClocks_3_eq (C : Conts) (l23a : Option Addr) (l23l : Nat) (l23c : Nat) (i24 : Int) (w : World) : vcCode Try.prog (hookAt []) (at_ (bodyOf Try.f3) [1, 1, 1, 0, 1, 0, 0, 1, 0, 0, 1, 0, 0]) 15652 ⟨[(0, .slice l23a l23l l23c), (5, .int .i64 i24)], 89, []⟩ w (unitQ T_law04_FlightClocks_3_outs C) = T_law04_FlightClocks_3 l23a l23l l23c i24 w (fun b31 w => C .normal [.bool b31] w) (fun ch w => C (.panic ch) [] w) := by kernel_rfl

theorem T_law04_FlightClocks_3_ok : UnitOk Try.prog H_law04_FlightClocks_3 (at_ (bodyOf Try.f3) [1, 1, 1, 0, 1, 0, 0, 1, 0, 0, 1, 0, 0]) 15652 := unit_ok (H := (hookAt [])) (by kernel_rfl) T_law04_FlightClocks_3_hok fun l w C hk => by
    obtain ⟨v0, l_v0, rfl, k_v0, hk_v0⟩ := Kinds.cons_ hk
    obtain ⟨l23a, l23l, l23c, rfl⟩ := kind_slice k_v0
    obtain ⟨v1, l_v1, rfl, k_v1, hk_v1⟩ := Kinds.cons_ hk_v0
    obtain ⟨i24, rfl⟩ := kind_int k_v1
    obtain rfl := Kinds.nil_ hk_v1
    exact T_law04_FlightClocks_3_eq C l23a l23l l23c i24 w

def T_law04_FlightClocks_4 (t34 : Int) (e35 : Int) (w : World) (Kn : Bool → World → Prop) (Kp : List PanicEntry → World → Prop) : Prop :=
  if ((e35 : Int) != 2) = true then (Kn true w) else (Kn ((t34 : Int) != 0) w)

def T_law04_FlightClocks_4_outs : Exit → Option (List (Nat × Value)) := fun x => match x with | .normal => some [(46, .bool false)] | .panic _ => some [] | _ => none

def T_law04_FlightClocks_4_ks : Nat → Bool := ksOf [41, 42, 43, 44, 45, 46]

def H_law04_FlightClocks_4 : Env → World → QT → Prop := unitHook 89 T_law04_FlightClocks_4_ks [(6, .int .i64 0), (7, .int .i64 0)] T_law04_FlightClocks_4_outs fun l w C => match l with | [v0, v1] => T_law04_FlightClocks_4 (pInt v0) (pInt v1) w (fun b37 w => C .normal [.bool b37] w) (fun ch w => C (.panic ch) [] w) | _ => False

theorem T_law04_FlightClocks_4_hl : allP (hokL Try.prog (hookAt []) (at_ (bodyOf Try.f3) [1, 1, 1, 0, 1, 0, 0, 1, 0, 0, 1, 0, 1, 0, 0, 0]) 125224) = (True) := by kernel_rfl
theorem T_law04_FlightClocks_4_hok : HOk Try.prog (hookAt []) (at_ (bodyOf Try.f3) [1, 1, 1, 0, 1, 0, 0, 1, 0, 0, 1, 0, 1, 0, 0, 0]) 125224 := HOk_of _ _ (by rw [T_law04_FlightClocks_4_hl]; exact trivial)

theorem T_law04_FlightClocks_4_eq (C : Conts) (t34 : Int) (e35 : Int) (w : World) : vcCode Try.prog (hookAt []) (at_ (bodyOf Try.f3) [1, 1, 1, 0, 1, 0, 0, 1, 0, 0, 1, 0, 1, 0, 0, 0]) 125224 ⟨[(6, .int .i64 t34), (7, .int .i64 e35)], 89, []⟩ w (unitQ T_law04_FlightClocks_4_outs C) = T_law04_FlightClocks_4 t34 e35 w (fun b38 w => C .normal [.bool b38] w) (fun ch w => C (.panic ch) [] w) := by kernel_rfl

theorem T_law04_FlightClocks_4_ok : UnitOk Try.prog H_law04_FlightClocks_4 (at_ (bodyOf Try.f3) [1, 1, 1, 0, 1, 0, 0, 1, 0, 0, 1, 0, 1, 0, 0, 0]) 125224 := unit_ok (H := (hookAt [])) (by kernel_rfl) T_law04_FlightClocks_4_hok fun l w C hk => by
    obtain ⟨v0, l_v0, rfl, k_v0, hk_v0⟩ := Kinds.cons_ hk
    obtain ⟨t34, rfl⟩ := kind_int k_v0
    obtain ⟨v1, l_v1, rfl, k_v1, hk_v1⟩ := Kinds.cons_ hk_v0
    obtain ⟨e35, rfl⟩ := kind_int k_v1
    obtain rfl := Kinds.nil_ hk_v1
    exact T_law04_FlightClocks_4_eq C t34 e35 w

def T_law04_FlightClocks_1_body (X : Int → World → Prop) (i6 : Int) (l7a : Option Addr) (l7l : Nat) (l7c : Nat) (n8 : Option Addr) (count9 : Addr) (w : World) (Kn : World → Prop) (Kr : Bool → World → Prop) (Kp : List PanicEntry → World → Prop)  : Prop :=
  T_law04_FlightClocks_2 l7a l7l l7c i6 w (fun b15 w16 => if b15 = true then (0 ≤ (i6 : Int) ∧ (i6 : Int) < ((l7l : Nat) : Int) ∧ ∃ b17, l7a = some b17 ∧ ∃ x18 : Int, rd w16 (b17.add ((i6 : Int).toNat * 1)) (.int .i64 x18) ∧ Calls Try.prog 13 #[.pointer n8, .int .i64 x18] w16 (ret (fun r19 w20 => ∃ x21 : Int, ∃ x22 : Int, r19 = .tuple #[.int .i64 x21, .int .i64 x22] ∧ T_law04_FlightClocks_3 l7a l7l l7c i6 w20 (fun b32 w33 => if b32 = true then (T_law04_FlightClocks_4 x21 x22 w33 (fun b39 w40 => if b39 = true then (Kr false w40) else (X (IntKind.wrap .i64 ((i6 : Int) + 1)) w40)) Kp) else (0 ≤ (i6 : Int) ∧ (i6 : Int) < ((l7l : Nat) : Int) ∧ ∃ b41, l7a = some b41 ∧ ∃ x42 : Int, rd w33 (b41.add ((i6 : Int).toNat * 1)) (.int .i64 x42) ∧ 0 ≤ (x42 : Int) ∧ (x42 : Int) < 10 ∧ ∃ x43 : Int, rd w33 (count9.add ((x42 : Int).toNat * 1)) (.int .i64 x43) ∧ 0 ≤ (x42 : Int) ∧ (x42 : Int) < 10 ∧ (.int .i64 (IntKind.wrap .i64 ((x43 : Int) + 1)) : Value).cells.size = 1 ∧ wrOk w33 (count9.add ((x42 : Int).toNat * 1)) (.int .i64 (IntKind.wrap .i64 ((x43 : Int) + 1))) ∧ let w44 : World := wr w33 (count9.add ((x42 : Int).toNat * 1)) (.int .i64 (IntKind.wrap .i64 ((x43 : Int) + 1)))
  if ((x22 : Int) != 0) = true then (Kr false w44) else (0 ≤ (i6 : Int) ∧ (i6 : Int) < ((l7l : Nat) : Int) ∧ ∃ b45, l7a = some b45 ∧ ∃ x46 : Int, rd w44 (b45.add ((i6 : Int).toNat * 1)) (.int .i64 x46) ∧ 0 ≤ (x46 : Int) ∧ (x46 : Int) < 10 ∧ ∃ x47 : Int, rd w44 (count9.add ((x46 : Int).toNat * 1)) (.int .i64 x47) ∧ if ((x21 : Int) != x47) = true then (Kr false w44) else (X (IntKind.wrap .i64 ((i6 : Int) + 1)) w44)))) Kp) Kp)) else (Kn  w16)) Kp

def T_law04_FlightClocks_1 (i6 : Int) (l7a : Option Addr) (l7l : Nat) (l7c : Nat) (n8 : Option Addr) (count9 : Addr) (w : World) (Kn : World → Prop) (Kr : Bool → World → Prop) (Kp : List PanicEntry → World → Prop) : Prop :=
  ∀ X : Int → World → Prop, (∀ (i6 : Int) (w : World), T_law04_FlightClocks_1_body X i6 l7a l7l l7c n8 count9 w Kn Kr Kp → X i6 w) → X i6 w

def T_law04_FlightClocks_1_outs : Exit → Option (List (Nat × Value)) := fun x => match x with | .normal => some [] | .ret => some [(2, .bool false)] | .panic _ => some [] | _ => none

def T_law04_FlightClocks_1_ks : Nat → Bool := ksOf [2, 5, 6, 7, 10, 11, 12, 13, 14, 15, 16, 17, 18, 19, 20, 21, 22, 23, 24, 25, 26, 27, 28, 29, 30, 31, 32, 33, 34, 35, 36, 37, 38, 39, 40, 41, 42, 43, 44, 45, 46, 47, 48, 49, 50, 51, 52, 53, 54, 55, 56, 57, 58, 59, 60, 61, 62, 63, 64, 65, 66]

def H_law04_FlightClocks_1 : Env → World → QT → Prop := unitHook 89 T_law04_FlightClocks_1_ks [(5, .int .i64 0), (0, .slice none 0 0), (3, .pointer none), (4, .pointer (some ⟨0, 0, none⟩))] T_law04_FlightClocks_1_outs fun l w C => match l with | [v0, v1, v2, v3] => T_law04_FlightClocks_1 (pInt v0) (pA v1) (pL v1) (pC v1) (pPtr v2) (pAddr v3) w (fun w => C .normal [] w) (fun b49 w => C .ret [.bool b49] w) (fun ch w => C (.panic ch) [] w) | _ => False

theorem T_law04_FlightClocks_1_hl : allP (hokL Try.prog (hookAt [(976, H_law04_FlightClocks_2), (15652, H_law04_FlightClocks_3), (125224, H_law04_FlightClocks_4)]) (at_ (bodyOf Try.f3) [1, 1, 1, 0, 1, 0, 0]) 244) = (UnitOk Try.prog H_law04_FlightClocks_2 (at_ (bodyOf Try.f3) [1, 1, 1, 0, 1, 0, 0, 0, 0]) 976 ∧ UnitOk Try.prog H_law04_FlightClocks_3 (at_ (bodyOf Try.f3) [1, 1, 1, 0, 1, 0, 0, 1, 0, 0, 1, 0, 0]) 15652 ∧ UnitOk Try.prog H_law04_FlightClocks_4 (at_ (bodyOf Try.f3) [1, 1, 1, 0, 1, 0, 0, 1, 0, 0, 1, 0, 1, 0, 0, 0]) 125224 ∧ True) := by kernel_rfl
theorem T_law04_FlightClocks_1_hok : HOk Try.prog (hookAt [(976, H_law04_FlightClocks_2), (15652, H_law04_FlightClocks_3), (125224, H_law04_FlightClocks_4)]) (at_ (bodyOf Try.f3) [1, 1, 1, 0, 1, 0, 0]) 244 := HOk_of _ _ (by rw [T_law04_FlightClocks_1_hl]; exact ⟨T_law04_FlightClocks_2_ok, T_law04_FlightClocks_3_ok, T_law04_FlightClocks_4_ok, trivial⟩)

theorem T_law04_FlightClocks_1_eq (C : Conts) (X : List Value → World → Prop) (i6 : Int) (l7a : Option Addr) (l7l : Nat) (l7c : Nat) (n8 : Option Addr) (count9 : Addr) (w : World) : vcCode Try.prog (hookAt [(976, H_law04_FlightClocks_2), (15652, H_law04_FlightClocks_3), (125224, H_law04_FlightClocks_4)]) (at_ (bodyOf Try.f3) [1, 1, 1, 0, 1, 0, 0]) 244 ⟨[(5, .int .i64 i6)] ++ [(0, .slice l7a l7l l7c), (3, .pointer n8), (4, .pointer (some count9))], 89, []⟩ w (seqQ (fun e w => takeAll e [(5, .int .i64 0)] fun l => X l w) (blockQ 0 (unitQ T_law04_FlightClocks_1_outs C))) = T_law04_FlightClocks_1_body (fun i6 w => X [.int .i64 i6] w) i6 l7a l7l l7c n8 count9 w (fun w => C .normal [] w) (fun b50 w => C .ret [.bool b50] w) (fun ch w => C (.panic ch) [] w) := by kernel_rfl

theorem T_law04_FlightClocks_1_ok : UnitOk Try.prog H_law04_FlightClocks_1 (at_ (bodyOf Try.f3) [1, 1, 1, 0, 1]) 61 := by
  have hc : at_ (bodyOf Try.f3) [1, 1, 1, 0, 1] = .block 0 (.loop (at_ (bodyOf Try.f3) [1, 1, 1, 0, 1, 0, 0])) := by kernel_rfl
  rw [hc]
  refine loop_unit_ok (carr := [(5, .int .i64 0)]) (fix := [(0, .slice none 0 0), (3, .pointer none), (4, .pointer (some ⟨0, 0, none⟩))]) (ks := T_law04_FlightClocks_1_ks) (H := (hookAt [(976, H_law04_FlightClocks_2), (15652, H_law04_FlightClocks_3), (125224, H_law04_FlightClocks_4)])) (B := fun C X l u w => match l, u with | [v0], [v1, v2, v3] => T_law04_FlightClocks_1_body (fun i6 w => X [.int .i64 i6] w) (pInt v0) (pA v1) (pL v1) (pC v1) (pPtr v2) (pAddr v3) w (fun w => C .normal [] w) (fun b51 w => C .ret [.bool b51] w) (fun ch w => C (.panic ch) [] w) | _, _ => False) (by kernel_rfl) (by kernel_rfl) T_law04_FlightClocks_1_hok ?_ ?_
  · intro C X l u w hl hu
    obtain ⟨v0, l_v0, rfl, k_v0, hl_v0⟩ := Kinds.cons_ hl
    obtain ⟨i6, rfl⟩ := kind_int k_v0
    obtain rfl := Kinds.nil_ hl_v0
    obtain ⟨v1, l_v1, rfl, k_v1, hu_v1⟩ := Kinds.cons_ hu
    obtain ⟨l7a, l7l, l7c, rfl⟩ := kind_slice k_v1
    obtain ⟨v2, l_v2, rfl, k_v2, hu_v2⟩ := Kinds.cons_ hu_v1
    obtain ⟨n8, rfl⟩ := kind_pointer k_v2
    obtain ⟨v3, l_v3, rfl, k_v3, hu_v3⟩ := Kinds.cons_ hu_v2
    obtain ⟨count9, rfl⟩ := kind_addr k_v3
    obtain rfl := Kinds.nil_ hu_v3
    exact T_law04_FlightClocks_1_eq C X i6 l7a l7l l7c n8 count9 w
  · intro l u w C hl hu
    obtain ⟨v0, l_v0, rfl, k_v0, hl_v0⟩ := Kinds.cons_ hl
    obtain ⟨i6, rfl⟩ := kind_int k_v0
    obtain rfl := Kinds.nil_ hl_v0
    obtain ⟨v1, l_v1, rfl, k_v1, hu_v1⟩ := Kinds.cons_ hu
    obtain ⟨l7a, l7l, l7c, rfl⟩ := kind_slice k_v1
    obtain ⟨v2, l_v2, rfl, k_v2, hu_v2⟩ := Kinds.cons_ hu_v1
    obtain ⟨n8, rfl⟩ := kind_pointer k_v2
    obtain ⟨v3, l_v3, rfl, k_v3, hu_v3⟩ := Kinds.cons_ hu_v2
    obtain ⟨count9, rfl⟩ := kind_addr k_v3
    obtain rfl := Kinds.nil_ hu_v3
    constructor
    · intro h X hX
      exact h (fun i6 w => X [.int .i64 i6] w) (fun i6 w hb => hX [.int .i64 i6] w ⟨rfl, trivial⟩ hb)
    · intro h X hX
      exact h (fun l w => match l with | [v0] => X (pInt v0) w | _ => True) (fun l w hl hb => by
        obtain ⟨v0, l_v0, rfl, k_v0, hl_v0⟩ := Kinds.cons_ hl
        obtain ⟨i6, rfl⟩ := kind_int k_v0
        obtain rfl := Kinds.nil_ hl_v0
        exact hX i6 w hb)

def T_law04_FlightClocks_5_body (X : Int → World → Prop) (k53 : Int) (n54 : Option Addr) (count55 : Addr) (w : World) (Kn : World → Prop) (Kr : Bool → World → Prop) (Kp : List PanicEntry → World → Prop)  : Prop :=
  if (decide ((k53 : Int) ≤ 9)) = true then (let w56 : World := w.drew
  0 ≤ (k53 : Int) ∧ (k53 : Int) < 10 ∧ ∃ x57 : Int, rd w56 (count55.add ((k53 : Int).toNat * 1)) (.int .i64 x57) ∧ Calls Try.prog 14 #[.pointer n54, .int .i64 k53] w56 (ret (fun r58 w59 => ∃ x60 : Int, r58 = .int .i64 x60 ∧ (rd w59 (count55.add ((k53 : Int).toNat * 1)) (.int .i64 x57) ∧ True) ∧ if ((x60 : Int) != x57) = true then (Kr false w59) else (X (IntKind.wrap .i64 ((k53 : Int) + 1)) w59)) Kp)) else (Kn  w)

def T_law04_FlightClocks_5 (k53 : Int) (n54 : Option Addr) (count55 : Addr) (w : World) (Kn : World → Prop) (Kr : Bool → World → Prop) (Kp : List PanicEntry → World → Prop) : Prop :=
  ∀ X : Int → World → Prop, (∀ (k53 : Int) (w : World), T_law04_FlightClocks_5_body X k53 n54 count55 w Kn Kr Kp → X k53 w) → X k53 w

def T_law04_FlightClocks_5_outs : Exit → Option (List (Nat × Value)) := fun x => match x with | .normal => some [] | .ret => some [(2, .bool false)] | .panic _ => some [] | _ => none

def T_law04_FlightClocks_5_ks : Nat → Bool := ksOf [2, 8, 67, 68, 69, 70, 71, 72, 73, 74, 75, 76, 77]

def H_law04_FlightClocks_5 : Env → World → QT → Prop := unitHook 89 T_law04_FlightClocks_5_ks [(8, .int .i64 0), (3, .pointer none), (4, .pointer (some ⟨0, 0, none⟩))] T_law04_FlightClocks_5_outs fun l w C => match l with | [v0, v1, v2] => T_law04_FlightClocks_5 (pInt v0) (pPtr v1) (pAddr v2) w (fun w => C .normal [] w) (fun b62 w => C .ret [.bool b62] w) (fun ch w => C (.panic ch) [] w) | _ => False

theorem T_law04_FlightClocks_5_hl : allP (hokL Try.prog (hookAt []) (at_ (bodyOf Try.f3) [1, 1, 1, 1, 0, 1, 0, 0]) 500) = (True) := by kernel_rfl
theorem T_law04_FlightClocks_5_hok : HOk Try.prog (hookAt []) (at_ (bodyOf Try.f3) [1, 1, 1, 1, 0, 1, 0, 0]) 500 := HOk_of _ _ (by rw [T_law04_FlightClocks_5_hl]; exact trivial)

theorem T_law04_FlightClocks_5_eq (C : Conts) (X : List Value → World → Prop) (k53 : Int) (n54 : Option Addr) (count55 : Addr) (w : World) : vcCode Try.prog (hookAt []) (at_ (bodyOf Try.f3) [1, 1, 1, 1, 0, 1, 0, 0]) 500 ⟨[(8, .int .i64 k53)] ++ [(3, .pointer n54), (4, .pointer (some count55))], 89, []⟩ w (seqQ (fun e w => takeAll e [(8, .int .i64 0)] fun l => X l w) (blockQ 2 (unitQ T_law04_FlightClocks_5_outs C))) = T_law04_FlightClocks_5_body (fun k53 w => X [.int .i64 k53] w) k53 n54 count55 w (fun w => C .normal [] w) (fun b63 w => C .ret [.bool b63] w) (fun ch w => C (.panic ch) [] w) := by kernel_rfl

theorem T_law04_FlightClocks_5_ok : UnitOk Try.prog H_law04_FlightClocks_5 (at_ (bodyOf Try.f3) [1, 1, 1, 1, 0, 1]) 125 := by
  have hc : at_ (bodyOf Try.f3) [1, 1, 1, 1, 0, 1] = .block 2 (.loop (at_ (bodyOf Try.f3) [1, 1, 1, 1, 0, 1, 0, 0])) := by kernel_rfl
  rw [hc]
  refine loop_unit_ok (carr := [(8, .int .i64 0)]) (fix := [(3, .pointer none), (4, .pointer (some ⟨0, 0, none⟩))]) (ks := T_law04_FlightClocks_5_ks) (H := (hookAt [])) (B := fun C X l u w => match l, u with | [v0], [v1, v2] => T_law04_FlightClocks_5_body (fun k53 w => X [.int .i64 k53] w) (pInt v0) (pPtr v1) (pAddr v2) w (fun w => C .normal [] w) (fun b64 w => C .ret [.bool b64] w) (fun ch w => C (.panic ch) [] w) | _, _ => False) (by kernel_rfl) (by kernel_rfl) T_law04_FlightClocks_5_hok ?_ ?_
  · intro C X l u w hl hu
    obtain ⟨v0, l_v0, rfl, k_v0, hl_v0⟩ := Kinds.cons_ hl
    obtain ⟨k53, rfl⟩ := kind_int k_v0
    obtain rfl := Kinds.nil_ hl_v0
    obtain ⟨v1, l_v1, rfl, k_v1, hu_v1⟩ := Kinds.cons_ hu
    obtain ⟨n54, rfl⟩ := kind_pointer k_v1
    obtain ⟨v2, l_v2, rfl, k_v2, hu_v2⟩ := Kinds.cons_ hu_v1
    obtain ⟨count55, rfl⟩ := kind_addr k_v2
    obtain rfl := Kinds.nil_ hu_v2
    exact T_law04_FlightClocks_5_eq C X k53 n54 count55 w
  · intro l u w C hl hu
    obtain ⟨v0, l_v0, rfl, k_v0, hl_v0⟩ := Kinds.cons_ hl
    obtain ⟨k53, rfl⟩ := kind_int k_v0
    obtain rfl := Kinds.nil_ hl_v0
    obtain ⟨v1, l_v1, rfl, k_v1, hu_v1⟩ := Kinds.cons_ hu
    obtain ⟨n54, rfl⟩ := kind_pointer k_v1
    obtain ⟨v2, l_v2, rfl, k_v2, hu_v2⟩ := Kinds.cons_ hu_v1
    obtain ⟨count55, rfl⟩ := kind_addr k_v2
    obtain rfl := Kinds.nil_ hu_v2
    constructor
    · intro h X hX
      exact h (fun k53 w => X [.int .i64 k53] w) (fun k53 w hb => hX [.int .i64 k53] w ⟨rfl, trivial⟩ hb)
    · intro h X hX
      exact h (fun l w => match l with | [v0] => X (pInt v0) w | _ => True) (fun l w hl hb => by
        obtain ⟨v0, l_v0, rfl, k_v0, hl_v0⟩ := Kinds.cons_ hl
        obtain ⟨k53, rfl⟩ := kind_int k_v0
        obtain rfl := Kinds.nil_ hl_v0
        exact hX k53 w hb)

def T_law04_FlightClocks (l1a : Option Addr) (l1l : Nat) (l1c : Nat) (w : World) (R : Ending → World → Prop) : Prop :=
  Calls Try.prog 12 #[] w (ret (fun r2 w3 => ∃ p4 : Option Addr, r2 = .pointer p4 ∧ let w5 : World := w3.alloc (.cells #[.int .i64 0, .int .i64 0, .int .i64 0, .int .i64 0, .int .i64 0, .int .i64 0, .int .i64 0, .int .i64 0, .int .i64 0, .int .i64 0] 25)
  T_law04_FlightClocks_1 0 l1a l1l l1c p4 (⟨w3.heap.size, 0, none⟩ : Addr) w5 (fun w52 => T_law04_FlightClocks_5 1 p4 (⟨w3.heap.size, 0, none⟩ : Addr) w52 (fun w65 => Calls Try.prog 15 #[] w65 (ret (fun r66 w67 => ∃ b68 : Bool, r66 = .bool b68 ∧ if b68 = true then (Calls Try.prog 14 #[.pointer p4, .int .i64 0] w67 (ret (fun r69 w70 => ∃ x71 : Int, r69 = .int .i64 x71 ∧ if ((x71 : Int) == 0) = true then (Calls Try.prog 14 #[.pointer p4, .int .i64 10] w70 (ret (fun r72 w73 => ∃ x74 : Int, r72 = .int .i64 x74 ∧ R (.returned (.bool ((x74 : Int) == 0))) w73) (pan R))) else (R (.returned (.bool false)) w70)) (pan R))) else (R (.returned (.bool false)) w67)) (pan R))) (fun b75 w76 => R (.returned (.bool b75)) w76) (pan R)) (fun b77 w78 => R (.returned (.bool b77)) w78) (pan R)) (pan R))

theorem T_law04_FlightClocks_hl : allP (hokL Try.prog (hookAt [(61, H_law04_FlightClocks_1), (125, H_law04_FlightClocks_5)]) (bodyOf Try.f3) 1) = (UnitOk Try.prog H_law04_FlightClocks_1 (at_ (bodyOf Try.f3) [1, 1, 1, 0, 1]) 61 ∧ UnitOk Try.prog H_law04_FlightClocks_5 (at_ (bodyOf Try.f3) [1, 1, 1, 1, 0, 1]) 125 ∧ True) := by kernel_rfl

theorem T_law04_FlightClocks_eq (l1a : Option Addr) (l1l : Nat) (l1c : Nat) (w : World) (R : Ending → World → Prop) : vcCode Try.prog (hookAt [(61, H_law04_FlightClocks_1), (125, H_law04_FlightClocks_5)]) (bodyOf Try.f3) 1 ⟨argEnv [.slice l1a l1l l1c] 0, Try.f3.ntmps, []⟩ w (finQ Try.prog Try.f3.results.toList R) = T_law04_FlightClocks l1a l1l l1c w R := by kernel_rfl

theorem T_law04_FlightClocks_b : Try.f3.body = some (bodyOf Try.f3) := by kernel_rfl
theorem T_law04_FlightClocks_s : (quietSel (bodyOf Try.f3) && Nat.ble 1 Try.f3.ntmps) = true := by kernel_rfl

theorem C_law04_FlightClocks {l1a : Option Addr} {l1l : Nat} {l1c : Nat} {w : World} {R : Ending → World → Prop} (h : T_law04_FlightClocks l1a l1l l1c w R) : Calls Try.prog 3 #[.slice l1a l1l l1c] w R :=
  calls_of_text (args := [.slice l1a l1l l1c]) mixed Try.func3 T_law04_FlightClocks_b T_law04_FlightClocks_s (HOk_of _ _ (by rw [T_law04_FlightClocks_hl]; exact ⟨T_law04_FlightClocks_1_ok, T_law04_FlightClocks_5_ok, trivial⟩)) (by rw [T_law04_FlightClocks_eq]; exact h)

/-! tollgate/tollgatelaw04.FlightTaken -/
def T_law04_FlightTaken_2 (d80 : Addr) (under81a : Option Addr) (under81l : Nat) (under81c : Nat) (w : World) (Kn : Bool → World → Prop) (Kp : List PanicEntry → World → Prop) : Prop :=
  ∃ x82 : Int, rd w (d80.add 3) (.int .i64 x82) ∧ if (decide ((x82 : Int) < 0)) = true then (Kn true w) else (∃ x83 : Int, rd w (d80.add 3) (.int .i64 x83) ∧ Kn (decide ((x83 : Int) ≥ ((under81l : Nat) : Int))) w)

def T_law04_FlightTaken_2_outs : Exit → Option (List (Nat × Value)) := fun x => match x with | .normal => some [(122, .bool false)] | .panic _ => some [] | _ => none

def T_law04_FlightTaken_2_ks : Nat → Bool := ksOf [113, 114, 115, 116, 117, 118, 119, 120, 121, 122]

def H_law04_FlightTaken_2 : Env → World → QT → Prop := unitHook 145 T_law04_FlightTaken_2_ks [(7, .pointer (some ⟨0, 0, none⟩)), (12, .slice none 0 0)] T_law04_FlightTaken_2_outs fun l w C => match l with | [v0, v1] => T_law04_FlightTaken_2 (pAddr v0) (pA v1) (pL v1) (pC v1) w (fun b85 w => C .normal [.bool b85] w) (fun ch w => C (.panic ch) [] w) | _ => False

theorem T_law04_FlightTaken_2_hl : allP (hokL Try.prog (hookAt []) (at_ (bodyOf Try.f4) [1, 1, 1, 1, 0, 1, 0, 0, 1, 0, 0, 1, 1, 0, 1, 1, 1, 1, 1, 0, 1, 1, 1, 0, 0, 0]) 131231672) = (True) := by kernel_rfl
theorem T_law04_FlightTaken_2_hok : HOk Try.prog (hookAt []) (at_ (bodyOf Try.f4) [1, 1, 1, 1, 0, 1, 0, 0, 1, 0, 0, 1, 1, 0, 1, 1, 1, 1, 1, 0, 1, 1, 1, 0, 0, 0]) 131231672 := HOk_of _ _ (by rw [T_law04_FlightTaken_2_hl]; exact trivial)

theorem T_law04_FlightTaken_2_eq (C : Conts) (d80 : Addr) (under81a : Option Addr) (under81l : Nat) (under81c : Nat) (w : World) : vcCode Try.prog (hookAt []) (at_ (bodyOf Try.f4) [1, 1, 1, 1, 0, 1, 0, 0, 1, 0, 0, 1, 1, 0, 1, 1, 1, 1, 1, 0, 1, 1, 1, 0, 0, 0]) 131231672 ⟨[(7, .pointer (some d80)), (12, .slice under81a under81l under81c)], 145, []⟩ w (unitQ T_law04_FlightTaken_2_outs C) = T_law04_FlightTaken_2 d80 under81a under81l under81c w (fun b86 w => C .normal [.bool b86] w) (fun ch w => C (.panic ch) [] w) := by kernel_rfl

theorem T_law04_FlightTaken_2_ok : UnitOk Try.prog H_law04_FlightTaken_2 (at_ (bodyOf Try.f4) [1, 1, 1, 1, 0, 1, 0, 0, 1, 0, 0, 1, 1, 0, 1, 1, 1, 1, 1, 0, 1, 1, 1, 0, 0, 0]) 131231672 := unit_ok (H := (hookAt [])) (by kernel_rfl) T_law04_FlightTaken_2_hok fun l w C hk => by
    obtain ⟨v0, l_v0, rfl, k_v0, hk_v0⟩ := Kinds.cons_ hk
    obtain ⟨d80, rfl⟩ := kind_addr k_v0
    obtain ⟨v1, l_v1, rfl, k_v1, hk_v1⟩ := Kinds.cons_ hk_v0
    obtain ⟨under81a, under81l, under81c, rfl⟩ := kind_slice k_v1
    obtain rfl := Kinds.nil_ hk_v1
    exact T_law04_FlightTaken_2_eq C d80 under81a under81l under81c w

def T_law04_FlightTaken_1_body (X : Option Addr → Nat → Nat → Int → World → Prop) (put6a : Option Addr) (put6l : Nat) (put6c : Nat) (i7 : Int) (l8a : Option Addr) (l8l : Nat) (l8c : Nat) (n9 : Option Addr) (took10 : Option Nat) (w : World) (Kn : Option Addr → Nat → Nat → World → Prop) (Kr : Bool → World → Prop) (Kp : List PanicEntry → World → Prop)  : Prop :=
  Calls Try.prog 16 #[.slice l8a l8l l8c] w (ret (fun r11 w12 => ∃ x13 : Int, r11 = .int .i64 x13 ∧ if (decide ((i7 : Int) < x13)) = true then (0 ≤ (i7 : Int) ∧ (i7 : Int) < ((l8l : Nat) : Int) ∧ ∃ b14, l8a = some b14 ∧ ∃ x15 : Int, ∃ x16 : Int, ∃ x17 : Int, ∃ x18 : Int, ∃ s19a : Option Addr, ∃ s19l : Nat, ∃ s19c : Nat, rd w12 (b14.add ((i7 : Int).toNat * 5)) (.agg #[.int .i64 x15, .int .i64 x16, .int .i64 x17, .int .i64 x18, .slice s19a s19l s19c]) ∧ let w20 : World := w12.alloc (.cells #[.int .i64 0, .int .i64 0, .int .i64 0, .int .i64 0, .slice none 0 0] 38)
  (.agg #[.int .i64 x15, .int .i64 x16, .int .i64 x17, .int .i64 x18, .slice s19a s19l s19c] : Value).cells.size = 5 ∧ wrOk w20 (⟨w12.heap.size, 0, none⟩ : Addr) (.agg #[.int .i64 x15, .int .i64 x16, .int .i64 x17, .int .i64 x18, .slice s19a s19l s19c]) ∧ let w21 : World := wr w20 (⟨w12.heap.size, 0, none⟩ : Addr) (.agg #[.int .i64 x15, .int .i64 x16, .int .i64 x17, .int .i64 x18, .slice s19a s19l s19c])
  ∃ x22 : Int, rd w21 (⟨w12.heap.size, 0, none⟩ : Addr) (.int .i64 x22) ∧ if ((x22 : Int) == 0) = true then (∃ x23 : Int, rd w21 ((⟨w12.heap.size, 0, none⟩ : Addr).add 1) (.int .i64 x23) ∧ ∃ x24 : Int, rd w21 ((⟨w12.heap.size, 0, none⟩ : Addr).add 2) (.int .i64 x24) ∧ ∃ s25a : Option Addr, ∃ s25l : Nat, ∃ s25c : Nat, rd w21 ((⟨w12.heap.size, 0, none⟩ : Addr).add 4) (.slice s25a s25l s25c) ∧ Calls Try.prog 17 #[.pointer n9, .int .i64 x23, .int .i64 x24, .slice s25a s25l s25c] w21 (ret (fun r26 w27 => ∃ x28 : Int, ∃ x29 : Int, r26 = .tuple #[.int .i64 x28, .int .i64 x29] ∧ if ((x29 : Int) == 0) = true then (∃ x30 : Int, rd w27 ((⟨w12.heap.size, 0, none⟩ : Addr).add 1) (.int .i64 x30) ∧ ∃ x31 : Int, rd w27 ((⟨w12.heap.size, 0, none⟩ : Addr).add 2) (.int .i64 x31) ∧ ∃ s32a : Option Addr, ∃ s32l : Nat, ∃ s32c : Nat, rd w27 ((⟨w12.heap.size, 0, none⟩ : Addr).add 4) (.slice s32a s32l s32c) ∧ let w33 : World := w27.alloc (.cells #[.int .i64 x28, .int .i64 x30, .int .i64 x31, .slice s32a s32l s32c] 41)
  runV Try.prog (Builtin.append_ #[33, 33] 33 #[.slice put6a put6l put6c, .slice (some (⟨w27.heap.size, 0, none⟩ : Addr)) 1 1]) w33 (fun r34 w35 => ∃ s36a : Option Addr, ∃ s36l : Nat, ∃ s36c : Nat, r34 = .slice s36a s36l s36c ∧ X s36a s36l s36c (IntKind.wrap .i64 ((i7 : Int) + 1)) w35) Kp) else (X put6a put6l put6c (IntKind.wrap .i64 ((i7 : Int) + 1)) w27)) Kp)) else (if ((x22 : Int) == 1) = true then (∃ x37 : Int, rd w21 ((⟨w12.heap.size, 0, none⟩ : Addr).add 3) (.int .i64 x37) ∧ Calls Try.prog 18 #[.pointer n9, .int .i64 x37] w21 (ret (fun r38 w39 => ∃ x40 : Int, ∃ x41 : Int, ∃ x42 : Int, ∃ s43a : Option Addr, ∃ s43l : Nat, ∃ s43c : Nat, ∃ x44 : Int, r38 = .tuple #[.agg #[.int .i64 x40, .int .i64 x41, .int .i64 x42, .slice s43a s43l s43c], .int .i64 x44] ∧ let w45 : World := w39.alloc (.cells #[.int .i64 0, .int .i64 0, .int .i64 0, .slice none 0 0] 41)
  (.agg #[.int .i64 x40, .int .i64 x41, .int .i64 x42, .slice s43a s43l s43c] : Value).cells.size = 4 ∧ wrOk w45 (⟨w39.heap.size, 0, none⟩ : Addr) (.agg #[.int .i64 x40, .int .i64 x41, .int .i64 x42, .slice s43a s43l s43c]) ∧ let w46 : World := wr w45 (⟨w39.heap.size, 0, none⟩ : Addr) (.agg #[.int .i64 x40, .int .i64 x41, .int .i64 x42, .slice s43a s43l s43c])
  if ((x44 : Int) != 0) = true then (X put6a put6l put6c (IntKind.wrap .i64 ((i7 : Int) + 1)) w46) else (∃ x47 : Int, rd w46 (⟨w39.heap.size, 0, none⟩ : Addr) (.int .i64 x47) ∧ runV Try.prog (Instr.lookup 34 (.map took10) (.int .i64 x47) false) w46 (fun r48 w49 => ∃ x50 : Int, r48 = .int .i64 x50 ∧ runV Try.prog (Instr.mapUpdate 34 (.map took10) (.int .i64 x47) (.int .i64 (IntKind.wrap .i64 ((x50 : Int) + 1)))) w49 (fun _ w51 => let w52 : World := w51.drew
  ∃ x53 : Int, rd w52 (⟨w39.heap.size, 0, none⟩ : Addr) (.int .i64 x53) ∧ if (decide ((x53 : Int) < 1)) = true then ((rd w52 (⟨w39.heap.size, 0, none⟩ : Addr) (.int .i64 x53) ∧ True) ∧ (rd w52 (⟨w39.heap.size, 0, none⟩ : Addr) (.int .i64 x53) ∧ True) ∧ Kr false w52) else (∃ x54 : Int, rd w52 (⟨w39.heap.size, 0, none⟩ : Addr) (.int .i64 x54) ∧ if (decide ((x54 : Int) > ((put6l : Nat) : Int))) = true then ((rd w52 (⟨w39.heap.size, 0, none⟩ : Addr) (.int .i64 x54) ∧ rd w52 (⟨w39.heap.size, 0, none⟩ : Addr) (.int .i64 x53) ∧ True) ∧ (rd w52 (⟨w39.heap.size, 0, none⟩ : Addr) (.int .i64 x54) ∧ rd w52 (⟨w39.heap.size, 0, none⟩ : Addr) (.int .i64 x53) ∧ True) ∧ Kr false w52) else (∃ x55 : Int, ∃ x56 : Int, ∃ x57 : Int, ∃ s58a : Option Addr, ∃ s58l : Nat, ∃ s58c : Nat, rd w52 (⟨w39.heap.size, 0, none⟩ : Addr) (.agg #[.int .i64 x55, .int .i64 x56, .int .i64 x57, .slice s58a s58l s58c]) ∧ ∃ x59 : Int, rd w52 (⟨w39.heap.size, 0, none⟩ : Addr) (.int .i64 x59) ∧ 0 ≤ (IntKind.wrap .i64 ((x59 : Int) - 1) : Int) ∧ (IntKind.wrap .i64 ((x59 : Int) - 1) : Int) < ((put6l : Nat) : Int) ∧ ∃ b60, put6a = some b60 ∧ ∃ x61 : Int, ∃ x62 : Int, ∃ x63 : Int, ∃ s64a : Option Addr, ∃ s64l : Nat, ∃ s64c : Nat, rd w52 (b60.add ((IntKind.wrap .i64 ((x59 : Int) - 1) : Int).toNat * 4)) (.agg #[.int .i64 x61, .int .i64 x62, .int .i64 x63, .slice s64a s64l s64c]) ∧ Calls Try.prog 19 #[.agg #[.int .i64 x55, .int .i64 x56, .int .i64 x57, .slice s58a s58l s58c], .agg #[.int .i64 x61, .int .i64 x62, .int .i64 x63, .slice s64a s64l s64c]] w52 (ret (fun r65 w66 => ∃ b67 : Bool, r65 = .bool b67 ∧ (rd w66 (⟨w39.heap.size, 0, none⟩ : Addr) (.int .i64 x59) ∧ rd w66 (⟨w39.heap.size, 0, none⟩ : Addr) (.int .i64 x54) ∧ rd w66 (⟨w39.heap.size, 0, none⟩ : Addr) (.int .i64 x53) ∧ True) ∧ if (!b67) = true then ((rd w66 (⟨w39.heap.size, 0, none⟩ : Addr) (.int .i64 x59) ∧ rd w66 (⟨w39.heap.size, 0, none⟩ : Addr) (.int .i64 x54) ∧ rd w66 (⟨w39.heap.size, 0, none⟩ : Addr) (.int .i64 x53) ∧ True) ∧ Kr false w66) else (∃ x68 : Int, rd w66 (⟨w39.heap.size, 0, none⟩ : Addr) (.int .i64 x68) ∧ runV Try.prog (Instr.lookup 34 (.map took10) (.int .i64 x68) false) w66 (fun r69 w70 => ∃ x71 : Int, r69 = .int .i64 x71 ∧ (rd w70 (⟨w39.heap.size, 0, none⟩ : Addr) (.int .i64 x59) ∧ rd w70 (⟨w39.heap.size, 0, none⟩ : Addr) (.int .i64 x54) ∧ rd w70 (⟨w39.heap.size, 0, none⟩ : Addr) (.int .i64 x53) ∧ True) ∧ if (decide ((x71 : Int) > 1)) = true then (Kr false w70) else (X put6a put6l put6c (IntKind.wrap .i64 ((i7 : Int) + 1)) w70)) Kp)) Kp)))) Kp) Kp)) Kp)) else (if ((x22 : Int) == 2) = true then (Calls Try.prog 20 #[.pointer n9] w21 (ret (fun r72 w73 => ∃ s74a : Option Addr, ∃ s74l : Nat, ∃ s74c : Nat, r72 = .slice s74a s74l s74c ∧ ∃ x75 : Int, rd w73 ((⟨w12.heap.size, 0, none⟩ : Addr).add 3) (.int .i64 x75) ∧ Calls Try.prog 21 #[.pointer n9, .int .i64 x75] w73 (ret (fun r76 w77 => ∃ x78 : Int, ∃ x79 : Int, r76 = .tuple #[.int .i64 x78, .int .i64 x79] ∧ if ((x79 : Int) == 0) = true then (T_law04_FlightTaken_2 (⟨w12.heap.size, 0, none⟩ : Addr) s74a s74l s74c w77 (fun b87 w88 => if b87 = true then (Kr false w88) else (∃ x89 : Int, rd w88 ((⟨w12.heap.size, 0, none⟩ : Addr).add 3) (.int .i64 x89) ∧ 0 ≤ (x89 : Int) ∧ (x89 : Int) < ((s74l : Nat) : Int) ∧ ∃ b90, s74a = some b90 ∧ ∃ x91 : Int, ∃ x92 : Int, ∃ x93 : Int, ∃ s94a : Option Addr, ∃ s94l : Nat, ∃ s94c : Nat, rd w88 (b90.add ((x89 : Int).toNat * 4)) (.agg #[.int .i64 x91, .int .i64 x92, .int .i64 x93, .slice s94a s94l s94c]) ∧ let w95 : World := w88.alloc (.cells #[.int .i64 0, .int .i64 0, .int .i64 0, .slice none 0 0] 41)
  (.agg #[.int .i64 x91, .int .i64 x92, .int .i64 x93, .slice s94a s94l s94c] : Value).cells.size = 4 ∧ wrOk w95 (⟨w88.heap.size, 0, none⟩ : Addr) (.agg #[.int .i64 x91, .int .i64 x92, .int .i64 x93, .slice s94a s94l s94c]) ∧ let w96 : World := wr w95 (⟨w88.heap.size, 0, none⟩ : Addr) (.agg #[.int .i64 x91, .int .i64 x92, .int .i64 x93, .slice s94a s94l s94c])
  (.int .i64 x78 : Value).cells.size = 1 ∧ wrOk w96 (⟨w88.heap.size, 0, none⟩ : Addr) (.int .i64 x78) ∧ let w97 : World := wr w96 (⟨w88.heap.size, 0, none⟩ : Addr) (.int .i64 x78)
  ∃ x98 : Int, ∃ x99 : Int, ∃ x100 : Int, ∃ s101a : Option Addr, ∃ s101l : Nat, ∃ s101c : Nat, rd w97 (⟨w88.heap.size, 0, none⟩ : Addr) (.agg #[.int .i64 x98, .int .i64 x99, .int .i64 x100, .slice s101a s101l s101c]) ∧ let w102 : World := w97.alloc (.cells #[.int .i64 x98, .int .i64 x99, .int .i64 x100, .slice s101a s101l s101c] 41)
  runV Try.prog (Builtin.append_ #[33, 33] 33 #[.slice put6a put6l put6c, .slice (some (⟨w97.heap.size, 0, none⟩ : Addr)) 1 1]) w102 (fun r103 w104 => ∃ s105a : Option Addr, ∃ s105l : Nat, ∃ s105c : Nat, r103 = .slice s105a s105l s105c ∧ X s105a s105l s105c (IntKind.wrap .i64 ((i7 : Int) + 1)) w104) Kp)) Kp) else (X put6a put6l put6c (IntKind.wrap .i64 ((i7 : Int) + 1)) w77)) Kp)) Kp)) else (X put6a put6l put6c (IntKind.wrap .i64 ((i7 : Int) + 1)) w21)))) else (Kn put6a put6l put6c w12)) Kp)

def T_law04_FlightTaken_1 (put6a : Option Addr) (put6l : Nat) (put6c : Nat) (i7 : Int) (l8a : Option Addr) (l8l : Nat) (l8c : Nat) (n9 : Option Addr) (took10 : Option Nat) (w : World) (Kn : Option Addr → Nat → Nat → World → Prop) (Kr : Bool → World → Prop) (Kp : List PanicEntry → World → Prop) : Prop :=
  ∀ X : Option Addr → Nat → Nat → Int → World → Prop, (∀ (put6a : Option Addr) (put6l : Nat) (put6c : Nat) (i7 : Int) (w : World), T_law04_FlightTaken_1_body X put6a put6l put6c i7 l8a l8l l8c n9 took10 w Kn Kr Kp → X put6a put6l put6c i7 w) → X put6a put6l put6c i7 w

def T_law04_FlightTaken_1_outs : Exit → Option (List (Nat × Value)) := fun x => match x with | .normal => some [(4, .slice none 0 0)] | .ret => some [(2, .bool false)] | .panic _ => some [] | _ => none

def T_law04_FlightTaken_1_ks : Nat → Bool := ksOf [2, 4, 6, 7, 8, 9, 10, 11, 12, 13, 14, 15, 18, 19, 20, 21, 22, 23, 24, 25, 26, 27, 28, 29, 30, 31, 32, 33, 34, 35, 36, 37, 38, 39, 40, 41, 42, 43, 44, 45, 46, 47, 48, 49, 50, 51, 52, 53, 54, 55, 56, 57, 58, 59, 60, 61, 62, 63, 64, 65, 66, 67, 68, 69, 70, 71, 72, 73, 74, 75, 76, 77, 78, 79, 80, 81, 82, 83, 84, 85, 86, 87, 88, 89, 90, 91, 92, 93, 94, 95, 96, 97, 98, 99, 100, 101, 102, 103, 104, 105, 106, 107, 108, 109, 110, 111, 112, 113, 114, 115, 116, 117, 118, 119, 120, 121, 122, 123, 124, 125, 126, 127, 128, 129, 130, 131, 132, 133]

def H_law04_FlightTaken_1 : Env → World → QT → Prop := unitHook 145 T_law04_FlightTaken_1_ks [(4, .slice none 0 0), (6, .int .i64 0), (0, .slice none 0 0), (3, .pointer none), (5, .map none)] T_law04_FlightTaken_1_outs fun l w C => match l with | [v0, v1, v2, v3, v4] => T_law04_FlightTaken_1 (pA v0) (pL v0) (pC v0) (pInt v1) (pA v2) (pL v2) (pC v2) (pPtr v3) (pMap v4) w (fun put108a put108l put108c w => C .normal [.slice put108a put108l put108c] w) (fun b109 w => C .ret [.bool b109] w) (fun ch w => C (.panic ch) [] w) | _ => False

theorem T_law04_FlightTaken_1_hl : allP (hokL Try.prog (hookAt [(131231672, H_law04_FlightTaken_2)]) (at_ (bodyOf Try.f4) [1, 1, 1, 1, 0, 1, 0, 0]) 500) = (UnitOk Try.prog H_law04_FlightTaken_2 (at_ (bodyOf Try.f4) [1, 1, 1, 1, 0, 1, 0, 0, 1, 0, 0, 1, 1, 0, 1, 1, 1, 1, 1, 0, 1, 1, 1, 0, 0, 0]) 131231672 ∧ True) := by kernel_rfl
theorem T_law04_FlightTaken_1_hok : HOk Try.prog (hookAt [(131231672, H_law04_FlightTaken_2)]) (at_ (bodyOf Try.f4) [1, 1, 1, 1, 0, 1, 0, 0]) 500 := HOk_of _ _ (by rw [T_law04_FlightTaken_1_hl]; exact ⟨T_law04_FlightTaken_2_ok, trivial⟩)

theorem T_law04_FlightTaken_1_eq (C : Conts) (X : List Value → World → Prop) (put6a : Option Addr) (put6l : Nat) (put6c : Nat) (i7 : Int) (l8a : Option Addr) (l8l : Nat) (l8c : Nat) (n9 : Option Addr) (took10 : Option Nat) (w : World) : vcCode Try.prog (hookAt [(131231672, H_law04_FlightTaken_2)]) (at_ (bodyOf Try.f4) [1, 1, 1, 1, 0, 1, 0, 0]) 500 ⟨[(4, .slice put6a put6l put6c), (6, .int .i64 i7)] ++ [(0, .slice l8a l8l l8c), (3, .pointer n9), (5, .map took10)], 145, []⟩ w (seqQ (fun e w => takeAll e [(4, .slice none 0 0), (6, .int .i64 0)] fun l => X l w) (blockQ 0 (unitQ T_law04_FlightTaken_1_outs C))) = T_law04_FlightTaken_1_body (fun put6a put6l put6c i7 w => X [.slice put6a put6l put6c, .int .i64 i7] w) put6a put6l put6c i7 l8a l8l l8c n9 took10 w (fun put110a put110l put110c w => C .normal [.slice put110a put110l put110c] w) (fun b111 w => C .ret [.bool b111] w) (fun ch w => C (.panic ch) [] w) := by kernel_rfl

theorem T_law04_FlightTaken_1_ok : UnitOk Try.prog H_law04_FlightTaken_1 (at_ (bodyOf Try.f4) [1, 1, 1, 1, 0, 1]) 125 := by
  have hc : at_ (bodyOf Try.f4) [1, 1, 1, 1, 0, 1] = .block 0 (.loop (at_ (bodyOf Try.f4) [1, 1, 1, 1, 0, 1, 0, 0])) := by kernel_rfl
  rw [hc]
  refine loop_unit_ok (carr := [(4, .slice none 0 0), (6, .int .i64 0)]) (fix := [(0, .slice none 0 0), (3, .pointer none), (5, .map none)]) (ks := T_law04_FlightTaken_1_ks) (H := (hookAt [(131231672, H_law04_FlightTaken_2)])) (B := fun C X l u w => match l, u with | [v0, v1], [v2, v3, v4] => T_law04_FlightTaken_1_body (fun put6a put6l put6c i7 w => X [.slice put6a put6l put6c, .int .i64 i7] w) (pA v0) (pL v0) (pC v0) (pInt v1) (pA v2) (pL v2) (pC v2) (pPtr v3) (pMap v4) w (fun put112a put112l put112c w => C .normal [.slice put112a put112l put112c] w) (fun b113 w => C .ret [.bool b113] w) (fun ch w => C (.panic ch) [] w) | _, _ => False) (by kernel_rfl) (by kernel_rfl) T_law04_FlightTaken_1_hok ?_ ?_
  · intro C X l u w hl hu
    obtain ⟨v0, l_v0, rfl, k_v0, hl_v0⟩ := Kinds.cons_ hl
    obtain ⟨put6a, put6l, put6c, rfl⟩ := kind_slice k_v0
    obtain ⟨v1, l_v1, rfl, k_v1, hl_v1⟩ := Kinds.cons_ hl_v0
    obtain ⟨i7, rfl⟩ := kind_int k_v1
    obtain rfl := Kinds.nil_ hl_v1
    obtain ⟨v2, l_v2, rfl, k_v2, hu_v2⟩ := Kinds.cons_ hu
    obtain ⟨l8a, l8l, l8c, rfl⟩ := kind_slice k_v2
    obtain ⟨v3, l_v3, rfl, k_v3, hu_v3⟩ := Kinds.cons_ hu_v2
    obtain ⟨n9, rfl⟩ := kind_pointer k_v3
    obtain ⟨v4, l_v4, rfl, k_v4, hu_v4⟩ := Kinds.cons_ hu_v3
    obtain ⟨took10, rfl⟩ := kind_map k_v4
    obtain rfl := Kinds.nil_ hu_v4
    exact T_law04_FlightTaken_1_eq C X put6a put6l put6c i7 l8a l8l l8c n9 took10 w
  · intro l u w C hl hu
    obtain ⟨v0, l_v0, rfl, k_v0, hl_v0⟩ := Kinds.cons_ hl
    obtain ⟨put6a, put6l, put6c, rfl⟩ := kind_slice k_v0
    obtain ⟨v1, l_v1, rfl, k_v1, hl_v1⟩ := Kinds.cons_ hl_v0
    obtain ⟨i7, rfl⟩ := kind_int k_v1
    obtain rfl := Kinds.nil_ hl_v1
    obtain ⟨v2, l_v2, rfl, k_v2, hu_v2⟩ := Kinds.cons_ hu
    obtain ⟨l8a, l8l, l8c, rfl⟩ := kind_slice k_v2
    obtain ⟨v3, l_v3, rfl, k_v3, hu_v3⟩ := Kinds.cons_ hu_v2
    obtain ⟨n9, rfl⟩ := kind_pointer k_v3
    obtain ⟨v4, l_v4, rfl, k_v4, hu_v4⟩ := Kinds.cons_ hu_v3
    obtain ⟨took10, rfl⟩ := kind_map k_v4
    obtain rfl := Kinds.nil_ hu_v4
    constructor
    · intro h X hX
      exact h (fun put6a put6l put6c i7 w => X [.slice put6a put6l put6c, .int .i64 i7] w) (fun put6a put6l put6c i7 w hb => hX [.slice put6a put6l put6c, .int .i64 i7] w ⟨rfl, rfl, trivial⟩ hb)
    · intro h X hX
      exact h (fun l w => match l with | [v0, v1] => X (pA v0) (pL v0) (pC v0) (pInt v1) w | _ => True) (fun l w hl hb => by
        obtain ⟨v0, l_v0, rfl, k_v0, hl_v0⟩ := Kinds.cons_ hl
        obtain ⟨put6a, put6l, put6c, rfl⟩ := kind_slice k_v0
        obtain ⟨v1, l_v1, rfl, k_v1, hl_v1⟩ := Kinds.cons_ hl_v0
        obtain ⟨i7, rfl⟩ := kind_int k_v1
        obtain rfl := Kinds.nil_ hl_v1
        exact hX put6a put6l put6c i7 w hb)

def T_law04_FlightTaken (l1a : Option Addr) (l1l : Nat) (l1c : Nat) (w : World) (R : Ending → World → Prop) : Prop :=
  Calls Try.prog 12 #[] w (ret (fun r2 w3 => ∃ p4 : Option Addr, r2 = .pointer p4 ∧ let w5 : World := w3.alloc (.map #[] 0)
  T_law04_FlightTaken_1 none 0 0 0 l1a l1l l1c p4 (some w3.heap.size) w5 (fun put114a put114l put114c w115 => Calls Try.prog 15 #[] w115 (ret (fun r116 w117 => ∃ b118 : Bool, r116 = .bool b118 ∧ if b118 = true then (Calls Try.prog 22 #[.pointer p4] w117 (ret (fun r119 w120 => ∃ x121 : Int, r119 = .int .i64 x121 ∧ runV Try.prog (Builtin.len_ #[34] 3 #[.map (some w3.heap.size)]) w120 (fun r122 w123 => ∃ x124 : Int, r122 = .int .i64 x124 ∧ R (.returned (.bool ((x121 : Int) == (IntKind.wrap .i64 (((put114l : Nat) : Int) - x124))))) w123) (pan R)) (pan R))) else (R (.returned (.bool false)) w117)) (pan R))) (fun b125 w126 => R (.returned (.bool b125)) w126) (pan R)) (pan R))

theorem T_law04_FlightTaken_hl : allP (hokL Try.prog (hookAt [(125, H_law04_FlightTaken_1)]) (bodyOf Try.f4) 1) = (UnitOk Try.prog H_law04_FlightTaken_1 (at_ (bodyOf Try.f4) [1, 1, 1, 1, 0, 1]) 125 ∧ True) := by kernel_rfl

theorem T_law04_FlightTaken_eq (l1a : Option Addr) (l1l : Nat) (l1c : Nat) (w : World) (R : Ending → World → Prop) : vcCode Try.prog (hookAt [(125, H_law04_FlightTaken_1)]) (bodyOf Try.f4) 1 ⟨argEnv [.slice l1a l1l l1c] 0, Try.f4.ntmps, []⟩ w (finQ Try.prog Try.f4.results.toList R) = T_law04_FlightTaken l1a l1l l1c w R := by kernel_rfl

theorem T_law04_FlightTaken_b : Try.f4.body = some (bodyOf Try.f4) := by kernel_rfl
theorem T_law04_FlightTaken_s : (quietSel (bodyOf Try.f4) && Nat.ble 1 Try.f4.ntmps) = true := by kernel_rfl

theorem C_law04_FlightTaken {l1a : Option Addr} {l1l : Nat} {l1c : Nat} {w : World} {R : Ending → World → Prop} (h : T_law04_FlightTaken l1a l1l l1c w R) : Calls Try.prog 4 #[.slice l1a l1l l1c] w R :=
  calls_of_text (args := [.slice l1a l1l l1c]) mixed Try.func4 T_law04_FlightTaken_b T_law04_FlightTaken_s (HOk_of _ _ (by rw [T_law04_FlightTaken_hl]; exact ⟨T_law04_FlightTaken_1_ok, trivial⟩)) (by rw [T_law04_FlightTaken_eq]; exact h)

/-! tollgate/tollgatelaw04.FlightFull -/
def T_law04_FlightFull_1_body (X : Int → World → Prop) (j6 : Int) (k7 : Int) (n8 : Option Addr) (w : World) (Kn : World → Prop) (Kr : Bool → World → Prop) (Kp : List PanicEntry → World → Prop)  : Prop :=
  if (decide ((j6 : Int) < (IntKind.wrap .i64 k7))) = true then (let w9 : World := w.alloc (.cells #[.int .u8 (IntKind.wrap .u8 j6)] 5)
  Calls Try.prog 17 #[.pointer n8, .int .i64 (IntKind.wrap .i64 ((1 : Int) + (Int.tmod j6 3))), .int .i64 (IntKind.wrap .i64 ((4 : Int) + (Int.tmod j6 5))), .slice (some (⟨w.heap.size, 0, none⟩ : Addr)) 1 1] w9 (ret (fun r10 w11 => ∃ x12 : Int, ∃ x13 : Int, r10 = .tuple #[.int .i64 x12, .int .i64 x13] ∧ if (!(((x13 : Int) == 0) == (decide ((j6 : Int) < 128)))) = true then (Kr false w11) else (if ((x13 : Int) != 0) = true then (if ((x13 : Int) != 6) = true then (Kr false w11) else (X (IntKind.wrap .i64 ((j6 : Int) + 1)) w11)) else (X (IntKind.wrap .i64 ((j6 : Int) + 1)) w11))) Kp)) else (Kn  w)

def T_law04_FlightFull_1 (j6 : Int) (k7 : Int) (n8 : Option Addr) (w : World) (Kn : World → Prop) (Kr : Bool → World → Prop) (Kp : List PanicEntry → World → Prop) : Prop :=
  ∀ X : Int → World → Prop, (∀ (j6 : Int) (w : World), T_law04_FlightFull_1_body X j6 k7 n8 w Kn Kr Kp → X j6 w) → X j6 w

def T_law04_FlightFull_1_outs : Exit → Option (List (Nat × Value)) := fun x => match x with | .normal => some [] | .ret => some [(4, .bool false)] | .panic _ => some [] | _ => none

def T_law04_FlightFull_1_ks : Nat → Bool := ksOf [4, 6, 7, 8, 16, 17, 18, 19, 20, 21, 22, 23, 24, 25, 26, 27, 28, 29, 30, 31, 32, 33, 34, 35, 36, 37, 38, 39, 40, 41, 42, 43, 44, 45, 46, 47, 48]

def H_law04_FlightFull_1 : Env → World → QT → Prop := unitHook 103 T_law04_FlightFull_1_ks [(6, .int .i64 0), (0, .int .u8 0), (5, .pointer none)] T_law04_FlightFull_1_outs fun l w C => match l with | [v0, v1, v2] => T_law04_FlightFull_1 (pInt v0) (pInt v1) (pPtr v2) w (fun w => C .normal [] w) (fun b15 w => C .ret [.bool b15] w) (fun ch w => C (.panic ch) [] w) | _ => False

theorem T_law04_FlightFull_1_hl : allP (hokL Try.prog (hookAt []) (at_ (bodyOf Try.f5) [1, 1, 0, 1, 0, 0]) 116) = (True) := by kernel_rfl
theorem T_law04_FlightFull_1_hok : HOk Try.prog (hookAt []) (at_ (bodyOf Try.f5) [1, 1, 0, 1, 0, 0]) 116 := HOk_of _ _ (by rw [T_law04_FlightFull_1_hl]; exact trivial)

theorem T_law04_FlightFull_1_eq (C : Conts) (X : List Value → World → Prop) (j6 : Int) (k7 : Int) (n8 : Option Addr) (w : World) : vcCode Try.prog (hookAt []) (at_ (bodyOf Try.f5) [1, 1, 0, 1, 0, 0]) 116 ⟨[(6, .int .i64 j6)] ++ [(0, .int .u8 k7), (5, .pointer n8)], 103, []⟩ w (seqQ (fun e w => takeAll e [(6, .int .i64 0)] fun l => X l w) (blockQ 0 (unitQ T_law04_FlightFull_1_outs C))) = T_law04_FlightFull_1_body (fun j6 w => X [.int .i64 j6] w) j6 k7 n8 w (fun w => C .normal [] w) (fun b16 w => C .ret [.bool b16] w) (fun ch w => C (.panic ch) [] w) := by kernel_rfl

theorem T_law04_FlightFull_1_ok : UnitOk Try.prog H_law04_FlightFull_1 (at_ (bodyOf Try.f5) [1, 1, 0, 1]) 29 := by
  have hc : at_ (bodyOf Try.f5) [1, 1, 0, 1] = .block 0 (.loop (at_ (bodyOf Try.f5) [1, 1, 0, 1, 0, 0])) := by kernel_rfl
  rw [hc]
  refine loop_unit_ok (carr := [(6, .int .i64 0)]) (fix := [(0, .int .u8 0), (5, .pointer none)]) (ks := T_law04_FlightFull_1_ks) (H := (hookAt [])) (B := fun C X l u w => match l, u with | [v0], [v1, v2] => T_law04_FlightFull_1_body (fun j6 w => X [.int .i64 j6] w) (pInt v0) (pInt v1) (pPtr v2) w (fun w => C .normal [] w) (fun b17 w => C .ret [.bool b17] w) (fun ch w => C (.panic ch) [] w) | _, _ => False) (by kernel_rfl) (by kernel_rfl) T_law04_FlightFull_1_hok ?_ ?_
  · intro C X l u w hl hu
    obtain ⟨v0, l_v0, rfl, k_v0, hl_v0⟩ := Kinds.cons_ hl
    obtain ⟨j6, rfl⟩ := kind_int k_v0
    obtain rfl := Kinds.nil_ hl_v0
    obtain ⟨v1, l_v1, rfl, k_v1, hu_v1⟩ := Kinds.cons_ hu
    obtain ⟨k7, rfl⟩ := kind_int k_v1
    obtain ⟨v2, l_v2, rfl, k_v2, hu_v2⟩ := Kinds.cons_ hu_v1
    obtain ⟨n8, rfl⟩ := kind_pointer k_v2
    obtain rfl := Kinds.nil_ hu_v2
    exact T_law04_FlightFull_1_eq C X j6 k7 n8 w
  · intro l u w C hl hu
    obtain ⟨v0, l_v0, rfl, k_v0, hl_v0⟩ := Kinds.cons_ hl
    obtain ⟨j6, rfl⟩ := kind_int k_v0
    obtain rfl := Kinds.nil_ hl_v0
    obtain ⟨v1, l_v1, rfl, k_v1, hu_v1⟩ := Kinds.cons_ hu
    obtain ⟨k7, rfl⟩ := kind_int k_v1
    obtain ⟨v2, l_v2, rfl, k_v2, hu_v2⟩ := Kinds.cons_ hu_v1
    obtain ⟨n8, rfl⟩ := kind_pointer k_v2
    obtain rfl := Kinds.nil_ hu_v2
    constructor
    · intro h X hX
      exact h (fun j6 w => X [.int .i64 j6] w) (fun j6 w hb => hX [.int .i64 j6] w ⟨rfl, trivial⟩ hb)
    · intro h X hX
      exact h (fun l w => match l with | [v0] => X (pInt v0) w | _ => True) (fun l w hl hb => by
        obtain ⟨v0, l_v0, rfl, k_v0, hl_v0⟩ := Kinds.cons_ hl
        obtain ⟨j6, rfl⟩ := kind_int k_v0
        obtain rfl := Kinds.nil_ hl_v0
        exact hX j6 w hb)

def T_law04_FlightFull_2 (i35 : Int) (at36 : Int) (w : World) (Kn : Bool → World → Prop) (Kp : List PanicEntry → World → Prop) : Prop :=
  if (decide ((i35 : Int) < 0)) = true then (Kn true w) else (Kn (decide ((i35 : Int) ≥ at36)) w)

def T_law04_FlightFull_2_outs : Exit → Option (List (Nat × Value)) := fun x => match x with | .normal => some [(14, .bool false)] | .panic _ => some [] | _ => none

def T_law04_FlightFull_2_ks : Nat → Bool := ksOf [14, 67, 68, 69, 70, 71, 72, 73]

def H_law04_FlightFull_2 : Env → World → QT → Prop := unitHook 103 T_law04_FlightFull_2_ks [(1, .int .i64 0), (9, .int .i64 0)] T_law04_FlightFull_2_outs fun l w C => match l with | [v0, v1] => T_law04_FlightFull_2 (pInt v0) (pInt v1) w (fun gone38 w => C .normal [.bool gone38] w) (fun ch w => C (.panic ch) [] w) | _ => False

theorem T_law04_FlightFull_2_hl : allP (hokL Try.prog (hookAt []) (at_ (bodyOf Try.f5) [1, 1, 1, 1, 1, 1, 1, 0]) 510) = (True) := by kernel_rfl
theorem T_law04_FlightFull_2_hok : HOk Try.prog (hookAt []) (at_ (bodyOf Try.f5) [1, 1, 1, 1, 1, 1, 1, 0]) 510 := HOk_of _ _ (by rw [T_law04_FlightFull_2_hl]; exact trivial)

theorem T_law04_FlightFull_2_eq (C : Conts) (i35 : Int) (at36 : Int) (w : World) : vcCode Try.prog (hookAt []) (at_ (bodyOf Try.f5) [1, 1, 1, 1, 1, 1, 1, 0]) 510 ⟨[(1, .int .i64 i35), (9, .int .i64 at36)], 103, []⟩ w (unitQ T_law04_FlightFull_2_outs C) = T_law04_FlightFull_2 i35 at36 w (fun gone39 w => C .normal [.bool gone39] w) (fun ch w => C (.panic ch) [] w) := by kernel_rfl

theorem T_law04_FlightFull_2_ok : UnitOk Try.prog H_law04_FlightFull_2 (at_ (bodyOf Try.f5) [1, 1, 1, 1, 1, 1, 1, 0]) 510 := unit_ok (H := (hookAt [])) (by kernel_rfl) T_law04_FlightFull_2_hok fun l w C hk => by
    obtain ⟨v0, l_v0, rfl, k_v0, hk_v0⟩ := Kinds.cons_ hk
    obtain ⟨i35, rfl⟩ := kind_int k_v0
    obtain ⟨v1, l_v1, rfl, k_v1, hk_v1⟩ := Kinds.cons_ hk_v0
    obtain ⟨at36, rfl⟩ := kind_int k_v1
    obtain rfl := Kinds.nil_ hk_v1
    exact T_law04_FlightFull_2_eq C i35 at36 w

def T_law04_FlightFull (k1 : Int) (i2 : Int) (w : World) (R : Ending → World → Prop) : Prop :=
  Calls Try.prog 12 #[] w (ret (fun r3 w4 => ∃ p5 : Option Addr, r3 = .pointer p5 ∧ T_law04_FlightFull_1 0 k1 p5 w4 (fun w18 => Calls Try.prog 22 #[.pointer p5] w18 (ret (fun r19 w20 => ∃ x21 : Int, r19 = .int .i64 x21 ∧ if ((x21 : Int) != (if 128 < (IntKind.wrap .i64 k1) then 128 else (IntKind.wrap .i64 k1))) = true then (R (.returned (.bool false)) w20) else (Calls Try.prog 18 #[.pointer p5, .int .i64 i2] w20 (ret (fun r22 w23 => ∃ x24 : Int, ∃ x25 : Int, ∃ x26 : Int, ∃ s27a : Option Addr, ∃ s27l : Nat, ∃ s27c : Nat, ∃ x28 : Int, r22 = .tuple #[.agg #[.int .i64 x24, .int .i64 x25, .int .i64 x26, .slice s27a s27l s27c], .int .i64 x28] ∧ let w29 : World := w23.alloc (.cells #[.int .i64 0, .int .i64 0, .int .i64 0, .slice none 0 0] 41)
  (.agg #[.int .i64 x24, .int .i64 x25, .int .i64 x26, .slice s27a s27l s27c] : Value).cells.size = 4 ∧ wrOk w29 (⟨w23.heap.size, 0, none⟩ : Addr) (.agg #[.int .i64 x24, .int .i64 x25, .int .i64 x26, .slice s27a s27l s27c]) ∧ let w30 : World := wr w29 (⟨w23.heap.size, 0, none⟩ : Addr) (.agg #[.int .i64 x24, .int .i64 x25, .int .i64 x26, .slice s27a s27l s27c])
  Calls Try.prog 21 #[.pointer p5, .int .i64 0] w30 (ret (fun r31 w32 => ∃ x33 : Int, ∃ x34 : Int, r31 = .tuple #[.int .i64 x33, .int .i64 x34] ∧ T_law04_FlightFull_2 i2 (if 128 < (IntKind.wrap .i64 k1) then 128 else (IntKind.wrap .i64 k1)) w32 (fun gone40 w41 => Calls Try.prog 15 #[] w41 (ret (fun r42 w43 => ∃ b44 : Bool, r42 = .bool b44 ∧ if b44 = true then (if (((x28 : Int) == 8) == gone40) = true then (if (!gone40) = true then (if (decide ((if 128 < (IntKind.wrap .i64 k1) then 128 else (IntKind.wrap .i64 k1) : Int) > 1)) = true then (R (.returned (.bool (((x34 : Int) == 0) == true))) w43) else (if gone40 = true then (if (decide ((if 128 < (IntKind.wrap .i64 k1) then 128 else (IntKind.wrap .i64 k1) : Int) > 0)) = true then (R (.returned (.bool (((x34 : Int) == 0) == (decide ((if 128 < (IntKind.wrap .i64 k1) then 128 else (IntKind.wrap .i64 k1) : Int) < 128))))) w43) else (R (.returned (.bool (((x34 : Int) == 0) == false))) w43)) else (R (.returned (.bool (((x34 : Int) == 0) == false))) w43))) else (if gone40 = true then (if (decide ((if 128 < (IntKind.wrap .i64 k1) then 128 else (IntKind.wrap .i64 k1) : Int) > 0)) = true then (R (.returned (.bool (((x34 : Int) == 0) == (decide ((if 128 < (IntKind.wrap .i64 k1) then 128 else (IntKind.wrap .i64 k1) : Int) < 128))))) w43) else (R (.returned (.bool (((x34 : Int) == 0) == false))) w43)) else (R (.returned (.bool (((x34 : Int) == 0) == false))) w43))) else (R (.returned (.bool false)) w43)) else (R (.returned (.bool false)) w43)) (pan R))) (pan R)) (pan R))) (pan R)))) (pan R))) (fun b45 w46 => R (.returned (.bool b45)) w46) (pan R)) (pan R))

theorem T_law04_FlightFull_hl : allP (hokL Try.prog (hookAt [(29, H_law04_FlightFull_1), (510, H_law04_FlightFull_2)]) (bodyOf Try.f5) 1) = (UnitOk Try.prog H_law04_FlightFull_1 (at_ (bodyOf Try.f5) [1, 1, 0, 1]) 29 ∧ UnitOk Try.prog H_law04_FlightFull_2 (at_ (bodyOf Try.f5) [1, 1, 1, 1, 1, 1, 1, 0]) 510 ∧ True) := by kernel_rfl

theorem T_law04_FlightFull_eq (k1 : Int) (i2 : Int) (w : World) (R : Ending → World → Prop) : vcCode Try.prog (hookAt [(29, H_law04_FlightFull_1), (510, H_law04_FlightFull_2)]) (bodyOf Try.f5) 1 ⟨argEnv [.int .u8 k1, .int .i64 i2] 0, Try.f5.ntmps, []⟩ w (finQ Try.prog Try.f5.results.toList R) = T_law04_FlightFull k1 i2 w R := by kernel_rfl

theorem T_law04_FlightFull_b : Try.f5.body = some (bodyOf Try.f5) := by kernel_rfl
theorem T_law04_FlightFull_s : (quietSel (bodyOf Try.f5) && Nat.ble 2 Try.f5.ntmps) = true := by kernel_rfl

theorem C_law04_FlightFull {k1 : Int} {i2 : Int} {w : World} {R : Ending → World → Prop} (h : T_law04_FlightFull k1 i2 w R) : Calls Try.prog 5 #[.int .u8 k1, .int .i64 i2] w R :=
  calls_of_text (args := [.int .u8 k1, .int .i64 i2]) mixed Try.func5 T_law04_FlightFull_b T_law04_FlightFull_s (HOk_of _ _ (by rw [T_law04_FlightFull_hl]; exact ⟨T_law04_FlightFull_1_ok, T_law04_FlightFull_2_ok, trivial⟩)) (by rw [T_law04_FlightFull_eq]; exact h)

/-! tollgate/tollgatelaw04.FlightRises -/
def T_law04_FlightRises_1_body (X : Int → World → Prop) (i10 : Int) (u11a : Option Addr) (u11l : Nat) (u11c : Nat) (w : World) (Kn : World → Prop) (Kr : Bool → World → Prop) (Kp : List PanicEntry → World → Prop)  : Prop :=
  if (decide ((i10 : Int) < ((u11l : Nat) : Int))) = true then (let w12 : World := w.drew
  0 ≤ (i10 : Int) ∧ (i10 : Int) < ((u11l : Nat) : Int) ∧ ∃ b13, u11a = some b13 ∧ ∃ x14 : Int, rd w12 (b13.add ((i10 : Int).toNat * 4)) (.int .i64 x14) ∧ 0 ≤ (IntKind.wrap .i64 ((i10 : Int) - 1) : Int) ∧ (IntKind.wrap .i64 ((i10 : Int) - 1) : Int) < ((u11l : Nat) : Int) ∧ ∃ b15, u11a = some b15 ∧ ∃ x16 : Int, rd w12 (b15.add ((IntKind.wrap .i64 ((i10 : Int) - 1) : Int).toNat * 4)) (.int .i64 x16) ∧ if (decide ((x14 : Int) ≤ x16)) = true then (Kr false w12) else (X (IntKind.wrap .i64 ((i10 : Int) + 1)) w12)) else (Kn  w)

def T_law04_FlightRises_1 (i10 : Int) (u11a : Option Addr) (u11l : Nat) (u11c : Nat) (w : World) (Kn : World → Prop) (Kr : Bool → World → Prop) (Kp : List PanicEntry → World → Prop) : Prop :=
  ∀ X : Int → World → Prop, (∀ (i10 : Int) (w : World), T_law04_FlightRises_1_body X i10 u11a u11l u11c w Kn Kr Kp → X i10 w) → X i10 w

def T_law04_FlightRises_1_outs : Exit → Option (List (Nat × Value)) := fun x => match x with | .normal => some [] | .ret => some [(2, .bool false)] | .panic _ => some [] | _ => none

def T_law04_FlightRises_1_ks : Nat → Bool := ksOf [2, 7, 20, 21, 22, 23, 24, 25, 26, 27, 28, 29, 30, 31, 32, 33, 34, 35, 36, 37]

def H_law04_FlightRises_1 : Env → World → QT → Prop := unitHook 73 T_law04_FlightRises_1_ks [(7, .int .i64 0), (6, .slice none 0 0)] T_law04_FlightRises_1_outs fun l w C => match l with | [v0, v1] => T_law04_FlightRises_1 (pInt v0) (pA v1) (pL v1) (pC v1) w (fun w => C .normal [] w) (fun b18 w => C .ret [.bool b18] w) (fun ch w => C (.panic ch) [] w) | _ => False

theorem T_law04_FlightRises_1_hl : allP (hokL Try.prog (hookAt []) (at_ (bodyOf Try.f6) [1, 1, 1, 1, 0, 1, 0, 0]) 500) = (True) := by kernel_rfl
theorem T_law04_FlightRises_1_hok : HOk Try.prog (hookAt []) (at_ (bodyOf Try.f6) [1, 1, 1, 1, 0, 1, 0, 0]) 500 := HOk_of _ _ (by rw [T_law04_FlightRises_1_hl]; exact trivial)

theorem T_law04_FlightRises_1_eq (C : Conts) (X : List Value → World → Prop) (i10 : Int) (u11a : Option Addr) (u11l : Nat) (u11c : Nat) (w : World) : vcCode Try.prog (hookAt []) (at_ (bodyOf Try.f6) [1, 1, 1, 1, 0, 1, 0, 0]) 500 ⟨[(7, .int .i64 i10)] ++ [(6, .slice u11a u11l u11c)], 73, []⟩ w (seqQ (fun e w => takeAll e [(7, .int .i64 0)] fun l => X l w) (blockQ 0 (unitQ T_law04_FlightRises_1_outs C))) = T_law04_FlightRises_1_body (fun i10 w => X [.int .i64 i10] w) i10 u11a u11l u11c w (fun w => C .normal [] w) (fun b19 w => C .ret [.bool b19] w) (fun ch w => C (.panic ch) [] w) := by kernel_rfl

theorem T_law04_FlightRises_1_ok : UnitOk Try.prog H_law04_FlightRises_1 (at_ (bodyOf Try.f6) [1, 1, 1, 1, 0, 1]) 125 := by
  have hc : at_ (bodyOf Try.f6) [1, 1, 1, 1, 0, 1] = .block 0 (.loop (at_ (bodyOf Try.f6) [1, 1, 1, 1, 0, 1, 0, 0])) := by kernel_rfl
  rw [hc]
  refine loop_unit_ok (carr := [(7, .int .i64 0)]) (fix := [(6, .slice none 0 0)]) (ks := T_law04_FlightRises_1_ks) (H := (hookAt [])) (B := fun C X l u w => match l, u with | [v0], [v1] => T_law04_FlightRises_1_body (fun i10 w => X [.int .i64 i10] w) (pInt v0) (pA v1) (pL v1) (pC v1) w (fun w => C .normal [] w) (fun b20 w => C .ret [.bool b20] w) (fun ch w => C (.panic ch) [] w) | _, _ => False) (by kernel_rfl) (by kernel_rfl) T_law04_FlightRises_1_hok ?_ ?_
  · intro C X l u w hl hu
    obtain ⟨v0, l_v0, rfl, k_v0, hl_v0⟩ := Kinds.cons_ hl
    obtain ⟨i10, rfl⟩ := kind_int k_v0
    obtain rfl := Kinds.nil_ hl_v0
    obtain ⟨v1, l_v1, rfl, k_v1, hu_v1⟩ := Kinds.cons_ hu
    obtain ⟨u11a, u11l, u11c, rfl⟩ := kind_slice k_v1
    obtain rfl := Kinds.nil_ hu_v1
    exact T_law04_FlightRises_1_eq C X i10 u11a u11l u11c w
  · intro l u w C hl hu
    obtain ⟨v0, l_v0, rfl, k_v0, hl_v0⟩ := Kinds.cons_ hl
    obtain ⟨i10, rfl⟩ := kind_int k_v0
    obtain rfl := Kinds.nil_ hl_v0
    obtain ⟨v1, l_v1, rfl, k_v1, hu_v1⟩ := Kinds.cons_ hu
    obtain ⟨u11a, u11l, u11c, rfl⟩ := kind_slice k_v1
    obtain rfl := Kinds.nil_ hu_v1
    constructor
    · intro h X hX
      exact h (fun i10 w => X [.int .i64 i10] w) (fun i10 w hb => hX [.int .i64 i10] w ⟨rfl, trivial⟩ hb)
    · intro h X hX
      exact h (fun l w => match l with | [v0] => X (pInt v0) w | _ => True) (fun l w hl hb => by
        obtain ⟨v0, l_v0, rfl, k_v0, hl_v0⟩ := Kinds.cons_ hl
        obtain ⟨i10, rfl⟩ := kind_int k_v0
        obtain rfl := Kinds.nil_ hl_v0
        exact hX i10 w hb)

def T_law04_FlightRises (l1a : Option Addr) (l1l : Nat) (l1c : Nat) (w : World) (R : Ending → World → Prop) : Prop :=
  Calls Try.prog 23 #[.slice l1a l1l l1c] w (ret (fun r2 w3 => ∃ p4 : Option Addr, ∃ p5 : Option Addr, ∃ b6 : Bool, r2 = .tuple #[.pointer p4, .pointer p5, .bool b6] ∧ if (!b6) = true then (R (.returned (.bool false)) w3) else (Calls Try.prog 20 #[.pointer p4] w3 (ret (fun r7 w8 => ∃ s9a : Option Addr, ∃ s9l : Nat, ∃ s9c : Nat, r7 = .slice s9a s9l s9c ∧ T_law04_FlightRises_1 1 s9a s9l s9c w8 (fun w21 => Calls Try.prog 17 #[.pointer p4, .int .i64 3, .int .i64 4, .slice none 0 0] w21 (ret (fun r22 w23 => ∃ x24 : Int, ∃ x25 : Int, r22 = .tuple #[.int .i64 x24, .int .i64 x25] ∧ Calls Try.prog 15 #[] w23 (ret (fun r26 w27 => ∃ b28 : Bool, r26 = .bool b28 ∧ if b28 = true then (if ((x25 : Int) != 0) = true then (R (.returned (.bool true)) w27) else (if (((s9l : Nat) : Int) == 0) = true then (if (decide ((x24 : Int) > 0)) = true then (R (.returned (.bool true)) w27) else (if (decide (((s9l : Nat) : Int) > 0)) = true then (0 ≤ (IntKind.wrap .i64 (((s9l : Nat) : Int) - 1) : Int) ∧ (IntKind.wrap .i64 (((s9l : Nat) : Int) - 1) : Int) < ((s9l : Nat) : Int) ∧ ∃ b29, s9a = some b29 ∧ ∃ x30 : Int, rd w27 (b29.add ((IntKind.wrap .i64 (((s9l : Nat) : Int) - 1) : Int).toNat * 4)) (.int .i64 x30) ∧ R (.returned (.bool (decide ((x24 : Int) > x30)))) w27) else (R (.returned (.bool false)) w27))) else (if (decide (((s9l : Nat) : Int) > 0)) = true then (0 ≤ (IntKind.wrap .i64 (((s9l : Nat) : Int) - 1) : Int) ∧ (IntKind.wrap .i64 (((s9l : Nat) : Int) - 1) : Int) < ((s9l : Nat) : Int) ∧ ∃ b31, s9a = some b31 ∧ ∃ x32 : Int, rd w27 (b31.add ((IntKind.wrap .i64 (((s9l : Nat) : Int) - 1) : Int).toNat * 4)) (.int .i64 x32) ∧ R (.returned (.bool (decide ((x24 : Int) > x32)))) w27) else (R (.returned (.bool false)) w27)))) else (R (.returned (.bool false)) w27)) (pan R))) (pan R))) (fun b33 w34 => R (.returned (.bool b33)) w34) (pan R)) (pan R)))) (pan R))

theorem T_law04_FlightRises_hl : allP (hokL Try.prog (hookAt [(125, H_law04_FlightRises_1)]) (bodyOf Try.f6) 1) = (UnitOk Try.prog H_law04_FlightRises_1 (at_ (bodyOf Try.f6) [1, 1, 1, 1, 0, 1]) 125 ∧ True) := by kernel_rfl

theorem T_law04_FlightRises_eq (l1a : Option Addr) (l1l : Nat) (l1c : Nat) (w : World) (R : Ending → World → Prop) : vcCode Try.prog (hookAt [(125, H_law04_FlightRises_1)]) (bodyOf Try.f6) 1 ⟨argEnv [.slice l1a l1l l1c] 0, Try.f6.ntmps, []⟩ w (finQ Try.prog Try.f6.results.toList R) = T_law04_FlightRises l1a l1l l1c w R := by kernel_rfl

theorem T_law04_FlightRises_b : Try.f6.body = some (bodyOf Try.f6) := by kernel_rfl
theorem T_law04_FlightRises_s : (quietSel (bodyOf Try.f6) && Nat.ble 1 Try.f6.ntmps) = true := by kernel_rfl

theorem C_law04_FlightRises {l1a : Option Addr} {l1l : Nat} {l1c : Nat} {w : World} {R : Ending → World → Prop} (h : T_law04_FlightRises l1a l1l l1c w R) : Calls Try.prog 6 #[.slice l1a l1l l1c] w R :=
  calls_of_text (args := [.slice l1a l1l l1c]) mixed Try.func6 T_law04_FlightRises_b T_law04_FlightRises_s (HOk_of _ _ (by rw [T_law04_FlightRises_hl]; exact ⟨T_law04_FlightRises_1_ok, trivial⟩)) (by rw [T_law04_FlightRises_eq]; exact h)

/-! tollgate/tollgatelaw04.FlightParted -/
def T_law04_FlightParted_1 (from15 : Int) (to16 : Int) (n17 : Option Addr) (was18a : Option Addr) (was18l : Nat) (was18c : Nat) (e19 : Int) (w : World) (Kn : Bool → World → Prop) (Kp : List PanicEntry → World → Prop) : Prop :=
  Calls Try.prog 15 #[] w (ret (fun r20 w21 => ∃ b22 : Bool, r20 = .bool b22 ∧ if b22 = true then (if ((e19 : Int) == 2) = true then (if (decide ((from15 : Int) < 1)) = true then (Calls Try.prog 20 #[.pointer n17] w21 (ret (fun r23 w24 => ∃ s25a : Option Addr, ∃ s25l : Nat, ∃ s25c : Nat, r23 = .slice s25a s25l s25c ∧ Calls Try.prog 25 #[.slice s25a s25l s25c, .slice was18a was18l was18c] w24 (ret (fun r26 w27 => ∃ b28 : Bool, r26 = .bool b28 ∧ Kn b28 w27) Kp)) Kp)) else (if (decide ((from15 : Int) > 9)) = true then (Calls Try.prog 20 #[.pointer n17] w21 (ret (fun r29 w30 => ∃ s31a : Option Addr, ∃ s31l : Nat, ∃ s31c : Nat, r29 = .slice s31a s31l s31c ∧ Calls Try.prog 25 #[.slice s31a s31l s31c, .slice was18a was18l was18c] w30 (ret (fun r32 w33 => ∃ b34 : Bool, r32 = .bool b34 ∧ Kn b34 w33) Kp)) Kp)) else (if (decide ((to16 : Int) < 1)) = true then (Calls Try.prog 20 #[.pointer n17] w21 (ret (fun r35 w36 => ∃ s37a : Option Addr, ∃ s37l : Nat, ∃ s37c : Nat, r35 = .slice s37a s37l s37c ∧ Calls Try.prog 25 #[.slice s37a s37l s37c, .slice was18a was18l was18c] w36 (ret (fun r38 w39 => ∃ b40 : Bool, r38 = .bool b40 ∧ Kn b40 w39) Kp)) Kp)) else (if (decide ((to16 : Int) > 9)) = true then (Calls Try.prog 20 #[.pointer n17] w21 (ret (fun r41 w42 => ∃ s43a : Option Addr, ∃ s43l : Nat, ∃ s43c : Nat, r41 = .slice s43a s43l s43c ∧ Calls Try.prog 25 #[.slice s43a s43l s43c, .slice was18a was18l was18c] w42 (ret (fun r44 w45 => ∃ b46 : Bool, r44 = .bool b46 ∧ Kn b46 w45) Kp)) Kp)) else (if ((from15 : Int) == to16) = true then (Calls Try.prog 20 #[.pointer n17] w21 (ret (fun r47 w48 => ∃ s49a : Option Addr, ∃ s49l : Nat, ∃ s49c : Nat, r47 = .slice s49a s49l s49c ∧ Calls Try.prog 25 #[.slice s49a s49l s49c, .slice was18a was18l was18c] w48 (ret (fun r50 w51 => ∃ b52 : Bool, r50 = .bool b52 ∧ Kn b52 w51) Kp)) Kp)) else (Kn false w21)))))) else (Kn false w21)) else (Kn false w21)) Kp)

def T_law04_FlightParted_1_outs : Exit → Option (List (Nat × Value)) := fun x => match x with | .normal => some [(6, .bool false)] | .panic _ => some [] | _ => none

def T_law04_FlightParted_1_ks : Nat → Bool := ksOf [6, 36, 37, 38, 39, 40, 41, 42, 43, 44, 45, 46, 47, 48, 49, 50, 51, 52, 53, 54, 55, 56, 57, 58, 59, 60, 61, 62, 63, 64, 65, 66, 67]

def H_law04_FlightParted_1 : Env → World → QT → Prop := unitHook 164 T_law04_FlightParted_1_ks [(1, .int .i64 0), (2, .int .i64 0), (7, .pointer none), (10, .slice none 0 0), (11, .int .i64 0)] T_law04_FlightParted_1_outs fun l w C => match l with | [v0, v1, v2, v3, v4] => T_law04_FlightParted_1 (pInt v0) (pInt v1) (pPtr v2) (pA v3) (pL v3) (pC v3) (pInt v4) w (fun b54 w => C .normal [.bool b54] w) (fun ch w => C (.panic ch) [] w) | _ => False

theorem T_law04_FlightParted_1_hl : allP (hokL Try.prog (hookAt []) (at_ (bodyOf Try.f7) [1, 1, 1, 1, 1, 0, 1, 0, 0]) 1012) = (True) := by kernel_rfl
theorem T_law04_FlightParted_1_hok : HOk Try.prog (hookAt []) (at_ (bodyOf Try.f7) [1, 1, 1, 1, 1, 0, 1, 0, 0]) 1012 := HOk_of _ _ (by rw [T_law04_FlightParted_1_hl]; exact trivial)

theorem T_law04_FlightParted_1_eq (C : Conts) (from15 : Int) (to16 : Int) (n17 : Option Addr) (was18a : Option Addr) (was18l : Nat) (was18c : Nat) (e19 : Int) (w : World) : vcCode Try.prog (hookAt []) (at_ (bodyOf Try.f7) [1, 1, 1, 1, 1, 0, 1, 0, 0]) 1012 ⟨[(1, .int .i64 from15), (2, .int .i64 to16), (7, .pointer n17), (10, .slice was18a was18l was18c), (11, .int .i64 e19)], 164, []⟩ w (unitQ T_law04_FlightParted_1_outs C) = T_law04_FlightParted_1 from15 to16 n17 was18a was18l was18c e19 w (fun b55 w => C .normal [.bool b55] w) (fun ch w => C (.panic ch) [] w) := by kernel_rfl

theorem T_law04_FlightParted_1_ok : UnitOk Try.prog H_law04_FlightParted_1 (at_ (bodyOf Try.f7) [1, 1, 1, 1, 1, 0, 1, 0, 0]) 1012 := unit_ok (H := (hookAt [])) (by kernel_rfl) T_law04_FlightParted_1_hok fun l w C hk => by
    obtain ⟨v0, l_v0, rfl, k_v0, hk_v0⟩ := Kinds.cons_ hk
    obtain ⟨from15, rfl⟩ := kind_int k_v0
    obtain ⟨v1, l_v1, rfl, k_v1, hk_v1⟩ := Kinds.cons_ hk_v0
    obtain ⟨to16, rfl⟩ := kind_int k_v1
    obtain ⟨v2, l_v2, rfl, k_v2, hk_v2⟩ := Kinds.cons_ hk_v1
    obtain ⟨n17, rfl⟩ := kind_pointer k_v2
    obtain ⟨v3, l_v3, rfl, k_v3, hk_v3⟩ := Kinds.cons_ hk_v2
    obtain ⟨was18a, was18l, was18c, rfl⟩ := kind_slice k_v3
    obtain ⟨v4, l_v4, rfl, k_v4, hk_v4⟩ := Kinds.cons_ hk_v3
    obtain ⟨e19, rfl⟩ := kind_int k_v4
    obtain rfl := Kinds.nil_ hk_v4
    exact T_law04_FlightParted_1_eq C from15 to16 n17 was18a was18l was18c e19 w

def T_law04_FlightParted_3 (from63 : Int) (to64 : Int) (was65a : Option Addr) (was65l : Nat) (was65c : Nat) (i66 : Int) (w : World) (Kn : Bool → World → Prop) (Kp : List PanicEntry → World → Prop) : Prop :=
  0 ≤ (i66 : Int) ∧ (i66 : Int) < ((was65l : Nat) : Int) ∧ ∃ b67, was65a = some b67 ∧ ∃ x68 : Int, rd w ((b67.add ((i66 : Int).toNat * 4)).add 1) (.int .i64 x68) ∧ if ((x68 : Int) != from63) = true then (Kn true w) else (0 ≤ (i66 : Int) ∧ (i66 : Int) < ((was65l : Nat) : Int) ∧ ∃ b69, was65a = some b69 ∧ ∃ x70 : Int, rd w ((b69.add ((i66 : Int).toNat * 4)).add 2) (.int .i64 x70) ∧ Kn ((x70 : Int) != to64) w)

def T_law04_FlightParted_3_outs : Exit → Option (List (Nat × Value)) := fun x => match x with | .normal => some [(89, .bool false)] | .panic _ => some [] | _ => none

def T_law04_FlightParted_3_ks : Nat → Bool := ksOf [74, 75, 76, 77, 78, 79, 80, 81, 82, 83, 84, 85, 86, 87, 88, 89]

def H_law04_FlightParted_3 : Env → World → QT → Prop := unitHook 164 T_law04_FlightParted_3_ks [(1, .int .i64 0), (2, .int .i64 0), (10, .slice none 0 0), (13, .int .i64 0)] T_law04_FlightParted_3_outs fun l w C => match l with | [v0, v1, v2, v3] => T_law04_FlightParted_3 (pInt v0) (pInt v1) (pA v2) (pL v2) (pC v2) (pInt v3) w (fun b72 w => C .normal [.bool b72] w) (fun ch w => C (.panic ch) [] w) | _ => False

theorem T_law04_FlightParted_3_hl : allP (hokL Try.prog (hookAt []) (at_ (bodyOf Try.f7) [1, 1, 1, 1, 1, 1, 1, 0, 1, 0, 0, 1, 0, 0, 0]) 65352) = (True) := by kernel_rfl
theorem T_law04_FlightParted_3_hok : HOk Try.prog (hookAt []) (at_ (bodyOf Try.f7) [1, 1, 1, 1, 1, 1, 1, 0, 1, 0, 0, 1, 0, 0, 0]) 65352 := HOk_of _ _ (by rw [T_law04_FlightParted_3_hl]; exact trivial)

theorem T_law04_FlightParted_3_eq (C : Conts) (from63 : Int) (to64 : Int) (was65a : Option Addr) (was65l : Nat) (was65c : Nat) (i66 : Int) (w : World) : vcCode Try.prog (hookAt []) (at_ (bodyOf Try.f7) [1, 1, 1, 1, 1, 1, 1, 0, 1, 0, 0, 1, 0, 0, 0]) 65352 ⟨[(1, .int .i64 from63), (2, .int .i64 to64), (10, .slice was65a was65l was65c), (13, .int .i64 i66)], 164, []⟩ w (unitQ T_law04_FlightParted_3_outs C) = T_law04_FlightParted_3 from63 to64 was65a was65l was65c i66 w (fun b73 w => C .normal [.bool b73] w) (fun ch w => C (.panic ch) [] w) := by kernel_rfl

theorem T_law04_FlightParted_3_ok : UnitOk Try.prog H_law04_FlightParted_3 (at_ (bodyOf Try.f7) [1, 1, 1, 1, 1, 1, 1, 0, 1, 0, 0, 1, 0, 0, 0]) 65352 := unit_ok (H := (hookAt [])) (by kernel_rfl) T_law04_FlightParted_3_hok fun l w C hk => by
    obtain ⟨v0, l_v0, rfl, k_v0, hk_v0⟩ := Kinds.cons_ hk
    obtain ⟨from63, rfl⟩ := kind_int k_v0
    obtain ⟨v1, l_v1, rfl, k_v1, hk_v1⟩ := Kinds.cons_ hk_v0
    obtain ⟨to64, rfl⟩ := kind_int k_v1
    obtain ⟨v2, l_v2, rfl, k_v2, hk_v2⟩ := Kinds.cons_ hk_v1
    obtain ⟨was65a, was65l, was65c, rfl⟩ := kind_slice k_v2
    obtain ⟨v3, l_v3, rfl, k_v3, hk_v3⟩ := Kinds.cons_ hk_v2
    obtain ⟨i66, rfl⟩ := kind_int k_v3
    obtain rfl := Kinds.nil_ hk_v3
    exact T_law04_FlightParted_3_eq C from63 to64 was65a was65l was65c i66 w

def T_law04_FlightParted_2_body (X : Option Addr → Nat → Nat → Int → World → Prop) (want58a : Option Addr) (want58l : Nat) (want58c : Nat) (i59 : Int) (from60 : Int) (to61 : Int) (was62a : Option Addr) (was62l : Nat) (was62c : Nat) (w : World) (Kn : Option Addr → Nat → Nat → World → Prop) (Kp : List PanicEntry → World → Prop)  : Prop :=
  if (decide ((i59 : Int) < ((was62l : Nat) : Int))) = true then (T_law04_FlightParted_3 from60 to61 was62a was62l was62c i59 w (fun b74 w75 => if b74 = true then (0 ≤ (i59 : Int) ∧ (i59 : Int) < ((was62l : Nat) : Int) ∧ ∃ b76, was62a = some b76 ∧ ∃ x77 : Int, ∃ x78 : Int, ∃ x79 : Int, ∃ s80a : Option Addr, ∃ s80l : Nat, ∃ s80c : Nat, rd w75 (b76.add ((i59 : Int).toNat * 4)) (.agg #[.int .i64 x77, .int .i64 x78, .int .i64 x79, .slice s80a s80l s80c]) ∧ let w81 : World := w75.alloc (.cells #[.int .i64 x77, .int .i64 x78, .int .i64 x79, .slice s80a s80l s80c] 41)
  runV Try.prog (Builtin.append_ #[33, 33] 33 #[.slice want58a want58l want58c, .slice (some (⟨w75.heap.size, 0, none⟩ : Addr)) 1 1]) w81 (fun r82 w83 => ∃ s84a : Option Addr, ∃ s84l : Nat, ∃ s84c : Nat, r82 = .slice s84a s84l s84c ∧ X s84a s84l s84c (IntKind.wrap .i64 ((i59 : Int) + 1)) w83) Kp) else (X want58a want58l want58c (IntKind.wrap .i64 ((i59 : Int) + 1)) w75)) Kp) else (Kn want58a want58l want58c w)

def T_law04_FlightParted_2 (want58a : Option Addr) (want58l : Nat) (want58c : Nat) (i59 : Int) (from60 : Int) (to61 : Int) (was62a : Option Addr) (was62l : Nat) (was62c : Nat) (w : World) (Kn : Option Addr → Nat → Nat → World → Prop) (Kp : List PanicEntry → World → Prop) : Prop :=
  ∀ X : Option Addr → Nat → Nat → Int → World → Prop, (∀ (want58a : Option Addr) (want58l : Nat) (want58c : Nat) (i59 : Int) (w : World), T_law04_FlightParted_2_body X want58a want58l want58c i59 from60 to61 was62a was62l was62c w Kn Kp → X want58a want58l want58c i59 w) → X want58a want58l want58c i59 w

def T_law04_FlightParted_2_outs : Exit → Option (List (Nat × Value)) := fun x => match x with | .normal => some [(12, .slice none 0 0)] | .panic _ => some [] | _ => none

def T_law04_FlightParted_2_ks : Nat → Bool := ksOf [12, 13, 68, 69, 70, 71, 72, 73, 74, 75, 76, 77, 78, 79, 80, 81, 82, 83, 84, 85, 86, 87, 88, 89, 90, 91, 92, 93, 94, 95, 96]

def H_law04_FlightParted_2 : Env → World → QT → Prop := unitHook 164 T_law04_FlightParted_2_ks [(12, .slice none 0 0), (13, .int .i64 0), (1, .int .i64 0), (2, .int .i64 0), (10, .slice none 0 0)] T_law04_FlightParted_2_outs fun l w C => match l with | [v0, v1, v2, v3, v4] => T_law04_FlightParted_2 (pA v0) (pL v0) (pC v0) (pInt v1) (pInt v2) (pInt v3) (pA v4) (pL v4) (pC v4) w (fun want86a want86l want86c w => C .normal [.slice want86a want86l want86c] w) (fun ch w => C (.panic ch) [] w) | _ => False

theorem T_law04_FlightParted_2_hl : allP (hokL Try.prog (hookAt [(65352, H_law04_FlightParted_3)]) (at_ (bodyOf Try.f7) [1, 1, 1, 1, 1, 1, 1, 0, 1, 0, 0]) 4084) = (UnitOk Try.prog H_law04_FlightParted_3 (at_ (bodyOf Try.f7) [1, 1, 1, 1, 1, 1, 1, 0, 1, 0, 0, 1, 0, 0, 0]) 65352 ∧ True) := by kernel_rfl
theorem T_law04_FlightParted_2_hok : HOk Try.prog (hookAt [(65352, H_law04_FlightParted_3)]) (at_ (bodyOf Try.f7) [1, 1, 1, 1, 1, 1, 1, 0, 1, 0, 0]) 4084 := HOk_of _ _ (by rw [T_law04_FlightParted_2_hl]; exact ⟨T_law04_FlightParted_3_ok, trivial⟩)

theorem T_law04_FlightParted_2_eq (C : Conts) (X : List Value → World → Prop) (want58a : Option Addr) (want58l : Nat) (want58c : Nat) (i59 : Int) (from60 : Int) (to61 : Int) (was62a : Option Addr) (was62l : Nat) (was62c : Nat) (w : World) : vcCode Try.prog (hookAt [(65352, H_law04_FlightParted_3)]) (at_ (bodyOf Try.f7) [1, 1, 1, 1, 1, 1, 1, 0, 1, 0, 0]) 4084 ⟨[(12, .slice want58a want58l want58c), (13, .int .i64 i59)] ++ [(1, .int .i64 from60), (2, .int .i64 to61), (10, .slice was62a was62l was62c)], 164, []⟩ w (seqQ (fun e w => takeAll e [(12, .slice none 0 0), (13, .int .i64 0)] fun l => X l w) (blockQ 0 (unitQ T_law04_FlightParted_2_outs C))) = T_law04_FlightParted_2_body (fun want58a want58l want58c i59 w => X [.slice want58a want58l want58c, .int .i64 i59] w) want58a want58l want58c i59 from60 to61 was62a was62l was62c w (fun want87a want87l want87c w => C .normal [.slice want87a want87l want87c] w) (fun ch w => C (.panic ch) [] w) := by kernel_rfl

theorem T_law04_FlightParted_2_ok : UnitOk Try.prog H_law04_FlightParted_2 (at_ (bodyOf Try.f7) [1, 1, 1, 1, 1, 1, 1, 0, 1]) 1021 := by
  have hc : at_ (bodyOf Try.f7) [1, 1, 1, 1, 1, 1, 1, 0, 1] = .block 0 (.loop (at_ (bodyOf Try.f7) [1, 1, 1, 1, 1, 1, 1, 0, 1, 0, 0])) := by kernel_rfl
  rw [hc]
  refine loop_unit_ok (carr := [(12, .slice none 0 0), (13, .int .i64 0)]) (fix := [(1, .int .i64 0), (2, .int .i64 0), (10, .slice none 0 0)]) (ks := T_law04_FlightParted_2_ks) (H := (hookAt [(65352, H_law04_FlightParted_3)])) (B := fun C X l u w => match l, u with | [v0, v1], [v2, v3, v4] => T_law04_FlightParted_2_body (fun want58a want58l want58c i59 w => X [.slice want58a want58l want58c, .int .i64 i59] w) (pA v0) (pL v0) (pC v0) (pInt v1) (pInt v2) (pInt v3) (pA v4) (pL v4) (pC v4) w (fun want88a want88l want88c w => C .normal [.slice want88a want88l want88c] w) (fun ch w => C (.panic ch) [] w) | _, _ => False) (by kernel_rfl) (by kernel_rfl) T_law04_FlightParted_2_hok ?_ ?_
  · intro C X l u w hl hu
    obtain ⟨v0, l_v0, rfl, k_v0, hl_v0⟩ := Kinds.cons_ hl
    obtain ⟨want58a, want58l, want58c, rfl⟩ := kind_slice k_v0
    obtain ⟨v1, l_v1, rfl, k_v1, hl_v1⟩ := Kinds.cons_ hl_v0
    obtain ⟨i59, rfl⟩ := kind_int k_v1
    obtain rfl := Kinds.nil_ hl_v1
    obtain ⟨v2, l_v2, rfl, k_v2, hu_v2⟩ := Kinds.cons_ hu
    obtain ⟨from60, rfl⟩ := kind_int k_v2
    obtain ⟨v3, l_v3, rfl, k_v3, hu_v3⟩ := Kinds.cons_ hu_v2
    obtain ⟨to61, rfl⟩ := kind_int k_v3
    obtain ⟨v4, l_v4, rfl, k_v4, hu_v4⟩ := Kinds.cons_ hu_v3
    obtain ⟨was62a, was62l, was62c, rfl⟩ := kind_slice k_v4
    obtain rfl := Kinds.nil_ hu_v4
    exact T_law04_FlightParted_2_eq C X want58a want58l want58c i59 from60 to61 was62a was62l was62c w
  · intro l u w C hl hu
    obtain ⟨v0, l_v0, rfl, k_v0, hl_v0⟩ := Kinds.cons_ hl
    obtain ⟨want58a, want58l, want58c, rfl⟩ := kind_slice k_v0
    obtain ⟨v1, l_v1, rfl, k_v1, hl_v1⟩ := Kinds.cons_ hl_v0
    obtain ⟨i59, rfl⟩ := kind_int k_v1
    obtain rfl := Kinds.nil_ hl_v1
    obtain ⟨v2, l_v2, rfl, k_v2, hu_v2⟩ := Kinds.cons_ hu
    obtain ⟨from60, rfl⟩ := kind_int k_v2
    obtain ⟨v3, l_v3, rfl, k_v3, hu_v3⟩ := Kinds.cons_ hu_v2
    obtain ⟨to61, rfl⟩ := kind_int k_v3
    obtain ⟨v4, l_v4, rfl, k_v4, hu_v4⟩ := Kinds.cons_ hu_v3
    obtain ⟨was62a, was62l, was62c, rfl⟩ := kind_slice k_v4
    obtain rfl := Kinds.nil_ hu_v4
    constructor
    · intro h X hX
      exact h (fun want58a want58l want58c i59 w => X [.slice want58a want58l want58c, .int .i64 i59] w) (fun want58a want58l want58c i59 w hb => hX [.slice want58a want58l want58c, .int .i64 i59] w ⟨rfl, rfl, trivial⟩ hb)
    · intro h X hX
      exact h (fun l w => match l with | [v0, v1] => X (pA v0) (pL v0) (pC v0) (pInt v1) w | _ => True) (fun l w hl hb => by
        obtain ⟨v0, l_v0, rfl, k_v0, hl_v0⟩ := Kinds.cons_ hl
        obtain ⟨want58a, want58l, want58c, rfl⟩ := kind_slice k_v0
        obtain ⟨v1, l_v1, rfl, k_v1, hl_v1⟩ := Kinds.cons_ hl_v0
        obtain ⟨i59, rfl⟩ := kind_int k_v1
        obtain rfl := Kinds.nil_ hl_v1
        exact hX want58a want58l want58c i59 w hb)

def T_law04_FlightParted_4 (from91 : Int) (to92 : Int) (n93 : Option Addr) (want94a : Option Addr) (want94l : Nat) (want94c : Nat) (w : World) (Kn : Bool → World → Prop) (Kp : List PanicEntry → World → Prop) : Prop :=
  Calls Try.prog 20 #[.pointer n93] w (ret (fun r95 w96 => ∃ s97a : Option Addr, ∃ s97l : Nat, ∃ s97c : Nat, r95 = .slice s97a s97l s97c ∧ Calls Try.prog 25 #[.slice s97a s97l s97c, .slice want94a want94l want94c] w96 (ret (fun r98 w99 => ∃ b100 : Bool, r98 = .bool b100 ∧ if (!b100) = true then (Kn true w99) else (Calls Try.prog 26 #[.pointer n93, .int .i64 from91, .int .i64 to92] w99 (ret (fun r101 w102 => ∃ b103 : Bool, r101 = .bool b103 ∧ Kn (!b103) w102) Kp))) Kp)) Kp)

def T_law04_FlightParted_4_outs : Exit → Option (List (Nat × Value)) := fun x => match x with | .normal => some [(108, .bool false)] | .panic _ => some [] | _ => none

def T_law04_FlightParted_4_ks : Nat → Bool := ksOf [97, 98, 99, 100, 101, 102, 103, 104, 105, 106, 107, 108]

def H_law04_FlightParted_4 : Env → World → QT → Prop := unitHook 164 T_law04_FlightParted_4_ks [(1, .int .i64 0), (2, .int .i64 0), (7, .pointer none), (12, .slice none 0 0)] T_law04_FlightParted_4_outs fun l w C => match l with | [v0, v1, v2, v3] => T_law04_FlightParted_4 (pInt v0) (pInt v1) (pPtr v2) (pA v3) (pL v3) (pC v3) w (fun b105 w => C .normal [.bool b105] w) (fun ch w => C (.panic ch) [] w) | _ => False

theorem T_law04_FlightParted_4_hl : allP (hokL Try.prog (hookAt []) (at_ (bodyOf Try.f7) [1, 1, 1, 1, 1, 1, 1, 1, 0, 0]) 2044) = (True) := by kernel_rfl
theorem T_law04_FlightParted_4_hok : HOk Try.prog (hookAt []) (at_ (bodyOf Try.f7) [1, 1, 1, 1, 1, 1, 1, 1, 0, 0]) 2044 := HOk_of _ _ (by rw [T_law04_FlightParted_4_hl]; exact trivial)

theorem T_law04_FlightParted_4_eq (C : Conts) (from91 : Int) (to92 : Int) (n93 : Option Addr) (want94a : Option Addr) (want94l : Nat) (want94c : Nat) (w : World) : vcCode Try.prog (hookAt []) (at_ (bodyOf Try.f7) [1, 1, 1, 1, 1, 1, 1, 1, 0, 0]) 2044 ⟨[(1, .int .i64 from91), (2, .int .i64 to92), (7, .pointer n93), (12, .slice want94a want94l want94c)], 164, []⟩ w (unitQ T_law04_FlightParted_4_outs C) = T_law04_FlightParted_4 from91 to92 n93 want94a want94l want94c w (fun b106 w => C .normal [.bool b106] w) (fun ch w => C (.panic ch) [] w) := by kernel_rfl

theorem T_law04_FlightParted_4_ok : UnitOk Try.prog H_law04_FlightParted_4 (at_ (bodyOf Try.f7) [1, 1, 1, 1, 1, 1, 1, 1, 0, 0]) 2044 := unit_ok (H := (hookAt [])) (by kernel_rfl) T_law04_FlightParted_4_hok fun l w C hk => by
    obtain ⟨v0, l_v0, rfl, k_v0, hk_v0⟩ := Kinds.cons_ hk
    obtain ⟨from91, rfl⟩ := kind_int k_v0
    obtain ⟨v1, l_v1, rfl, k_v1, hk_v1⟩ := Kinds.cons_ hk_v0
    obtain ⟨to92, rfl⟩ := kind_int k_v1
    obtain ⟨v2, l_v2, rfl, k_v2, hk_v2⟩ := Kinds.cons_ hk_v1
    obtain ⟨n93, rfl⟩ := kind_pointer k_v2
    obtain ⟨v3, l_v3, rfl, k_v3, hk_v3⟩ := Kinds.cons_ hk_v2
    obtain ⟨want94a, want94l, want94c, rfl⟩ := kind_slice k_v3
    obtain rfl := Kinds.nil_ hk_v3
    exact T_law04_FlightParted_4_eq C from91 to92 n93 want94a want94l want94c w

def T_law04_FlightParted_5 (f120 : Int) (h121 : Int) (w : World) (Kn : Bool → World → Prop) (Kp : List PanicEntry → World → Prop) : Prop :=
  Calls Try.prog 15 #[] w (ret (fun r122 w123 => ∃ b124 : Bool, r122 = .bool b124 ∧ if b124 = true then (if ((f120 : Int) == 6) = true then (Kn ((h121 : Int) == 6) w123) else (Kn false w123)) else (Kn false w123)) Kp)

def T_law04_FlightParted_5_outs : Exit → Option (List (Nat × Value)) := fun x => match x with | .normal => some [(6, .bool false)] | .panic _ => some [] | _ => none

def T_law04_FlightParted_5_ks : Nat → Bool := ksOf [6, 131, 132, 133, 134, 135, 136, 137, 138, 139]

def H_law04_FlightParted_5 : Env → World → QT → Prop := unitHook 164 T_law04_FlightParted_5_ks [(15, .int .i64 0), (18, .int .i64 0)] T_law04_FlightParted_5_outs fun l w C => match l with | [v0, v1] => T_law04_FlightParted_5 (pInt v0) (pInt v1) w (fun b126 w => C .normal [.bool b126] w) (fun ch w => C (.panic ch) [] w) | _ => False

theorem T_law04_FlightParted_5_hl : allP (hokL Try.prog (hookAt []) (at_ (bodyOf Try.f7) [1, 1, 1, 1, 1, 1, 1, 1, 1, 1, 1, 1, 1, 0, 1, 0, 0]) 262132) = (True) := by kernel_rfl
theorem T_law04_FlightParted_5_hok : HOk Try.prog (hookAt []) (at_ (bodyOf Try.f7) [1, 1, 1, 1, 1, 1, 1, 1, 1, 1, 1, 1, 1, 0, 1, 0, 0]) 262132 := HOk_of _ _ (by rw [T_law04_FlightParted_5_hl]; exact trivial)

theorem T_law04_FlightParted_5_eq (C : Conts) (f120 : Int) (h121 : Int) (w : World) : vcCode Try.prog (hookAt []) (at_ (bodyOf Try.f7) [1, 1, 1, 1, 1, 1, 1, 1, 1, 1, 1, 1, 1, 0, 1, 0, 0]) 262132 ⟨[(15, .int .i64 f120), (18, .int .i64 h121)], 164, []⟩ w (unitQ T_law04_FlightParted_5_outs C) = T_law04_FlightParted_5 f120 h121 w (fun b127 w => C .normal [.bool b127] w) (fun ch w => C (.panic ch) [] w) := by kernel_rfl

theorem T_law04_FlightParted_5_ok : UnitOk Try.prog H_law04_FlightParted_5 (at_ (bodyOf Try.f7) [1, 1, 1, 1, 1, 1, 1, 1, 1, 1, 1, 1, 1, 0, 1, 0, 0]) 262132 := unit_ok (H := (hookAt [])) (by kernel_rfl) T_law04_FlightParted_5_hok fun l w C hk => by
    obtain ⟨v0, l_v0, rfl, k_v0, hk_v0⟩ := Kinds.cons_ hk
    obtain ⟨f120, rfl⟩ := kind_int k_v0
    obtain ⟨v1, l_v1, rfl, k_v1, hk_v1⟩ := Kinds.cons_ hk_v0
    obtain ⟨h121, rfl⟩ := kind_int k_v1
    obtain rfl := Kinds.nil_ hk_v1
    exact T_law04_FlightParted_5_eq C f120 h121 w

def T_law04_FlightParted (l1a : Option Addr) (l1l : Nat) (l1c : Nat) (from2 : Int) (to3 : Int) (w : World) (R : Ending → World → Prop) : Prop :=
  Calls Try.prog 23 #[.slice l1a l1l l1c] w (ret (fun r4 w5 => ∃ p6 : Option Addr, ∃ p7 : Option Addr, ∃ b8 : Bool, r4 = .tuple #[.pointer p6, .pointer p7, .bool b8] ∧ if (!b8) = true then (R (.returned (.bool false)) w5) else (Calls Try.prog 20 #[.pointer p6] w5 (ret (fun r9 w10 => ∃ s11a : Option Addr, ∃ s11l : Nat, ∃ s11c : Nat, r9 = .slice s11a s11l s11c ∧ Calls Try.prog 24 #[.pointer p6, .int .i64 from2, .int .i64 to3] w10 (ret (fun r12 w13 => ∃ x14 : Int, r12 = .int .i64 x14 ∧ if ((x14 : Int) != 0) = true then (T_law04_FlightParted_1 from2 to3 p6 s11a s11l s11c x14 w13 (fun b56 w57 => R (.returned (.bool b56)) w57) (pan R)) else (T_law04_FlightParted_2 none 0 0 0 from2 to3 s11a s11l s11c w13 (fun want89a want89l want89c w90 => T_law04_FlightParted_4 from2 to3 p6 want89a want89l want89c w90 (fun b107 w108 => if b107 = true then (R (.returned (.bool false)) w108) else (Calls Try.prog 17 #[.pointer p6, .int .i64 from2, .int .i64 to3, .slice none 0 0] w108 (ret (fun r109 w110 => ∃ x111 : Int, ∃ x112 : Int, r109 = .tuple #[.int .i64 x111, .int .i64 x112] ∧ Calls Try.prog 27 #[.pointer p6, .int .i64 from2, .int .i64 to3] w110 (ret (fun r113 w114 => ∃ x115 : Int, r113 = .int .i64 x115 ∧ Calls Try.prog 17 #[.pointer p6, .int .i64 from2, .int .i64 to3, .slice none 0 0] w114 (ret (fun r116 w117 => ∃ x118 : Int, ∃ x119 : Int, r116 = .tuple #[.int .i64 x118, .int .i64 x119] ∧ if (decide (((want89l : Nat) : Int) ≥ 128)) = true then (T_law04_FlightParted_5 x112 x119 w117 (fun b128 w129 => R (.returned (.bool b128)) w129) (pan R)) else (Calls Try.prog 15 #[] w117 (ret (fun r130 w131 => ∃ b132 : Bool, r130 = .bool b132 ∧ if b132 = true then (if ((x112 : Int) == 8) = true then (if ((x115 : Int) == 0) = true then (if ((x119 : Int) == 0) = true then (if (decide ((x118 : Int) > 0)) = true then (Calls Try.prog 26 #[.pointer p6, .int .i64 from2, .int .i64 to3] w131 (ret (fun r133 w134 => ∃ b135 : Bool, r133 = .bool b135 ∧ R (.returned (.bool (!b135))) w134) (pan R))) else (R (.returned (.bool false)) w131)) else (R (.returned (.bool false)) w131)) else (R (.returned (.bool false)) w131)) else (R (.returned (.bool false)) w131)) else (R (.returned (.bool false)) w131)) (pan R)))) (pan R))) (pan R))) (pan R)))) (pan R)) (pan R))) (pan R))) (pan R)))) (pan R))

theorem T_law04_FlightParted_hl : allP (hokL Try.prog (hookAt [(1012, H_law04_FlightParted_1), (1021, H_law04_FlightParted_2), (2044, H_law04_FlightParted_4), (262132, H_law04_FlightParted_5)]) (bodyOf Try.f7) 1) = (UnitOk Try.prog H_law04_FlightParted_1 (at_ (bodyOf Try.f7) [1, 1, 1, 1, 1, 0, 1, 0, 0]) 1012 ∧ UnitOk Try.prog H_law04_FlightParted_2 (at_ (bodyOf Try.f7) [1, 1, 1, 1, 1, 1, 1, 0, 1]) 1021 ∧ UnitOk Try.prog H_law04_FlightParted_4 (at_ (bodyOf Try.f7) [1, 1, 1, 1, 1, 1, 1, 1, 0, 0]) 2044 ∧ UnitOk Try.prog H_law04_FlightParted_5 (at_ (bodyOf Try.f7) [1, 1, 1, 1, 1, 1, 1, 1, 1, 1, 1, 1, 1, 0, 1, 0, 0]) 262132 ∧ True) := by kernel_rfl

theorem T_law04_FlightParted_eq (l1a : Option Addr) (l1l : Nat) (l1c : Nat) (from2 : Int) (to3 : Int) (w : World) (R : Ending → World → Prop) : vcCode Try.prog (hookAt [(1012, H_law04_FlightParted_1), (1021, H_law04_FlightParted_2), (2044, H_law04_FlightParted_4), (262132, H_law04_FlightParted_5)]) (bodyOf Try.f7) 1 ⟨argEnv [.slice l1a l1l l1c, .int .i64 from2, .int .i64 to3] 0, Try.f7.ntmps, []⟩ w (finQ Try.prog Try.f7.results.toList R) = T_law04_FlightParted l1a l1l l1c from2 to3 w R := by kernel_rfl

theorem T_law04_FlightParted_b : Try.f7.body = some (bodyOf Try.f7) := by kernel_rfl
theorem T_law04_FlightParted_s : (quietSel (bodyOf Try.f7) && Nat.ble 3 Try.f7.ntmps) = true := by kernel_rfl

theorem C_law04_FlightParted {l1a : Option Addr} {l1l : Nat} {l1c : Nat} {from2 : Int} {to3 : Int} {w : World} {R : Ending → World → Prop} (h : T_law04_FlightParted l1a l1l l1c from2 to3 w R) : Calls Try.prog 7 #[.slice l1a l1l l1c, .int .i64 from2, .int .i64 to3] w R :=
  calls_of_text (args := [.slice l1a l1l l1c, .int .i64 from2, .int .i64 to3]) mixed Try.func7 T_law04_FlightParted_b T_law04_FlightParted_s (HOk_of _ _ (by rw [T_law04_FlightParted_hl]; exact ⟨T_law04_FlightParted_1_ok, T_law04_FlightParted_2_ok, T_law04_FlightParted_4_ok, T_law04_FlightParted_5_ok, trivial⟩)) (by rw [T_law04_FlightParted_eq]; exact h)

/-! tollgate/tollgatelaw04.FlightOwn -/
def T_law04_FlightOwn_2_body (X : Int → World → Prop) (k12 : Int) (u13a : Option Addr) (u13l : Nat) (u13c : Nat) (i14 : Int) (w : World) (Kn : World → Prop) (Kp : List PanicEntry → World → Prop)  : Prop :=
  0 ≤ (i14 : Int) ∧ (i14 : Int) < ((u13l : Nat) : Int) ∧ ∃ b15, u13a = some b15 ∧ ∃ s16a : Option Addr, ∃ s16l : Nat, ∃ s16c : Nat, rd w ((b15.add ((i14 : Int).toNat * 4)).add 3) (.slice s16a s16l s16c) ∧ if (decide ((k12 : Int) < ((s16l : Nat) : Int))) = true then (0 ≤ (i14 : Int) ∧ (i14 : Int) < ((u13l : Nat) : Int) ∧ ∃ b17, u13a = some b17 ∧ ∃ s18a : Option Addr, ∃ s18l : Nat, ∃ s18c : Nat, rd w ((b17.add ((i14 : Int).toNat * 4)).add 3) (.slice s18a s18l s18c) ∧ 0 ≤ (k12 : Int) ∧ (k12 : Int) < ((s18l : Nat) : Int) ∧ ∃ b19, s18a = some b19 ∧ ∃ x20 : Int, rd w (b19.add ((k12 : Int).toNat * 1)) (.int .u8 x20) ∧ 0 ≤ (k12 : Int) ∧ (k12 : Int) < ((s18l : Nat) : Int) ∧ ∃ b21, s18a = some b21 ∧ (.int .u8 (IntKind.wrap .u8 ((BitVec.ofInt (IntKind.bits .u8) x20) ^^^ (BitVec.ofInt (IntKind.bits .u8) 255)).toNat) : Value).cells.size = 1 ∧ wrOk w (b21.add ((k12 : Int).toNat * 1)) (.int .u8 (IntKind.wrap .u8 ((BitVec.ofInt (IntKind.bits .u8) x20) ^^^ (BitVec.ofInt (IntKind.bits .u8) 255)).toNat)) ∧ let w22 : World := wr w (b21.add ((k12 : Int).toNat * 1)) (.int .u8 (IntKind.wrap .u8 ((BitVec.ofInt (IntKind.bits .u8) x20) ^^^ (BitVec.ofInt (IntKind.bits .u8) 255)).toNat))
  X (IntKind.wrap .i64 ((k12 : Int) + 1)) w22) else (Kn  w)

def T_law04_FlightOwn_2 (k12 : Int) (u13a : Option Addr) (u13l : Nat) (u13c : Nat) (i14 : Int) (w : World) (Kn : World → Prop) (Kp : List PanicEntry → World → Prop) : Prop :=
  ∀ X : Int → World → Prop, (∀ (k12 : Int) (w : World), T_law04_FlightOwn_2_body X k12 u13a u13l u13c i14 w Kn Kp → X k12 w) → X k12 w

def T_law04_FlightOwn_2_outs : Exit → Option (List (Nat × Value)) := fun x => match x with | .normal => some [] | .panic _ => some [] | _ => none

def T_law04_FlightOwn_2_ks : Nat → Bool := ksOf [8, 32, 33, 34, 35, 36, 37, 38, 39, 40, 41, 42, 43, 44, 45, 46, 47, 48, 49, 50, 51]

def H_law04_FlightOwn_2 : Env → World → QT → Prop := unitHook 133 T_law04_FlightOwn_2_ks [(8, .int .i64 0), (6, .slice none 0 0), (7, .int .i64 0)] T_law04_FlightOwn_2_outs fun l w C => match l with | [v0, v1, v2] => T_law04_FlightOwn_2 (pInt v0) (pA v1) (pL v1) (pC v1) (pInt v2) w (fun w => C .normal [] w) (fun ch w => C (.panic ch) [] w) | _ => False

theorem T_law04_FlightOwn_2_hl : allP (hokL Try.prog (hookAt []) (at_ (bodyOf Try.f8) [1, 1, 1, 1, 0, 1, 0, 0, 1, 0, 0, 0, 1, 0, 0]) 64068) = (True) := by kernel_rfl
theorem T_law04_FlightOwn_2_hok : HOk Try.prog (hookAt []) (at_ (bodyOf Try.f8) [1, 1, 1, 1, 0, 1, 0, 0, 1, 0, 0, 0, 1, 0, 0]) 64068 := HOk_of _ _ (by rw [T_law04_FlightOwn_2_hl]; exact trivial)

theorem T_law04_FlightOwn_2_eq (C : Conts) (X : List Value → World → Prop) (k12 : Int) (u13a : Option Addr) (u13l : Nat) (u13c : Nat) (i14 : Int) (w : World) : vcCode Try.prog (hookAt []) (at_ (bodyOf Try.f8) [1, 1, 1, 1, 0, 1, 0, 0, 1, 0, 0, 0, 1, 0, 0]) 64068 ⟨[(8, .int .i64 k12)] ++ [(6, .slice u13a u13l u13c), (7, .int .i64 i14)], 133, []⟩ w (seqQ (fun e w => takeAll e [(8, .int .i64 0)] fun l => X l w) (blockQ 2 (unitQ T_law04_FlightOwn_2_outs C))) = T_law04_FlightOwn_2_body (fun k12 w => X [.int .i64 k12] w) k12 u13a u13l u13c i14 w (fun w => C .normal [] w) (fun ch w => C (.panic ch) [] w) := by kernel_rfl

theorem T_law04_FlightOwn_2_ok : UnitOk Try.prog H_law04_FlightOwn_2 (at_ (bodyOf Try.f8) [1, 1, 1, 1, 0, 1, 0, 0, 1, 0, 0, 0, 1]) 16017 := by
  have hc : at_ (bodyOf Try.f8) [1, 1, 1, 1, 0, 1, 0, 0, 1, 0, 0, 0, 1] = .block 2 (.loop (at_ (bodyOf Try.f8) [1, 1, 1, 1, 0, 1, 0, 0, 1, 0, 0, 0, 1, 0, 0])) := by kernel_rfl
  rw [hc]
  refine loop_unit_ok (carr := [(8, .int .i64 0)]) (fix := [(6, .slice none 0 0), (7, .int .i64 0)]) (ks := T_law04_FlightOwn_2_ks) (H := (hookAt [])) (B := fun C X l u w => match l, u with | [v0], [v1, v2] => T_law04_FlightOwn_2_body (fun k12 w => X [.int .i64 k12] w) (pInt v0) (pA v1) (pL v1) (pC v1) (pInt v2) w (fun w => C .normal [] w) (fun ch w => C (.panic ch) [] w) | _, _ => False) (by kernel_rfl) (by kernel_rfl) T_law04_FlightOwn_2_hok ?_ ?_
  · intro C X l u w hl hu
    obtain ⟨v0, l_v0, rfl, k_v0, hl_v0⟩ := Kinds.cons_ hl
    obtain ⟨k12, rfl⟩ := kind_int k_v0
    obtain rfl := Kinds.nil_ hl_v0
    obtain ⟨v1, l_v1, rfl, k_v1, hu_v1⟩ := Kinds.cons_ hu
    obtain ⟨u13a, u13l, u13c, rfl⟩ := kind_slice k_v1
    obtain ⟨v2, l_v2, rfl, k_v2, hu_v2⟩ := Kinds.cons_ hu_v1
    obtain ⟨i14, rfl⟩ := kind_int k_v2
    obtain rfl := Kinds.nil_ hu_v2
    exact T_law04_FlightOwn_2_eq C X k12 u13a u13l u13c i14 w
  · intro l u w C hl hu
    obtain ⟨v0, l_v0, rfl, k_v0, hl_v0⟩ := Kinds.cons_ hl
    obtain ⟨k12, rfl⟩ := kind_int k_v0
    obtain rfl := Kinds.nil_ hl_v0
    obtain ⟨v1, l_v1, rfl, k_v1, hu_v1⟩ := Kinds.cons_ hu
    obtain ⟨u13a, u13l, u13c, rfl⟩ := kind_slice k_v1
    obtain ⟨v2, l_v2, rfl, k_v2, hu_v2⟩ := Kinds.cons_ hu_v1
    obtain ⟨i14, rfl⟩ := kind_int k_v2
    obtain rfl := Kinds.nil_ hu_v2
    constructor
    · intro h X hX
      exact h (fun k12 w => X [.int .i64 k12] w) (fun k12 w hb => hX [.int .i64 k12] w ⟨rfl, trivial⟩ hb)
    · intro h X hX
      exact h (fun l w => match l with | [v0] => X (pInt v0) w | _ => True) (fun l w hl hb => by
        obtain ⟨v0, l_v0, rfl, k_v0, hl_v0⟩ := Kinds.cons_ hl
        obtain ⟨k12, rfl⟩ := kind_int k_v0
        obtain rfl := Kinds.nil_ hl_v0
        exact hX k12 w hb)

def T_law04_FlightOwn_1_body (X : Int → World → Prop) (i10 : Int) (u11a : Option Addr) (u11l : Nat) (u11c : Nat) (w : World) (Kn : World → Prop) (Kp : List PanicEntry → World → Prop)  : Prop :=
  if (decide ((i10 : Int) < ((u11l : Nat) : Int))) = true then (T_law04_FlightOwn_2 0 u11a u11l u11c i10 w (fun w23 => 0 ≤ (i10 : Int) ∧ (i10 : Int) < ((u11l : Nat) : Int) ∧ ∃ b24, u11a = some b24 ∧ ∃ s25a : Option Addr, ∃ s25l : Nat, ∃ s25c : Nat, rd w23 ((b24.add ((i10 : Int).toNat * 4)).add 3) (.slice s25a s25l s25c) ∧ let w26 : World := w23.alloc (.cells #[.int .u8 1] 5)
  runV Try.prog (Builtin.append_ #[36, 36] 36 #[.slice s25a s25l s25c, .slice (some (⟨w23.heap.size, 0, none⟩ : Addr)) 1 1]) w26 (fun r27 w28 => ∃ s29a : Option Addr, ∃ s29l : Nat, ∃ s29c : Nat, r27 = .slice s29a s29l s29c ∧ 0 ≤ (i10 : Int) ∧ (i10 : Int) < ((u11l : Nat) : Int) ∧ ∃ b30, u11a = some b30 ∧ (.slice s29a s29l s29c : Value).cells.size = 1 ∧ wrOk w28 ((b30.add ((i10 : Int).toNat * 4)).add 3) (.slice s29a s29l s29c) ∧ let w31 : World := wr w28 ((b30.add ((i10 : Int).toNat * 4)).add 3) (.slice s29a s29l s29c)
  0 ≤ (i10 : Int) ∧ (i10 : Int) < ((u11l : Nat) : Int) ∧ ∃ b32, u11a = some b32 ∧ (.int .i64 99 : Value).cells.size = 1 ∧ wrOk w31 ((b32.add ((i10 : Int).toNat * 4)).add 2) (.int .i64 99) ∧ let w33 : World := wr w31 ((b32.add ((i10 : Int).toNat * 4)).add 2) (.int .i64 99)
  X (IntKind.wrap .i64 ((i10 : Int) + 1)) w33) Kp) Kp) else (Kn  w)

def T_law04_FlightOwn_1 (i10 : Int) (u11a : Option Addr) (u11l : Nat) (u11c : Nat) (w : World) (Kn : World → Prop) (Kp : List PanicEntry → World → Prop) : Prop :=
  ∀ X : Int → World → Prop, (∀ (i10 : Int) (w : World), T_law04_FlightOwn_1_body X i10 u11a u11l u11c w Kn Kp → X i10 w) → X i10 w

def T_law04_FlightOwn_1_outs : Exit → Option (List (Nat × Value)) := fun x => match x with | .normal => some [] | .panic _ => some [] | _ => none

def T_law04_FlightOwn_1_ks : Nat → Bool := ksOf [7, 8, 26, 27, 28, 29, 30, 31, 32, 33, 34, 35, 36, 37, 38, 39, 40, 41, 42, 43, 44, 45, 46, 47, 48, 49, 50, 51, 52, 53, 54, 55, 56, 57, 58, 59, 60, 61, 62, 63, 64, 65, 66]

def H_law04_FlightOwn_1 : Env → World → QT → Prop := unitHook 133 T_law04_FlightOwn_1_ks [(7, .int .i64 0), (6, .slice none 0 0)] T_law04_FlightOwn_1_outs fun l w C => match l with | [v0, v1] => T_law04_FlightOwn_1 (pInt v0) (pA v1) (pL v1) (pC v1) w (fun w => C .normal [] w) (fun ch w => C (.panic ch) [] w) | _ => False

theorem T_law04_FlightOwn_1_hl : allP (hokL Try.prog (hookAt [(16017, H_law04_FlightOwn_2)]) (at_ (bodyOf Try.f8) [1, 1, 1, 1, 0, 1, 0, 0]) 500) = (UnitOk Try.prog H_law04_FlightOwn_2 (at_ (bodyOf Try.f8) [1, 1, 1, 1, 0, 1, 0, 0, 1, 0, 0, 0, 1]) 16017 ∧ True) := by kernel_rfl
theorem T_law04_FlightOwn_1_hok : HOk Try.prog (hookAt [(16017, H_law04_FlightOwn_2)]) (at_ (bodyOf Try.f8) [1, 1, 1, 1, 0, 1, 0, 0]) 500 := HOk_of _ _ (by rw [T_law04_FlightOwn_1_hl]; exact ⟨T_law04_FlightOwn_2_ok, trivial⟩)

theorem T_law04_FlightOwn_1_eq (C : Conts) (X : List Value → World → Prop) (i10 : Int) (u11a : Option Addr) (u11l : Nat) (u11c : Nat) (w : World) : vcCode Try.prog (hookAt [(16017, H_law04_FlightOwn_2)]) (at_ (bodyOf Try.f8) [1, 1, 1, 1, 0, 1, 0, 0]) 500 ⟨[(7, .int .i64 i10)] ++ [(6, .slice u11a u11l u11c)], 133, []⟩ w (seqQ (fun e w => takeAll e [(7, .int .i64 0)] fun l => X l w) (blockQ 0 (unitQ T_law04_FlightOwn_1_outs C))) = T_law04_FlightOwn_1_body (fun i10 w => X [.int .i64 i10] w) i10 u11a u11l u11c w (fun w => C .normal [] w) (fun ch w => C (.panic ch) [] w) := by kernel_rfl

theorem T_law04_FlightOwn_1_ok : UnitOk Try.prog H_law04_FlightOwn_1 (at_ (bodyOf Try.f8) [1, 1, 1, 1, 0, 1]) 125 := by
  have hc : at_ (bodyOf Try.f8) [1, 1, 1, 1, 0, 1] = .block 0 (.loop (at_ (bodyOf Try.f8) [1, 1, 1, 1, 0, 1, 0, 0])) := by kernel_rfl
  rw [hc]
  refine loop_unit_ok (carr := [(7, .int .i64 0)]) (fix := [(6, .slice none 0 0)]) (ks := T_law04_FlightOwn_1_ks) (H := (hookAt [(16017, H_law04_FlightOwn_2)])) (B := fun C X l u w => match l, u with | [v0], [v1] => T_law04_FlightOwn_1_body (fun i10 w => X [.int .i64 i10] w) (pInt v0) (pA v1) (pL v1) (pC v1) w (fun w => C .normal [] w) (fun ch w => C (.panic ch) [] w) | _, _ => False) (by kernel_rfl) (by kernel_rfl) T_law04_FlightOwn_1_hok ?_ ?_
  · intro C X l u w hl hu
    obtain ⟨v0, l_v0, rfl, k_v0, hl_v0⟩ := Kinds.cons_ hl
    obtain ⟨i10, rfl⟩ := kind_int k_v0
    obtain rfl := Kinds.nil_ hl_v0
    obtain ⟨v1, l_v1, rfl, k_v1, hu_v1⟩ := Kinds.cons_ hu
    obtain ⟨u11a, u11l, u11c, rfl⟩ := kind_slice k_v1
    obtain rfl := Kinds.nil_ hu_v1
    exact T_law04_FlightOwn_1_eq C X i10 u11a u11l u11c w
  · intro l u w C hl hu
    obtain ⟨v0, l_v0, rfl, k_v0, hl_v0⟩ := Kinds.cons_ hl
    obtain ⟨i10, rfl⟩ := kind_int k_v0
    obtain rfl := Kinds.nil_ hl_v0
    obtain ⟨v1, l_v1, rfl, k_v1, hu_v1⟩ := Kinds.cons_ hu
    obtain ⟨u11a, u11l, u11c, rfl⟩ := kind_slice k_v1
    obtain rfl := Kinds.nil_ hu_v1
    constructor
    · intro h X hX
      exact h (fun i10 w => X [.int .i64 i10] w) (fun i10 w hb => hX [.int .i64 i10] w ⟨rfl, trivial⟩ hb)
    · intro h X hX
      exact h (fun l w => match l with | [v0] => X (pInt v0) w | _ => True) (fun l w hl hb => by
        obtain ⟨v0, l_v0, rfl, k_v0, hl_v0⟩ := Kinds.cons_ hl
        obtain ⟨i10, rfl⟩ := kind_int k_v0
        obtain rfl := Kinds.nil_ hl_v0
        exact hX i10 w hb)

def T_law04_FlightOwn_3 (id67 : Int) (e68 : Int) (p69 : Addr) (f70 : Int) (q71 : Addr) (w : World) (Kn : Bool → World → Prop) (Kp : List PanicEntry → World → Prop) : Prop :=
  if ((e68 : Int) == 0) = true then (if ((f70 : Int) != 0) = true then (Kn true w) else (∃ x72 : Int, rd w p69 (.int .i64 x72) ∧ if ((x72 : Int) != id67) = true then (Kn true w) else (∃ x73 : Int, ∃ x74 : Int, ∃ x75 : Int, ∃ s76a : Option Addr, ∃ s76l : Nat, ∃ s76c : Nat, rd w p69 (.agg #[.int .i64 x73, .int .i64 x74, .int .i64 x75, .slice s76a s76l s76c]) ∧ ∃ x77 : Int, ∃ x78 : Int, ∃ x79 : Int, ∃ s80a : Option Addr, ∃ s80l : Nat, ∃ s80c : Nat, rd w q71 (.agg #[.int .i64 x77, .int .i64 x78, .int .i64 x79, .slice s80a s80l s80c]) ∧ Calls Try.prog 19 #[.agg #[.int .i64 x73, .int .i64 x74, .int .i64 x75, .slice s76a s76l s76c], .agg #[.int .i64 x77, .int .i64 x78, .int .i64 x79, .slice s80a s80l s80c]] w (ret (fun r81 w82 => ∃ b83 : Bool, r81 = .bool b83 ∧ Kn (!b83) w82) Kp)))) else (∃ x84 : Int, ∃ x85 : Int, ∃ x86 : Int, ∃ s87a : Option Addr, ∃ s87l : Nat, ∃ s87c : Nat, rd w p69 (.agg #[.int .i64 x84, .int .i64 x85, .int .i64 x86, .slice s87a s87l s87c]) ∧ ∃ x88 : Int, ∃ x89 : Int, ∃ x90 : Int, ∃ s91a : Option Addr, ∃ s91l : Nat, ∃ s91c : Nat, rd w q71 (.agg #[.int .i64 x88, .int .i64 x89, .int .i64 x90, .slice s91a s91l s91c]) ∧ Calls Try.prog 19 #[.agg #[.int .i64 x84, .int .i64 x85, .int .i64 x86, .slice s87a s87l s87c], .agg #[.int .i64 x88, .int .i64 x89, .int .i64 x90, .slice s91a s91l s91c]] w (ret (fun r92 w93 => ∃ b94 : Bool, r92 = .bool b94 ∧ Kn (!b94) w93) Kp))

def T_law04_FlightOwn_3_outs : Exit → Option (List (Nat × Value)) := fun x => match x with | .normal => some [(110, .bool false)] | .panic _ => some [] | _ => none

def T_law04_FlightOwn_3_ks : Nat → Bool := ksOf [93, 94, 95, 96, 97, 98, 99, 100, 101, 102, 103, 104, 105, 106, 107, 108, 109, 110]

def H_law04_FlightOwn_3 : Env → World → QT → Prop := unitHook 133 T_law04_FlightOwn_3_ks [(9, .int .i64 0), (10, .int .i64 0), (11, .pointer (some ⟨0, 0, none⟩)), (12, .int .i64 0), (13, .pointer (some ⟨0, 0, none⟩))] T_law04_FlightOwn_3_outs fun l w C => match l with | [v0, v1, v2, v3, v4] => T_law04_FlightOwn_3 (pInt v0) (pInt v1) (pAddr v2) (pInt v3) (pAddr v4) w (fun b96 w => C .normal [.bool b96] w) (fun ch w => C (.panic ch) [] w) | _ => False

theorem T_law04_FlightOwn_3_hl : allP (hokL Try.prog (hookAt []) (at_ (bodyOf Try.f8) [1, 1, 1, 1, 1, 1, 1, 1, 1, 0, 0]) 4092) = (True) := by kernel_rfl
theorem T_law04_FlightOwn_3_hok : HOk Try.prog (hookAt []) (at_ (bodyOf Try.f8) [1, 1, 1, 1, 1, 1, 1, 1, 1, 0, 0]) 4092 := HOk_of _ _ (by rw [T_law04_FlightOwn_3_hl]; exact trivial)

theorem T_law04_FlightOwn_3_eq (C : Conts) (id67 : Int) (e68 : Int) (p69 : Addr) (f70 : Int) (q71 : Addr) (w : World) : vcCode Try.prog (hookAt []) (at_ (bodyOf Try.f8) [1, 1, 1, 1, 1, 1, 1, 1, 1, 0, 0]) 4092 ⟨[(9, .int .i64 id67), (10, .int .i64 e68), (11, .pointer (some p69)), (12, .int .i64 f70), (13, .pointer (some q71))], 133, []⟩ w (unitQ T_law04_FlightOwn_3_outs C) = T_law04_FlightOwn_3 id67 e68 p69 f70 q71 w (fun b97 w => C .normal [.bool b97] w) (fun ch w => C (.panic ch) [] w) := by kernel_rfl

theorem T_law04_FlightOwn_3_ok : UnitOk Try.prog H_law04_FlightOwn_3 (at_ (bodyOf Try.f8) [1, 1, 1, 1, 1, 1, 1, 1, 1, 0, 0]) 4092 := unit_ok (H := (hookAt [])) (by kernel_rfl) T_law04_FlightOwn_3_hok fun l w C hk => by
    obtain ⟨v0, l_v0, rfl, k_v0, hk_v0⟩ := Kinds.cons_ hk
    obtain ⟨id67, rfl⟩ := kind_int k_v0
    obtain ⟨v1, l_v1, rfl, k_v1, hk_v1⟩ := Kinds.cons_ hk_v0
    obtain ⟨e68, rfl⟩ := kind_int k_v1
    obtain ⟨v2, l_v2, rfl, k_v2, hk_v2⟩ := Kinds.cons_ hk_v1
    obtain ⟨p69, rfl⟩ := kind_addr k_v2
    obtain ⟨v3, l_v3, rfl, k_v3, hk_v3⟩ := Kinds.cons_ hk_v2
    obtain ⟨f70, rfl⟩ := kind_int k_v3
    obtain ⟨v4, l_v4, rfl, k_v4, hk_v4⟩ := Kinds.cons_ hk_v3
    obtain ⟨q71, rfl⟩ := kind_addr k_v4
    obtain rfl := Kinds.nil_ hk_v4
    exact T_law04_FlightOwn_3_eq C id67 e68 p69 f70 q71 w

def T_law04_FlightOwn_4_body (X : Int → World → Prop) (k100 : Int) (p101 : Addr) (w : World) (Kn : World → Prop) (Kp : List PanicEntry → World → Prop)  : Prop :=
  ∃ s102a : Option Addr, ∃ s102l : Nat, ∃ s102c : Nat, rd w (p101.add 3) (.slice s102a s102l s102c) ∧ if (decide ((k100 : Int) < ((s102l : Nat) : Int))) = true then (∃ s103a : Option Addr, ∃ s103l : Nat, ∃ s103c : Nat, rd w (p101.add 3) (.slice s103a s103l s103c) ∧ 0 ≤ (k100 : Int) ∧ (k100 : Int) < ((s103l : Nat) : Int) ∧ ∃ b104, s103a = some b104 ∧ ∃ x105 : Int, rd w (b104.add ((k100 : Int).toNat * 1)) (.int .u8 x105) ∧ 0 ≤ (k100 : Int) ∧ (k100 : Int) < ((s103l : Nat) : Int) ∧ ∃ b106, s103a = some b106 ∧ (.int .u8 (IntKind.wrap .u8 ((BitVec.ofInt (IntKind.bits .u8) x105) ^^^ (BitVec.ofInt (IntKind.bits .u8) 255)).toNat) : Value).cells.size = 1 ∧ wrOk w (b106.add ((k100 : Int).toNat * 1)) (.int .u8 (IntKind.wrap .u8 ((BitVec.ofInt (IntKind.bits .u8) x105) ^^^ (BitVec.ofInt (IntKind.bits .u8) 255)).toNat)) ∧ let w107 : World := wr w (b106.add ((k100 : Int).toNat * 1)) (.int .u8 (IntKind.wrap .u8 ((BitVec.ofInt (IntKind.bits .u8) x105) ^^^ (BitVec.ofInt (IntKind.bits .u8) 255)).toNat))
  X (IntKind.wrap .i64 ((k100 : Int) + 1)) w107) else (Kn  w)

def T_law04_FlightOwn_4 (k100 : Int) (p101 : Addr) (w : World) (Kn : World → Prop) (Kp : List PanicEntry → World → Prop) : Prop :=
  ∀ X : Int → World → Prop, (∀ (k100 : Int) (w : World), T_law04_FlightOwn_4_body X k100 p101 w Kn Kp → X k100 w) → X k100 w

def T_law04_FlightOwn_4_outs : Exit → Option (List (Nat × Value)) := fun x => match x with | .normal => some [] | .panic _ => some [] | _ => none

def T_law04_FlightOwn_4_ks : Nat → Bool := ksOf [15, 111, 112, 113, 114, 115, 116, 117, 118, 119, 120, 121, 122, 123, 124]

def H_law04_FlightOwn_4 : Env → World → QT → Prop := unitHook 133 T_law04_FlightOwn_4_ks [(15, .int .i64 0), (11, .pointer (some ⟨0, 0, none⟩))] T_law04_FlightOwn_4_outs fun l w C => match l with | [v0, v1] => T_law04_FlightOwn_4 (pInt v0) (pAddr v1) w (fun w => C .normal [] w) (fun ch w => C (.panic ch) [] w) | _ => False

theorem T_law04_FlightOwn_4_hl : allP (hokL Try.prog (hookAt []) (at_ (bodyOf Try.f8) [1, 1, 1, 1, 1, 1, 1, 1, 1, 1, 0, 1, 0, 0]) 32756) = (True) := by kernel_rfl
theorem T_law04_FlightOwn_4_hok : HOk Try.prog (hookAt []) (at_ (bodyOf Try.f8) [1, 1, 1, 1, 1, 1, 1, 1, 1, 1, 0, 1, 0, 0]) 32756 := HOk_of _ _ (by rw [T_law04_FlightOwn_4_hl]; exact trivial)

theorem T_law04_FlightOwn_4_eq (C : Conts) (X : List Value → World → Prop) (k100 : Int) (p101 : Addr) (w : World) : vcCode Try.prog (hookAt []) (at_ (bodyOf Try.f8) [1, 1, 1, 1, 1, 1, 1, 1, 1, 1, 0, 1, 0, 0]) 32756 ⟨[(15, .int .i64 k100)] ++ [(11, .pointer (some p101))], 133, []⟩ w (seqQ (fun e w => takeAll e [(15, .int .i64 0)] fun l => X l w) (blockQ 4 (unitQ T_law04_FlightOwn_4_outs C))) = T_law04_FlightOwn_4_body (fun k100 w => X [.int .i64 k100] w) k100 p101 w (fun w => C .normal [] w) (fun ch w => C (.panic ch) [] w) := by kernel_rfl

theorem T_law04_FlightOwn_4_ok : UnitOk Try.prog H_law04_FlightOwn_4 (at_ (bodyOf Try.f8) [1, 1, 1, 1, 1, 1, 1, 1, 1, 1, 0, 1]) 8189 := by
  have hc : at_ (bodyOf Try.f8) [1, 1, 1, 1, 1, 1, 1, 1, 1, 1, 0, 1] = .block 4 (.loop (at_ (bodyOf Try.f8) [1, 1, 1, 1, 1, 1, 1, 1, 1, 1, 0, 1, 0, 0])) := by kernel_rfl
  rw [hc]
  refine loop_unit_ok (carr := [(15, .int .i64 0)]) (fix := [(11, .pointer (some ⟨0, 0, none⟩))]) (ks := T_law04_FlightOwn_4_ks) (H := (hookAt [])) (B := fun C X l u w => match l, u with | [v0], [v1] => T_law04_FlightOwn_4_body (fun k100 w => X [.int .i64 k100] w) (pInt v0) (pAddr v1) w (fun w => C .normal [] w) (fun ch w => C (.panic ch) [] w) | _, _ => False) (by kernel_rfl) (by kernel_rfl) T_law04_FlightOwn_4_hok ?_ ?_
  · intro C X l u w hl hu
    obtain ⟨v0, l_v0, rfl, k_v0, hl_v0⟩ := Kinds.cons_ hl
    obtain ⟨k100, rfl⟩ := kind_int k_v0
    obtain rfl := Kinds.nil_ hl_v0
    obtain ⟨v1, l_v1, rfl, k_v1, hu_v1⟩ := Kinds.cons_ hu
    obtain ⟨p101, rfl⟩ := kind_addr k_v1
    obtain rfl := Kinds.nil_ hu_v1
    exact T_law04_FlightOwn_4_eq C X k100 p101 w
  · intro l u w C hl hu
    obtain ⟨v0, l_v0, rfl, k_v0, hl_v0⟩ := Kinds.cons_ hl
    obtain ⟨k100, rfl⟩ := kind_int k_v0
    obtain rfl := Kinds.nil_ hl_v0
    obtain ⟨v1, l_v1, rfl, k_v1, hu_v1⟩ := Kinds.cons_ hu
    obtain ⟨p101, rfl⟩ := kind_addr k_v1
    obtain rfl := Kinds.nil_ hu_v1
    constructor
    · intro h X hX
      exact h (fun k100 w => X [.int .i64 k100] w) (fun k100 w hb => hX [.int .i64 k100] w ⟨rfl, trivial⟩ hb)
    · intro h X hX
      exact h (fun l w => match l with | [v0] => X (pInt v0) w | _ => True) (fun l w hl hb => by
        obtain ⟨v0, l_v0, rfl, k_v0, hl_v0⟩ := Kinds.cons_ hl
        obtain ⟨k100, rfl⟩ := kind_int k_v0
        obtain rfl := Kinds.nil_ hl_v0
        exact hX k100 w hb)

def T_law04_FlightOwn (l1a : Option Addr) (l1l : Nat) (l1c : Nat) (w : World) (R : Ending → World → Prop) : Prop :=
  Calls Try.prog 23 #[.slice l1a l1l l1c] w (ret (fun r2 w3 => ∃ p4 : Option Addr, ∃ p5 : Option Addr, ∃ b6 : Bool, r2 = .tuple #[.pointer p4, .pointer p5, .bool b6] ∧ if (!b6) = true then (R (.returned (.bool false)) w3) else (Calls Try.prog 20 #[.pointer p4] w3 (ret (fun r7 w8 => ∃ s9a : Option Addr, ∃ s9l : Nat, ∃ s9c : Nat, r7 = .slice s9a s9l s9c ∧ T_law04_FlightOwn_1 0 s9a s9l s9c w8 (fun w34 => Calls Try.prog 21 #[.pointer p4, .int .i64 0] w34 (ret (fun r35 w36 => ∃ x37 : Int, ∃ x38 : Int, r35 = .tuple #[.int .i64 x37, .int .i64 x38] ∧ Calls Try.prog 28 #[.pointer p5, .int .i64 0] w36 (ret (fun r39 w40 => ∃ x41 : Int, ∃ x42 : Int, r39 = .tuple #[.int .i64 x41, .int .i64 x42] ∧ Calls Try.prog 22 #[.pointer p4] w40 (ret (fun r43 w44 => ∃ x45 : Int, r43 = .int .i64 x45 ∧ Calls Try.prog 18 #[.pointer p4, .int .i64 (IntKind.wrap .i64 ((x45 : Int) - 1))] w44 (ret (fun r46 w47 => ∃ x48 : Int, ∃ x49 : Int, ∃ x50 : Int, ∃ s51a : Option Addr, ∃ s51l : Nat, ∃ s51c : Nat, ∃ x52 : Int, r46 = .tuple #[.agg #[.int .i64 x48, .int .i64 x49, .int .i64 x50, .slice s51a s51l s51c], .int .i64 x52] ∧ let w53 : World := w47.alloc (.cells #[.int .i64 0, .int .i64 0, .int .i64 0, .slice none 0 0] 41)
  (.agg #[.int .i64 x48, .int .i64 x49, .int .i64 x50, .slice s51a s51l s51c] : Value).cells.size = 4 ∧ wrOk w53 (⟨w47.heap.size, 0, none⟩ : Addr) (.agg #[.int .i64 x48, .int .i64 x49, .int .i64 x50, .slice s51a s51l s51c]) ∧ let w54 : World := wr w53 (⟨w47.heap.size, 0, none⟩ : Addr) (.agg #[.int .i64 x48, .int .i64 x49, .int .i64 x50, .slice s51a s51l s51c])
  Calls Try.prog 30 #[.pointer p5] w54 (ret (fun r55 w56 => ∃ x57 : Int, r55 = .int .i64 x57 ∧ Calls Try.prog 29 #[.pointer p5, .int .i64 (IntKind.wrap .i64 ((x57 : Int) - 1))] w56 (ret (fun r58 w59 => ∃ x60 : Int, ∃ x61 : Int, ∃ x62 : Int, ∃ s63a : Option Addr, ∃ s63l : Nat, ∃ s63c : Nat, ∃ x64 : Int, r58 = .tuple #[.agg #[.int .i64 x60, .int .i64 x61, .int .i64 x62, .slice s63a s63l s63c], .int .i64 x64] ∧ let w65 : World := w59.alloc (.cells #[.int .i64 0, .int .i64 0, .int .i64 0, .slice none 0 0] 41)
  (.agg #[.int .i64 x60, .int .i64 x61, .int .i64 x62, .slice s63a s63l s63c] : Value).cells.size = 4 ∧ wrOk w65 (⟨w59.heap.size, 0, none⟩ : Addr) (.agg #[.int .i64 x60, .int .i64 x61, .int .i64 x62, .slice s63a s63l s63c]) ∧ let w66 : World := wr w65 (⟨w59.heap.size, 0, none⟩ : Addr) (.agg #[.int .i64 x60, .int .i64 x61, .int .i64 x62, .slice s63a s63l s63c])
  T_law04_FlightOwn_3 x37 x38 (⟨w47.heap.size, 0, none⟩ : Addr) x52 (⟨w59.heap.size, 0, none⟩ : Addr) w66 (fun b98 w99 => if b98 = true then (R (.returned (.bool false)) w99) else (T_law04_FlightOwn_4 0 (⟨w47.heap.size, 0, none⟩ : Addr) w99 (fun w108 => Calls Try.prog 15 #[] w108 (ret (fun r109 w110 => ∃ b111 : Bool, r109 = .bool b111 ∧ if b111 = true then (Calls Try.prog 20 #[.pointer p4] w110 (ret (fun r112 w113 => ∃ s114a : Option Addr, ∃ s114l : Nat, ∃ s114c : Nat, r112 = .slice s114a s114l s114c ∧ Calls Try.prog 31 #[.pointer p5] w113 (ret (fun r115 w116 => ∃ s117a : Option Addr, ∃ s117l : Nat, ∃ s117c : Nat, r115 = .slice s117a s117l s117c ∧ Calls Try.prog 25 #[.slice s114a s114l s114c, .slice s117a s117l s117c] w116 (ret (fun r118 w119 => ∃ b120 : Bool, r118 = .bool b120 ∧ R (.returned (.bool b120)) w119) (pan R))) (pan R))) (pan R))) else (R (.returned (.bool false)) w110)) (pan R))) (pan R))) (pan R)) (pan R))) (pan R))) (pan R))) (pan R))) (pan R))) (pan R))) (pan R)) (pan R)))) (pan R))

theorem T_law04_FlightOwn_hl : allP (hokL Try.prog (hookAt [(125, H_law04_FlightOwn_1), (4092, H_law04_FlightOwn_3), (8189, H_law04_FlightOwn_4)]) (bodyOf Try.f8) 1) = (UnitOk Try.prog H_law04_FlightOwn_1 (at_ (bodyOf Try.f8) [1, 1, 1, 1, 0, 1]) 125 ∧ UnitOk Try.prog H_law04_FlightOwn_3 (at_ (bodyOf Try.f8) [1, 1, 1, 1, 1, 1, 1, 1, 1, 0, 0]) 4092 ∧ UnitOk Try.prog H_law04_FlightOwn_4 (at_ (bodyOf Try.f8) [1, 1, 1, 1, 1, 1, 1, 1, 1, 1, 0, 1]) 8189 ∧ True) := by kernel_rfl

theorem T_law04_FlightOwn_eq (l1a : Option Addr) (l1l : Nat) (l1c : Nat) (w : World) (R : Ending → World → Prop) : vcCode Try.prog (hookAt [(125, H_law04_FlightOwn_1), (4092, H_law04_FlightOwn_3), (8189, H_law04_FlightOwn_4)]) (bodyOf Try.f8) 1 ⟨argEnv [.slice l1a l1l l1c] 0, Try.f8.ntmps, []⟩ w (finQ Try.prog Try.f8.results.toList R) = T_law04_FlightOwn l1a l1l l1c w R := by kernel_rfl

theorem T_law04_FlightOwn_b : Try.f8.body = some (bodyOf Try.f8) := by kernel_rfl
theorem T_law04_FlightOwn_s : (quietSel (bodyOf Try.f8) && Nat.ble 1 Try.f8.ntmps) = true := by kernel_rfl

theorem C_law04_FlightOwn {l1a : Option Addr} {l1l : Nat} {l1c : Nat} {w : World} {R : Ending → World → Prop} (h : T_law04_FlightOwn l1a l1l l1c w R) : Calls Try.prog 8 #[.slice l1a l1l l1c] w R :=
  calls_of_text (args := [.slice l1a l1l l1c]) mixed Try.func8 T_law04_FlightOwn_b T_law04_FlightOwn_s (HOk_of _ _ (by rw [T_law04_FlightOwn_hl]; exact ⟨T_law04_FlightOwn_1_ok, T_law04_FlightOwn_3_ok, T_law04_FlightOwn_4_ok, trivial⟩)) (by rw [T_law04_FlightOwn_eq]; exact h)

/-! tollgate/tollgatelaw04.FlightPlays -/
def T_law04_FlightPlays_1_body (X : Int → World → Prop) (i8 : Int) (l9a : Option Addr) (l9l : Nat) (l9c : Nat) (n10 : Option Addr) (r11 : Option Addr) (w : World) (Kn : World → Prop) (Kr : Bool → World → Prop) (Kp : List PanicEntry → World → Prop)  : Prop :=
  Calls Try.prog 16 #[.slice l9a l9l l9c] w (ret (fun r12 w13 => ∃ x14 : Int, r12 = .int .i64 x14 ∧ if (decide ((i8 : Int) < x14)) = true then (0 ≤ (i8 : Int) ∧ (i8 : Int) < ((l9l : Nat) : Int) ∧ ∃ b15, l9a = some b15 ∧ ∃ s16a : Option Addr, ∃ s16l : Nat, ∃ s16c : Nat, rd w13 ((b15.add ((i8 : Int).toNat * 5)).add 4) (.slice s16a s16l s16c) ∧ if (decide (((s16l : Nat) : Int) > 70000)) = true then (X (IntKind.wrap .i64 ((i8 : Int) + 1)) w13) else (0 ≤ (i8 : Int) ∧ (i8 : Int) < ((l9l : Nat) : Int) ∧ ∃ b17, l9a = some b17 ∧ ∃ x18 : Int, ∃ x19 : Int, ∃ x20 : Int, ∃ x21 : Int, ∃ s22a : Option Addr, ∃ s22l : Nat, ∃ s22c : Nat, rd w13 (b17.add ((i8 : Int).toNat * 5)) (.agg #[.int .i64 x18, .int .i64 x19, .int .i64 x20, .int .i64 x21, .slice s22a s22l s22c]) ∧ Calls Try.prog 33 #[.pointer n10, .pointer r11, .agg #[.int .i64 x18, .int .i64 x19, .int .i64 x20, .int .i64 x21, .slice s22a s22l s22c]] w13 (ret (fun r23 w24 => ∃ b25 : Bool, r23 = .bool b25 ∧ if (!b25) = true then (Kr false w24) else (0 ≤ (i8 : Int) ∧ (i8 : Int) < ((l9l : Nat) : Int) ∧ ∃ b26, l9a = some b26 ∧ ∃ x27 : Int, rd w24 (b26.add ((i8 : Int).toNat * 5)) (.int .i64 x27) ∧ if (decide ((x27 : Int) > 5)) = true then (0 ≤ (i8 : Int) ∧ (i8 : Int) < ((l9l : Nat) : Int) ∧ ∃ b28, l9a = some b28 ∧ ∃ x29 : Int, ∃ x30 : Int, ∃ x31 : Int, ∃ x32 : Int, ∃ s33a : Option Addr, ∃ s33l : Nat, ∃ s33c : Nat, rd w24 (b28.add ((i8 : Int).toNat * 5)) (.agg #[.int .i64 x29, .int .i64 x30, .int .i64 x31, .int .i64 x32, .slice s33a s33l s33c]) ∧ Calls Try.prog 34 #[.pointer n10, .pointer r11, .agg #[.int .i64 x29, .int .i64 x30, .int .i64 x31, .int .i64 x32, .slice s33a s33l s33c]] w24 (ret (fun r34 w35 => ∃ b36 : Bool, r34 = .bool b36 ∧ if (!b36) = true then (Kr false w35) else (X (IntKind.wrap .i64 ((i8 : Int) + 1)) w35)) Kp)) else (X (IntKind.wrap .i64 ((i8 : Int) + 1)) w24))) Kp))) else (Kn  w13)) Kp)

def T_law04_FlightPlays_1 (i8 : Int) (l9a : Option Addr) (l9l : Nat) (l9c : Nat) (n10 : Option Addr) (r11 : Option Addr) (w : World) (Kn : World → Prop) (Kr : Bool → World → Prop) (Kp : List PanicEntry → World → Prop) : Prop :=
  ∀ X : Int → World → Prop, (∀ (i8 : Int) (w : World), T_law04_FlightPlays_1_body X i8 l9a l9l l9c n10 r11 w Kn Kr Kp → X i8 w) → X i8 w

def T_law04_FlightPlays_1_outs : Exit → Option (List (Nat × Value)) := fun x => match x with | .normal => some [] | .ret => some [(2, .bool false)] | .panic _ => some [] | _ => none

def T_law04_FlightPlays_1_ks : Nat → Bool := ksOf [2, 5, 9, 10, 11, 12, 13, 14, 15, 16, 17, 18, 19, 20, 21, 22, 23, 24, 25, 26, 27, 28, 29, 30, 31, 32, 33, 34, 35, 36, 37, 38, 39, 40, 41, 42, 43, 44, 45, 46, 47]

def H_law04_FlightPlays_1 : Env → World → QT → Prop := unitHook 65 T_law04_FlightPlays_1_ks [(5, .int .i64 0), (0, .slice none 0 0), (3, .pointer none), (4, .pointer none)] T_law04_FlightPlays_1_outs fun l w C => match l with | [v0, v1, v2, v3] => T_law04_FlightPlays_1 (pInt v0) (pA v1) (pL v1) (pC v1) (pPtr v2) (pPtr v3) w (fun w => C .normal [] w) (fun b38 w => C .ret [.bool b38] w) (fun ch w => C (.panic ch) [] w) | _ => False

theorem T_law04_FlightPlays_1_hl : allP (hokL Try.prog (hookAt []) (at_ (bodyOf Try.f9) [1, 1, 0, 1, 0, 0]) 116) = (True) := by kernel_rfl
theorem T_law04_FlightPlays_1_hok : HOk Try.prog (hookAt []) (at_ (bodyOf Try.f9) [1, 1, 0, 1, 0, 0]) 116 := HOk_of _ _ (by rw [T_law04_FlightPlays_1_hl]; exact trivial)

theorem T_law04_FlightPlays_1_eq (C : Conts) (X : List Value → World → Prop) (i8 : Int) (l9a : Option Addr) (l9l : Nat) (l9c : Nat) (n10 : Option Addr) (r11 : Option Addr) (w : World) : vcCode Try.prog (hookAt []) (at_ (bodyOf Try.f9) [1, 1, 0, 1, 0, 0]) 116 ⟨[(5, .int .i64 i8)] ++ [(0, .slice l9a l9l l9c), (3, .pointer n10), (4, .pointer r11)], 65, []⟩ w (seqQ (fun e w => takeAll e [(5, .int .i64 0)] fun l => X l w) (blockQ 0 (unitQ T_law04_FlightPlays_1_outs C))) = T_law04_FlightPlays_1_body (fun i8 w => X [.int .i64 i8] w) i8 l9a l9l l9c n10 r11 w (fun w => C .normal [] w) (fun b39 w => C .ret [.bool b39] w) (fun ch w => C (.panic ch) [] w) := by kernel_rfl

theorem T_law04_FlightPlays_1_ok : UnitOk Try.prog H_law04_FlightPlays_1 (at_ (bodyOf Try.f9) [1, 1, 0, 1]) 29 := by
  have hc : at_ (bodyOf Try.f9) [1, 1, 0, 1] = .block 0 (.loop (at_ (bodyOf Try.f9) [1, 1, 0, 1, 0, 0])) := by kernel_rfl
  rw [hc]
  refine loop_unit_ok (carr := [(5, .int .i64 0)]) (fix := [(0, .slice none 0 0), (3, .pointer none), (4, .pointer none)]) (ks := T_law04_FlightPlays_1_ks) (H := (hookAt [])) (B := fun C X l u w => match l, u with | [v0], [v1, v2, v3] => T_law04_FlightPlays_1_body (fun i8 w => X [.int .i64 i8] w) (pInt v0) (pA v1) (pL v1) (pC v1) (pPtr v2) (pPtr v3) w (fun w => C .normal [] w) (fun b40 w => C .ret [.bool b40] w) (fun ch w => C (.panic ch) [] w) | _, _ => False) (by kernel_rfl) (by kernel_rfl) T_law04_FlightPlays_1_hok ?_ ?_
  · intro C X l u w hl hu
    obtain ⟨v0, l_v0, rfl, k_v0, hl_v0⟩ := Kinds.cons_ hl
    obtain ⟨i8, rfl⟩ := kind_int k_v0
    obtain rfl := Kinds.nil_ hl_v0
    obtain ⟨v1, l_v1, rfl, k_v1, hu_v1⟩ := Kinds.cons_ hu
    obtain ⟨l9a, l9l, l9c, rfl⟩ := kind_slice k_v1
    obtain ⟨v2, l_v2, rfl, k_v2, hu_v2⟩ := Kinds.cons_ hu_v1
    obtain ⟨n10, rfl⟩ := kind_pointer k_v2
    obtain ⟨v3, l_v3, rfl, k_v3, hu_v3⟩ := Kinds.cons_ hu_v2
    obtain ⟨r11, rfl⟩ := kind_pointer k_v3
    obtain rfl := Kinds.nil_ hu_v3
    exact T_law04_FlightPlays_1_eq C X i8 l9a l9l l9c n10 r11 w
  · intro l u w C hl hu
    obtain ⟨v0, l_v0, rfl, k_v0, hl_v0⟩ := Kinds.cons_ hl
    obtain ⟨i8, rfl⟩ := kind_int k_v0
    obtain rfl := Kinds.nil_ hl_v0
    obtain ⟨v1, l_v1, rfl, k_v1, hu_v1⟩ := Kinds.cons_ hu
    obtain ⟨l9a, l9l, l9c, rfl⟩ := kind_slice k_v1
    obtain ⟨v2, l_v2, rfl, k_v2, hu_v2⟩ := Kinds.cons_ hu_v1
    obtain ⟨n10, rfl⟩ := kind_pointer k_v2
    obtain ⟨v3, l_v3, rfl, k_v3, hu_v3⟩ := Kinds.cons_ hu_v2
    obtain ⟨r11, rfl⟩ := kind_pointer k_v3
    obtain rfl := Kinds.nil_ hu_v3
    constructor
    · intro h X hX
      exact h (fun i8 w => X [.int .i64 i8] w) (fun i8 w hb => hX [.int .i64 i8] w ⟨rfl, trivial⟩ hb)
    · intro h X hX
      exact h (fun l w => match l with | [v0] => X (pInt v0) w | _ => True) (fun l w hl hb => by
        obtain ⟨v0, l_v0, rfl, k_v0, hl_v0⟩ := Kinds.cons_ hl
        obtain ⟨i8, rfl⟩ := kind_int k_v0
        obtain rfl := Kinds.nil_ hl_v0
        exact hX i8 w hb)

def T_law04_FlightPlays_2 (l44a : Option Addr) (l44l : Nat) (l44c : Nat) (last45 : Addr) (b46 : Bool) (w : World) (Kn : World → Prop) (Kp : List PanicEntry → World → Prop) : Prop :=
  if b46 = true then (0 ≤ (IntKind.wrap .i64 (((l44l : Nat) : Int) - 1) : Int) ∧ (IntKind.wrap .i64 (((l44l : Nat) : Int) - 1) : Int) < ((l44l : Nat) : Int) ∧ ∃ b47, l44a = some b47 ∧ ∃ x48 : Int, ∃ x49 : Int, ∃ x50 : Int, ∃ x51 : Int, ∃ s52a : Option Addr, ∃ s52l : Nat, ∃ s52c : Nat, rd w (b47.add ((IntKind.wrap .i64 (((l44l : Nat) : Int) - 1) : Int).toNat * 5)) (.agg #[.int .i64 x48, .int .i64 x49, .int .i64 x50, .int .i64 x51, .slice s52a s52l s52c]) ∧ (.agg #[.int .i64 x48, .int .i64 x49, .int .i64 x50, .int .i64 x51, .slice s52a s52l s52c] : Value).cells.size = 5 ∧ wrOk w last45 (.agg #[.int .i64 x48, .int .i64 x49, .int .i64 x50, .int .i64 x51, .slice s52a s52l s52c]) ∧ let w53 : World := wr w last45 (.agg #[.int .i64 x48, .int .i64 x49, .int .i64 x50, .int .i64 x51, .slice s52a s52l s52c])
  Kn  w53) else (Kn  w)

def T_law04_FlightPlays_2_outs : Exit → Option (List (Nat × Value)) := fun x => match x with | .normal => some [] | .panic _ => some [] | _ => none

def T_law04_FlightPlays_2_ks : Nat → Bool := ksOf [52, 53, 54, 55, 56, 57]

def H_law04_FlightPlays_2 : Env → World → QT → Prop := unitHook 65 T_law04_FlightPlays_2_ks [(0, .slice none 0 0), (6, .pointer (some ⟨0, 0, none⟩)), (51, .bool false)] T_law04_FlightPlays_2_outs fun l w C => match l with | [v0, v1, v2] => T_law04_FlightPlays_2 (pA v0) (pL v0) (pC v0) (pAddr v1) (pBool v2) w (fun w => C .normal [] w) (fun ch w => C (.panic ch) [] w) | _ => False

theorem T_law04_FlightPlays_2_hl : allP (hokL Try.prog (hookAt []) (at_ (bodyOf Try.f9) [1, 1, 1, 1, 0, 1]) 125) = (True) := by kernel_rfl
theorem T_law04_FlightPlays_2_hok : HOk Try.prog (hookAt []) (at_ (bodyOf Try.f9) [1, 1, 1, 1, 0, 1]) 125 := HOk_of _ _ (by rw [T_law04_FlightPlays_2_hl]; exact trivial)

theorem T_law04_FlightPlays_2_eq (C : Conts) (l44a : Option Addr) (l44l : Nat) (l44c : Nat) (last45 : Addr) (b46 : Bool) (w : World) : vcCode Try.prog (hookAt []) (at_ (bodyOf Try.f9) [1, 1, 1, 1, 0, 1]) 125 ⟨[(0, .slice l44a l44l l44c), (6, .pointer (some last45)), (51, .bool b46)], 65, []⟩ w (unitQ T_law04_FlightPlays_2_outs C) = T_law04_FlightPlays_2 l44a l44l l44c last45 b46 w (fun w => C .normal [] w) (fun ch w => C (.panic ch) [] w) := by kernel_rfl

theorem T_law04_FlightPlays_2_ok : UnitOk Try.prog H_law04_FlightPlays_2 (at_ (bodyOf Try.f9) [1, 1, 1, 1, 0, 1]) 125 := unit_ok (H := (hookAt [])) (by kernel_rfl) T_law04_FlightPlays_2_hok fun l w C hk => by
    obtain ⟨v0, l_v0, rfl, k_v0, hk_v0⟩ := Kinds.cons_ hk
    obtain ⟨l44a, l44l, l44c, rfl⟩ := kind_slice k_v0
    obtain ⟨v1, l_v1, rfl, k_v1, hk_v1⟩ := Kinds.cons_ hk_v0
    obtain ⟨last45, rfl⟩ := kind_addr k_v1
    obtain ⟨v2, l_v2, rfl, k_v2, hk_v2⟩ := Kinds.cons_ hk_v1
    obtain ⟨b46, rfl⟩ := kind_bool k_v2
    obtain rfl := Kinds.nil_ hk_v2
    exact T_law04_FlightPlays_2_eq C l44a l44l l44c last45 b46 w

def T_law04_FlightPlays (l1a : Option Addr) (l1l : Nat) (l1c : Nat) (w : World) (R : Ending → World → Prop) : Prop :=
  Calls Try.prog 12 #[] w (ret (fun r2 w3 => ∃ p4 : Option Addr, r2 = .pointer p4 ∧ Calls Try.prog 32 #[] w3 (ret (fun r5 w6 => ∃ p7 : Option Addr, r5 = .pointer p7 ∧ T_law04_FlightPlays_1 0 l1a l1l l1c p4 p7 w6 (fun w41 => let w42 : World := w41.alloc (.cells #[.int .i64 0, .int .i64 0, .int .i64 0, .int .i64 0, .slice none 0 0] 38)
  (.agg #[.int .i64 0, .int .i64 1, .int .i64 2, .int .i64 0, .slice none 0 0] : Value).cells.size = 5 ∧ wrOk w42 (⟨w41.heap.size, 0, none⟩ : Addr) (.agg #[.int .i64 0, .int .i64 1, .int .i64 2, .int .i64 0, .slice none 0 0]) ∧ let w43 : World := wr w42 (⟨w41.heap.size, 0, none⟩ : Addr) (.agg #[.int .i64 0, .int .i64 1, .int .i64 2, .int .i64 0, .slice none 0 0])
  T_law04_FlightPlays_2 l1a l1l l1c (⟨w41.heap.size, 0, none⟩ : Addr) (decide (((l1l : Nat) : Int) > 0)) w43 (fun w54 => Calls Try.prog 15 #[] w54 (ret (fun r55 w56 => ∃ b57 : Bool, r55 = .bool b57 ∧ if b57 = true then (∃ x58 : Int, ∃ x59 : Int, ∃ x60 : Int, ∃ x61 : Int, ∃ s62a : Option Addr, ∃ s62l : Nat, ∃ s62c : Nat, rd w56 (⟨w41.heap.size, 0, none⟩ : Addr) (.agg #[.int .i64 x58, .int .i64 x59, .int .i64 x60, .int .i64 x61, .slice s62a s62l s62c]) ∧ Calls Try.prog 34 #[.pointer p4, .pointer p7, .agg #[.int .i64 x58, .int .i64 x59, .int .i64 x60, .int .i64 x61, .slice s62a s62l s62c]] w56 (ret (fun r63 w64 => ∃ b65 : Bool, r63 = .bool b65 ∧ R (.returned (.bool b65)) w64) (pan R))) else (R (.returned (.bool false)) w56)) (pan R))) (pan R)) (fun b66 w67 => R (.returned (.bool b66)) w67) (pan R)) (pan R))) (pan R))

theorem T_law04_FlightPlays_hl : allP (hokL Try.prog (hookAt [(29, H_law04_FlightPlays_1), (125, H_law04_FlightPlays_2)]) (bodyOf Try.f9) 1) = (UnitOk Try.prog H_law04_FlightPlays_1 (at_ (bodyOf Try.f9) [1, 1, 0, 1]) 29 ∧ UnitOk Try.prog H_law04_FlightPlays_2 (at_ (bodyOf Try.f9) [1, 1, 1, 1, 0, 1]) 125 ∧ True) := by kernel_rfl

theorem T_law04_FlightPlays_eq (l1a : Option Addr) (l1l : Nat) (l1c : Nat) (w : World) (R : Ending → World → Prop) : vcCode Try.prog (hookAt [(29, H_law04_FlightPlays_1), (125, H_law04_FlightPlays_2)]) (bodyOf Try.f9) 1 ⟨argEnv [.slice l1a l1l l1c] 0, Try.f9.ntmps, []⟩ w (finQ Try.prog Try.f9.results.toList R) = T_law04_FlightPlays l1a l1l l1c w R := by kernel_rfl

theorem T_law04_FlightPlays_b : Try.f9.body = some (bodyOf Try.f9) := by kernel_rfl
theorem T_law04_FlightPlays_s : (quietSel (bodyOf Try.f9) && Nat.ble 1 Try.f9.ntmps) = true := by kernel_rfl

theorem C_law04_FlightPlays {l1a : Option Addr} {l1l : Nat} {l1c : Nat} {w : World} {R : Ending → World → Prop} (h : T_law04_FlightPlays l1a l1l l1c w R) : Calls Try.prog 9 #[.slice l1a l1l l1c] w R :=
  calls_of_text (args := [.slice l1a l1l l1c]) mixed Try.func9 T_law04_FlightPlays_b T_law04_FlightPlays_s (HOk_of _ _ (by rw [T_law04_FlightPlays_hl]; exact ⟨T_law04_FlightPlays_1_ok, T_law04_FlightPlays_2_ok, trivial⟩)) (by rw [T_law04_FlightPlays_eq]; exact h)

/-! tollgate/tollgatelaw04.FlightForks -/
def T_law04_FlightForks_1_body (X : Int → World → Prop) (i14 : Int) (more15a : Option Addr) (more15l : Nat) (more15c : Nat) (f16 : Option Addr) (g17 : Option Addr) (w : World) (Kn : World → Prop) (Kr : Bool → World → Prop) (Kp : List PanicEntry → World → Prop)  : Prop :=
  Calls Try.prog 16 #[.slice more15a more15l more15c] w (ret (fun r18 w19 => ∃ x20 : Int, r18 = .int .i64 x20 ∧ if (decide ((i14 : Int) < x20)) = true then (0 ≤ (i14 : Int) ∧ (i14 : Int) < ((more15l : Nat) : Int) ∧ ∃ b21, more15a = some b21 ∧ ∃ s22a : Option Addr, ∃ s22l : Nat, ∃ s22c : Nat, rd w19 ((b21.add ((i14 : Int).toNat * 5)).add 4) (.slice s22a s22l s22c) ∧ if (decide (((s22l : Nat) : Int) ≤ 70000)) = true then (0 ≤ (i14 : Int) ∧ (i14 : Int) < ((more15l : Nat) : Int) ∧ ∃ b23, more15a = some b23 ∧ ∃ x24 : Int, ∃ x25 : Int, ∃ x26 : Int, ∃ x27 : Int, ∃ s28a : Option Addr, ∃ s28l : Nat, ∃ s28c : Nat, rd w19 (b23.add ((i14 : Int).toNat * 5)) (.agg #[.int .i64 x24, .int .i64 x25, .int .i64 x26, .int .i64 x27, .slice s28a s28l s28c]) ∧ Calls Try.prog 33 #[.pointer f16, .pointer g17, .agg #[.int .i64 x24, .int .i64 x25, .int .i64 x26, .int .i64 x27, .slice s28a s28l s28c]] w19 (ret (fun r29 w30 => ∃ b31 : Bool, r29 = .bool b31 ∧ if (!b31) = true then (Kr false w30) else (X (IntKind.wrap .i64 ((i14 : Int) + 1)) w30)) Kp)) else (X (IntKind.wrap .i64 ((i14 : Int) + 1)) w19)) else (Kn  w19)) Kp)

def T_law04_FlightForks_1 (i14 : Int) (more15a : Option Addr) (more15l : Nat) (more15c : Nat) (f16 : Option Addr) (g17 : Option Addr) (w : World) (Kn : World → Prop) (Kr : Bool → World → Prop) (Kp : List PanicEntry → World → Prop) : Prop :=
  ∀ X : Int → World → Prop, (∀ (i14 : Int) (w : World), T_law04_FlightForks_1_body X i14 more15a more15l more15c f16 g17 w Kn Kr Kp → X i14 w) → X i14 w

def T_law04_FlightForks_1_outs : Exit → Option (List (Nat × Value)) := fun x => match x with | .normal => some [] | .ret => some [(4, .bool false)] | .panic _ => some [] | _ => none

def T_law04_FlightForks_1_ks : Nat → Bool := ksOf [4, 10, 24, 25, 26, 27, 28, 29, 30, 31, 32, 33, 34, 35, 36, 37, 38, 39, 40, 41, 42, 43, 44, 45, 46]

def H_law04_FlightForks_1 : Env → World → QT → Prop := unitHook 61 T_law04_FlightForks_1_ks [(10, .int .i64 0), (1, .slice none 0 0), (8, .pointer none), (9, .pointer none)] T_law04_FlightForks_1_outs fun l w C => match l with | [v0, v1, v2, v3] => T_law04_FlightForks_1 (pInt v0) (pA v1) (pL v1) (pC v1) (pPtr v2) (pPtr v3) w (fun w => C .normal [] w) (fun b33 w => C .ret [.bool b33] w) (fun ch w => C (.panic ch) [] w) | _ => False

theorem T_law04_FlightForks_1_hl : allP (hokL Try.prog (hookAt []) (at_ (bodyOf Try.f10) [1, 1, 1, 1, 0, 1, 0, 0]) 500) = (True) := by kernel_rfl
theorem T_law04_FlightForks_1_hok : HOk Try.prog (hookAt []) (at_ (bodyOf Try.f10) [1, 1, 1, 1, 0, 1, 0, 0]) 500 := HOk_of _ _ (by rw [T_law04_FlightForks_1_hl]; exact trivial)

theorem T_law04_FlightForks_1_eq (C : Conts) (X : List Value → World → Prop) (i14 : Int) (more15a : Option Addr) (more15l : Nat) (more15c : Nat) (f16 : Option Addr) (g17 : Option Addr) (w : World) : vcCode Try.prog (hookAt []) (at_ (bodyOf Try.f10) [1, 1, 1, 1, 0, 1, 0, 0]) 500 ⟨[(10, .int .i64 i14)] ++ [(1, .slice more15a more15l more15c), (8, .pointer f16), (9, .pointer g17)], 61, []⟩ w (seqQ (fun e w => takeAll e [(10, .int .i64 0)] fun l => X l w) (blockQ 0 (unitQ T_law04_FlightForks_1_outs C))) = T_law04_FlightForks_1_body (fun i14 w => X [.int .i64 i14] w) i14 more15a more15l more15c f16 g17 w (fun w => C .normal [] w) (fun b34 w => C .ret [.bool b34] w) (fun ch w => C (.panic ch) [] w) := by kernel_rfl

theorem T_law04_FlightForks_1_ok : UnitOk Try.prog H_law04_FlightForks_1 (at_ (bodyOf Try.f10) [1, 1, 1, 1, 0, 1]) 125 := by
  have hc : at_ (bodyOf Try.f10) [1, 1, 1, 1, 0, 1] = .block 0 (.loop (at_ (bodyOf Try.f10) [1, 1, 1, 1, 0, 1, 0, 0])) := by kernel_rfl
  rw [hc]
  refine loop_unit_ok (carr := [(10, .int .i64 0)]) (fix := [(1, .slice none 0 0), (8, .pointer none), (9, .pointer none)]) (ks := T_law04_FlightForks_1_ks) (H := (hookAt [])) (B := fun C X l u w => match l, u with | [v0], [v1, v2, v3] => T_law04_FlightForks_1_body (fun i14 w => X [.int .i64 i14] w) (pInt v0) (pA v1) (pL v1) (pC v1) (pPtr v2) (pPtr v3) w (fun w => C .normal [] w) (fun b35 w => C .ret [.bool b35] w) (fun ch w => C (.panic ch) [] w) | _, _ => False) (by kernel_rfl) (by kernel_rfl) T_law04_FlightForks_1_hok ?_ ?_
  · intro C X l u w hl hu
    obtain ⟨v0, l_v0, rfl, k_v0, hl_v0⟩ := Kinds.cons_ hl
    obtain ⟨i14, rfl⟩ := kind_int k_v0
    obtain rfl := Kinds.nil_ hl_v0
    obtain ⟨v1, l_v1, rfl, k_v1, hu_v1⟩ := Kinds.cons_ hu
    obtain ⟨more15a, more15l, more15c, rfl⟩ := kind_slice k_v1
    obtain ⟨v2, l_v2, rfl, k_v2, hu_v2⟩ := Kinds.cons_ hu_v1
    obtain ⟨f16, rfl⟩ := kind_pointer k_v2
    obtain ⟨v3, l_v3, rfl, k_v3, hu_v3⟩ := Kinds.cons_ hu_v2
    obtain ⟨g17, rfl⟩ := kind_pointer k_v3
    obtain rfl := Kinds.nil_ hu_v3
    exact T_law04_FlightForks_1_eq C X i14 more15a more15l more15c f16 g17 w
  · intro l u w C hl hu
    obtain ⟨v0, l_v0, rfl, k_v0, hl_v0⟩ := Kinds.cons_ hl
    obtain ⟨i14, rfl⟩ := kind_int k_v0
    obtain rfl := Kinds.nil_ hl_v0
    obtain ⟨v1, l_v1, rfl, k_v1, hu_v1⟩ := Kinds.cons_ hu
    obtain ⟨more15a, more15l, more15c, rfl⟩ := kind_slice k_v1
    obtain ⟨v2, l_v2, rfl, k_v2, hu_v2⟩ := Kinds.cons_ hu_v1
    obtain ⟨f16, rfl⟩ := kind_pointer k_v2
    obtain ⟨v3, l_v3, rfl, k_v3, hu_v3⟩ := Kinds.cons_ hu_v2
    obtain ⟨g17, rfl⟩ := kind_pointer k_v3
    obtain rfl := Kinds.nil_ hu_v3
    constructor
    · intro h X hX
      exact h (fun i14 w => X [.int .i64 i14] w) (fun i14 w hb => hX [.int .i64 i14] w ⟨rfl, trivial⟩ hb)
    · intro h X hX
      exact h (fun l w => match l with | [v0] => X (pInt v0) w | _ => True) (fun l w hl hb => by
        obtain ⟨v0, l_v0, rfl, k_v0, hl_v0⟩ := Kinds.cons_ hl
        obtain ⟨i14, rfl⟩ := kind_int k_v0
        obtain rfl := Kinds.nil_ hl_v0
        exact hX i14 w hb)

def T_law04_FlightForks (l1a : Option Addr) (l1l : Nat) (l1c : Nat) (more2a : Option Addr) (more2l : Nat) (more2c : Nat) (w : World) (R : Ending → World → Prop) : Prop :=
  Calls Try.prog 23 #[.slice l1a l1l l1c] w (ret (fun r3 w4 => ∃ p5 : Option Addr, ∃ p6 : Option Addr, ∃ b7 : Bool, r3 = .tuple #[.pointer p5, .pointer p6, .bool b7] ∧ if (!b7) = true then (R (.returned (.bool false)) w4) else (Calls Try.prog 35 #[.pointer p5] w4 (ret (fun r8 w9 => ∃ p10 : Option Addr, r8 = .pointer p10 ∧ Calls Try.prog 36 #[.pointer p6] w9 (ret (fun r11 w12 => ∃ p13 : Option Addr, r11 = .pointer p13 ∧ T_law04_FlightForks_1 0 more2a more2l more2c p10 p13 w12 (fun w36 => let w37 : World := w36.alloc (.cells #[.int .i64 0, .int .i64 0, .int .i64 0, .int .i64 0, .slice none 0 0] 38)
  (.agg #[.int .i64 0, .int .i64 1, .int .i64 2, .int .i64 0, .slice none 0 0] : Value).cells.size = 5 ∧ wrOk w37 (⟨w36.heap.size, 0, none⟩ : Addr) (.agg #[.int .i64 0, .int .i64 1, .int .i64 2, .int .i64 0, .slice none 0 0]) ∧ let w38 : World := wr w37 (⟨w36.heap.size, 0, none⟩ : Addr) (.agg #[.int .i64 0, .int .i64 1, .int .i64 2, .int .i64 0, .slice none 0 0])
  Calls Try.prog 15 #[] w38 (ret (fun r39 w40 => ∃ b41 : Bool, r39 = .bool b41 ∧ if b41 = true then (∃ x42 : Int, ∃ x43 : Int, ∃ x44 : Int, ∃ x45 : Int, ∃ s46a : Option Addr, ∃ s46l : Nat, ∃ s46c : Nat, rd w40 (⟨w36.heap.size, 0, none⟩ : Addr) (.agg #[.int .i64 x42, .int .i64 x43, .int .i64 x44, .int .i64 x45, .slice s46a s46l s46c]) ∧ Calls Try.prog 34 #[.pointer p5, .pointer p6, .agg #[.int .i64 x42, .int .i64 x43, .int .i64 x44, .int .i64 x45, .slice s46a s46l s46c]] w40 (ret (fun r47 w48 => ∃ b49 : Bool, r47 = .bool b49 ∧ if b49 = true then (∃ x50 : Int, ∃ x51 : Int, ∃ x52 : Int, ∃ x53 : Int, ∃ s54a : Option Addr, ∃ s54l : Nat, ∃ s54c : Nat, rd w48 (⟨w36.heap.size, 0, none⟩ : Addr) (.agg #[.int .i64 x50, .int .i64 x51, .int .i64 x52, .int .i64 x53, .slice s54a s54l s54c]) ∧ Calls Try.prog 34 #[.pointer p10, .pointer p13, .agg #[.int .i64 x50, .int .i64 x51, .int .i64 x52, .int .i64 x53, .slice s54a s54l s54c]] w48 (ret (fun r55 w56 => ∃ b57 : Bool, r55 = .bool b57 ∧ R (.returned (.bool b57)) w56) (pan R))) else (R (.returned (.bool false)) w48)) (pan R))) else (R (.returned (.bool false)) w40)) (pan R))) (fun b58 w59 => R (.returned (.bool b58)) w59) (pan R)) (pan R))) (pan R)))) (pan R))

theorem T_law04_FlightForks_hl : allP (hokL Try.prog (hookAt [(125, H_law04_FlightForks_1)]) (bodyOf Try.f10) 1) = (UnitOk Try.prog H_law04_FlightForks_1 (at_ (bodyOf Try.f10) [1, 1, 1, 1, 0, 1]) 125 ∧ True) := by kernel_rfl

theorem T_law04_FlightForks_eq (l1a : Option Addr) (l1l : Nat) (l1c : Nat) (more2a : Option Addr) (more2l : Nat) (more2c : Nat) (w : World) (R : Ending → World → Prop) : vcCode Try.prog (hookAt [(125, H_law04_FlightForks_1)]) (bodyOf Try.f10) 1 ⟨argEnv [.slice l1a l1l l1c, .slice more2a more2l more2c] 0, Try.f10.ntmps, []⟩ w (finQ Try.prog Try.f10.results.toList R) = T_law04_FlightForks l1a l1l l1c more2a more2l more2c w R := by kernel_rfl

theorem T_law04_FlightForks_b : Try.f10.body = some (bodyOf Try.f10) := by kernel_rfl
theorem T_law04_FlightForks_s : (quietSel (bodyOf Try.f10) && Nat.ble 2 Try.f10.ntmps) = true := by kernel_rfl

theorem C_law04_FlightForks {l1a : Option Addr} {l1l : Nat} {l1c : Nat} {more2a : Option Addr} {more2l : Nat} {more2c : Nat} {w : World} {R : Ending → World → Prop} (h : T_law04_FlightForks l1a l1l l1c more2a more2l more2c w R) : Calls Try.prog 10 #[.slice l1a l1l l1c, .slice more2a more2l more2c] w R :=
  calls_of_text (args := [.slice l1a l1l l1c, .slice more2a more2l more2c]) mixed Try.func10 T_law04_FlightForks_b T_law04_FlightForks_s (HOk_of _ _ (by rw [T_law04_FlightForks_hl]; exact ⟨T_law04_FlightForks_1_ok, trivial⟩)) (by rw [T_law04_FlightForks_eq]; exact h)

/-! tollgate/tollgatelaw04.FlightNone -/
def T_law04_FlightNone (a1 : Int) (b2 : Int) (x3a : Option Addr) (x3l : Nat) (x3c : Nat) (w : World) (R : Ending → World → Prop) : Prop :=
  Calls Try.prog 17 #[.pointer none, .int .i64 a1, .int .i64 b2, .slice x3a x3l x3c] w (ret (fun r4 w5 => ∃ x6 : Int, ∃ x7 : Int, r4 = .tuple #[.int .i64 x6, .int .i64 x7] ∧ Calls Try.prog 18 #[.pointer none, .int .i64 a1] w5 (ret (fun r8 w9 => ∃ x10 : Int, ∃ x11 : Int, ∃ x12 : Int, ∃ s13a : Option Addr, ∃ s13l : Nat, ∃ s13c : Nat, ∃ x14 : Int, r8 = .tuple #[.agg #[.int .i64 x10, .int .i64 x11, .int .i64 x12, .slice s13a s13l s13c], .int .i64 x14] ∧ let w15 : World := w9.alloc (.cells #[.int .i64 0, .int .i64 0, .int .i64 0, .slice none 0 0] 41)
  (.agg #[.int .i64 x10, .int .i64 x11, .int .i64 x12, .slice s13a s13l s13c] : Value).cells.size = 4 ∧ wrOk w15 (⟨w9.heap.size, 0, none⟩ : Addr) (.agg #[.int .i64 x10, .int .i64 x11, .int .i64 x12, .slice s13a s13l s13c]) ∧ let w16 : World := wr w15 (⟨w9.heap.size, 0, none⟩ : Addr) (.agg #[.int .i64 x10, .int .i64 x11, .int .i64 x12, .slice s13a s13l s13c])
  Calls Try.prog 21 #[.pointer none, .int .i64 a1] w16 (ret (fun r17 w18 => ∃ x19 : Int, ∃ x20 : Int, r17 = .tuple #[.int .i64 x19, .int .i64 x20] ∧ Calls Try.prog 13 #[.pointer none, .int .i64 a1] w18 (ret (fun r21 w22 => ∃ x23 : Int, ∃ x24 : Int, r21 = .tuple #[.int .i64 x23, .int .i64 x24] ∧ Calls Try.prog 15 #[] w22 (ret (fun r25 w26 => ∃ b27 : Bool, r25 = .bool b27 ∧ if b27 = true then (if ((x7 : Int) == 1) = true then (if ((x14 : Int) == 1) = true then (if ((x20 : Int) == 1) = true then (if ((x24 : Int) == 1) = true then (Calls Try.prog 24 #[.pointer none, .int .i64 a1, .int .i64 b2] w26 (ret (fun r28 w29 => ∃ x30 : Int, r28 = .int .i64 x30 ∧ if ((x30 : Int) == 1) = true then (Calls Try.prog 27 #[.pointer none, .int .i64 a1, .int .i64 b2] w29 (ret (fun r31 w32 => ∃ x33 : Int, r31 = .int .i64 x33 ∧ if ((x33 : Int) == 1) = true then (Calls Try.prog 26 #[.pointer none, .int .i64 a1, .int .i64 b2] w32 (ret (fun r34 w35 => ∃ b36 : Bool, r34 = .bool b36 ∧ if (!b36) = true then (Calls Try.prog 22 #[.pointer none] w35 (ret (fun r37 w38 => ∃ x39 : Int, r37 = .int .i64 x39 ∧ if ((x39 : Int) == 0) = true then (Calls Try.prog 20 #[.pointer none] w38 (ret (fun r40 w41 => ∃ s42a : Option Addr, ∃ s42l : Nat, ∃ s42c : Nat, r40 = .slice s42a s42l s42c ∧ if (((s42l : Nat) : Int) == 0) = true then (Calls Try.prog 14 #[.pointer none, .int .i64 a1] w41 (ret (fun r43 w44 => ∃ x45 : Int, r43 = .int .i64 x45 ∧ if ((x45 : Int) == 0) = true then (Calls Try.prog 35 #[.pointer none] w44 (ret (fun r46 w47 => ∃ p48 : Option Addr, r46 = .pointer p48 ∧ R (.returned (.bool p48.isNone)) w47) (pan R))) else (R (.returned (.bool false)) w44)) (pan R))) else (R (.returned (.bool false)) w41)) (pan R))) else (R (.returned (.bool false)) w38)) (pan R))) else (R (.returned (.bool false)) w35)) (pan R))) else (R (.returned (.bool false)) w32)) (pan R))) else (R (.returned (.bool false)) w29)) (pan R))) else (R (.returned (.bool false)) w26)) else (R (.returned (.bool false)) w26)) else (R (.returned (.bool false)) w26)) else (R (.returned (.bool false)) w26)) else (R (.returned (.bool false)) w26)) (pan R))) (pan R))) (pan R))) (pan R))) (pan R))

theorem T_law04_FlightNone_hl : allP (hokL Try.prog (hookAt []) (bodyOf Try.f11) 1) = (True) := by kernel_rfl

theorem T_law04_FlightNone_eq (a1 : Int) (b2 : Int) (x3a : Option Addr) (x3l : Nat) (x3c : Nat) (w : World) (R : Ending → World → Prop) : vcCode Try.prog (hookAt []) (bodyOf Try.f11) 1 ⟨argEnv [.int .i64 a1, .int .i64 b2, .slice x3a x3l x3c] 0, Try.f11.ntmps, []⟩ w (finQ Try.prog Try.f11.results.toList R) = T_law04_FlightNone a1 b2 x3a x3l x3c w R := by kernel_rfl

theorem T_law04_FlightNone_b : Try.f11.body = some (bodyOf Try.f11) := by kernel_rfl
theorem T_law04_FlightNone_s : (quietSel (bodyOf Try.f11) && Nat.ble 3 Try.f11.ntmps) = true := by kernel_rfl

theorem C_law04_FlightNone {a1 : Int} {b2 : Int} {x3a : Option Addr} {x3l : Nat} {x3c : Nat} {w : World} {R : Ending → World → Prop} (h : T_law04_FlightNone a1 b2 x3a x3l x3c w R) : Calls Try.prog 11 #[.int .i64 a1, .int .i64 b2, .slice x3a x3l x3c] w R :=
  calls_of_text (args := [.int .i64 a1, .int .i64 b2, .slice x3a x3l x3c]) mixed Try.func11 T_law04_FlightNone_b T_law04_FlightNone_s (HOk_of _ _ (by rw [T_law04_FlightNone_hl]; exact trivial)) (by rw [T_law04_FlightNone_eq]; exact h)

/-! tollgate/tollgatelaw04.live -/
def T_law04_live  (w : World) (R : Ending → World → Prop) : Prop :=
  Calls Try.prog 12 #[] w (ret (fun r1 w2 => ∃ p3 : Option Addr, r1 = .pointer p3 ∧ let w4 : World := w2.alloc (.cells #[.int .u8 97, .int .u8 98] 5)
  runV Try.prog (convert 36 36 (.slice (some (⟨w2.heap.size, 0, none⟩ : Addr)) 2 2)) w4 (fun r5 w6 => ∃ s7a : Option Addr, ∃ s7l : Nat, ∃ s7c : Nat, r5 = .slice s7a s7l s7c ∧ Calls Try.prog 17 #[.pointer p3, .int .i64 1, .int .i64 2, .slice s7a s7l s7c] w6 (ret (fun r8 w9 => ∃ x10 : Int, ∃ x11 : Int, r8 = .tuple #[.int .i64 x10, .int .i64 x11] ∧ Calls Try.prog 17 #[.pointer p3, .int .i64 2, .int .i64 1, .slice none 0 0] w9 (ret (fun r12 w13 => ∃ x14 : Int, ∃ x15 : Int, r12 = .tuple #[.int .i64 x14, .int .i64 x15] ∧ Calls Try.prog 21 #[.pointer p3, .int .i64 0] w13 (ret (fun r16 w17 => ∃ x18 : Int, ∃ x19 : Int, r16 = .tuple #[.int .i64 x18, .int .i64 x19] ∧ Calls Try.prog 24 #[.pointer p3, .int .i64 1, .int .i64 2] w17 (ret (fun r20 w21 => ∃ x22 : Int, r20 = .int .i64 x22 ∧ Calls Try.prog 20 #[.pointer p3] w21 (ret (fun r23 w24 => ∃ s25a : Option Addr, ∃ s25l : Nat, ∃ s25c : Nat, r23 = .slice s25a s25l s25c ∧ if ((x11 : Int) == 0) = true then (if ((x15 : Int) == 0) = true then (if ((x19 : Int) == 0) = true then (if ((x22 : Int) == 0) = true then (if ((x10 : Int) == 1) = true then (if ((x14 : Int) == 2) = true then (if ((x18 : Int) == 3) = true then (if (((s25l : Nat) : Int) == 1) = true then (0 ≤ (0 : Int) ∧ (0 : Int) < ((s25l : Nat) : Int) ∧ ∃ b26, s25a = some b26 ∧ ∃ x27 : Int, rd w24 (b26.add ((0 : Int).toNat * 4)) (.int .i64 x27) ∧ R (.returned (.bool ((x27 : Int) == 2))) w24) else (R (.returned (.bool false)) w24)) else (R (.returned (.bool false)) w24)) else (R (.returned (.bool false)) w24)) else (R (.returned (.bool false)) w24)) else (R (.returned (.bool false)) w24)) else (R (.returned (.bool false)) w24)) else (R (.returned (.bool false)) w24)) else (R (.returned (.bool false)) w24)) (pan R))) (pan R))) (pan R))) (pan R))) (pan R))) (pan R)) (pan R))

theorem T_law04_live_hl : allP (hokL Try.prog (hookAt []) (bodyOf Try.f15) 1) = (True) := by kernel_rfl

theorem T_law04_live_eq  (w : World) (R : Ending → World → Prop) : vcCode Try.prog (hookAt []) (bodyOf Try.f15) 1 ⟨argEnv [] 0, Try.f15.ntmps, []⟩ w (finQ Try.prog Try.f15.results.toList R) = T_law04_live  w R := by kernel_rfl

theorem T_law04_live_b : Try.f15.body = some (bodyOf Try.f15) := by kernel_rfl
theorem T_law04_live_s : (quietSel (bodyOf Try.f15) && Nat.ble 0 Try.f15.ntmps) = true := by kernel_rfl

theorem C_law04_live  {w : World} {R : Ending → World → Prop} (h : T_law04_live  w R) : Calls Try.prog 15 #[] w R :=
  calls_of_text (args := []) mixed Try.func15 T_law04_live_b T_law04_live_s (HOk_of _ _ (by rw [T_law04_live_hl]; exact trivial)) (by rw [T_law04_live_eq]; exact h)

/-! tollgate/tollgatelaw04.many -/
def T_law04_many (l1a : Option Addr) (l1l : Nat) (l1c : Nat) (w : World) (R : Ending → World → Prop) : Prop :=
  R (.returned (.int .i64 (if 400 < ((l1l : Nat) : Int) then 400 else ((l1l : Nat) : Int)))) w

theorem T_law04_many_hl : allP (hokL Try.prog (hookAt []) (bodyOf Try.f16) 1) = (True) := by kernel_rfl

theorem T_law04_many_eq (l1a : Option Addr) (l1l : Nat) (l1c : Nat) (w : World) (R : Ending → World → Prop) : vcCode Try.prog (hookAt []) (bodyOf Try.f16) 1 ⟨argEnv [.slice l1a l1l l1c] 0, Try.f16.ntmps, []⟩ w (finQ Try.prog Try.f16.results.toList R) = T_law04_many l1a l1l l1c w R := by kernel_rfl

theorem T_law04_many_b : Try.f16.body = some (bodyOf Try.f16) := by kernel_rfl
theorem T_law04_many_s : (quietSel (bodyOf Try.f16) && Nat.ble 1 Try.f16.ntmps) = true := by kernel_rfl

theorem C_law04_many {l1a : Option Addr} {l1l : Nat} {l1c : Nat} {w : World} {R : Ending → World → Prop} (h : T_law04_many l1a l1l l1c w R) : Calls Try.prog 16 #[.slice l1a l1l l1c] w R :=
  calls_of_text (args := [.slice l1a l1l l1c]) mixed Try.func16 T_law04_many_b T_law04_many_s (HOk_of _ _ (by rw [T_law04_many_hl]; exact trivial)) (by rw [T_law04_many_eq]; exact h)

/-! tollgate/tollgatelaw04.play -/
def T_law04_play_1_body (X : Int → World → Prop) (i8 : Int) (l9a : Option Addr) (l9l : Nat) (l9c : Nat) (n10 : Option Addr) (r11 : Option Addr) (w : World) (Kn : World → Prop) (Kr : Option Addr → Option Addr → Bool → World → Prop) (Kp : List PanicEntry → World → Prop)  : Prop :=
  Calls Try.prog 16 #[.slice l9a l9l l9c] w (ret (fun r12 w13 => ∃ x14 : Int, r12 = .int .i64 x14 ∧ if (decide ((i8 : Int) < x14)) = true then (0 ≤ (i8 : Int) ∧ (i8 : Int) < ((l9l : Nat) : Int) ∧ ∃ b15, l9a = some b15 ∧ ∃ s16a : Option Addr, ∃ s16l : Nat, ∃ s16c : Nat, rd w13 ((b15.add ((i8 : Int).toNat * 5)).add 4) (.slice s16a s16l s16c) ∧ if (decide (((s16l : Nat) : Int) > 70000)) = true then (X (IntKind.wrap .i64 ((i8 : Int) + 1)) w13) else (0 ≤ (i8 : Int) ∧ (i8 : Int) < ((l9l : Nat) : Int) ∧ ∃ b17, l9a = some b17 ∧ ∃ x18 : Int, ∃ x19 : Int, ∃ x20 : Int, ∃ x21 : Int, ∃ s22a : Option Addr, ∃ s22l : Nat, ∃ s22c : Nat, rd w13 (b17.add ((i8 : Int).toNat * 5)) (.agg #[.int .i64 x18, .int .i64 x19, .int .i64 x20, .int .i64 x21, .slice s22a s22l s22c]) ∧ Calls Try.prog 33 #[.pointer n10, .pointer r11, .agg #[.int .i64 x18, .int .i64 x19, .int .i64 x20, .int .i64 x21, .slice s22a s22l s22c]] w13 (ret (fun r23 w24 => ∃ b25 : Bool, r23 = .bool b25 ∧ if (!b25) = true then (Kr n10 r11 false w24) else (X (IntKind.wrap .i64 ((i8 : Int) + 1)) w24)) Kp))) else (Kn  w13)) Kp)

def T_law04_play_1 (i8 : Int) (l9a : Option Addr) (l9l : Nat) (l9c : Nat) (n10 : Option Addr) (r11 : Option Addr) (w : World) (Kn : World → Prop) (Kr : Option Addr → Option Addr → Bool → World → Prop) (Kp : List PanicEntry → World → Prop) : Prop :=
  ∀ X : Int → World → Prop, (∀ (i8 : Int) (w : World), T_law04_play_1_body X i8 l9a l9l l9c n10 r11 w Kn Kr Kp → X i8 w) → X i8 w

def T_law04_play_1_outs : Exit → Option (List (Nat × Value)) := fun x => match x with | .normal => some [] | .ret => some [(2, .pointer none), (3, .pointer none), (4, .bool false)] | .panic _ => some [] | _ => none

def T_law04_play_1_ks : Nat → Bool := ksOf [2, 3, 4, 7, 10, 11, 12, 13, 14, 15, 16, 17, 18, 19, 20, 21, 22, 23, 24, 25, 26, 27, 28, 29, 30, 31, 32]

def H_law04_play_1 : Env → World → QT → Prop := unitHook 35 T_law04_play_1_ks [(7, .int .i64 0), (0, .slice none 0 0), (5, .pointer none), (6, .pointer none)] T_law04_play_1_outs fun l w C => match l with | [v0, v1, v2, v3] => T_law04_play_1 (pInt v0) (pA v1) (pL v1) (pC v1) (pPtr v2) (pPtr v3) w (fun w => C .normal [] w) (fun p29 p30 b31 w => C .ret [.pointer p29, .pointer p30, .bool b31] w) (fun ch w => C (.panic ch) [] w) | _ => False

theorem T_law04_play_1_hl : allP (hokL Try.prog (hookAt []) (at_ (bodyOf Try.f23) [1, 1, 0, 1, 0, 0]) 116) = (True) := by kernel_rfl
theorem T_law04_play_1_hok : HOk Try.prog (hookAt []) (at_ (bodyOf Try.f23) [1, 1, 0, 1, 0, 0]) 116 := HOk_of _ _ (by rw [T_law04_play_1_hl]; exact trivial)

theorem T_law04_play_1_eq (C : Conts) (X : List Value → World → Prop) (i8 : Int) (l9a : Option Addr) (l9l : Nat) (l9c : Nat) (n10 : Option Addr) (r11 : Option Addr) (w : World) : vcCode Try.prog (hookAt []) (at_ (bodyOf Try.f23) [1, 1, 0, 1, 0, 0]) 116 ⟨[(7, .int .i64 i8)] ++ [(0, .slice l9a l9l l9c), (5, .pointer n10), (6, .pointer r11)], 35, []⟩ w (seqQ (fun e w => takeAll e [(7, .int .i64 0)] fun l => X l w) (blockQ 0 (unitQ T_law04_play_1_outs C))) = T_law04_play_1_body (fun i8 w => X [.int .i64 i8] w) i8 l9a l9l l9c n10 r11 w (fun w => C .normal [] w) (fun p32 p33 b34 w => C .ret [.pointer p32, .pointer p33, .bool b34] w) (fun ch w => C (.panic ch) [] w) := by kernel_rfl

theorem T_law04_play_1_ok : UnitOk Try.prog H_law04_play_1 (at_ (bodyOf Try.f23) [1, 1, 0, 1]) 29 := by
  have hc : at_ (bodyOf Try.f23) [1, 1, 0, 1] = .block 0 (.loop (at_ (bodyOf Try.f23) [1, 1, 0, 1, 0, 0])) := by kernel_rfl
  rw [hc]
  refine loop_unit_ok (carr := [(7, .int .i64 0)]) (fix := [(0, .slice none 0 0), (5, .pointer none), (6, .pointer none)]) (ks := T_law04_play_1_ks) (H := (hookAt [])) (B := fun C X l u w => match l, u with | [v0], [v1, v2, v3] => T_law04_play_1_body (fun i8 w => X [.int .i64 i8] w) (pInt v0) (pA v1) (pL v1) (pC v1) (pPtr v2) (pPtr v3) w (fun w => C .normal [] w) (fun p35 p36 b37 w => C .ret [.pointer p35, .pointer p36, .bool b37] w) (fun ch w => C (.panic ch) [] w) | _, _ => False) (by kernel_rfl) (by kernel_rfl) T_law04_play_1_hok ?_ ?_
  · intro C X l u w hl hu
    obtain ⟨v0, l_v0, rfl, k_v0, hl_v0⟩ := Kinds.cons_ hl
    obtain ⟨i8, rfl⟩ := kind_int k_v0
    obtain rfl := Kinds.nil_ hl_v0
    obtain ⟨v1, l_v1, rfl, k_v1, hu_v1⟩ := Kinds.cons_ hu
    obtain ⟨l9a, l9l, l9c, rfl⟩ := kind_slice k_v1
    obtain ⟨v2, l_v2, rfl, k_v2, hu_v2⟩ := Kinds.cons_ hu_v1
    obtain ⟨n10, rfl⟩ := kind_pointer k_v2
    obtain ⟨v3, l_v3, rfl, k_v3, hu_v3⟩ := Kinds.cons_ hu_v2
    obtain ⟨r11, rfl⟩ := kind_pointer k_v3
    obtain rfl := Kinds.nil_ hu_v3
    exact T_law04_play_1_eq C X i8 l9a l9l l9c n10 r11 w
  · intro l u w C hl hu
    obtain ⟨v0, l_v0, rfl, k_v0, hl_v0⟩ := Kinds.cons_ hl
    obtain ⟨i8, rfl⟩ := kind_int k_v0
    obtain rfl := Kinds.nil_ hl_v0
    obtain ⟨v1, l_v1, rfl, k_v1, hu_v1⟩ := Kinds.cons_ hu
    obtain ⟨l9a, l9l, l9c, rfl⟩ := kind_slice k_v1
    obtain ⟨v2, l_v2, rfl, k_v2, hu_v2⟩ := Kinds.cons_ hu_v1
    obtain ⟨n10, rfl⟩ := kind_pointer k_v2
    obtain ⟨v3, l_v3, rfl, k_v3, hu_v3⟩ := Kinds.cons_ hu_v2
    obtain ⟨r11, rfl⟩ := kind_pointer k_v3
    obtain rfl := Kinds.nil_ hu_v3
    constructor
    · intro h X hX
      exact h (fun i8 w => X [.int .i64 i8] w) (fun i8 w hb => hX [.int .i64 i8] w ⟨rfl, trivial⟩ hb)
    · intro h X hX
      exact h (fun l w => match l with | [v0] => X (pInt v0) w | _ => True) (fun l w hl hb => by
        obtain ⟨v0, l_v0, rfl, k_v0, hl_v0⟩ := Kinds.cons_ hl
        obtain ⟨i8, rfl⟩ := kind_int k_v0
        obtain rfl := Kinds.nil_ hl_v0
        exact hX i8 w hb)

def T_law04_play (l1a : Option Addr) (l1l : Nat) (l1c : Nat) (w : World) (R : Ending → World → Prop) : Prop :=
  Calls Try.prog 12 #[] w (ret (fun r2 w3 => ∃ p4 : Option Addr, r2 = .pointer p4 ∧ Calls Try.prog 32 #[] w3 (ret (fun r5 w6 => ∃ p7 : Option Addr, r5 = .pointer p7 ∧ T_law04_play_1 0 l1a l1l l1c p4 p7 w6 (fun w38 => R (.returned (.tuple #[.pointer p4, .pointer p7, .bool true])) w38) (fun p39 p40 b41 w42 => R (.returned (.tuple #[.pointer p39, .pointer p40, .bool b41])) w42) (pan R)) (pan R))) (pan R))

theorem T_law04_play_hl : allP (hokL Try.prog (hookAt [(29, H_law04_play_1)]) (bodyOf Try.f23) 1) = (UnitOk Try.prog H_law04_play_1 (at_ (bodyOf Try.f23) [1, 1, 0, 1]) 29 ∧ True) := by kernel_rfl

theorem T_law04_play_eq (l1a : Option Addr) (l1l : Nat) (l1c : Nat) (w : World) (R : Ending → World → Prop) : vcCode Try.prog (hookAt [(29, H_law04_play_1)]) (bodyOf Try.f23) 1 ⟨argEnv [.slice l1a l1l l1c] 0, Try.f23.ntmps, []⟩ w (finQ Try.prog Try.f23.results.toList R) = T_law04_play l1a l1l l1c w R := by kernel_rfl

theorem T_law04_play_b : Try.f23.body = some (bodyOf Try.f23) := by kernel_rfl
theorem T_law04_play_s : (quietSel (bodyOf Try.f23) && Nat.ble 1 Try.f23.ntmps) = true := by kernel_rfl

theorem C_law04_play {l1a : Option Addr} {l1l : Nat} {l1c : Nat} {w : World} {R : Ending → World → Prop} (h : T_law04_play l1a l1l l1c w R) : Calls Try.prog 23 #[.slice l1a l1l l1c] w R :=
  calls_of_text (args := [.slice l1a l1l l1c]) mixed Try.func23 T_law04_play_b T_law04_play_s (HOk_of _ _ (by rw [T_law04_play_hl]; exact ⟨T_law04_play_1_ok, trivial⟩)) (by rw [T_law04_play_eq]; exact h)

/-! tollgate/tollgatelaw04.do -/
def T_law04_do_1_body (X : Int → World → Prop) (i28 : Int) (own29a : Option Addr) (own29l : Nat) (own29c : Nat) (w : World) (Kn : World → Prop) (Kp : List PanicEntry → World → Prop)  : Prop :=
  if (decide ((i28 : Int) < ((own29l : Nat) : Int))) = true then (0 ≤ (i28 : Int) ∧ (i28 : Int) < ((own29l : Nat) : Int) ∧ ∃ b30, own29a = some b30 ∧ ∃ x31 : Int, rd w (b30.add ((i28 : Int).toNat * 1)) (.int .u8 x31) ∧ 0 ≤ (i28 : Int) ∧ (i28 : Int) < ((own29l : Nat) : Int) ∧ ∃ b32, own29a = some b32 ∧ (.int .u8 (IntKind.wrap .u8 ((BitVec.ofInt (IntKind.bits .u8) x31) ^^^ (BitVec.ofInt (IntKind.bits .u8) 90)).toNat) : Value).cells.size = 1 ∧ wrOk w (b32.add ((i28 : Int).toNat * 1)) (.int .u8 (IntKind.wrap .u8 ((BitVec.ofInt (IntKind.bits .u8) x31) ^^^ (BitVec.ofInt (IntKind.bits .u8) 90)).toNat)) ∧ let w33 : World := wr w (b32.add ((i28 : Int).toNat * 1)) (.int .u8 (IntKind.wrap .u8 ((BitVec.ofInt (IntKind.bits .u8) x31) ^^^ (BitVec.ofInt (IntKind.bits .u8) 90)).toNat))
  X (IntKind.wrap .i64 ((i28 : Int) + 1)) w33) else (Kn  w)

def T_law04_do_1 (i28 : Int) (own29a : Option Addr) (own29l : Nat) (own29c : Nat) (w : World) (Kn : World → Prop) (Kp : List PanicEntry → World → Prop) : Prop :=
  ∀ X : Int → World → Prop, (∀ (i28 : Int) (w : World), T_law04_do_1_body X i28 own29a own29l own29c w Kn Kp → X i28 w) → X i28 w

def T_law04_do_1_outs : Exit → Option (List (Nat × Value)) := fun x => match x with | .normal => some [] | .panic _ => some [] | _ => none

def T_law04_do_1_ks : Nat → Bool := ksOf [12, 54, 55, 56, 57, 58, 59, 60, 61, 62, 63, 64, 65]

def H_law04_do_1 : Env → World → QT → Prop := unitHook 176 T_law04_do_1_ks [(12, .int .i64 0), (7, .slice none 0 0)] T_law04_do_1_outs fun l w C => match l with | [v0, v1] => T_law04_do_1 (pInt v0) (pA v1) (pL v1) (pC v1) w (fun w => C .normal [] w) (fun ch w => C (.panic ch) [] w) | _ => False

theorem T_law04_do_1_hl : allP (hokL Try.prog (hookAt []) (at_ (bodyOf Try.f33) [1, 0, 1, 0, 1, 0, 1, 1, 1, 0, 1, 0, 0]) 13684) = (True) := by kernel_rfl
theorem T_law04_do_1_hok : HOk Try.prog (hookAt []) (at_ (bodyOf Try.f33) [1, 0, 1, 0, 1, 0, 1, 1, 1, 0, 1, 0, 0]) 13684 := HOk_of _ _ (by rw [T_law04_do_1_hl]; exact trivial)

theorem T_law04_do_1_eq (C : Conts) (X : List Value → World → Prop) (i28 : Int) (own29a : Option Addr) (own29l : Nat) (own29c : Nat) (w : World) : vcCode Try.prog (hookAt []) (at_ (bodyOf Try.f33) [1, 0, 1, 0, 1, 0, 1, 1, 1, 0, 1, 0, 0]) 13684 ⟨[(12, .int .i64 i28)] ++ [(7, .slice own29a own29l own29c)], 176, []⟩ w (seqQ (fun e w => takeAll e [(12, .int .i64 0)] fun l => X l w) (blockQ 1 (unitQ T_law04_do_1_outs C))) = T_law04_do_1_body (fun i28 w => X [.int .i64 i28] w) i28 own29a own29l own29c w (fun w => C .normal [] w) (fun ch w => C (.panic ch) [] w) := by kernel_rfl

theorem T_law04_do_1_ok : UnitOk Try.prog H_law04_do_1 (at_ (bodyOf Try.f33) [1, 0, 1, 0, 1, 0, 1, 1, 1, 0, 1]) 3421 := by
  have hc : at_ (bodyOf Try.f33) [1, 0, 1, 0, 1, 0, 1, 1, 1, 0, 1] = .block 1 (.loop (at_ (bodyOf Try.f33) [1, 0, 1, 0, 1, 0, 1, 1, 1, 0, 1, 0, 0])) := by kernel_rfl
  rw [hc]
  refine loop_unit_ok (carr := [(12, .int .i64 0)]) (fix := [(7, .slice none 0 0)]) (ks := T_law04_do_1_ks) (H := (hookAt [])) (B := fun C X l u w => match l, u with | [v0], [v1] => T_law04_do_1_body (fun i28 w => X [.int .i64 i28] w) (pInt v0) (pA v1) (pL v1) (pC v1) w (fun w => C .normal [] w) (fun ch w => C (.panic ch) [] w) | _, _ => False) (by kernel_rfl) (by kernel_rfl) T_law04_do_1_hok ?_ ?_
  · intro C X l u w hl hu
    obtain ⟨v0, l_v0, rfl, k_v0, hl_v0⟩ := Kinds.cons_ hl
    obtain ⟨i28, rfl⟩ := kind_int k_v0
    obtain rfl := Kinds.nil_ hl_v0
    obtain ⟨v1, l_v1, rfl, k_v1, hu_v1⟩ := Kinds.cons_ hu
    obtain ⟨own29a, own29l, own29c, rfl⟩ := kind_slice k_v1
    obtain rfl := Kinds.nil_ hu_v1
    exact T_law04_do_1_eq C X i28 own29a own29l own29c w
  · intro l u w C hl hu
    obtain ⟨v0, l_v0, rfl, k_v0, hl_v0⟩ := Kinds.cons_ hl
    obtain ⟨i28, rfl⟩ := kind_int k_v0
    obtain rfl := Kinds.nil_ hl_v0
    obtain ⟨v1, l_v1, rfl, k_v1, hu_v1⟩ := Kinds.cons_ hu
    obtain ⟨own29a, own29l, own29c, rfl⟩ := kind_slice k_v1
    obtain rfl := Kinds.nil_ hu_v1
    constructor
    · intro h X hX
      exact h (fun i28 w => X [.int .i64 i28] w) (fun i28 w hb => hX [.int .i64 i28] w ⟨rfl, trivial⟩ hb)
    · intro h X hX
      exact h (fun l w => match l with | [v0] => X (pInt v0) w | _ => True) (fun l w hl hb => by
        obtain ⟨v0, l_v0, rfl, k_v0, hl_v0⟩ := Kinds.cons_ hl
        obtain ⟨i28, rfl⟩ := kind_int k_v0
        obtain rfl := Kinds.nil_ hl_v0
        exact hX i28 w hb)

def T_law04_do (n1 : Option Addr) (r2 : Option Addr) (x3 : Int) (x4 : Int) (x5 : Int) (x6 : Int) (s7a : Option Addr) (s7l : Nat) (s7c : Nat) (w : World) (R : Ending → World → Prop) : Prop :=
  let w8 : World := w.alloc (.cells #[.int .i64 x3, .int .i64 x4, .int .i64 x5, .int .i64 x6, .slice s7a s7l s7c] 38)
  ∃ x9 : Int, rd w8 (⟨w.heap.size, 0, none⟩ : Addr) (.int .i64 x9) ∧ if ((x9 : Int) == 0) = true then (let w10 : World := w8.alloc (.cells #[] 5)
  ∃ s11a : Option Addr, ∃ s11l : Nat, ∃ s11c : Nat, rd w10 ((⟨w.heap.size, 0, none⟩ : Addr).add 4) (.slice s11a s11l s11c) ∧ runV Try.prog (Builtin.append_ #[36, 36] 36 #[.slice (some (⟨w8.heap.size, 0, none⟩ : Addr)) 0 0, .slice s11a s11l s11c]) w10 (fun r12 w13 => ∃ s14a : Option Addr, ∃ s14l : Nat, ∃ s14c : Nat, r12 = .slice s14a s14l s14c ∧ ∃ x15 : Int, rd w13 ((⟨w.heap.size, 0, none⟩ : Addr).add 1) (.int .i64 x15) ∧ ∃ x16 : Int, rd w13 ((⟨w.heap.size, 0, none⟩ : Addr).add 2) (.int .i64 x16) ∧ Calls Try.prog 17 #[.pointer n1, .int .i64 x15, .int .i64 x16, .slice s14a s14l s14c] w13 (ret (fun r17 w18 => ∃ x19 : Int, ∃ x20 : Int, r17 = .tuple #[.int .i64 x19, .int .i64 x20] ∧ ∃ x21 : Int, rd w18 ((⟨w.heap.size, 0, none⟩ : Addr).add 1) (.int .i64 x21) ∧ ∃ x22 : Int, rd w18 ((⟨w.heap.size, 0, none⟩ : Addr).add 2) (.int .i64 x22) ∧ ∃ s23a : Option Addr, ∃ s23l : Nat, ∃ s23c : Nat, rd w18 ((⟨w.heap.size, 0, none⟩ : Addr).add 4) (.slice s23a s23l s23c) ∧ Calls Try.prog 47 #[.pointer r2, .int .i64 x21, .int .i64 x22, .slice s23a s23l s23c] w18 (ret (fun r24 w25 => ∃ x26 : Int, ∃ x27 : Int, r24 = .tuple #[.int .i64 x26, .int .i64 x27] ∧ T_law04_do_1 0 s14a s14l s14c w25 (fun w34 => if ((x19 : Int) == x26) = true then (R (.returned (.bool ((x20 : Int) == x27))) w34) else (R (.returned (.bool false)) w34)) (pan R)) (pan R))) (pan R))) (pan R)) else (if ((x9 : Int) == 1) = true then (∃ x35 : Int, rd w8 ((⟨w.heap.size, 0, none⟩ : Addr).add 3) (.int .i64 x35) ∧ Calls Try.prog 18 #[.pointer n1, .int .i64 x35] w8 (ret (fun r36 w37 => ∃ x38 : Int, ∃ x39 : Int, ∃ x40 : Int, ∃ s41a : Option Addr, ∃ s41l : Nat, ∃ s41c : Nat, ∃ x42 : Int, r36 = .tuple #[.agg #[.int .i64 x38, .int .i64 x39, .int .i64 x40, .slice s41a s41l s41c], .int .i64 x42] ∧ let w43 : World := w37.alloc (.cells #[.int .i64 0, .int .i64 0, .int .i64 0, .slice none 0 0] 41)
  (.agg #[.int .i64 x38, .int .i64 x39, .int .i64 x40, .slice s41a s41l s41c] : Value).cells.size = 4 ∧ wrOk w43 (⟨w37.heap.size, 0, none⟩ : Addr) (.agg #[.int .i64 x38, .int .i64 x39, .int .i64 x40, .slice s41a s41l s41c]) ∧ let w44 : World := wr w43 (⟨w37.heap.size, 0, none⟩ : Addr) (.agg #[.int .i64 x38, .int .i64 x39, .int .i64 x40, .slice s41a s41l s41c])
  ∃ x45 : Int, rd w44 ((⟨w.heap.size, 0, none⟩ : Addr).add 3) (.int .i64 x45) ∧ Calls Try.prog 29 #[.pointer r2, .int .i64 x45] w44 (ret (fun r46 w47 => ∃ x48 : Int, ∃ x49 : Int, ∃ x50 : Int, ∃ s51a : Option Addr, ∃ s51l : Nat, ∃ s51c : Nat, ∃ x52 : Int, r46 = .tuple #[.agg #[.int .i64 x48, .int .i64 x49, .int .i64 x50, .slice s51a s51l s51c], .int .i64 x52] ∧ let w53 : World := w47.alloc (.cells #[.int .i64 0, .int .i64 0, .int .i64 0, .slice none 0 0] 41)
  (.agg #[.int .i64 x48, .int .i64 x49, .int .i64 x50, .slice s51a s51l s51c] : Value).cells.size = 4 ∧ wrOk w53 (⟨w47.heap.size, 0, none⟩ : Addr) (.agg #[.int .i64 x48, .int .i64 x49, .int .i64 x50, .slice s51a s51l s51c]) ∧ let w54 : World := wr w53 (⟨w47.heap.size, 0, none⟩ : Addr) (.agg #[.int .i64 x48, .int .i64 x49, .int .i64 x50, .slice s51a s51l s51c])
  ∃ x55 : Int, ∃ x56 : Int, ∃ x57 : Int, ∃ s58a : Option Addr, ∃ s58l : Nat, ∃ s58c : Nat, rd w54 (⟨w37.heap.size, 0, none⟩ : Addr) (.agg #[.int .i64 x55, .int .i64 x56, .int .i64 x57, .slice s58a s58l s58c]) ∧ ∃ x59 : Int, ∃ x60 : Int, ∃ x61 : Int, ∃ s62a : Option Addr, ∃ s62l : Nat, ∃ s62c : Nat, rd w54 (⟨w47.heap.size, 0, none⟩ : Addr) (.agg #[.int .i64 x59, .int .i64 x60, .int .i64 x61, .slice s62a s62l s62c]) ∧ Calls Try.prog 19 #[.agg #[.int .i64 x55, .int .i64 x56, .int .i64 x57, .slice s58a s58l s58c], .agg #[.int .i64 x59, .int .i64 x60, .int .i64 x61, .slice s62a s62l s62c]] w54 (ret (fun r63 w64 => ∃ b65 : Bool, r63 = .bool b65 ∧ if b65 = true then (R (.returned (.bool ((x42 : Int) == x52))) w64) else (R (.returned (.bool false)) w64)) (pan R))) (pan R))) (pan R))) else (if ((x9 : Int) == 2) = true then (∃ x66 : Int, rd w8 ((⟨w.heap.size, 0, none⟩ : Addr).add 3) (.int .i64 x66) ∧ Calls Try.prog 21 #[.pointer n1, .int .i64 x66] w8 (ret (fun r67 w68 => ∃ x69 : Int, ∃ x70 : Int, r67 = .tuple #[.int .i64 x69, .int .i64 x70] ∧ ∃ x71 : Int, rd w68 ((⟨w.heap.size, 0, none⟩ : Addr).add 3) (.int .i64 x71) ∧ Calls Try.prog 28 #[.pointer r2, .int .i64 x71] w68 (ret (fun r72 w73 => ∃ x74 : Int, ∃ x75 : Int, r72 = .tuple #[.int .i64 x74, .int .i64 x75] ∧ if ((x69 : Int) == x74) = true then (R (.returned (.bool ((x70 : Int) == x75))) w73) else (R (.returned (.bool false)) w73)) (pan R))) (pan R))) else (if ((x9 : Int) == 3) = true then (let w76 : World := w8.drew
  ∃ x77 : Int, rd w76 ((⟨w.heap.size, 0, none⟩ : Addr).add 1) (.int .i64 x77) ∧ ∃ x78 : Int, rd w76 ((⟨w.heap.size, 0, none⟩ : Addr).add 2) (.int .i64 x78) ∧ ∃ x79 : Int, rd w76 ((⟨w.heap.size, 0, none⟩ : Addr).add 1) (.int .i64 x79) ∧ ∃ x80 : Int, rd w76 ((⟨w.heap.size, 0, none⟩ : Addr).add 2) (.int .i64 x80) ∧ Calls Try.prog 24 #[.pointer n1, .int .i64 x77, .int .i64 x78] w76 (ret (fun r81 w82 => ∃ x83 : Int, r81 = .int .i64 x83 ∧ (rd w82 ((⟨w.heap.size, 0, none⟩ : Addr).add 2) (.int .i64 x80) ∧ rd w82 ((⟨w.heap.size, 0, none⟩ : Addr).add 1) (.int .i64 x79) ∧ True) ∧ Calls Try.prog 48 #[.pointer r2, .int .i64 x79, .int .i64 x80] w82 (ret (fun r84 w85 => ∃ x86 : Int, r84 = .int .i64 x86 ∧ (True) ∧ R (.returned (.bool ((x83 : Int) == x86))) w85) (pan R))) (pan R))) else (if ((x9 : Int) == 4) = true then (let w87 : World := w8.drew
  ∃ x88 : Int, rd w87 ((⟨w.heap.size, 0, none⟩ : Addr).add 1) (.int .i64 x88) ∧ ∃ x89 : Int, rd w87 ((⟨w.heap.size, 0, none⟩ : Addr).add 2) (.int .i64 x89) ∧ ∃ x90 : Int, rd w87 ((⟨w.heap.size, 0, none⟩ : Addr).add 1) (.int .i64 x90) ∧ ∃ x91 : Int, rd w87 ((⟨w.heap.size, 0, none⟩ : Addr).add 2) (.int .i64 x91) ∧ Calls Try.prog 27 #[.pointer n1, .int .i64 x88, .int .i64 x89] w87 (ret (fun r92 w93 => ∃ x94 : Int, r92 = .int .i64 x94 ∧ (rd w93 ((⟨w.heap.size, 0, none⟩ : Addr).add 2) (.int .i64 x91) ∧ rd w93 ((⟨w.heap.size, 0, none⟩ : Addr).add 1) (.int .i64 x90) ∧ True) ∧ Calls Try.prog 49 #[.pointer r2, .int .i64 x90, .int .i64 x91] w93 (ret (fun r95 w96 => ∃ x97 : Int, r95 = .int .i64 x97 ∧ (True) ∧ R (.returned (.bool ((x94 : Int) == x97))) w96) (pan R))) (pan R))) else (if ((x9 : Int) == 5) = true then (∃ x98 : Int, rd w8 ((⟨w.heap.size, 0, none⟩ : Addr).add 1) (.int .i64 x98) ∧ Calls Try.prog 13 #[.pointer n1, .int .i64 x98] w8 (ret (fun r99 w100 => ∃ x101 : Int, ∃ x102 : Int, r99 = .tuple #[.int .i64 x101, .int .i64 x102] ∧ ∃ x103 : Int, rd w100 ((⟨w.heap.size, 0, none⟩ : Addr).add 1) (.int .i64 x103) ∧ Calls Try.prog 50 #[.pointer r2, .int .i64 x103] w100 (ret (fun r104 w105 => ∃ x106 : Int, ∃ x107 : Int, r104 = .tuple #[.int .i64 x106, .int .i64 x107] ∧ if ((x101 : Int) == x106) = true then (R (.returned (.bool ((x102 : Int) == x107))) w105) else (R (.returned (.bool false)) w105)) (pan R))) (pan R))) else (R (.returned (.bool true)) w8))))))

theorem T_law04_do_hl : allP (hokL Try.prog (hookAt [(3421, H_law04_do_1)]) (bodyOf Try.f33) 1) = (UnitOk Try.prog H_law04_do_1 (at_ (bodyOf Try.f33) [1, 0, 1, 0, 1, 0, 1, 1, 1, 0, 1]) 3421 ∧ True) := by kernel_rfl

theorem T_law04_do_eq (n1 : Option Addr) (r2 : Option Addr) (x3 : Int) (x4 : Int) (x5 : Int) (x6 : Int) (s7a : Option Addr) (s7l : Nat) (s7c : Nat) (w : World) (R : Ending → World → Prop) : vcCode Try.prog (hookAt [(3421, H_law04_do_1)]) (bodyOf Try.f33) 1 ⟨argEnv [.pointer n1, .pointer r2, .agg #[.int .i64 x3, .int .i64 x4, .int .i64 x5, .int .i64 x6, .slice s7a s7l s7c]] 0, Try.f33.ntmps, []⟩ w (finQ Try.prog Try.f33.results.toList R) = T_law04_do n1 r2 x3 x4 x5 x6 s7a s7l s7c w R := by kernel_rfl

theorem T_law04_do_b : Try.f33.body = some (bodyOf Try.f33) := by kernel_rfl
theorem T_law04_do_s : (quietSel (bodyOf Try.f33) && Nat.ble 3 Try.f33.ntmps) = true := by kernel_rfl

theorem C_law04_do {n1 : Option Addr} {r2 : Option Addr} {x3 : Int} {x4 : Int} {x5 : Int} {x6 : Int} {s7a : Option Addr} {s7l : Nat} {s7c : Nat} {w : World} {R : Ending → World → Prop} (h : T_law04_do n1 r2 x3 x4 x5 x6 s7a s7l s7c w R) : Calls Try.prog 33 #[.pointer n1, .pointer r2, .agg #[.int .i64 x3, .int .i64 x4, .int .i64 x5, .int .i64 x6, .slice s7a s7l s7c]] w R :=
  calls_of_text (args := [.pointer n1, .pointer r2, .agg #[.int .i64 x3, .int .i64 x4, .int .i64 x5, .int .i64 x6, .slice s7a s7l s7c]]) mixed Try.func33 T_law04_do_b T_law04_do_s (HOk_of _ _ (by rw [T_law04_do_hl]; exact ⟨T_law04_do_1_ok, trivial⟩)) (by rw [T_law04_do_eq]; exact h)

/-! tollgate/tollgatelaw04.same -/
def T_law04_same (n1 : Option Addr) (r2 : Option Addr) (x3 : Int) (x4 : Int) (x5 : Int) (x6 : Int) (s7a : Option Addr) (s7l : Nat) (s7c : Nat) (w : World) (R : Ending → World → Prop) : Prop :=
  let w8 : World := w.alloc (.cells #[.int .i64 x3, .int .i64 x4, .int .i64 x5, .int .i64 x6, .slice s7a s7l s7c] 38)
  let w9 : World := w8.drew
  Calls Try.prog 22 #[.pointer n1] w9 (ret (fun r10 w11 => ∃ x12 : Int, r10 = .int .i64 x12 ∧ (True) ∧ Calls Try.prog 30 #[.pointer r2] w11 (ret (fun r13 w14 => ∃ x15 : Int, r13 = .int .i64 x15 ∧ (True) ∧ if ((x12 : Int) == x15) = true then (Calls Try.prog 20 #[.pointer n1] w14 (ret (fun r16 w17 => ∃ s18a : Option Addr, ∃ s18l : Nat, ∃ s18c : Nat, r16 = .slice s18a s18l s18c ∧ (True) ∧ Calls Try.prog 31 #[.pointer r2] w17 (ret (fun r19 w20 => ∃ s21a : Option Addr, ∃ s21l : Nat, ∃ s21c : Nat, r19 = .slice s21a s21l s21c ∧ (True) ∧ Calls Try.prog 25 #[.slice s18a s18l s18c, .slice s21a s21l s21c] w20 (ret (fun r22 w23 => ∃ b24 : Bool, r22 = .bool b24 ∧ (True) ∧ if b24 = true then (∃ x25 : Int, rd w23 ((⟨w.heap.size, 0, none⟩ : Addr).add 1) (.int .i64 x25) ∧ ∃ x26 : Int, rd w23 ((⟨w.heap.size, 0, none⟩ : Addr).add 1) (.int .i64 x26) ∧ Calls Try.prog 14 #[.pointer n1, .int .i64 x25] w23 (ret (fun r27 w28 => ∃ x29 : Int, r27 = .int .i64 x29 ∧ (rd w28 ((⟨w.heap.size, 0, none⟩ : Addr).add 1) (.int .i64 x26) ∧ True) ∧ Calls Try.prog 51 #[.pointer r2, .int .i64 x26] w28 (ret (fun r30 w31 => ∃ x32 : Int, r30 = .int .i64 x32 ∧ (True) ∧ if ((x29 : Int) == x32) = true then (∃ x33 : Int, rd w31 ((⟨w.heap.size, 0, none⟩ : Addr).add 1) (.int .i64 x33) ∧ ∃ x34 : Int, rd w31 ((⟨w.heap.size, 0, none⟩ : Addr).add 2) (.int .i64 x34) ∧ ∃ x35 : Int, rd w31 ((⟨w.heap.size, 0, none⟩ : Addr).add 1) (.int .i64 x35) ∧ ∃ x36 : Int, rd w31 ((⟨w.heap.size, 0, none⟩ : Addr).add 2) (.int .i64 x36) ∧ Calls Try.prog 26 #[.pointer n1, .int .i64 x33, .int .i64 x34] w31 (ret (fun r37 w38 => ∃ b39 : Bool, r37 = .bool b39 ∧ (rd w38 ((⟨w.heap.size, 0, none⟩ : Addr).add 2) (.int .i64 x36) ∧ rd w38 ((⟨w.heap.size, 0, none⟩ : Addr).add 1) (.int .i64 x35) ∧ True) ∧ Calls Try.prog 52 #[.pointer r2, .int .i64 x35, .int .i64 x36] w38 (ret (fun r40 w41 => ∃ b42 : Bool, r40 = .bool b42 ∧ (True) ∧ R (.returned (.bool (b39 == b42))) w41) (pan R))) (pan R))) else ((True) ∧ (True) ∧ R (.returned (.bool false)) w31)) (pan R))) (pan R))) else ((True) ∧ (True) ∧ (True) ∧ (True) ∧ R (.returned (.bool false)) w23)) (pan R))) (pan R))) (pan R))) else ((True) ∧ (True) ∧ (True) ∧ (True) ∧ (True) ∧ (True) ∧ (True) ∧ R (.returned (.bool false)) w14)) (pan R))) (pan R))

theorem T_law04_same_hl : allP (hokL Try.prog (hookAt []) (bodyOf Try.f34) 1) = (True) := by kernel_rfl

theorem T_law04_same_eq (n1 : Option Addr) (r2 : Option Addr) (x3 : Int) (x4 : Int) (x5 : Int) (x6 : Int) (s7a : Option Addr) (s7l : Nat) (s7c : Nat) (w : World) (R : Ending → World → Prop) : vcCode Try.prog (hookAt []) (bodyOf Try.f34) 1 ⟨argEnv [.pointer n1, .pointer r2, .agg #[.int .i64 x3, .int .i64 x4, .int .i64 x5, .int .i64 x6, .slice s7a s7l s7c]] 0, Try.f34.ntmps, []⟩ w (finQ Try.prog Try.f34.results.toList R) = T_law04_same n1 r2 x3 x4 x5 x6 s7a s7l s7c w R := by kernel_rfl

theorem T_law04_same_b : Try.f34.body = some (bodyOf Try.f34) := by kernel_rfl
theorem T_law04_same_s : (quietSel (bodyOf Try.f34) && Nat.ble 3 Try.f34.ntmps) = true := by kernel_rfl

theorem C_law04_same {n1 : Option Addr} {r2 : Option Addr} {x3 : Int} {x4 : Int} {x5 : Int} {x6 : Int} {s7a : Option Addr} {s7l : Nat} {s7c : Nat} {w : World} {R : Ending → World → Prop} (h : T_law04_same n1 r2 x3 x4 x5 x6 s7a s7l s7c w R) : Calls Try.prog 34 #[.pointer n1, .pointer r2, .agg #[.int .i64 x3, .int .i64 x4, .int .i64 x5, .int .i64 x6, .slice s7a s7l s7c]] w R :=
  calls_of_text (args := [.pointer n1, .pointer r2, .agg #[.int .i64 x3, .int .i64 x4, .int .i64 x5, .int .i64 x6, .slice s7a s7l s7c]]) mixed Try.func34 T_law04_same_b T_law04_same_s (HOk_of _ _ (by rw [T_law04_same_hl]; exact trivial)) (by rw [T_law04_same_eq]; exact h)

end Go.Proofs.Ytilhnmncbpnfjaa
