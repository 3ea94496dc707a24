/- Texts of this claim's own, laid into one. -/
import Derived.Test.YtclinifclfahfaaGreatProg
import Derived.KernelRfl
import Derived.Test.YtclinifclfahfaaGreatXSnapSavesA
import Derived.Test.YtclinifclfahfaaGreatXSnapSavesB
set_option linter.all false
namespace Go.Proofs.YtclinifclfahfaaGreat
open Go Go.Vc
set_option maxRecDepth 100000
set_option linter.unusedVariables false
def T_q87_1_body (X : Int → World → Prop) (x2 : Int) (l3a : Option Addr) (l3l l3c : Nat) (s4a : Option Addr) (s4l s4c : Nat) (x5 : Int) (w : World) (Kn : World → Prop) (Kr : Bool → World → Prop) (Kp : XT)  : Prop :=
 if (decide (x2 < x5)) = true then (0 ≤ x2 ∧ x2 < ((s4l : Nat) : Int) ∧ ∃ b6, s4a = some b6 ∧ ∃ x7 : Int, rd w (b6.add (x2.toNat * 1)) (.int .i64 x7) ∧ if (decide (x7 < 1)) = true then (Kr false w) else (if (decide (x7 > 9)) = true then (Kr false w) else (if (decide (x2 > 0)) = true then (0 ≤ (IntKind.wrap .i64 (x2 - 1) : Int) ∧ (IntKind.wrap .i64 (x2 - 1) : Int) < ((l3l : Nat) : Int) ∧ ∃ b8, l3a = some b8 ∧ ∃ x9 : Int, rd w (b8.add ((IntKind.wrap .i64 (x2 - 1) : Int).toNat * 1)) (.int .i64 x9) ∧ if (decide (x7 ≤ x9)) = true then (Kr false w) else (X (IntKind.wrap .i64 (x2 + 1)) w)) else (X (IntKind.wrap .i64 (x2 + 1)) w)))) else (Kn  w)
def T_q71 (x2 : Int) (l3a : Option Addr) (l3l l3c : Nat) (s4a : Option Addr) (s4l s4c : Nat) (x5 : Int) (w : World) (Kn : World → Prop) (Kr : Bool → World → Prop) (Kp : XT) : Prop :=
 ∀ X : Int → World → Prop, (∀ (x2 : Int) (w : World), T_q87_1_body X x2 l3a l3l l3c s4a s4l s4c x5 w Kn Kr Kp → X x2 w) → X x2 w
def T_q2j : Exit → Option (List (Nat × Value)) := fun x => match x with | .normal => some [] | .ret => some [(2, .bool false)] | .panic _ => some [] | _ => none
def T_q46 : Nat → Bool := ksOf [2, 3, 4, 7, 8, 9, 10, 11, 12, 13, 14, 15, 16, 17, 18, 19, 20, 21, 22, 23, 24, 25, 26, 27, 28, 29, 30, 31]
def H_q71 : Env → World → QT → Prop := unitHook 32 T_q46 [(7, .int .i64 0), (0, .slice none 0 0), (5, .slice none 0 0), (6, .int .i64 0)] T_q2j fun l w C => match l with | [v0, v1, v2, v3] => T_q71 (pInt v0) (pA v1) (pL v1) (pC v1) (pA v2) (pL v2) (pC v2) (pInt v3) w (fun w => C .normal [] w) (fun b11 w => C .ret [.bool b11] w) (fun ch w => C (.panic ch) [] w) | _ => False
theorem T_q71_hl : allP (hokL Tryz.prog (hookAt []) (at_ (bodyOf Tryz.f104) [1, 0, 1, 0, 0]) 52) = (True) := by kernel_rfl
theorem T_q71_hok : HOk Tryz.prog (hookAt []) (at_ (bodyOf Tryz.f104) [1, 0, 1, 0, 0]) 52 := HOk_of _ _ (by rw [T_q71_hl]; exact trivial)
theorem T_q71_eq (C : Conts) (X : List Value → World → Prop) (x2 : Int) (l3a : Option Addr) (l3l l3c : Nat) (s4a : Option Addr) (s4l s4c : Nat) (x5 : Int) (w : World) : vcCode Tryz.prog (hookAt []) (at_ (bodyOf Tryz.f104) [1, 0, 1, 0, 0]) 52 ⟨[(7, .int .i64 x2)] ++ [(0, .slice l3a l3l l3c), (5, .slice s4a s4l s4c), (6, .int .i64 x5)], 32, []⟩ w (seqQ (fun e w => takeAll e [(7, .int .i64 0)] fun l => X l w) (blockQ 0 (unitQ T_q2j C))) = T_q87_1_body (fun x2 w => X [.int .i64 x2] w) x2 l3a l3l l3c s4a s4l s4c x5 w (fun w => C .normal [] w) (fun b12 w => C .ret [.bool b12] w) (fun ch w => C (.panic ch) [] w) := by kernel_rfl
theorem T_q87_1_ok : UnitOk Tryz.prog H_q71 (at_ (bodyOf Tryz.f104) [1, 0, 1]) 13 := by
 have hc : at_ (bodyOf Tryz.f104) [1, 0, 1] = .block 0 (.loop (at_ (bodyOf Tryz.f104) [1, 0, 1, 0, 0])) := by kernel_rfl
 rw [hc]
 refine loop_unit_ok (carr := [(7, .int .i64 0)]) (fix := [(0, .slice none 0 0), (5, .slice none 0 0), (6, .int .i64 0)]) (ks := T_q46) (H := (hookAt [])) (B := fun C X l u w => match l, u with | [v0], [v1, v2, v3] => T_q87_1_body (fun x2 w => X [.int .i64 x2] w) (pInt v0) (pA v1) (pL v1) (pC v1) (pA v2) (pL v2) (pC v2) (pInt v3) w (fun w => C .normal [] w) (fun b13 w => C .ret [.bool b13] w) (fun ch w => C (.panic ch) [] w) | _, _ => False) (by kernel_rfl) (by kernel_rfl) T_q71_hok ?_ ?_
 ·intro C X l u w hl hu
  obtain ⟨v0, _, rfl, k_v0, hl_v0⟩ := kC hl
  obtain ⟨x2, rfl⟩ := kind_int k_v0
  obtain rfl := kN hl_v0
  obtain ⟨v1, _, rfl, k_v1, hu_v1⟩ := kC hu
  obtain ⟨l3a, l3l, l3c, rfl⟩ := kind_slice k_v1
  obtain ⟨v2, _, rfl, k_v2, hu_v2⟩ := kC hu_v1
  obtain ⟨s4a, s4l, s4c, rfl⟩ := kind_slice k_v2
  obtain ⟨v3, _, rfl, k_v3, hu_v3⟩ := kC hu_v2
  obtain ⟨x5, rfl⟩ := kind_int k_v3
  obtain rfl := kN hu_v3
  exact T_q71_eq C X x2 l3a l3l l3c s4a s4l s4c x5 w
 ·intro l u w C hl hu
  obtain ⟨v0, _, rfl, k_v0, hl_v0⟩ := kC hl
  obtain ⟨x2, rfl⟩ := kind_int k_v0
  obtain rfl := kN hl_v0
  obtain ⟨v1, _, rfl, k_v1, hu_v1⟩ := kC hu
  obtain ⟨l3a, l3l, l3c, rfl⟩ := kind_slice k_v1
  obtain ⟨v2, _, rfl, k_v2, hu_v2⟩ := kC hu_v1
  obtain ⟨s4a, s4l, s4c, rfl⟩ := kind_slice k_v2
  obtain ⟨v3, _, rfl, k_v3, hu_v3⟩ := kC hu_v2
  obtain ⟨x5, rfl⟩ := kind_int k_v3
  obtain rfl := kN hu_v3
  constructor
  ·intro h X hX
   exact h (fun x2 w => X [.int .i64 x2] w) (fun x2 w hb => hX [.int .i64 x2] w ⟨rfl, trivial⟩ hb)
  ·intro h X hX
   exact h (fun l w => match l with | [v0] => X (pInt v0) w | _ => True) (fun l w hl hb => by
    obtain ⟨v0, _, rfl, k_v0, hl_v0⟩ := kC hl
    obtain ⟨x2, rfl⟩ := kind_int k_v0
    obtain rfl := kN hl_v0
    exact hX x2 w hb)
def T_q87 (l1a : Option Addr) (l1l l1c : Nat) (w : World) (R : RT) : Prop :=
 T_q71 0 l1a l1l l1c l1a l1l l1c ((l1l : Nat) : Int) w (fun w14 => R (.returned (.bool true)) w14) (fun b15 w16 => R (.returned (.bool b15)) w16) (pan R)
theorem T_q87_hl : allP (hokL Tryz.prog (hookAt [(13, H_q71)]) (bodyOf Tryz.f104) 1) = (UnitOk Tryz.prog H_q71 (at_ (bodyOf Tryz.f104) [1, 0, 1]) 13 ∧ True) := by kernel_rfl
theorem T_q87_eq (l1a : Option Addr) (l1l l1c : Nat) (w : World) (R : RT) : vcCode Tryz.prog (hookAt [(13, H_q71)]) (bodyOf Tryz.f104) 1 ⟨argEnv [.slice l1a l1l l1c] 0, Tryz.f104.ntmps, []⟩ w (finQ Tryz.prog Tryz.f104.results.toList R) = T_q87 l1a l1l l1c w R := by kernel_rfl
theorem T_q87_b : Tryz.f104.body = some (bodyOf Tryz.f104) := by kernel_rfl
theorem T_q87_s : (quietSel (bodyOf Tryz.f104) && Nat.ble 1 Tryz.f104.ntmps) = true := by kernel_rfl
theorem C_q87 {l1a : Option Addr} {l1l l1c : Nat} {w : World} {R : RT} (h : T_q87 l1a l1l l1c w R) : Calls Tryz.prog 104 #[.slice l1a l1l l1c] w R :=
 calls_of_text (args := [.slice l1a l1l l1c]) mixed Tryz.func104 T_q87_b T_q87_s (HOk_of _ _ (by rw [T_q87_hl]; exact ⟨T_q87_1_ok, trivial⟩)) (by rw [T_q87_eq]; exact h)
def T_q2t (s1a : Option Addr) (s1l s1c : Nat) (v2 : Int) (w : World) (R : RT) : Prop :=
 Calls Tryz.prog 115 #[.slice s1a s1l s1c, .int .i64 v2] w (ret (fun r3 w4 => ∃ x5 : Int, r3 = .int .i64 x5 ∧ R (.returned (.bool (decide (x5 ≥ 0)))) w4) (pan R))
theorem T_q2t_hl : allP (hokL Tryz.prog (hookAt []) (bodyOf Tryz.f107) 1) = (True) := by kernel_rfl
theorem T_q2t_eq (s1a : Option Addr) (s1l s1c : Nat) (v2 : Int) (w : World) (R : RT) : vcCode Tryz.prog (hookAt []) (bodyOf Tryz.f107) 1 ⟨argEnv [.slice s1a s1l s1c, .int .i64 v2] 0, Tryz.f107.ntmps, []⟩ w (finQ Tryz.prog Tryz.f107.results.toList R) = T_q2t s1a s1l s1c v2 w R := by kernel_rfl
theorem T_q2t_b : Tryz.f107.body = some (bodyOf Tryz.f107) := by kernel_rfl
theorem T_q2t_s : (quietSel (bodyOf Tryz.f107) && Nat.ble 2 Tryz.f107.ntmps) = true := by kernel_rfl
theorem C_q2t {s1a : Option Addr} {s1l s1c : Nat} {v2 : Int} {w : World} {R : RT} (h : T_q2t s1a s1l s1c v2 w R) : Calls Tryz.prog 107 #[.slice s1a s1l s1c, .int .i64 v2] w R :=
 calls_of_text (args := [.slice s1a s1l s1c, .int .i64 v2]) mixed Tryz.func107 T_q2t_b T_q2t_s (HOk_of _ _ (by rw [T_q2t_hl]; exact trivial)) (by rw [T_q2t_eq]; exact h)
def T_q5r_1_body (X : Int → World → Prop) (x3 : Int) (s4a : Option Addr) (s4l s4c : Nat) (v5 x6 : Int) (w : World) (Kn : World → Prop) (Kr : Int → World → Prop) (Kp : XT)  : Prop :=
 if (decide (x3 < x6)) = true then (0 ≤ x3 ∧ x3 < ((s4l : Nat) : Int) ∧ ∃ b7, s4a = some b7 ∧ ∃ x8 : Int, rd w (b7.add (x3.toNat * 1)) (.int .i64 x8) ∧ if (v5 == x8) = true then (Kr x3 w) else (X (IntKind.wrap .i64 (x3 + 1)) w)) else (Kn  w)
def T_q3h (x3 : Int) (s4a : Option Addr) (s4l s4c : Nat) (v5 x6 : Int) (w : World) (Kn : World → Prop) (Kr : Int → World → Prop) (Kp : XT) : Prop :=
 ∀ X : Int → World → Prop, (∀ (x3 : Int) (w : World), T_q5r_1_body X x3 s4a s4l s4c v5 x6 w Kn Kr Kp → X x3 w) → X x3 w
def T_q0i : Exit → Option (List (Nat × Value)) := fun x => match x with | .normal => some [] | .ret => some [(4, .int .i64 0)] | .panic _ => some [] | _ => none
def T_q1p : Nat → Bool := ksOf [4, 5, 8, 9, 10, 11, 12, 13, 14, 15, 16, 17, 18]
def H_q3h : Env → World → QT → Prop := unitHook 19 T_q1p [(8, .int .i64 0), (0, .slice none 0 0), (1, .int .i64 0), (7, .int .i64 0)] T_q0i fun l w C => match l with | [v0, v1, v2, v3] => T_q3h (pInt v0) (pA v1) (pL v1) (pC v1) (pInt v2) (pInt v3) w (fun w => C .normal [] w) (fun x10 w => C .ret [.int .i64 x10] w) (fun ch w => C (.panic ch) [] w) | _ => False
theorem T_q3h_hl : allP (hokL Tryz.prog (hookAt []) (at_ (bodyOf Tryz.f115) [1, 0, 1, 0, 0]) 52) = (True) := by kernel_rfl
theorem T_q3h_hok : HOk Tryz.prog (hookAt []) (at_ (bodyOf Tryz.f115) [1, 0, 1, 0, 0]) 52 := HOk_of _ _ (by rw [T_q3h_hl]; exact trivial)
theorem T_q3h_eq (C : Conts) (X : List Value → World → Prop) (x3 : Int) (s4a : Option Addr) (s4l s4c : Nat) (v5 x6 : Int) (w : World) : vcCode Tryz.prog (hookAt []) (at_ (bodyOf Tryz.f115) [1, 0, 1, 0, 0]) 52 ⟨[(8, .int .i64 x3)] ++ [(0, .slice s4a s4l s4c), (1, .int .i64 v5), (7, .int .i64 x6)], 19, []⟩ w (seqQ (fun e w => takeAll e [(8, .int .i64 0)] fun l => X l w) (blockQ 0 (unitQ T_q0i C))) = T_q5r_1_body (fun x3 w => X [.int .i64 x3] w) x3 s4a s4l s4c v5 x6 w (fun w => C .normal [] w) (fun x11 w => C .ret [.int .i64 x11] w) (fun ch w => C (.panic ch) [] w) := by kernel_rfl
theorem T_q5r_1_ok : UnitOk Tryz.prog H_q3h (at_ (bodyOf Tryz.f115) [1, 0, 1]) 13 := by
 have hc : at_ (bodyOf Tryz.f115) [1, 0, 1] = .block 0 (.loop (at_ (bodyOf Tryz.f115) [1, 0, 1, 0, 0])) := by kernel_rfl
 rw [hc]
 refine loop_unit_ok (carr := [(8, .int .i64 0)]) (fix := [(0, .slice none 0 0), (1, .int .i64 0), (7, .int .i64 0)]) (ks := T_q1p) (H := (hookAt [])) (B := fun C X l u w => match l, u with | [v0], [v1, v2, v3] => T_q5r_1_body (fun x3 w => X [.int .i64 x3] w) (pInt v0) (pA v1) (pL v1) (pC v1) (pInt v2) (pInt v3) w (fun w => C .normal [] w) (fun x12 w => C .ret [.int .i64 x12] w) (fun ch w => C (.panic ch) [] w) | _, _ => False) (by kernel_rfl) (by kernel_rfl) T_q3h_hok ?_ ?_
 ·intro C X l u w hl hu
  obtain ⟨v0, _, rfl, k_v0, hl_v0⟩ := kC hl
  obtain ⟨x3, rfl⟩ := kind_int k_v0
  obtain rfl := kN hl_v0
  obtain ⟨v1, _, rfl, k_v1, hu_v1⟩ := kC hu
  obtain ⟨s4a, s4l, s4c, rfl⟩ := kind_slice k_v1
  obtain ⟨v2, _, rfl, k_v2, hu_v2⟩ := kC hu_v1
  obtain ⟨v5, rfl⟩ := kind_int k_v2
  obtain ⟨v3, _, rfl, k_v3, hu_v3⟩ := kC hu_v2
  obtain ⟨x6, rfl⟩ := kind_int k_v3
  obtain rfl := kN hu_v3
  exact T_q3h_eq C X x3 s4a s4l s4c v5 x6 w
 ·intro l u w C hl hu
  obtain ⟨v0, _, rfl, k_v0, hl_v0⟩ := kC hl
  obtain ⟨x3, rfl⟩ := kind_int k_v0
  obtain rfl := kN hl_v0
  obtain ⟨v1, _, rfl, k_v1, hu_v1⟩ := kC hu
  obtain ⟨s4a, s4l, s4c, rfl⟩ := kind_slice k_v1
  obtain ⟨v2, _, rfl, k_v2, hu_v2⟩ := kC hu_v1
  obtain ⟨v5, rfl⟩ := kind_int k_v2
  obtain ⟨v3, _, rfl, k_v3, hu_v3⟩ := kC hu_v2
  obtain ⟨x6, rfl⟩ := kind_int k_v3
  obtain rfl := kN hu_v3
  constructor
  ·intro h X hX
   exact h (fun x3 w => X [.int .i64 x3] w) (fun x3 w hb => hX [.int .i64 x3] w ⟨rfl, trivial⟩ hb)
  ·intro h X hX
   exact h (fun l w => match l with | [v0] => X (pInt v0) w | _ => True) (fun l w hl hb => by
    obtain ⟨v0, _, rfl, k_v0, hl_v0⟩ := kC hl
    obtain ⟨x3, rfl⟩ := kind_int k_v0
    obtain rfl := kN hl_v0
    exact hX x3 w hb)
def T_q5r (s1a : Option Addr) (s1l s1c : Nat) (v2 : Int) (w : World) (R : RT) : Prop :=
 T_q3h 0 s1a s1l s1c v2 ((s1l : Nat) : Int) w (fun w13 => R (.returned (.int .i64 (-1))) w13) (fun x14 w15 => R (.returned (.int .i64 x14)) w15) (pan R)
theorem T_q5r_hl : allP (hokL Tryz.prog (hookAt [(13, H_q3h)]) (bodyOf Tryz.f115) 1) = (UnitOk Tryz.prog H_q3h (at_ (bodyOf Tryz.f115) [1, 0, 1]) 13 ∧ True) := by kernel_rfl
theorem T_q5r_eq (s1a : Option Addr) (s1l s1c : Nat) (v2 : Int) (w : World) (R : RT) : vcCode Tryz.prog (hookAt [(13, H_q3h)]) (bodyOf Tryz.f115) 1 ⟨argEnv [.slice s1a s1l s1c, .int .i64 v2] 0, Tryz.f115.ntmps, []⟩ w (finQ Tryz.prog Tryz.f115.results.toList R) = T_q5r s1a s1l s1c v2 w R := by kernel_rfl
theorem T_q5r_b : Tryz.f115.body = some (bodyOf Tryz.f115) := by kernel_rfl
theorem T_q5r_s : (quietSel (bodyOf Tryz.f115) && Nat.ble 2 Tryz.f115.ntmps) = true := by kernel_rfl
theorem C_q5r {s1a : Option Addr} {s1l s1c : Nat} {v2 : Int} {w : World} {R : RT} (h : T_q5r s1a s1l s1c v2 w R) : Calls Tryz.prog 115 #[.slice s1a s1l s1c, .int .i64 v2] w R :=
 calls_of_text (args := [.slice s1a s1l s1c, .int .i64 v2]) mixed Tryz.func115 T_q5r_b T_q5r_s (HOk_of _ _ (by rw [T_q5r_hl]; exact ⟨T_q5r_1_ok, trivial⟩)) (by rw [T_q5r_eq]; exact h)
def T_q29_1_body (X : Int → World → Prop) (x3 : Int) (s4a : Option Addr) (s4l s4c : Nat) (f5g : FuncId) (f5i f5c : Array Value) (x6 : Int) (w : World) (Kn : World → Prop) (Kr : Int → World → Prop) (Kp : XT)  : Prop :=
 if (decide (x3 < x6)) = true then (0 ≤ x3 ∧ x3 < ((s4l : Nat) : Int) ∧ ∃ b7, s4a = some b7 ∧ ∃ x8 : Int, rd w (b7.add (x3.toNat * 1)) (.int .i64 x8) ∧ hasBody Tryz.prog f5g = true ∧ Calls Tryz.prog f5g ⟨f5i.toList ++ ([.int .i64 x8] ++ f5c.toList)⟩ w (ret (fun r9 w10 => ∃ b11 : Bool, r9 = .bool b11 ∧ if b11 = true then (Kr x3 w10) else (X (IntKind.wrap .i64 (x3 + 1)) w10)) Kp)) else (Kn  w)
def T_q11 (x3 : Int) (s4a : Option Addr) (s4l s4c : Nat) (f5g : FuncId) (f5i f5c : Array Value) (x6 : Int) (w : World) (Kn : World → Prop) (Kr : Int → World → Prop) (Kp : XT) : Prop :=
 ∀ X : Int → World → Prop, (∀ (x3 : Int) (w : World), T_q29_1_body X x3 s4a s4l s4c f5g f5i f5c x6 w Kn Kr Kp → X x3 w) → X x3 w
def T_q01 : Exit → Option (List (Nat × Value)) := fun x => match x with | .normal => some [] | .ret => some [(4, .int .i64 0)] | .panic _ => some [] | _ => none
def T_q02 : Nat → Bool := ksOf [4, 5, 8, 9, 10, 11, 12, 13, 14, 15, 16, 17, 18]
def H_q11 : Env → World → QT → Prop := unitHook 19 T_q02 [(8, .int .i64 0), (0, .slice none 0 0), (1, .func (.func 0) #[] #[]), (7, .int .i64 0)] T_q01 fun l w C => match l with | [v0, v1, v2, v3] => T_q11 (pInt v0) (pA v1) (pL v1) (pC v1) (pFn v2) (pFi v2) (pCa v2) (pInt v3) w (fun w => C .normal [] w) (fun x13 w => C .ret [.int .i64 x13] w) (fun ch w => C (.panic ch) [] w) | _ => False
theorem T_q11_hl : allP (hokL Tryz.prog (hookAt []) (at_ (bodyOf Tryz.f114) [1, 0, 1, 0, 0]) 52) = (True) := by kernel_rfl
theorem T_q11_hok : HOk Tryz.prog (hookAt []) (at_ (bodyOf Tryz.f114) [1, 0, 1, 0, 0]) 52 := HOk_of _ _ (by rw [T_q11_hl]; exact trivial)
theorem T_q11_eq (C : Conts) (X : List Value → World → Prop) (x3 : Int) (s4a : Option Addr) (s4l s4c : Nat) (f5g : FuncId) (f5i f5c : Array Value) (x6 : Int) (w : World) : vcCode Tryz.prog (hookAt []) (at_ (bodyOf Tryz.f114) [1, 0, 1, 0, 0]) 52 ⟨[(8, .int .i64 x3)] ++ [(0, .slice s4a s4l s4c), (1, .func (.func f5g) f5i f5c), (7, .int .i64 x6)], 19, []⟩ w (seqQ (fun e w => takeAll e [(8, .int .i64 0)] fun l => X l w) (blockQ 0 (unitQ T_q01 C))) = T_q29_1_body (fun x3 w => X [.int .i64 x3] w) x3 s4a s4l s4c f5g f5i f5c x6 w (fun w => C .normal [] w) (fun x14 w => C .ret [.int .i64 x14] w) (fun ch w => C (.panic ch) [] w) := by kernel_rfl
theorem T_q29_1_ok : UnitOk Tryz.prog H_q11 (at_ (bodyOf Tryz.f114) [1, 0, 1]) 13 := by
 have hc : at_ (bodyOf Tryz.f114) [1, 0, 1] = .block 0 (.loop (at_ (bodyOf Tryz.f114) [1, 0, 1, 0, 0])) := by kernel_rfl
 rw [hc]
 refine loop_unit_ok (carr := [(8, .int .i64 0)]) (fix := [(0, .slice none 0 0), (1, .func (.func 0) #[] #[]), (7, .int .i64 0)]) (ks := T_q02) (H := (hookAt [])) (B := fun C X l u w => match l, u with | [v0], [v1, v2, v3] => T_q29_1_body (fun x3 w => X [.int .i64 x3] w) (pInt v0) (pA v1) (pL v1) (pC v1) (pFn v2) (pFi v2) (pCa v2) (pInt v3) w (fun w => C .normal [] w) (fun x15 w => C .ret [.int .i64 x15] w) (fun ch w => C (.panic ch) [] w) | _, _ => False) (by kernel_rfl) (by kernel_rfl) T_q11_hok ?_ ?_
 ·intro C X l u w hl hu
  obtain ⟨v0, _, rfl, k_v0, hl_v0⟩ := kC hl
  obtain ⟨x3, rfl⟩ := kind_int k_v0
  obtain rfl := kN hl_v0
  obtain ⟨v1, _, rfl, k_v1, hu_v1⟩ := kC hu
  obtain ⟨s4a, s4l, s4c, rfl⟩ := kind_slice k_v1
  obtain ⟨v2, _, rfl, k_v2, hu_v2⟩ := kC hu_v1
  obtain ⟨f5g, f5i, f5c, rfl⟩ := kind_func k_v2
  obtain ⟨v3, _, rfl, k_v3, hu_v3⟩ := kC hu_v2
  obtain ⟨x6, rfl⟩ := kind_int k_v3
  obtain rfl := kN hu_v3
  exact T_q11_eq C X x3 s4a s4l s4c f5g f5i f5c x6 w
 ·intro l u w C hl hu
  obtain ⟨v0, _, rfl, k_v0, hl_v0⟩ := kC hl
  obtain ⟨x3, rfl⟩ := kind_int k_v0
  obtain rfl := kN hl_v0
  obtain ⟨v1, _, rfl, k_v1, hu_v1⟩ := kC hu
  obtain ⟨s4a, s4l, s4c, rfl⟩ := kind_slice k_v1
  obtain ⟨v2, _, rfl, k_v2, hu_v2⟩ := kC hu_v1
  obtain ⟨f5g, f5i, f5c, rfl⟩ := kind_func k_v2
  obtain ⟨v3, _, rfl, k_v3, hu_v3⟩ := kC hu_v2
  obtain ⟨x6, rfl⟩ := kind_int k_v3
  obtain rfl := kN hu_v3
  constructor
  ·intro h X hX
   exact h (fun x3 w => X [.int .i64 x3] w) (fun x3 w hb => hX [.int .i64 x3] w ⟨rfl, trivial⟩ hb)
  ·intro h X hX
   exact h (fun l w => match l with | [v0] => X (pInt v0) w | _ => True) (fun l w hl hb => by
    obtain ⟨v0, _, rfl, k_v0, hl_v0⟩ := kC hl
    obtain ⟨x3, rfl⟩ := kind_int k_v0
    obtain rfl := kN hl_v0
    exact hX x3 w hb)
def T_q29 (s1a : Option Addr) (s1l s1c : Nat) (f2g : FuncId) (f2i f2c : Array Value) (w : World) (R : RT) : Prop :=
 T_q11 0 s1a s1l s1c f2g f2i f2c ((s1l : Nat) : Int) w (fun w16 => R (.returned (.int .i64 (-1))) w16) (fun x17 w18 => R (.returned (.int .i64 x17)) w18) (pan R)
theorem T_q29_hl : allP (hokL Tryz.prog (hookAt [(13, H_q11)]) (bodyOf Tryz.f114) 1) = (UnitOk Tryz.prog H_q11 (at_ (bodyOf Tryz.f114) [1, 0, 1]) 13 ∧ True) := by kernel_rfl
theorem T_q29_eq (s1a : Option Addr) (s1l s1c : Nat) (f2g : FuncId) (f2i f2c : Array Value) (w : World) (R : RT) : vcCode Tryz.prog (hookAt [(13, H_q11)]) (bodyOf Tryz.f114) 1 ⟨argEnv [.slice s1a s1l s1c, .func (.func f2g) f2i f2c] 0, Tryz.f114.ntmps, []⟩ w (finQ Tryz.prog Tryz.f114.results.toList R) = T_q29 s1a s1l s1c f2g f2i f2c w R := by kernel_rfl
theorem T_q29_b : Tryz.f114.body = some (bodyOf Tryz.f114) := by kernel_rfl
theorem T_q29_s : (quietSel (bodyOf Tryz.f114) && Nat.ble 2 Tryz.f114.ntmps) = true := by kernel_rfl
theorem C_q29 {s1a : Option Addr} {s1l s1c : Nat} {f2g : FuncId} {f2i f2c : Array Value} {w : World} {R : RT} (h : T_q29 s1a s1l s1c f2g f2i f2c w R) : Calls Tryz.prog 114 #[.slice s1a s1l s1c, .func (.func f2g) f2i f2c] w R :=
 calls_of_text (args := [.slice s1a s1l s1c, .func (.func f2g) f2i f2c]) mixed Tryz.func114 T_q29_b T_q29_s (HOk_of _ _ (by rw [T_q29_hl]; exact ⟨T_q29_1_ok, trivial⟩)) (by rw [T_q29_eq]; exact h)
def T_q0h (s1a : Option Addr) (s1l s1c : Nat) (f2g : FuncId) (f2i f2c : Array Value) (w : World) (R : RT) : Prop :=
 Calls Tryz.prog 114 #[.slice s1a s1l s1c, .func (.func f2g) f2i f2c] w (ret (fun r3 w4 => ∃ x5 : Int, r3 = .int .i64 x5 ∧ R (.returned (.bool (decide (x5 ≥ 0)))) w4) (pan R))
theorem T_q0h_hl : allP (hokL Tryz.prog (hookAt []) (bodyOf Tryz.f105) 1) = (True) := by kernel_rfl
theorem T_q0h_eq (s1a : Option Addr) (s1l s1c : Nat) (f2g : FuncId) (f2i f2c : Array Value) (w : World) (R : RT) : vcCode Tryz.prog (hookAt []) (bodyOf Tryz.f105) 1 ⟨argEnv [.slice s1a s1l s1c, .func (.func f2g) f2i f2c] 0, Tryz.f105.ntmps, []⟩ w (finQ Tryz.prog Tryz.f105.results.toList R) = T_q0h s1a s1l s1c f2g f2i f2c w R := by kernel_rfl
theorem T_q0h_b : Tryz.f105.body = some (bodyOf Tryz.f105) := by kernel_rfl
theorem T_q0h_s : (quietSel (bodyOf Tryz.f105) && Nat.ble 2 Tryz.f105.ntmps) = true := by kernel_rfl
theorem C_q0h {s1a : Option Addr} {s1l s1c : Nat} {f2g : FuncId} {f2i f2c : Array Value} {w : World} {R : RT} (h : T_q0h s1a s1l s1c f2g f2i f2c w R) : Calls Tryz.prog 105 #[.slice s1a s1l s1c, .func (.func f2g) f2i f2c] w R :=
 calls_of_text (args := [.slice s1a s1l s1c, .func (.func f2g) f2i f2c]) mixed Tryz.func105 T_q0h_b T_q0h_s (HOk_of _ _ (by rw [T_q0h_hl]; exact trivial)) (by rw [T_q0h_eq]; exact h)
def T_q66 (n1 : Int) (cap2 : Addr) (w : World) (R : RT) : Prop :=
 ∃ (s3a : Option Addr) (s3l s3c : Nat), rd w cap2 (.slice s3a s3l s3c) ∧ Calls Tryz.prog 107 #[.slice s3a s3l s3c, .int .i64 n1] w (ret (fun r4 w5 => ∃ b6 : Bool, r4 = .bool b6 ∧ R (.returned (.bool b6)) w5) (pan R))
theorem T_q66_hl : allP (hokL Tryz.prog (hookAt []) (bodyOf Tryz.f106) 1) = (True) := by kernel_rfl
theorem T_q66_eq (n1 : Int) (cap2 : Addr) (w : World) (R : RT) : vcCode Tryz.prog (hookAt []) (bodyOf Tryz.f106) 1 ⟨argEnv [.int .i64 n1, .pointer (some cap2)] 0, Tryz.f106.ntmps, []⟩ w (finQ Tryz.prog Tryz.f106.results.toList R) = T_q66 n1 cap2 w R := by kernel_rfl
theorem T_q66_b : Tryz.f106.body = some (bodyOf Tryz.f106) := by kernel_rfl
theorem T_q66_s : (quietSel (bodyOf Tryz.f106) && Nat.ble 2 Tryz.f106.ntmps) = true := by kernel_rfl
theorem C_q66 {n1 : Int} {cap2 : Addr} {w : World} {R : RT} (h : T_q66 n1 cap2 w R) : Calls Tryz.prog 106 #[.int .i64 n1, .pointer (some cap2)] w R :=
 calls_of_text (args := [.int .i64 n1, .pointer (some cap2)]) mixed Tryz.func106 T_q66_b T_q66_s (HOk_of _ _ (by rw [T_q66_hl]; exact trivial)) (by rw [T_q66_eq]; exact h)
def T_q85 (s1a : Option Addr) (s1l s1c : Nat) (s2a : Option Addr) (s2l s2c : Nat) (w : World) (R : RT) : Prop :=
 let w3 : World := w.alloc (.cells #[.slice s1a s1l s1c, .slice s2a s2l s2c] 26)
 ∃ (s4a : Option Addr) (s4l s4c : Nat), rd w3 (⟨w.heap.size, 0, none⟩ : Addr) (.slice s4a s4l s4c) ∧ if (((s4l : Nat) : Int) == 0) = true then (R (.returned (.bool false)) w3) else (∃ (s5a : Option Addr) (s5l s5c : Nat), rd w3 (⟨w.heap.size, 0, none⟩ : Addr) (.slice s5a s5l s5c) ∧ Calls Tryz.prog 104 #[.slice s5a s5l s5c] w3 (ret (fun r6 w7 => ∃ b8 : Bool, r6 = .bool b8 ∧ if (!b8) = true then (R (.returned (.bool false)) w7) else (∃ (s9a : Option Addr) (s9l s9c : Nat), rd w7 ((⟨w.heap.size, 0, none⟩ : Addr).add 1) (.slice s9a s9l s9c) ∧ Calls Tryz.prog 104 #[.slice s9a s9l s9c] w7 (ret (fun r10 w11 => ∃ b12 : Bool, r10 = .bool b12 ∧ if (!b12) = true then (R (.returned (.bool false)) w11) else (∃ (s13a : Option Addr) (s13l s13c : Nat), rd w11 ((⟨w.heap.size, 0, none⟩ : Addr).add 1) (.slice s13a s13l s13c) ∧ Calls Tryz.prog 105 #[.slice s13a s13l s13c, .func (.func 106) #[] #[.pointer (some (⟨w.heap.size, 0, none⟩ : Addr))]] w11 (ret (fun r14 w15 => ∃ b16 : Bool, r14 = .bool b16 ∧ R (.returned (.bool (!b16))) w15) (pan R)))) (pan R)))) (pan R)))
theorem T_q85_hl : allP (hokL Tryz.prog (hookAt []) (bodyOf Tryz.f80) 1) = (True) := by kernel_rfl
theorem T_q85_eq (s1a : Option Addr) (s1l s1c : Nat) (s2a : Option Addr) (s2l s2c : Nat) (w : World) (R : RT) : vcCode Tryz.prog (hookAt []) (bodyOf Tryz.f80) 1 ⟨argEnv [.agg #[.slice s1a s1l s1c, .slice s2a s2l s2c]] 0, Tryz.f80.ntmps, []⟩ w (finQ Tryz.prog Tryz.f80.results.toList R) = T_q85 s1a s1l s1c s2a s2l s2c w R := by kernel_rfl
theorem T_q85_b : Tryz.f80.body = some (bodyOf Tryz.f80) := by kernel_rfl
theorem T_q85_s : (quietSel (bodyOf Tryz.f80) && Nat.ble 1 Tryz.f80.ntmps) = true := by kernel_rfl
theorem C_q85 {s1a : Option Addr} {s1l s1c : Nat} {s2a : Option Addr} {s2l s2c : Nat} {w : World} {R : RT} (h : T_q85 s1a s1l s1c s2a s2l s2c w R) : Calls Tryz.prog 80 #[.agg #[.slice s1a s1l s1c, .slice s2a s2l s2c]] w R :=
 calls_of_text (args := [.agg #[.slice s1a s1l s1c, .slice s2a s2l s2c]]) mixed Tryz.func80 T_q85_b T_q85_s (HOk_of _ _ (by rw [T_q85_hl]; exact trivial)) (by rw [T_q85_eq]; exact h)
def T_q9f_1_body (X : Option Addr → Nat → Nat → Int → World → Prop) (b3a : Option Addr) (b3l b3c : Nat) (x4 : Int) (s5a : Option Addr) (s5l s5c : Nat) (x6 : Int) (w : World) (Kn : Option Addr → Nat → Nat → World → Prop) (Kp : XT)  : Prop :=
 if (decide (x4 < x6)) = true then (0 ≤ x4 ∧ x4 < ((s5l : Nat) : Int) ∧ ∃ b7, s5a = some b7 ∧ ∃ x8 : Int, rd w (b7.add (x4.toNat * 1)) (.int .i64 x8) ∧ Calls Tryz.prog 82 #[.int .i64 x8] w (ret (fun r9 w10 => ∃ (s11a : Option Addr) (s11l s11c : Nat) (x12 : Int), r9 = .tuple #[.slice s11a s11l s11c, .int .i64 x12] ∧ runV Tryz.prog (Builtin.append_ #[27, 27] 27 #[.slice b3a b3l b3c, .slice s11a s11l s11c]) w10 (fun r13 w14 => ∃ (s15a : Option Addr) (s15l s15c : Nat), r13 = .slice s15a s15l s15c ∧ X s15a s15l s15c (IntKind.wrap .i64 (x4 + 1)) w14) Kp) Kp)) else (Kn b3a b3l b3c w)
def T_q86 (b3a : Option Addr) (b3l b3c : Nat) (x4 : Int) (s5a : Option Addr) (s5l s5c : Nat) (x6 : Int) (w : World) (Kn : Option Addr → Nat → Nat → World → Prop) (Kp : XT) : Prop :=
 ∀ X : Option Addr → Nat → Nat → Int → World → Prop, (∀ (b3a : Option Addr) (b3l b3c : Nat) (x4 : Int) (w : World), T_q9f_1_body X b3a b3l b3c x4 s5a s5l s5c x6 w Kn Kp → X b3a b3l b3c x4 w) → X b3a b3l b3c x4 w
def T_q45 : Exit → Option (List (Nat × Value)) := fun x => match x with | .normal => some [(0, .slice none 0 0)] | .panic _ => some [] | _ => none
def T_q67 : Nat → Bool := ksOf [0, 6, 7, 8, 11, 12, 13, 14, 15, 16, 17, 18, 19, 20, 21, 22, 23]
def H_q86 : Env → World → QT → Prop := unitHook 25 T_q67 [(0, .slice none 0 0), (11, .int .i64 0), (9, .slice none 0 0), (10, .int .i64 0)] T_q45 fun l w C => match l with | [v0, v1, v2, v3] => T_q86 (pA v0) (pL v0) (pC v0) (pInt v1) (pA v2) (pL v2) (pC v2) (pInt v3) w (fun b17a b17l b17c w => C .normal [.slice b17a b17l b17c] w) (fun ch w => C (.panic ch) [] w) | _ => False
theorem T_q86_hl : allP (hokL Tryz.prog (hookAt []) (at_ (bodyOf Tryz.f81) [1, 0, 1, 0, 0]) 52) = (True) := by kernel_rfl
theorem T_q86_hok : HOk Tryz.prog (hookAt []) (at_ (bodyOf Tryz.f81) [1, 0, 1, 0, 0]) 52 := HOk_of _ _ (by rw [T_q86_hl]; exact trivial)
theorem T_q86_eq (C : Conts) (X : List Value → World → Prop) (b3a : Option Addr) (b3l b3c : Nat) (x4 : Int) (s5a : Option Addr) (s5l s5c : Nat) (x6 : Int) (w : World) : vcCode Tryz.prog (hookAt []) (at_ (bodyOf Tryz.f81) [1, 0, 1, 0, 0]) 52 ⟨[(0, .slice b3a b3l b3c), (11, .int .i64 x4)] ++ [(9, .slice s5a s5l s5c), (10, .int .i64 x6)], 25, []⟩ w (seqQ (fun e w => takeAll e [(0, .slice none 0 0), (11, .int .i64 0)] fun l => X l w) (blockQ 0 (unitQ T_q45 C))) = T_q9f_1_body (fun b3a b3l b3c x4 w => X [.slice b3a b3l b3c, .int .i64 x4] w) b3a b3l b3c x4 s5a s5l s5c x6 w (fun b18a b18l b18c w => C .normal [.slice b18a b18l b18c] w) (fun ch w => C (.panic ch) [] w) := by kernel_rfl
theorem T_q9f_1_ok : UnitOk Tryz.prog H_q86 (at_ (bodyOf Tryz.f81) [1, 0, 1]) 13 := by
 have hc : at_ (bodyOf Tryz.f81) [1, 0, 1] = .block 0 (.loop (at_ (bodyOf Tryz.f81) [1, 0, 1, 0, 0])) := by kernel_rfl
 rw [hc]
 refine loop_unit_ok (carr := [(0, .slice none 0 0), (11, .int .i64 0)]) (fix := [(9, .slice none 0 0), (10, .int .i64 0)]) (ks := T_q67) (H := (hookAt [])) (B := fun C X l u w => match l, u with | [v0, v1], [v2, v3] => T_q9f_1_body (fun b3a b3l b3c x4 w => X [.slice b3a b3l b3c, .int .i64 x4] w) (pA v0) (pL v0) (pC v0) (pInt v1) (pA v2) (pL v2) (pC v2) (pInt v3) w (fun b19a b19l b19c w => C .normal [.slice b19a b19l b19c] w) (fun ch w => C (.panic ch) [] w) | _, _ => False) (by kernel_rfl) (by kernel_rfl) T_q86_hok ?_ ?_
 ·intro C X l u w hl hu
  obtain ⟨v0, _, rfl, k_v0, hl_v0⟩ := kC hl
  obtain ⟨b3a, b3l, b3c, rfl⟩ := kind_slice k_v0
  obtain ⟨v1, _, rfl, k_v1, hl_v1⟩ := kC hl_v0
  obtain ⟨x4, rfl⟩ := kind_int k_v1
  obtain rfl := kN hl_v1
  obtain ⟨v2, _, rfl, k_v2, hu_v2⟩ := kC hu
  obtain ⟨s5a, s5l, s5c, rfl⟩ := kind_slice k_v2
  obtain ⟨v3, _, rfl, k_v3, hu_v3⟩ := kC hu_v2
  obtain ⟨x6, rfl⟩ := kind_int k_v3
  obtain rfl := kN hu_v3
  exact T_q86_eq C X b3a b3l b3c x4 s5a s5l s5c x6 w
 ·intro l u w C hl hu
  obtain ⟨v0, _, rfl, k_v0, hl_v0⟩ := kC hl
  obtain ⟨b3a, b3l, b3c, rfl⟩ := kind_slice k_v0
  obtain ⟨v1, _, rfl, k_v1, hl_v1⟩ := kC hl_v0
  obtain ⟨x4, rfl⟩ := kind_int k_v1
  obtain rfl := kN hl_v1
  obtain ⟨v2, _, rfl, k_v2, hu_v2⟩ := kC hu
  obtain ⟨s5a, s5l, s5c, rfl⟩ := kind_slice k_v2
  obtain ⟨v3, _, rfl, k_v3, hu_v3⟩ := kC hu_v2
  obtain ⟨x6, rfl⟩ := kind_int k_v3
  obtain rfl := kN hu_v3
  constructor
  ·intro h X hX
   exact h (fun b3a b3l b3c x4 w => X [.slice b3a b3l b3c, .int .i64 x4] w) (fun b3a b3l b3c x4 w hb => hX [.slice b3a b3l b3c, .int .i64 x4] w ⟨rfl, rfl, trivial⟩ hb)
  ·intro h X hX
   exact h (fun l w => match l with | [v0, v1] => X (pA v0) (pL v0) (pC v0) (pInt v1) w | _ => True) (fun l w hl hb => by
    obtain ⟨v0, _, rfl, k_v0, hl_v0⟩ := kC hl
    obtain ⟨b3a, b3l, b3c, rfl⟩ := kind_slice k_v0
    obtain ⟨v1, _, rfl, k_v1, hl_v1⟩ := kC hl_v0
    obtain ⟨x4, rfl⟩ := kind_int k_v1
    obtain rfl := kN hl_v1
    exact hX b3a b3l b3c x4 w hb)
def T_q9f (b1a : Option Addr) (b1l b1c : Nat) (l2a : Option Addr) (l2l l2c : Nat) (w : World) (R : RT) : Prop :=
 T_q86 b1a b1l b1c 0 l2a l2l l2c ((l2l : Nat) : Int) w (fun b20a b20l b20c w21 => R (.returned (.slice b20a b20l b20c)) w21) (pan R)
theorem T_q9f_hl : allP (hokL Tryz.prog (hookAt [(13, H_q86)]) (bodyOf Tryz.f81) 1) = (UnitOk Tryz.prog H_q86 (at_ (bodyOf Tryz.f81) [1, 0, 1]) 13 ∧ True) := by kernel_rfl
theorem T_q9f_eq (b1a : Option Addr) (b1l b1c : Nat) (l2a : Option Addr) (l2l l2c : Nat) (w : World) (R : RT) : vcCode Tryz.prog (hookAt [(13, H_q86)]) (bodyOf Tryz.f81) 1 ⟨argEnv [.slice b1a b1l b1c, .slice l2a l2l l2c] 0, Tryz.f81.ntmps, []⟩ w (finQ Tryz.prog Tryz.f81.results.toList R) = T_q9f b1a b1l b1c l2a l2l l2c w R := by kernel_rfl
theorem T_q9f_b : Tryz.f81.body = some (bodyOf Tryz.f81) := by kernel_rfl
theorem T_q9f_s : (quietSel (bodyOf Tryz.f81) && Nat.ble 2 Tryz.f81.ntmps) = true := by kernel_rfl
theorem C_q9f {b1a : Option Addr} {b1l b1c : Nat} {l2a : Option Addr} {l2l l2c : Nat} {w : World} {R : RT} (h : T_q9f b1a b1l b1c l2a l2l l2c w R) : Calls Tryz.prog 81 #[.slice b1a b1l b1c, .slice l2a l2l l2c] w R :=
 calls_of_text (args := [.slice b1a b1l b1c, .slice l2a l2l l2c]) mixed Tryz.func81 T_q9f_b T_q9f_s (HOk_of _ _ (by rw [T_q9f_hl]; exact ⟨T_q9f_1_ok, trivial⟩)) (by rw [T_q9f_eq]; exact h)
def T_q9e (s1a : Option Addr) (s1l s1c : Nat) (s2a : Option Addr) (s2l s2c : Nat) (w : World) (R : RT) : Prop :=
 let w3 : World := w.alloc (.cells #[.slice s1a s1l s1c, .slice s2a s2l s2c] 26)
 ∃ (s4a : Option Addr) (s4l s4c : Nat) (s5a : Option Addr) (s5l s5c : Nat), rd w3 (⟨w.heap.size, 0, none⟩ : Addr) (.agg #[.slice s4a s4l s4c, .slice s5a s5l s5c]) ∧ Calls Tryz.prog 80 #[.agg #[.slice s4a s4l s4c, .slice s5a s5l s5c]] w3 (ret (fun r6 w7 => ∃ b8 : Bool, r6 = .bool b8 ∧ if (!b8) = true then (R (.returned (.tuple #[.slice none 0 0, .int .i64 2])) w7) else (∃ (s9a : Option Addr) (s9l s9c : Nat), rd w7 (⟨w.heap.size, 0, none⟩ : Addr) (.slice s9a s9l s9c) ∧ let w10 : World := w7.alloc (.cells #[.int .i64 ((s9l : Nat) : Int)] 3)
 Calls Tryz.prog 81 #[.slice none 0 0, .slice (some (⟨w7.heap.size, 0, none⟩ : Addr)) 1 1] w10 (ret (fun r11 w12 => ∃ (s13a : Option Addr) (s13l s13c : Nat), r11 = .slice s13a s13l s13c ∧ ∃ (s14a : Option Addr) (s14l s14c : Nat), rd w12 (⟨w.heap.size, 0, none⟩ : Addr) (.slice s14a s14l s14c) ∧ Calls Tryz.prog 81 #[.slice s13a s13l s13c, .slice s14a s14l s14c] w12 (ret (fun r15 w16 => ∃ (s17a : Option Addr) (s17l s17c : Nat), r15 = .slice s17a s17l s17c ∧ ∃ (s18a : Option Addr) (s18l s18c : Nat), rd w16 ((⟨w.heap.size, 0, none⟩ : Addr).add 1) (.slice s18a s18l s18c) ∧ let w19 : World := w16.alloc (.cells #[.int .i64 ((s18l : Nat) : Int)] 3)
 Calls Tryz.prog 81 #[.slice s17a s17l s17c, .slice (some (⟨w16.heap.size, 0, none⟩ : Addr)) 1 1] w19 (ret (fun r20 w21 => ∃ (s22a : Option Addr) (s22l s22c : Nat), r20 = .slice s22a s22l s22c ∧ ∃ (s23a : Option Addr) (s23l s23c : Nat), rd w21 ((⟨w.heap.size, 0, none⟩ : Addr).add 1) (.slice s23a s23l s23c) ∧ Calls Tryz.prog 81 #[.slice s22a s22l s22c, .slice s23a s23l s23c] w21 (ret (fun r24 w25 => ∃ (s26a : Option Addr) (s26l s26c : Nat), r24 = .slice s26a s26l s26c ∧ R (.returned (.tuple #[.slice s26a s26l s26c, .int .i64 0])) w25) (pan R))) (pan R))) (pan R))) (pan R)))) (pan R))
theorem T_q9e_hl : allP (hokL Tryz.prog (hookAt []) (bodyOf Tryz.f39) 1) = (True) := by kernel_rfl
theorem T_q9e_eq (s1a : Option Addr) (s1l s1c : Nat) (s2a : Option Addr) (s2l s2c : Nat) (w : World) (R : RT) : vcCode Tryz.prog (hookAt []) (bodyOf Tryz.f39) 1 ⟨argEnv [.agg #[.slice s1a s1l s1c, .slice s2a s2l s2c]] 0, Tryz.f39.ntmps, []⟩ w (finQ Tryz.prog Tryz.f39.results.toList R) = T_q9e s1a s1l s1c s2a s2l s2c w R := by kernel_rfl
theorem T_q9e_b : Tryz.f39.body = some (bodyOf Tryz.f39) := by kernel_rfl
theorem T_q9e_s : (quietSel (bodyOf Tryz.f39) && Nat.ble 1 Tryz.f39.ntmps) = true := by kernel_rfl
theorem C_q9e {s1a : Option Addr} {s1l s1c : Nat} {s2a : Option Addr} {s2l s2c : Nat} {w : World} {R : RT} (h : T_q9e s1a s1l s1c s2a s2l s2c w R) : Calls Tryz.prog 39 #[.agg #[.slice s1a s1l s1c, .slice s2a s2l s2c]] w R :=
 calls_of_text (args := [.agg #[.slice s1a s1l s1c, .slice s2a s2l s2c]]) mixed Tryz.func39 T_q9e_b T_q9e_s (HOk_of _ _ (by rw [T_q9e_hl]; exact trivial)) (by rw [T_q9e_eq]; exact h)
def T_q7m (n8 e9 : Int) (w : World) (Kn : Bool → World → Prop) (Kp : XT) : Prop :=
 if (e9 == 0) = true then (Kn (decide (n8 > 9)) w) else (Kn false w)
def T_q2u : Exit → Option (List (Nat × Value)) := fun x => match x with | .normal => some [(24, .bool false)] | .panic _ => some [] | _ => none
def T_q52 : Nat → Bool := ksOf [19, 20, 21, 22, 23, 24]
def H_q7m : Env → World → QT → Prop := unitHook 48 T_q52 [(7, .int .i64 0), (8, .int .i64 0)] T_q2u fun l w C => match l with | [v0, v1] => T_q7m (pInt v0) (pInt v1) w (fun b11 w => C .normal [.bool b11] w) (fun ch w => C (.panic ch) [] w) | _ => False
theorem T_q7m_hl : allP (hokL Tryz.prog (hookAt []) (at_ (bodyOf Tryz.f91) [1, 1, 0, 0]) 28) = (True) := by kernel_rfl
theorem T_q7m_hok : HOk Tryz.prog (hookAt []) (at_ (bodyOf Tryz.f91) [1, 1, 0, 0]) 28 := HOk_of _ _ (by rw [T_q7m_hl]; exact trivial)
theorem T_q7m_eq (C : Conts) (n8 e9 : Int) (w : World) : vcCode Tryz.prog (hookAt []) (at_ (bodyOf Tryz.f91) [1, 1, 0, 0]) 28 ⟨[(7, .int .i64 n8), (8, .int .i64 e9)], 48, []⟩ w (unitQ T_q2u C) = T_q7m n8 e9 w (fun b12 w => C .normal [.bool b12] w) (fun ch w => C (.panic ch) [] w) := by kernel_rfl
theorem T_q8q_1_ok : UnitOk Tryz.prog H_q7m (at_ (bodyOf Tryz.f91) [1, 1, 0, 0]) 28 := unit_ok (H := (hookAt [])) (by kernel_rfl) T_q7m_hok fun l w C hk => by
  obtain ⟨v0, _, rfl, k_v0, hk_v0⟩ := kC hk
  obtain ⟨n8, rfl⟩ := kind_int k_v0
  obtain ⟨v1, _, rfl, k_v1, hk_v1⟩ := kC hk_v0
  obtain ⟨e9, rfl⟩ := kind_int k_v1
  obtain rfl := kN hk_v1
  exact T_q7m_eq C n8 e9 w
def T_q7n (e15 : Int) (b16 : Bool) (w : World) (Kn : Int → World → Prop) (Kp : XT) : Prop :=
 if b16 = true then (Kn 4 w) else (Kn e15 w)
def T_q2v : Exit → Option (List (Nat × Value)) := fun x => match x with | .normal => some [(8, .int .i64 0)] | .panic _ => some [] | _ => none
def T_q53 : Nat → Bool := ksOf [8]
def H_q7n : Env → World → QT → Prop := unitHook 48 T_q53 [(8, .int .i64 0), (24, .bool false)] T_q2v fun l w C => match l with | [v0, v1] => T_q7n (pInt v0) (pBool v1) w (fun e18 w => C .normal [.int .i64 e18] w) (fun ch w => C (.panic ch) [] w) | _ => False
theorem T_q7n_hl : allP (hokL Tryz.prog (hookAt []) (at_ (bodyOf Tryz.f91) [1, 1, 0, 1]) 29) = (True) := by kernel_rfl
theorem T_q7n_hok : HOk Tryz.prog (hookAt []) (at_ (bodyOf Tryz.f91) [1, 1, 0, 1]) 29 := HOk_of _ _ (by rw [T_q7n_hl]; exact trivial)
theorem T_q7n_eq (C : Conts) (e15 : Int) (b16 : Bool) (w : World) : vcCode Tryz.prog (hookAt []) (at_ (bodyOf Tryz.f91) [1, 1, 0, 1]) 29 ⟨[(8, .int .i64 e15), (24, .bool b16)], 48, []⟩ w (unitQ T_q2v C) = T_q7n e15 b16 w (fun e19 w => C .normal [.int .i64 e19] w) (fun ch w => C (.panic ch) [] w) := by kernel_rfl
theorem T_q8q_2_ok : UnitOk Tryz.prog H_q7n (at_ (bodyOf Tryz.f91) [1, 1, 0, 1]) 29 := unit_ok (H := (hookAt [])) (by kernel_rfl) T_q7n_hok fun l w C hk => by
  obtain ⟨v0, _, rfl, k_v0, hk_v0⟩ := kC hk
  obtain ⟨e15, rfl⟩ := kind_int k_v0
  obtain ⟨v1, _, rfl, k_v1, hk_v1⟩ := kC hk_v0
  obtain ⟨b16, rfl⟩ := kind_bool k_v1
  obtain rfl := kN hk_v1
  exact T_q7n_eq C e15 b16 w
def T_q7p (n28 e29 k30 : Int) (w : World) (Kn : Bool → World → Prop) (Kp : XT) : Prop :=
 if (e29 == 0) = true then (Kn (decide (k30 < n28)) w) else (Kn false w)
def T_q2x : Exit → Option (List (Nat × Value)) := fun x => match x with | .normal => some [(31, .bool false)] | .panic _ => some [] | _ => none
def T_q55 : Nat → Bool := ksOf [25, 26, 27, 28, 29, 30, 31]
def H_q7p : Env → World → QT → Prop := unitHook 48 T_q55 [(7, .int .i64 0), (8, .int .i64 0), (10, .int .i64 0)] T_q2x fun l w C => match l with | [v0, v1, v2] => T_q7p (pInt v0) (pInt v1) (pInt v2) w (fun b32 w => C .normal [.bool b32] w) (fun ch w => C (.panic ch) [] w) | _ => False
theorem T_q7p_hl : allP (hokL Tryz.prog (hookAt []) (at_ (bodyOf Tryz.f91) [1, 1, 1, 1, 0, 1, 0, 0, 0, 0]) 2000) = (True) := by kernel_rfl
theorem T_q7p_hok : HOk Tryz.prog (hookAt []) (at_ (bodyOf Tryz.f91) [1, 1, 1, 1, 0, 1, 0, 0, 0, 0]) 2000 := HOk_of _ _ (by rw [T_q7p_hl]; exact trivial)
theorem T_q7p_eq (C : Conts) (n28 e29 k30 : Int) (w : World) : vcCode Tryz.prog (hookAt []) (at_ (bodyOf Tryz.f91) [1, 1, 1, 1, 0, 1, 0, 0, 0, 0]) 2000 ⟨[(7, .int .i64 n28), (8, .int .i64 e29), (10, .int .i64 k30)], 48, []⟩ w (unitQ T_q2x C) = T_q7p n28 e29 k30 w (fun b33 w => C .normal [.bool b33] w) (fun ch w => C (.panic ch) [] w) := by kernel_rfl
theorem T_q8q_4_ok : UnitOk Tryz.prog H_q7p (at_ (bodyOf Tryz.f91) [1, 1, 1, 1, 0, 1, 0, 0, 0, 0]) 2000 := unit_ok (H := (hookAt [])) (by kernel_rfl) T_q7p_hok fun l w C hk => by
  obtain ⟨v0, _, rfl, k_v0, hk_v0⟩ := kC hk
  obtain ⟨n28, rfl⟩ := kind_int k_v0
  obtain ⟨v1, _, rfl, k_v1, hk_v1⟩ := kC hk_v0
  obtain ⟨e29, rfl⟩ := kind_int k_v1
  obtain ⟨v2, _, rfl, k_v2, hk_v2⟩ := kC hk_v1
  obtain ⟨k30, rfl⟩ := kind_int k_v2
  obtain rfl := kN hk_v2
  exact T_q7p_eq C n28 e29 k30 w
def T_q8q_3_body (X : Int → Int → Option Addr → Nat → Nat → Int → World → Prop) (at22 e23 : Int) (out24a : Option Addr) (out24l out24c : Nat) (k25 : Int) (b26a : Option Addr) (b26l b26c : Nat) (n27 : Int) (w : World) (Kn : Int → Int → Option Addr → Nat → Nat → World → Prop) (Kp : XT)  : Prop :=
 T_q7p n27 e23 k25 w (fun b34 w35 => if b34 = true then (Calls Tryz.prog 79 #[.slice b26a b26l b26c, .int .i64 at22] w35 (ret (fun r36 w37 => ∃ x38 x39 x40 : Int, r36 = .tuple #[.int .i64 x38, .int .i64 x39, .int .i64 x40] ∧ let w41 : World := w37.alloc (.cells #[.int .i64 x38] 3)
 runV Tryz.prog (Builtin.append_ #[24, 24] 24 #[.slice out24a out24l out24c, .slice (some (⟨w37.heap.size, 0, none⟩ : Addr)) 1 1]) w41 (fun r42 w43 => ∃ (s44a : Option Addr) (s44l s44c : Nat), r42 = .slice s44a s44l s44c ∧ X x39 x40 s44a s44l s44c (IntKind.wrap .i64 (k25 + 1)) w43) Kp) Kp)) else (Kn at22 e23 out24a out24l out24c w35)) Kp
def T_q7o (at22 e23 : Int) (out24a : Option Addr) (out24l out24c : Nat) (k25 : Int) (b26a : Option Addr) (b26l b26c : Nat) (n27 : Int) (w : World) (Kn : Int → Int → Option Addr → Nat → Nat → World → Prop) (Kp : XT) : Prop :=
 ∀ X : Int → Int → Option Addr → Nat → Nat → Int → World → Prop, (∀ (at22 e23 : Int) (out24a : Option Addr) (out24l out24c : Nat) (k25 : Int) (w : World), T_q8q_3_body X at22 e23 out24a out24l out24c k25 b26a b26l b26c n27 w Kn Kp → X at22 e23 out24a out24l out24c k25 w) → X at22 e23 out24a out24l out24c k25 w
def T_q2w : Exit → Option (List (Nat × Value)) := fun x => match x with | .normal => some [(1, .int .i64 0), (8, .int .i64 0), (9, .slice none 0 0)] | .panic _ => some [] | _ => none
def T_q54 : Nat → Bool := ksOf [1, 8, 9, 10, 11, 25, 26, 27, 28, 29, 30, 31, 32, 33, 34, 35, 36, 37, 38, 39, 40, 41, 42, 43, 44]
def H_q7o : Env → World → QT → Prop := unitHook 48 T_q54 [(1, .int .i64 0), (8, .int .i64 0), (9, .slice none 0 0), (10, .int .i64 0), (0, .slice none 0 0), (7, .int .i64 0)] T_q2w fun l w C => match l with | [v0, v1, v2, v3, v4, v5] => T_q7o (pInt v0) (pInt v1) (pA v2) (pL v2) (pC v2) (pInt v3) (pA v4) (pL v4) (pC v4) (pInt v5) w (fun at48 e49 out50a out50l out50c w => C .normal [.int .i64 at48, .int .i64 e49, .slice out50a out50l out50c] w) (fun ch w => C (.panic ch) [] w) | _ => False
theorem T_q7o_hl : allP (hokL Tryz.prog (hookAt [(2000, H_q7p)]) (at_ (bodyOf Tryz.f91) [1, 1, 1, 1, 0, 1, 0, 0]) 500) = (UnitOk Tryz.prog H_q7p (at_ (bodyOf Tryz.f91) [1, 1, 1, 1, 0, 1, 0, 0, 0, 0]) 2000 ∧ True) := by kernel_rfl
theorem T_q7o_hok : HOk Tryz.prog (hookAt [(2000, H_q7p)]) (at_ (bodyOf Tryz.f91) [1, 1, 1, 1, 0, 1, 0, 0]) 500 := HOk_of _ _ (by rw [T_q7o_hl]; exact ⟨T_q8q_4_ok, trivial⟩)
theorem T_q7o_eq (C : Conts) (X : List Value → World → Prop) (at22 e23 : Int) (out24a : Option Addr) (out24l out24c : Nat) (k25 : Int) (b26a : Option Addr) (b26l b26c : Nat) (n27 : Int) (w : World) : vcCode Tryz.prog (hookAt [(2000, H_q7p)]) (at_ (bodyOf Tryz.f91) [1, 1, 1, 1, 0, 1, 0, 0]) 500 ⟨[(1, .int .i64 at22), (8, .int .i64 e23), (9, .slice out24a out24l out24c), (10, .int .i64 k25)] ++ [(0, .slice b26a b26l b26c), (7, .int .i64 n27)], 48, []⟩ w (seqQ (fun e w => takeAll e [(1, .int .i64 0), (8, .int .i64 0), (9, .slice none 0 0), (10, .int .i64 0)] fun l => X l w) (blockQ 0 (unitQ T_q2w C))) = T_q8q_3_body (fun at22 e23 out24a out24l out24c k25 w => X [.int .i64 at22, .int .i64 e23, .slice out24a out24l out24c, .int .i64 k25] w) at22 e23 out24a out24l out24c k25 b26a b26l b26c n27 w (fun at51 e52 out53a out53l out53c w => C .normal [.int .i64 at51, .int .i64 e52, .slice out53a out53l out53c] w) (fun ch w => C (.panic ch) [] w) := by kernel_rfl
theorem T_q8q_3_ok : UnitOk Tryz.prog H_q7o (at_ (bodyOf Tryz.f91) [1, 1, 1, 1, 0, 1]) 125 := by
 have hc : at_ (bodyOf Tryz.f91) [1, 1, 1, 1, 0, 1] = .block 0 (.loop (at_ (bodyOf Tryz.f91) [1, 1, 1, 1, 0, 1, 0, 0])) := by kernel_rfl
 rw [hc]
 refine loop_unit_ok (carr := [(1, .int .i64 0), (8, .int .i64 0), (9, .slice none 0 0), (10, .int .i64 0)]) (fix := [(0, .slice none 0 0), (7, .int .i64 0)]) (ks := T_q54) (H := (hookAt [(2000, H_q7p)])) (B := fun C X l u w => match l, u with | [v0, v1, v2, v3], [v4, v5] => T_q8q_3_body (fun at22 e23 out24a out24l out24c k25 w => X [.int .i64 at22, .int .i64 e23, .slice out24a out24l out24c, .int .i64 k25] w) (pInt v0) (pInt v1) (pA v2) (pL v2) (pC v2) (pInt v3) (pA v4) (pL v4) (pC v4) (pInt v5) w (fun at54 e55 out56a out56l out56c w => C .normal [.int .i64 at54, .int .i64 e55, .slice out56a out56l out56c] w) (fun ch w => C (.panic ch) [] w) | _, _ => False) (by kernel_rfl) (by kernel_rfl) T_q7o_hok ?_ ?_
 ·intro C X l u w hl hu
  obtain ⟨v0, _, rfl, k_v0, hl_v0⟩ := kC hl
  obtain ⟨at22, rfl⟩ := kind_int k_v0
  obtain ⟨v1, _, rfl, k_v1, hl_v1⟩ := kC hl_v0
  obtain ⟨e23, rfl⟩ := kind_int k_v1
  obtain ⟨v2, _, rfl, k_v2, hl_v2⟩ := kC hl_v1
  obtain ⟨out24a, out24l, out24c, rfl⟩ := kind_slice k_v2
  obtain ⟨v3, _, rfl, k_v3, hl_v3⟩ := kC hl_v2
  obtain ⟨k25, rfl⟩ := kind_int k_v3
  obtain rfl := kN hl_v3
  obtain ⟨v4, _, rfl, k_v4, hu_v4⟩ := kC hu
  obtain ⟨b26a, b26l, b26c, rfl⟩ := kind_slice k_v4
  obtain ⟨v5, _, rfl, k_v5, hu_v5⟩ := kC hu_v4
  obtain ⟨n27, rfl⟩ := kind_int k_v5
  obtain rfl := kN hu_v5
  exact T_q7o_eq C X at22 e23 out24a out24l out24c k25 b26a b26l b26c n27 w
 ·intro l u w C hl hu
  obtain ⟨v0, _, rfl, k_v0, hl_v0⟩ := kC hl
  obtain ⟨at22, rfl⟩ := kind_int k_v0
  obtain ⟨v1, _, rfl, k_v1, hl_v1⟩ := kC hl_v0
  obtain ⟨e23, rfl⟩ := kind_int k_v1
  obtain ⟨v2, _, rfl, k_v2, hl_v2⟩ := kC hl_v1
  obtain ⟨out24a, out24l, out24c, rfl⟩ := kind_slice k_v2
  obtain ⟨v3, _, rfl, k_v3, hl_v3⟩ := kC hl_v2
  obtain ⟨k25, rfl⟩ := kind_int k_v3
  obtain rfl := kN hl_v3
  obtain ⟨v4, _, rfl, k_v4, hu_v4⟩ := kC hu
  obtain ⟨b26a, b26l, b26c, rfl⟩ := kind_slice k_v4
  obtain ⟨v5, _, rfl, k_v5, hu_v5⟩ := kC hu_v4
  obtain ⟨n27, rfl⟩ := kind_int k_v5
  obtain rfl := kN hu_v5
  constructor
  ·intro h X hX
   exact h (fun at22 e23 out24a out24l out24c k25 w => X [.int .i64 at22, .int .i64 e23, .slice out24a out24l out24c, .int .i64 k25] w) (fun at22 e23 out24a out24l out24c k25 w hb => hX [.int .i64 at22, .int .i64 e23, .slice out24a out24l out24c, .int .i64 k25] w ⟨rfl, rfl, rfl, rfl, trivial⟩ hb)
  ·intro h X hX
   exact h (fun l w => match l with | [v0, v1, v2, v3] => X (pInt v0) (pInt v1) (pA v2) (pL v2) (pC v2) (pInt v3) w | _ => True) (fun l w hl hb => by
    obtain ⟨v0, _, rfl, k_v0, hl_v0⟩ := kC hl
    obtain ⟨at22, rfl⟩ := kind_int k_v0
    obtain ⟨v1, _, rfl, k_v1, hl_v1⟩ := kC hl_v0
    obtain ⟨e23, rfl⟩ := kind_int k_v1
    obtain ⟨v2, _, rfl, k_v2, hl_v2⟩ := kC hl_v1
    obtain ⟨out24a, out24l, out24c, rfl⟩ := kind_slice k_v2
    obtain ⟨v3, _, rfl, k_v3, hl_v3⟩ := kC hl_v2
    obtain ⟨k25, rfl⟩ := kind_int k_v3
    obtain rfl := kN hl_v3
    exact hX at22 e23 out24a out24l out24c k25 w hb)
def T_q8q (b1a : Option Addr) (b1l b1c : Nat) (at2 : Int) (w : World) (R : RT) : Prop :=
 Calls Tryz.prog 79 #[.slice b1a b1l b1c, .int .i64 at2] w (ret (fun r3 w4 => ∃ x5 x6 x7 : Int, r3 = .tuple #[.int .i64 x5, .int .i64 x6, .int .i64 x7] ∧ T_q7m x5 x7 w4 (fun b13 w14 => T_q7n x7 b13 w14 (fun e20 w21 => T_q7o x6 e20 none 0 0 0 b1a b1l b1c x5 w21 (fun at57 e58 out59a out59l out59c w60 => R (.returned (.tuple #[.slice out59a out59l out59c, .int .i64 at57, .int .i64 e58])) w60) (pan R)) (pan R)) (pan R)) (pan R))
theorem T_q8q_hl : allP (hokL Tryz.prog (hookAt [(28, H_q7m), (29, H_q7n), (125, H_q7o)]) (bodyOf Tryz.f91) 1) = (UnitOk Tryz.prog H_q7m (at_ (bodyOf Tryz.f91) [1, 1, 0, 0]) 28 ∧ UnitOk Tryz.prog H_q7n (at_ (bodyOf Tryz.f91) [1, 1, 0, 1]) 29 ∧ UnitOk Tryz.prog H_q7o (at_ (bodyOf Tryz.f91) [1, 1, 1, 1, 0, 1]) 125 ∧ True) := by kernel_rfl
theorem T_q8q_eq (b1a : Option Addr) (b1l b1c : Nat) (at2 : Int) (w : World) (R : RT) : vcCode Tryz.prog (hookAt [(28, H_q7m), (29, H_q7n), (125, H_q7o)]) (bodyOf Tryz.f91) 1 ⟨argEnv [.slice b1a b1l b1c, .int .i64 at2] 0, Tryz.f91.ntmps, []⟩ w (finQ Tryz.prog Tryz.f91.results.toList R) = T_q8q b1a b1l b1c at2 w R := by kernel_rfl
theorem T_q8q_b : Tryz.f91.body = some (bodyOf Tryz.f91) := by kernel_rfl
theorem T_q8q_s : (quietSel (bodyOf Tryz.f91) && Nat.ble 2 Tryz.f91.ntmps) = true := by kernel_rfl
theorem C_q8q {b1a : Option Addr} {b1l b1c : Nat} {at2 : Int} {w : World} {R : RT} (h : T_q8q b1a b1l b1c at2 w R) : Calls Tryz.prog 91 #[.slice b1a b1l b1c, .int .i64 at2] w R :=
 calls_of_text (args := [.slice b1a b1l b1c, .int .i64 at2]) mixed Tryz.func91 T_q8q_b T_q8q_s (HOk_of _ _ (by rw [T_q8q_hl]; exact ⟨T_q8q_1_ok, T_q8q_2_ok, T_q8q_3_ok, trivial⟩)) (by rw [T_q8q_eq]; exact h)
def T_q9d (b1a : Option Addr) (b1l b1c : Nat) (w : World) (R : RT) : Prop :=
 let w2 : World := w.alloc (.cells #[.slice none 0 0, .slice none 0 0] 26)
 let w3 : World := w2.alloc (.cells #[.slice none 0 0, .slice none 0 0] 26)
 Calls Tryz.prog 91 #[.slice b1a b1l b1c, .int .i64 0] w3 (ret (fun r4 w5 => ∃ (s6a : Option Addr) (s6l s6c : Nat) (x7 x8 : Int), r4 = .tuple #[.slice s6a s6l s6c, .int .i64 x7, .int .i64 x8] ∧ (.slice s6a s6l s6c : Value).cells.size = 1 ∧ wrOk w5 (⟨w2.heap.size, 0, none⟩ : Addr) (.slice s6a s6l s6c) ∧ let w9 : World := wr w5 (⟨w2.heap.size, 0, none⟩ : Addr) (.slice s6a s6l s6c)
 if (x8 != 0) = true then ((.agg #[.slice none 0 0, .slice none 0 0] : Value).cells.size = 2 ∧ wrOk w9 (⟨w.heap.size, 0, none⟩ : Addr) (.agg #[.slice none 0 0, .slice none 0 0]) ∧ let w10 : World := wr w9 (⟨w.heap.size, 0, none⟩ : Addr) (.agg #[.slice none 0 0, .slice none 0 0])
 ∃ (s11a : Option Addr) (s11l s11c : Nat) (s12a : Option Addr) (s12l s12c : Nat), rd w10 (⟨w.heap.size, 0, none⟩ : Addr) (.agg #[.slice s11a s11l s11c, .slice s12a s12l s12c]) ∧ R (.returned (.tuple #[.agg #[.slice s11a s11l s11c, .slice s12a s12l s12c], .int .i64 x8])) w10) else (Calls Tryz.prog 91 #[.slice b1a b1l b1c, .int .i64 x7] w9 (ret (fun r13 w14 => ∃ (s15a : Option Addr) (s15l s15c : Nat) (x16 x17 : Int), r13 = .tuple #[.slice s15a s15l s15c, .int .i64 x16, .int .i64 x17] ∧ (.slice s15a s15l s15c : Value).cells.size = 1 ∧ wrOk w14 ((⟨w2.heap.size, 0, none⟩ : Addr).add 1) (.slice s15a s15l s15c) ∧ let w18 : World := wr w14 ((⟨w2.heap.size, 0, none⟩ : Addr).add 1) (.slice s15a s15l s15c)
 if (x17 != 0) = true then ((.agg #[.slice none 0 0, .slice none 0 0] : Value).cells.size = 2 ∧ wrOk w18 (⟨w.heap.size, 0, none⟩ : Addr) (.agg #[.slice none 0 0, .slice none 0 0]) ∧ let w19 : World := wr w18 (⟨w.heap.size, 0, none⟩ : Addr) (.agg #[.slice none 0 0, .slice none 0 0])
 ∃ (s20a : Option Addr) (s20l s20c : Nat) (s21a : Option Addr) (s21l s21c : Nat), rd w19 (⟨w.heap.size, 0, none⟩ : Addr) (.agg #[.slice s20a s20l s20c, .slice s21a s21l s21c]) ∧ R (.returned (.tuple #[.agg #[.slice s20a s20l s20c, .slice s21a s21l s21c], .int .i64 x17])) w19) else (if (decide (x16 < ((b1l : Nat) : Int))) = true then ((.agg #[.slice none 0 0, .slice none 0 0] : Value).cells.size = 2 ∧ wrOk w18 (⟨w.heap.size, 0, none⟩ : Addr) (.agg #[.slice none 0 0, .slice none 0 0]) ∧ let w22 : World := wr w18 (⟨w.heap.size, 0, none⟩ : Addr) (.agg #[.slice none 0 0, .slice none 0 0])
 ∃ (s23a : Option Addr) (s23l s23c : Nat) (s24a : Option Addr) (s24l s24c : Nat), rd w22 (⟨w.heap.size, 0, none⟩ : Addr) (.agg #[.slice s23a s23l s23c, .slice s24a s24l s24c]) ∧ R (.returned (.tuple #[.agg #[.slice s23a s23l s23c, .slice s24a s24l s24c], .int .i64 4])) w22) else (∃ (s25a : Option Addr) (s25l s25c : Nat) (s26a : Option Addr) (s26l s26c : Nat), rd w18 (⟨w2.heap.size, 0, none⟩ : Addr) (.agg #[.slice s25a s25l s25c, .slice s26a s26l s26c]) ∧ Calls Tryz.prog 80 #[.agg #[.slice s25a s25l s25c, .slice s26a s26l s26c]] w18 (ret (fun r27 w28 => ∃ b29 : Bool, r27 = .bool b29 ∧ if (!b29) = true then ((.agg #[.slice none 0 0, .slice none 0 0] : Value).cells.size = 2 ∧ wrOk w28 (⟨w.heap.size, 0, none⟩ : Addr) (.agg #[.slice none 0 0, .slice none 0 0]) ∧ let w30 : World := wr w28 (⟨w.heap.size, 0, none⟩ : Addr) (.agg #[.slice none 0 0, .slice none 0 0])
 ∃ (s31a : Option Addr) (s31l s31c : Nat) (s32a : Option Addr) (s32l s32c : Nat), rd w30 (⟨w.heap.size, 0, none⟩ : Addr) (.agg #[.slice s31a s31l s31c, .slice s32a s32l s32c]) ∧ R (.returned (.tuple #[.agg #[.slice s31a s31l s31c, .slice s32a s32l s32c], .int .i64 4])) w30) else (∃ (s33a : Option Addr) (s33l s33c : Nat) (s34a : Option Addr) (s34l s34c : Nat), rd w28 (⟨w2.heap.size, 0, none⟩ : Addr) (.agg #[.slice s33a s33l s33c, .slice s34a s34l s34c]) ∧ (.agg #[.slice s33a s33l s33c, .slice s34a s34l s34c] : Value).cells.size = 2 ∧ wrOk w28 (⟨w.heap.size, 0, none⟩ : Addr) (.agg #[.slice s33a s33l s33c, .slice s34a s34l s34c]) ∧ let w35 : World := wr w28 (⟨w.heap.size, 0, none⟩ : Addr) (.agg #[.slice s33a s33l s33c, .slice s34a s34l s34c])
 ∃ (s36a : Option Addr) (s36l s36c : Nat) (s37a : Option Addr) (s37l s37c : Nat), rd w35 (⟨w.heap.size, 0, none⟩ : Addr) (.agg #[.slice s36a s36l s36c, .slice s37a s37l s37c]) ∧ R (.returned (.tuple #[.agg #[.slice s36a s36l s36c, .slice s37a s37l s37c], .int .i64 0])) w35)) (pan R))))) (pan R)))) (pan R))
theorem T_q9d_hl : allP (hokL Tryz.prog (hookAt []) (bodyOf Tryz.f49) 1) = (True) := by kernel_rfl
theorem T_q9d_eq (b1a : Option Addr) (b1l b1c : Nat) (w : World) (R : RT) : vcCode Tryz.prog (hookAt []) (bodyOf Tryz.f49) 1 ⟨argEnv [.slice b1a b1l b1c] 0, Tryz.f49.ntmps, []⟩ w (finQ Tryz.prog Tryz.f49.results.toList R) = T_q9d b1a b1l b1c w R := by kernel_rfl
theorem T_q9d_b : Tryz.f49.body = some (bodyOf Tryz.f49) := by kernel_rfl
theorem T_q9d_s : (quietSel (bodyOf Tryz.f49) && Nat.ble 1 Tryz.f49.ntmps) = true := by kernel_rfl
theorem C_q9d {b1a : Option Addr} {b1l b1c : Nat} {w : World} {R : RT} (h : T_q9d b1a b1l b1c w R) : Calls Tryz.prog 49 #[.slice b1a b1l b1c] w R :=
 calls_of_text (args := [.slice b1a b1l b1c]) mixed Tryz.func49 T_q9d_b T_q9d_s (HOk_of _ _ (by rw [T_q9d_hl]; exact trivial)) (by rw [T_q9d_eq]; exact h)
def T_qab_1_body (X : Int → World → Prop) (i3 : Int) (l4a : Option Addr) (l4l l4c : Nat) (n5 : Int) (w : World) (Kn : World → Prop) (Kr : Bool → World → Prop) (Kp : XT)  : Prop :=
 if (decide (i3 < ((l4l : Nat) : Int))) = true then (0 ≤ i3 ∧ i3 < ((l4l : Nat) : Int) ∧ ∃ b6, l4a = some b6 ∧ ∃ x7 : Int, rd w (b6.add (i3.toNat * 1)) (.int .i64 x7) ∧ if (x7 == n5) = true then (Kr true w) else (X (IntKind.wrap .i64 (i3 + 1)) w)) else (Kn  w)
def T_q9i (i3 : Int) (l4a : Option Addr) (l4l l4c : Nat) (n5 : Int) (w : World) (Kn : World → Prop) (Kr : Bool → World → Prop) (Kp : XT) : Prop :=
 ∀ X : Int → World → Prop, (∀ (i3 : Int) (w : World), T_qab_1_body X i3 l4a l4l l4c n5 w Kn Kr Kp → X i3 w) → X i3 w
def T_q69 : Exit → Option (List (Nat × Value)) := fun x => match x with | .normal => some [] | .ret => some [(4, .bool false)] | .panic _ => some [] | _ => none
def T_q7q : Nat → Bool := ksOf [4, 5, 6, 7, 8, 9, 10, 11, 12, 13, 14, 15, 16, 17]
def H_q9i : Env → World → QT → Prop := unitHook 18 T_q7q [(5, .int .i64 0), (0, .slice none 0 0), (1, .int .i64 0)] T_q69 fun l w C => match l with | [v0, v1, v2] => T_q9i (pInt v0) (pA v1) (pL v1) (pC v1) (pInt v2) w (fun w => C .normal [] w) (fun b9 w => C .ret [.bool b9] w) (fun ch w => C (.panic ch) [] w) | _ => False
theorem T_q9i_hl : allP (hokL Tryz.prog (hookAt []) (at_ (bodyOf Tryz.f109) [1, 0, 1, 0, 0]) 52) = (True) := by kernel_rfl
theorem T_q9i_hok : HOk Tryz.prog (hookAt []) (at_ (bodyOf Tryz.f109) [1, 0, 1, 0, 0]) 52 := HOk_of _ _ (by rw [T_q9i_hl]; exact trivial)
theorem T_q9i_eq (C : Conts) (X : List Value → World → Prop) (i3 : Int) (l4a : Option Addr) (l4l l4c : Nat) (n5 : Int) (w : World) : vcCode Tryz.prog (hookAt []) (at_ (bodyOf Tryz.f109) [1, 0, 1, 0, 0]) 52 ⟨[(5, .int .i64 i3)] ++ [(0, .slice l4a l4l l4c), (1, .int .i64 n5)], 18, []⟩ w (seqQ (fun e w => takeAll e [(5, .int .i64 0)] fun l => X l w) (blockQ 0 (unitQ T_q69 C))) = T_qab_1_body (fun i3 w => X [.int .i64 i3] w) i3 l4a l4l l4c n5 w (fun w => C .normal [] w) (fun b10 w => C .ret [.bool b10] w) (fun ch w => C (.panic ch) [] w) := by kernel_rfl
theorem T_qab_1_ok : UnitOk Tryz.prog H_q9i (at_ (bodyOf Tryz.f109) [1, 0, 1]) 13 := by
 have hc : at_ (bodyOf Tryz.f109) [1, 0, 1] = .block 0 (.loop (at_ (bodyOf Tryz.f109) [1, 0, 1, 0, 0])) := by kernel_rfl
 rw [hc]
 refine loop_unit_ok (carr := [(5, .int .i64 0)]) (fix := [(0, .slice none 0 0), (1, .int .i64 0)]) (ks := T_q7q) (H := (hookAt [])) (B := fun C X l u w => match l, u with | [v0], [v1, v2] => T_qab_1_body (fun i3 w => X [.int .i64 i3] w) (pInt v0) (pA v1) (pL v1) (pC v1) (pInt v2) w (fun w => C .normal [] w) (fun b11 w => C .ret [.bool b11] w) (fun ch w => C (.panic ch) [] w) | _, _ => False) (by kernel_rfl) (by kernel_rfl) T_q9i_hok ?_ ?_
 ·intro C X l u w hl hu
  obtain ⟨v0, _, rfl, k_v0, hl_v0⟩ := kC hl
  obtain ⟨i3, rfl⟩ := kind_int k_v0
  obtain rfl := kN hl_v0
  obtain ⟨v1, _, rfl, k_v1, hu_v1⟩ := kC hu
  obtain ⟨l4a, l4l, l4c, rfl⟩ := kind_slice k_v1
  obtain ⟨v2, _, rfl, k_v2, hu_v2⟩ := kC hu_v1
  obtain ⟨n5, rfl⟩ := kind_int k_v2
  obtain rfl := kN hu_v2
  exact T_q9i_eq C X i3 l4a l4l l4c n5 w
 ·intro l u w C hl hu
  obtain ⟨v0, _, rfl, k_v0, hl_v0⟩ := kC hl
  obtain ⟨i3, rfl⟩ := kind_int k_v0
  obtain rfl := kN hl_v0
  obtain ⟨v1, _, rfl, k_v1, hu_v1⟩ := kC hu
  obtain ⟨l4a, l4l, l4c, rfl⟩ := kind_slice k_v1
  obtain ⟨v2, _, rfl, k_v2, hu_v2⟩ := kC hu_v1
  obtain ⟨n5, rfl⟩ := kind_int k_v2
  obtain rfl := kN hu_v2
  constructor
  ·intro h X hX
   exact h (fun i3 w => X [.int .i64 i3] w) (fun i3 w hb => hX [.int .i64 i3] w ⟨rfl, trivial⟩ hb)
  ·intro h X hX
   exact h (fun l w => match l with | [v0] => X (pInt v0) w | _ => True) (fun l w hl hb => by
    obtain ⟨v0, _, rfl, k_v0, hl_v0⟩ := kC hl
    obtain ⟨i3, rfl⟩ := kind_int k_v0
    obtain rfl := kN hl_v0
    exact hX i3 w hb)
def T_qab (l1a : Option Addr) (l1l l1c : Nat) (n2 : Int) (w : World) (R : RT) : Prop :=
 T_q9i 0 l1a l1l l1c n2 w (fun w12 => R (.returned (.bool false)) w12) (fun b13 w14 => R (.returned (.bool b13)) w14) (pan R)
theorem T_qab_hl : allP (hokL Tryz.prog (hookAt [(13, H_q9i)]) (bodyOf Tryz.f109) 1) = (UnitOk Tryz.prog H_q9i (at_ (bodyOf Tryz.f109) [1, 0, 1]) 13 ∧ True) := by kernel_rfl
theorem T_qab_eq (l1a : Option Addr) (l1l l1c : Nat) (n2 : Int) (w : World) (R : RT) : vcCode Tryz.prog (hookAt [(13, H_q9i)]) (bodyOf Tryz.f109) 1 ⟨argEnv [.slice l1a l1l l1c, .int .i64 n2] 0, Tryz.f109.ntmps, []⟩ w (finQ Tryz.prog Tryz.f109.results.toList R) = T_qab l1a l1l l1c n2 w R := by kernel_rfl
theorem T_qab_b : Tryz.f109.body = some (bodyOf Tryz.f109) := by kernel_rfl
theorem T_qab_s : (quietSel (bodyOf Tryz.f109) && Nat.ble 2 Tryz.f109.ntmps) = true := by kernel_rfl
theorem C_qab {l1a : Option Addr} {l1l l1c : Nat} {n2 : Int} {w : World} {R : RT} (h : T_qab l1a l1l l1c n2 w R) : Calls Tryz.prog 109 #[.slice l1a l1l l1c, .int .i64 n2] w R :=
 calls_of_text (args := [.slice l1a l1l l1c, .int .i64 n2]) mixed Tryz.func109 T_qab_b T_qab_s (HOk_of _ _ (by rw [T_qab_hl]; exact ⟨T_qab_1_ok, trivial⟩)) (by rw [T_qab_eq]; exact h)
def T_q8w_1_body (X : Int → World → Prop) (i4 : Int) (m5 : Addr) (w : World) (Kn : World → Prop) (Kr : Bool → World → Prop) (Kp : XT)  : Prop :=
 ∃ (s6a : Option Addr) (s6l s6c : Nat), rd w m5 (.slice s6a s6l s6c) ∧ if (decide (i4 < ((s6l : Nat) : Int))) = true then (∃ (s7a : Option Addr) (s7l s7c : Nat), rd w m5 (.slice s7a s7l s7c) ∧ 0 ≤ i4 ∧ i4 < ((s7l : Nat) : Int) ∧ ∃ b8, s7a = some b8 ∧ ∃ x9 : Int, rd w (b8.add (i4.toNat * 1)) (.int .i64 x9) ∧ if (decide (x9 < 1)) = true then (Kr false w) else (if (decide (x9 > 9)) = true then (Kr false w) else (if (decide (i4 > 0)) = true then (∃ (s10a : Option Addr) (s10l s10c : Nat), rd w m5 (.slice s10a s10l s10c) ∧ 0 ≤ (IntKind.wrap .i64 (i4 - 1) : Int) ∧ (IntKind.wrap .i64 (i4 - 1) : Int) < ((s10l : Nat) : Int) ∧ ∃ b11, s10a = some b11 ∧ ∃ x12 : Int, rd w (b11.add ((IntKind.wrap .i64 (i4 - 1) : Int).toNat * 1)) (.int .i64 x12) ∧ if (decide (x12 ≥ x9)) = true then (Kr false w) else (∃ (s13a : Option Addr) (s13l s13c : Nat), rd w (m5.add 1) (.slice s13a s13l s13c) ∧ Calls Tryz.prog 109 #[.slice s13a s13l s13c, .int .i64 x9] w (ret (fun r14 w15 => ∃ b16 : Bool, r14 = .bool b16 ∧ if b16 = true then (Kr false w15) else (X (IntKind.wrap .i64 (i4 + 1)) w15)) Kp))) else (∃ (s17a : Option Addr) (s17l s17c : Nat), rd w (m5.add 1) (.slice s17a s17l s17c) ∧ Calls Tryz.prog 109 #[.slice s17a s17l s17c, .int .i64 x9] w (ret (fun r18 w19 => ∃ b20 : Bool, r18 = .bool b20 ∧ if b20 = true then (Kr false w19) else (X (IntKind.wrap .i64 (i4 + 1)) w19)) Kp))))) else (Kn  w)
def T_q7r (i4 : Int) (m5 : Addr) (w : World) (Kn : World → Prop) (Kr : Bool → World → Prop) (Kp : XT) : Prop :=
 ∀ X : Int → World → Prop, (∀ (i4 : Int) (w : World), T_q8w_1_body X i4 m5 w Kn Kr Kp → X i4 w) → X i4 w
def T_q31 : Exit → Option (List (Nat × Value)) := fun x => match x with | .normal => some [] | .ret => some [(2, .bool false)] | .panic _ => some [] | _ => none
def T_q5b : Nat → Bool := ksOf [2, 3, 4, 7, 8, 9, 10, 11, 12, 13, 14, 15, 16, 17, 18, 19, 20, 21, 22, 23, 24, 25, 26, 27, 28, 29, 30, 31, 32, 33, 34, 35, 36, 37, 38, 39, 40, 41, 42, 43, 44]
def H_q7r : Env → World → QT → Prop := unitHook 81 T_q5b [(3, .int .i64 0), (1, .pointer (some ⟨0, 0, none⟩))] T_q31 fun l w C => match l with | [v0, v1] => T_q7r (pInt v0) (pAddr v1) w (fun w => C .normal [] w) (fun b22 w => C .ret [.bool b22] w) (fun ch w => C (.panic ch) [] w) | _ => False
theorem T_q7r_hl : allP (hokL Tryz.prog (hookAt []) (at_ (bodyOf Tryz.f86) [1, 0, 1, 0, 0]) 52) = (True) := by kernel_rfl
theorem T_q7r_hok : HOk Tryz.prog (hookAt []) (at_ (bodyOf Tryz.f86) [1, 0, 1, 0, 0]) 52 := HOk_of _ _ (by rw [T_q7r_hl]; exact trivial)
theorem T_q7r_eq (C : Conts) (X : List Value → World → Prop) (i4 : Int) (m5 : Addr) (w : World) : vcCode Tryz.prog (hookAt []) (at_ (bodyOf Tryz.f86) [1, 0, 1, 0, 0]) 52 ⟨[(3, .int .i64 i4)] ++ [(1, .pointer (some m5))], 81, []⟩ w (seqQ (fun e w => takeAll e [(3, .int .i64 0)] fun l => X l w) (blockQ 0 (unitQ T_q31 C))) = T_q8w_1_body (fun i4 w => X [.int .i64 i4] w) i4 m5 w (fun w => C .normal [] w) (fun b23 w => C .ret [.bool b23] w) (fun ch w => C (.panic ch) [] w) := by kernel_rfl
theorem T_q8w_1_ok : UnitOk Tryz.prog H_q7r (at_ (bodyOf Tryz.f86) [1, 0, 1]) 13 := by
 have hc : at_ (bodyOf Tryz.f86) [1, 0, 1] = .block 0 (.loop (at_ (bodyOf Tryz.f86) [1, 0, 1, 0, 0])) := by kernel_rfl
 rw [hc]
 refine loop_unit_ok (carr := [(3, .int .i64 0)]) (fix := [(1, .pointer (some ⟨0, 0, none⟩))]) (ks := T_q5b) (H := (hookAt [])) (B := fun C X l u w => match l, u with | [v0], [v1] => T_q8w_1_body (fun i4 w => X [.int .i64 i4] w) (pInt v0) (pAddr v1) w (fun w => C .normal [] w) (fun b24 w => C .ret [.bool b24] w) (fun ch w => C (.panic ch) [] w) | _, _ => False) (by kernel_rfl) (by kernel_rfl) T_q7r_hok ?_ ?_
 ·intro C X l u w hl hu
  obtain ⟨v0, _, rfl, k_v0, hl_v0⟩ := kC hl
  obtain ⟨i4, rfl⟩ := kind_int k_v0
  obtain rfl := kN hl_v0
  obtain ⟨v1, _, rfl, k_v1, hu_v1⟩ := kC hu
  obtain ⟨m5, rfl⟩ := kind_addr k_v1
  obtain rfl := kN hu_v1
  exact T_q7r_eq C X i4 m5 w
 ·intro l u w C hl hu
  obtain ⟨v0, _, rfl, k_v0, hl_v0⟩ := kC hl
  obtain ⟨i4, rfl⟩ := kind_int k_v0
  obtain rfl := kN hl_v0
  obtain ⟨v1, _, rfl, k_v1, hu_v1⟩ := kC hu
  obtain ⟨m5, rfl⟩ := kind_addr k_v1
  obtain rfl := kN hu_v1
  constructor
  ·intro h X hX
   exact h (fun i4 w => X [.int .i64 i4] w) (fun i4 w hb => hX [.int .i64 i4] w ⟨rfl, trivial⟩ hb)
  ·intro h X hX
   exact h (fun l w => match l with | [v0] => X (pInt v0) w | _ => True) (fun l w hl hb => by
    obtain ⟨v0, _, rfl, k_v0, hl_v0⟩ := kC hl
    obtain ⟨i4, rfl⟩ := kind_int k_v0
    obtain rfl := kN hl_v0
    exact hX i4 w hb)
def T_q8w_2_body (X : Int → World → Prop) (i26 : Int) (m27 : Addr) (w : World) (Kn : World → Prop) (Kr : Bool → World → Prop) (Kp : XT)  : Prop :=
 ∃ (s28a : Option Addr) (s28l s28c : Nat), rd w (m27.add 1) (.slice s28a s28l s28c) ∧ if (decide (i26 < ((s28l : Nat) : Int))) = true then (∃ (s29a : Option Addr) (s29l s29c : Nat), rd w (m27.add 1) (.slice s29a s29l s29c) ∧ 0 ≤ i26 ∧ i26 < ((s29l : Nat) : Int) ∧ ∃ b30, s29a = some b30 ∧ ∃ x31 : Int, rd w (b30.add (i26.toNat * 1)) (.int .i64 x31) ∧ if (decide (x31 < 1)) = true then (Kr false w) else (if (decide (x31 > 9)) = true then (Kr false w) else (if (decide (i26 > 0)) = true then (∃ (s32a : Option Addr) (s32l s32c : Nat), rd w (m27.add 1) (.slice s32a s32l s32c) ∧ 0 ≤ (IntKind.wrap .i64 (i26 - 1) : Int) ∧ (IntKind.wrap .i64 (i26 - 1) : Int) < ((s32l : Nat) : Int) ∧ ∃ b33, s32a = some b33 ∧ ∃ x34 : Int, rd w (b33.add ((IntKind.wrap .i64 (i26 - 1) : Int).toNat * 1)) (.int .i64 x34) ∧ if (decide (x34 ≥ x31)) = true then (Kr false w) else (X (IntKind.wrap .i64 (i26 + 1)) w)) else (X (IntKind.wrap .i64 (i26 + 1)) w)))) else (Kn  w)
def T_q7s (i26 : Int) (m27 : Addr) (w : World) (Kn : World → Prop) (Kr : Bool → World → Prop) (Kp : XT) : Prop :=
 ∀ X : Int → World → Prop, (∀ (i26 : Int) (w : World), T_q8w_2_body X i26 m27 w Kn Kr Kp → X i26 w) → X i26 w
def T_q32 : Exit → Option (List (Nat × Value)) := fun x => match x with | .normal => some [] | .ret => some [(2, .bool false)] | .panic _ => some [] | _ => none
def T_q5c : Nat → Bool := ksOf [2, 5, 6, 45, 46, 47, 48, 49, 50, 51, 52, 53, 54, 55, 56, 57, 58, 59, 60, 61, 62, 63, 64, 65, 66, 67, 68, 69, 70, 71, 72, 73, 74, 75, 76]
def H_q7s : Env → World → QT → Prop := unitHook 81 T_q5c [(5, .int .i64 0), (1, .pointer (some ⟨0, 0, none⟩))] T_q32 fun l w C => match l with | [v0, v1] => T_q7s (pInt v0) (pAddr v1) w (fun w => C .normal [] w) (fun b36 w => C .ret [.bool b36] w) (fun ch w => C (.panic ch) [] w) | _ => False
theorem T_q7s_hl : allP (hokL Tryz.prog (hookAt []) (at_ (bodyOf Tryz.f86) [1, 1, 0, 1, 0, 0]) 116) = (True) := by kernel_rfl
theorem T_q7s_hok : HOk Tryz.prog (hookAt []) (at_ (bodyOf Tryz.f86) [1, 1, 0, 1, 0, 0]) 116 := HOk_of _ _ (by rw [T_q7s_hl]; exact trivial)
theorem T_q7s_eq (C : Conts) (X : List Value → World → Prop) (i26 : Int) (m27 : Addr) (w : World) : vcCode Tryz.prog (hookAt []) (at_ (bodyOf Tryz.f86) [1, 1, 0, 1, 0, 0]) 116 ⟨[(5, .int .i64 i26)] ++ [(1, .pointer (some m27))], 81, []⟩ w (seqQ (fun e w => takeAll e [(5, .int .i64 0)] fun l => X l w) (blockQ 2 (unitQ T_q32 C))) = T_q8w_2_body (fun i26 w => X [.int .i64 i26] w) i26 m27 w (fun w => C .normal [] w) (fun b37 w => C .ret [.bool b37] w) (fun ch w => C (.panic ch) [] w) := by kernel_rfl
theorem T_q8w_2_ok : UnitOk Tryz.prog H_q7s (at_ (bodyOf Tryz.f86) [1, 1, 0, 1]) 29 := by
 have hc : at_ (bodyOf Tryz.f86) [1, 1, 0, 1] = .block 2 (.loop (at_ (bodyOf Tryz.f86) [1, 1, 0, 1, 0, 0])) := by kernel_rfl
 rw [hc]
 refine loop_unit_ok (carr := [(5, .int .i64 0)]) (fix := [(1, .pointer (some ⟨0, 0, none⟩))]) (ks := T_q5c) (H := (hookAt [])) (B := fun C X l u w => match l, u with | [v0], [v1] => T_q8w_2_body (fun i26 w => X [.int .i64 i26] w) (pInt v0) (pAddr v1) w (fun w => C .normal [] w) (fun b38 w => C .ret [.bool b38] w) (fun ch w => C (.panic ch) [] w) | _, _ => False) (by kernel_rfl) (by kernel_rfl) T_q7s_hok ?_ ?_
 ·intro C X l u w hl hu
  obtain ⟨v0, _, rfl, k_v0, hl_v0⟩ := kC hl
  obtain ⟨i26, rfl⟩ := kind_int k_v0
  obtain rfl := kN hl_v0
  obtain ⟨v1, _, rfl, k_v1, hu_v1⟩ := kC hu
  obtain ⟨m27, rfl⟩ := kind_addr k_v1
  obtain rfl := kN hu_v1
  exact T_q7s_eq C X i26 m27 w
 ·intro l u w C hl hu
  obtain ⟨v0, _, rfl, k_v0, hl_v0⟩ := kC hl
  obtain ⟨i26, rfl⟩ := kind_int k_v0
  obtain rfl := kN hl_v0
  obtain ⟨v1, _, rfl, k_v1, hu_v1⟩ := kC hu
  obtain ⟨m27, rfl⟩ := kind_addr k_v1
  obtain rfl := kN hu_v1
  constructor
  ·intro h X hX
   exact h (fun i26 w => X [.int .i64 i26] w) (fun i26 w hb => hX [.int .i64 i26] w ⟨rfl, trivial⟩ hb)
  ·intro h X hX
   exact h (fun l w => match l with | [v0] => X (pInt v0) w | _ => True) (fun l w hl hb => by
    obtain ⟨v0, _, rfl, k_v0, hl_v0⟩ := kC hl
    obtain ⟨i26, rfl⟩ := kind_int k_v0
    obtain rfl := kN hl_v0
    exact hX i26 w hb)
def T_q8w (s1a : Option Addr) (s1l s1c : Nat) (s2a : Option Addr) (s2l s2c : Nat) (w : World) (R : RT) : Prop :=
 let w3 : World := w.alloc (.cells #[.slice s1a s1l s1c, .slice s2a s2l s2c] 26)
 T_q7r 0 (⟨w.heap.size, 0, none⟩ : Addr) w3 (fun w25 => T_q7s 0 (⟨w.heap.size, 0, none⟩ : Addr) w25 (fun w39 => ∃ (s40a : Option Addr) (s40l s40c : Nat), rd w39 (⟨w.heap.size, 0, none⟩ : Addr) (.slice s40a s40l s40c) ∧ R (.returned (.bool (decide (((s40l : Nat) : Int) > 0)))) w39) (fun b41 w42 => R (.returned (.bool b41)) w42) (pan R)) (fun b43 w44 => R (.returned (.bool b43)) w44) (pan R)
theorem T_q8w_hl : allP (hokL Tryz.prog (hookAt [(13, H_q7r), (29, H_q7s)]) (bodyOf Tryz.f86) 1) = (UnitOk Tryz.prog H_q7r (at_ (bodyOf Tryz.f86) [1, 0, 1]) 13 ∧ UnitOk Tryz.prog H_q7s (at_ (bodyOf Tryz.f86) [1, 1, 0, 1]) 29 ∧ True) := by kernel_rfl
theorem T_q8w_eq (s1a : Option Addr) (s1l s1c : Nat) (s2a : Option Addr) (s2l s2c : Nat) (w : World) (R : RT) : vcCode Tryz.prog (hookAt [(13, H_q7r), (29, H_q7s)]) (bodyOf Tryz.f86) 1 ⟨argEnv [.agg #[.slice s1a s1l s1c, .slice s2a s2l s2c]] 0, Tryz.f86.ntmps, []⟩ w (finQ Tryz.prog Tryz.f86.results.toList R) = T_q8w s1a s1l s1c s2a s2l s2c w R := by kernel_rfl
theorem T_q8w_b : Tryz.f86.body = some (bodyOf Tryz.f86) := by kernel_rfl
theorem T_q8w_s : (quietSel (bodyOf Tryz.f86) && Nat.ble 1 Tryz.f86.ntmps) = true := by kernel_rfl
theorem C_q8w {s1a : Option Addr} {s1l s1c : Nat} {s2a : Option Addr} {s2l s2c : Nat} {w : World} {R : RT} (h : T_q8w s1a s1l s1c s2a s2l s2c w R) : Calls Tryz.prog 86 #[.agg #[.slice s1a s1l s1c, .slice s2a s2l s2c]] w R :=
 calls_of_text (args := [.agg #[.slice s1a s1l s1c, .slice s2a s2l s2c]]) mixed Tryz.func86 T_q8w_b T_q8w_s (HOk_of _ _ (by rw [T_q8w_hl]; exact ⟨T_q8w_1_ok, T_q8w_2_ok, trivial⟩)) (by rw [T_q8w_eq]; exact h)
def T_q9x (b1a : Option Addr) (b1l b1c : Nat) (n2 : Int) (w : World) (R : RT) : Prop :=
 Calls Tryz.prog 88 #[.int .i64 n2] w (ret (fun r3 w4 => ∃ (s5a : Option Addr) (s5l s5c : Nat) (x6 : Int), r3 = .tuple #[.slice s5a s5l s5c, .int .i64 x6] ∧ runV Tryz.prog (Builtin.append_ #[27, 27] 27 #[.slice b1a b1l b1c, .slice s5a s5l s5c]) w4 (fun r7 w8 => ∃ (s9a : Option Addr) (s9l s9c : Nat), r7 = .slice s9a s9l s9c ∧ R (.returned (.slice s9a s9l s9c)) w8) (pan R)) (pan R))
theorem T_q9x_hl : allP (hokL Tryz.prog (hookAt []) (bodyOf Tryz.f87) 1) = (True) := by kernel_rfl
theorem T_q9x_eq (b1a : Option Addr) (b1l b1c : Nat) (n2 : Int) (w : World) (R : RT) : vcCode Tryz.prog (hookAt []) (bodyOf Tryz.f87) 1 ⟨argEnv [.slice b1a b1l b1c, .int .i64 n2] 0, Tryz.f87.ntmps, []⟩ w (finQ Tryz.prog Tryz.f87.results.toList R) = T_q9x b1a b1l b1c n2 w R := by kernel_rfl
theorem T_q9x_b : Tryz.f87.body = some (bodyOf Tryz.f87) := by kernel_rfl
theorem T_q9x_s : (quietSel (bodyOf Tryz.f87) && Nat.ble 2 Tryz.f87.ntmps) = true := by kernel_rfl
theorem C_q9x {b1a : Option Addr} {b1l b1c : Nat} {n2 : Int} {w : World} {R : RT} (h : T_q9x b1a b1l b1c n2 w R) : Calls Tryz.prog 87 #[.slice b1a b1l b1c, .int .i64 n2] w R :=
 calls_of_text (args := [.slice b1a b1l b1c, .int .i64 n2]) mixed Tryz.func87 T_q9x_b T_q9x_s (HOk_of _ _ (by rw [T_q9x_hl]; exact trivial)) (by rw [T_q9x_eq]; exact h)
def T_q9w_1_body (X : Option Addr → Nat → Nat → Int → World → Prop) (out14a : Option Addr) (out14l out14c : Nat) (i15 : Int) (m16 : Addr) (w : World) (Kn : Option Addr → Nat → Nat → World → Prop) (Kp : XT)  : Prop :=
 ∃ (s17a : Option Addr) (s17l s17c : Nat), rd w m16 (.slice s17a s17l s17c) ∧ if (decide (i15 < ((s17l : Nat) : Int))) = true then (∃ (s18a : Option Addr) (s18l s18c : Nat), rd w m16 (.slice s18a s18l s18c) ∧ 0 ≤ i15 ∧ i15 < ((s18l : Nat) : Int) ∧ ∃ b19, s18a = some b19 ∧ ∃ x20 : Int, rd w (b19.add (i15.toNat * 1)) (.int .i64 x20) ∧ Calls Tryz.prog 87 #[.slice out14a out14l out14c, .int .i64 x20] w (ret (fun r21 w22 => ∃ (s23a : Option Addr) (s23l s23c : Nat), r21 = .slice s23a s23l s23c ∧ X s23a s23l s23c (IntKind.wrap .i64 (i15 + 1)) w22) Kp)) else (Kn out14a out14l out14c w)
def T_q8u (out14a : Option Addr) (out14l out14c : Nat) (i15 : Int) (m16 : Addr) (w : World) (Kn : Option Addr → Nat → Nat → World → Prop) (Kp : XT) : Prop :=
 ∀ X : Option Addr → Nat → Nat → Int → World → Prop, (∀ (out14a : Option Addr) (out14l out14c : Nat) (i15 : Int) (w : World), T_q9w_1_body X out14a out14l out14c i15 m16 w Kn Kp → X out14a out14l out14c i15 w) → X out14a out14l out14c i15 w
def T_q59 : Exit → Option (List (Nat × Value)) := fun x => match x with | .normal => some [(4, .slice none 0 0)] | .panic _ => some [] | _ => none
def T_q79 : Nat → Bool := ksOf [4, 5, 15, 16, 17, 18, 19, 20, 21, 22, 23, 24, 25, 26, 27, 28]
def H_q8u : Env → World → QT → Prop := unitHook 49 T_q79 [(4, .slice none 0 0), (5, .int .i64 0), (1, .pointer (some ⟨0, 0, none⟩))] T_q59 fun l w C => match l with | [v0, v1, v2] => T_q8u (pA v0) (pL v0) (pC v0) (pInt v1) (pAddr v2) w (fun out25a out25l out25c w => C .normal [.slice out25a out25l out25c] w) (fun ch w => C (.panic ch) [] w) | _ => False
theorem T_q8u_hl : allP (hokL Tryz.prog (hookAt []) (at_ (bodyOf Tryz.f42) [1, 1, 1, 0, 1, 0, 0]) 244) = (True) := by kernel_rfl
theorem T_q8u_hok : HOk Tryz.prog (hookAt []) (at_ (bodyOf Tryz.f42) [1, 1, 1, 0, 1, 0, 0]) 244 := HOk_of _ _ (by rw [T_q8u_hl]; exact trivial)
theorem T_q8u_eq (C : Conts) (X : List Value → World → Prop) (out14a : Option Addr) (out14l out14c : Nat) (i15 : Int) (m16 : Addr) (w : World) : vcCode Tryz.prog (hookAt []) (at_ (bodyOf Tryz.f42) [1, 1, 1, 0, 1, 0, 0]) 244 ⟨[(4, .slice out14a out14l out14c), (5, .int .i64 i15)] ++ [(1, .pointer (some m16))], 49, []⟩ w (seqQ (fun e w => takeAll e [(4, .slice none 0 0), (5, .int .i64 0)] fun l => X l w) (blockQ 0 (unitQ T_q59 C))) = T_q9w_1_body (fun out14a out14l out14c i15 w => X [.slice out14a out14l out14c, .int .i64 i15] w) out14a out14l out14c i15 m16 w (fun out26a out26l out26c w => C .normal [.slice out26a out26l out26c] w) (fun ch w => C (.panic ch) [] w) := by kernel_rfl
theorem T_q9w_1_ok : UnitOk Tryz.prog H_q8u (at_ (bodyOf Tryz.f42) [1, 1, 1, 0, 1]) 61 := by
 have hc : at_ (bodyOf Tryz.f42) [1, 1, 1, 0, 1] = .block 0 (.loop (at_ (bodyOf Tryz.f42) [1, 1, 1, 0, 1, 0, 0])) := by kernel_rfl
 rw [hc]
 refine loop_unit_ok (carr := [(4, .slice none 0 0), (5, .int .i64 0)]) (fix := [(1, .pointer (some ⟨0, 0, none⟩))]) (ks := T_q79) (H := (hookAt [])) (B := fun C X l u w => match l, u with | [v0, v1], [v2] => T_q9w_1_body (fun out14a out14l out14c i15 w => X [.slice out14a out14l out14c, .int .i64 i15] w) (pA v0) (pL v0) (pC v0) (pInt v1) (pAddr v2) w (fun out27a out27l out27c w => C .normal [.slice out27a out27l out27c] w) (fun ch w => C (.panic ch) [] w) | _, _ => False) (by kernel_rfl) (by kernel_rfl) T_q8u_hok ?_ ?_
 ·intro C X l u w hl hu
  obtain ⟨v0, _, rfl, k_v0, hl_v0⟩ := kC hl
  obtain ⟨out14a, out14l, out14c, rfl⟩ := kind_slice k_v0
  obtain ⟨v1, _, rfl, k_v1, hl_v1⟩ := kC hl_v0
  obtain ⟨i15, rfl⟩ := kind_int k_v1
  obtain rfl := kN hl_v1
  obtain ⟨v2, _, rfl, k_v2, hu_v2⟩ := kC hu
  obtain ⟨m16, rfl⟩ := kind_addr k_v2
  obtain rfl := kN hu_v2
  exact T_q8u_eq C X out14a out14l out14c i15 m16 w
 ·intro l u w C hl hu
  obtain ⟨v0, _, rfl, k_v0, hl_v0⟩ := kC hl
  obtain ⟨out14a, out14l, out14c, rfl⟩ := kind_slice k_v0
  obtain ⟨v1, _, rfl, k_v1, hl_v1⟩ := kC hl_v0
  obtain ⟨i15, rfl⟩ := kind_int k_v1
  obtain rfl := kN hl_v1
  obtain ⟨v2, _, rfl, k_v2, hu_v2⟩ := kC hu
  obtain ⟨m16, rfl⟩ := kind_addr k_v2
  obtain rfl := kN hu_v2
  constructor
  ·intro h X hX
   exact h (fun out14a out14l out14c i15 w => X [.slice out14a out14l out14c, .int .i64 i15] w) (fun out14a out14l out14c i15 w hb => hX [.slice out14a out14l out14c, .int .i64 i15] w ⟨rfl, rfl, trivial⟩ hb)
  ·intro h X hX
   exact h (fun l w => match l with | [v0, v1] => X (pA v0) (pL v0) (pC v0) (pInt v1) w | _ => True) (fun l w hl hb => by
    obtain ⟨v0, _, rfl, k_v0, hl_v0⟩ := kC hl
    obtain ⟨out14a, out14l, out14c, rfl⟩ := kind_slice k_v0
    obtain ⟨v1, _, rfl, k_v1, hl_v1⟩ := kC hl_v0
    obtain ⟨i15, rfl⟩ := kind_int k_v1
    obtain rfl := kN hl_v1
    exact hX out14a out14l out14c i15 w hb)
def T_q9w_2_body (X : Option Addr → Nat → Nat → Int → World → Prop) (out34a : Option Addr) (out34l out34c : Nat) (i35 : Int) (m36 : Addr) (w : World) (Kn : Option Addr → Nat → Nat → World → Prop) (Kp : XT)  : Prop :=
 ∃ (s37a : Option Addr) (s37l s37c : Nat), rd w (m36.add 1) (.slice s37a s37l s37c) ∧ if (decide (i35 < ((s37l : Nat) : Int))) = true then (∃ (s38a : Option Addr) (s38l s38c : Nat), rd w (m36.add 1) (.slice s38a s38l s38c) ∧ 0 ≤ i35 ∧ i35 < ((s38l : Nat) : Int) ∧ ∃ b39, s38a = some b39 ∧ ∃ x40 : Int, rd w (b39.add (i35.toNat * 1)) (.int .i64 x40) ∧ Calls Tryz.prog 87 #[.slice out34a out34l out34c, .int .i64 x40] w (ret (fun r41 w42 => ∃ (s43a : Option Addr) (s43l s43c : Nat), r41 = .slice s43a s43l s43c ∧ X s43a s43l s43c (IntKind.wrap .i64 (i35 + 1)) w42) Kp)) else (Kn out34a out34l out34c w)
def T_q8v (out34a : Option Addr) (out34l out34c : Nat) (i35 : Int) (m36 : Addr) (w : World) (Kn : Option Addr → Nat → Nat → World → Prop) (Kp : XT) : Prop :=
 ∀ X : Option Addr → Nat → Nat → Int → World → Prop, (∀ (out34a : Option Addr) (out34l out34c : Nat) (i35 : Int) (w : World), T_q9w_2_body X out34a out34l out34c i35 m36 w Kn Kp → X out34a out34l out34c i35 w) → X out34a out34l out34c i35 w
def T_q5a : Exit → Option (List (Nat × Value)) := fun x => match x with | .normal => some [(4, .slice none 0 0)] | .panic _ => some [] | _ => none
def T_q7a : Nat → Bool := ksOf [4, 6, 34, 35, 36, 37, 38, 39, 40, 41, 42, 43, 44, 45, 46, 47]
def H_q8v : Env → World → QT → Prop := unitHook 49 T_q7a [(4, .slice none 0 0), (6, .int .i64 0), (1, .pointer (some ⟨0, 0, none⟩))] T_q5a fun l w C => match l with | [v0, v1, v2] => T_q8v (pA v0) (pL v0) (pC v0) (pInt v1) (pAddr v2) w (fun out45a out45l out45c w => C .normal [.slice out45a out45l out45c] w) (fun ch w => C (.panic ch) [] w) | _ => False
theorem T_q8v_hl : allP (hokL Tryz.prog (hookAt []) (at_ (bodyOf Tryz.f42) [1, 1, 1, 1, 1, 0, 1, 0, 0]) 1012) = (True) := by kernel_rfl
theorem T_q8v_hok : HOk Tryz.prog (hookAt []) (at_ (bodyOf Tryz.f42) [1, 1, 1, 1, 1, 0, 1, 0, 0]) 1012 := HOk_of _ _ (by rw [T_q8v_hl]; exact trivial)
theorem T_q8v_eq (C : Conts) (X : List Value → World → Prop) (out34a : Option Addr) (out34l out34c : Nat) (i35 : Int) (m36 : Addr) (w : World) : vcCode Tryz.prog (hookAt []) (at_ (bodyOf Tryz.f42) [1, 1, 1, 1, 1, 0, 1, 0, 0]) 1012 ⟨[(4, .slice out34a out34l out34c), (6, .int .i64 i35)] ++ [(1, .pointer (some m36))], 49, []⟩ w (seqQ (fun e w => takeAll e [(4, .slice none 0 0), (6, .int .i64 0)] fun l => X l w) (blockQ 2 (unitQ T_q5a C))) = T_q9w_2_body (fun out34a out34l out34c i35 w => X [.slice out34a out34l out34c, .int .i64 i35] w) out34a out34l out34c i35 m36 w (fun out46a out46l out46c w => C .normal [.slice out46a out46l out46c] w) (fun ch w => C (.panic ch) [] w) := by kernel_rfl
theorem T_q9w_2_ok : UnitOk Tryz.prog H_q8v (at_ (bodyOf Tryz.f42) [1, 1, 1, 1, 1, 0, 1]) 253 := by
 have hc : at_ (bodyOf Tryz.f42) [1, 1, 1, 1, 1, 0, 1] = .block 2 (.loop (at_ (bodyOf Tryz.f42) [1, 1, 1, 1, 1, 0, 1, 0, 0])) := by kernel_rfl
 rw [hc]
 refine loop_unit_ok (carr := [(4, .slice none 0 0), (6, .int .i64 0)]) (fix := [(1, .pointer (some ⟨0, 0, none⟩))]) (ks := T_q7a) (H := (hookAt [])) (B := fun C X l u w => match l, u with | [v0, v1], [v2] => T_q9w_2_body (fun out34a out34l out34c i35 w => X [.slice out34a out34l out34c, .int .i64 i35] w) (pA v0) (pL v0) (pC v0) (pInt v1) (pAddr v2) w (fun out47a out47l out47c w => C .normal [.slice out47a out47l out47c] w) (fun ch w => C (.panic ch) [] w) | _, _ => False) (by kernel_rfl) (by kernel_rfl) T_q8v_hok ?_ ?_
 ·intro C X l u w hl hu
  obtain ⟨v0, _, rfl, k_v0, hl_v0⟩ := kC hl
  obtain ⟨out34a, out34l, out34c, rfl⟩ := kind_slice k_v0
  obtain ⟨v1, _, rfl, k_v1, hl_v1⟩ := kC hl_v0
  obtain ⟨i35, rfl⟩ := kind_int k_v1
  obtain rfl := kN hl_v1
  obtain ⟨v2, _, rfl, k_v2, hu_v2⟩ := kC hu
  obtain ⟨m36, rfl⟩ := kind_addr k_v2
  obtain rfl := kN hu_v2
  exact T_q8v_eq C X out34a out34l out34c i35 m36 w
 ·intro l u w C hl hu
  obtain ⟨v0, _, rfl, k_v0, hl_v0⟩ := kC hl
  obtain ⟨out34a, out34l, out34c, rfl⟩ := kind_slice k_v0
  obtain ⟨v1, _, rfl, k_v1, hl_v1⟩ := kC hl_v0
  obtain ⟨i35, rfl⟩ := kind_int k_v1
  obtain rfl := kN hl_v1
  obtain ⟨v2, _, rfl, k_v2, hu_v2⟩ := kC hu
  obtain ⟨m36, rfl⟩ := kind_addr k_v2
  obtain rfl := kN hu_v2
  constructor
  ·intro h X hX
   exact h (fun out34a out34l out34c i35 w => X [.slice out34a out34l out34c, .int .i64 i35] w) (fun out34a out34l out34c i35 w hb => hX [.slice out34a out34l out34c, .int .i64 i35] w ⟨rfl, rfl, trivial⟩ hb)
  ·intro h X hX
   exact h (fun l w => match l with | [v0, v1] => X (pA v0) (pL v0) (pC v0) (pInt v1) w | _ => True) (fun l w hl hb => by
    obtain ⟨v0, _, rfl, k_v0, hl_v0⟩ := kC hl
    obtain ⟨out34a, out34l, out34c, rfl⟩ := kind_slice k_v0
    obtain ⟨v1, _, rfl, k_v1, hl_v1⟩ := kC hl_v0
    obtain ⟨i35, rfl⟩ := kind_int k_v1
    obtain rfl := kN hl_v1
    exact hX out34a out34l out34c i35 w hb)
def T_q9w (s1a : Option Addr) (s1l s1c : Nat) (s2a : Option Addr) (s2l s2c : Nat) (w : World) (R : RT) : Prop :=
 let w3 : World := w.alloc (.cells #[.slice s1a s1l s1c, .slice s2a s2l s2c] 26)
 ∃ (s4a : Option Addr) (s4l s4c : Nat) (s5a : Option Addr) (s5l s5c : Nat), rd w3 (⟨w.heap.size, 0, none⟩ : Addr) (.agg #[.slice s4a s4l s4c, .slice s5a s5l s5c]) ∧ Calls Tryz.prog 86 #[.agg #[.slice s4a s4l s4c, .slice s5a s5l s5c]] w3 (ret (fun r6 w7 => ∃ b8 : Bool, r6 = .bool b8 ∧ if (!b8) = true then (R (.returned (.tuple #[.slice none 0 0, .int .i64 2])) w7) else (let w9 : World := w7.alloc (.cells #[] 5)
 ∃ (s10a : Option Addr) (s10l s10c : Nat), rd w9 (⟨w.heap.size, 0, none⟩ : Addr) (.slice s10a s10l s10c) ∧ Calls Tryz.prog 87 #[.slice (some (⟨w7.heap.size, 0, none⟩ : Addr)) 0 0, .int .i64 ((s10l : Nat) : Int)] w9 (ret (fun r11 w12 => ∃ (s13a : Option Addr) (s13l s13c : Nat), r11 = .slice s13a s13l s13c ∧ T_q8u s13a s13l s13c 0 (⟨w.heap.size, 0, none⟩ : Addr) w12 (fun out28a out28l out28c w29 => ∃ (s30a : Option Addr) (s30l s30c : Nat), rd w29 ((⟨w.heap.size, 0, none⟩ : Addr).add 1) (.slice s30a s30l s30c) ∧ Calls Tryz.prog 87 #[.slice out28a out28l out28c, .int .i64 ((s30l : Nat) : Int)] w29 (ret (fun r31 w32 => ∃ (s33a : Option Addr) (s33l s33c : Nat), r31 = .slice s33a s33l s33c ∧ T_q8v s33a s33l s33c 0 (⟨w.heap.size, 0, none⟩ : Addr) w32 (fun out48a out48l out48c w49 => R (.returned (.tuple #[.slice out48a out48l out48c, .int .i64 0])) w49) (pan R)) (pan R))) (pan R)) (pan R)))) (pan R))
theorem T_q9w_hl : allP (hokL Tryz.prog (hookAt [(61, H_q8u), (253, H_q8v)]) (bodyOf Tryz.f42) 1) = (UnitOk Tryz.prog H_q8u (at_ (bodyOf Tryz.f42) [1, 1, 1, 0, 1]) 61 ∧ UnitOk Tryz.prog H_q8v (at_ (bodyOf Tryz.f42) [1, 1, 1, 1, 1, 0, 1]) 253 ∧ True) := by kernel_rfl
theorem T_q9w_eq (s1a : Option Addr) (s1l s1c : Nat) (s2a : Option Addr) (s2l s2c : Nat) (w : World) (R : RT) : vcCode Tryz.prog (hookAt [(61, H_q8u), (253, H_q8v)]) (bodyOf Tryz.f42) 1 ⟨argEnv [.agg #[.slice s1a s1l s1c, .slice s2a s2l s2c]] 0, Tryz.f42.ntmps, []⟩ w (finQ Tryz.prog Tryz.f42.results.toList R) = T_q9w s1a s1l s1c s2a s2l s2c w R := by kernel_rfl
theorem T_q9w_b : Tryz.f42.body = some (bodyOf Tryz.f42) := by kernel_rfl
theorem T_q9w_s : (quietSel (bodyOf Tryz.f42) && Nat.ble 1 Tryz.f42.ntmps) = true := by kernel_rfl
theorem C_q9w {s1a : Option Addr} {s1l s1c : Nat} {s2a : Option Addr} {s2l s2c : Nat} {w : World} {R : RT} (h : T_q9w s1a s1l s1c s2a s2l s2c w R) : Calls Tryz.prog 42 #[.agg #[.slice s1a s1l s1c, .slice s2a s2l s2c]] w R :=
 calls_of_text (args := [.agg #[.slice s1a s1l s1c, .slice s2a s2l s2c]]) mixed Tryz.func42 T_q9w_b T_q9w_s (HOk_of _ _ (by rw [T_q9w_hl]; exact ⟨T_q9w_1_ok, T_q9w_2_ok, trivial⟩)) (by rw [T_q9w_eq]; exact h)
def T_q9v_2_body (X : Int → Int → World → Prop) (at17 k18 : Int) (b19a : Option Addr) (b19l b19c : Nat) (a20 m21 : Addr) (part22 n23 : Int) (w : World) (Kn : Int → World → Prop) (Kr : Int → World → Prop) (Kp : XT)  : Prop :=
 if (decide (k18 < n23)) = true then (Calls Tryz.prog 51 #[.slice b19a b19l b19c, .int .i64 at17] w (ret (fun r24 w25 => ∃ x26 x27 x28 : Int, r24 = .tuple #[.int .i64 x26, .int .i64 x27, .int .i64 x28] ∧ if (x28 != 0) = true then ((.agg #[.slice none 0 0, .slice none 0 0] : Value).cells.size = 2 ∧ wrOk w25 a20 (.agg #[.slice none 0 0, .slice none 0 0]) ∧ let w29 : World := wr w25 a20 (.agg #[.slice none 0 0, .slice none 0 0])
 Kr x28 w29) else (if (part22 == 0) = true then (∃ (s30a : Option Addr) (s30l s30c : Nat), rd w25 m21 (.slice s30a s30l s30c) ∧ let w31 : World := w25.alloc (.cells #[.int .i64 x26] 3)
 runV Tryz.prog (Builtin.append_ #[24, 24] 24 #[.slice s30a s30l s30c, .slice (some (⟨w25.heap.size, 0, none⟩ : Addr)) 1 1]) w31 (fun r32 w33 => ∃ (s34a : Option Addr) (s34l s34c : Nat), r32 = .slice s34a s34l s34c ∧ (.slice s34a s34l s34c : Value).cells.size = 1 ∧ wrOk w33 m21 (.slice s34a s34l s34c) ∧ let w35 : World := wr w33 m21 (.slice s34a s34l s34c)
 X x27 (IntKind.wrap .i64 (k18 + 1)) w35) Kp) else (∃ (s36a : Option Addr) (s36l s36c : Nat), rd w25 (m21.add 1) (.slice s36a s36l s36c) ∧ let w37 : World := w25.alloc (.cells #[.int .i64 x26] 3)
 runV Tryz.prog (Builtin.append_ #[24, 24] 24 #[.slice s36a s36l s36c, .slice (some (⟨w25.heap.size, 0, none⟩ : Addr)) 1 1]) w37 (fun r38 w39 => ∃ (s40a : Option Addr) (s40l s40c : Nat), r38 = .slice s40a s40l s40c ∧ (.slice s40a s40l s40c : Value).cells.size = 1 ∧ wrOk w39 (m21.add 1) (.slice s40a s40l s40c) ∧ let w41 : World := wr w39 (m21.add 1) (.slice s40a s40l s40c)
 X x27 (IntKind.wrap .i64 (k18 + 1)) w41) Kp))) Kp)) else (Kn at17 w)
def T_q8t (at17 k18 : Int) (b19a : Option Addr) (b19l b19c : Nat) (a20 m21 : Addr) (part22 n23 : Int) (w : World) (Kn : Int → World → Prop) (Kr : Int → World → Prop) (Kp : XT) : Prop :=
 ∀ X : Int → Int → World → Prop, (∀ (at17 k18 : Int) (w : World), T_q9v_2_body X at17 k18 b19a b19l b19c a20 m21 part22 n23 w Kn Kr Kp → X at17 k18 w) → X at17 k18 w
def T_q58 : Exit → Option (List (Nat × Value)) := fun x => match x with | .normal => some [(5, .int .i64 0)] | .ret => some [(3, .int .i64 0)] | .panic _ => some [] | _ => none
def T_q78 : Nat → Bool := ksOf [3, 5, 10, 11, 12, 13, 34, 35, 36, 37, 38, 39, 40, 41, 42, 43, 44, 45, 46, 47, 48, 49, 50, 51, 52, 53, 54, 55, 56, 57, 58, 59, 60, 61, 62, 63, 64]
def H_q8t : Env → World → QT → Prop := unitHook 76 T_q78 [(5, .int .i64 0), (10, .int .i64 0), (0, .slice none 0 0), (2, .pointer (some ⟨0, 0, none⟩)), (4, .pointer (some ⟨0, 0, none⟩)), (6, .int .i64 0), (7, .int .i64 0)] T_q58 fun l w C => match l with | [v0, v1, v2, v3, v4, v5, v6] => T_q8t (pInt v0) (pInt v1) (pA v2) (pL v2) (pC v2) (pAddr v3) (pAddr v4) (pInt v5) (pInt v6) w (fun at44 w => C .normal [.int .i64 at44] w) (fun x45 w => C .ret [.int .i64 x45] w) (fun ch w => C (.panic ch) [] w) | _ => False
theorem T_q8t_hl : allP (hokL Tryz.prog (hookAt []) (at_ (bodyOf Tryz.f52) [1, 1, 1, 0, 1, 0, 0, 1, 0, 0, 1, 1, 1, 1, 1, 0, 0]) 250492) = (True) := by kernel_rfl
theorem T_q8t_hok : HOk Tryz.prog (hookAt []) (at_ (bodyOf Tryz.f52) [1, 1, 1, 0, 1, 0, 0, 1, 0, 0, 1, 1, 1, 1, 1, 0, 0]) 250492 := HOk_of _ _ (by rw [T_q8t_hl]; exact trivial)
theorem T_q8t_eq (C : Conts) (X : List Value → World → Prop) (at17 k18 : Int) (b19a : Option Addr) (b19l b19c : Nat) (a20 m21 : Addr) (part22 n23 : Int) (w : World) : vcCode Tryz.prog (hookAt []) (at_ (bodyOf Tryz.f52) [1, 1, 1, 0, 1, 0, 0, 1, 0, 0, 1, 1, 1, 1, 1, 0, 0]) 250492 ⟨[(5, .int .i64 at17), (10, .int .i64 k18)] ++ [(0, .slice b19a b19l b19c), (2, .pointer (some a20)), (4, .pointer (some m21)), (6, .int .i64 part22), (7, .int .i64 n23)], 76, []⟩ w (seqQ (fun e w => takeAll e [(5, .int .i64 0), (10, .int .i64 0)] fun l => X l w) (blockQ 2 (unitQ T_q58 C))) = T_q9v_2_body (fun at17 k18 w => X [.int .i64 at17, .int .i64 k18] w) at17 k18 b19a b19l b19c a20 m21 part22 n23 w (fun at46 w => C .normal [.int .i64 at46] w) (fun x47 w => C .ret [.int .i64 x47] w) (fun ch w => C (.panic ch) [] w) := by kernel_rfl
theorem T_q9v_2_ok : UnitOk Tryz.prog H_q8t (at_ (bodyOf Tryz.f52) [1, 1, 1, 0, 1, 0, 0, 1, 0, 0, 1, 1, 1, 1, 1]) 62623 := by
 have hc : at_ (bodyOf Tryz.f52) [1, 1, 1, 0, 1, 0, 0, 1, 0, 0, 1, 1, 1, 1, 1] = .block 2 (.loop (at_ (bodyOf Tryz.f52) [1, 1, 1, 0, 1, 0, 0, 1, 0, 0, 1, 1, 1, 1, 1, 0, 0])) := by kernel_rfl
 rw [hc]
 refine loop_unit_ok (carr := [(5, .int .i64 0), (10, .int .i64 0)]) (fix := [(0, .slice none 0 0), (2, .pointer (some ⟨0, 0, none⟩)), (4, .pointer (some ⟨0, 0, none⟩)), (6, .int .i64 0), (7, .int .i64 0)]) (ks := T_q78) (H := (hookAt [])) (B := fun C X l u w => match l, u with | [v0, v1], [v2, v3, v4, v5, v6] => T_q9v_2_body (fun at17 k18 w => X [.int .i64 at17, .int .i64 k18] w) (pInt v0) (pInt v1) (pA v2) (pL v2) (pC v2) (pAddr v3) (pAddr v4) (pInt v5) (pInt v6) w (fun at48 w => C .normal [.int .i64 at48] w) (fun x49 w => C .ret [.int .i64 x49] w) (fun ch w => C (.panic ch) [] w) | _, _ => False) (by kernel_rfl) (by kernel_rfl) T_q8t_hok ?_ ?_
 ·intro C X l u w hl hu
  obtain ⟨v0, _, rfl, k_v0, hl_v0⟩ := kC hl
  obtain ⟨at17, rfl⟩ := kind_int k_v0
  obtain ⟨v1, _, rfl, k_v1, hl_v1⟩ := kC hl_v0
  obtain ⟨k18, rfl⟩ := kind_int k_v1
  obtain rfl := kN hl_v1
  obtain ⟨v2, _, rfl, k_v2, hu_v2⟩ := kC hu
  obtain ⟨b19a, b19l, b19c, rfl⟩ := kind_slice k_v2
  obtain ⟨v3, _, rfl, k_v3, hu_v3⟩ := kC hu_v2
  obtain ⟨a20, rfl⟩ := kind_addr k_v3
  obtain ⟨v4, _, rfl, k_v4, hu_v4⟩ := kC hu_v3
  obtain ⟨m21, rfl⟩ := kind_addr k_v4
  obtain ⟨v5, _, rfl, k_v5, hu_v5⟩ := kC hu_v4
  obtain ⟨part22, rfl⟩ := kind_int k_v5
  obtain ⟨v6, _, rfl, k_v6, hu_v6⟩ := kC hu_v5
  obtain ⟨n23, rfl⟩ := kind_int k_v6
  obtain rfl := kN hu_v6
  exact T_q8t_eq C X at17 k18 b19a b19l b19c a20 m21 part22 n23 w
 ·intro l u w C hl hu
  obtain ⟨v0, _, rfl, k_v0, hl_v0⟩ := kC hl
  obtain ⟨at17, rfl⟩ := kind_int k_v0
  obtain ⟨v1, _, rfl, k_v1, hl_v1⟩ := kC hl_v0
  obtain ⟨k18, rfl⟩ := kind_int k_v1
  obtain rfl := kN hl_v1
  obtain ⟨v2, _, rfl, k_v2, hu_v2⟩ := kC hu
  obtain ⟨b19a, b19l, b19c, rfl⟩ := kind_slice k_v2
  obtain ⟨v3, _, rfl, k_v3, hu_v3⟩ := kC hu_v2
  obtain ⟨a20, rfl⟩ := kind_addr k_v3
  obtain ⟨v4, _, rfl, k_v4, hu_v4⟩ := kC hu_v3
  obtain ⟨m21, rfl⟩ := kind_addr k_v4
  obtain ⟨v5, _, rfl, k_v5, hu_v5⟩ := kC hu_v4
  obtain ⟨part22, rfl⟩ := kind_int k_v5
  obtain ⟨v6, _, rfl, k_v6, hu_v6⟩ := kC hu_v5
  obtain ⟨n23, rfl⟩ := kind_int k_v6
  obtain rfl := kN hu_v6
  constructor
  ·intro h X hX
   exact h (fun at17 k18 w => X [.int .i64 at17, .int .i64 k18] w) (fun at17 k18 w hb => hX [.int .i64 at17, .int .i64 k18] w ⟨rfl, rfl, trivial⟩ hb)
  ·intro h X hX
   exact h (fun l w => match l with | [v0, v1] => X (pInt v0) (pInt v1) w | _ => True) (fun l w hl hb => by
    obtain ⟨v0, _, rfl, k_v0, hl_v0⟩ := kC hl
    obtain ⟨at17, rfl⟩ := kind_int k_v0
    obtain ⟨v1, _, rfl, k_v1, hl_v1⟩ := kC hl_v0
    obtain ⟨k18, rfl⟩ := kind_int k_v1
    obtain rfl := kN hl_v1
    exact hX at17 k18 w hb)
def T_q9v_1_body (X : Int → Int → World → Prop) (at5 part6 : Int) (b7a : Option Addr) (b7l b7c : Nat) (a8 m9 : Addr) (w : World) (Kn : Int → World → Prop) (Kr : Int → World → Prop) (Kp : XT)  : Prop :=
 if (decide (part6 < 2)) = true then (Calls Tryz.prog 51 #[.slice b7a b7l b7c, .int .i64 at5] w (ret (fun r10 w11 => ∃ x12 x13 x14 : Int, r10 = .tuple #[.int .i64 x12, .int .i64 x13, .int .i64 x14] ∧ if (x14 != 0) = true then ((.agg #[.slice none 0 0, .slice none 0 0] : Value).cells.size = 2 ∧ wrOk w11 a8 (.agg #[.slice none 0 0, .slice none 0 0]) ∧ let w15 : World := wr w11 a8 (.agg #[.slice none 0 0, .slice none 0 0])
 Kr x14 w15) else (if (decide (x12 > 9)) = true then ((.agg #[.slice none 0 0, .slice none 0 0] : Value).cells.size = 2 ∧ wrOk w11 a8 (.agg #[.slice none 0 0, .slice none 0 0]) ∧ let w16 : World := wr w11 a8 (.agg #[.slice none 0 0, .slice none 0 0])
 Kr 4 w16) else (T_q8t x13 0 b7a b7l b7c a8 m9 part6 x12 w11 (fun at50 w51 => X at50 (IntKind.wrap .i64 (part6 + 1)) w51) (fun x52 w53 => Kr x52 w53) Kp))) Kp)) else (Kn at5 w)
def T_q8s (at5 part6 : Int) (b7a : Option Addr) (b7l b7c : Nat) (a8 m9 : Addr) (w : World) (Kn : Int → World → Prop) (Kr : Int → World → Prop) (Kp : XT) : Prop :=
 ∀ X : Int → Int → World → Prop, (∀ (at5 part6 : Int) (w : World), T_q9v_1_body X at5 part6 b7a b7l b7c a8 m9 w Kn Kr Kp → X at5 part6 w) → X at5 part6 w
def T_q57 : Exit → Option (List (Nat × Value)) := fun x => match x with | .normal => some [(5, .int .i64 0)] | .ret => some [(3, .int .i64 0)] | .panic _ => some [] | _ => none
def T_q77 : Nat → Bool := ksOf [3, 5, 6, 7, 8, 9, 10, 11, 12, 13, 15, 16, 17, 18, 19, 20, 21, 22, 23, 24, 25, 26, 27, 28, 29, 30, 31, 32, 33, 34, 35, 36, 37, 38, 39, 40, 41, 42, 43, 44, 45, 46, 47, 48, 49, 50, 51, 52, 53, 54, 55, 56, 57, 58, 59, 60, 61, 62, 63, 64]
def H_q8s : Env → World → QT → Prop := unitHook 76 T_q77 [(5, .int .i64 0), (6, .int .i64 0), (0, .slice none 0 0), (2, .pointer (some ⟨0, 0, none⟩)), (4, .pointer (some ⟨0, 0, none⟩))] T_q57 fun l w C => match l with | [v0, v1, v2, v3, v4] => T_q8s (pInt v0) (pInt v1) (pA v2) (pL v2) (pC v2) (pAddr v3) (pAddr v4) w (fun at56 w => C .normal [.int .i64 at56] w) (fun x57 w => C .ret [.int .i64 x57] w) (fun ch w => C (.panic ch) [] w) | _ => False
theorem T_q8s_hl : allP (hokL Tryz.prog (hookAt [(62623, H_q8t)]) (at_ (bodyOf Tryz.f52) [1, 1, 1, 0, 1, 0, 0]) 244) = (UnitOk Tryz.prog H_q8t (at_ (bodyOf Tryz.f52) [1, 1, 1, 0, 1, 0, 0, 1, 0, 0, 1, 1, 1, 1, 1]) 62623 ∧ True) := by kernel_rfl
theorem T_q8s_hok : HOk Tryz.prog (hookAt [(62623, H_q8t)]) (at_ (bodyOf Tryz.f52) [1, 1, 1, 0, 1, 0, 0]) 244 := HOk_of _ _ (by rw [T_q8s_hl]; exact ⟨T_q9v_2_ok, trivial⟩)
theorem T_q8s_eq (C : Conts) (X : List Value → World → Prop) (at5 part6 : Int) (b7a : Option Addr) (b7l b7c : Nat) (a8 m9 : Addr) (w : World) : vcCode Tryz.prog (hookAt [(62623, H_q8t)]) (at_ (bodyOf Tryz.f52) [1, 1, 1, 0, 1, 0, 0]) 244 ⟨[(5, .int .i64 at5), (6, .int .i64 part6)] ++ [(0, .slice b7a b7l b7c), (2, .pointer (some a8)), (4, .pointer (some m9))], 76, []⟩ w (seqQ (fun e w => takeAll e [(5, .int .i64 0), (6, .int .i64 0)] fun l => X l w) (blockQ 0 (unitQ T_q57 C))) = T_q9v_1_body (fun at5 part6 w => X [.int .i64 at5, .int .i64 part6] w) at5 part6 b7a b7l b7c a8 m9 w (fun at58 w => C .normal [.int .i64 at58] w) (fun x59 w => C .ret [.int .i64 x59] w) (fun ch w => C (.panic ch) [] w) := by kernel_rfl
theorem T_q9v_1_ok : UnitOk Tryz.prog H_q8s (at_ (bodyOf Tryz.f52) [1, 1, 1, 0, 1]) 61 := by
 have hc : at_ (bodyOf Tryz.f52) [1, 1, 1, 0, 1] = .block 0 (.loop (at_ (bodyOf Tryz.f52) [1, 1, 1, 0, 1, 0, 0])) := by kernel_rfl
 rw [hc]
 refine loop_unit_ok (carr := [(5, .int .i64 0), (6, .int .i64 0)]) (fix := [(0, .slice none 0 0), (2, .pointer (some ⟨0, 0, none⟩)), (4, .pointer (some ⟨0, 0, none⟩))]) (ks := T_q77) (H := (hookAt [(62623, H_q8t)])) (B := fun C X l u w => match l, u with | [v0, v1], [v2, v3, v4] => T_q9v_1_body (fun at5 part6 w => X [.int .i64 at5, .int .i64 part6] w) (pInt v0) (pInt v1) (pA v2) (pL v2) (pC v2) (pAddr v3) (pAddr v4) w (fun at60 w => C .normal [.int .i64 at60] w) (fun x61 w => C .ret [.int .i64 x61] w) (fun ch w => C (.panic ch) [] w) | _, _ => False) (by kernel_rfl) (by kernel_rfl) T_q8s_hok ?_ ?_
 ·intro C X l u w hl hu
  obtain ⟨v0, _, rfl, k_v0, hl_v0⟩ := kC hl
  obtain ⟨at5, rfl⟩ := kind_int k_v0
  obtain ⟨v1, _, rfl, k_v1, hl_v1⟩ := kC hl_v0
  obtain ⟨part6, rfl⟩ := kind_int k_v1
  obtain rfl := kN hl_v1
  obtain ⟨v2, _, rfl, k_v2, hu_v2⟩ := kC hu
  obtain ⟨b7a, b7l, b7c, rfl⟩ := kind_slice k_v2
  obtain ⟨v3, _, rfl, k_v3, hu_v3⟩ := kC hu_v2
  obtain ⟨a8, rfl⟩ := kind_addr k_v3
  obtain ⟨v4, _, rfl, k_v4, hu_v4⟩ := kC hu_v3
  obtain ⟨m9, rfl⟩ := kind_addr k_v4
  obtain rfl := kN hu_v4
  exact T_q8s_eq C X at5 part6 b7a b7l b7c a8 m9 w
 ·intro l u w C hl hu
  obtain ⟨v0, _, rfl, k_v0, hl_v0⟩ := kC hl
  obtain ⟨at5, rfl⟩ := kind_int k_v0
  obtain ⟨v1, _, rfl, k_v1, hl_v1⟩ := kC hl_v0
  obtain ⟨part6, rfl⟩ := kind_int k_v1
  obtain rfl := kN hl_v1
  obtain ⟨v2, _, rfl, k_v2, hu_v2⟩ := kC hu
  obtain ⟨b7a, b7l, b7c, rfl⟩ := kind_slice k_v2
  obtain ⟨v3, _, rfl, k_v3, hu_v3⟩ := kC hu_v2
  obtain ⟨a8, rfl⟩ := kind_addr k_v3
  obtain ⟨v4, _, rfl, k_v4, hu_v4⟩ := kC hu_v3
  obtain ⟨m9, rfl⟩ := kind_addr k_v4
  obtain rfl := kN hu_v4
  constructor
  ·intro h X hX
   exact h (fun at5 part6 w => X [.int .i64 at5, .int .i64 part6] w) (fun at5 part6 w hb => hX [.int .i64 at5, .int .i64 part6] w ⟨rfl, rfl, trivial⟩ hb)
  ·intro h X hX
   exact h (fun l w => match l with | [v0, v1] => X (pInt v0) (pInt v1) w | _ => True) (fun l w hl hb => by
    obtain ⟨v0, _, rfl, k_v0, hl_v0⟩ := kC hl
    obtain ⟨at5, rfl⟩ := kind_int k_v0
    obtain ⟨v1, _, rfl, k_v1, hl_v1⟩ := kC hl_v0
    obtain ⟨part6, rfl⟩ := kind_int k_v1
    obtain rfl := kN hl_v1
    exact hX at5 part6 w hb)
def T_q9v (b1a : Option Addr) (b1l b1c : Nat) (w : World) (R : RT) : Prop :=
 let w2 : World := w.alloc (.cells #[.slice none 0 0, .slice none 0 0] 26)
 let w3 : World := w2.alloc (.cells #[.slice none 0 0, .slice none 0 0] 26)
 (.agg #[.slice none 0 0, .slice none 0 0] : Value).cells.size = 2 ∧ wrOk w3 (⟨w2.heap.size, 0, none⟩ : Addr) (.agg #[.slice none 0 0, .slice none 0 0]) ∧ let w4 : World := wr w3 (⟨w2.heap.size, 0, none⟩ : Addr) (.agg #[.slice none 0 0, .slice none 0 0])
 T_q8s 0 0 b1a b1l b1c (⟨w.heap.size, 0, none⟩ : Addr) (⟨w2.heap.size, 0, none⟩ : Addr) w4 (fun at62 w63 => if (at62 != ((b1l : Nat) : Int)) = true then ((.agg #[.slice none 0 0, .slice none 0 0] : Value).cells.size = 2 ∧ wrOk w63 (⟨w.heap.size, 0, none⟩ : Addr) (.agg #[.slice none 0 0, .slice none 0 0]) ∧ let w64 : World := wr w63 (⟨w.heap.size, 0, none⟩ : Addr) (.agg #[.slice none 0 0, .slice none 0 0])
 ∃ (s65a : Option Addr) (s65l s65c : Nat) (s66a : Option Addr) (s66l s66c : Nat), rd w64 (⟨w.heap.size, 0, none⟩ : Addr) (.agg #[.slice s65a s65l s65c, .slice s66a s66l s66c]) ∧ R (.returned (.tuple #[.agg #[.slice s65a s65l s65c, .slice s66a s66l s66c], .int .i64 4])) w64) else (∃ (s67a : Option Addr) (s67l s67c : Nat) (s68a : Option Addr) (s68l s68c : Nat), rd w63 (⟨w2.heap.size, 0, none⟩ : Addr) (.agg #[.slice s67a s67l s67c, .slice s68a s68l s68c]) ∧ Calls Tryz.prog 86 #[.agg #[.slice s67a s67l s67c, .slice s68a s68l s68c]] w63 (ret (fun r69 w70 => ∃ b71 : Bool, r69 = .bool b71 ∧ if (!b71) = true then ((.agg #[.slice none 0 0, .slice none 0 0] : Value).cells.size = 2 ∧ wrOk w70 (⟨w.heap.size, 0, none⟩ : Addr) (.agg #[.slice none 0 0, .slice none 0 0]) ∧ let w72 : World := wr w70 (⟨w.heap.size, 0, none⟩ : Addr) (.agg #[.slice none 0 0, .slice none 0 0])
 ∃ (s73a : Option Addr) (s73l s73c : Nat) (s74a : Option Addr) (s74l s74c : Nat), rd w72 (⟨w.heap.size, 0, none⟩ : Addr) (.agg #[.slice s73a s73l s73c, .slice s74a s74l s74c]) ∧ R (.returned (.tuple #[.agg #[.slice s73a s73l s73c, .slice s74a s74l s74c], .int .i64 4])) w72) else (∃ (s75a : Option Addr) (s75l s75c : Nat) (s76a : Option Addr) (s76l s76c : Nat), rd w70 (⟨w2.heap.size, 0, none⟩ : Addr) (.agg #[.slice s75a s75l s75c, .slice s76a s76l s76c]) ∧ (.agg #[.slice s75a s75l s75c, .slice s76a s76l s76c] : Value).cells.size = 2 ∧ wrOk w70 (⟨w.heap.size, 0, none⟩ : Addr) (.agg #[.slice s75a s75l s75c, .slice s76a s76l s76c]) ∧ let w77 : World := wr w70 (⟨w.heap.size, 0, none⟩ : Addr) (.agg #[.slice s75a s75l s75c, .slice s76a s76l s76c])
 ∃ (s78a : Option Addr) (s78l s78c : Nat) (s79a : Option Addr) (s79l s79c : Nat), rd w77 (⟨w.heap.size, 0, none⟩ : Addr) (.agg #[.slice s78a s78l s78c, .slice s79a s79l s79c]) ∧ R (.returned (.tuple #[.agg #[.slice s78a s78l s78c, .slice s79a s79l s79c], .int .i64 0])) w77)) (pan R)))) (fun x80 w81 => ∃ (s82a : Option Addr) (s82l s82c : Nat) (s83a : Option Addr) (s83l s83c : Nat), rd w81 (⟨w.heap.size, 0, none⟩ : Addr) (.agg #[.slice s82a s82l s82c, .slice s83a s83l s83c]) ∧ R (.returned (.tuple #[.agg #[.slice s82a s82l s82c, .slice s83a s83l s83c], .int .i64 x80])) w81) (pan R)
theorem T_q9v_hl : allP (hokL Tryz.prog (hookAt [(61, H_q8s)]) (bodyOf Tryz.f52) 1) = (UnitOk Tryz.prog H_q8s (at_ (bodyOf Tryz.f52) [1, 1, 1, 0, 1]) 61 ∧ True) := by kernel_rfl
theorem T_q9v_eq (b1a : Option Addr) (b1l b1c : Nat) (w : World) (R : RT) : vcCode Tryz.prog (hookAt [(61, H_q8s)]) (bodyOf Tryz.f52) 1 ⟨argEnv [.slice b1a b1l b1c] 0, Tryz.f52.ntmps, []⟩ w (finQ Tryz.prog Tryz.f52.results.toList R) = T_q9v b1a b1l b1c w R := by kernel_rfl
theorem T_q9v_b : Tryz.f52.body = some (bodyOf Tryz.f52) := by kernel_rfl
theorem T_q9v_s : (quietSel (bodyOf Tryz.f52) && Nat.ble 1 Tryz.f52.ntmps) = true := by kernel_rfl
theorem C_q9v {b1a : Option Addr} {b1l b1c : Nat} {w : World} {R : RT} (h : T_q9v b1a b1l b1c w R) : Calls Tryz.prog 52 #[.slice b1a b1l b1c] w R :=
 calls_of_text (args := [.slice b1a b1l b1c]) mixed Tryz.func52 T_q9v_b T_q9v_s (HOk_of _ _ (by rw [T_q9v_hl]; exact ⟨T_q9v_1_ok, trivial⟩)) (by rw [T_q9v_eq]; exact h)
def T_q7b_1_body (X : Int → World → Prop) (i3 : Int) (a4a : Option Addr) (a4l a4c : Nat) (b5a : Option Addr) (b5l b5c : Nat) (w : World) (Kn : World → Prop) (Kr : Bool → World → Prop) (Kp : XT)  : Prop :=
 if (decide (i3 < ((a4l : Nat) : Int))) = true then (let w6 : World := w.drew
 0 ≤ i3 ∧ i3 < ((a4l : Nat) : Int) ∧ ∃ b7, a4a = some b7 ∧ ∃ x8 : Int, rd w6 (b7.add (i3.toNat * 1)) (.int .i64 x8) ∧ 0 ≤ i3 ∧ i3 < ((b5l : Nat) : Int) ∧ ∃ b9, b5a = some b9 ∧ ∃ x10 : Int, rd w6 (b9.add (i3.toNat * 1)) (.int .i64 x10) ∧ if (x8 != x10) = true then (Kr false w6) else (X (IntKind.wrap .i64 (i3 + 1)) w6)) else (Kn  w)
def T_q5d (i3 : Int) (a4a : Option Addr) (a4l a4c : Nat) (b5a : Option Addr) (b5l b5c : Nat) (w : World) (Kn : World → Prop) (Kr : Bool → World → Prop) (Kp : XT) : Prop :=
 ∀ X : Int → World → Prop, (∀ (i3 : Int) (w : World), T_q7b_1_body X i3 a4a a4l a4c b5a b5l b5c w Kn Kr Kp → X i3 w) → X i3 w
def T_q19 : Exit → Option (List (Nat × Value)) := fun x => match x with | .normal => some [] | .ret => some [(4, .bool false)] | .panic _ => some [] | _ => none
def T_q2p : Nat → Bool := ksOf [4, 5, 11, 12, 13, 14, 15, 16, 17, 18, 19, 20, 21, 22, 23, 24, 25]
def H_q5d : Env → World → QT → Prop := unitHook 26 T_q2p [(5, .int .i64 0), (0, .slice none 0 0), (1, .slice none 0 0)] T_q19 fun l w C => match l with | [v0, v1, v2] => T_q5d (pInt v0) (pA v1) (pL v1) (pC v1) (pA v2) (pL v2) (pC v2) w (fun w => C .normal [] w) (fun b12 w => C .ret [.bool b12] w) (fun ch w => C (.panic ch) [] w) | _ => False
theorem T_q5d_hl : allP (hokL Tryz.prog (hookAt []) (at_ (bodyOf Tryz.f89) [1, 1, 0, 1, 0, 0]) 116) = (True) := by kernel_rfl
theorem T_q5d_hok : HOk Tryz.prog (hookAt []) (at_ (bodyOf Tryz.f89) [1, 1, 0, 1, 0, 0]) 116 := HOk_of _ _ (by rw [T_q5d_hl]; exact trivial)
theorem T_q5d_eq (C : Conts) (X : List Value → World → Prop) (i3 : Int) (a4a : Option Addr) (a4l a4c : Nat) (b5a : Option Addr) (b5l b5c : Nat) (w : World) : vcCode Tryz.prog (hookAt []) (at_ (bodyOf Tryz.f89) [1, 1, 0, 1, 0, 0]) 116 ⟨[(5, .int .i64 i3)] ++ [(0, .slice a4a a4l a4c), (1, .slice b5a b5l b5c)], 26, []⟩ w (seqQ (fun e w => takeAll e [(5, .int .i64 0)] fun l => X l w) (blockQ 0 (unitQ T_q19 C))) = T_q7b_1_body (fun i3 w => X [.int .i64 i3] w) i3 a4a a4l a4c b5a b5l b5c w (fun w => C .normal [] w) (fun b13 w => C .ret [.bool b13] w) (fun ch w => C (.panic ch) [] w) := by kernel_rfl
theorem T_q7b_1_ok : UnitOk Tryz.prog H_q5d (at_ (bodyOf Tryz.f89) [1, 1, 0, 1]) 29 := by
 have hc : at_ (bodyOf Tryz.f89) [1, 1, 0, 1] = .block 0 (.loop (at_ (bodyOf Tryz.f89) [1, 1, 0, 1, 0, 0])) := by kernel_rfl
 rw [hc]
 refine loop_unit_ok (carr := [(5, .int .i64 0)]) (fix := [(0, .slice none 0 0), (1, .slice none 0 0)]) (ks := T_q2p) (H := (hookAt [])) (B := fun C X l u w => match l, u with | [v0], [v1, v2] => T_q7b_1_body (fun i3 w => X [.int .i64 i3] w) (pInt v0) (pA v1) (pL v1) (pC v1) (pA v2) (pL v2) (pC v2) w (fun w => C .normal [] w) (fun b14 w => C .ret [.bool b14] w) (fun ch w => C (.panic ch) [] w) | _, _ => False) (by kernel_rfl) (by kernel_rfl) T_q5d_hok ?_ ?_
 ·intro C X l u w hl hu
  obtain ⟨v0, _, rfl, k_v0, hl_v0⟩ := kC hl
  obtain ⟨i3, rfl⟩ := kind_int k_v0
  obtain rfl := kN hl_v0
  obtain ⟨v1, _, rfl, k_v1, hu_v1⟩ := kC hu
  obtain ⟨a4a, a4l, a4c, rfl⟩ := kind_slice k_v1
  obtain ⟨v2, _, rfl, k_v2, hu_v2⟩ := kC hu_v1
  obtain ⟨b5a, b5l, b5c, rfl⟩ := kind_slice k_v2
  obtain rfl := kN hu_v2
  exact T_q5d_eq C X i3 a4a a4l a4c b5a b5l b5c w
 ·intro l u w C hl hu
  obtain ⟨v0, _, rfl, k_v0, hl_v0⟩ := kC hl
  obtain ⟨i3, rfl⟩ := kind_int k_v0
  obtain rfl := kN hl_v0
  obtain ⟨v1, _, rfl, k_v1, hu_v1⟩ := kC hu
  obtain ⟨a4a, a4l, a4c, rfl⟩ := kind_slice k_v1
  obtain ⟨v2, _, rfl, k_v2, hu_v2⟩ := kC hu_v1
  obtain ⟨b5a, b5l, b5c, rfl⟩ := kind_slice k_v2
  obtain rfl := kN hu_v2
  constructor
  ·intro h X hX
   exact h (fun i3 w => X [.int .i64 i3] w) (fun i3 w hb => hX [.int .i64 i3] w ⟨rfl, trivial⟩ hb)
  ·intro h X hX
   exact h (fun l w => match l with | [v0] => X (pInt v0) w | _ => True) (fun l w hl hb => by
    obtain ⟨v0, _, rfl, k_v0, hl_v0⟩ := kC hl
    obtain ⟨i3, rfl⟩ := kind_int k_v0
    obtain rfl := kN hl_v0
    exact hX i3 w hb)
def T_q7b (a1a : Option Addr) (a1l a1c : Nat) (b2a : Option Addr) (b2l b2c : Nat) (w : World) (R : RT) : Prop :=
 if (((a1l : Nat) : Int) != ((b2l : Nat) : Int)) = true then (R (.returned (.bool false)) w) else (T_q5d 0 a1a a1l a1c b2a b2l b2c w (fun w15 => R (.returned (.bool true)) w15) (fun b16 w17 => R (.returned (.bool b16)) w17) (pan R))
theorem T_q7b_hl : allP (hokL Tryz.prog (hookAt [(29, H_q5d)]) (bodyOf Tryz.f89) 1) = (UnitOk Tryz.prog H_q5d (at_ (bodyOf Tryz.f89) [1, 1, 0, 1]) 29 ∧ True) := by kernel_rfl
theorem T_q7b_eq (a1a : Option Addr) (a1l a1c : Nat) (b2a : Option Addr) (b2l b2c : Nat) (w : World) (R : RT) : vcCode Tryz.prog (hookAt [(29, H_q5d)]) (bodyOf Tryz.f89) 1 ⟨argEnv [.slice a1a a1l a1c, .slice b2a b2l b2c] 0, Tryz.f89.ntmps, []⟩ w (finQ Tryz.prog Tryz.f89.results.toList R) = T_q7b a1a a1l a1c b2a b2l b2c w R := by kernel_rfl
theorem T_q7b_b : Tryz.f89.body = some (bodyOf Tryz.f89) := by kernel_rfl
theorem T_q7b_s : (quietSel (bodyOf Tryz.f89) && Nat.ble 2 Tryz.f89.ntmps) = true := by kernel_rfl
theorem C_q7b {a1a : Option Addr} {a1l a1c : Nat} {b2a : Option Addr} {b2l b2c : Nat} {w : World} {R : RT} (h : T_q7b a1a a1l a1c b2a b2l b2c w R) : Calls Tryz.prog 89 #[.slice a1a a1l a1c, .slice b2a b2l b2c] w R :=
 calls_of_text (args := [.slice a1a a1l a1c, .slice b2a b2l b2c]) mixed Tryz.func89 T_q7b_b T_q7b_s (HOk_of _ _ (by rw [T_q7b_hl]; exact ⟨T_q7b_1_ok, trivial⟩)) (by rw [T_q7b_eq]; exact h)
def T_q9j (s1a : Option Addr) (s1l s1c : Nat) (s2a : Option Addr) (s2l s2c : Nat) (s3a : Option Addr) (s3l s3c : Nat) (s4a : Option Addr) (s4l s4c : Nat) (w : World) (R : RT) : Prop :=
 let w5 : World := w.alloc (.cells #[.slice s1a s1l s1c, .slice s2a s2l s2c] 26)
 let w6 : World := w5.alloc (.cells #[.slice s3a s3l s3c, .slice s4a s4l s4c] 26)
 ∃ (s7a : Option Addr) (s7l s7c : Nat), rd w6 (⟨w.heap.size, 0, none⟩ : Addr) (.slice s7a s7l s7c) ∧ ∃ (s8a : Option Addr) (s8l s8c : Nat), rd w6 (⟨w5.heap.size, 0, none⟩ : Addr) (.slice s8a s8l s8c) ∧ Calls Tryz.prog 89 #[.slice s7a s7l s7c, .slice s8a s8l s8c] w6 (ret (fun r9 w10 => ∃ b11 : Bool, r9 = .bool b11 ∧ if b11 = true then (∃ (s12a : Option Addr) (s12l s12c : Nat), rd w10 ((⟨w.heap.size, 0, none⟩ : Addr).add 1) (.slice s12a s12l s12c) ∧ ∃ (s13a : Option Addr) (s13l s13c : Nat), rd w10 ((⟨w5.heap.size, 0, none⟩ : Addr).add 1) (.slice s13a s13l s13c) ∧ Calls Tryz.prog 89 #[.slice s12a s12l s12c, .slice s13a s13l s13c] w10 (ret (fun r14 w15 => ∃ b16 : Bool, r14 = .bool b16 ∧ R (.returned (.bool b16)) w15) (pan R))) else (R (.returned (.bool false)) w10)) (pan R))
theorem T_q9j_hl : allP (hokL Tryz.prog (hookAt []) (bodyOf Tryz.f45) 1) = (True) := by kernel_rfl
theorem T_q9j_eq (s1a : Option Addr) (s1l s1c : Nat) (s2a : Option Addr) (s2l s2c : Nat) (s3a : Option Addr) (s3l s3c : Nat) (s4a : Option Addr) (s4l s4c : Nat) (w : World) (R : RT) : vcCode Tryz.prog (hookAt []) (bodyOf Tryz.f45) 1 ⟨argEnv [.agg #[.slice s1a s1l s1c, .slice s2a s2l s2c], .agg #[.slice s3a s3l s3c, .slice s4a s4l s4c]] 0, Tryz.f45.ntmps, []⟩ w (finQ Tryz.prog Tryz.f45.results.toList R) = T_q9j s1a s1l s1c s2a s2l s2c s3a s3l s3c s4a s4l s4c w R := by kernel_rfl
theorem T_q9j_b : Tryz.f45.body = some (bodyOf Tryz.f45) := by kernel_rfl
theorem T_q9j_s : (quietSel (bodyOf Tryz.f45) && Nat.ble 2 Tryz.f45.ntmps) = true := by kernel_rfl
theorem C_q9j {s1a : Option Addr} {s1l s1c : Nat} {s2a : Option Addr} {s2l s2c : Nat} {s3a : Option Addr} {s3l s3c : Nat} {s4a : Option Addr} {s4l s4c : Nat} {w : World} {R : RT} (h : T_q9j s1a s1l s1c s2a s2l s2c s3a s3l s3c s4a s4l s4c w R) : Calls Tryz.prog 45 #[.agg #[.slice s1a s1l s1c, .slice s2a s2l s2c], .agg #[.slice s3a s3l s3c, .slice s4a s4l s4c]] w R :=
 calls_of_text (args := [.agg #[.slice s1a s1l s1c, .slice s2a s2l s2c], .agg #[.slice s3a s3l s3c, .slice s4a s4l s4c]]) mixed Tryz.func45 T_q9j_b T_q9j_s (HOk_of _ _ (by rw [T_q9j_hl]; exact trivial)) (by rw [T_q9j_eq]; exact h)
end Go.Proofs.YtclinifclfahfaaGreat
namespace Go.Vc
open Go Go.Proofs Go.Proofs.YtclinifclfahfaaGreat
set_option maxRecDepth 100000
section
variable {E w : World} {L : List Asrt} {R : RT} {F G : Fz} {q s : Sl} {b : Cm.Bs} {l : List Int}
def intV (l : List Int) : List Value := l.map (Value.int .i64)
theorem intV_len (l : List Int) : (intV l).length = l.length := by simp [intV]
theorem intV_one (l : List Int) : ∀ u ∈ intV l, one u = true := by
  intro u hu
  simp only [intV, List.mem_map] at hu
  obtain ⟨x, _, rfl⟩ := hu
  rfl
theorem intV_app (a b : List Int) : intV (a ++ b) = intV a ++ intV b := List.map_append
def inA (s : Sl) (l : List Int) : Asrt := ownS s.1 s.2.1 s.2.2 3 1 (intV l)
theorem rdi_len {a : Option Addr} {n : Nat} (hr : RdS w a n 1 (intV l)) : l.length = n := by have := hr.1; rw [intV_len] at this; omega
theorem rdi_at {a : Option Addr} {n : Nat} (hr : RdS w a n 1 (intV l)) {i : Nat} (hi : i < l.length) : ∃ ad, a = some ad ∧ rd w (ad.add (i * 1)) (.int .i64 l[i]) := by
  have hl := rdi_len hr
  obtain ⟨ad, ha, _, _⟩ := hr.cells (by omega)
  exact ⟨ad, ha, hr.rd_cell ha (by omega) (i := i * 1) (by rw [Nat.mul_one]; simp [intV, hi]) rfl⟩
theorem St.in_nil (h : St E L w) : St E (inA (none, 0, 0) [] :: L) w := h.ownS_nil
theorem St.in_len {l : List Int} (h : St E (inA s l :: L) w) : l.length = s.2.1 := rdi_len h.rdS_own
theorem St.in_one (h : St E L w) (x : Int) : St E (inA (some ⟨w.heap.size, 0, none⟩, 1, 1) [x] :: L) (w.alloc (.cells #[.int .i64 x] 3)) :=
  (St.ownS_mk (xs := intV [x]) (rest := []) (l := 1) (c := 1) (sz := 1) (h.alloc _) rfl (Nat.le_refl _) (by decide) rfl :)
theorem app_i {a2 : Option Addr} {l2 c2 : Nat} {xs ys : List Int} (h : St E (inA s xs :: L) w) (hro : RdS w a2 l2 1 (intV ys)) (hb : (xs.length + ys.length) * 8 ≤ 140737488355328) :
    ∃ (s' : Sl) (w' : World), (Builtin.append_ #[24, 24] 24 #[.slice s.1 s.2.1 s.2.2, .slice a2 l2 c2]).run Tryz.prog w = .ok (.slice s'.1 s'.2.1 s'.2.2) w' ∧ St E (inA s' (xs ++ ys) :: L) w' := by
  have hl := h.in_len
  have hl2 := rdi_len hro
  obtain ⟨a', c', w', hr, hs⟩ := append_own (P := Tryz.prog) (t := 24) (ty := 24) (e := 3) (i := Tryz.t3) (z := .int .i64 0) (by kernel_rfl) (by kernel_rfl) (by kernel_rfl) (by kernel_rfl) (by decide) (c2 := c2) h hro (intV_one ys)
    (by have : Tryz.t3.bytes = 8 := by kernel_rfl
        rw [this]; omega) (by unfold maxLen; omega)
  rw [show Tryz.t3.size = 1 from by kernel_rfl, ← intV_app] at hs
  exact ⟨(a', s.2.1 + l2, c'), w', hr, hs⟩
theorem app_i1 {xs : List Int} {x : Int} (h : St E (inA s xs :: L) w) (hb : xs.length + 1 ≤ 1000000) :
    ∃ (s' : Sl) (w' : World), (Builtin.append_ #[24, 24] 24 #[.slice s.1 s.2.1 s.2.2, .slice (some ⟨w.heap.size, 0, none⟩) 1 1]).run Tryz.prog (w.alloc (.cells #[.int .i64 x] 3)) = .ok (.slice s'.1 s'.2.1 s'.2.2) w' ∧ St E (inA s' (xs ++ [x]) :: L) w' := by
  have h2 := h.in_one x
  obtain ⟨s', w', hr, hs⟩ := app_i (c2 := 1) (ys := [x]) h2.f1 h2.rdS_own (by simp; omega)
  exact ⟨s', w', hr, hs.f1.drop⟩
theorem rises_spec (hq : Sees E L s.1 s.2.1 1 (intV l)) (hl : l.length ≤ huge) (h : St E L w) (k : ∀ w', St E L w' → R (.returned (.bool (Sn.upI l))) w') : Calls Tryz.prog 104 #[.slice s.1 s.2.1 s.2.2] w R := by
  have hh : huge = 9223372036854775807 := rfl
  have hlen := rdi_len (hq w h)
  refine C_q87 ?_
  unfold T_q87 T_q71
  intro X hX
  have hall : Sn.upI l = Sn.okTo Sn.ltI Sn.okN l l.length := (Sn.okTo_all ..).symm
  have hbad : ∀ {w : World} {j : Nat}, j ≤ l.length → Sn.okTo Sn.ltI Sn.okN l j = false → St E L w → R (.returned (.bool false)) w := fun {w j} hj hf h => by
    have := Sn.okTo_false hj hf
    have e : Sn.upI l = false := this
    have := k w h
    rwa [e] at this
  refine up_to l.length (Q := fun j => ∀ w, Sn.okTo Sn.ltI Sn.okN l j = true → St E L w → X (j : Int) w) ?_ w (Sn.okTo_zero ..) h
  intro j hj ih w hok h
  refine hX _ _ ?_
  unfold T_q87_1_body
  rw [← hlen]
  refine ite_d (fun hc => ?_) fun hc => ?_
  · have hjl : j < l.length := by omega
    obtain ⟨ad, ha, hrd⟩ := rdi_at (hq w h) hjl
    have hF : Sn.okN l[j] = false → Sn.okTo Sn.ltI Sn.okN l (j + 1) = false := fun hz => by
      cases j with
      | zero => rw [Sn.okTo_one (by omega), hz]
      | succ m => rw [Sn.okTo_succ (by omega), hz]; simp
    rw [Int.toNat_natCast]
    refine ⟨by omega, by omega, ad, ha, _, hrd, ?_⟩
    refine ite_d (fun h1 => hbad (j := j + 1) (by omega) (hF (decide_eq_false (by omega))) h) fun h1 => ?_
    refine ite_d (fun h2 => hbad (j := j + 1) (by omega) (hF (decide_eq_false (by omega))) h) fun h2 => ?_
    have hgx : Sn.okN l[j] = true := decide_eq_true (by omega)
    cases j with
    | zero =>
      refine ite_d (fun hh => absurd hh (by omega)) fun _ => ?_
      rw [succ_huge (by omega)]
      exact ih hjl w (by rw [Sn.okTo_one (by omega), hgx]) h
    | succ m =>
      refine ite_d (fun _ => ?_) fun hh => absurd (show ((m + 1 : Nat) : Int) > 0 by omega) hh
      have hw : IntKind.wrap .i64 (((m + 1 : Nat) : Int) - 1) = (m : Int) := by rw [wrap_id (by omega) (by omega)]; omega
      rw [hw, Int.toNat_natCast]
      obtain ⟨ad2, ha2, hrd2⟩ := rdi_at (hq w h) (show m < l.length by omega)
      have hs : Sn.okTo Sn.ltI Sn.okN l (m + 1 + 1) = Sn.ltI (l[m]'(by omega)) l[m + 1] := by
        rw [Sn.okTo_succ (by omega), hok, hgx]; rfl
      refine ⟨by omega, by omega, ad2, ha2, _, hrd2, ?_⟩
      refine ite_d (fun h3 => hbad (j := m + 1 + 1) (by omega) (by rw [hs]; exact decide_eq_false (by omega)) h) fun h3 => ?_
      rw [succ_huge (by omega)]
      exact ih hjl w (by rw [hs]; exact decide_eq_true (by omega)) h
  · have : j = l.length := by omega
    subst this
    have := k w h
    rwa [hall, hok] at this
theorem mem_take_succ {l : List Int} {j : Nat} (h : j < l.length) (n : Int) : decide (n ∈ l.take (j + 1)) = (decide (n ∈ l.take j) || decide (n = l[j])) := by
  rw [List.take_succ_eq_append_getElem h, Bool.eq_iff_iff]
  simp only [decide_eq_true_eq, Bool.or_eq_true, List.mem_append, List.mem_singleton]
theorem Contains_spec {n : Int} (hq : Sees E L s.1 s.2.1 1 (intV l)) (hl : l.length ≤ huge) (h : St E L w) (k : ∀ w', St E L w' → R (.returned (.bool (decide (n ∈ l)))) w') : Calls Tryz.prog 107 #[.slice s.1 s.2.1 s.2.2, .int .i64 n] w R := by
  have hh : huge = 9223372036854775807 := rfl
  have hlen := rdi_len (hq w h)
  refine C_q2t ?_
  unfold T_q2t
  refine C_q5r ?_
  unfold T_q5r T_q3h
  intro X hX
  refine up_to l.length (Q := fun j => ∀ w, n ∉ l.take j → St E L w → X (j : Int) w) ?_ w (by simp) h
  intro j hj ih w hno h
  refine hX _ _ ?_
  unfold T_q5r_1_body
  rw [← hlen]
  refine ite_d (fun hc => ?_) fun hc => ?_
  · have hjl : j < l.length := by omega
    obtain ⟨ad, ha, hrd⟩ := rdi_at (hq w h) hjl
    rw [Int.toNat_natCast]
    refine ⟨by omega, by omega, ad, ha, _, hrd, ?_⟩
    refine ite_b (fun he => ?_) fun he => ?_
    · have he : n = l[j] := by simpa using he
      refine ⟨_, rfl, congB (k w h) ?_⟩
      rw [decide_eq_true (show n ∈ l by rw [he]; exact List.getElem_mem hjl), decide_eq_true (by omega)]
    · have he : n ≠ l[j] := by simpa using he
      rw [succ_huge (by omega)]
      refine ih hjl w ?_ h
      have := mem_take_succ hjl n
      rw [decide_eq_false hno, decide_eq_false he] at this
      exact of_decide_eq_false this
  · have : j = l.length := by omega
    subst this
    rw [List.take_length] at hno
    refine ⟨_, rfl, congB (k w h) ?_⟩
    rw [decide_eq_false hno, decide_eq_false (by omega)]
def memL (v l : Sl) : List Value := [.slice v.1 v.2.1 v.2.2, .slice l.1 l.2.1 l.2.2]
def memV (v l : Sl) : Value := .agg ⟨memL v l⟩
def memR (F : Fz) (v l : Sl) (m : Sn.Mem) : Prop := RdF F v.1 v.2.1 1 (intV m.v) ∧ RdF F l.1 l.2.1 1 (intV m.l)
theorem memR.mono {v l : Sl} {m : Sn.Mem} (h : memR F v l m) (k : Fz.le F G) : memR G v l m := ⟨RdF.mono h.1 k, RdF.mono h.2 k⟩
theorem one_memL (v l : Sl) : ∀ u ∈ memL v l, one u = true := by intro u hu; simp [memL] at hu; rcases hu with rfl | rfl <;> rfl
theorem rd_mem {b : Nat} {v l : Sl} (h : St E (blkL b 26 (memL v l) :: L) w) : rd w ⟨b, 0, none⟩ (memV v l) := rd_agg (xs := memL v l) h.at_blk (by intro i u hu; rw [Nat.zero_add]; exact hu)
theorem ok_mem {b t : Nat} {c : List Value} (h : St E (blkL b t c :: L) w) (hl : c.length = 2) (v l : Sl) : wrOk w ⟨b, 0, none⟩ (memV v l) := wrOk_agg h.at_blk (xs := memL v l) (by rw [hl]; exact Nat.le_refl 2) (one_memL v l)
theorem St.wr_mem {b t : Nat} {c : List Value} (h : St E (blkL b t c :: L) w) (hl : c.length = 2) (v l : Sl) : St E (blkL b t (memL v l) :: L) (wr w ⟨b, 0, none⟩ (memV v l)) := h.wr_agg0 (xs := memL v l) (by rw [hl]; rfl)
theorem body_rc1 : hasBody Tryz.prog 106 = true := by kernel_rfl
theorem any_take_succ {l : List Int} {j : Nat} (h : j < l.length) (p : Int → Bool) : (l.take (j + 1)).any p = ((l.take j).any p || p l[j]) := by
  rw [List.take_succ_eq_append_getElem h, List.any_append]
  simp only [List.any_cons, List.any_nil, Bool.or_false]
theorem Right_spec {v l : Sl} {m : Sn.Mem} (hm : kn F ∈ L) (r : memR F v l m) (h1 : m.v.length ≤ huge) (h2 : m.l.length ≤ huge) (h : St E L w) (k : ∀ w', St E L w' → R (.returned (.bool (Sn.rightM m))) w') : Calls Tryz.prog 80 #[memV v l] w R := by
  have hh : huge = 9223372036854775807 := rfl
  refine C_q85 ?_
  unfold T_q85
  intro w3
  have h3 : St E (blkL w.heap.size 26 (memL v l) :: L) w3 := h.alloc (.cells ⟨memL v l⟩ 26)
  clear_value w3
  generalize w.heap.size = bm at *
  have lv : m.v.length = v.2.1 := rdi_len (r.1.at h3 (List.mem_cons_of_mem _ hm))
  have ll : m.l.length = l.2.1 := rdi_len (r.2.at h3 (List.mem_cons_of_mem _ hm))
  have hv : Sees E (blkL bm 26 (memL v l) :: L) v.1 v.2.1 1 (intV m.v) := r.1.sees (List.mem_cons_of_mem _ hm)
  have hll : Sees E (blkL bm 26 (memL v l) :: L) l.1 l.2.1 1 (intV m.l) := r.2.sees (List.mem_cons_of_mem _ hm)
  have fin : ∀ {w : World}, Sn.rightM m = false → St E (blkL bm 26 (memL v l) :: L) w → R (.returned (.bool false)) w := fun {w} e h => congB (k w h.drop) e
  refine ⟨_, _, _, rd_cell h3.at_blk rfl rfl, ite_b (fun hz => fin ?_ h3) fun hz => ?_⟩
  · have : m.v = [] := List.eq_nil_of_length_eq_zero (by simp at hz; omega)
    unfold Sn.rightM; rw [this]; rfl
  have hne : m.v ≠ [] := by
    intro h0
    rw [h0] at lv
    simp at hz lv
    omega
  refine ⟨_, _, _, rd_cell h3.at_blk rfl rfl, rises_spec hv h1 h3 fun w7 h7 => ⟨_, rfl, ite_n (fun hz2 => fin ?_ h7) fun hz2 => ?_⟩⟩
  · unfold Sn.rightM; rw [hz2]; simp
  refine ⟨_, _, _, rd_fld h7.at_blk rfl rfl, rises_spec hll h2 h7 fun w11 h11 => ⟨_, rfl, ite_n (fun hz3 => fin ?_ h11) fun hz3 => ?_⟩⟩
  · unfold Sn.rightM; rw [hz3]; simp
  refine ⟨_, _, _, rd_fld h11.at_blk rfl rfl, ?_⟩
  have hr : Sn.rightM m = !(m.l.any fun n => decide (n ∈ m.v)) := by
    unfold Sn.rightM
    rw [hz2, hz3, decide_eq_true hne]
    rw [Bool.eq_iff_iff]
    simp
  refine C_q0h ?_
  unfold T_q0h
  refine C_q29 ?_
  unfold T_q29 T_q11
  intro X hX
  refine up_to m.l.length (Q := fun j => ∀ w, (m.l.take j).any (fun n => decide (n ∈ m.v)) = false → St E (blkL bm 26 (memL v l) :: L) w → X (j : Int) w) ?_ w11 (by simp) h11
  intro j hj ih w hno h
  refine hX _ _ ?_
  unfold T_q29_1_body
  rw [← ll]
  refine ite_d (fun hc => ?_) fun hc => ?_
  · have hjl : j < m.l.length := by omega
    obtain ⟨ad, ha, hrd⟩ := rdi_at (hll w h) hjl
    rw [Int.toNat_natCast]
    refine ⟨by omega, by omega, ad, ha, _, hrd, body_rc1, ?_⟩
    refine C_q66 ?_
    unfold T_q66
    refine ⟨_, _, _, rd_cell h.at_blk rfl rfl, Contains_spec hv h1 h fun w5 h5 => ⟨_, rfl, _, rfl, ite_b (fun he => ?_) fun he => ?_⟩⟩
    · refine ⟨_, rfl, _, rfl, congB (k w5 h5.drop) ?_⟩
      have : m.l.any (fun n => decide (n ∈ m.v)) = true := List.any_eq_true.2 ⟨_, List.getElem_mem hjl, he⟩
      rw [hr, this, decide_eq_true (by omega)]
    · rw [succ_huge (by omega)]
      exact ih hjl w5 (by rw [any_take_succ hjl, hno, he]; rfl) h5
  · have : j = m.l.length := by omega
    subst this
    rw [List.take_length] at hno
    refine ⟨_, rfl, _, rfl, congB (k w h.drop) ?_⟩
    rw [hr, hno, decide_eq_false (by omega)]
end
end Go.Vc
namespace Go.Sn
open Go.Cm (Ps rMany)
theorem rNum_ok {r r' : Bs} {n : Nat} (h : tk r = .ok (n, r')) : Cm.rNum maxN (.ok r) = (n, .ok r') := by
  have hn := (tk_got h).2
  have e : Cm.rNum maxN (.ok r) = match Cm.takeGo 0 0 r with | .error e => (0, .error e) | .ok (n, r') => if maxN < n then (0, .error 6) else (n, .ok r') := rfl
  have h : Cm.takeGo 0 0 r = .ok (n, r') := h
  rw [e, h]
  simp only
  rw [if_neg (by unfold maxN; omega)]
theorem rNum_err {r : Bs} {e : Int} (h : tk r = .error e) : Cm.rNum maxN (.ok r) = (0, .error e) := by
  have e1 : Cm.rNum maxN (.ok r) = match Cm.takeGo 0 0 r with | .error e => (0, .error e) | .ok (n, r') => if maxN < n then (0, .error 6) else (n, .ok r') := rfl
  have h : Cm.takeGo 0 0 r = .error e := h
  rw [e1, h]
theorem rI_ok {r r' : Bs} {n : Nat} (h : tk r = .ok (n, r')) : rI (.ok r) = ((n : Int), .ok r') := by
  unfold rI
  rw [rNum_ok h]
theorem rI_err {r : Bs} {e : Int} (h : tk r = .error e) : rI (.ok r) = (0, .error e) := by
  unfold rI
  rw [rNum_err h]; rfl
theorem cnt_ok {r r' : Bs} {n : Nat} (h : tk r = .ok (n, r')) : cnt (.ok r) = if 9 < n then (0, .error 4) else (n, .ok r') := by
  unfold cnt
  rw [rNum_ok h]
theorem cnt_err {r : Bs} {e : Int} (h : tk r = .error e) : cnt (.ok r) = (0, .error e) := by
  unfold cnt
  rw [rNum_err h]
end Go.Sn
namespace Go.Vc
open Go Go.Proofs Go.Proofs.YtclinifclfahfaaGreat
set_option maxRecDepth 100000
section
variable {E w : World} {L : List Asrt} {R : RT} {F G : Fz} {q s : Sl} {b : Cm.Bs} {l : List Int} {xs : Cm.Bs}
theorem mput_spec {p : Sl} (hq : Sees E L s.1 s.2.1 1 (intV l)) (hl : l.length ≤ 1000) (hx : xs.length ≤ 1000000) (h : St E (byA p xs :: L) w) (k : ∀ (w' : World) (p' : Sl), St E (byA p' (xs ++ l.flatMap Cm.num) :: L) w' → R (.returned (.slice p'.1 p'.2.1 p'.2.2)) w') :
    Calls Tryz.prog 81 #[.slice p.1 p.2.1 p.2.2, .slice s.1 s.2.1 s.2.2] w R := by
  have hbig : big = 140737488355328 := rfl
  have hlen := rdi_len (hq.more _ w h)
  refine C_q9f ?_
  unfold T_q9f T_q86
  intro X hX
  refine up_to l.length (Q := fun j => ∀ (w : World) (p : Sl), St E (byA p (xs ++ (l.take j).flatMap Cm.num) :: L) w → X p.1 p.2.1 p.2.2 (j : Int) w) ?_ w p (by simpa using h)
  intro j hj ih w p h
  refine hX _ _ _ _ _ ?_
  unfold T_q9f_1_body
  rw [← hlen]
  refine ite_d (fun hc => ?_) fun hc => ?_
  · have hjl : j < l.length := by omega
    obtain ⟨ad, ha, hrd⟩ := rdi_at (hq.more _ w h) hjl
    rw [Int.toNat_natCast]
    refine ⟨by omega, by omega, ad, ha, _, hrd, ?_⟩
    refine Number_spec h fun w10 s10 h10 => ⟨_, _, _, _, rfl, ?_⟩
    have hf := Sn.flatNum (l.take j)
    have h6 := Sn.numLen l[j]
    have htl : (l.take j).length ≤ l.length := by rw [List.length_take]; omega
    obtain ⟨p', w14, hr, h14⟩ := app_b (c2 := s10.2.2) h10.f1 h10.rdS_own (by rw [List.length_append]; omega)
    refine runV_ok hr ⟨_, _, _, rfl, ?_⟩
    rw [succ_big (by omega)]
    refine ih hjl _ _ ?_
    rw [List.take_succ_eq_append_getElem hjl, List.flatMap_append]
    have := h14.f1.drop
    simpa using this
  · rw [List.take_of_length_le (by omega)] at h
    exact k _ _ h
def mputB (m : Sn.Mem) : Cm.Bs := if Sn.rightM m = true then Sn.memB m else []
def mputE (m : Sn.Mem) : Int := if Sn.rightM m = true then 0 else 2
theorem right_len {m : Sn.Mem} (h : Sn.rightM m = true) : m.v.length ≤ 9 ∧ m.l.length ≤ 9 := by
  unfold Sn.rightM at h
  simp only [Bool.and_eq_true] at h
  exact ⟨Sn.upI_len h.1.2.1, Sn.upI_len h.1.2.2⟩
set_option maxHeartbeats 1000000 in
theorem MPut_spec {v l : Sl} {m : Sn.Mem} (hm : kn F ∈ L) (r : memR F v l m) (h1 : m.v.length ≤ huge) (h2 : m.l.length ≤ huge) (h : St E L w)
    (k : ∀ (w' : World) (p : Sl), St E (byA p (mputB m) :: L) w' → R (.returned (.tuple #[.slice p.1 p.2.1 p.2.2, .int .i64 (mputE m)])) w') : Calls Tryz.prog 39 #[memV v l] w R := by
  refine C_q9e ?_
  unfold T_q9e
  intro w3
  have h3 : St E (blkL w.heap.size 26 (memL v l) :: L) w3 := h.alloc (.cells ⟨memL v l⟩ 26)
  clear_value w3
  generalize w.heap.size = bm at *
  refine ⟨_, _, _, _, _, _, rd_mem h3, ?_⟩
  have lv : m.v.length = v.2.1 := rdi_len (r.1.at h3 (List.mem_cons_of_mem _ hm))
  have ll : m.l.length = l.2.1 := rdi_len (r.2.at h3 (List.mem_cons_of_mem _ hm))
  refine Right_spec (List.mem_cons_of_mem _ hm) r h1 h2 h3 fun w7 h7 => ⟨_, rfl, ite_n (fun hz => ?_) fun hz => ?_⟩
  · rw [show mputB m = [] by unfold mputB; rw [hz]; rfl, show mputE m = 2 by unfold mputE; rw [hz]; rfl] at k
    exact k w7 (none, 0, 0) h7.drop.by_nil
  rw [show mputB m = Sn.memB m by unfold mputB; rw [if_pos hz], show mputE m = 0 by unfold mputE; rw [if_pos hz]] at k
  obtain ⟨l1, l2⟩ := right_len hz
  have hf1 := Sn.flatNum m.v; have hf2 := Sn.flatNum m.l
  have hn1 := Sn.numLen m.v.length; have hn2 := Sn.numLen m.l.length
  refine ⟨_, _, _, rd_cell h7.at_blk rfl rfl, ?_⟩
  intro w10
  have h10 := h7.in_one ((v.2.1 : Nat) : Int)
  refine mput_spec (p := (none, 0, 0)) (xs := []) (s := (some ⟨w7.heap.size, 0, none⟩, 1, 1)) (l := [((v.2.1 : Nat) : Int)]) (L := inA (some ⟨w7.heap.size, 0, none⟩, 1, 1) [((v.2.1 : Nat) : Int)] :: blkL bm 26 (memL v l) :: L) (fun w h => h.rdS_own) (by simp) (by simp) h10.by_nil fun w12 p12 h12 => ⟨_, _, _, rfl, ?_⟩
  have h12 : St E (byA p12 (Cm.num (m.v.length : Int)) :: blkL bm 26 (memL v l) :: L) w12 := by
    have := h12.f1.drop
    rw [← lv] at this
    simpa using this
  refine ⟨_, _, _, rd_cell h12.f1.at_blk rfl rfl, ?_⟩
  refine mput_spec (s := v) (l := m.v) (L := blkL bm 26 (memL v l) :: L) (r.1.sees (List.mem_cons_of_mem _ hm)) (by omega) (by omega) h12 fun w16 p16 h16 => ⟨_, _, _, rfl, ?_⟩
  refine ⟨_, _, _, rd_fld h16.f1.at_blk rfl rfl, ?_⟩
  intro w19
  have h19 := h16.in_one ((l.2.1 : Nat) : Int)
  refine mput_spec (s := (some ⟨w16.heap.size, 0, none⟩, 1, 1)) (l := [((l.2.1 : Nat) : Int)]) (L := inA (some ⟨w16.heap.size, 0, none⟩, 1, 1) [((l.2.1 : Nat) : Int)] :: blkL bm 26 (memL v l) :: L) (fun w h => h.rdS_own) (by simp) (by rw [List.length_append]; omega) h19.f1 fun w21 p21 h21 => ⟨_, _, _, rfl, ?_⟩
  have h21 : St E (byA p21 (Cm.num (m.v.length : Int) ++ m.v.flatMap Cm.num ++ Cm.num (m.l.length : Int)) :: blkL bm 26 (memL v l) :: L) w21 := by
    have := h21.f1.drop
    rw [← ll] at this
    simpa using this
  refine ⟨_, _, _, rd_fld h21.f1.at_blk rfl rfl, ?_⟩
  refine mput_spec (s := l) (l := m.l) (L := blkL bm 26 (memL v l) :: L) (r.2.sees (List.mem_cons_of_mem _ hm)) (by omega) (by simp only [List.length_append]; omega) h21 fun w25 p25 h25 => ⟨_, _, _, rfl, k w25 p25 ?_⟩
  have := h25.f1.drop
  unfold Sn.memB Sn.numsB
  simpa using this
theorem tk_cases (b : Cm.Bs) {a : Nat} (ha : a ≤ b.length) : (∃ e, Sn.tk (b.drop a) = .error e ∧ e ≠ 0 ∧ tkR b.length (Cm.takeGo 0 0 (b.drop a)) = (0, 0, e)) ∨
    (∃ n m : Nat, Sn.tk (b.drop a) = .ok (n, b.drop m) ∧ a ≤ m ∧ m ≤ b.length ∧ n ≤ 1099511627776 ∧ tkR b.length (Cm.takeGo 0 0 (b.drop a)) = ((n : Int), (m : Int), 0)) := by
  cases h : Sn.tk (b.drop a) with
  | error e =>
    have h' : Cm.takeGo 0 0 (b.drop a) = .error e := h
    exact .inl ⟨e, rfl, takeGo_err _ _ _ _ h', by rw [h']; rfl⟩
  | ok p =>
    obtain ⟨n, r⟩ := p
    have h' : Cm.takeGo 0 0 (b.drop a) = .ok (n, r) := h
    obtain ⟨i, hi, hil⟩ := takeGo_rest _ _ _ _ _ h'
    rw [List.length_drop] at hil
    rw [List.drop_drop] at hi
    refine .inr ⟨n, a + i, by rw [hi], by omega, by omega, (Sn.tk_got h).2, ?_⟩
    rw [h']
    unfold tkR
    simp only
    rw [hi, List.length_drop]
    congr 2
    omega
def lsp (b : Cm.Bs) (st : Cm.Ps) (at_ e : Int) : Prop := match st with
  | .error x => e = x ∧ x ≠ 0
  | .ok r => e = 0 ∧ ∃ m : Nat, at_ = m ∧ m ≤ b.length ∧ r = b.drop m
set_option maxHeartbeats 1000000 in
theorem mlist_spec {a : Nat} (hs : Src F q b) (hm : kn F ∈ L) (ha : a ≤ b.length) (h : St E L w)
    (k : ∀ (w' : World) (o : Sl) (xs : List Int) (at' e : Int), lsp b (Sn.rList (.ok (b.drop a))).2 at' e → (e = 0 → xs = (Sn.rList (.ok (b.drop a))).1) → St E (inA o xs :: L) w' → R (.returned (.tuple #[.slice o.1 o.2.1 o.2.2, .int .i64 at', .int .i64 e])) w') :
    Calls Tryz.prog 91 #[.slice q.1 q.2.1 q.2.2, .int .i64 (a : Int)] w R := by
  refine C_q8q ?_
  unfold T_q8q
  refine TakeNumber_spec hs hm h ha fun w4 h4 => ⟨_, _, _, rfl, ?_⟩
  have out : ∀ (w : World) (x y e : Int), e ≠ 0 → St E L w → (Sn.rList (.ok (b.drop a))).2 = .error e → T_q7o y e none 0 0 0 q.1 q.2.1 q.2.2 x w (fun at57 e58 out59a out59l out59c w60 => R (.returned (.tuple #[.slice out59a out59l out59c, .int .i64 at57, .int .i64 e58])) w60) (pan R) := fun w x y e he h hr => by
    unfold T_q7o
    intro X hX
    refine hX _ _ _ _ _ _ _ ?_
    unfold T_q8q_3_body T_q7p
    refine ite_b (fun hh => absurd (by simpa using hh) he) fun _ => ite_b (fun hh => by cases hh) fun _ => ?_
    exact k w (none, 0, 0) [] y e (by unfold lsp; rw [hr]; exact ⟨rfl, he⟩) (fun h0 => absurd h0 he) h.in_nil
  rcases tk_cases b ha with ⟨e, h1, he, h2⟩ | ⟨n, m, h1, ham, hml, hn, h2⟩
  · rw [h2]
    have hr : (Sn.rList (.ok (b.drop a))).2 = .error e := by unfold Sn.rList; rw [Sn.cnt_err h1]; rfl
    unfold T_q7m T_q7n
    refine ite_b (fun hh => absurd (by simpa using hh) he) fun _ => ite_b (fun hh => by cases hh) fun _ => ?_
    exact out w4 0 0 e he h4 hr
  · rw [h2]
    unfold T_q7m T_q7n
    refine ite_b (fun _ => ?_) fun hh => by simp at hh
    by_cases h9 : 9 < n
    · have hr : (Sn.rList (.ok (b.drop a))).2 = .error 4 := by unfold Sn.rList; rw [Sn.cnt_ok h1, if_pos h9]; rfl
      refine ite_b (fun _ => out w4 _ _ 4 (by decide) h4 hr) fun hh => ?_
      have := of_decide_eq_false hh
      exact absurd h9 (by show ¬ 9 < n; omega)
    · have hr : Sn.rList (.ok (b.drop a)) = Cm.rMany Sn.rI n (.ok (b.drop m)) := by unfold Sn.rList; rw [Sn.cnt_ok h1, if_neg h9]
      refine ite_b (fun hh => absurd (of_decide_eq_true hh) (by show ¬ ((n : Int) > 9); omega)) fun _ => ?_
      rw [hr] at k
      show T_q7o (m : Int) 0 none 0 0 0 q.1 q.2.1 q.2.2 (n : Int) w4 _ _
      unfold T_q7o
      intro X hX
      have go : ∀ (j : Nat) (xs : List Int) (st2 : Cm.Ps) (at_ e : Int) (o : Sl) (w : World), xs.length + j = n → lsp b st2 at_ e → St E (inA o xs :: L) w →
          Cm.rMany Sn.rI n (.ok (b.drop m)) = (xs ++ (Cm.rMany Sn.rI j st2).1, (Cm.rMany Sn.rI j st2).2) → X at_ e o.1 o.2.1 o.2.2 (xs.length : Int) w := by
        intro j
        induction j with
        | zero =>
          intro xs st2 at_ e o w hj hl h he
          refine hX _ _ _ _ _ _ _ ?_
          unfold T_q8q_3_body T_q7p
          have he' : Cm.rMany Sn.rI n (.ok (b.drop m)) = (xs, st2) := by rw [he]; simp [Cm.rMany]
          have fin : R (.returned (.tuple #[.slice o.1 o.2.1 o.2.2, .int .i64 at_, .int .i64 e])) w := k w o xs at_ e (by rw [he']; exact hl) (fun _ => by rw [he']) h
          exact ite_b (fun _ => ite_d (fun hh => absurd hh (by omega)) fun _ => fin) fun _ => ite_b (fun hh => by cases hh) fun _ => fin
        | succ j ih =>
          intro xs st2 at_ e o w hj hl h he
          refine hX _ _ _ _ _ _ _ ?_
          unfold T_q8q_3_body T_q7p
          cases st2 with
          | error x =>
            obtain ⟨e1, e2⟩ := hl
            have he' : Cm.rMany Sn.rI n (.ok (b.drop m)) = (xs, .error x) := by rw [he]; simp [Cm.rMany, Cm.bad]
            refine ite_b (fun hh => absurd (by simpa using hh) (by rw [e1]; exact e2)) fun _ => ite_b (fun hh => by cases hh) fun _ => ?_
            exact k w o xs at_ e (by rw [he']; exact ⟨e1, e2⟩) (fun _ => by rw [he']) h
          | ok r =>
            obtain ⟨e1, p, hp1, hp2, hp3⟩ := hl
            subst hp1 e1 hp3
            refine ite_b (fun _ => ite_d (fun _ => ?_) fun hh => absurd (show (xs.length : Int) < (n : Int) by omega) hh) fun hh => by simp at hh
            refine TakeNumber_spec hs (List.mem_cons_of_mem _ hm) h hp2 fun w37 h37 => ⟨_, _, _, rfl, ?_⟩
            have em : Cm.rMany Sn.rI (j + 1) (.ok (b.drop p)) = ((Sn.rI (.ok (b.drop p))).1 :: (Cm.rMany Sn.rI j (Sn.rI (.ok (b.drop p))).2).1, (Cm.rMany Sn.rI j (Sn.rI (.ok (b.drop p))).2).2) := by
              conv => lhs; unfold Cm.rMany
              rfl
            rw [em] at he
            rcases tk_cases b hp2 with ⟨x, g1, gx, g2⟩ | ⟨x, p2, g1, gp, gl, gn, g2⟩
            · rw [g2]
              rw [Sn.rI_err g1] at he
              intro w41
              obtain ⟨o', w43, hrun, h43⟩ := app_i1 (x := 0) h37 (by omega)
              refine runV_ok hrun ⟨_, _, _, rfl, ?_⟩
              rw [succ_big (by unfold big; omega)]
              have := ih (xs ++ [0]) (.error x) 0 x o' w43 (by simp; omega) ⟨rfl, gx⟩ h43 (by rw [he]; simp)
              rw [List.length_append] at this
              exact this
            · rw [g2]
              rw [Sn.rI_ok g1] at he
              intro w41
              obtain ⟨o', w43, hrun, h43⟩ := app_i1 (x := (x : Int)) h37 (by omega)
              refine runV_ok hrun ⟨_, _, _, rfl, ?_⟩
              rw [succ_big (by unfold big; omega)]
              have := ih (xs ++ [(x : Int)]) (.ok (b.drop p2)) (p2 : Int) 0 o' w43 (by simp; omega) ⟨rfl, p2, rfl, gl, rfl⟩ h43 (by rw [he]; simp)
              rw [List.length_append] at this
              exact this
      exact go n [] (.ok (b.drop m)) (m : Int) 0 (none, 0, 0) w4 (by simp) ⟨rfl, m, rfl, hml, rfl⟩ h4.in_nil (by simp)
end
end Go.Vc
namespace Go.Sn
theorem getM_err {b : Bs} {e : Int} (h : (rList (rList (.ok b)).2).2 = .error e) : getM b = .error e := by
  unfold getM
  rw [h]
theorem getM_ok {b r : Bs} (h : (rList (rList (.ok b)).2).2 = .ok r) : getM b = if r ≠ [] ∨ rightM ⟨(rList (.ok b)).1, (rList (rList (.ok b)).2).1⟩ = false then .error 4 else .ok ⟨(rList (.ok b)).1, (rList (rList (.ok b)).2).1⟩ := by
  unfold getM
  rw [h]
theorem rMany_len {α : Type} {f : Cm.Ps → α × Cm.Ps} : ∀ (n : Nat) (s : Cm.Ps), (Cm.rMany f n s).1.length ≤ n
  | 0, s => by simp [Cm.rMany]
  | n + 1, s => by
    have := rMany_len (f := f) n (f s).2
    unfold Cm.rMany
    split
    · simp
    · simp; omega
theorem cnt_le (s : Cm.Ps) : (cnt s).1 ≤ 9 := by
  unfold cnt
  split
  · split
    · simp
    · simp; omega
  · simp
theorem rList_len (s : Cm.Ps) : (rList s).1.length ≤ 9 := Nat.le_trans (rMany_len _ _) (cnt_le s)
end Go.Sn
namespace Go.Vc
open Go Go.Proofs Go.Proofs.YtclinifclfahfaaGreat
set_option maxRecDepth 100000
section
variable {E w : World} {L : List Asrt} {R : RT} {F G : Fz} {q s : Sl} {b : Cm.Bs} {l : List Int} {xs : Cm.Bs}
theorem lsp_err {st : Cm.Ps} {at_ e : Int} (h : lsp b st at_ e) (he : e ≠ 0) : st = .error e := by
  cases st with
  | error x => rw [h.1]
  | ok r => exact absurd h.1 he
theorem lsp_ok {st : Cm.Ps} {at_ e : Int} (h : lsp b st at_ e) (he : e = 0) : ∃ m : Nat, at_ = m ∧ m ≤ b.length ∧ st = .ok (b.drop m) := by
  cases st with
  | error x => exact absurd (h.1.symm.trans he) h.2
  | ok r => obtain ⟨_, m, h1, h2, h3⟩ := h; exact ⟨m, h1, h2, by rw [h3]⟩
theorem St.kn_less (h : St E (kn G :: L) w) (k : Fz.le F G) : St E (kn F :: L) w := h.mono fun _ hx b o hb => hx b o (k b o hb)
abbrev nilS : Sl := (none, 0, 0)
set_option maxHeartbeats 1000000 in
theorem MGet_spec (hs : Src F q b) (h : St E (kn F :: L) w)
    (kE : ∀ (w' : World) (e : Int), Sn.getM b = .error e → e ≠ 0 → St E (kn F :: L) w' → R (.returned (.tuple #[memV nilS nilS, .int .i64 e])) w')
    (kO : ∀ (G : Fz) (w' : World) (v l : Sl) (m : Sn.Mem), Fz.le F G → Sn.getM b = .ok m → memR G v l m → St E (kn G :: L) w' → R (.returned (.tuple #[memV v l, .int .i64 0])) w') :
    Calls Tryz.prog 49 #[.slice q.1 q.2.1 q.2.2] w R := by
  refine C_q9d ?_
  unfold T_q9d
  intro w2 w3
  have h3 : St E (blkL w2.heap.size 26 (memL nilS nilS) :: blkL w.heap.size 26 (memL nilS nilS) :: kn F :: L) w3 :=
    (h.alloc (.cells ⟨memL nilS nilS⟩ 26)).alloc (.cells ⟨memL nilS nilS⟩ 26)
  clear_value w3
  generalize w2.heap.size = bo at *
  generalize w.heap.size = bm at *
  have hql : b.length = q.2.1 := hs.len
  have errs : ∀ {w : World} {e : Int} {c : List Value} {L2 : List Asrt}, c.length = 2 → Sn.getM b = .error e → e ≠ 0 → (∀ {w : World}, St E (blkL bm 26 (memL nilS nilS) :: L2) w → St E (kn F :: L) w) → St E (blkL bm 26 c :: L2) w →
      (wrOk w ⟨bm, 0, none⟩ (memV nilS nilS)) ∧ ∃ (s11a : Option Addr) (s11l s11c : Nat) (s12a : Option Addr) (s12l s12c : Nat), rd (wr w ⟨bm, 0, none⟩ (memV nilS nilS)) ⟨bm, 0, none⟩ (.agg #[.slice s11a s11l s11c, .slice s12a s12l s12c]) ∧ R (.returned (.tuple #[.agg #[.slice s11a s11l s11c, .slice s12a s12l s12c], .int .i64 e])) (wr w ⟨bm, 0, none⟩ (memV nilS nilS)) := fun {w e c L2} hc he hne hL h =>
    ⟨ok_mem h hc _ _, _, _, _, _, _, _, rd_mem (h.wr_mem hc nilS nilS), kE _ e he hne (hL (h.wr_mem hc _ _))⟩
  refine mlist_spec (a := 0) (L := blkL bo 26 (memL nilS nilS) :: blkL bm 26 (memL nilS nilS) :: kn F :: L) hs (by simp) (Nat.zero_le _) h3 fun w5 o5 xs5 at5 e5 hl5 hx5 h5 => ⟨_, _, _, _, _, rfl, rfl, ?_⟩
  rw [List.drop_zero] at hl5 hx5
  have h5' := h5.sel 4 [1, 0, 2, 3]
  refine ⟨wrOk_cell h5'.at_blk (by decide) rfl, ?_⟩
  intro w9
  have h9 : St E (blkL bo 26 (memL o5 nilS) :: inA o5 xs5 :: blkL bm 26 (memL nilS nilS) :: kn F :: L) w9 := h5'.wr_cell rfl
  clear_value w9
  refine ite_b (fun hh => ?_) fun hh => ?_
  · have he : e5 ≠ 0 := by simpa using hh
    have hg : Sn.getM b = .error e5 := Sn.getM_err (by rw [lsp_err hl5 he]; rfl)
    have hp : St E (blkL bm 26 (memL nilS nilS) :: blkL bo 26 (memL o5 nilS) :: inA o5 xs5 :: kn F :: L) w9 := h9.sel 4 [2, 0, 1, 3]
    exact ⟨rfl, errs rfl hg he (by intro w h; exact h.sel 4 [3]) hp⟩
  have he : e5 = 0 := by simpa using hh
  obtain ⟨m5, rfl, hm5, hst⟩ := lsp_ok hl5 he
  have hx := hx5 he
  subst hx
  clear hx5 hl5 hh
  refine mlist_spec (a := m5) (L := blkL bo 26 (memL o5 nilS) :: inA o5 (Sn.rList (.ok b)).1 :: blkL bm 26 (memL nilS nilS) :: kn F :: L) hs (by simp) hm5 h9 fun w14 o14 xs14 at14 e14 hl14 hx14 h14 => ⟨_, _, _, _, _, rfl, rfl, ?_⟩
  rw [← hst] at hl14 hx14
  have h14' := h14.sel 5 [1, 0, 2, 3, 4]
  refine ⟨wrOk_fld (k := 1) h14'.at_blk (by show 1 < 2; decide) rfl, ?_⟩
  intro w18
  have h18 : St E (blkL bo 26 (memL o5 o14) :: inA o14 xs14 :: inA o5 (Sn.rList (.ok b)).1 :: blkL bm 26 (memL nilS nilS) :: kn F :: L) w18 := h14'.wr_fld (k := 1) rfl
  clear_value w18
  refine ite_b (fun hh => ?_) fun hh => ?_
  · have he : e14 ≠ 0 := by simpa using hh
    have hg : Sn.getM b = .error e14 := Sn.getM_err (lsp_err hl14 he)
    have hp : St E (blkL bm 26 (memL nilS nilS) :: blkL bo 26 (memL o5 o14) :: inA o14 xs14 :: inA o5 (Sn.rList (.ok b)).1 :: kn F :: L) w18 := h18.sel 5 [3, 0, 1, 2, 4]
    exact ⟨rfl, errs rfl hg he (by intro w h; exact h.sel 5 [4]) hp⟩
  have he2 : e14 = 0 := by simpa using hh
  obtain ⟨m14, rfl, hm14, hst2⟩ := lsp_ok hl14 he2
  have hx := hx14 he2
  subst hx
  clear hx14 hl14 hh
  have hgo := Sn.getM_ok hst2
  rw [← hql]
  refine ite_d (fun hh => ?_) fun hh => ?_
  · have hne : b.drop m14 ≠ [] := by
      intro h0
      have := congrArg List.length h0
      simp at this; omega
    rw [if_pos (.inl hne)] at hgo
    have hp : St E (blkL bm 26 (memL nilS nilS) :: blkL bo 26 (memL o5 o14) :: inA o14 (Sn.rList (Sn.rList (.ok b)).2).1 :: inA o5 (Sn.rList (.ok b)).1 :: kn F :: L) w18 := h18.sel 5 [3, 0, 1, 2, 4]
    exact ⟨rfl, errs rfl hgo (by decide) (by intro w h; exact h.sel 5 [4]) hp⟩
  have hz : b.drop m14 = [] := List.drop_eq_nil_of_le (by omega)
  have h18' : St E (inA o14 (Sn.rList (Sn.rList (.ok b)).2).1 :: kn F :: inA o5 (Sn.rList (.ok b)).1 :: blkL bo 26 (memL o5 o14) :: blkL bm 26 (memL nilS nilS) :: L) w18 := h18.sel 5 [1, 4, 2, 0, 3]
  obtain ⟨G1, hG1, h18a, hr1⟩ := St.freezeS h18'
  have h18a' : St E (inA o5 (Sn.rList (.ok b)).1 :: kn G1 :: blkL bo 26 (memL o5 o14) :: blkL bm 26 (memL nilS nilS) :: L) w18 := h18a.sel 4 [1, 0, 2, 3]
  obtain ⟨G2, hG2, h18b, hr2⟩ := St.freezeS h18a'
  have hk : Fz.le F G2 := Fz.le_trans hG1 hG2
  have hmr : memR G2 o5 o14 ⟨(Sn.rList (.ok b)).1, (Sn.rList (Sn.rList (.ok b)).2).1⟩ := ⟨hr2, hr1.mono hG2⟩
  have h18c : St E (blkL bo 26 (memL o5 o14) :: blkL bm 26 (memL nilS nilS) :: kn G2 :: L) w18 := h18b.sel 3 [1, 2, 0]
  refine ⟨_, _, _, _, _, _, rd_mem h18c, ?_⟩
  have l1 := Sn.rList_len (.ok b)
  have l2 := Sn.rList_len (Sn.rList (.ok b)).2
  have hh9 : huge = 9223372036854775807 := rfl
  refine Right_spec (by simp) hmr (by show (Sn.rList (.ok b)).1.length ≤ _; omega) (by show (Sn.rList (Sn.rList (.ok b)).2).1.length ≤ _; omega) h18c fun w28 h28 => ⟨_, rfl, ite_n (fun hz2 => ?_) fun hz2 => ?_⟩
  · rw [if_pos (.inr hz2)] at hgo
    have hp : St E (blkL bm 26 (memL nilS nilS) :: blkL bo 26 (memL o5 o14) :: kn G2 :: L) w28 := h28.sel 3 [1, 0, 2]
    exact ⟨rfl, errs rfl hgo (by decide) (by intro w h; exact St.kn_less (h.sel 3 [2]) hk) hp⟩
  rw [if_neg (by rw [hz, hz2]; simp)] at hgo
  refine ⟨_, _, _, _, _, _, rd_mem h28, rfl, ok_mem (h28.sel 3 [1, 0, 2]) rfl _ _, ?_⟩
  intro w35
  have h35 : St E (blkL bm 26 (memL o5 o14) :: blkL bo 26 (memL o5 o14) :: kn G2 :: L) w35 := (h28.sel 3 [1, 0, 2]).wr_mem rfl o5 o14
  exact ⟨_, _, _, _, _, _, rd_mem h35, kO G2 w35 o5 o14 _ hk hgo hmr (h35.sel 3 [2])⟩
end
end Go.Vc
namespace Go.Sn
theorem rightM_ref (m : Mem) : rightM m = (((upI m.v && !m.v.any fun n => decide (n ∈ m.l)) && upI m.l) && decide (0 < m.v.length)) := by
  have hd : (m.l.all fun n => !decide (n ∈ m.v)) = !m.v.any fun n => decide (n ∈ m.l) := by
    rw [Bool.eq_iff_iff]
    simp only [List.all_eq_true, Bool.not_eq_true', decide_eq_false_iff_not, List.any_eq_false, decide_eq_true_eq]
    constructor
    · intro h x hx hl
      exact h x hl hx
    · intro h x hx hl
      exact h x hl hx
  have he : decide (m.v ≠ []) = decide (0 < m.v.length) := by
    cases m.v <;> simp
  unfold rightM
  rw [hd, he]
  cases decide (0 < m.v.length) <;> cases upI m.v <;> cases upI m.l <;> cases (m.v.any fun n => decide (n ∈ m.l)) <;> rfl
end Go.Sn
namespace Go.Vc
open Go Go.Proofs Go.Proofs.YtclinifclfahfaaGreat
set_option maxRecDepth 100000
section
variable {E w : World} {L : List Asrt} {R : RT} {F G : Fz} {q s : Sl} {b : Cm.Bs} {l : List Int} {xs : Cm.Bs}
theorem RIn_spec {n : Int} (hq : Sees E L s.1 s.2.1 1 (intV l)) (hl : l.length ≤ huge) (h : St E L w) (k : ∀ w', St E L w' → R (.returned (.bool (decide (n ∈ l)))) w') : Calls Tryz.prog 109 #[.slice s.1 s.2.1 s.2.2, .int .i64 n] w R := by
  have hh : huge = 9223372036854775807 := rfl
  have hlen := rdi_len (hq w h)
  refine C_qab ?_
  unfold T_qab T_q9i
  intro X hX
  refine up_to l.length (Q := fun j => ∀ w, n ∉ l.take j → St E L w → X (j : Int) w) ?_ w (by simp) h
  intro j hj ih w hno h
  refine hX _ _ ?_
  unfold T_qab_1_body
  rw [← hlen]
  refine ite_d (fun hc => ?_) fun hc => ?_
  · have hjl : j < l.length := by omega
    obtain ⟨ad, ha, hrd⟩ := rdi_at (hq w h) hjl
    rw [Int.toNat_natCast]
    refine ⟨by omega, by omega, ad, ha, _, hrd, ?_⟩
    refine ite_b (fun he => ?_) fun he => ?_
    · have he : l[j] = n := by simpa using he
      exact congB (k w h) (decide_eq_true (by rw [← he]; exact List.getElem_mem hjl))
    · have he : n ≠ l[j] := fun h => by simp [h] at he
      rw [succ_huge (by omega)]
      refine ih hjl w ?_ h
      have := mem_take_succ hjl n
      rw [decide_eq_false hno, decide_eq_false he] at this
      exact of_decide_eq_false this
  · have : j = l.length := by omega
    subst this
    rw [List.take_length] at hno
    exact congB (k w h) (decide_eq_false hno)
set_option maxHeartbeats 1000000 in
theorem RRight_spec {v l : Sl} {m : Sn.Mem} (hm : kn F ∈ L) (r : memR F v l m) (z1 : m.v.length ≤ huge) (z2 : m.l.length ≤ huge) (h : St E L w) (k : ∀ w', St E L w' → R (.returned (.bool (Sn.rightM m))) w') : Calls Tryz.prog 86 #[memV v l] w R := by
  have hh : huge = 9223372036854775807 := rfl
  refine C_q8w ?_
  unfold T_q8w
  intro w3
  have h3 : St E (blkL w.heap.size 26 (memL v l) :: L) w3 := h.alloc (.cells ⟨memL v l⟩ 26)
  clear_value w3
  generalize w.heap.size = bm at *
  have lv : m.v.length = v.2.1 := rdi_len (r.1.at h3 (List.mem_cons_of_mem _ hm))
  have ll : m.l.length = l.2.1 := rdi_len (r.2.at h3 (List.mem_cons_of_mem _ hm))
  have hv : Sees E (blkL bm 26 (memL v l) :: L) v.1 v.2.1 1 (intV m.v) := r.1.sees (List.mem_cons_of_mem _ hm)
  have hll : Sees E (blkL bm 26 (memL v l) :: L) l.1 l.2.1 1 (intV m.l) := r.2.sees (List.mem_cons_of_mem _ hm)
  have fin : ∀ {w : World}, Sn.rightM m = false → St E (blkL bm 26 (memL v l) :: L) w → R (.returned (.bool false)) w := fun {w} e h => congB (k w h.drop) e
  have hr := Sn.rightM_ref m
  have allv : Sn.upI m.v = Sn.okTo Sn.ltI Sn.okN m.v m.v.length := (Sn.okTo_all ..).symm
  have alll : Sn.upI m.l = Sn.okTo Sn.ltI Sn.okN m.l m.l.length := (Sn.okTo_all ..).symm
  have badv : ∀ {w : World} {j : Nat}, j ≤ m.v.length → Sn.okTo Sn.ltI Sn.okN m.v j = false → St E (blkL bm 26 (memL v l) :: L) w → R (.returned (.bool false)) w := fun {w j} hj hf h => by
    have := Sn.okTo_false hj hf
    have e : Sn.upI m.v = false := this
    rw [e] at hr
    exact fin hr h
  have badl : ∀ {w : World} {j : Nat}, j ≤ m.l.length → Sn.okTo Sn.ltI Sn.okN m.l j = false → St E (blkL bm 26 (memL v l) :: L) w → R (.returned (.bool false)) w := fun {w j} hj hf h => by
    have := Sn.okTo_false hj hf
    have e : Sn.upI m.l = false := this
    rw [e] at hr
    exact fin (by rw [hr]; simp) h
  unfold T_q7r
  intro X hX
  refine up_to m.v.length (Q := fun j => ∀ w, Sn.okTo Sn.ltI Sn.okN m.v j = true → (m.v.take j).any (fun n => decide (n ∈ m.l)) = false → St E (blkL bm 26 (memL v l) :: L) w → X (j : Int) w) ?_ w3 (Sn.okTo_zero ..) (by simp) h3
  intro j hj ih w hok hno h
  refine hX _ _ ?_
  unfold T_q8w_1_body
  refine ⟨_, _, _, rd_cell h.at_blk rfl rfl, ?_⟩
  rw [← lv]
  refine ite_d (fun hc => ?_) fun hc => ?_
  · have hjl : j < m.v.length := by omega
    obtain ⟨ad, ha, hrd⟩ := rdi_at (hv w h) hjl
    have hF : Sn.okN m.v[j] = false → Sn.okTo Sn.ltI Sn.okN m.v (j + 1) = false := fun hz => by
      cases j with
      | zero => rw [Sn.okTo_one (by omega), hz]
      | succ m => rw [Sn.okTo_succ (by omega), hz]; simp
    rw [Int.toNat_natCast]
    refine ⟨_, _, _, rd_cell h.at_blk rfl rfl, by omega, by omega, ad, ha, _, hrd, ?_⟩
    refine ite_d (fun h1 => badv (j := j + 1) (by omega) (hF (decide_eq_false (by omega))) h) fun h1 => ?_
    refine ite_d (fun h2 => badv (j := j + 1) (by omega) (hF (decide_eq_false (by omega))) h) fun h2 => ?_
    have hgx : Sn.okN m.v[j] = true := decide_eq_true (by omega)
    have tail : ∀ (w : World), Sn.okTo Sn.ltI Sn.okN m.v (j + 1) = true → St E (blkL bm 26 (memL v l) :: L) w → ∃ (s13a : Option Addr) (s13l s13c : Nat), rd w ((⟨bm, 0, .none⟩ : Addr).add 1) (.slice s13a s13l s13c) ∧
        Calls Tryz.prog 109 #[.slice s13a s13l s13c, .int .i64 m.v[j]] w (ret (fun r14 w15 => ∃ b16 : Bool, r14 = .bool b16 ∧ if b16 = true then R (.returned (.bool false)) w15 else X (IntKind.wrap .i64 ((j : Int) + 1)) w15) (pan R)) := fun w hok2 h => by
      refine ⟨_, _, _, rd_fld h.at_blk rfl rfl, RIn_spec hll z2 h fun w15 h15 => ⟨_, rfl, ?_⟩⟩
      refine ite_b (fun he => ?_) fun he => ?_
      · have : m.v.any (fun n => decide (n ∈ m.l)) = true := List.any_eq_true.2 ⟨_, List.getElem_mem hjl, he⟩
        exact fin (by rw [hr, this]; simp) h15
      · rw [succ_huge (by omega)]
        exact ih hjl w15 hok2 (by rw [any_take_succ hjl, hno, he]; rfl) h15
    cases j with
    | zero =>
      refine ite_d (fun hh => absurd hh (by omega)) fun _ => ?_
      exact tail w (by rw [Sn.okTo_one (by omega), hgx]) h
    | succ i =>
      refine ite_d (fun _ => ?_) fun hh => absurd (show ((i + 1 : Nat) : Int) > 0 by omega) hh
      have hw : IntKind.wrap .i64 (((i + 1 : Nat) : Int) - 1) = (i : Int) := by rw [wrap_id (by omega) (by omega)]; omega
      rw [hw, Int.toNat_natCast]
      obtain ⟨ad2, ha2, hrd2⟩ := rdi_at (hv w h) (show i < m.v.length by omega)
      have hs : Sn.okTo Sn.ltI Sn.okN m.v (i + 1 + 1) = Sn.ltI (m.v[i]'(by omega)) m.v[i + 1] := by
        rw [Sn.okTo_succ (by omega), hok, hgx]; rfl
      refine ⟨_, _, _, rd_cell h.at_blk rfl rfl, by omega, by show (i : Int) < (v.2.1 : Nat); omega, ad2, ha2, _, hrd2, ?_⟩
      refine ite_d (fun h3 => badv (j := i + 1 + 1) (by omega) (by rw [hs]; exact decide_eq_false (by omega)) h) fun h3 => ?_
      exact tail w (by rw [hs]; exact decide_eq_true (by omega)) h
  have : j = m.v.length := by omega
  subst this
  rw [List.take_length] at hno
  rw [allv, hok, hno] at hr
  clear ih hX
  unfold T_q7s
  intro X hX
  refine up_to m.l.length (Q := fun j => ∀ w, Sn.okTo Sn.ltI Sn.okN m.l j = true → St E (blkL bm 26 (memL v l) :: L) w → X (j : Int) w) ?_ w (Sn.okTo_zero ..) h
  intro j hj ih w hok2 h
  refine hX _ _ ?_
  unfold T_q8w_2_body
  refine ⟨_, _, _, rd_fld h.at_blk rfl rfl, ?_⟩
  rw [← ll]
  refine ite_d (fun hc => ?_) fun hc => ?_
  · have hjl : j < m.l.length := by omega
    obtain ⟨ad, ha, hrd⟩ := rdi_at (hll w h) hjl
    have hF : Sn.okN m.l[j] = false → Sn.okTo Sn.ltI Sn.okN m.l (j + 1) = false := fun hz => by
      cases j with
      | zero => rw [Sn.okTo_one (by omega), hz]
      | succ m => rw [Sn.okTo_succ (by omega), hz]; simp
    rw [Int.toNat_natCast]
    refine ⟨_, _, _, rd_fld h.at_blk rfl rfl, by omega, by omega, ad, ha, _, hrd, ?_⟩
    refine ite_d (fun h1 => badl (j := j + 1) (by omega) (hF (decide_eq_false (by omega))) h) fun h1 => ?_
    refine ite_d (fun h2 => badl (j := j + 1) (by omega) (hF (decide_eq_false (by omega))) h) fun h2 => ?_
    have hgx : Sn.okN m.l[j] = true := decide_eq_true (by omega)
    cases j with
    | zero =>
      refine ite_d (fun hh => absurd hh (by omega)) fun _ => ?_
      rw [succ_huge (by omega)]
      exact ih hjl w (by rw [Sn.okTo_one (by omega), hgx]) h
    | succ i =>
      refine ite_d (fun _ => ?_) fun hh => absurd (show ((i + 1 : Nat) : Int) > 0 by omega) hh
      have hw : IntKind.wrap .i64 (((i + 1 : Nat) : Int) - 1) = (i : Int) := by rw [wrap_id (by omega) (by omega)]; omega
      rw [hw, Int.toNat_natCast]
      obtain ⟨ad2, ha2, hrd2⟩ := rdi_at (hll w h) (show i < m.l.length by omega)
      have hs : Sn.okTo Sn.ltI Sn.okN m.l (i + 1 + 1) = Sn.ltI (m.l[i]'(by omega)) m.l[i + 1] := by
        rw [Sn.okTo_succ (by omega), hok2, hgx]; rfl
      refine ⟨_, _, _, rd_fld h.at_blk rfl rfl, by omega, by show (i : Int) < (l.2.1 : Nat); omega, ad2, ha2, _, hrd2, ?_⟩
      refine ite_d (fun h3 => badl (j := i + 1 + 1) (by omega) (by rw [hs]; exact decide_eq_false (by omega)) h) fun h3 => ?_
      rw [succ_huge (by omega)]
      exact ih hjl w (by rw [hs]; exact decide_eq_true (by omega)) h
  have : j = m.l.length := by omega
  subst this
  rw [alll, hok2] at hr
  refine ⟨_, _, _, rd_cell h.at_blk rfl rfl, congB (k w h.drop) ?_⟩
  rw [hr]
  simp only [Bool.not_false, Bool.and_true, Bool.true_and]
  exact decide_eq_decide.2 (by rw [lv]; omega)
theorem Radd_spec {p : Sl} {x : Int} (hx : xs.length ≤ 1000000) (h : St E (byA p xs :: L) w) (k : ∀ (w' : World) (p' : Sl), St E (byA p' (xs ++ Cm.num x) :: L) w' → R (.returned (.slice p'.1 p'.2.1 p'.2.2)) w') :
    Calls Tryz.prog 87 #[.slice p.1 p.2.1 p.2.2, .int .i64 x] w R := by
  have hbig : big = 140737488355328 := rfl
  refine C_q9x ?_
  unfold T_q9x
  refine RNumber_spec h fun w10 s10 h10 => ⟨_, _, _, _, rfl, ?_⟩
  have h6 := Sn.numLen x
  obtain ⟨p', w14, hr, h14⟩ := app_b (c2 := s10.2.2) h10.f1 h10.rdS_own (by omega)
  exact runV_ok hr ⟨_, _, _, rfl, k _ _ h14.f1.drop⟩
set_option maxHeartbeats 1000000 in
theorem RMPut_spec {v l : Sl} {m : Sn.Mem} (hm : kn F ∈ L) (r : memR F v l m) (z1 : m.v.length ≤ huge) (z2 : m.l.length ≤ huge) (h : St E L w)
    (k : ∀ (w' : World) (p : Sl), St E (byA p (mputB m) :: L) w' → R (.returned (.tuple #[.slice p.1 p.2.1 p.2.2, .int .i64 (mputE m)])) w') : Calls Tryz.prog 42 #[memV v l] w R := by
  have hh : huge = 9223372036854775807 := rfl
  refine C_q9w ?_
  unfold T_q9w
  intro w3
  have h3 : St E (blkL w.heap.size 26 (memL v l) :: L) w3 := h.alloc (.cells ⟨memL v l⟩ 26)
  clear_value w3
  generalize w.heap.size = bm at *
  refine ⟨_, _, _, _, _, _, rd_mem h3, ?_⟩
  have lv : m.v.length = v.2.1 := rdi_len (r.1.at h3 (List.mem_cons_of_mem _ hm))
  have ll : m.l.length = l.2.1 := rdi_len (r.2.at h3 (List.mem_cons_of_mem _ hm))
  refine RRight_spec (List.mem_cons_of_mem _ hm) r z1 z2 h3 fun w7 h7 => ⟨_, rfl, ite_n (fun hz => ?_) fun hz => ?_⟩
  · rw [show mputB m = [] by unfold mputB; rw [hz]; rfl, show mputE m = 2 by unfold mputE; rw [hz]; rfl] at k
    exact k w7 (none, 0, 0) h7.drop.by_nil
  rw [show mputB m = Sn.memB m by unfold mputB; rw [if_pos hz], show mputE m = 0 by unfold mputE; rw [if_pos hz]] at k
  obtain ⟨l1, l2⟩ := right_len hz
  have hf1 := Sn.flatNum m.v; have hf2 := Sn.flatNum m.l
  have hn1 := Sn.numLen m.v.length; have hn2 := Sn.numLen m.l.length
  intro w9
  have h9 : St E (byA (some ⟨w7.heap.size, 0, .none⟩, 0, 0) [] :: blkL bm 26 (memL v l) :: L) w9 := h7.by_new [] (by decide)
  clear_value w9
  refine ⟨_, _, _, rd_cell h9.f1.at_blk rfl rfl, ?_⟩
  refine Radd_spec (p := (some ⟨w7.heap.size, 0, .none⟩, 0, 0)) (by simp) h9 fun w12 p12 h12 => ⟨_, _, _, rfl, ?_⟩
  rw [List.nil_append, ← lv] at h12
  unfold T_q8u
  intro X hX
  refine up_to m.v.length (Q := fun j => ∀ (w : World) (p : Sl), St E (byA p (Cm.num (m.v.length : Int) ++ (m.v.take j).flatMap Cm.num) :: blkL bm 26 (memL v l) :: L) w → X p.1 p.2.1 p.2.2 (j : Int) w) ?_ w12 p12 (by simpa using h12)
  intro j hj ih w p h
  refine hX _ _ _ _ _ ?_
  unfold T_q9w_1_body
  refine ⟨_, _, _, rd_cell h.f1.at_blk rfl rfl, ?_⟩
  rw [← lv]
  refine ite_d (fun hc => ?_) fun hc => ?_
  · have hjl : j < m.v.length := by omega
    obtain ⟨ad, ha, hrd⟩ := rdi_at ((r.1.sees (List.mem_cons_of_mem _ (List.mem_cons_of_mem _ hm)) : Sees E _ v.1 v.2.1 1 (intV m.v)) w h) hjl
    rw [Int.toNat_natCast]
    refine ⟨_, _, _, rd_cell h.f1.at_blk rfl rfl, by omega, by omega, ad, ha, _, hrd, ?_⟩
    have hf := Sn.flatNum (m.v.take j)
    have htl : (m.v.take j).length ≤ m.v.length := by rw [List.length_take]; omega
    refine Radd_spec (by rw [List.length_append]; omega) h fun w22 p22 h22 => ⟨_, _, _, rfl, ?_⟩
    rw [succ_huge (by omega)]
    refine ih hjl _ _ ?_
    rw [List.take_succ_eq_append_getElem hjl, List.flatMap_append]
    simpa using h22
  have : j = m.v.length := by omega
  subst this
  rw [List.take_length] at h
  clear ih hX
  refine ⟨_, _, _, rd_fld h.f1.at_blk rfl rfl, ?_⟩
  refine Radd_spec (by rw [List.length_append]; omega) h fun w32 p32 h32 => ⟨_, _, _, rfl, ?_⟩
  rw [← ll] at h32
  unfold T_q8v
  intro X hX
  refine up_to m.l.length (Q := fun j => ∀ (w : World) (p : Sl), St E (byA p (Cm.num (m.v.length : Int) ++ m.v.flatMap Cm.num ++ Cm.num (m.l.length : Int) ++ (m.l.take j).flatMap Cm.num) :: blkL bm 26 (memL v l) :: L) w → X p.1 p.2.1 p.2.2 (j : Int) w) ?_ w32 p32 (by simpa using h32)
  intro j hj ih w p h
  refine hX _ _ _ _ _ ?_
  unfold T_q9w_2_body
  refine ⟨_, _, _, rd_fld h.f1.at_blk rfl rfl, ?_⟩
  rw [← ll]
  refine ite_d (fun hc => ?_) fun hc => ?_
  · have hjl : j < m.l.length := by omega
    obtain ⟨ad, ha, hrd⟩ := rdi_at ((r.2.sees (List.mem_cons_of_mem _ (List.mem_cons_of_mem _ hm)) : Sees E _ l.1 l.2.1 1 (intV m.l)) w h) hjl
    rw [Int.toNat_natCast]
    refine ⟨_, _, _, rd_fld h.f1.at_blk rfl rfl, by omega, by omega, ad, ha, _, hrd, ?_⟩
    have hf := Sn.flatNum (m.l.take j)
    have htl : (m.l.take j).length ≤ m.l.length := by rw [List.length_take]; omega
    refine Radd_spec (by simp only [List.length_append]; omega) h fun w22 p22 h22 => ⟨_, _, _, rfl, ?_⟩
    rw [succ_huge (by omega)]
    refine ih hjl _ _ ?_
    rw [List.take_succ_eq_append_getElem hjl, List.flatMap_append]
    simpa using h22
  have : j = m.l.length := by omega
  subst this
  rw [List.take_length] at h
  refine k w p ?_
  have := h.f1.drop
  unfold Sn.memB Sn.numsB
  simpa using this
end
end Go.Vc
namespace Go.Vc
open Go Go.Proofs Go.Proofs.YtclinifclfahfaaGreat
set_option maxRecDepth 100000
section
variable {E w : World} {L : List Asrt} {R : RT} {F G : Fz} {q s : Sl} {b : Cm.Bs} {l : List Int} {xs : Cm.Bs}
def getL (bm br : Nat) (sv sl : Sl) (lv ll : List Int) (F : Fz) (L : List Asrt) : List Asrt := blkL bm 26 (memL sv sl) :: inA sv lv :: inA sl ll :: blkL br 26 (memL nilS nilS) :: kn F :: L
set_option maxHeartbeats 1000000 in
theorem rget2_spec {bm br : Nat} {sv sl : Sl} {lv ll : List Int} {part n a : Nat} {Kn Kr : Int → World → Prop} (hs : Src F q b) (ha : a ≤ b.length) (hn : n ≤ 9) (hlv : lv.length ≤ 100) (hll : ll.length ≤ 100)
    (h : St E (getL bm br sv sl lv ll F L) w)
    (kE : ∀ (w' : World) (e : Int), (Cm.rMany Sn.rI n (.ok (b.drop a))).2 = .error e → e ≠ 0 → St E (blkL br 26 (memL nilS nilS) :: kn F :: L) w' → Kr e w')
    (kN : ∀ (w' : World) (sv' sl' : Sl) (m : Nat), (Cm.rMany Sn.rI n (.ok (b.drop a))).2 = .ok (b.drop m) → m ≤ b.length →
      St E (getL bm br sv' sl' (if part = 0 then lv ++ (Cm.rMany Sn.rI n (.ok (b.drop a))).1 else lv) (if part = 0 then ll else ll ++ (Cm.rMany Sn.rI n (.ok (b.drop a))).1) F L) w' → Kn (m : Int) w') :
    T_q8t (a : Int) 0 q.1 q.2.1 q.2.2 ⟨br, 0, none⟩ ⟨bm, 0, none⟩ (part : Int) (n : Int) w Kn Kr (pan R) := by
  unfold T_q8t
  intro X hX
  have go : ∀ (j p : Nat) (xs : List Int) (sv sl : Sl) (w : World), xs.length + j = n → p ≤ b.length →
      St E (getL bm br sv sl (if part = 0 then lv ++ xs else lv) (if part = 0 then ll else ll ++ xs) F L) w →
      Cm.rMany Sn.rI n (.ok (b.drop a)) = (xs ++ (Cm.rMany Sn.rI j (.ok (b.drop p))).1, (Cm.rMany Sn.rI j (.ok (b.drop p))).2) → X (p : Int) (xs.length : Int) w := by
    intro j
    induction j with
    | zero =>
      intro p xs sv sl w hj hp h he
      refine hX _ _ _ ?_
      unfold T_q9v_2_body
      have he' : Cm.rMany Sn.rI n (.ok (b.drop a)) = (xs, .ok (b.drop p)) := by rw [he]; simp [Cm.rMany]
      exact ite_d (fun hh => absurd hh (by omega)) fun _ => kN w sv sl p (by rw [he']) hp (by rw [he']; exact h)
    | succ j ih =>
      intro p xs sv sl w hj hp h he
      refine hX _ _ _ ?_
      unfold T_q9v_2_body
      refine ite_d (fun _ => ?_) fun hh => absurd (show (xs.length : Int) < (n : Int) by omega) hh
      refine RTakeNumber_spec (at_ := p) hs (by simp [getL]) h hp fun w25 h25 => ⟨_, _, _, rfl, ?_⟩
      have em : Cm.rMany Sn.rI (j + 1) (.ok (b.drop p)) = ((Sn.rI (.ok (b.drop p))).1 :: (Cm.rMany Sn.rI j (Sn.rI (.ok (b.drop p))).2).1, (Cm.rMany Sn.rI j (Sn.rI (.ok (b.drop p))).2).2) := by
        conv => lhs; unfold Cm.rMany
        rfl
      rw [em] at he
      rcases tk_cases b hp with ⟨x, g1, gx, g2⟩ | ⟨x, p2, g1, gp, gl, gn, g2⟩
      · rw [g2]
        rw [Sn.rI_err g1] at he
        refine ite_b (fun _ => ?_) fun hh => absurd (by simpa using hh) gx
        have hp5 : St E (blkL br 26 (memL nilS nilS) :: kn F :: L) w25 := h25.sel 5 [3, 4]
        refine ⟨rfl, ok_mem hp5 rfl nilS nilS, kE _ x ?_ gx (hp5.wr_mem rfl nilS nilS)⟩
        rw [he]
        cases j <;> rfl
      · rw [g2]
        rw [Sn.rI_ok g1] at he
        refine ite_b (fun hh => by simp at hh) fun _ => ?_
        have hxs : xs.length ≤ 9 := by omega
        have nxt : Cm.rMany Sn.rI n (.ok (b.drop a)) = ((xs ++ [(x : Int)]) ++ (Cm.rMany Sn.rI j (.ok (b.drop p2))).1, (Cm.rMany Sn.rI j (.ok (b.drop p2))).2) := by rw [he]; simp
        have hsc : IntKind.wrap .i64 ((xs.length : Int) + 1) = ((xs ++ [(x : Int)]).length : Int) := by
          rw [succ_big (by unfold big; omega)]; simp
        have h25 : St E (blkL bm 26 (memL sv sl) :: inA sv (if part = 0 then lv ++ xs else lv) :: inA sl (if part = 0 then ll else ll ++ xs) :: blkL br 26 (memL nilS nilS) :: kn F :: L) w25 := h25
        refine ite_b (fun hz => ?_) fun hz => ?_
        · have hz : part = 0 := by simpa using hz
          subst hz
          simp only [if_true] at h25 ih h kN
          refine ⟨_, _, _, rd_cell h25.at_blk rfl rfl, ?_⟩
          intro w31
          have h25' : St E (inA sv (lv ++ xs) :: blkL bm 26 (memL sv sl) :: inA sl ll :: blkL br 26 (memL nilS nilS) :: kn F :: L) w25 := h25.sel 2 [1, 0]
          obtain ⟨o', w43, hrun, h43⟩ := app_i1 (x := (x : Int)) h25' (by rw [List.length_append]; omega)
          refine runV_ok hrun ⟨_, _, _, rfl, rfl, ?_⟩
          have h43' : St E (blkL bm 26 (memL sv sl) :: inA o' (lv ++ xs ++ [(x : Int)]) :: inA sl ll :: blkL br 26 (memL nilS nilS) :: kn F :: L) w43 := h43.sel 2 [1, 0]
          refine ⟨wrOk_cell h43'.at_blk (by show 0 < 2; decide) rfl, ?_⟩
          rw [hsc]
          refine ih p2 (xs ++ [(x : Int)]) o' sl _ (by simp; omega) gl ?_ nxt
          have : St E (blkL bm 26 (memL o' sl) :: inA o' (lv ++ xs ++ [(x : Int)]) :: inA sl ll :: blkL br 26 (memL nilS nilS) :: kn F :: L) (wr w43 ⟨bm, 0, none⟩ (.slice o'.1 o'.2.1 o'.2.2)) := h43'.wr_cell rfl
          rw [List.append_assoc] at this
          exact this
        · have hz : part ≠ 0 := by simpa using hz
          simp only [if_neg hz] at h25 ih h kN
          refine ⟨_, _, _, rd_fld h25.at_blk rfl rfl, ?_⟩
          intro w31
          have h25' : St E (inA sl (ll ++ xs) :: blkL bm 26 (memL sv sl) :: inA sv lv :: blkL br 26 (memL nilS nilS) :: kn F :: L) w25 := h25.sel 3 [2, 0, 1]
          obtain ⟨o', w43, hrun, h43⟩ := app_i1 (x := (x : Int)) h25' (by rw [List.length_append]; omega)
          refine runV_ok hrun ⟨_, _, _, rfl, rfl, ?_⟩
          have h43' : St E (blkL bm 26 (memL sv sl) :: inA sv lv :: inA o' (ll ++ xs ++ [(x : Int)]) :: blkL br 26 (memL nilS nilS) :: kn F :: L) w43 := h43.sel 3 [1, 2, 0]
          refine ⟨wrOk_fld (k := 1) h43'.at_blk (by show 1 < 2; decide) rfl, ?_⟩
          rw [hsc]
          refine ih p2 (xs ++ [(x : Int)]) sv o' _ (by simp; omega) gl ?_ nxt
          have : St E (blkL bm 26 (memL sv o') :: inA sv lv :: inA o' (ll ++ xs ++ [(x : Int)]) :: blkL br 26 (memL nilS nilS) :: kn F :: L) (wr w43 ((⟨bm, 0, none⟩ : Addr).add 1) (.slice o'.1 o'.2.1 o'.2.2)) := h43'.wr_fld (k := 1) rfl
          rw [List.append_assoc] at this
          exact this
  exact go n a [] sv sl w (by simp) ha (by simpa using h) (by simp)
theorem rList_bad {st : Cm.Ps} {e : Int} (h : st = .error e) : (Sn.rList st).2 = .error e := by rw [h]; rfl
theorem rget1_part {bm br : Nat} {sv sl : Sl} {lv ll : List Int} {part a : Nat} {X : Int → Int → World → Prop} {Kn Kr : Int → World → Prop} (hs : Src F q b) (ha : a ≤ b.length) (hp : part < 2) (hlv : lv.length ≤ 100) (hll : ll.length ≤ 100)
    (h : St E (getL bm br sv sl lv ll F L) w)
    (kE : ∀ (w' : World) (e : Int), (Sn.rList (.ok (b.drop a))).2 = .error e → e ≠ 0 → St E (blkL br 26 (memL nilS nilS) :: kn F :: L) w' → Kr e w')
    (kN : ∀ (w' : World) (sv' sl' : Sl) (m : Nat), (Sn.rList (.ok (b.drop a))).2 = .ok (b.drop m) → m ≤ b.length →
      St E (getL bm br sv' sl' (if part = 0 then lv ++ (Sn.rList (.ok (b.drop a))).1 else lv) (if part = 0 then ll else ll ++ (Sn.rList (.ok (b.drop a))).1) F L) w' → X (m : Int) ((part + 1 : Nat) : Int) w') :
    T_q9v_1_body X (a : Int) (part : Int) q.1 q.2.1 q.2.2 ⟨br, 0, none⟩ ⟨bm, 0, none⟩ w Kn Kr (pan R) := by
  unfold T_q9v_1_body
  refine ite_d (fun _ => ?_) fun hh => absurd (show (part : Int) < 2 by omega) hh
  refine RTakeNumber_spec (at_ := a) hs (by simp [getL]) h ha fun w11 h11 => ⟨_, _, _, rfl, ?_⟩
  have hp5 : St E (blkL br 26 (memL nilS nilS) :: kn F :: L) w11 := h11.sel 5 [3, 4]
  rcases tk_cases b ha with ⟨x, g1, gx, g2⟩ | ⟨x, p2, g1, gp, gl, gn, g2⟩
  · rw [g2]
    refine ite_b (fun _ => ?_) fun hh => absurd (by simpa using hh) gx
    refine ⟨rfl, ok_mem hp5 rfl nilS nilS, kE _ x ?_ gx (hp5.wr_mem rfl nilS nilS)⟩
    unfold Sn.rList; rw [Sn.cnt_err g1]; rfl
  · rw [g2]
    refine ite_b (fun hh => by simp at hh) fun _ => ?_
    by_cases h9 : 9 < x
    · refine ite_d (fun _ => ?_) fun hh => absurd (show (x : Int) > 9 by omega) hh
      refine ⟨rfl, ok_mem hp5 rfl nilS nilS, kE _ 4 ?_ (by decide) (hp5.wr_mem rfl nilS nilS)⟩
      unfold Sn.rList; rw [Sn.cnt_ok g1, if_pos h9]; rfl
    · refine ite_d (fun hh => absurd hh (by show ¬ ((x : Int) > 9); omega)) fun _ => ?_
      have hr : Sn.rList (.ok (b.drop a)) = Cm.rMany Sn.rI x (.ok (b.drop p2)) := by unfold Sn.rList; rw [Sn.cnt_ok g1, if_neg h9]
      rw [hr] at kE kN
      refine rget2_spec hs gl (by omega) hlv hll h11 (fun w' e h1 h2 h3 => kE w' e h1 h2 h3) fun w' sv' sl' m h1 h2 h3 => ?_
      have := kN w' sv' sl' m h1 h2 h3
      rw [show IntKind.wrap .i64 ((part : Int) + 1) = ((part + 1 : Nat) : Int) by rw [succ_big (by unfold big; omega)]]
      exact this
set_option maxHeartbeats 1000000 in
theorem RMGet_spec (hs : Src F q b) (h : St E (kn F :: L) w)
    (kE : ∀ (w' : World) (e : Int), Sn.getM b = .error e → e ≠ 0 → St E (kn F :: L) w' → R (.returned (.tuple #[memV nilS nilS, .int .i64 e])) w')
    (kO : ∀ (G : Fz) (w' : World) (v l : Sl) (m : Sn.Mem), Fz.le F G → Sn.getM b = .ok m → memR G v l m → St E (kn G :: L) w' → R (.returned (.tuple #[memV v l, .int .i64 0])) w') :
    Calls Tryz.prog 52 #[.slice q.1 q.2.1 q.2.2] w R := by
  refine C_q9v ?_
  unfold T_q9v
  intro w2 w3
  have h3 : St E (blkL w2.heap.size 26 (memL nilS nilS) :: blkL w.heap.size 26 (memL nilS nilS) :: kn F :: L) w3 :=
    (h.alloc (.cells ⟨memL nilS nilS⟩ 26)).alloc (.cells ⟨memL nilS nilS⟩ 26)
  clear_value w3
  generalize w2.heap.size = bm at *
  generalize w.heap.size = br at *
  have hql : b.length = q.2.1 := hs.len
  refine ⟨rfl, ok_mem h3 rfl nilS nilS, ?_⟩
  intro w4
  have h4 : St E (blkL bm 26 (memL nilS nilS) :: blkL br 26 (memL nilS nilS) :: kn F :: L) w4 := h3.wr_mem rfl nilS nilS
  clear_value w4
  have h4' : St E (getL bm br nilS nilS [] [] F L) w4 := (h4.in_nil.in_nil).sel 3 [2, 0, 1]
  have out : ∀ {w : World} {e : Int}, Sn.getM b = .error e → e ≠ 0 → St E (blkL br 26 (memL nilS nilS) :: kn F :: L) w → ∃ (s11a : Option Addr) (s11l s11c : Nat) (s12a : Option Addr) (s12l s12c : Nat), rd w ⟨br, 0, none⟩ (.agg #[.slice s11a s11l s11c, .slice s12a s12l s12c]) ∧
      R (.returned (.tuple #[.agg #[.slice s11a s11l s11c, .slice s12a s12l s12c], .int .i64 e])) w := fun {w e} hg he h => ⟨_, _, _, _, _, _, rd_mem h, kE _ e hg he h.drop⟩
  unfold T_q8s
  intro X hX
  refine hX _ _ _ ?_
  refine rget1_part (a := 0) (part := 0) hs (Nat.zero_le _) (by decide) (by simp) (by simp) h4' (fun w' e h1 h2 h3 => ?_) fun w' sv sl m1 h1 hm1 h => ?_
  · refine out (Sn.getM_err (rList_bad ?_)) h2 h3
    simpa using h1
  rw [List.drop_zero, if_pos rfl, if_pos rfl, List.nil_append] at h
  rw [List.drop_zero] at h1
  refine hX _ _ _ ?_
  have hl1 := Sn.rList_len (.ok b)
  refine rget1_part (a := m1) (part := 1) hs hm1 (by decide) (by omega) (by simp) h (fun w' e h4 h2 h3 => ?_) fun w' sv2 sl2 m2 h2 hm2 h => ?_
  · exact out (Sn.getM_err (by rw [h1]; exact h4)) h2 h3
  rw [if_neg (by decide), if_neg (by decide), List.nil_append, ← h1] at h
  unfold getL at h
  rw [← h1] at h2
  have hl2 := Sn.rList_len (Sn.rList (.ok b)).2
  refine hX _ _ _ ?_
  unfold T_q9v_1_body
  refine ite_d (fun hh => absurd hh (by decide)) fun _ => ?_
  have hgo := Sn.getM_ok h2
  rw [← hql]
  refine ite_b (fun hh => ?_) fun hh => ?_
  · have hne : b.drop m2 ≠ [] := by
      intro h0
      have := congrArg List.length h0
      rw [List.length_drop] at this
      have h5 : (m2 : Int) ≠ (b.length : Nat) := by simpa using hh
      simp at this; omega
    rw [if_pos (.inl hne)] at hgo
    have hp5 : St E (blkL br 26 (memL nilS nilS) :: kn F :: L) w' := h.sel 5 [3, 4]
    exact ⟨rfl, ok_mem hp5 rfl nilS nilS, out hgo (by decide) (hp5.wr_mem rfl nilS nilS)⟩
  have hz : b.drop m2 = [] := List.drop_eq_nil_of_le (by have : (m2 : Int) = (b.length : Nat) := by simpa using hh
                                                         omega)
  have h18 : St E (inA sl2 (Sn.rList (Sn.rList (.ok b)).2).1 :: kn F :: inA sv2 (Sn.rList (.ok b)).1 :: blkL bm 26 (memL sv2 sl2) :: blkL br 26 (memL nilS nilS) :: L) w' := h.sel 5 [2, 4, 1, 0, 3]
  obtain ⟨G1, hG1, h18a, hr1⟩ := St.freezeS h18
  have h18a' : St E (inA sv2 (Sn.rList (.ok b)).1 :: kn G1 :: blkL bm 26 (memL sv2 sl2) :: blkL br 26 (memL nilS nilS) :: L) w' := h18a.sel 4 [1, 0, 2, 3]
  obtain ⟨G2, hG2, h18b, hr2⟩ := St.freezeS h18a'
  have hk : Fz.le F G2 := Fz.le_trans hG1 hG2
  have hmr : memR G2 sv2 sl2 ⟨(Sn.rList (.ok b)).1, (Sn.rList (Sn.rList (.ok b)).2).1⟩ := ⟨hr2, hr1.mono hG2⟩
  have h18c : St E (blkL bm 26 (memL sv2 sl2) :: blkL br 26 (memL nilS nilS) :: kn G2 :: L) w' := h18b.sel 3 [1, 2, 0]
  refine ⟨_, _, _, _, _, _, rd_mem h18c, ?_⟩
  have hh9 : huge = 9223372036854775807 := rfl
  refine RRight_spec (by simp) hmr (by show (Sn.rList (.ok b)).1.length ≤ _; omega) (by show (Sn.rList (Sn.rList (.ok b)).2).1.length ≤ _; omega) h18c fun w28 h28 => ⟨_, rfl, ite_n (fun hz2 => ?_) fun hz2 => ?_⟩
  · rw [if_pos (.inr hz2)] at hgo
    have hp : St E (blkL br 26 (memL nilS nilS) :: kn G2 :: L) w28 := h28.sel 3 [1, 2]
    have hp2 : St E (blkL br 26 (memL nilS nilS) :: kn F :: L) (wr w28 ⟨br, 0, none⟩ (memV nilS nilS)) := by
      have h4 : St E (blkL br 26 (memL nilS nilS) :: kn G2 :: L) (wr w28 ⟨br, 0, none⟩ (memV nilS nilS)) := hp.wr_mem rfl nilS nilS
      have h5 : St E (kn G2 :: blkL br 26 (memL nilS nilS) :: L) (wr w28 ⟨br, 0, none⟩ (memV nilS nilS)) := h4.sel 2 [1, 0]
      exact (St.kn_less h5 hk).sel 2 [1, 0]
    exact ⟨rfl, ok_mem hp rfl nilS nilS, out hgo (by decide) hp2⟩
  rw [if_neg (by rw [hz, hz2]; simp)] at hgo
  have hp : St E (blkL br 26 (memL nilS nilS) :: blkL bm 26 (memL sv2 sl2) :: kn G2 :: L) w28 := h28.sel 3 [1, 0, 2]
  refine ⟨_, _, _, _, _, _, rd_mem h28, rfl, ok_mem hp rfl _ _, ?_⟩
  intro w35
  have h35 : St E (blkL br 26 (memL sv2 sl2) :: blkL bm 26 (memL sv2 sl2) :: kn G2 :: L) w35 := hp.wr_mem rfl sv2 sl2
  exact ⟨_, _, _, _, _, _, rd_mem h35, kO G2 w35 sv2 sl2 _ hk hgo hmr (h35.sel 3 [2])⟩
theorem int_ne {x y : Int} (h : (x != y) = true) : x ≠ y := by simpa using h
theorem int_eq {x y : Int} (h : (x != y) = false) : x = y := by simpa using h
theorem SameInts_spec {p : Sl} {xs ys : List Int} (hp : Sees E L s.1 s.2.1 1 (intV xs)) (hq : Sees E L p.1 p.2.1 1 (intV ys)) (hl : xs.length ≤ huge) (h : St E L w) (k : ∀ w', St E L w' → R (.returned (.bool (decide (xs = ys)))) w') :
    Calls Tryz.prog 89 #[.slice s.1 s.2.1 s.2.2, .slice p.1 p.2.1 p.2.2] w R := by
  have hh : huge = 9223372036854775807 := rfl
  have hlen := rdi_len (hp w h)
  have hlen2 := rdi_len (hq w h)
  refine C_q7b ?_
  unfold T_q7b
  refine ite_b (fun hc => ?_) fun hc => ?_
  · have := int_ne hc
    exact congB (k w h) (decide_eq_false fun h0 => by rw [h0] at hlen; omega)
  have hll : xs.length = ys.length := by have := int_eq hc; omega
  unfold T_q5d
  intro X hX
  refine up_to xs.length (Q := fun j => ∀ w, xs.take j = ys.take j → St E L w → X (j : Int) w) ?_ w (by simp) h
  intro j hj ih w hno h
  refine hX _ _ ?_
  unfold T_q7b_1_body
  rw [← hlen, ← hlen2]
  refine ite_d (fun hc => ?_) fun hc => ?_
  · intro w6
    have h6 : St E L w6 := h.drew
    clear_value w6
    have hjl : j < xs.length := by omega
    obtain ⟨ad, ha, hrd⟩ := rdi_at (hp w6 h6) hjl
    obtain ⟨ad2, ha2, hrd2⟩ := rdi_at (hq w6 h6) (show j < ys.length by omega)
    rw [Int.toNat_natCast]
    refine ⟨by omega, by omega, ad, ha, _, hrd, by omega, by omega, ad2, ha2, _, hrd2, ?_⟩
    refine ite_b (fun he => ?_) fun he => ?_
    · have he := int_ne he
      exact congB (k w6 h6) (decide_eq_false fun h0 => he (by subst h0; rfl))
    · rw [succ_huge (by omega)]
      refine ih hjl w6 ?_ h6
      rw [List.take_succ_eq_append_getElem hjl, List.take_succ_eq_append_getElem (show j < ys.length by omega), hno, int_eq he]
  · have : j = xs.length := by omega
    subst this
    rw [List.take_length, hll, List.take_length] at hno
    exact congB (k w h) (decide_eq_true hno)
theorem Same_spec {v l v2 l2 : Sl} {m m2 : Sn.Mem} (hm : kn F ∈ L) (r : memR F v l m) (r2 : memR F v2 l2 m2) (z1 : m.v.length ≤ huge) (z2 : m.l.length ≤ huge) (h : St E L w) (k : ∀ w', St E L w' → R (.returned (.bool (decide (m = m2)))) w') :
    Calls Tryz.prog 45 #[memV v l, memV v2 l2] w R := by
  refine C_q9j ?_
  unfold T_q9j
  intro w5 w6
  have h6 : St E (blkL w5.heap.size 26 (memL v2 l2) :: blkL w.heap.size 26 (memL v l) :: L) w6 :=
    (h.alloc (.cells ⟨memL v l⟩ 26)).alloc (.cells ⟨memL v2 l2⟩ 26)
  clear_value w6
  generalize w5.heap.size = b2 at *
  generalize w.heap.size = b1 at *
  have hm' : kn F ∈ blkL b2 26 (memL v2 l2) :: blkL b1 26 (memL v l) :: L := List.mem_cons_of_mem _ (List.mem_cons_of_mem _ hm)
  have hd : decide (m = m2) = (decide (m.v = m2.v) && decide (m.l = m2.l)) := by
    rw [Bool.eq_iff_iff]
    simp only [decide_eq_true_eq, Bool.and_eq_true]
    exact ⟨fun h => by rw [h]; exact ⟨rfl, rfl⟩, fun ⟨h1, h2⟩ => by cases m; cases m2; simp at h1 h2; rw [h1, h2]⟩
  refine ⟨_, _, _, rd_cell h6.f1.at_blk rfl rfl, _, _, _, rd_cell h6.at_blk rfl rfl, ?_⟩
  refine SameInts_spec (r.1.sees hm') (r2.1.sees hm') z1 h6 fun w10 h10 => ⟨_, rfl, ite_b (fun hc => ?_) fun hc => ?_⟩
  · refine ⟨_, _, _, rd_fld h10.f1.at_blk rfl rfl, _, _, _, rd_fld h10.at_blk rfl rfl, ?_⟩
    refine SameInts_spec (r.2.sees hm') (r2.2.sees hm') z2 h10 fun w15 h15 => ⟨_, rfl, congB (k w15 h15.drop.drop) ?_⟩
    rw [hd, hc]; rfl
  · refine congB (k w10 h10.drop.drop) ?_
    rw [hd, hc]; rfl
end
end Go.Vc
namespace Go.Vc
open Go Go.Proofs Go.Proofs.YtclinifclfahfaaGreat
set_option maxRecDepth 100000
section
variable {E w : World} {L : List Asrt} {R : RT} {F G : Fz} {q s : Sl} {b : Cm.Bs} {l : List Int} {xs : Cm.Bs}
end
end Go.Vc
namespace Go.Proofs.YtclinifclfahfaaGreat
open Go Go.Vc
set_option maxRecDepth 100000
set_option linter.unusedVariables false
def T_qae (b1a : Option Addr) (b1l b1c : Nat) (n2 : Int) (w : World) (R : RT) : Prop :=
 Calls Tryz.prog 82 #[.int .i64 n2] w (ret (fun r3 w4 => ∃ (s5a : Option Addr) (s5l s5c : Nat) (x6 : Int), r3 = .tuple #[.slice s5a s5l s5c, .int .i64 x6] ∧ runV Tryz.prog (Builtin.append_ #[27, 27] 27 #[.slice b1a b1l b1c, .slice s5a s5l s5c]) w4 (fun r7 w8 => ∃ (s9a : Option Addr) (s9l s9c : Nat), r7 = .slice s9a s9l s9c ∧ R (.returned (.slice s9a s9l s9c)) w8) (pan R)) (pan R))
theorem T_qae_hl : allP (hokL Tryz.prog (hookAt []) (bodyOf Tryz.f40) 1) = (True) := by kernel_rfl
theorem T_qae_eq (b1a : Option Addr) (b1l b1c : Nat) (n2 : Int) (w : World) (R : RT) : vcCode Tryz.prog (hookAt []) (bodyOf Tryz.f40) 1 ⟨argEnv [.slice b1a b1l b1c, .int .i64 n2] 0, Tryz.f40.ntmps, []⟩ w (finQ Tryz.prog Tryz.f40.results.toList R) = T_qae b1a b1l b1c n2 w R := by kernel_rfl
theorem T_qae_b : Tryz.f40.body = some (bodyOf Tryz.f40) := by kernel_rfl
theorem T_qae_s : (quietSel (bodyOf Tryz.f40) && Nat.ble 2 Tryz.f40.ntmps) = true := by kernel_rfl
theorem C_qae {b1a : Option Addr} {b1l b1c : Nat} {n2 : Int} {w : World} {R : RT} (h : T_qae b1a b1l b1c n2 w R) : Calls Tryz.prog 40 #[.slice b1a b1l b1c, .int .i64 n2] w R :=
 calls_of_text (args := [.slice b1a b1l b1c, .int .i64 n2]) mixed Tryz.func40 T_qae_b T_qae_s (HOk_of _ _ (by rw [T_qae_hl]; exact trivial)) (by rw [T_qae_eq]; exact h)
def T_q9p (s15 : Addr) (e16 : Int) (w : World) (Kn : Bool → World → Prop) (Kp : XT) : Prop :=
 ∃ x17 : Int, rd w s15 (.int .i64 x17) ∧ if (decide (x17 < 1)) = true then (Kn true w) else (∃ x18 : Int, rd w s15 (.int .i64 x18) ∧ if (decide (x18 > 1099511627776)) = true then (Kn true w) else (∃ x19 : Int, rd w (s15.add 1) (.int .i64 x19) ∧ if (decide (x19 < 1)) = true then (Kn true w) else (∃ x20 : Int, rd w (s15.add 1) (.int .i64 x20) ∧ if (decide (x20 > 1099511627776)) = true then (Kn true w) else (Kn (e16 != 0) w))))
def T_q6m : Exit → Option (List (Nat × Value)) := fun x => match x with | .normal => some [(13, .bool false)] | .panic _ => some [] | _ => none
def T_q7y : Nat → Bool := ksOf [13, 14, 15, 16, 17, 18, 19, 20, 21, 22, 23, 24, 25, 26, 27, 28, 29, 30, 31, 32, 33, 34, 35, 36, 37, 38, 39]
def H_q9p : Env → World → QT → Prop := unitHook 71 T_q7y [(1, .pointer (some ⟨0, 0, none⟩)), (5, .int .i64 0)] T_q6m fun l w C => match l with | [v0, v1] => T_q9p (pAddr v0) (pInt v1) w (fun b22 w => C .normal [.bool b22] w) (fun ch w => C (.panic ch) [] w) | _ => False
theorem T_q9p_hl : allP (hokL Tryz.prog (hookAt []) (at_ (bodyOf Tryz.f9) [1, 1, 0, 0, 0]) 56) = (True) := by kernel_rfl
theorem T_q9p_hok : HOk Tryz.prog (hookAt []) (at_ (bodyOf Tryz.f9) [1, 1, 0, 0, 0]) 56 := HOk_of _ _ (by rw [T_q9p_hl]; exact trivial)
theorem T_q9p_eq (C : Conts) (s15 : Addr) (e16 : Int) (w : World) : vcCode Tryz.prog (hookAt []) (at_ (bodyOf Tryz.f9) [1, 1, 0, 0, 0]) 56 ⟨[(1, .pointer (some s15)), (5, .int .i64 e16)], 71, []⟩ w (unitQ T_q6m C) = T_q9p s15 e16 w (fun b23 w => C .normal [.bool b23] w) (fun ch w => C (.panic ch) [] w) := by kernel_rfl
theorem T_qad_2_ok : UnitOk Tryz.prog H_q9p (at_ (bodyOf Tryz.f9) [1, 1, 0, 0, 0]) 56 := unit_ok (H := (hookAt [])) (by kernel_rfl) T_q9p_hok fun l w C hk => by
  obtain ⟨v0, _, rfl, k_v0, hk_v0⟩ := kC hk
  obtain ⟨s15, rfl⟩ := kind_addr k_v0
  obtain ⟨v1, _, rfl, k_v1, hk_v1⟩ := kC hk_v0
  obtain ⟨e16, rfl⟩ := kind_int k_v1
  obtain rfl := kN hk_v1
  exact T_q9p_eq C s15 e16 w
def T_q9o (s13 : Addr) (e14 : Int) (w : World) (Kn : World → Prop) (Kr : Option Addr → Nat → Nat → Int → World → Prop) (Kp : XT) : Prop :=
 T_q9p s13 e14 w (fun b24 w25 => if b24 = true then (Kr none 0 0 2 w25) else (∃ (s26a : Option Addr) (s26l s26c : Nat), rd w25 (s13.add 4) (.slice s26a s26l s26c) ∧ if (decide (((s26l : Nat) : Int) > 16384)) = true then (Kr none 0 0 6 w25) else (Kn  w25))) Kp
def T_q6l : Exit → Option (List (Nat × Value)) := fun x => match x with | .normal => some [] | .ret => some [(2, .slice none 0 0), (3, .int .i64 0)] | .panic _ => some [] | _ => none
def T_q7x : Nat → Bool := ksOf [2, 3, 13, 14, 15, 16, 17, 18, 19, 20, 21, 22, 23, 24, 25, 26, 27, 28, 29, 30, 31, 32, 33, 34, 35, 36, 37, 38, 39, 40, 41, 42, 43, 44]
def H_q9o : Env → World → QT → Prop := unitHook 71 T_q7x [(1, .pointer (some ⟨0, 0, none⟩)), (5, .int .i64 0)] T_q6l fun l w C => match l with | [v0, v1] => T_q9o (pAddr v0) (pInt v1) w (fun w => C .normal [] w) (fun s29a s29l s29c x30 w => C .ret [.slice s29a s29l s29c, .int .i64 x30] w) (fun ch w => C (.panic ch) [] w) | _ => False
theorem T_q9o_hl : allP (hokL Tryz.prog (hookAt [(56, H_q9p)]) (at_ (bodyOf Tryz.f9) [1, 1, 0]) 14) = (UnitOk Tryz.prog H_q9p (at_ (bodyOf Tryz.f9) [1, 1, 0, 0, 0]) 56 ∧ True) := by kernel_rfl
theorem T_q9o_hok : HOk Tryz.prog (hookAt [(56, H_q9p)]) (at_ (bodyOf Tryz.f9) [1, 1, 0]) 14 := HOk_of _ _ (by rw [T_q9o_hl]; exact ⟨T_qad_2_ok, trivial⟩)
theorem T_q9o_eq (C : Conts) (s13 : Addr) (e14 : Int) (w : World) : vcCode Tryz.prog (hookAt [(56, H_q9p)]) (at_ (bodyOf Tryz.f9) [1, 1, 0]) 14 ⟨[(1, .pointer (some s13)), (5, .int .i64 e14)], 71, []⟩ w (unitQ T_q6l C) = T_q9o s13 e14 w (fun w => C .normal [] w) (fun s31a s31l s31c x32 w => C .ret [.slice s31a s31l s31c, .int .i64 x32] w) (fun ch w => C (.panic ch) [] w) := by kernel_rfl
theorem T_qad_1_ok : UnitOk Tryz.prog H_q9o (at_ (bodyOf Tryz.f9) [1, 1, 0]) 14 := unit_ok (H := (hookAt [(56, H_q9p)])) (by kernel_rfl) T_q9o_hok fun l w C hk => by
  obtain ⟨v0, _, rfl, k_v0, hk_v0⟩ := kC hk
  obtain ⟨s13, rfl⟩ := kind_addr k_v0
  obtain ⟨v1, _, rfl, k_v1, hk_v1⟩ := kC hk_v0
  obtain ⟨e14, rfl⟩ := kind_int k_v1
  obtain rfl := kN hk_v1
  exact T_q9o_eq C s13 e14 w
def T_qad (x1 x2 : Int) (s3a : Option Addr) (s3l s3c : Nat) (s4a : Option Addr) (s4l s4c : Nat) (s5a : Option Addr) (s5l s5c : Nat) (w : World) (R : RT) : Prop :=
 let w6 : World := w.alloc (.cells #[.int .i64 x1, .int .i64 x2, .slice s3a s3l s3c, .slice s4a s4l s4c, .slice s5a s5l s5c] 29)
 ∃ (s7a : Option Addr) (s7l s7c : Nat) (s8a : Option Addr) (s8l s8c : Nat), rd w6 ((⟨w.heap.size, 0, none⟩ : Addr).add 2) (.agg #[.slice s7a s7l s7c, .slice s8a s8l s8c]) ∧ Calls Tryz.prog 39 #[.agg #[.slice s7a s7l s7c, .slice s8a s8l s8c]] w6 (ret (fun r9 w10 => ∃ (s11a : Option Addr) (s11l s11c : Nat) (x12 : Int), r9 = .tuple #[.slice s11a s11l s11c, .int .i64 x12] ∧ T_q9o (⟨w.heap.size, 0, none⟩ : Addr) x12 w10 (fun w33 => let w34 : World := w33.drew
 ∃ x35 : Int, rd w34 (⟨w.heap.size, 0, none⟩ : Addr) (.int .i64 x35) ∧ ∃ x36 : Int, rd w34 ((⟨w.heap.size, 0, none⟩ : Addr).add 1) (.int .i64 x36) ∧ Calls Tryz.prog 40 #[.slice none 0 0, .int .i64 x35] w34 (ret (fun r37 w38 => ∃ (s39a : Option Addr) (s39l s39c : Nat), r37 = .slice s39a s39l s39c ∧ (rd w38 ((⟨w.heap.size, 0, none⟩ : Addr).add 1) (.int .i64 x36) ∧ True) ∧ Calls Tryz.prog 40 #[.slice s39a s39l s39c, .int .i64 x36] w38 (ret (fun r40 w41 => ∃ (s42a : Option Addr) (s42l s42c : Nat), r40 = .slice s42a s42l s42c ∧ (True) ∧ Calls Tryz.prog 40 #[.slice s42a s42l s42c, .int .i64 ((s11l : Nat) : Int)] w41 (ret (fun r43 w44 => ∃ (s45a : Option Addr) (s45l s45c : Nat), r43 = .slice s45a s45l s45c ∧ runV Tryz.prog (Builtin.append_ #[27, 27] 27 #[.slice s45a s45l s45c, .slice s11a s11l s11c]) w44 (fun r46 w47 => ∃ (s48a : Option Addr) (s48l s48c : Nat), r46 = .slice s48a s48l s48c ∧ let w49 : World := w47.drew
 ∃ (s50a : Option Addr) (s50l s50c : Nat), rd w49 ((⟨w.heap.size, 0, none⟩ : Addr).add 4) (.slice s50a s50l s50c) ∧ ∃ (s51a : Option Addr) (s51l s51c : Nat), rd w49 ((⟨w.heap.size, 0, none⟩ : Addr).add 4) (.slice s51a s51l s51c) ∧ Calls Tryz.prog 40 #[.slice s48a s48l s48c, .int .i64 ((s50l : Nat) : Int)] w49 (ret (fun r52 w53 => ∃ (s54a : Option Addr) (s54l s54c : Nat), r52 = .slice s54a s54l s54c ∧ (rd w53 ((⟨w.heap.size, 0, none⟩ : Addr).add 4) (.slice s51a s51l s51c) ∧ True) ∧ runV Tryz.prog (Builtin.append_ #[27, 27] 27 #[.slice s54a s54l s54c, .slice s51a s51l s51c]) w53 (fun r55 w56 => ∃ (s57a : Option Addr) (s57l s57c : Nat), r55 = .slice s57a s57l s57c ∧ (True) ∧ Calls Tryz.prog 41 #[.slice s57a s57l s57c] w56 (ret (fun r58 w59 => ∃ (s60a : Option Addr) (s60l s60c : Nat) (x61 : Int), r58 = .tuple #[.slice s60a s60l s60c, .int .i64 x61] ∧ R (.returned (.tuple #[.slice s60a s60l s60c, .int .i64 x61])) w59) (pan R))) (pan R)) (pan R))) (pan R)) (pan R))) (pan R))) (pan R))) (fun s62a s62l s62c x63 w64 => R (.returned (.tuple #[.slice s62a s62l s62c, .int .i64 x63])) w64) (pan R)) (pan R))
theorem T_qad_hl : allP (hokL Tryz.prog (hookAt [(14, H_q9o)]) (bodyOf Tryz.f9) 1) = (UnitOk Tryz.prog H_q9o (at_ (bodyOf Tryz.f9) [1, 1, 0]) 14 ∧ True) := by kernel_rfl
theorem T_qad_eq (x1 x2 : Int) (s3a : Option Addr) (s3l s3c : Nat) (s4a : Option Addr) (s4l s4c : Nat) (s5a : Option Addr) (s5l s5c : Nat) (w : World) (R : RT) : vcCode Tryz.prog (hookAt [(14, H_q9o)]) (bodyOf Tryz.f9) 1 ⟨argEnv [.agg #[.int .i64 x1, .int .i64 x2, .slice s3a s3l s3c, .slice s4a s4l s4c, .slice s5a s5l s5c]] 0, Tryz.f9.ntmps, []⟩ w (finQ Tryz.prog Tryz.f9.results.toList R) = T_qad x1 x2 s3a s3l s3c s4a s4l s4c s5a s5l s5c w R := by kernel_rfl
theorem T_qad_b : Tryz.f9.body = some (bodyOf Tryz.f9) := by kernel_rfl
theorem T_qad_s : (quietSel (bodyOf Tryz.f9) && Nat.ble 1 Tryz.f9.ntmps) = true := by kernel_rfl
theorem C_qad {x1 x2 : Int} {s3a : Option Addr} {s3l s3c : Nat} {s4a : Option Addr} {s4l s4c : Nat} {s5a : Option Addr} {s5l s5c : Nat} {w : World} {R : RT} (h : T_qad x1 x2 s3a s3l s3c s4a s4l s4c s5a s5l s5c w R) : Calls Tryz.prog 9 #[.agg #[.int .i64 x1, .int .i64 x2, .slice s3a s3l s3c, .slice s4a s4l s4c, .slice s5a s5l s5c]] w R :=
 calls_of_text (args := [.agg #[.int .i64 x1, .int .i64 x2, .slice s3a s3l s3c, .slice s4a s4l s4c, .slice s5a s5l s5c]]) mixed Tryz.func9 T_qad_b T_qad_s (HOk_of _ _ (by rw [T_qad_hl]; exact ⟨T_qad_1_ok, trivial⟩)) (by rw [T_qad_eq]; exact h)
def T_qaf (b1a : Option Addr) (b1l b1c : Nat) (at2 limit3 : Int) (w : World) (R : RT) : Prop :=
 Calls Tryz.prog 79 #[.slice b1a b1l b1c, .int .i64 at2] w (ret (fun r4 w5 => ∃ x6 x7 x8 : Int, r4 = .tuple #[.int .i64 x6, .int .i64 x7, .int .i64 x8] ∧ if (x8 != 0) = true then (R (.returned (.tuple #[.slice none 0 0, .int .i64 0, .int .i64 x8])) w5) else (if (decide (x6 > limit3)) = true then (R (.returned (.tuple #[.slice none 0 0, .int .i64 0, .int .i64 6])) w5) else (if (decide ((IntKind.wrap .i64 (((b1l : Nat) : Int) - x7) : Int) < x6)) = true then (R (.returned (.tuple #[.slice none 0 0, .int .i64 0, .int .i64 3])) w5) else (0 ≤ (IntKind.wrap .i64 (x7 + x6) : Int) ∧ (IntKind.wrap .i64 (x7 + x6) : Int) ≤ ((b1c : Nat) : Int) ∧ 0 ≤ (IntKind.wrap .i64 (x7 + x6) : Int) ∧ (IntKind.wrap .i64 (x7 + x6) : Int) ≤ (((IntKind.wrap .i64 (x7 + x6) : Int).toNat : Nat) : Int) ∧ 0 ≤ x7 ∧ x7 ≤ (((IntKind.wrap .i64 (x7 + x6) : Int).toNat : Nat) : Int) ∧ R (.returned (.tuple #[.slice (if ((IntKind.wrap .i64 (x7 + x6) : Int).toNat) = (x7.toNat) then b1a else b1a.map (fun x => x.add ((x7.toNat) * 1))) (((IntKind.wrap .i64 (x7 + x6) : Int).toNat) - (x7.toNat)) (((IntKind.wrap .i64 (x7 + x6) : Int).toNat) - (x7.toNat)), .int .i64 (IntKind.wrap .i64 (x7 + x6)), .int .i64 0])) w5)))) (pan R))
theorem T_qaf_hl : allP (hokL Tryz.prog (hookAt []) (bodyOf Tryz.f48) 1) = (True) := by kernel_rfl
theorem T_qaf_eq (b1a : Option Addr) (b1l b1c : Nat) (at2 limit3 : Int) (w : World) (R : RT) : vcCode Tryz.prog (hookAt []) (bodyOf Tryz.f48) 1 ⟨argEnv [.slice b1a b1l b1c, .int .i64 at2, .int .i64 limit3] 0, Tryz.f48.ntmps, []⟩ w (finQ Tryz.prog Tryz.f48.results.toList R) = T_qaf b1a b1l b1c at2 limit3 w R := by kernel_rfl
theorem T_qaf_b : Tryz.f48.body = some (bodyOf Tryz.f48) := by kernel_rfl
theorem T_qaf_s : (quietSel (bodyOf Tryz.f48) && Nat.ble 3 Tryz.f48.ntmps) = true := by kernel_rfl
theorem C_qaf {b1a : Option Addr} {b1l b1c : Nat} {at2 limit3 : Int} {w : World} {R : RT} (h : T_qaf b1a b1l b1c at2 limit3 w R) : Calls Tryz.prog 48 #[.slice b1a b1l b1c, .int .i64 at2, .int .i64 limit3] w R :=
 calls_of_text (args := [.slice b1a b1l b1c, .int .i64 at2, .int .i64 limit3]) mixed Tryz.func48 T_qaf_b T_qaf_s (HOk_of _ _ (by rw [T_qaf_hl]; exact trivial)) (by rw [T_qaf_eq]; exact h)
def T_qa6 (b1a : Option Addr) (b1l b1c : Nat) (at2 : Int) (w : World) (R : RT) : Prop :=
 Calls Tryz.prog 79 #[.slice b1a b1l b1c, .int .i64 at2] w (ret (fun r3 w4 => ∃ x5 x6 x7 : Int, r3 = .tuple #[.int .i64 x5, .int .i64 x6, .int .i64 x7] ∧ if (x7 == 0) = true then (if (x5 == 0) = true then (R (.returned (.tuple #[.int .i64 x5, .int .i64 x6, .int .i64 4])) w4) else (R (.returned (.tuple #[.int .i64 x5, .int .i64 x6, .int .i64 x7])) w4)) else (R (.returned (.tuple #[.int .i64 x5, .int .i64 x6, .int .i64 x7])) w4)) (pan R))
theorem T_qa6_hl : allP (hokL Tryz.prog (hookAt []) (bodyOf Tryz.f47) 1) = (True) := by kernel_rfl
theorem T_qa6_eq (b1a : Option Addr) (b1l b1c : Nat) (at2 : Int) (w : World) (R : RT) : vcCode Tryz.prog (hookAt []) (bodyOf Tryz.f47) 1 ⟨argEnv [.slice b1a b1l b1c, .int .i64 at2] 0, Tryz.f47.ntmps, []⟩ w (finQ Tryz.prog Tryz.f47.results.toList R) = T_qa6 b1a b1l b1c at2 w R := by kernel_rfl
theorem T_qa6_b : Tryz.f47.body = some (bodyOf Tryz.f47) := by kernel_rfl
theorem T_qa6_s : (quietSel (bodyOf Tryz.f47) && Nat.ble 2 Tryz.f47.ntmps) = true := by kernel_rfl
theorem C_qa6 {b1a : Option Addr} {b1l b1c : Nat} {at2 : Int} {w : World} {R : RT} (h : T_qa6 b1a b1l b1c at2 w R) : Calls Tryz.prog 47 #[.slice b1a b1l b1c, .int .i64 at2] w R :=
 calls_of_text (args := [.slice b1a b1l b1c, .int .i64 at2]) mixed Tryz.func47 T_qa6_b T_qa6_s (HOk_of _ _ (by rw [T_qa6_hl]; exact trivial)) (by rw [T_qa6_eq]; exact h)
def T_qac (b1a : Option Addr) (b1l b1c : Nat) (w : World) (R : RT) : Prop :=
 let w2 : World := w.alloc (.cells #[.int .i64 0, .int .i64 0, .slice none 0 0, .slice none 0 0, .slice none 0 0] 29)
 Calls Tryz.prog 46 #[.slice b1a b1l b1c, .int .i64 0] w2 (ret (fun r3 w4 => ∃ (s5a : Option Addr) (s5l s5c : Nat) (x6 x7 : Int), r3 = .tuple #[.slice s5a s5l s5c, .int .i64 x6, .int .i64 x7] ∧ if (x7 != 0) = true then ((.agg #[.int .i64 0, .int .i64 0, .slice none 0 0, .slice none 0 0, .slice none 0 0] : Value).cells.size = 5 ∧ wrOk w4 (⟨w.heap.size, 0, none⟩ : Addr) (.agg #[.int .i64 0, .int .i64 0, .slice none 0 0, .slice none 0 0, .slice none 0 0]) ∧ let w8 : World := wr w4 (⟨w.heap.size, 0, none⟩ : Addr) (.agg #[.int .i64 0, .int .i64 0, .slice none 0 0, .slice none 0 0, .slice none 0 0])
 ∃ (x9 x10 : Int) (s11a : Option Addr) (s11l s11c : Nat) (s12a : Option Addr) (s12l s12c : Nat) (s13a : Option Addr) (s13l s13c : Nat), rd w8 (⟨w.heap.size, 0, none⟩ : Addr) (.agg #[.int .i64 x9, .int .i64 x10, .slice s11a s11l s11c, .slice s12a s12l s12c, .slice s13a s13l s13c]) ∧ R (.returned (.tuple #[.agg #[.int .i64 x9, .int .i64 x10, .slice s11a s11l s11c, .slice s12a s12l s12c, .slice s13a s13l s13c], .int .i64 x7])) w8) else (if (decide (x6 < ((b1l : Nat) : Int))) = true then ((.agg #[.int .i64 0, .int .i64 0, .slice none 0 0, .slice none 0 0, .slice none 0 0] : Value).cells.size = 5 ∧ wrOk w4 (⟨w.heap.size, 0, none⟩ : Addr) (.agg #[.int .i64 0, .int .i64 0, .slice none 0 0, .slice none 0 0, .slice none 0 0]) ∧ let w14 : World := wr w4 (⟨w.heap.size, 0, none⟩ : Addr) (.agg #[.int .i64 0, .int .i64 0, .slice none 0 0, .slice none 0 0, .slice none 0 0])
 ∃ (x15 x16 : Int) (s17a : Option Addr) (s17l s17c : Nat) (s18a : Option Addr) (s18l s18c : Nat) (s19a : Option Addr) (s19l s19c : Nat), rd w14 (⟨w.heap.size, 0, none⟩ : Addr) (.agg #[.int .i64 x15, .int .i64 x16, .slice s17a s17l s17c, .slice s18a s18l s18c, .slice s19a s19l s19c]) ∧ R (.returned (.tuple #[.agg #[.int .i64 x15, .int .i64 x16, .slice s17a s17l s17c, .slice s18a s18l s18c, .slice s19a s19l s19c], .int .i64 4])) w14) else (let w20 : World := w4.alloc (.cells #[.int .i64 0, .int .i64 0, .slice none 0 0, .slice none 0 0, .slice none 0 0] 29)
 Calls Tryz.prog 47 #[.slice s5a s5l s5c, .int .i64 0] w20 (ret (fun r21 w22 => ∃ x23 x24 x25 : Int, r21 = .tuple #[.int .i64 x23, .int .i64 x24, .int .i64 x25] ∧ (.int .i64 x23 : Value).cells.size = 1 ∧ wrOk w22 (⟨w4.heap.size, 0, none⟩ : Addr) (.int .i64 x23) ∧ let w26 : World := wr w22 (⟨w4.heap.size, 0, none⟩ : Addr) (.int .i64 x23)
 if (x25 != 0) = true then ((.agg #[.int .i64 0, .int .i64 0, .slice none 0 0, .slice none 0 0, .slice none 0 0] : Value).cells.size = 5 ∧ wrOk w26 (⟨w.heap.size, 0, none⟩ : Addr) (.agg #[.int .i64 0, .int .i64 0, .slice none 0 0, .slice none 0 0, .slice none 0 0]) ∧ let w27 : World := wr w26 (⟨w.heap.size, 0, none⟩ : Addr) (.agg #[.int .i64 0, .int .i64 0, .slice none 0 0, .slice none 0 0, .slice none 0 0])
 ∃ (x28 x29 : Int) (s30a : Option Addr) (s30l s30c : Nat) (s31a : Option Addr) (s31l s31c : Nat) (s32a : Option Addr) (s32l s32c : Nat), rd w27 (⟨w.heap.size, 0, none⟩ : Addr) (.agg #[.int .i64 x28, .int .i64 x29, .slice s30a s30l s30c, .slice s31a s31l s31c, .slice s32a s32l s32c]) ∧ R (.returned (.tuple #[.agg #[.int .i64 x28, .int .i64 x29, .slice s30a s30l s30c, .slice s31a s31l s31c, .slice s32a s32l s32c], .int .i64 x25])) w27) else (Calls Tryz.prog 47 #[.slice s5a s5l s5c, .int .i64 x24] w26 (ret (fun r33 w34 => ∃ x35 x36 x37 : Int, r33 = .tuple #[.int .i64 x35, .int .i64 x36, .int .i64 x37] ∧ (.int .i64 x35 : Value).cells.size = 1 ∧ wrOk w34 ((⟨w4.heap.size, 0, none⟩ : Addr).add 1) (.int .i64 x35) ∧ let w38 : World := wr w34 ((⟨w4.heap.size, 0, none⟩ : Addr).add 1) (.int .i64 x35)
 if (x37 != 0) = true then ((.agg #[.int .i64 0, .int .i64 0, .slice none 0 0, .slice none 0 0, .slice none 0 0] : Value).cells.size = 5 ∧ wrOk w38 (⟨w.heap.size, 0, none⟩ : Addr) (.agg #[.int .i64 0, .int .i64 0, .slice none 0 0, .slice none 0 0, .slice none 0 0]) ∧ let w39 : World := wr w38 (⟨w.heap.size, 0, none⟩ : Addr) (.agg #[.int .i64 0, .int .i64 0, .slice none 0 0, .slice none 0 0, .slice none 0 0])
 ∃ (x40 x41 : Int) (s42a : Option Addr) (s42l s42c : Nat) (s43a : Option Addr) (s43l s43c : Nat) (s44a : Option Addr) (s44l s44c : Nat), rd w39 (⟨w.heap.size, 0, none⟩ : Addr) (.agg #[.int .i64 x40, .int .i64 x41, .slice s42a s42l s42c, .slice s43a s43l s43c, .slice s44a s44l s44c]) ∧ R (.returned (.tuple #[.agg #[.int .i64 x40, .int .i64 x41, .slice s42a s42l s42c, .slice s43a s43l s43c, .slice s44a s44l s44c], .int .i64 x37])) w39) else (Calls Tryz.prog 48 #[.slice s5a s5l s5c, .int .i64 x36, .int .i64 (IntKind.wrap .i64 (((s5l : Nat) : Int) + 1099511627776))] w38 (ret (fun r45 w46 => ∃ (s47a : Option Addr) (s47l s47c : Nat) (x48 x49 : Int), r45 = .tuple #[.slice s47a s47l s47c, .int .i64 x48, .int .i64 x49] ∧ if (x49 != 0) = true then ((.agg #[.int .i64 0, .int .i64 0, .slice none 0 0, .slice none 0 0, .slice none 0 0] : Value).cells.size = 5 ∧ wrOk w46 (⟨w.heap.size, 0, none⟩ : Addr) (.agg #[.int .i64 0, .int .i64 0, .slice none 0 0, .slice none 0 0, .slice none 0 0]) ∧ let w50 : World := wr w46 (⟨w.heap.size, 0, none⟩ : Addr) (.agg #[.int .i64 0, .int .i64 0, .slice none 0 0, .slice none 0 0, .slice none 0 0])
 ∃ (x51 x52 : Int) (s53a : Option Addr) (s53l s53c : Nat) (s54a : Option Addr) (s54l s54c : Nat) (s55a : Option Addr) (s55l s55c : Nat), rd w50 (⟨w.heap.size, 0, none⟩ : Addr) (.agg #[.int .i64 x51, .int .i64 x52, .slice s53a s53l s53c, .slice s54a s54l s54c, .slice s55a s55l s55c]) ∧ R (.returned (.tuple #[.agg #[.int .i64 x51, .int .i64 x52, .slice s53a s53l s53c, .slice s54a s54l s54c, .slice s55a s55l s55c], .int .i64 x49])) w50) else (Calls Tryz.prog 49 #[.slice s47a s47l s47c] w46 (ret (fun r56 w57 => ∃ (s58a : Option Addr) (s58l s58c : Nat) (s59a : Option Addr) (s59l s59c : Nat) (x60 : Int), r56 = .tuple #[.agg #[.slice s58a s58l s58c, .slice s59a s59l s59c], .int .i64 x60] ∧ (.agg #[.slice s58a s58l s58c, .slice s59a s59l s59c] : Value).cells.size = 2 ∧ wrOk w57 ((⟨w4.heap.size, 0, none⟩ : Addr).add 2) (.agg #[.slice s58a s58l s58c, .slice s59a s59l s59c]) ∧ let w61 : World := wr w57 ((⟨w4.heap.size, 0, none⟩ : Addr).add 2) (.agg #[.slice s58a s58l s58c, .slice s59a s59l s59c])
 if (x60 != 0) = true then ((.agg #[.int .i64 0, .int .i64 0, .slice none 0 0, .slice none 0 0, .slice none 0 0] : Value).cells.size = 5 ∧ wrOk w61 (⟨w.heap.size, 0, none⟩ : Addr) (.agg #[.int .i64 0, .int .i64 0, .slice none 0 0, .slice none 0 0, .slice none 0 0]) ∧ let w62 : World := wr w61 (⟨w.heap.size, 0, none⟩ : Addr) (.agg #[.int .i64 0, .int .i64 0, .slice none 0 0, .slice none 0 0, .slice none 0 0])
 ∃ (x63 x64 : Int) (s65a : Option Addr) (s65l s65c : Nat) (s66a : Option Addr) (s66l s66c : Nat) (s67a : Option Addr) (s67l s67c : Nat), rd w62 (⟨w.heap.size, 0, none⟩ : Addr) (.agg #[.int .i64 x63, .int .i64 x64, .slice s65a s65l s65c, .slice s66a s66l s66c, .slice s67a s67l s67c]) ∧ R (.returned (.tuple #[.agg #[.int .i64 x63, .int .i64 x64, .slice s65a s65l s65c, .slice s66a s66l s66c, .slice s67a s67l s67c], .int .i64 x60])) w62) else (Calls Tryz.prog 48 #[.slice s5a s5l s5c, .int .i64 x48, .int .i64 16384] w61 (ret (fun r68 w69 => ∃ (s70a : Option Addr) (s70l s70c : Nat) (x71 x72 : Int), r68 = .tuple #[.slice s70a s70l s70c, .int .i64 x71, .int .i64 x72] ∧ (.slice s70a s70l s70c : Value).cells.size = 1 ∧ wrOk w69 ((⟨w4.heap.size, 0, none⟩ : Addr).add 4) (.slice s70a s70l s70c) ∧ let w73 : World := wr w69 ((⟨w4.heap.size, 0, none⟩ : Addr).add 4) (.slice s70a s70l s70c)
 if (x72 != 0) = true then ((.agg #[.int .i64 0, .int .i64 0, .slice none 0 0, .slice none 0 0, .slice none 0 0] : Value).cells.size = 5 ∧ wrOk w73 (⟨w.heap.size, 0, none⟩ : Addr) (.agg #[.int .i64 0, .int .i64 0, .slice none 0 0, .slice none 0 0, .slice none 0 0]) ∧ let w74 : World := wr w73 (⟨w.heap.size, 0, none⟩ : Addr) (.agg #[.int .i64 0, .int .i64 0, .slice none 0 0, .slice none 0 0, .slice none 0 0])
 ∃ (x75 x76 : Int) (s77a : Option Addr) (s77l s77c : Nat) (s78a : Option Addr) (s78l s78c : Nat) (s79a : Option Addr) (s79l s79c : Nat), rd w74 (⟨w.heap.size, 0, none⟩ : Addr) (.agg #[.int .i64 x75, .int .i64 x76, .slice s77a s77l s77c, .slice s78a s78l s78c, .slice s79a s79l s79c]) ∧ R (.returned (.tuple #[.agg #[.int .i64 x75, .int .i64 x76, .slice s77a s77l s77c, .slice s78a s78l s78c, .slice s79a s79l s79c], .int .i64 x72])) w74) else (if (decide (x71 < ((s5l : Nat) : Int))) = true then ((.agg #[.int .i64 0, .int .i64 0, .slice none 0 0, .slice none 0 0, .slice none 0 0] : Value).cells.size = 5 ∧ wrOk w73 (⟨w.heap.size, 0, none⟩ : Addr) (.agg #[.int .i64 0, .int .i64 0, .slice none 0 0, .slice none 0 0, .slice none 0 0]) ∧ let w80 : World := wr w73 (⟨w.heap.size, 0, none⟩ : Addr) (.agg #[.int .i64 0, .int .i64 0, .slice none 0 0, .slice none 0 0, .slice none 0 0])
 ∃ (x81 x82 : Int) (s83a : Option Addr) (s83l s83c : Nat) (s84a : Option Addr) (s84l s84c : Nat) (s85a : Option Addr) (s85l s85c : Nat), rd w80 (⟨w.heap.size, 0, none⟩ : Addr) (.agg #[.int .i64 x81, .int .i64 x82, .slice s83a s83l s83c, .slice s84a s84l s84c, .slice s85a s85l s85c]) ∧ R (.returned (.tuple #[.agg #[.int .i64 x81, .int .i64 x82, .slice s83a s83l s83c, .slice s84a s84l s84c, .slice s85a s85l s85c], .int .i64 4])) w80) else (∃ (x86 x87 : Int) (s88a : Option Addr) (s88l s88c : Nat) (s89a : Option Addr) (s89l s89c : Nat) (s90a : Option Addr) (s90l s90c : Nat), rd w73 (⟨w4.heap.size, 0, none⟩ : Addr) (.agg #[.int .i64 x86, .int .i64 x87, .slice s88a s88l s88c, .slice s89a s89l s89c, .slice s90a s90l s90c]) ∧ (.agg #[.int .i64 x86, .int .i64 x87, .slice s88a s88l s88c, .slice s89a s89l s89c, .slice s90a s90l s90c] : Value).cells.size = 5 ∧ wrOk w73 (⟨w.heap.size, 0, none⟩ : Addr) (.agg #[.int .i64 x86, .int .i64 x87, .slice s88a s88l s88c, .slice s89a s89l s89c, .slice s90a s90l s90c]) ∧ let w91 : World := wr w73 (⟨w.heap.size, 0, none⟩ : Addr) (.agg #[.int .i64 x86, .int .i64 x87, .slice s88a s88l s88c, .slice s89a s89l s89c, .slice s90a s90l s90c])
 ∃ (x92 x93 : Int) (s94a : Option Addr) (s94l s94c : Nat) (s95a : Option Addr) (s95l s95c : Nat) (s96a : Option Addr) (s96l s96c : Nat), rd w91 (⟨w.heap.size, 0, none⟩ : Addr) (.agg #[.int .i64 x92, .int .i64 x93, .slice s94a s94l s94c, .slice s95a s95l s95c, .slice s96a s96l s96c]) ∧ R (.returned (.tuple #[.agg #[.int .i64 x92, .int .i64 x93, .slice s94a s94l s94c, .slice s95a s95l s95c, .slice s96a s96l s96c], .int .i64 0])) w91))) (pan R)))) (pan R)))) (pan R)))) (pan R)))) (pan R))))) (pan R))
theorem T_qac_hl : allP (hokL Tryz.prog (hookAt []) (bodyOf Tryz.f13) 1) = (True) := by kernel_rfl
theorem T_qac_eq (b1a : Option Addr) (b1l b1c : Nat) (w : World) (R : RT) : vcCode Tryz.prog (hookAt []) (bodyOf Tryz.f13) 1 ⟨argEnv [.slice b1a b1l b1c] 0, Tryz.f13.ntmps, []⟩ w (finQ Tryz.prog Tryz.f13.results.toList R) = T_qac b1a b1l b1c w R := by kernel_rfl
theorem T_qac_b : Tryz.f13.body = some (bodyOf Tryz.f13) := by kernel_rfl
theorem T_qac_s : (quietSel (bodyOf Tryz.f13) && Nat.ble 1 Tryz.f13.ntmps) = true := by kernel_rfl
theorem C_qac {b1a : Option Addr} {b1l b1c : Nat} {w : World} {R : RT} (h : T_qac b1a b1l b1c w R) : Calls Tryz.prog 13 #[.slice b1a b1l b1c] w R :=
 calls_of_text (args := [.slice b1a b1l b1c]) mixed Tryz.func13 T_qac_b T_qac_s (HOk_of _ _ (by rw [T_qac_hl]; exact trivial)) (by rw [T_qac_eq]; exact h)
def T_qa3 (b1a : Option Addr) (b1l b1c : Nat) (n2 : Int) (w : World) (R : RT) : Prop :=
 Calls Tryz.prog 88 #[.int .i64 n2] w (ret (fun r3 w4 => ∃ (s5a : Option Addr) (s5l s5c : Nat) (x6 : Int), r3 = .tuple #[.slice s5a s5l s5c, .int .i64 x6] ∧ runV Tryz.prog (Builtin.append_ #[27, 27] 27 #[.slice b1a b1l b1c, .slice s5a s5l s5c]) w4 (fun r7 w8 => ∃ (s9a : Option Addr) (s9l s9c : Nat), r7 = .slice s9a s9l s9c ∧ R (.returned (.slice s9a s9l s9c)) w8) (pan R)) (pan R))
theorem T_qa3_hl : allP (hokL Tryz.prog (hookAt []) (bodyOf Tryz.f43) 1) = (True) := by kernel_rfl
theorem T_qa3_eq (b1a : Option Addr) (b1l b1c : Nat) (n2 : Int) (w : World) (R : RT) : vcCode Tryz.prog (hookAt []) (bodyOf Tryz.f43) 1 ⟨argEnv [.slice b1a b1l b1c, .int .i64 n2] 0, Tryz.f43.ntmps, []⟩ w (finQ Tryz.prog Tryz.f43.results.toList R) = T_qa3 b1a b1l b1c n2 w R := by kernel_rfl
theorem T_qa3_b : Tryz.f43.body = some (bodyOf Tryz.f43) := by kernel_rfl
theorem T_qa3_s : (quietSel (bodyOf Tryz.f43) && Nat.ble 2 Tryz.f43.ntmps) = true := by kernel_rfl
theorem C_qa3 {b1a : Option Addr} {b1l b1c : Nat} {n2 : Int} {w : World} {R : RT} (h : T_qa3 b1a b1l b1c n2 w R) : Calls Tryz.prog 43 #[.slice b1a b1l b1c, .int .i64 n2] w R :=
 calls_of_text (args := [.slice b1a b1l b1c, .int .i64 n2]) mixed Tryz.func43 T_qa3_b T_qa3_s (HOk_of _ _ (by rw [T_qa3_hl]; exact trivial)) (by rw [T_qa3_eq]; exact h)
def T_q92 (s13 : Addr) (e14 : Int) (w : World) (Kn : Bool → World → Prop) (Kp : XT) : Prop :=
 ∃ x15 : Int, rd w s13 (.int .i64 x15) ∧ if (decide (x15 < 1)) = true then (Kn true w) else (∃ x16 : Int, rd w s13 (.int .i64 x16) ∧ if (decide (x16 > 1099511627776)) = true then (Kn true w) else (∃ x17 : Int, rd w (s13.add 1) (.int .i64 x17) ∧ if (decide (x17 < 1)) = true then (Kn true w) else (∃ x18 : Int, rd w (s13.add 1) (.int .i64 x18) ∧ if (decide (x18 > 1099511627776)) = true then (Kn true w) else (Kn (e14 != 0) w))))
def T_q5q : Exit → Option (List (Nat × Value)) := fun x => match x with | .normal => some [(38, .bool false)] | .panic _ => some [] | _ => none
def T_q7h : Nat → Bool := ksOf [13, 14, 15, 16, 17, 18, 19, 20, 21, 22, 23, 24, 25, 26, 27, 28, 29, 30, 31, 32, 33, 34, 35, 36, 37, 38]
def H_q92 : Env → World → QT → Prop := unitHook 72 T_q7h [(1, .pointer (some ⟨0, 0, none⟩)), (5, .int .i64 0)] T_q5q fun l w C => match l with | [v0, v1] => T_q92 (pAddr v0) (pInt v1) w (fun b20 w => C .normal [.bool b20] w) (fun ch w => C (.panic ch) [] w) | _ => False
theorem T_q92_hl : allP (hokL Tryz.prog (hookAt []) (at_ (bodyOf Tryz.f10) [1, 1, 0, 0]) 28) = (True) := by kernel_rfl
theorem T_q92_hok : HOk Tryz.prog (hookAt []) (at_ (bodyOf Tryz.f10) [1, 1, 0, 0]) 28 := HOk_of _ _ (by rw [T_q92_hl]; exact trivial)
theorem T_q92_eq (C : Conts) (s13 : Addr) (e14 : Int) (w : World) : vcCode Tryz.prog (hookAt []) (at_ (bodyOf Tryz.f10) [1, 1, 0, 0]) 28 ⟨[(1, .pointer (some s13)), (5, .int .i64 e14)], 72, []⟩ w (unitQ T_q5q C) = T_q92 s13 e14 w (fun b21 w => C .normal [.bool b21] w) (fun ch w => C (.panic ch) [] w) := by kernel_rfl
theorem T_qa2_1_ok : UnitOk Tryz.prog H_q92 (at_ (bodyOf Tryz.f10) [1, 1, 0, 0]) 28 := unit_ok (H := (hookAt [])) (by kernel_rfl) T_q92_hok fun l w C hk => by
  obtain ⟨v0, _, rfl, k_v0, hk_v0⟩ := kC hk
  obtain ⟨s13, rfl⟩ := kind_addr k_v0
  obtain ⟨v1, _, rfl, k_v1, hk_v1⟩ := kC hk_v0
  obtain ⟨e14, rfl⟩ := kind_int k_v1
  obtain rfl := kN hk_v1
  exact T_q92_eq C s13 e14 w
def T_qa2 (x1 x2 : Int) (s3a : Option Addr) (s3l s3c : Nat) (s4a : Option Addr) (s4l s4c : Nat) (s5a : Option Addr) (s5l s5c : Nat) (w : World) (R : RT) : Prop :=
 let w6 : World := w.alloc (.cells #[.int .i64 x1, .int .i64 x2, .slice s3a s3l s3c, .slice s4a s4l s4c, .slice s5a s5l s5c] 29)
 ∃ (s7a : Option Addr) (s7l s7c : Nat) (s8a : Option Addr) (s8l s8c : Nat), rd w6 ((⟨w.heap.size, 0, none⟩ : Addr).add 2) (.agg #[.slice s7a s7l s7c, .slice s8a s8l s8c]) ∧ Calls Tryz.prog 42 #[.agg #[.slice s7a s7l s7c, .slice s8a s8l s8c]] w6 (ret (fun r9 w10 => ∃ (s11a : Option Addr) (s11l s11c : Nat) (x12 : Int), r9 = .tuple #[.slice s11a s11l s11c, .int .i64 x12] ∧ T_q92 (⟨w.heap.size, 0, none⟩ : Addr) x12 w10 (fun b22 w23 => if b22 = true then (R (.returned (.tuple #[.slice none 0 0, .int .i64 2])) w23) else (∃ (s24a : Option Addr) (s24l s24c : Nat), rd w23 ((⟨w.heap.size, 0, none⟩ : Addr).add 4) (.slice s24a s24l s24c) ∧ if (decide (((s24l : Nat) : Int) > 16384)) = true then (R (.returned (.tuple #[.slice none 0 0, .int .i64 6])) w23) else (let w25 : World := w23.drew
 ∃ x26 : Int, rd w25 (⟨w.heap.size, 0, none⟩ : Addr) (.int .i64 x26) ∧ ∃ x27 : Int, rd w25 ((⟨w.heap.size, 0, none⟩ : Addr).add 1) (.int .i64 x27) ∧ let w28 : World := w25.alloc (.cells #[] 5)
 (rd w28 ((⟨w.heap.size, 0, none⟩ : Addr).add 1) (.int .i64 x27) ∧ rd w28 (⟨w.heap.size, 0, none⟩ : Addr) (.int .i64 x26) ∧ True) ∧ Calls Tryz.prog 43 #[.slice (some (⟨w25.heap.size, 0, none⟩ : Addr)) 0 0, .int .i64 x26] w28 (ret (fun r29 w30 => ∃ (s31a : Option Addr) (s31l s31c : Nat), r29 = .slice s31a s31l s31c ∧ (rd w30 ((⟨w.heap.size, 0, none⟩ : Addr).add 1) (.int .i64 x27) ∧ True) ∧ Calls Tryz.prog 43 #[.slice s31a s31l s31c, .int .i64 x27] w30 (ret (fun r32 w33 => ∃ (s34a : Option Addr) (s34l s34c : Nat), r32 = .slice s34a s34l s34c ∧ (True) ∧ Calls Tryz.prog 43 #[.slice s34a s34l s34c, .int .i64 ((s11l : Nat) : Int)] w33 (ret (fun r35 w36 => ∃ (s37a : Option Addr) (s37l s37c : Nat), r35 = .slice s37a s37l s37c ∧ runV Tryz.prog (Builtin.append_ #[27, 27] 27 #[.slice s37a s37l s37c, .slice s11a s11l s11c]) w36 (fun r38 w39 => ∃ (s40a : Option Addr) (s40l s40c : Nat), r38 = .slice s40a s40l s40c ∧ ∃ (s41a : Option Addr) (s41l s41c : Nat), rd w39 ((⟨w.heap.size, 0, none⟩ : Addr).add 4) (.slice s41a s41l s41c) ∧ Calls Tryz.prog 43 #[.slice s40a s40l s40c, .int .i64 ((s41l : Nat) : Int)] w39 (ret (fun r42 w43 => ∃ (s44a : Option Addr) (s44l s44c : Nat), r42 = .slice s44a s44l s44c ∧ ∃ (s45a : Option Addr) (s45l s45c : Nat), rd w43 ((⟨w.heap.size, 0, none⟩ : Addr).add 4) (.slice s45a s45l s45c) ∧ runV Tryz.prog (Builtin.append_ #[27, 27] 27 #[.slice s44a s44l s44c, .slice s45a s45l s45c]) w43 (fun r46 w47 => ∃ (s48a : Option Addr) (s48l s48c : Nat), r46 = .slice s48a s48l s48c ∧ Calls Tryz.prog 15 #[.slice s48a s48l s48c] w47 (ret (fun r49 w50 => ∃ (s51a : Option Addr) (s51l s51c : Nat) (x52 : Int), r49 = .tuple #[.slice s51a s51l s51c, .int .i64 x52] ∧ R (.returned (.tuple #[.slice s51a s51l s51c, .int .i64 x52])) w50) (pan R))) (pan R)) (pan R))) (pan R)) (pan R))) (pan R))) (pan R))))) (pan R)) (pan R))
theorem T_qa2_hl : allP (hokL Tryz.prog (hookAt [(28, H_q92)]) (bodyOf Tryz.f10) 1) = (UnitOk Tryz.prog H_q92 (at_ (bodyOf Tryz.f10) [1, 1, 0, 0]) 28 ∧ True) := by kernel_rfl
theorem T_qa2_eq (x1 x2 : Int) (s3a : Option Addr) (s3l s3c : Nat) (s4a : Option Addr) (s4l s4c : Nat) (s5a : Option Addr) (s5l s5c : Nat) (w : World) (R : RT) : vcCode Tryz.prog (hookAt [(28, H_q92)]) (bodyOf Tryz.f10) 1 ⟨argEnv [.agg #[.int .i64 x1, .int .i64 x2, .slice s3a s3l s3c, .slice s4a s4l s4c, .slice s5a s5l s5c]] 0, Tryz.f10.ntmps, []⟩ w (finQ Tryz.prog Tryz.f10.results.toList R) = T_qa2 x1 x2 s3a s3l s3c s4a s4l s4c s5a s5l s5c w R := by kernel_rfl
theorem T_qa2_b : Tryz.f10.body = some (bodyOf Tryz.f10) := by kernel_rfl
theorem T_qa2_s : (quietSel (bodyOf Tryz.f10) && Nat.ble 1 Tryz.f10.ntmps) = true := by kernel_rfl
theorem C_qa2 {x1 x2 : Int} {s3a : Option Addr} {s3l s3c : Nat} {s4a : Option Addr} {s4l s4c : Nat} {s5a : Option Addr} {s5l s5c : Nat} {w : World} {R : RT} (h : T_qa2 x1 x2 s3a s3l s3c s4a s4l s4c s5a s5l s5c w R) : Calls Tryz.prog 10 #[.agg #[.int .i64 x1, .int .i64 x2, .slice s3a s3l s3c, .slice s4a s4l s4c, .slice s5a s5l s5c]] w R :=
 calls_of_text (args := [.agg #[.int .i64 x1, .int .i64 x2, .slice s3a s3l s3c, .slice s4a s4l s4c, .slice s5a s5l s5c]]) mixed Tryz.func10 T_qa2_b T_qa2_s (HOk_of _ _ (by rw [T_qa2_hl]; exact ⟨T_qa2_1_ok, trivial⟩)) (by rw [T_qa2_eq]; exact h)
def T_qa1_1_body (X : Int → Int → World → Prop) (at33 i34 : Int) (a35 none36 : Addr) (in37a : Option Addr) (in37l in37c : Nat) (marks38a : Option Addr) (marks38l marks38c : Nat) (w : World) (Kn : Int → World → Prop) (Kr : Int → World → Prop) (Kp : XT)  : Prop :=
 if (decide (i34 < 2)) = true then (Calls Tryz.prog 51 #[.slice in37a in37l in37c, .int .i64 at33] w (ret (fun r39 w40 => ∃ x41 x42 x43 : Int, r39 = .tuple #[.int .i64 x41, .int .i64 x42, .int .i64 x43] ∧ if (x43 != 0) = true then (∃ (x44 x45 : Int) (s46a : Option Addr) (s46l s46c : Nat) (s47a : Option Addr) (s47l s47c : Nat) (s48a : Option Addr) (s48l s48c : Nat), rd w40 none36 (.agg #[.int .i64 x44, .int .i64 x45, .slice s46a s46l s46c, .slice s47a s47l s47c, .slice s48a s48l s48c]) ∧ (.agg #[.int .i64 x44, .int .i64 x45, .slice s46a s46l s46c, .slice s47a s47l s47c, .slice s48a s48l s48c] : Value).cells.size = 5 ∧ wrOk w40 a35 (.agg #[.int .i64 x44, .int .i64 x45, .slice s46a s46l s46c, .slice s47a s47l s47c, .slice s48a s48l s48c]) ∧ let w49 : World := wr w40 a35 (.agg #[.int .i64 x44, .int .i64 x45, .slice s46a s46l s46c, .slice s47a s47l s47c, .slice s48a s48l s48c])
 Kr x43 w49) else (if (x41 == 0) = true then (∃ (x50 x51 : Int) (s52a : Option Addr) (s52l s52c : Nat) (s53a : Option Addr) (s53l s53c : Nat) (s54a : Option Addr) (s54l s54c : Nat), rd w40 none36 (.agg #[.int .i64 x50, .int .i64 x51, .slice s52a s52l s52c, .slice s53a s53l s53c, .slice s54a s54l s54c]) ∧ (.agg #[.int .i64 x50, .int .i64 x51, .slice s52a s52l s52c, .slice s53a s53l s53c, .slice s54a s54l s54c] : Value).cells.size = 5 ∧ wrOk w40 a35 (.agg #[.int .i64 x50, .int .i64 x51, .slice s52a s52l s52c, .slice s53a s53l s53c, .slice s54a s54l s54c]) ∧ let w55 : World := wr w40 a35 (.agg #[.int .i64 x50, .int .i64 x51, .slice s52a s52l s52c, .slice s53a s53l s53c, .slice s54a s54l s54c])
 Kr 4 w55) else (0 ≤ i34 ∧ i34 < ((marks38l : Nat) : Int) ∧ ∃ b56, marks38a = some b56 ∧ (.int .i64 x41 : Value).cells.size = 1 ∧ wrOk w40 (b56.add (i34.toNat * 1)) (.int .i64 x41) ∧ let w57 : World := wr w40 (b56.add (i34.toNat * 1)) (.int .i64 x41)
 X x42 (IntKind.wrap .i64 (i34 + 1)) w57))) Kp)) else (Kn at33 w)
def T_q91 (at33 i34 : Int) (a35 none36 : Addr) (in37a : Option Addr) (in37l in37c : Nat) (marks38a : Option Addr) (marks38l marks38c : Nat) (w : World) (Kn : Int → World → Prop) (Kr : Int → World → Prop) (Kp : XT) : Prop :=
 ∀ X : Int → Int → World → Prop, (∀ (at33 i34 : Int) (w : World), T_qa1_1_body X at33 i34 a35 none36 in37a in37l in37c marks38a marks38l marks38c w Kn Kr Kp → X at33 i34 w) → X at33 i34 w
def T_q5p : Exit → Option (List (Nat × Value)) := fun x => match x with | .normal => some [(8, .int .i64 0)] | .ret => some [(3, .int .i64 0)] | .panic _ => some [] | _ => none
def T_q7g : Nat → Bool := ksOf [3, 8, 10, 11, 12, 13, 34, 35, 36, 37, 38, 39, 40, 41, 42, 43, 44, 45, 46, 47, 48, 49, 50, 51, 52, 53, 54, 55, 56]
def H_q91 : Env → World → QT → Prop := unitHook 134 T_q7g [(8, .int .i64 0), (10, .int .i64 0), (2, .pointer (some ⟨0, 0, none⟩)), (4, .pointer (some ⟨0, 0, none⟩)), (5, .slice none 0 0), (9, .slice none 0 0)] T_q5p fun l w C => match l with | [v0, v1, v2, v3, v4, v5] => T_q91 (pInt v0) (pInt v1) (pAddr v2) (pAddr v3) (pA v4) (pL v4) (pC v4) (pA v5) (pL v5) (pC v5) w (fun at60 w => C .normal [.int .i64 at60] w) (fun x61 w => C .ret [.int .i64 x61] w) (fun ch w => C (.panic ch) [] w) | _ => False
theorem T_q91_hl : allP (hokL Tryz.prog (hookAt []) (at_ (bodyOf Tryz.f14) [1, 1, 1, 1, 1, 1, 1, 0, 1, 0, 0]) 4084) = (True) := by kernel_rfl
theorem T_q91_hok : HOk Tryz.prog (hookAt []) (at_ (bodyOf Tryz.f14) [1, 1, 1, 1, 1, 1, 1, 0, 1, 0, 0]) 4084 := HOk_of _ _ (by rw [T_q91_hl]; exact trivial)
theorem T_q91_eq (C : Conts) (X : List Value → World → Prop) (at33 i34 : Int) (a35 none36 : Addr) (in37a : Option Addr) (in37l in37c : Nat) (marks38a : Option Addr) (marks38l marks38c : Nat) (w : World) : vcCode Tryz.prog (hookAt []) (at_ (bodyOf Tryz.f14) [1, 1, 1, 1, 1, 1, 1, 0, 1, 0, 0]) 4084 ⟨[(8, .int .i64 at33), (10, .int .i64 i34)] ++ [(2, .pointer (some a35)), (4, .pointer (some none36)), (5, .slice in37a in37l in37c), (9, .slice marks38a marks38l marks38c)], 134, []⟩ w (seqQ (fun e w => takeAll e [(8, .int .i64 0), (10, .int .i64 0)] fun l => X l w) (blockQ 0 (unitQ T_q5p C))) = T_qa1_1_body (fun at33 i34 w => X [.int .i64 at33, .int .i64 i34] w) at33 i34 a35 none36 in37a in37l in37c marks38a marks38l marks38c w (fun at62 w => C .normal [.int .i64 at62] w) (fun x63 w => C .ret [.int .i64 x63] w) (fun ch w => C (.panic ch) [] w) := by kernel_rfl
theorem T_qa1_1_ok : UnitOk Tryz.prog H_q91 (at_ (bodyOf Tryz.f14) [1, 1, 1, 1, 1, 1, 1, 0, 1]) 1021 := by
 have hc : at_ (bodyOf Tryz.f14) [1, 1, 1, 1, 1, 1, 1, 0, 1] = .block 0 (.loop (at_ (bodyOf Tryz.f14) [1, 1, 1, 1, 1, 1, 1, 0, 1, 0, 0])) := by kernel_rfl
 rw [hc]
 refine loop_unit_ok (carr := [(8, .int .i64 0), (10, .int .i64 0)]) (fix := [(2, .pointer (some ⟨0, 0, none⟩)), (4, .pointer (some ⟨0, 0, none⟩)), (5, .slice none 0 0), (9, .slice none 0 0)]) (ks := T_q7g) (H := (hookAt [])) (B := fun C X l u w => match l, u with | [v0, v1], [v2, v3, v4, v5] => T_qa1_1_body (fun at33 i34 w => X [.int .i64 at33, .int .i64 i34] w) (pInt v0) (pInt v1) (pAddr v2) (pAddr v3) (pA v4) (pL v4) (pC v4) (pA v5) (pL v5) (pC v5) w (fun at64 w => C .normal [.int .i64 at64] w) (fun x65 w => C .ret [.int .i64 x65] w) (fun ch w => C (.panic ch) [] w) | _, _ => False) (by kernel_rfl) (by kernel_rfl) T_q91_hok ?_ ?_
 ·intro C X l u w hl hu
  obtain ⟨v0, _, rfl, k_v0, hl_v0⟩ := kC hl
  obtain ⟨at33, rfl⟩ := kind_int k_v0
  obtain ⟨v1, _, rfl, k_v1, hl_v1⟩ := kC hl_v0
  obtain ⟨i34, rfl⟩ := kind_int k_v1
  obtain rfl := kN hl_v1
  obtain ⟨v2, _, rfl, k_v2, hu_v2⟩ := kC hu
  obtain ⟨a35, rfl⟩ := kind_addr k_v2
  obtain ⟨v3, _, rfl, k_v3, hu_v3⟩ := kC hu_v2
  obtain ⟨none36, rfl⟩ := kind_addr k_v3
  obtain ⟨v4, _, rfl, k_v4, hu_v4⟩ := kC hu_v3
  obtain ⟨in37a, in37l, in37c, rfl⟩ := kind_slice k_v4
  obtain ⟨v5, _, rfl, k_v5, hu_v5⟩ := kC hu_v4
  obtain ⟨marks38a, marks38l, marks38c, rfl⟩ := kind_slice k_v5
  obtain rfl := kN hu_v5
  exact T_q91_eq C X at33 i34 a35 none36 in37a in37l in37c marks38a marks38l marks38c w
 ·intro l u w C hl hu
  obtain ⟨v0, _, rfl, k_v0, hl_v0⟩ := kC hl
  obtain ⟨at33, rfl⟩ := kind_int k_v0
  obtain ⟨v1, _, rfl, k_v1, hl_v1⟩ := kC hl_v0
  obtain ⟨i34, rfl⟩ := kind_int k_v1
  obtain rfl := kN hl_v1
  obtain ⟨v2, _, rfl, k_v2, hu_v2⟩ := kC hu
  obtain ⟨a35, rfl⟩ := kind_addr k_v2
  obtain ⟨v3, _, rfl, k_v3, hu_v3⟩ := kC hu_v2
  obtain ⟨none36, rfl⟩ := kind_addr k_v3
  obtain ⟨v4, _, rfl, k_v4, hu_v4⟩ := kC hu_v3
  obtain ⟨in37a, in37l, in37c, rfl⟩ := kind_slice k_v4
  obtain ⟨v5, _, rfl, k_v5, hu_v5⟩ := kC hu_v4
  obtain ⟨marks38a, marks38l, marks38c, rfl⟩ := kind_slice k_v5
  obtain rfl := kN hu_v5
  constructor
  ·intro h X hX
   exact h (fun at33 i34 w => X [.int .i64 at33, .int .i64 i34] w) (fun at33 i34 w hb => hX [.int .i64 at33, .int .i64 i34] w ⟨rfl, rfl, trivial⟩ hb)
  ·intro h X hX
   exact h (fun l w => match l with | [v0, v1] => X (pInt v0) (pInt v1) w | _ => True) (fun l w hl hb => by
    obtain ⟨v0, _, rfl, k_v0, hl_v0⟩ := kC hl
    obtain ⟨at33, rfl⟩ := kind_int k_v0
    obtain ⟨v1, _, rfl, k_v1, hl_v1⟩ := kC hl_v0
    obtain ⟨i34, rfl⟩ := kind_int k_v1
    obtain rfl := kN hl_v1
    exact hX at33 i34 w hb)
def T_qa1 (b1a : Option Addr) (b1l b1c : Nat) (w : World) (R : RT) : Prop :=
 let w2 : World := w.alloc (.cells #[.int .i64 0, .int .i64 0, .slice none 0 0, .slice none 0 0, .slice none 0 0] 29)
 let w3 : World := w2.alloc (.cells #[.int .i64 0, .int .i64 0, .slice none 0 0, .slice none 0 0, .slice none 0 0] 29)
 (.agg #[.int .i64 0, .int .i64 0, .slice none 0 0, .slice none 0 0, .slice none 0 0] : Value).cells.size = 5 ∧ wrOk w3 (⟨w2.heap.size, 0, none⟩ : Addr) (.agg #[.int .i64 0, .int .i64 0, .slice none 0 0, .slice none 0 0, .slice none 0 0]) ∧ let w4 : World := wr w3 (⟨w2.heap.size, 0, none⟩ : Addr) (.agg #[.int .i64 0, .int .i64 0, .slice none 0 0, .slice none 0 0, .slice none 0 0])
 Calls Tryz.prog 50 #[.slice b1a b1l b1c, .int .i64 0] w4 (ret (fun r5 w6 => ∃ (s7a : Option Addr) (s7l s7c : Nat) (x8 x9 : Int), r5 = .tuple #[.slice s7a s7l s7c, .int .i64 x8, .int .i64 x9] ∧ if (x9 != 0) = true then (∃ (x10 x11 : Int) (s12a : Option Addr) (s12l s12c : Nat) (s13a : Option Addr) (s13l s13c : Nat) (s14a : Option Addr) (s14l s14c : Nat), rd w6 (⟨w2.heap.size, 0, none⟩ : Addr) (.agg #[.int .i64 x10, .int .i64 x11, .slice s12a s12l s12c, .slice s13a s13l s13c, .slice s14a s14l s14c]) ∧ (.agg #[.int .i64 x10, .int .i64 x11, .slice s12a s12l s12c, .slice s13a s13l s13c, .slice s14a s14l s14c] : Value).cells.size = 5 ∧ wrOk w6 (⟨w.heap.size, 0, none⟩ : Addr) (.agg #[.int .i64 x10, .int .i64 x11, .slice s12a s12l s12c, .slice s13a s13l s13c, .slice s14a s14l s14c]) ∧ let w15 : World := wr w6 (⟨w.heap.size, 0, none⟩ : Addr) (.agg #[.int .i64 x10, .int .i64 x11, .slice s12a s12l s12c, .slice s13a s13l s13c, .slice s14a s14l s14c])
 ∃ (x16 x17 : Int) (s18a : Option Addr) (s18l s18c : Nat) (s19a : Option Addr) (s19l s19c : Nat) (s20a : Option Addr) (s20l s20c : Nat), rd w15 (⟨w.heap.size, 0, none⟩ : Addr) (.agg #[.int .i64 x16, .int .i64 x17, .slice s18a s18l s18c, .slice s19a s19l s19c, .slice s20a s20l s20c]) ∧ R (.returned (.tuple #[.agg #[.int .i64 x16, .int .i64 x17, .slice s18a s18l s18c, .slice s19a s19l s19c, .slice s20a s20l s20c], .int .i64 x9])) w15) else (if (x8 != ((b1l : Nat) : Int)) = true then (∃ (x21 x22 : Int) (s23a : Option Addr) (s23l s23c : Nat) (s24a : Option Addr) (s24l s24c : Nat) (s25a : Option Addr) (s25l s25c : Nat), rd w6 (⟨w2.heap.size, 0, none⟩ : Addr) (.agg #[.int .i64 x21, .int .i64 x22, .slice s23a s23l s23c, .slice s24a s24l s24c, .slice s25a s25l s25c]) ∧ (.agg #[.int .i64 x21, .int .i64 x22, .slice s23a s23l s23c, .slice s24a s24l s24c, .slice s25a s25l s25c] : Value).cells.size = 5 ∧ wrOk w6 (⟨w.heap.size, 0, none⟩ : Addr) (.agg #[.int .i64 x21, .int .i64 x22, .slice s23a s23l s23c, .slice s24a s24l s24c, .slice s25a s25l s25c]) ∧ let w26 : World := wr w6 (⟨w.heap.size, 0, none⟩ : Addr) (.agg #[.int .i64 x21, .int .i64 x22, .slice s23a s23l s23c, .slice s24a s24l s24c, .slice s25a s25l s25c])
 ∃ (x27 x28 : Int) (s29a : Option Addr) (s29l s29c : Nat) (s30a : Option Addr) (s30l s30c : Nat) (s31a : Option Addr) (s31l s31c : Nat), rd w26 (⟨w.heap.size, 0, none⟩ : Addr) (.agg #[.int .i64 x27, .int .i64 x28, .slice s29a s29l s29c, .slice s30a s30l s30c, .slice s31a s31l s31c]) ∧ R (.returned (.tuple #[.agg #[.int .i64 x27, .int .i64 x28, .slice s29a s29l s29c, .slice s30a s30l s30c, .slice s31a s31l s31c], .int .i64 4])) w26) else (let w32 : World := w6.alloc (.cells #[.int .i64 0, .int .i64 0] 3)
 T_q91 0 0 (⟨w.heap.size, 0, none⟩ : Addr) (⟨w2.heap.size, 0, none⟩ : Addr) s7a s7l s7c (some (⟨w6.heap.size, 0, none⟩ : Addr)) 2 2 w32 (fun at66 w67 => Calls Tryz.prog 51 #[.slice s7a s7l s7c, .int .i64 at66] w67 (ret (fun r68 w69 => ∃ x70 x71 x72 : Int, r68 = .tuple #[.int .i64 x70, .int .i64 x71, .int .i64 x72] ∧ if (x72 != 0) = true then (∃ (x73 x74 : Int) (s75a : Option Addr) (s75l s75c : Nat) (s76a : Option Addr) (s76l s76c : Nat) (s77a : Option Addr) (s77l s77c : Nat), rd w69 (⟨w2.heap.size, 0, none⟩ : Addr) (.agg #[.int .i64 x73, .int .i64 x74, .slice s75a s75l s75c, .slice s76a s76l s76c, .slice s77a s77l s77c]) ∧ (.agg #[.int .i64 x73, .int .i64 x74, .slice s75a s75l s75c, .slice s76a s76l s76c, .slice s77a s77l s77c] : Value).cells.size = 5 ∧ wrOk w69 (⟨w.heap.size, 0, none⟩ : Addr) (.agg #[.int .i64 x73, .int .i64 x74, .slice s75a s75l s75c, .slice s76a s76l s76c, .slice s77a s77l s77c]) ∧ let w78 : World := wr w69 (⟨w.heap.size, 0, none⟩ : Addr) (.agg #[.int .i64 x73, .int .i64 x74, .slice s75a s75l s75c, .slice s76a s76l s76c, .slice s77a s77l s77c])
 ∃ (x79 x80 : Int) (s81a : Option Addr) (s81l s81c : Nat) (s82a : Option Addr) (s82l s82c : Nat) (s83a : Option Addr) (s83l s83c : Nat), rd w78 (⟨w.heap.size, 0, none⟩ : Addr) (.agg #[.int .i64 x79, .int .i64 x80, .slice s81a s81l s81c, .slice s82a s82l s82c, .slice s83a s83l s83c]) ∧ R (.returned (.tuple #[.agg #[.int .i64 x79, .int .i64 x80, .slice s81a s81l s81c, .slice s82a s82l s82c, .slice s83a s83l s83c], .int .i64 x72])) w78) else (if (decide ((IntKind.wrap .i64 (((s7l : Nat) : Int) - x71) : Int) < x70)) = true then (∃ (x84 x85 : Int) (s86a : Option Addr) (s86l s86c : Nat) (s87a : Option Addr) (s87l s87c : Nat) (s88a : Option Addr) (s88l s88c : Nat), rd w69 (⟨w2.heap.size, 0, none⟩ : Addr) (.agg #[.int .i64 x84, .int .i64 x85, .slice s86a s86l s86c, .slice s87a s87l s87c, .slice s88a s88l s88c]) ∧ (.agg #[.int .i64 x84, .int .i64 x85, .slice s86a s86l s86c, .slice s87a s87l s87c, .slice s88a s88l s88c] : Value).cells.size = 5 ∧ wrOk w69 (⟨w.heap.size, 0, none⟩ : Addr) (.agg #[.int .i64 x84, .int .i64 x85, .slice s86a s86l s86c, .slice s87a s87l s87c, .slice s88a s88l s88c]) ∧ let w89 : World := wr w69 (⟨w.heap.size, 0, none⟩ : Addr) (.agg #[.int .i64 x84, .int .i64 x85, .slice s86a s86l s86c, .slice s87a s87l s87c, .slice s88a s88l s88c])
 ∃ (x90 x91 : Int) (s92a : Option Addr) (s92l s92c : Nat) (s93a : Option Addr) (s93l s93c : Nat) (s94a : Option Addr) (s94l s94c : Nat), rd w89 (⟨w.heap.size, 0, none⟩ : Addr) (.agg #[.int .i64 x90, .int .i64 x91, .slice s92a s92l s92c, .slice s93a s93l s93c, .slice s94a s94l s94c]) ∧ R (.returned (.tuple #[.agg #[.int .i64 x90, .int .i64 x91, .slice s92a s92l s92c, .slice s93a s93l s93c, .slice s94a s94l s94c], .int .i64 3])) w89) else (0 ≤ (IntKind.wrap .i64 (x71 + x70) : Int) ∧ (IntKind.wrap .i64 (x71 + x70) : Int) ≤ ((s7c : Nat) : Int) ∧ 0 ≤ x71 ∧ x71 ≤ (((IntKind.wrap .i64 (x71 + x70) : Int).toNat : Nat) : Int) ∧ Calls Tryz.prog 52 #[.slice (if s7c = (x71.toNat) then s7a else s7a.map (fun x => x.add ((x71.toNat) * 1))) (((IntKind.wrap .i64 (x71 + x70) : Int).toNat) - (x71.toNat)) (s7c - (x71.toNat))] w69 (ret (fun r95 w96 => ∃ (s97a : Option Addr) (s97l s97c : Nat) (s98a : Option Addr) (s98l s98c : Nat) (x99 : Int), r95 = .tuple #[.agg #[.slice s97a s97l s97c, .slice s98a s98l s98c], .int .i64 x99] ∧ let w100 : World := w96.alloc (.cells #[.slice none 0 0, .slice none 0 0] 26)
 (.agg #[.slice s97a s97l s97c, .slice s98a s98l s98c] : Value).cells.size = 2 ∧ wrOk w100 (⟨w96.heap.size, 0, none⟩ : Addr) (.agg #[.slice s97a s97l s97c, .slice s98a s98l s98c]) ∧ let w101 : World := wr w100 (⟨w96.heap.size, 0, none⟩ : Addr) (.agg #[.slice s97a s97l s97c, .slice s98a s98l s98c])
 if (x99 != 0) = true then (∃ (x102 x103 : Int) (s104a : Option Addr) (s104l s104c : Nat) (s105a : Option Addr) (s105l s105c : Nat) (s106a : Option Addr) (s106l s106c : Nat), rd w101 (⟨w2.heap.size, 0, none⟩ : Addr) (.agg #[.int .i64 x102, .int .i64 x103, .slice s104a s104l s104c, .slice s105a s105l s105c, .slice s106a s106l s106c]) ∧ (.agg #[.int .i64 x102, .int .i64 x103, .slice s104a s104l s104c, .slice s105a s105l s105c, .slice s106a s106l s106c] : Value).cells.size = 5 ∧ wrOk w101 (⟨w.heap.size, 0, none⟩ : Addr) (.agg #[.int .i64 x102, .int .i64 x103, .slice s104a s104l s104c, .slice s105a s105l s105c, .slice s106a s106l s106c]) ∧ let w107 : World := wr w101 (⟨w.heap.size, 0, none⟩ : Addr) (.agg #[.int .i64 x102, .int .i64 x103, .slice s104a s104l s104c, .slice s105a s105l s105c, .slice s106a s106l s106c])
 ∃ (x108 x109 : Int) (s110a : Option Addr) (s110l s110c : Nat) (s111a : Option Addr) (s111l s111c : Nat) (s112a : Option Addr) (s112l s112c : Nat), rd w107 (⟨w.heap.size, 0, none⟩ : Addr) (.agg #[.int .i64 x108, .int .i64 x109, .slice s110a s110l s110c, .slice s111a s111l s111c, .slice s112a s112l s112c]) ∧ R (.returned (.tuple #[.agg #[.int .i64 x108, .int .i64 x109, .slice s110a s110l s110c, .slice s111a s111l s111c, .slice s112a s112l s112c], .int .i64 x99])) w107) else (Calls Tryz.prog 51 #[.slice s7a s7l s7c, .int .i64 (IntKind.wrap .i64 (x71 + x70))] w101 (ret (fun r113 w114 => ∃ x115 x116 x117 : Int, r113 = .tuple #[.int .i64 x115, .int .i64 x116, .int .i64 x117] ∧ if (x117 != 0) = true then (∃ (x118 x119 : Int) (s120a : Option Addr) (s120l s120c : Nat) (s121a : Option Addr) (s121l s121c : Nat) (s122a : Option Addr) (s122l s122c : Nat), rd w114 (⟨w2.heap.size, 0, none⟩ : Addr) (.agg #[.int .i64 x118, .int .i64 x119, .slice s120a s120l s120c, .slice s121a s121l s121c, .slice s122a s122l s122c]) ∧ (.agg #[.int .i64 x118, .int .i64 x119, .slice s120a s120l s120c, .slice s121a s121l s121c, .slice s122a s122l s122c] : Value).cells.size = 5 ∧ wrOk w114 (⟨w.heap.size, 0, none⟩ : Addr) (.agg #[.int .i64 x118, .int .i64 x119, .slice s120a s120l s120c, .slice s121a s121l s121c, .slice s122a s122l s122c]) ∧ let w123 : World := wr w114 (⟨w.heap.size, 0, none⟩ : Addr) (.agg #[.int .i64 x118, .int .i64 x119, .slice s120a s120l s120c, .slice s121a s121l s121c, .slice s122a s122l s122c])
 ∃ (x124 x125 : Int) (s126a : Option Addr) (s126l s126c : Nat) (s127a : Option Addr) (s127l s127c : Nat) (s128a : Option Addr) (s128l s128c : Nat), rd w123 (⟨w.heap.size, 0, none⟩ : Addr) (.agg #[.int .i64 x124, .int .i64 x125, .slice s126a s126l s126c, .slice s127a s127l s127c, .slice s128a s128l s128c]) ∧ R (.returned (.tuple #[.agg #[.int .i64 x124, .int .i64 x125, .slice s126a s126l s126c, .slice s127a s127l s127c, .slice s128a s128l s128c], .int .i64 x117])) w123) else (if (decide (x115 > 16384)) = true then (∃ (x129 x130 : Int) (s131a : Option Addr) (s131l s131c : Nat) (s132a : Option Addr) (s132l s132c : Nat) (s133a : Option Addr) (s133l s133c : Nat), rd w114 (⟨w2.heap.size, 0, none⟩ : Addr) (.agg #[.int .i64 x129, .int .i64 x130, .slice s131a s131l s131c, .slice s132a s132l s132c, .slice s133a s133l s133c]) ∧ (.agg #[.int .i64 x129, .int .i64 x130, .slice s131a s131l s131c, .slice s132a s132l s132c, .slice s133a s133l s133c] : Value).cells.size = 5 ∧ wrOk w114 (⟨w.heap.size, 0, none⟩ : Addr) (.agg #[.int .i64 x129, .int .i64 x130, .slice s131a s131l s131c, .slice s132a s132l s132c, .slice s133a s133l s133c]) ∧ let w134 : World := wr w114 (⟨w.heap.size, 0, none⟩ : Addr) (.agg #[.int .i64 x129, .int .i64 x130, .slice s131a s131l s131c, .slice s132a s132l s132c, .slice s133a s133l s133c])
 ∃ (x135 x136 : Int) (s137a : Option Addr) (s137l s137c : Nat) (s138a : Option Addr) (s138l s138c : Nat) (s139a : Option Addr) (s139l s139c : Nat), rd w134 (⟨w.heap.size, 0, none⟩ : Addr) (.agg #[.int .i64 x135, .int .i64 x136, .slice s137a s137l s137c, .slice s138a s138l s138c, .slice s139a s139l s139c]) ∧ R (.returned (.tuple #[.agg #[.int .i64 x135, .int .i64 x136, .slice s137a s137l s137c, .slice s138a s138l s138c, .slice s139a s139l s139c], .int .i64 6])) w134) else (if (decide ((IntKind.wrap .i64 (((s7l : Nat) : Int) - x116) : Int) < x115)) = true then (∃ (x140 x141 : Int) (s142a : Option Addr) (s142l s142c : Nat) (s143a : Option Addr) (s143l s143c : Nat) (s144a : Option Addr) (s144l s144c : Nat), rd w114 (⟨w2.heap.size, 0, none⟩ : Addr) (.agg #[.int .i64 x140, .int .i64 x141, .slice s142a s142l s142c, .slice s143a s143l s143c, .slice s144a s144l s144c]) ∧ (.agg #[.int .i64 x140, .int .i64 x141, .slice s142a s142l s142c, .slice s143a s143l s143c, .slice s144a s144l s144c] : Value).cells.size = 5 ∧ wrOk w114 (⟨w.heap.size, 0, none⟩ : Addr) (.agg #[.int .i64 x140, .int .i64 x141, .slice s142a s142l s142c, .slice s143a s143l s143c, .slice s144a s144l s144c]) ∧ let w145 : World := wr w114 (⟨w.heap.size, 0, none⟩ : Addr) (.agg #[.int .i64 x140, .int .i64 x141, .slice s142a s142l s142c, .slice s143a s143l s143c, .slice s144a s144l s144c])
 ∃ (x146 x147 : Int) (s148a : Option Addr) (s148l s148c : Nat) (s149a : Option Addr) (s149l s149c : Nat) (s150a : Option Addr) (s150l s150c : Nat), rd w145 (⟨w.heap.size, 0, none⟩ : Addr) (.agg #[.int .i64 x146, .int .i64 x147, .slice s148a s148l s148c, .slice s149a s149l s149c, .slice s150a s150l s150c]) ∧ R (.returned (.tuple #[.agg #[.int .i64 x146, .int .i64 x147, .slice s148a s148l s148c, .slice s149a s149l s149c, .slice s150a s150l s150c], .int .i64 3])) w145) else (if (decide ((IntKind.wrap .i64 (((s7l : Nat) : Int) - x116) : Int) > x115)) = true then (∃ (x151 x152 : Int) (s153a : Option Addr) (s153l s153c : Nat) (s154a : Option Addr) (s154l s154c : Nat) (s155a : Option Addr) (s155l s155c : Nat), rd w114 (⟨w2.heap.size, 0, none⟩ : Addr) (.agg #[.int .i64 x151, .int .i64 x152, .slice s153a s153l s153c, .slice s154a s154l s154c, .slice s155a s155l s155c]) ∧ (.agg #[.int .i64 x151, .int .i64 x152, .slice s153a s153l s153c, .slice s154a s154l s154c, .slice s155a s155l s155c] : Value).cells.size = 5 ∧ wrOk w114 (⟨w.heap.size, 0, none⟩ : Addr) (.agg #[.int .i64 x151, .int .i64 x152, .slice s153a s153l s153c, .slice s154a s154l s154c, .slice s155a s155l s155c]) ∧ let w156 : World := wr w114 (⟨w.heap.size, 0, none⟩ : Addr) (.agg #[.int .i64 x151, .int .i64 x152, .slice s153a s153l s153c, .slice s154a s154l s154c, .slice s155a s155l s155c])
 ∃ (x157 x158 : Int) (s159a : Option Addr) (s159l s159c : Nat) (s160a : Option Addr) (s160l s160c : Nat) (s161a : Option Addr) (s161l s161c : Nat), rd w156 (⟨w.heap.size, 0, none⟩ : Addr) (.agg #[.int .i64 x157, .int .i64 x158, .slice s159a s159l s159c, .slice s160a s160l s160c, .slice s161a s161l s161c]) ∧ R (.returned (.tuple #[.agg #[.int .i64 x157, .int .i64 x158, .slice s159a s159l s159c, .slice s160a s160l s160c, .slice s161a s161l s161c], .int .i64 4])) w156) else (let w162 : World := w114.drew
 0 ≤ (0 : Int) ∧ (0 : Int) < ((2 : Nat) : Int) ∧ ∃ b163, some (⟨w6.heap.size, 0, none⟩ : Addr) = some b163 ∧ ∃ x164 : Int, rd w162 (b163.add ((0 : Int).toNat * 1)) (.int .i64 x164) ∧ 0 ≤ (1 : Int) ∧ (1 : Int) < ((2 : Nat) : Int) ∧ ∃ b165, some (⟨w6.heap.size, 0, none⟩ : Addr) = some b165 ∧ ∃ x166 : Int, rd w162 (b165.add ((1 : Int).toNat * 1)) (.int .i64 x166) ∧ ∃ (s167a : Option Addr) (s167l s167c : Nat) (s168a : Option Addr) (s168l s168c : Nat), rd w162 (⟨w96.heap.size, 0, none⟩ : Addr) (.agg #[.slice s167a s167l s167c, .slice s168a s168l s168c]) ∧ 0 ≤ x116 ∧ x116 ≤ ((s7l : Nat) : Int) ∧ let w169 : World := w162.alloc (.cells #[] 5)
 (rd w169 (⟨w96.heap.size, 0, none⟩ : Addr) (.agg #[.slice s167a s167l s167c, .slice s168a s168l s168c]) ∧ rd w169 (b165.add ((1 : Int).toNat * 1)) (.int .i64 x166) ∧ rd w169 (b163.add ((0 : Int).toNat * 1)) (.int .i64 x164) ∧ True) ∧ runV Tryz.prog (Builtin.append_ #[27, 27] 27 #[.slice (some (⟨w162.heap.size, 0, none⟩ : Addr)) 0 0, .slice (if s7c = (x116.toNat) then s7a else s7a.map (fun x => x.add ((x116.toNat) * 1))) (s7l - (x116.toNat)) (s7c - (x116.toNat))]) w169 (fun r170 w171 => ∃ (s172a : Option Addr) (s172l s172c : Nat), r170 = .slice s172a s172l s172c ∧ (rd w171 (⟨w96.heap.size, 0, none⟩ : Addr) (.agg #[.slice s167a s167l s167c, .slice s168a s168l s168c]) ∧ rd w171 (b165.add ((1 : Int).toNat * 1)) (.int .i64 x166) ∧ rd w171 (b163.add ((0 : Int).toNat * 1)) (.int .i64 x164) ∧ True) ∧ (.agg #[.int .i64 x164, .int .i64 x166, .slice s167a s167l s167c, .slice s168a s168l s168c, .slice s172a s172l s172c] : Value).cells.size = 5 ∧ wrOk w171 (⟨w.heap.size, 0, none⟩ : Addr) (.agg #[.int .i64 x164, .int .i64 x166, .slice s167a s167l s167c, .slice s168a s168l s168c, .slice s172a s172l s172c]) ∧ let w173 : World := wr w171 (⟨w.heap.size, 0, none⟩ : Addr) (.agg #[.int .i64 x164, .int .i64 x166, .slice s167a s167l s167c, .slice s168a s168l s168c, .slice s172a s172l s172c])
 (True) ∧ ∃ (x174 x175 : Int) (s176a : Option Addr) (s176l s176c : Nat) (s177a : Option Addr) (s177l s177c : Nat) (s178a : Option Addr) (s178l s178c : Nat), rd w173 (⟨w.heap.size, 0, none⟩ : Addr) (.agg #[.int .i64 x174, .int .i64 x175, .slice s176a s176l s176c, .slice s177a s177l s177c, .slice s178a s178l s178c]) ∧ R (.returned (.tuple #[.agg #[.int .i64 x174, .int .i64 x175, .slice s176a s176l s176c, .slice s177a s177l s177c, .slice s178a s178l s178c], .int .i64 0])) w173) (pan R)))))) (pan R)))) (pan R))))) (pan R))) (fun x179 w180 => ∃ (x181 x182 : Int) (s183a : Option Addr) (s183l s183c : Nat) (s184a : Option Addr) (s184l s184c : Nat) (s185a : Option Addr) (s185l s185c : Nat), rd w180 (⟨w.heap.size, 0, none⟩ : Addr) (.agg #[.int .i64 x181, .int .i64 x182, .slice s183a s183l s183c, .slice s184a s184l s184c, .slice s185a s185l s185c]) ∧ R (.returned (.tuple #[.agg #[.int .i64 x181, .int .i64 x182, .slice s183a s183l s183c, .slice s184a s184l s184c, .slice s185a s185l s185c], .int .i64 x179])) w180) (pan R)))) (pan R))
theorem T_qa1_hl : allP (hokL Tryz.prog (hookAt [(1021, H_q91)]) (bodyOf Tryz.f14) 1) = (UnitOk Tryz.prog H_q91 (at_ (bodyOf Tryz.f14) [1, 1, 1, 1, 1, 1, 1, 0, 1]) 1021 ∧ True) := by kernel_rfl
theorem T_qa1_eq (b1a : Option Addr) (b1l b1c : Nat) (w : World) (R : RT) : vcCode Tryz.prog (hookAt [(1021, H_q91)]) (bodyOf Tryz.f14) 1 ⟨argEnv [.slice b1a b1l b1c] 0, Tryz.f14.ntmps, []⟩ w (finQ Tryz.prog Tryz.f14.results.toList R) = T_qa1 b1a b1l b1c w R := by kernel_rfl
theorem T_qa1_b : Tryz.f14.body = some (bodyOf Tryz.f14) := by kernel_rfl
theorem T_qa1_s : (quietSel (bodyOf Tryz.f14) && Nat.ble 1 Tryz.f14.ntmps) = true := by kernel_rfl
theorem C_qa1 {b1a : Option Addr} {b1l b1c : Nat} {w : World} {R : RT} (h : T_qa1 b1a b1l b1c w R) : Calls Tryz.prog 14 #[.slice b1a b1l b1c] w R :=
 calls_of_text (args := [.slice b1a b1l b1c]) mixed Tryz.func14 T_qa1_b T_qa1_s (HOk_of _ _ (by rw [T_qa1_hl]; exact ⟨T_qa1_1_ok, trivial⟩)) (by rw [T_qa1_eq]; exact h)
def T_q9m (x1 x2 : Int) (s3a : Option Addr) (s3l s3c : Nat) (s4a : Option Addr) (s4l s4c : Nat) (s5a : Option Addr) (s5l s5c : Nat) (x6 x7 : Int) (s8a : Option Addr) (s8l s8c : Nat) (s9a : Option Addr) (s9l s9c : Nat) (s10a : Option Addr) (s10l s10c : Nat) (w : World) (R : RT) : Prop :=
 let w11 : World := w.alloc (.cells #[.int .i64 x1, .int .i64 x2, .slice s3a s3l s3c, .slice s4a s4l s4c, .slice s5a s5l s5c] 29)
 let w12 : World := w11.alloc (.cells #[.int .i64 x6, .int .i64 x7, .slice s8a s8l s8c, .slice s9a s9l s9c, .slice s10a s10l s10c] 29)
 ∃ x13 x14 : Int, rd w12 (⟨w.heap.size, 0, none⟩ : Addr) (.agg #[.int .i64 x13, .int .i64 x14]) ∧ ∃ x15 x16 : Int, rd w12 (⟨w11.heap.size, 0, none⟩ : Addr) (.agg #[.int .i64 x15, .int .i64 x16]) ∧ runV Tryz.prog (do eqGuard .eql 23 (.tmp 6) (.tmp 8) (.agg #[.int .i64 x13, .int .i64 x14]) (.agg #[.int .i64 x15, .int .i64 x16]); binOp .eql 23 (.agg #[.int .i64 x13, .int .i64 x14]) (.agg #[.int .i64 x15, .int .i64 x16])) w12 (fun r17 w18 => ∃ b19 : Bool, r17 = .bool b19 ∧ if b19 = true then (∃ (s20a : Option Addr) (s20l s20c : Nat) (s21a : Option Addr) (s21l s21c : Nat), rd w18 ((⟨w.heap.size, 0, none⟩ : Addr).add 2) (.agg #[.slice s20a s20l s20c, .slice s21a s21l s21c]) ∧ ∃ (s22a : Option Addr) (s22l s22c : Nat) (s23a : Option Addr) (s23l s23c : Nat), rd w18 ((⟨w11.heap.size, 0, none⟩ : Addr).add 2) (.agg #[.slice s22a s22l s22c, .slice s23a s23l s23c]) ∧ Calls Tryz.prog 45 #[.agg #[.slice s20a s20l s20c, .slice s21a s21l s21c], .agg #[.slice s22a s22l s22c, .slice s23a s23l s23c]] w18 (ret (fun r24 w25 => ∃ b26 : Bool, r24 = .bool b26 ∧ if b26 = true then (∃ (s27a : Option Addr) (s27l s27c : Nat), rd w25 ((⟨w.heap.size, 0, none⟩ : Addr).add 4) (.slice s27a s27l s27c) ∧ runV Tryz.prog (convert 27 9 (.slice s27a s27l s27c)) w25 (fun r28 w29 => ∃ s30 : ByteArray, r28 = .string s30 ∧ ∃ (s31a : Option Addr) (s31l s31c : Nat), rd w29 ((⟨w11.heap.size, 0, none⟩ : Addr).add 4) (.slice s31a s31l s31c) ∧ runV Tryz.prog (convert 27 9 (.slice s31a s31l s31c)) w29 (fun r32 w33 => ∃ s34 : ByteArray, r32 = .string s34 ∧ R (.returned (.bool (s30.toList == s34.toList))) w33) (pan R)) (pan R)) else (R (.returned (.bool false)) w25)) (pan R))) else (R (.returned (.bool false)) w18)) (pan R)
theorem T_q9m_hl : allP (hokL Tryz.prog (hookAt []) (bodyOf Tryz.f12) 1) = (True) := by kernel_rfl
theorem T_q9m_eq (x1 x2 : Int) (s3a : Option Addr) (s3l s3c : Nat) (s4a : Option Addr) (s4l s4c : Nat) (s5a : Option Addr) (s5l s5c : Nat) (x6 x7 : Int) (s8a : Option Addr) (s8l s8c : Nat) (s9a : Option Addr) (s9l s9c : Nat) (s10a : Option Addr) (s10l s10c : Nat) (w : World) (R : RT) : vcCode Tryz.prog (hookAt []) (bodyOf Tryz.f12) 1 ⟨argEnv [.agg #[.int .i64 x1, .int .i64 x2, .slice s3a s3l s3c, .slice s4a s4l s4c, .slice s5a s5l s5c], .agg #[.int .i64 x6, .int .i64 x7, .slice s8a s8l s8c, .slice s9a s9l s9c, .slice s10a s10l s10c]] 0, Tryz.f12.ntmps, []⟩ w (finQ Tryz.prog Tryz.f12.results.toList R) = T_q9m x1 x2 s3a s3l s3c s4a s4l s4c s5a s5l s5c x6 x7 s8a s8l s8c s9a s9l s9c s10a s10l s10c w R := by kernel_rfl
theorem T_q9m_b : Tryz.f12.body = some (bodyOf Tryz.f12) := by kernel_rfl
theorem T_q9m_s : (quietSel (bodyOf Tryz.f12) && Nat.ble 2 Tryz.f12.ntmps) = true := by kernel_rfl
theorem C_q9m {x1 x2 : Int} {s3a : Option Addr} {s3l s3c : Nat} {s4a : Option Addr} {s4l s4c : Nat} {s5a : Option Addr} {s5l s5c : Nat} {x6 x7 : Int} {s8a : Option Addr} {s8l s8c : Nat} {s9a : Option Addr} {s9l s9c : Nat} {s10a : Option Addr} {s10l s10c : Nat} {w : World} {R : RT} (h : T_q9m x1 x2 s3a s3l s3c s4a s4l s4c s5a s5l s5c x6 x7 s8a s8l s8c s9a s9l s9c s10a s10l s10c w R) : Calls Tryz.prog 12 #[.agg #[.int .i64 x1, .int .i64 x2, .slice s3a s3l s3c, .slice s4a s4l s4c, .slice s5a s5l s5c], .agg #[.int .i64 x6, .int .i64 x7, .slice s8a s8l s8c, .slice s9a s9l s9c, .slice s10a s10l s10c]] w R :=
 calls_of_text (args := [.agg #[.int .i64 x1, .int .i64 x2, .slice s3a s3l s3c, .slice s4a s4l s4c, .slice s5a s5l s5c], .agg #[.int .i64 x6, .int .i64 x7, .slice s8a s8l s8c, .slice s9a s9l s9c, .slice s10a s10l s10c]]) mixed Tryz.func12 T_q9m_b T_q9m_s (HOk_of _ _ (by rw [T_q9m_hl]; exact trivial)) (by rw [T_q9m_eq]; exact h)
def T_qaa (index1 : Int) (w : World) (R : RT) : Prop :=
 let w2 : World := w.alloc (.cells #[.int .i64 0, .int .i64 0, .slice none 0 0, .slice none 0 0, .slice none 0 0] 29)
 let w3 : World := w2.alloc (.cells #[.int .i64 1] 3)
 let w4 : World := w3.alloc (.cells #[.int .u8 120] 5)
 runV Tryz.prog (convert 27 27 (.slice (some (⟨w3.heap.size, 0, none⟩ : Addr)) 1 1)) w4 (fun r5 w6 => ∃ (s7a : Option Addr) (s7l s7c : Nat), r5 = .slice s7a s7l s7c ∧ (.agg #[.int .i64 index1, .int .i64 1, .slice (some (⟨w2.heap.size, 0, none⟩ : Addr)) 1 1, .slice none 0 0, .slice s7a s7l s7c] : Value).cells.size = 5 ∧ wrOk w6 (⟨w.heap.size, 0, none⟩ : Addr) (.agg #[.int .i64 index1, .int .i64 1, .slice (some (⟨w2.heap.size, 0, none⟩ : Addr)) 1 1, .slice none 0 0, .slice s7a s7l s7c]) ∧ let w8 : World := wr w6 (⟨w.heap.size, 0, none⟩ : Addr) (.agg #[.int .i64 index1, .int .i64 1, .slice (some (⟨w2.heap.size, 0, none⟩ : Addr)) 1 1, .slice none 0 0, .slice s7a s7l s7c])
 ∃ (x9 x10 : Int) (s11a : Option Addr) (s11l s11c : Nat) (s12a : Option Addr) (s12l s12c : Nat) (s13a : Option Addr) (s13l s13c : Nat), rd w8 (⟨w.heap.size, 0, none⟩ : Addr) (.agg #[.int .i64 x9, .int .i64 x10, .slice s11a s11l s11c, .slice s12a s12l s12c, .slice s13a s13l s13c]) ∧ R (.returned (.agg #[.int .i64 x9, .int .i64 x10, .slice s11a s11l s11c, .slice s12a s12l s12c, .slice s13a s13l s13c])) w8) (pan R)
theorem T_qaa_hl : allP (hokL Tryz.prog (hookAt []) (bodyOf Tryz.f31) 1) = (True) := by kernel_rfl
theorem T_qaa_eq (index1 : Int) (w : World) (R : RT) : vcCode Tryz.prog (hookAt []) (bodyOf Tryz.f31) 1 ⟨argEnv [.int .i64 index1] 0, Tryz.f31.ntmps, []⟩ w (finQ Tryz.prog Tryz.f31.results.toList R) = T_qaa index1 w R := by kernel_rfl
theorem T_qaa_b : Tryz.f31.body = some (bodyOf Tryz.f31) := by kernel_rfl
theorem T_qaa_s : (quietSel (bodyOf Tryz.f31) && Nat.ble 1 Tryz.f31.ntmps) = true := by kernel_rfl
theorem C_qaa {index1 : Int} {w : World} {R : RT} (h : T_qaa index1 w R) : Calls Tryz.prog 31 #[.int .i64 index1] w R :=
 calls_of_text (args := [.int .i64 index1]) mixed Tryz.func31 T_qaa_b T_qaa_s (HOk_of _ _ (by rw [T_qaa_hl]; exact trivial)) (by rw [T_qaa_eq]; exact h)
end Go.Proofs.YtclinifclfahfaaGreat
