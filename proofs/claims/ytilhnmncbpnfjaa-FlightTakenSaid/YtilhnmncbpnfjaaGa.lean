/-
  What the functions' code comes to; printed by a program of this claim's own.
-/
import Derived.Test.YtilhnmncbpnfjaaProg
import Derived.KernelRfl
import Derived.Test.YtilhnmncbpnfjaaVcUnit
namespace Go.Proofs.Ytilhnmncbpnfjaa
open Go Go.Vc
set_option maxRecDepth 100000
theorem mixed : Try.prog.follows .mixedOrders = true := by kernel_rfl

/-! tollgate/flight.New -/
def T_flight_New  (w : World) (R : Ending → World → Prop) : Prop :=
  let w1 : World := w.alloc (.map #[] 0)
  let w2 : World := w1.alloc (.cells #[.int .i64 0, .slice none 0 0, .map (some w.heap.size), .int .i64 0, .int .i64 0, .int .i64 0, .int .i64 0, .int .i64 0, .int .i64 0, .int .i64 0, .int .i64 0, .int .i64 0, .int .i64 0] 62)
  R (.returned (.pointer (some (⟨w1.heap.size, 0, none⟩ : Addr)))) w2

theorem T_flight_New_hl : allP (hokL Try.prog (hookAt []) (bodyOf Try.f12) 1) = (True) := by kernel_rfl

theorem T_flight_New_eq  (w : World) (R : Ending → World → Prop) : vcCode Try.prog (hookAt []) (bodyOf Try.f12) 1 ⟨argEnv [] 0, Try.f12.ntmps, []⟩ w (finQ Try.prog Try.f12.results.toList R) = T_flight_New  w R := by kernel_rfl

theorem T_flight_New_b : Try.f12.body = some (bodyOf Try.f12) := by kernel_rfl
theorem T_flight_New_s : (quietSel (bodyOf Try.f12) && Nat.ble 0 Try.f12.ntmps) = true := by kernel_rfl

theorem C_flight_New  {w : World} {R : Ending → World → Prop} (h : T_flight_New  w R) : Calls Try.prog 12 #[] w R :=
  calls_of_text (args := []) mixed Try.func12 T_flight_New_b T_flight_New_s (HOk_of _ _ (by rw [T_flight_New_hl]; exact trivial)) (by rw [T_flight_New_eq]; exact h)

/-! (*tollgate/flight.Net).Tick -/
def T_flight_Net_Tick (n1 : Option Addr) (k2 : Int) (w : World) (R : Ending → World → Prop) : Prop :=
  if n1.isNone = true then (R (.returned (.tuple #[.int .i64 0, .int .i64 1])) w) else (Calls Try.prog 37 #[.int .i64 k2] w (ret (fun r3 w4 => ∃ b5 : Bool, r3 = .bool b5 ∧ if (!b5) = true then (R (.returned (.tuple #[.int .i64 0, .int .i64 2])) w4) else (let w6 : World := w4.drew
  ∃ a7, n1 = some a7 ∧ 0 ≤ (k2 : Int) ∧ (k2 : Int) < 10 ∧ ∃ x8 : Int, rd w6 ((a7.add 3).add ((k2 : Int).toNat * 1)) (.int .i64 x8) ∧ ∃ a9, n1 = some a9 ∧ 0 ≤ (k2 : Int) ∧ (k2 : Int) < 10 ∧ (.int .i64 (IntKind.wrap .i64 ((x8 : Int) + 1)) : Value).cells.size = 1 ∧ wrOk w6 ((a9.add 3).add ((k2 : Int).toNat * 1)) (.int .i64 (IntKind.wrap .i64 ((x8 : Int) + 1))) ∧ let w10 : World := wr w6 ((a9.add 3).add ((k2 : Int).toNat * 1)) (.int .i64 (IntKind.wrap .i64 ((x8 : Int) + 1)))
  (True) ∧ ∃ a11, n1 = some a11 ∧ 0 ≤ (k2 : Int) ∧ (k2 : Int) < 10 ∧ ∃ x12 : Int, rd w10 ((a11.add 3).add ((k2 : Int).toNat * 1)) (.int .i64 x12) ∧ R (.returned (.tuple #[.int .i64 x12, .int .i64 0])) w10)) (pan R)))

theorem T_flight_Net_Tick_hl : allP (hokL Try.prog (hookAt []) (bodyOf Try.f13) 1) = (True) := by kernel_rfl

theorem T_flight_Net_Tick_eq (n1 : Option Addr) (k2 : Int) (w : World) (R : Ending → World → Prop) : vcCode Try.prog (hookAt []) (bodyOf Try.f13) 1 ⟨argEnv [.pointer n1, .int .i64 k2] 0, Try.f13.ntmps, []⟩ w (finQ Try.prog Try.f13.results.toList R) = T_flight_Net_Tick n1 k2 w R := by kernel_rfl

theorem T_flight_Net_Tick_b : Try.f13.body = some (bodyOf Try.f13) := by kernel_rfl
theorem T_flight_Net_Tick_s : (quietSel (bodyOf Try.f13) && Nat.ble 2 Try.f13.ntmps) = true := by kernel_rfl

theorem C_flight_Net_Tick {n1 : Option Addr} {k2 : Int} {w : World} {R : Ending → World → Prop} (h : T_flight_Net_Tick n1 k2 w R) : Calls Try.prog 13 #[.pointer n1, .int .i64 k2] w R :=
  calls_of_text (args := [.pointer n1, .int .i64 k2]) mixed Try.func13 T_flight_Net_Tick_b T_flight_Net_Tick_s (HOk_of _ _ (by rw [T_flight_Net_Tick_hl]; exact trivial)) (by rw [T_flight_Net_Tick_eq]; exact h)

/-! (*tollgate/flight.Net).Now -/
def T_flight_Net_Now_1 (n3 : Option Addr) (k4 : Int) (w : World) (Kn : Bool → World → Prop) (Kp : List PanicEntry → World → Prop) : Prop :=
  if n3.isNone = true then (Kn true w) else (Calls Try.prog 37 #[.int .i64 k4] w (ret (fun r5 w6 => ∃ b7 : Bool, r5 = .bool b7 ∧ Kn (!b7) w6) Kp))

def T_flight_Net_Now_1_outs : Exit → Option (List (Nat × Value)) := fun x => match x with | .normal => some [(11, .bool false)] | .panic _ => some [] | _ => none

def T_flight_Net_Now_1_ks : Nat → Bool := ksOf [5, 6, 7, 8, 9, 10, 11]

def H_flight_Net_Now_1 : Env → World → QT → Prop := unitHook 18 T_flight_Net_Now_1_ks [(0, .pointer none), (1, .int .i64 0)] T_flight_Net_Now_1_outs fun l w C => match l with | [v0, v1] => T_flight_Net_Now_1 (pPtr v0) (pInt v1) w (fun b9 w => C .normal [.bool b9] w) (fun ch w => C (.panic ch) [] w) | _ => False

theorem T_flight_Net_Now_1_hl : allP (hokL Try.prog (hookAt []) (at_ (bodyOf Try.f14) [1, 0, 0]) 12) = (True) := by kernel_rfl
theorem T_flight_Net_Now_1_hok : HOk Try.prog (hookAt []) (at_ (bodyOf Try.f14) [1, 0, 0]) 12 := HOk_of _ _ (by rw [T_flight_Net_Now_1_hl]; exact trivial)

theorem T_flight_Net_Now_1_eq (C : Conts) (n3 : Option Addr) (k4 : Int) (w : World) : vcCode Try.prog (hookAt []) (at_ (bodyOf Try.f14) [1, 0, 0]) 12 ⟨[(0, .pointer n3), (1, .int .i64 k4)], 18, []⟩ w (unitQ T_flight_Net_Now_1_outs C) = T_flight_Net_Now_1 n3 k4 w (fun b10 w => C .normal [.bool b10] w) (fun ch w => C (.panic ch) [] w) := by kernel_rfl

theorem T_flight_Net_Now_1_ok : UnitOk Try.prog H_flight_Net_Now_1 (at_ (bodyOf Try.f14) [1, 0, 0]) 12 := unit_ok (H := (hookAt [])) (by kernel_rfl) T_flight_Net_Now_1_hok fun l w C hk => by
    obtain ⟨v0, l_v0, rfl, k_v0, hk_v0⟩ := Kinds.cons_ hk
    obtain ⟨n3, rfl⟩ := kind_pointer k_v0
    obtain ⟨v1, l_v1, rfl, k_v1, hk_v1⟩ := Kinds.cons_ hk_v0
    obtain ⟨k4, rfl⟩ := kind_int k_v1
    obtain rfl := Kinds.nil_ hk_v1
    exact T_flight_Net_Now_1_eq C n3 k4 w

def T_flight_Net_Now (n1 : Option Addr) (k2 : Int) (w : World) (R : Ending → World → Prop) : Prop :=
  T_flight_Net_Now_1 n1 k2 w (fun b11 w12 => if b11 = true then (R (.returned (.int .i64 0)) w12) else (∃ a13, n1 = some a13 ∧ 0 ≤ (k2 : Int) ∧ (k2 : Int) < 10 ∧ ∃ x14 : Int, rd w12 ((a13.add 3).add ((k2 : Int).toNat * 1)) (.int .i64 x14) ∧ R (.returned (.int .i64 x14)) w12)) (pan R)

theorem T_flight_Net_Now_hl : allP (hokL Try.prog (hookAt [(12, H_flight_Net_Now_1)]) (bodyOf Try.f14) 1) = (UnitOk Try.prog H_flight_Net_Now_1 (at_ (bodyOf Try.f14) [1, 0, 0]) 12 ∧ True) := by kernel_rfl

theorem T_flight_Net_Now_eq (n1 : Option Addr) (k2 : Int) (w : World) (R : Ending → World → Prop) : vcCode Try.prog (hookAt [(12, H_flight_Net_Now_1)]) (bodyOf Try.f14) 1 ⟨argEnv [.pointer n1, .int .i64 k2] 0, Try.f14.ntmps, []⟩ w (finQ Try.prog Try.f14.results.toList R) = T_flight_Net_Now n1 k2 w R := by kernel_rfl

theorem T_flight_Net_Now_b : Try.f14.body = some (bodyOf Try.f14) := by kernel_rfl
theorem T_flight_Net_Now_s : (quietSel (bodyOf Try.f14) && Nat.ble 2 Try.f14.ntmps) = true := by kernel_rfl

theorem C_flight_Net_Now {n1 : Option Addr} {k2 : Int} {w : World} {R : Ending → World → Prop} (h : T_flight_Net_Now n1 k2 w R) : Calls Try.prog 14 #[.pointer n1, .int .i64 k2] w R :=
  calls_of_text (args := [.pointer n1, .int .i64 k2]) mixed Try.func14 T_flight_Net_Now_b T_flight_Net_Now_s (HOk_of _ _ (by rw [T_flight_Net_Now_hl]; exact ⟨T_flight_Net_Now_1_ok, trivial⟩)) (by rw [T_flight_Net_Now_eq]; exact h)

/-! (*tollgate/flight.Net).Send -/
def T_flight_Net_Send_1 (n8 : Option Addr) (b9a : Option Addr) (b9l : Nat) (b9c : Nat) (w : World) (Kn : Bool → World → Prop) (Kp : List PanicEntry → World → Prop) : Prop :=
  if (decide (((b9l : Nat) : Int) > 65536)) = true then (Kn true w) else (∃ a10, n8 = some a10 ∧ ∃ s11a : Option Addr, ∃ s11l : Nat, ∃ s11c : Nat, rd w (a10.add 1) (.slice s11a s11l s11c) ∧ Kn (decide (((s11l : Nat) : Int) ≥ 128)) w)

def T_flight_Net_Send_1_outs : Exit → Option (List (Nat × Value)) := fun x => match x with | .normal => some [(18, .bool false)] | .panic _ => some [] | _ => none

def T_flight_Net_Send_1_ks : Nat → Bool := ksOf [18, 19, 20, 21, 22, 23, 24, 25, 26, 27, 28, 29]

def H_flight_Net_Send_1 : Env → World → QT → Prop := unitHook 45 T_flight_Net_Send_1_ks [(0, .pointer none), (3, .slice none 0 0)] T_flight_Net_Send_1_outs fun l w C => match l with | [v0, v1] => T_flight_Net_Send_1 (pPtr v0) (pA v1) (pL v1) (pC v1) w (fun b13 w => C .normal [.bool b13] w) (fun ch w => C (.panic ch) [] w) | _ => False

theorem T_flight_Net_Send_1_hl : allP (hokL Try.prog (hookAt []) (at_ (bodyOf Try.f17) [1, 0, 0, 1, 1, 1, 1, 0]) 414) = (True) := by kernel_rfl
theorem T_flight_Net_Send_1_hok : HOk Try.prog (hookAt []) (at_ (bodyOf Try.f17) [1, 0, 0, 1, 1, 1, 1, 0]) 414 := HOk_of _ _ (by rw [T_flight_Net_Send_1_hl]; exact trivial)

theorem T_flight_Net_Send_1_eq (C : Conts) (n8 : Option Addr) (b9a : Option Addr) (b9l : Nat) (b9c : Nat) (w : World) : vcCode Try.prog (hookAt []) (at_ (bodyOf Try.f17) [1, 0, 0, 1, 1, 1, 1, 0]) 414 ⟨[(0, .pointer n8), (3, .slice b9a b9l b9c)], 45, []⟩ w (unitQ T_flight_Net_Send_1_outs C) = T_flight_Net_Send_1 n8 b9a b9l b9c w (fun b14 w => C .normal [.bool b14] w) (fun ch w => C (.panic ch) [] w) := by kernel_rfl

theorem T_flight_Net_Send_1_ok : UnitOk Try.prog H_flight_Net_Send_1 (at_ (bodyOf Try.f17) [1, 0, 0, 1, 1, 1, 1, 0]) 414 := unit_ok (H := (hookAt [])) (by kernel_rfl) T_flight_Net_Send_1_hok fun l w C hk => by
    obtain ⟨v0, l_v0, rfl, k_v0, hk_v0⟩ := Kinds.cons_ hk
    obtain ⟨n8, rfl⟩ := kind_pointer k_v0
    obtain ⟨v1, l_v1, rfl, k_v1, hk_v1⟩ := Kinds.cons_ hk_v0
    obtain ⟨b9a, b9l, b9c, rfl⟩ := kind_slice k_v1
    obtain rfl := Kinds.nil_ hk_v1
    exact T_flight_Net_Send_1_eq C n8 b9a b9l b9c w

def T_flight_Net_Send (n1 : Option Addr) (from2 : Int) (to3 : Int) (b4a : Option Addr) (b4l : Nat) (b4c : Nat) (w : World) (R : Ending → World → Prop) : Prop :=
  if n1.isNone = true then (R (.returned (.tuple #[.int .i64 0, .int .i64 1])) w) else (Calls Try.prog 38 #[.int .i64 from2, .int .i64 to3] w (ret (fun r5 w6 => ∃ b7 : Bool, r5 = .bool b7 ∧ if (!b7) = true then (R (.returned (.tuple #[.int .i64 0, .int .i64 2])) w6) else (T_flight_Net_Send_1 n1 b4a b4l b4c w6 (fun b15 w16 => if b15 = true then (R (.returned (.tuple #[.int .i64 0, .int .i64 6])) w16) else (∃ a17, n1 = some a17 ∧ ∃ m18 : Option Nat, rd w16 (a17.add 2) (.map m18) ∧ runV Try.prog (Instr.lookup 60 (.map m18) (.agg #[.int .i64 from2, .int .i64 to3]) false) w16 (fun r19 w20 => ∃ x21 : Int, r19 = .int .i64 x21 ∧ if (decide ((x21 : Int) > 0)) = true then (R (.returned (.tuple #[.int .i64 0, .int .i64 8])) w20) else (Calls Try.prog 39 #[.pointer n1, .int .i64 from2, .int .i64 to3, .slice b4a b4l b4c] w20 (ret (fun r22 w23 => ∃ x24 : Int, r22 = .int .i64 x24 ∧ R (.returned (.tuple #[.int .i64 x24, .int .i64 0])) w23) (pan R)))) (pan R))) (pan R))) (pan R)))

theorem T_flight_Net_Send_hl : allP (hokL Try.prog (hookAt [(414, H_flight_Net_Send_1)]) (bodyOf Try.f17) 1) = (UnitOk Try.prog H_flight_Net_Send_1 (at_ (bodyOf Try.f17) [1, 0, 0, 1, 1, 1, 1, 0]) 414 ∧ True) := by kernel_rfl

theorem T_flight_Net_Send_eq (n1 : Option Addr) (from2 : Int) (to3 : Int) (b4a : Option Addr) (b4l : Nat) (b4c : Nat) (w : World) (R : Ending → World → Prop) : vcCode Try.prog (hookAt [(414, H_flight_Net_Send_1)]) (bodyOf Try.f17) 1 ⟨argEnv [.pointer n1, .int .i64 from2, .int .i64 to3, .slice b4a b4l b4c] 0, Try.f17.ntmps, []⟩ w (finQ Try.prog Try.f17.results.toList R) = T_flight_Net_Send n1 from2 to3 b4a b4l b4c w R := by kernel_rfl

theorem T_flight_Net_Send_b : Try.f17.body = some (bodyOf Try.f17) := by kernel_rfl
theorem T_flight_Net_Send_s : (quietSel (bodyOf Try.f17) && Nat.ble 4 Try.f17.ntmps) = true := by kernel_rfl

theorem C_flight_Net_Send {n1 : Option Addr} {from2 : Int} {to3 : Int} {b4a : Option Addr} {b4l : Nat} {b4c : Nat} {w : World} {R : Ending → World → Prop} (h : T_flight_Net_Send n1 from2 to3 b4a b4l b4c w R) : Calls Try.prog 17 #[.pointer n1, .int .i64 from2, .int .i64 to3, .slice b4a b4l b4c] w R :=
  calls_of_text (args := [.pointer n1, .int .i64 from2, .int .i64 to3, .slice b4a b4l b4c]) mixed Try.func17 T_flight_Net_Send_b T_flight_Net_Send_s (HOk_of _ _ (by rw [T_flight_Net_Send_hl]; exact ⟨T_flight_Net_Send_1_ok, trivial⟩)) (by rw [T_flight_Net_Send_eq]; exact h)

/-! (*tollgate/flight.Net).Take -/
def T_flight_Net_Take_1 (n9 : Option Addr) (i10 : Int) (w : World) (Kn : Bool → World → Prop) (Kp : List PanicEntry → World → Prop) : Prop :=
  if (decide ((i10 : Int) < 0)) = true then (Kn true w) else (∃ a11, n9 = some a11 ∧ ∃ s12a : Option Addr, ∃ s12l : Nat, ∃ s12c : Nat, rd w (a11.add 1) (.slice s12a s12l s12c) ∧ Kn (decide ((i10 : Int) ≥ ((s12l : Nat) : Int))) w)

def T_flight_Net_Take_1_outs : Exit → Option (List (Nat × Value)) := fun x => match x with | .normal => some [(20, .bool false)] | .panic _ => some [] | _ => none

def T_flight_Net_Take_1_ks : Nat → Bool := ksOf [10, 11, 12, 13, 14, 15, 16, 17, 18, 19, 20]

def H_flight_Net_Take_1 : Env → World → QT → Prop := unitHook 41 T_flight_Net_Take_1_ks [(0, .pointer none), (1, .int .i64 0)] T_flight_Net_Take_1_outs fun l w C => match l with | [v0, v1] => T_flight_Net_Take_1 (pPtr v0) (pInt v1) w (fun b14 w => C .normal [.bool b14] w) (fun ch w => C (.panic ch) [] w) | _ => False

theorem T_flight_Net_Take_1_hl : allP (hokL Try.prog (hookAt []) (at_ (bodyOf Try.f18) [1, 1, 0, 0]) 28) = (True) := by kernel_rfl
theorem T_flight_Net_Take_1_hok : HOk Try.prog (hookAt []) (at_ (bodyOf Try.f18) [1, 1, 0, 0]) 28 := HOk_of _ _ (by rw [T_flight_Net_Take_1_hl]; exact trivial)

theorem T_flight_Net_Take_1_eq (C : Conts) (n9 : Option Addr) (i10 : Int) (w : World) : vcCode Try.prog (hookAt []) (at_ (bodyOf Try.f18) [1, 1, 0, 0]) 28 ⟨[(0, .pointer n9), (1, .int .i64 i10)], 41, []⟩ w (unitQ T_flight_Net_Take_1_outs C) = T_flight_Net_Take_1 n9 i10 w (fun b15 w => C .normal [.bool b15] w) (fun ch w => C (.panic ch) [] w) := by kernel_rfl

theorem T_flight_Net_Take_1_ok : UnitOk Try.prog H_flight_Net_Take_1 (at_ (bodyOf Try.f18) [1, 1, 0, 0]) 28 := unit_ok (H := (hookAt [])) (by kernel_rfl) T_flight_Net_Take_1_hok fun l w C hk => by
    obtain ⟨v0, l_v0, rfl, k_v0, hk_v0⟩ := Kinds.cons_ hk
    obtain ⟨n9, rfl⟩ := kind_pointer k_v0
    obtain ⟨v1, l_v1, rfl, k_v1, hk_v1⟩ := Kinds.cons_ hk_v0
    obtain ⟨i10, rfl⟩ := kind_int k_v1
    obtain rfl := Kinds.nil_ hk_v1
    exact T_flight_Net_Take_1_eq C n9 i10 w

def T_flight_Net_Take (n1 : Option Addr) (i2 : Int) (w : World) (R : Ending → World → Prop) : Prop :=
  let w3 : World := w.alloc (.cells #[.int .i64 0, .int .i64 0, .int .i64 0, .slice none 0 0] 41)
  if n1.isNone = true then ((.agg #[.int .i64 0, .int .i64 0, .int .i64 0, .slice none 0 0] : Value).cells.size = 4 ∧ wrOk w3 (⟨w.heap.size, 0, none⟩ : Addr) (.agg #[.int .i64 0, .int .i64 0, .int .i64 0, .slice none 0 0]) ∧ let w4 : World := wr w3 (⟨w.heap.size, 0, none⟩ : Addr) (.agg #[.int .i64 0, .int .i64 0, .int .i64 0, .slice none 0 0])
  ∃ x5 : Int, ∃ x6 : Int, ∃ x7 : Int, ∃ s8a : Option Addr, ∃ s8l : Nat, ∃ s8c : Nat, rd w4 (⟨w.heap.size, 0, none⟩ : Addr) (.agg #[.int .i64 x5, .int .i64 x6, .int .i64 x7, .slice s8a s8l s8c]) ∧ R (.returned (.tuple #[.agg #[.int .i64 x5, .int .i64 x6, .int .i64 x7, .slice s8a s8l s8c], .int .i64 1])) w4) else (T_flight_Net_Take_1 n1 i2 w3 (fun b16 w17 => if b16 = true then ((.agg #[.int .i64 0, .int .i64 0, .int .i64 0, .slice none 0 0] : Value).cells.size = 4 ∧ wrOk w17 (⟨w.heap.size, 0, none⟩ : Addr) (.agg #[.int .i64 0, .int .i64 0, .int .i64 0, .slice none 0 0]) ∧ let w18 : World := wr w17 (⟨w.heap.size, 0, none⟩ : Addr) (.agg #[.int .i64 0, .int .i64 0, .int .i64 0, .slice none 0 0])
  ∃ x19 : Int, ∃ x20 : Int, ∃ x21 : Int, ∃ s22a : Option Addr, ∃ s22l : Nat, ∃ s22c : Nat, rd w18 (⟨w.heap.size, 0, none⟩ : Addr) (.agg #[.int .i64 x19, .int .i64 x20, .int .i64 x21, .slice s22a s22l s22c]) ∧ R (.returned (.tuple #[.agg #[.int .i64 x19, .int .i64 x20, .int .i64 x21, .slice s22a s22l s22c], .int .i64 8])) w18) else (∃ a23, n1 = some a23 ∧ ∃ s24a : Option Addr, ∃ s24l : Nat, ∃ s24c : Nat, rd w17 (a23.add 1) (.slice s24a s24l s24c) ∧ 0 ≤ (i2 : Int) ∧ (i2 : Int) < ((s24l : Nat) : Int) ∧ ∃ b25, s24a = some b25 ∧ ∃ x26 : Int, ∃ x27 : Int, ∃ x28 : Int, ∃ s29a : Option Addr, ∃ s29l : Nat, ∃ s29c : Nat, rd w17 (b25.add ((i2 : Int).toNat * 4)) (.agg #[.int .i64 x26, .int .i64 x27, .int .i64 x28, .slice s29a s29l s29c]) ∧ let w30 : World := w17.alloc (.cells #[.int .i64 0, .int .i64 0, .int .i64 0, .slice none 0 0] 41)
  (.agg #[.int .i64 x26, .int .i64 x27, .int .i64 x28, .slice s29a s29l s29c] : Value).cells.size = 4 ∧ wrOk w30 (⟨w17.heap.size, 0, none⟩ : Addr) (.agg #[.int .i64 x26, .int .i64 x27, .int .i64 x28, .slice s29a s29l s29c]) ∧ let w31 : World := wr w30 (⟨w17.heap.size, 0, none⟩ : Addr) (.agg #[.int .i64 x26, .int .i64 x27, .int .i64 x28, .slice s29a s29l s29c])
  ∃ a32, n1 = some a32 ∧ ∃ s33a : Option Addr, ∃ s33l : Nat, ∃ s33c : Nat, rd w31 (a32.add 1) (.slice s33a s33l s33c) ∧ Calls Try.prog 40 #[.slice s33a s33l s33c, .int .i64 i2, .int .i64 (IntKind.wrap .i64 ((i2 : Int) + 1))] w31 (ret (fun r34 w35 => ∃ s36a : Option Addr, ∃ s36l : Nat, ∃ s36c : Nat, r34 = .slice s36a s36l s36c ∧ ∃ a37, n1 = some a37 ∧ (.slice s36a s36l s36c : Value).cells.size = 1 ∧ wrOk w35 (a37.add 1) (.slice s36a s36l s36c) ∧ let w38 : World := wr w35 (a37.add 1) (.slice s36a s36l s36c)
  ∃ x39 : Int, ∃ x40 : Int, ∃ x41 : Int, ∃ s42a : Option Addr, ∃ s42l : Nat, ∃ s42c : Nat, rd w38 (⟨w17.heap.size, 0, none⟩ : Addr) (.agg #[.int .i64 x39, .int .i64 x40, .int .i64 x41, .slice s42a s42l s42c]) ∧ (.agg #[.int .i64 x39, .int .i64 x40, .int .i64 x41, .slice s42a s42l s42c] : Value).cells.size = 4 ∧ wrOk w38 (⟨w.heap.size, 0, none⟩ : Addr) (.agg #[.int .i64 x39, .int .i64 x40, .int .i64 x41, .slice s42a s42l s42c]) ∧ let w43 : World := wr w38 (⟨w.heap.size, 0, none⟩ : Addr) (.agg #[.int .i64 x39, .int .i64 x40, .int .i64 x41, .slice s42a s42l s42c])
  ∃ x44 : Int, ∃ x45 : Int, ∃ x46 : Int, ∃ s47a : Option Addr, ∃ s47l : Nat, ∃ s47c : Nat, rd w43 (⟨w.heap.size, 0, none⟩ : Addr) (.agg #[.int .i64 x44, .int .i64 x45, .int .i64 x46, .slice s47a s47l s47c]) ∧ R (.returned (.tuple #[.agg #[.int .i64 x44, .int .i64 x45, .int .i64 x46, .slice s47a s47l s47c], .int .i64 0])) w43) (pan R)))) (pan R))

theorem T_flight_Net_Take_hl : allP (hokL Try.prog (hookAt [(28, H_flight_Net_Take_1)]) (bodyOf Try.f18) 1) = (UnitOk Try.prog H_flight_Net_Take_1 (at_ (bodyOf Try.f18) [1, 1, 0, 0]) 28 ∧ True) := by kernel_rfl

theorem T_flight_Net_Take_eq (n1 : Option Addr) (i2 : Int) (w : World) (R : Ending → World → Prop) : vcCode Try.prog (hookAt [(28, H_flight_Net_Take_1)]) (bodyOf Try.f18) 1 ⟨argEnv [.pointer n1, .int .i64 i2] 0, Try.f18.ntmps, []⟩ w (finQ Try.prog Try.f18.results.toList R) = T_flight_Net_Take n1 i2 w R := by kernel_rfl

theorem T_flight_Net_Take_b : Try.f18.body = some (bodyOf Try.f18) := by kernel_rfl
theorem T_flight_Net_Take_s : (quietSel (bodyOf Try.f18) && Nat.ble 2 Try.f18.ntmps) = true := by kernel_rfl

theorem C_flight_Net_Take {n1 : Option Addr} {i2 : Int} {w : World} {R : Ending → World → Prop} (h : T_flight_Net_Take n1 i2 w R) : Calls Try.prog 18 #[.pointer n1, .int .i64 i2] w R :=
  calls_of_text (args := [.pointer n1, .int .i64 i2]) mixed Try.func18 T_flight_Net_Take_b T_flight_Net_Take_s (HOk_of _ _ (by rw [T_flight_Net_Take_hl]; exact ⟨T_flight_Net_Take_1_ok, trivial⟩)) (by rw [T_flight_Net_Take_eq]; exact h)

/-! (*tollgate/flight.Net).Under -/
def T_flight_Net_Under_1_body (X : Int → World → Prop) (x7 : Int) (l8a : Option Addr) (l8l : Nat) (l8c : Nat) (x9 : Int) (w : World) (Kn : World → Prop) (Kp : List PanicEntry → World → Prop)  : Prop :=
  if (decide ((x7 : Int) < x9)) = true then (0 ≤ (x7 : Int) ∧ (x7 : Int) < ((l8l : Nat) : Int) ∧ ∃ b10, l8a = some b10 ∧ ∃ s11a : Option Addr, ∃ s11l : Nat, ∃ s11c : Nat, rd w ((b10.add ((x7 : Int).toNat * 4)).add 3) (.slice s11a s11l s11c) ∧ Calls Try.prog 42 #[.slice s11a s11l s11c] w (ret (fun r12 w13 => ∃ s14a : Option Addr, ∃ s14l : Nat, ∃ s14c : Nat, r12 = .slice s14a s14l s14c ∧ 0 ≤ (x7 : Int) ∧ (x7 : Int) < ((l8l : Nat) : Int) ∧ ∃ b15, l8a = some b15 ∧ (.slice s14a s14l s14c : Value).cells.size = 1 ∧ wrOk w13 ((b15.add ((x7 : Int).toNat * 4)).add 3) (.slice s14a s14l s14c) ∧ let w16 : World := wr w13 ((b15.add ((x7 : Int).toNat * 4)).add 3) (.slice s14a s14l s14c)
  X (IntKind.wrap .i64 ((x7 : Int) + 1)) w16) Kp)) else (Kn  w)

def T_flight_Net_Under_1 (x7 : Int) (l8a : Option Addr) (l8l : Nat) (l8c : Nat) (x9 : Int) (w : World) (Kn : World → Prop) (Kp : List PanicEntry → World → Prop) : Prop :=
  ∀ X : Int → World → Prop, (∀ (x7 : Int) (w : World), T_flight_Net_Under_1_body X x7 l8a l8l l8c x9 w Kn Kp → X x7 w) → X x7 w

def T_flight_Net_Under_1_outs : Exit → Option (List (Nat × Value)) := fun x => match x with | .normal => some [] | .panic _ => some [] | _ => none

def T_flight_Net_Under_1_ks : Nat → Bool := ksOf [4, 14, 15, 16, 17, 18, 19, 20, 21, 22, 23, 24, 25, 26, 27]

def H_flight_Net_Under_1 : Env → World → QT → Prop := unitHook 29 T_flight_Net_Under_1_ks [(14, .int .i64 0), (3, .slice none 0 0), (13, .int .i64 0)] T_flight_Net_Under_1_outs fun l w C => match l with | [v0, v1, v2] => T_flight_Net_Under_1 (pInt v0) (pA v1) (pL v1) (pC v1) (pInt v2) w (fun w => C .normal [] w) (fun ch w => C (.panic ch) [] w) | _ => False

theorem T_flight_Net_Under_1_hl : allP (hokL Try.prog (hookAt []) (at_ (bodyOf Try.f20) [1, 1, 1, 0, 1, 0, 0]) 244) = (True) := by kernel_rfl
theorem T_flight_Net_Under_1_hok : HOk Try.prog (hookAt []) (at_ (bodyOf Try.f20) [1, 1, 1, 0, 1, 0, 0]) 244 := HOk_of _ _ (by rw [T_flight_Net_Under_1_hl]; exact trivial)

theorem T_flight_Net_Under_1_eq (C : Conts) (X : List Value → World → Prop) (x7 : Int) (l8a : Option Addr) (l8l : Nat) (l8c : Nat) (x9 : Int) (w : World) : vcCode Try.prog (hookAt []) (at_ (bodyOf Try.f20) [1, 1, 1, 0, 1, 0, 0]) 244 ⟨[(14, .int .i64 x7)] ++ [(3, .slice l8a l8l l8c), (13, .int .i64 x9)], 29, []⟩ w (seqQ (fun e w => takeAll e [(14, .int .i64 0)] fun l => X l w) (blockQ 0 (unitQ T_flight_Net_Under_1_outs C))) = T_flight_Net_Under_1_body (fun x7 w => X [.int .i64 x7] w) x7 l8a l8l l8c x9 w (fun w => C .normal [] w) (fun ch w => C (.panic ch) [] w) := by kernel_rfl

theorem T_flight_Net_Under_1_ok : UnitOk Try.prog H_flight_Net_Under_1 (at_ (bodyOf Try.f20) [1, 1, 1, 0, 1]) 61 := by
  have hc : at_ (bodyOf Try.f20) [1, 1, 1, 0, 1] = .block 0 (.loop (at_ (bodyOf Try.f20) [1, 1, 1, 0, 1, 0, 0])) := by kernel_rfl
  rw [hc]
  refine loop_unit_ok (carr := [(14, .int .i64 0)]) (fix := [(3, .slice none 0 0), (13, .int .i64 0)]) (ks := T_flight_Net_Under_1_ks) (H := (hookAt [])) (B := fun C X l u w => match l, u with | [v0], [v1, v2] => T_flight_Net_Under_1_body (fun x7 w => X [.int .i64 x7] w) (pInt v0) (pA v1) (pL v1) (pC v1) (pInt v2) w (fun w => C .normal [] w) (fun ch w => C (.panic ch) [] w) | _, _ => False) (by kernel_rfl) (by kernel_rfl) T_flight_Net_Under_1_hok ?_ ?_
  · intro C X l u w hl hu
    obtain ⟨v0, l_v0, rfl, k_v0, hl_v0⟩ := Kinds.cons_ hl
    obtain ⟨x7, rfl⟩ := kind_int k_v0
    obtain rfl := Kinds.nil_ hl_v0
    obtain ⟨v1, l_v1, rfl, k_v1, hu_v1⟩ := Kinds.cons_ hu
    obtain ⟨l8a, l8l, l8c, rfl⟩ := kind_slice k_v1
    obtain ⟨v2, l_v2, rfl, k_v2, hu_v2⟩ := Kinds.cons_ hu_v1
    obtain ⟨x9, rfl⟩ := kind_int k_v2
    obtain rfl := Kinds.nil_ hu_v2
    exact T_flight_Net_Under_1_eq C X x7 l8a l8l l8c x9 w
  · intro l u w C hl hu
    obtain ⟨v0, l_v0, rfl, k_v0, hl_v0⟩ := Kinds.cons_ hl
    obtain ⟨x7, rfl⟩ := kind_int k_v0
    obtain rfl := Kinds.nil_ hl_v0
    obtain ⟨v1, l_v1, rfl, k_v1, hu_v1⟩ := Kinds.cons_ hu
    obtain ⟨l8a, l8l, l8c, rfl⟩ := kind_slice k_v1
    obtain ⟨v2, l_v2, rfl, k_v2, hu_v2⟩ := Kinds.cons_ hu_v1
    obtain ⟨x9, rfl⟩ := kind_int k_v2
    obtain rfl := Kinds.nil_ hu_v2
    constructor
    · intro h X hX
      exact h (fun x7 w => X [.int .i64 x7] w) (fun x7 w hb => hX [.int .i64 x7] w ⟨rfl, trivial⟩ hb)
    · intro h X hX
      exact h (fun l w => match l with | [v0] => X (pInt v0) w | _ => True) (fun l w hl hb => by
        obtain ⟨v0, l_v0, rfl, k_v0, hl_v0⟩ := Kinds.cons_ hl
        obtain ⟨x7, rfl⟩ := kind_int k_v0
        obtain rfl := Kinds.nil_ hl_v0
        exact hX x7 w hb)

def T_flight_Net_Under (n1 : Option Addr) (w : World) (R : Ending → World → Prop) : Prop :=
  if n1.isNone = true then (R (.returned (.slice none 0 0)) w) else (∃ a2, n1 = some a2 ∧ ∃ s3a : Option Addr, ∃ s3l : Nat, ∃ s3c : Nat, rd w (a2.add 1) (.slice s3a s3l s3c) ∧ Calls Try.prog 41 #[.slice s3a s3l s3c] w (ret (fun r4 w5 => ∃ s6a : Option Addr, ∃ s6l : Nat, ∃ s6c : Nat, r4 = .slice s6a s6l s6c ∧ T_flight_Net_Under_1 0 s6a s6l s6c ((s6l : Nat) : Int) w5 (fun w17 => R (.returned (.slice s6a s6l s6c)) w17) (pan R)) (pan R)))

theorem T_flight_Net_Under_hl : allP (hokL Try.prog (hookAt [(61, H_flight_Net_Under_1)]) (bodyOf Try.f20) 1) = (UnitOk Try.prog H_flight_Net_Under_1 (at_ (bodyOf Try.f20) [1, 1, 1, 0, 1]) 61 ∧ True) := by kernel_rfl

theorem T_flight_Net_Under_eq (n1 : Option Addr) (w : World) (R : Ending → World → Prop) : vcCode Try.prog (hookAt [(61, H_flight_Net_Under_1)]) (bodyOf Try.f20) 1 ⟨argEnv [.pointer n1] 0, Try.f20.ntmps, []⟩ w (finQ Try.prog Try.f20.results.toList R) = T_flight_Net_Under n1 w R := by kernel_rfl

theorem T_flight_Net_Under_b : Try.f20.body = some (bodyOf Try.f20) := by kernel_rfl
theorem T_flight_Net_Under_s : (quietSel (bodyOf Try.f20) && Nat.ble 1 Try.f20.ntmps) = true := by kernel_rfl

theorem C_flight_Net_Under {n1 : Option Addr} {w : World} {R : Ending → World → Prop} (h : T_flight_Net_Under n1 w R) : Calls Try.prog 20 #[.pointer n1] w R :=
  calls_of_text (args := [.pointer n1]) mixed Try.func20 T_flight_Net_Under_b T_flight_Net_Under_s (HOk_of _ _ (by rw [T_flight_Net_Under_hl]; exact ⟨T_flight_Net_Under_1_ok, trivial⟩)) (by rw [T_flight_Net_Under_eq]; exact h)

/-! (*tollgate/flight.Net).Double -/
def T_flight_Net_Double_2 (n5 : Option Addr) (i6 : Int) (w : World) (Kn : Bool → World → Prop) (Kp : List PanicEntry → World → Prop) : Prop :=
  if (decide ((i6 : Int) < 0)) = true then (Kn true w) else (∃ a7, n5 = some a7 ∧ ∃ s8a : Option Addr, ∃ s8l : Nat, ∃ s8c : Nat, rd w (a7.add 1) (.slice s8a s8l s8c) ∧ Kn (decide ((i6 : Int) ≥ ((s8l : Nat) : Int))) w)

def T_flight_Net_Double_2_outs : Exit → Option (List (Nat × Value)) := fun x => match x with | .normal => some [(10, .bool false)] | .panic _ => some [] | _ => none

def T_flight_Net_Double_2_ks : Nat → Bool := ksOf [10, 11, 12, 13, 14, 15, 16, 17, 18, 19, 20, 21]

def H_flight_Net_Double_2 : Env → World → QT → Prop := unitHook 44 T_flight_Net_Double_2_ks [(0, .pointer none), (1, .int .i64 0)] T_flight_Net_Double_2_outs fun l w C => match l with | [v0, v1] => T_flight_Net_Double_2 (pPtr v0) (pInt v1) w (fun b10 w => C .normal [.bool b10] w) (fun ch w => C (.panic ch) [] w) | _ => False

theorem T_flight_Net_Double_2_hl : allP (hokL Try.prog (hookAt []) (at_ (bodyOf Try.f21) [1, 0, 0, 1, 1, 0]) 102) = (True) := by kernel_rfl
theorem T_flight_Net_Double_2_hok : HOk Try.prog (hookAt []) (at_ (bodyOf Try.f21) [1, 0, 0, 1, 1, 0]) 102 := HOk_of _ _ (by rw [T_flight_Net_Double_2_hl]; exact trivial)

theorem T_flight_Net_Double_2_eq (C : Conts) (n5 : Option Addr) (i6 : Int) (w : World) : vcCode Try.prog (hookAt []) (at_ (bodyOf Try.f21) [1, 0, 0, 1, 1, 0]) 102 ⟨[(0, .pointer n5), (1, .int .i64 i6)], 44, []⟩ w (unitQ T_flight_Net_Double_2_outs C) = T_flight_Net_Double_2 n5 i6 w (fun b11 w => C .normal [.bool b11] w) (fun ch w => C (.panic ch) [] w) := by kernel_rfl

theorem T_flight_Net_Double_2_ok : UnitOk Try.prog H_flight_Net_Double_2 (at_ (bodyOf Try.f21) [1, 0, 0, 1, 1, 0]) 102 := unit_ok (H := (hookAt [])) (by kernel_rfl) T_flight_Net_Double_2_hok fun l w C hk => by
    obtain ⟨v0, l_v0, rfl, k_v0, hk_v0⟩ := Kinds.cons_ hk
    obtain ⟨n5, rfl⟩ := kind_pointer k_v0
    obtain ⟨v1, l_v1, rfl, k_v1, hk_v1⟩ := Kinds.cons_ hk_v0
    obtain ⟨i6, rfl⟩ := kind_int k_v1
    obtain rfl := Kinds.nil_ hk_v1
    exact T_flight_Net_Double_2_eq C n5 i6 w

def T_flight_Net_Double_1 (n3 : Option Addr) (i4 : Int) (w : World) (Kn : World → Prop) (Kr : Int → Int → World → Prop) (Kp : List PanicEntry → World → Prop) : Prop :=
  if n3.isNone = true then (Kr 0 1 w) else (T_flight_Net_Double_2 n3 i4 w (fun b12 w13 => if b12 = true then (Kr 0 8 w13) else (∃ a14, n3 = some a14 ∧ ∃ s15a : Option Addr, ∃ s15l : Nat, ∃ s15c : Nat, rd w13 (a14.add 1) (.slice s15a s15l s15c) ∧ if (decide (((s15l : Nat) : Int) ≥ 128)) = true then (Kr 0 6 w13) else (Kn  w13))) Kp)

def T_flight_Net_Double_1_outs : Exit → Option (List (Nat × Value)) := fun x => match x with | .normal => some [] | .ret => some [(4, .int .i64 0), (5, .int .i64 0)] | .panic _ => some [] | _ => none

def T_flight_Net_Double_1_ks : Nat → Bool := ksOf [4, 5, 7, 8, 9, 10, 11, 12, 13, 14, 15, 16, 17, 18, 19, 20, 21, 22, 23, 24, 25, 26, 27, 28]

def H_flight_Net_Double_1 : Env → World → QT → Prop := unitHook 44 T_flight_Net_Double_1_ks [(0, .pointer none), (1, .int .i64 0)] T_flight_Net_Double_1_outs fun l w C => match l with | [v0, v1] => T_flight_Net_Double_1 (pPtr v0) (pInt v1) w (fun w => C .normal [] w) (fun x18 x19 w => C .ret [.int .i64 x18, .int .i64 x19] w) (fun ch w => C (.panic ch) [] w) | _ => False

theorem T_flight_Net_Double_1_hl : allP (hokL Try.prog (hookAt [(102, H_flight_Net_Double_2)]) (at_ (bodyOf Try.f21) [1, 0]) 6) = (UnitOk Try.prog H_flight_Net_Double_2 (at_ (bodyOf Try.f21) [1, 0, 0, 1, 1, 0]) 102 ∧ True) := by kernel_rfl
theorem T_flight_Net_Double_1_hok : HOk Try.prog (hookAt [(102, H_flight_Net_Double_2)]) (at_ (bodyOf Try.f21) [1, 0]) 6 := HOk_of _ _ (by rw [T_flight_Net_Double_1_hl]; exact ⟨T_flight_Net_Double_2_ok, trivial⟩)

theorem T_flight_Net_Double_1_eq (C : Conts) (n3 : Option Addr) (i4 : Int) (w : World) : vcCode Try.prog (hookAt [(102, H_flight_Net_Double_2)]) (at_ (bodyOf Try.f21) [1, 0]) 6 ⟨[(0, .pointer n3), (1, .int .i64 i4)], 44, []⟩ w (unitQ T_flight_Net_Double_1_outs C) = T_flight_Net_Double_1 n3 i4 w (fun w => C .normal [] w) (fun x20 x21 w => C .ret [.int .i64 x20, .int .i64 x21] w) (fun ch w => C (.panic ch) [] w) := by kernel_rfl

theorem T_flight_Net_Double_1_ok : UnitOk Try.prog H_flight_Net_Double_1 (at_ (bodyOf Try.f21) [1, 0]) 6 := unit_ok (H := (hookAt [(102, H_flight_Net_Double_2)])) (by kernel_rfl) T_flight_Net_Double_1_hok fun l w C hk => by
    obtain ⟨v0, l_v0, rfl, k_v0, hk_v0⟩ := Kinds.cons_ hk
    obtain ⟨n3, rfl⟩ := kind_pointer k_v0
    obtain ⟨v1, l_v1, rfl, k_v1, hk_v1⟩ := Kinds.cons_ hk_v0
    obtain ⟨i4, rfl⟩ := kind_int k_v1
    obtain rfl := Kinds.nil_ hk_v1
    exact T_flight_Net_Double_1_eq C n3 i4 w

def T_flight_Net_Double (n1 : Option Addr) (i2 : Int) (w : World) (R : Ending → World → Prop) : Prop :=
  T_flight_Net_Double_1 n1 i2 w (fun w22 => ∃ a23, n1 = some a23 ∧ ∃ s24a : Option Addr, ∃ s24l : Nat, ∃ s24c : Nat, rd w22 (a23.add 1) (.slice s24a s24l s24c) ∧ 0 ≤ (i2 : Int) ∧ (i2 : Int) < ((s24l : Nat) : Int) ∧ ∃ b25, s24a = some b25 ∧ ∃ x26 : Int, ∃ x27 : Int, ∃ x28 : Int, ∃ s29a : Option Addr, ∃ s29l : Nat, ∃ s29c : Nat, rd w22 (b25.add ((i2 : Int).toNat * 4)) (.agg #[.int .i64 x26, .int .i64 x27, .int .i64 x28, .slice s29a s29l s29c]) ∧ let w30 : World := w22.alloc (.cells #[.int .i64 0, .int .i64 0, .int .i64 0, .slice none 0 0] 41)
  (.agg #[.int .i64 x26, .int .i64 x27, .int .i64 x28, .slice s29a s29l s29c] : Value).cells.size = 4 ∧ wrOk w30 (⟨w22.heap.size, 0, none⟩ : Addr) (.agg #[.int .i64 x26, .int .i64 x27, .int .i64 x28, .slice s29a s29l s29c]) ∧ let w31 : World := wr w30 (⟨w22.heap.size, 0, none⟩ : Addr) (.agg #[.int .i64 x26, .int .i64 x27, .int .i64 x28, .slice s29a s29l s29c])
  ∃ x32 : Int, rd w31 ((⟨w22.heap.size, 0, none⟩ : Addr).add 1) (.int .i64 x32) ∧ ∃ x33 : Int, rd w31 ((⟨w22.heap.size, 0, none⟩ : Addr).add 2) (.int .i64 x33) ∧ ∃ s34a : Option Addr, ∃ s34l : Nat, ∃ s34c : Nat, rd w31 ((⟨w22.heap.size, 0, none⟩ : Addr).add 3) (.slice s34a s34l s34c) ∧ Calls Try.prog 39 #[.pointer n1, .int .i64 x32, .int .i64 x33, .slice s34a s34l s34c] w31 (ret (fun r35 w36 => ∃ x37 : Int, r35 = .int .i64 x37 ∧ R (.returned (.tuple #[.int .i64 x37, .int .i64 0])) w36) (pan R))) (fun x38 x39 w40 => R (.returned (.tuple #[.int .i64 x38, .int .i64 x39])) w40) (pan R)

theorem T_flight_Net_Double_hl : allP (hokL Try.prog (hookAt [(6, H_flight_Net_Double_1)]) (bodyOf Try.f21) 1) = (UnitOk Try.prog H_flight_Net_Double_1 (at_ (bodyOf Try.f21) [1, 0]) 6 ∧ True) := by kernel_rfl

theorem T_flight_Net_Double_eq (n1 : Option Addr) (i2 : Int) (w : World) (R : Ending → World → Prop) : vcCode Try.prog (hookAt [(6, H_flight_Net_Double_1)]) (bodyOf Try.f21) 1 ⟨argEnv [.pointer n1, .int .i64 i2] 0, Try.f21.ntmps, []⟩ w (finQ Try.prog Try.f21.results.toList R) = T_flight_Net_Double n1 i2 w R := by kernel_rfl

theorem T_flight_Net_Double_b : Try.f21.body = some (bodyOf Try.f21) := by kernel_rfl
theorem T_flight_Net_Double_s : (quietSel (bodyOf Try.f21) && Nat.ble 2 Try.f21.ntmps) = true := by kernel_rfl

theorem C_flight_Net_Double {n1 : Option Addr} {i2 : Int} {w : World} {R : Ending → World → Prop} (h : T_flight_Net_Double n1 i2 w R) : Calls Try.prog 21 #[.pointer n1, .int .i64 i2] w R :=
  calls_of_text (args := [.pointer n1, .int .i64 i2]) mixed Try.func21 T_flight_Net_Double_b T_flight_Net_Double_s (HOk_of _ _ (by rw [T_flight_Net_Double_hl]; exact ⟨T_flight_Net_Double_1_ok, trivial⟩)) (by rw [T_flight_Net_Double_eq]; exact h)

/-! (*tollgate/flight.Net).Len -/
def T_flight_Net_Len (n1 : Option Addr) (w : World) (R : Ending → World → Prop) : Prop :=
  if n1.isNone = true then (R (.returned (.int .i64 0)) w) else (∃ a2, n1 = some a2 ∧ ∃ s3a : Option Addr, ∃ s3l : Nat, ∃ s3c : Nat, rd w (a2.add 1) (.slice s3a s3l s3c) ∧ R (.returned (.int .i64 ((s3l : Nat) : Int))) w)

theorem T_flight_Net_Len_hl : allP (hokL Try.prog (hookAt []) (bodyOf Try.f22) 1) = (True) := by kernel_rfl

theorem T_flight_Net_Len_eq (n1 : Option Addr) (w : World) (R : Ending → World → Prop) : vcCode Try.prog (hookAt []) (bodyOf Try.f22) 1 ⟨argEnv [.pointer n1] 0, Try.f22.ntmps, []⟩ w (finQ Try.prog Try.f22.results.toList R) = T_flight_Net_Len n1 w R := by kernel_rfl

theorem T_flight_Net_Len_b : Try.f22.body = some (bodyOf Try.f22) := by kernel_rfl
theorem T_flight_Net_Len_s : (quietSel (bodyOf Try.f22) && Nat.ble 1 Try.f22.ntmps) = true := by kernel_rfl

theorem C_flight_Net_Len {n1 : Option Addr} {w : World} {R : Ending → World → Prop} (h : T_flight_Net_Len n1 w R) : Calls Try.prog 22 #[.pointer n1] w R :=
  calls_of_text (args := [.pointer n1]) mixed Try.func22 T_flight_Net_Len_b T_flight_Net_Len_s (HOk_of _ _ (by rw [T_flight_Net_Len_hl]; exact trivial)) (by rw [T_flight_Net_Len_eq]; exact h)

/-! (*tollgate/flight.Net).Part -/
def T_flight_Net_Part (n1 : Option Addr) (from2 : Int) (to3 : Int) (w : World) (R : Ending → World → Prop) : Prop :=
  let w4 : World := w.alloc (.cells #[.int .i64 from2] 3)
  let w5 : World := w4.alloc (.cells #[.int .i64 to3] 3)
  if n1.isNone = true then (R (.returned (.int .i64 1)) w5) else (∃ x6 : Int, rd w5 (⟨w.heap.size, 0, none⟩ : Addr) (.int .i64 x6) ∧ ∃ x7 : Int, rd w5 (⟨w4.heap.size, 0, none⟩ : Addr) (.int .i64 x7) ∧ Calls Try.prog 38 #[.int .i64 x6, .int .i64 x7] w5 (ret (fun r8 w9 => ∃ b10 : Bool, r8 = .bool b10 ∧ if (!b10) = true then (R (.returned (.int .i64 2)) w9) else (let w11 : World := w9.drew
  ∃ a12, n1 = some a12 ∧ ∃ m13 : Option Nat, rd w11 (a12.add 2) (.map m13) ∧ ∃ x14 : Int, rd w11 (⟨w.heap.size, 0, none⟩ : Addr) (.int .i64 x14) ∧ ∃ x15 : Int, rd w11 (⟨w4.heap.size, 0, none⟩ : Addr) (.int .i64 x15) ∧ runV Try.prog (Instr.mapUpdate 60 (.map m13) (.agg #[.int .i64 x14, .int .i64 x15]) (.int .i64 1)) w11 (fun _ w16 => (True) ∧ ∃ a17, n1 = some a17 ∧ ∃ s18a : Option Addr, ∃ s18l : Nat, ∃ s18c : Nat, rd w16 (a17.add 1) (.slice s18a s18l s18c) ∧ Calls Try.prog 43 #[.slice s18a s18l s18c, .func (.func 44) #[] #[.pointer (some (⟨w.heap.size, 0, none⟩ : Addr)), .pointer (some (⟨w4.heap.size, 0, none⟩ : Addr))]] w16 (ret (fun r19 w20 => ∃ s21a : Option Addr, ∃ s21l : Nat, ∃ s21c : Nat, r19 = .slice s21a s21l s21c ∧ ∃ a22, n1 = some a22 ∧ (.slice s21a s21l s21c : Value).cells.size = 1 ∧ wrOk w20 (a22.add 1) (.slice s21a s21l s21c) ∧ let w23 : World := wr w20 (a22.add 1) (.slice s21a s21l s21c)
  R (.returned (.int .i64 0)) w23) (pan R))) (pan R))) (pan R)))

theorem T_flight_Net_Part_hl : allP (hokL Try.prog (hookAt []) (bodyOf Try.f24) 1) = (True) := by kernel_rfl

theorem T_flight_Net_Part_eq (n1 : Option Addr) (from2 : Int) (to3 : Int) (w : World) (R : Ending → World → Prop) : vcCode Try.prog (hookAt []) (bodyOf Try.f24) 1 ⟨argEnv [.pointer n1, .int .i64 from2, .int .i64 to3] 0, Try.f24.ntmps, []⟩ w (finQ Try.prog Try.f24.results.toList R) = T_flight_Net_Part n1 from2 to3 w R := by kernel_rfl

theorem T_flight_Net_Part_b : Try.f24.body = some (bodyOf Try.f24) := by kernel_rfl
theorem T_flight_Net_Part_s : (quietSel (bodyOf Try.f24) && Nat.ble 3 Try.f24.ntmps) = true := by kernel_rfl

theorem C_flight_Net_Part {n1 : Option Addr} {from2 : Int} {to3 : Int} {w : World} {R : Ending → World → Prop} (h : T_flight_Net_Part n1 from2 to3 w R) : Calls Try.prog 24 #[.pointer n1, .int .i64 from2, .int .i64 to3] w R :=
  calls_of_text (args := [.pointer n1, .int .i64 from2, .int .i64 to3]) mixed Try.func24 T_flight_Net_Part_b T_flight_Net_Part_s (HOk_of _ _ (by rw [T_flight_Net_Part_hl]; exact trivial)) (by rw [T_flight_Net_Part_eq]; exact h)

/-! (*tollgate/flight.Net).Parted -/
def T_flight_Net_Parted (n1 : Option Addr) (from2 : Int) (to3 : Int) (w : World) (R : Ending → World → Prop) : Prop :=
  if (!n1.isNone) = true then (∃ a4, n1 = some a4 ∧ ∃ m5 : Option Nat, rd w (a4.add 2) (.map m5) ∧ runV Try.prog (Instr.lookup 60 (.map m5) (.agg #[.int .i64 from2, .int .i64 to3]) false) w (fun r6 w7 => ∃ x8 : Int, r6 = .int .i64 x8 ∧ R (.returned (.bool (decide ((x8 : Int) > 0)))) w7) (pan R)) else (R (.returned (.bool false)) w)

theorem T_flight_Net_Parted_hl : allP (hokL Try.prog (hookAt []) (bodyOf Try.f26) 1) = (True) := by kernel_rfl

theorem T_flight_Net_Parted_eq (n1 : Option Addr) (from2 : Int) (to3 : Int) (w : World) (R : Ending → World → Prop) : vcCode Try.prog (hookAt []) (bodyOf Try.f26) 1 ⟨argEnv [.pointer n1, .int .i64 from2, .int .i64 to3] 0, Try.f26.ntmps, []⟩ w (finQ Try.prog Try.f26.results.toList R) = T_flight_Net_Parted n1 from2 to3 w R := by kernel_rfl

theorem T_flight_Net_Parted_b : Try.f26.body = some (bodyOf Try.f26) := by kernel_rfl
theorem T_flight_Net_Parted_s : (quietSel (bodyOf Try.f26) && Nat.ble 3 Try.f26.ntmps) = true := by kernel_rfl

theorem C_flight_Net_Parted {n1 : Option Addr} {from2 : Int} {to3 : Int} {w : World} {R : Ending → World → Prop} (h : T_flight_Net_Parted n1 from2 to3 w R) : Calls Try.prog 26 #[.pointer n1, .int .i64 from2, .int .i64 to3] w R :=
  calls_of_text (args := [.pointer n1, .int .i64 from2, .int .i64 to3]) mixed Try.func26 T_flight_Net_Parted_b T_flight_Net_Parted_s (HOk_of _ _ (by rw [T_flight_Net_Parted_hl]; exact trivial)) (by rw [T_flight_Net_Parted_eq]; exact h)

/-! (*tollgate/flight.Net).Heal -/
def T_flight_Net_Heal (n1 : Option Addr) (from2 : Int) (to3 : Int) (w : World) (R : Ending → World → Prop) : Prop :=
  if n1.isNone = true then (R (.returned (.int .i64 1)) w) else (Calls Try.prog 38 #[.int .i64 from2, .int .i64 to3] w (ret (fun r4 w5 => ∃ b6 : Bool, r4 = .bool b6 ∧ if (!b6) = true then (R (.returned (.int .i64 2)) w5) else (∃ a7, n1 = some a7 ∧ ∃ m8 : Option Nat, rd w5 (a7.add 2) (.map m8) ∧ runV Try.prog (Builtin.delete_ #[60, 65] 0 #[.map m8, .agg #[.int .i64 from2, .int .i64 to3]]) w5 (fun r9 w10 => R (.returned (.int .i64 0)) w10) (pan R))) (pan R)))

theorem T_flight_Net_Heal_hl : allP (hokL Try.prog (hookAt []) (bodyOf Try.f27) 1) = (True) := by kernel_rfl

theorem T_flight_Net_Heal_eq (n1 : Option Addr) (from2 : Int) (to3 : Int) (w : World) (R : Ending → World → Prop) : vcCode Try.prog (hookAt []) (bodyOf Try.f27) 1 ⟨argEnv [.pointer n1, .int .i64 from2, .int .i64 to3] 0, Try.f27.ntmps, []⟩ w (finQ Try.prog Try.f27.results.toList R) = T_flight_Net_Heal n1 from2 to3 w R := by kernel_rfl

theorem T_flight_Net_Heal_b : Try.f27.body = some (bodyOf Try.f27) := by kernel_rfl
theorem T_flight_Net_Heal_s : (quietSel (bodyOf Try.f27) && Nat.ble 3 Try.f27.ntmps) = true := by kernel_rfl

theorem C_flight_Net_Heal {n1 : Option Addr} {from2 : Int} {to3 : Int} {w : World} {R : Ending → World → Prop} (h : T_flight_Net_Heal n1 from2 to3 w R) : Calls Try.prog 27 #[.pointer n1, .int .i64 from2, .int .i64 to3] w R :=
  calls_of_text (args := [.pointer n1, .int .i64 from2, .int .i64 to3]) mixed Try.func27 T_flight_Net_Heal_b T_flight_Net_Heal_s (HOk_of _ _ (by rw [T_flight_Net_Heal_hl]; exact trivial)) (by rw [T_flight_Net_Heal_eq]; exact h)

/-! (*tollgate/flight.Net).Fork -/
def T_flight_Net_Fork (n1 : Option Addr) (w : World) (R : Ending → World → Prop) : Prop :=
  if n1.isNone = true then (R (.returned (.pointer none)) w) else (∃ a2, n1 = some a2 ∧ ∃ xs3 : Array Value, xs3.size = 13 ∧ rd w a2 (.agg xs3) ∧ let w4 : World := w.alloc (.cells #[.int .i64 0, .slice none 0 0, .map none, .int .i64 0, .int .i64 0, .int .i64 0, .int .i64 0, .int .i64 0, .int .i64 0, .int .i64 0, .int .i64 0, .int .i64 0, .int .i64 0] 62)
  (.agg xs3 : Value).cells.size = 13 ∧ wrOk w4 (⟨w.heap.size, 0, none⟩ : Addr) (.agg xs3) ∧ let w5 : World := wr w4 (⟨w.heap.size, 0, none⟩ : Addr) (.agg xs3)
  Calls Try.prog 20 #[.pointer n1] w5 (ret (fun r6 w7 => ∃ s8a : Option Addr, ∃ s8l : Nat, ∃ s8c : Nat, r6 = .slice s8a s8l s8c ∧ (.slice s8a s8l s8c : Value).cells.size = 1 ∧ wrOk w7 ((⟨w.heap.size, 0, none⟩ : Addr).add 1) (.slice s8a s8l s8c) ∧ let w9 : World := wr w7 ((⟨w.heap.size, 0, none⟩ : Addr).add 1) (.slice s8a s8l s8c)
  ∃ a10, n1 = some a10 ∧ ∃ m11 : Option Nat, rd w9 (a10.add 2) (.map m11) ∧ Calls Try.prog 53 #[.map m11] w9 (ret (fun r12 w13 => ∃ m14 : Option Nat, r12 = .map m14 ∧ (.map m14 : Value).cells.size = 1 ∧ wrOk w13 ((⟨w.heap.size, 0, none⟩ : Addr).add 2) (.map m14) ∧ let w15 : World := wr w13 ((⟨w.heap.size, 0, none⟩ : Addr).add 2) (.map m14)
  R (.returned (.pointer (some (⟨w.heap.size, 0, none⟩ : Addr)))) w15) (pan R))) (pan R)))

theorem T_flight_Net_Fork_hl : allP (hokL Try.prog (hookAt []) (bodyOf Try.f35) 1) = (True) := by kernel_rfl

theorem T_flight_Net_Fork_eq (n1 : Option Addr) (w : World) (R : Ending → World → Prop) : vcCode Try.prog (hookAt []) (bodyOf Try.f35) 1 ⟨argEnv [.pointer n1] 0, Try.f35.ntmps, []⟩ w (finQ Try.prog Try.f35.results.toList R) = T_flight_Net_Fork n1 w R := by kernel_rfl

theorem T_flight_Net_Fork_b : Try.f35.body = some (bodyOf Try.f35) := by kernel_rfl
theorem T_flight_Net_Fork_s : (quietSel (bodyOf Try.f35) && Nat.ble 1 Try.f35.ntmps) = true := by kernel_rfl

theorem C_flight_Net_Fork {n1 : Option Addr} {w : World} {R : Ending → World → Prop} (h : T_flight_Net_Fork n1 w R) : Calls Try.prog 35 #[.pointer n1] w R :=
  calls_of_text (args := [.pointer n1]) mixed Try.func35 T_flight_Net_Fork_b T_flight_Net_Fork_s (HOk_of _ _ (by rw [T_flight_Net_Fork_hl]; exact trivial)) (by rw [T_flight_Net_Fork_eq]; exact h)

/-! tollgate/flight.node -/
def T_flight_node (n1 : Int) (w : World) (R : Ending → World → Prop) : Prop :=
  if (decide ((n1 : Int) ≥ 1)) = true then (R (.returned (.bool (decide ((n1 : Int) ≤ 9)))) w) else (R (.returned (.bool false)) w)

theorem T_flight_node_hl : allP (hokL Try.prog (hookAt []) (bodyOf Try.f37) 1) = (True) := by kernel_rfl

theorem T_flight_node_eq (n1 : Int) (w : World) (R : Ending → World → Prop) : vcCode Try.prog (hookAt []) (bodyOf Try.f37) 1 ⟨argEnv [.int .i64 n1] 0, Try.f37.ntmps, []⟩ w (finQ Try.prog Try.f37.results.toList R) = T_flight_node n1 w R := by kernel_rfl

theorem T_flight_node_b : Try.f37.body = some (bodyOf Try.f37) := by kernel_rfl
theorem T_flight_node_s : (quietSel (bodyOf Try.f37) && Nat.ble 1 Try.f37.ntmps) = true := by kernel_rfl

theorem C_flight_node {n1 : Int} {w : World} {R : Ending → World → Prop} (h : T_flight_node n1 w R) : Calls Try.prog 37 #[.int .i64 n1] w R :=
  calls_of_text (args := [.int .i64 n1]) mixed Try.func37 T_flight_node_b T_flight_node_s (HOk_of _ _ (by rw [T_flight_node_hl]; exact trivial)) (by rw [T_flight_node_eq]; exact h)

/-! tollgate/flight.is -/
def T_flight_is (from1 : Int) (to2 : Int) (w : World) (R : Ending → World → Prop) : Prop :=
  Calls Try.prog 37 #[.int .i64 from1] w (ret (fun r3 w4 => ∃ b5 : Bool, r3 = .bool b5 ∧ if b5 = true then (Calls Try.prog 37 #[.int .i64 to2] w4 (ret (fun r6 w7 => ∃ b8 : Bool, r6 = .bool b8 ∧ if b8 = true then (R (.returned (.bool ((from1 : Int) != to2))) w7) else (R (.returned (.bool false)) w7)) (pan R))) else (R (.returned (.bool false)) w4)) (pan R))

theorem T_flight_is_hl : allP (hokL Try.prog (hookAt []) (bodyOf Try.f38) 1) = (True) := by kernel_rfl

theorem T_flight_is_eq (from1 : Int) (to2 : Int) (w : World) (R : Ending → World → Prop) : vcCode Try.prog (hookAt []) (bodyOf Try.f38) 1 ⟨argEnv [.int .i64 from1, .int .i64 to2] 0, Try.f38.ntmps, []⟩ w (finQ Try.prog Try.f38.results.toList R) = T_flight_is from1 to2 w R := by kernel_rfl

theorem T_flight_is_b : Try.f38.body = some (bodyOf Try.f38) := by kernel_rfl
theorem T_flight_is_s : (quietSel (bodyOf Try.f38) && Nat.ble 2 Try.f38.ntmps) = true := by kernel_rfl

theorem C_flight_is {from1 : Int} {to2 : Int} {w : World} {R : Ending → World → Prop} (h : T_flight_is from1 to2 w R) : Calls Try.prog 38 #[.int .i64 from1, .int .i64 to2] w R :=
  calls_of_text (args := [.int .i64 from1, .int .i64 to2]) mixed Try.func38 T_flight_is_b T_flight_is_s (HOk_of _ _ (by rw [T_flight_is_hl]; exact trivial)) (by rw [T_flight_is_eq]; exact h)

/-! (*tollgate/flight.Net).put -/
def T_flight_Net_put (n1 : Option Addr) (from2 : Int) (to3 : Int) (b4a : Option Addr) (b4l : Nat) (b4c : Nat) (w : World) (R : Ending → World → Prop) : Prop :=
  ∃ a5, n1 = some a5 ∧ ∃ x6 : Int, rd w a5 (.int .i64 x6) ∧ ∃ a7, n1 = some a7 ∧ (.int .i64 (IntKind.wrap .i64 ((x6 : Int) + 1)) : Value).cells.size = 1 ∧ wrOk w a7 (.int .i64 (IntKind.wrap .i64 ((x6 : Int) + 1))) ∧ let w8 : World := wr w a7 (.int .i64 (IntKind.wrap .i64 ((x6 : Int) + 1)))
  let w9 : World := w8.drew
  ∃ a10, n1 = some a10 ∧ ∃ s11a : Option Addr, ∃ s11l : Nat, ∃ s11c : Nat, rd w9 (a10.add 1) (.slice s11a s11l s11c) ∧ ∃ a12, n1 = some a12 ∧ ∃ x13 : Int, rd w9 a12 (.int .i64 x13) ∧ Calls Try.prog 42 #[.slice b4a b4l b4c] w9 (ret (fun r14 w15 => ∃ s16a : Option Addr, ∃ s16l : Nat, ∃ s16c : Nat, r14 = .slice s16a s16l s16c ∧ (rd w15 a12 (.int .i64 x13) ∧ rd w15 (a10.add 1) (.slice s11a s11l s11c) ∧ True) ∧ let w17 : World := w15.alloc (.cells #[.int .i64 x13, .int .i64 from2, .int .i64 to3, .slice s16a s16l s16c] 41)
  (rd w17 (a10.add 1) (.slice s11a s11l s11c) ∧ True) ∧ runV Try.prog (Builtin.append_ #[33, 33] 33 #[.slice s11a s11l s11c, .slice (some (⟨w15.heap.size, 0, none⟩ : Addr)) 1 1]) w17 (fun r18 w19 => ∃ s20a : Option Addr, ∃ s20l : Nat, ∃ s20c : Nat, r18 = .slice s20a s20l s20c ∧ (True) ∧ ∃ a21, n1 = some a21 ∧ (.slice s20a s20l s20c : Value).cells.size = 1 ∧ wrOk w19 (a21.add 1) (.slice s20a s20l s20c) ∧ let w22 : World := wr w19 (a21.add 1) (.slice s20a s20l s20c)
  (True) ∧ ∃ a23, n1 = some a23 ∧ ∃ x24 : Int, rd w22 a23 (.int .i64 x24) ∧ R (.returned (.int .i64 x24)) w22) (pan R)) (pan R))

theorem T_flight_Net_put_hl : allP (hokL Try.prog (hookAt []) (bodyOf Try.f39) 1) = (True) := by kernel_rfl

theorem T_flight_Net_put_eq (n1 : Option Addr) (from2 : Int) (to3 : Int) (b4a : Option Addr) (b4l : Nat) (b4c : Nat) (w : World) (R : Ending → World → Prop) : vcCode Try.prog (hookAt []) (bodyOf Try.f39) 1 ⟨argEnv [.pointer n1, .int .i64 from2, .int .i64 to3, .slice b4a b4l b4c] 0, Try.f39.ntmps, []⟩ w (finQ Try.prog Try.f39.results.toList R) = T_flight_Net_put n1 from2 to3 b4a b4l b4c w R := by kernel_rfl

theorem T_flight_Net_put_b : Try.f39.body = some (bodyOf Try.f39) := by kernel_rfl
theorem T_flight_Net_put_s : (quietSel (bodyOf Try.f39) && Nat.ble 4 Try.f39.ntmps) = true := by kernel_rfl

theorem C_flight_Net_put {n1 : Option Addr} {from2 : Int} {to3 : Int} {b4a : Option Addr} {b4l : Nat} {b4c : Nat} {w : World} {R : Ending → World → Prop} (h : T_flight_Net_put n1 from2 to3 b4a b4l b4c w R) : Calls Try.prog 39 #[.pointer n1, .int .i64 from2, .int .i64 to3, .slice b4a b4l b4c] w R :=
  calls_of_text (args := [.pointer n1, .int .i64 from2, .int .i64 to3, .slice b4a b4l b4c]) mixed Try.func39 T_flight_Net_put_b T_flight_Net_put_s (HOk_of _ _ (by rw [T_flight_Net_put_hl]; exact trivial)) (by rw [T_flight_Net_put_eq]; exact h)

/-! slices.Delete[[]tollgate/api.Packet,tollgate/api.Packet] -/
def T_slices_Delete_api_Packet (s1a : Option Addr) (s1l : Nat) (s1c : Nat) (i2 : Int) (j3 : Int) (w : World) (R : Ending → World → Prop) : Prop :=
  0 ≤ ((s1l : Nat) : Int) ∧ ((s1l : Nat) : Int) ≤ ((s1c : Nat) : Int) ∧ 0 ≤ (j3 : Int) ∧ (j3 : Int) ≤ ((((s1l : Nat) : Int).toNat : Nat) : Int) ∧ 0 ≤ (i2 : Int) ∧ (i2 : Int) ≤ (((j3 : Int).toNat : Nat) : Int) ∧ if ((i2 : Int) == j3) = true then (R (.returned (.slice s1a s1l s1c)) w) else (let w4 : World := w.drew
  0 ≤ (i2 : Int) ∧ (i2 : Int) ≤ ((s1c : Nat) : Int) ∧ 0 ≤ (j3 : Int) ∧ (j3 : Int) ≤ ((s1l : Nat) : Int) ∧ runV Try.prog (Builtin.append_ #[33, 33] 33 #[.slice (if s1c = 0 then s1a else s1a.map (fun x => x.add (0 * 4))) (((i2 : Int).toNat) - 0) (s1c - 0), .slice (if s1c = ((j3 : Int).toNat) then s1a else s1a.map (fun x => x.add (((j3 : Int).toNat) * 4))) (s1l - ((j3 : Int).toNat)) (s1c - ((j3 : Int).toNat))]) w4 (fun r5 w6 => ∃ s7a : Option Addr, ∃ s7l : Nat, ∃ s7c : Nat, r5 = .slice s7a s7l s7c ∧ (True) ∧ 0 ≤ ((s1l : Nat) : Int) ∧ ((s1l : Nat) : Int) ≤ ((s7c : Nat) : Int) ∧ 0 ≤ ((s7l : Nat) : Int) ∧ ((s7l : Nat) : Int) ≤ ((((s1l : Nat) : Int).toNat : Nat) : Int) ∧ runV Try.prog (Builtin.clear_ #[33] 0 #[.slice (if s7c = (((s7l : Nat) : Int).toNat) then s7a else s7a.map (fun x => x.add ((((s7l : Nat) : Int).toNat) * 4))) ((((s1l : Nat) : Int).toNat) - (((s7l : Nat) : Int).toNat)) (s7c - (((s7l : Nat) : Int).toNat))]) w6 (fun r8 w9 => R (.returned (.slice s7a s7l s7c)) w9) (pan R)) (pan R))

theorem T_slices_Delete_api_Packet_hl : allP (hokL Try.prog (hookAt []) (bodyOf Try.f40) 1) = (True) := by kernel_rfl

theorem T_slices_Delete_api_Packet_eq (s1a : Option Addr) (s1l : Nat) (s1c : Nat) (i2 : Int) (j3 : Int) (w : World) (R : Ending → World → Prop) : vcCode Try.prog (hookAt []) (bodyOf Try.f40) 1 ⟨argEnv [.slice s1a s1l s1c, .int .i64 i2, .int .i64 j3] 0, Try.f40.ntmps, []⟩ w (finQ Try.prog Try.f40.results.toList R) = T_slices_Delete_api_Packet s1a s1l s1c i2 j3 w R := by kernel_rfl

theorem T_slices_Delete_api_Packet_b : Try.f40.body = some (bodyOf Try.f40) := by kernel_rfl
theorem T_slices_Delete_api_Packet_s : (quietSel (bodyOf Try.f40) && Nat.ble 3 Try.f40.ntmps) = true := by kernel_rfl

theorem C_slices_Delete_api_Packet {s1a : Option Addr} {s1l : Nat} {s1c : Nat} {i2 : Int} {j3 : Int} {w : World} {R : Ending → World → Prop} (h : T_slices_Delete_api_Packet s1a s1l s1c i2 j3 w R) : Calls Try.prog 40 #[.slice s1a s1l s1c, .int .i64 i2, .int .i64 j3] w R :=
  calls_of_text (args := [.slice s1a s1l s1c, .int .i64 i2, .int .i64 j3]) mixed Try.func40 T_slices_Delete_api_Packet_b T_slices_Delete_api_Packet_s (HOk_of _ _ (by rw [T_slices_Delete_api_Packet_hl]; exact trivial)) (by rw [T_slices_Delete_api_Packet_eq]; exact h)

/-! slices.Clone[[]tollgate/api.Packet,tollgate/api.Packet] -/
def T_slices_Clone_api_Packet (s1a : Option Addr) (s1l : Nat) (s1c : Nat) (w : World) (R : Ending → World → Prop) : Prop :=
  if s1a.isNone = true then (R (.returned (.slice none 0 0)) w) else (let w2 : World := w.alloc (.cells #[] 41)
  runV Try.prog (Builtin.append_ #[33, 33] 33 #[.slice (some (⟨w.heap.size, 0, none⟩ : Addr)) 0 0, .slice s1a s1l s1c]) w2 (fun r3 w4 => ∃ s5a : Option Addr, ∃ s5l : Nat, ∃ s5c : Nat, r3 = .slice s5a s5l s5c ∧ R (.returned (.slice s5a s5l s5c)) w4) (pan R))

theorem T_slices_Clone_api_Packet_hl : allP (hokL Try.prog (hookAt []) (bodyOf Try.f41) 1) = (True) := by kernel_rfl

theorem T_slices_Clone_api_Packet_eq (s1a : Option Addr) (s1l : Nat) (s1c : Nat) (w : World) (R : Ending → World → Prop) : vcCode Try.prog (hookAt []) (bodyOf Try.f41) 1 ⟨argEnv [.slice s1a s1l s1c] 0, Try.f41.ntmps, []⟩ w (finQ Try.prog Try.f41.results.toList R) = T_slices_Clone_api_Packet s1a s1l s1c w R := by kernel_rfl

theorem T_slices_Clone_api_Packet_b : Try.f41.body = some (bodyOf Try.f41) := by kernel_rfl
theorem T_slices_Clone_api_Packet_s : (quietSel (bodyOf Try.f41) && Nat.ble 1 Try.f41.ntmps) = true := by kernel_rfl

theorem C_slices_Clone_api_Packet {s1a : Option Addr} {s1l : Nat} {s1c : Nat} {w : World} {R : Ending → World → Prop} (h : T_slices_Clone_api_Packet s1a s1l s1c w R) : Calls Try.prog 41 #[.slice s1a s1l s1c] w R :=
  calls_of_text (args := [.slice s1a s1l s1c]) mixed Try.func41 T_slices_Clone_api_Packet_b T_slices_Clone_api_Packet_s (HOk_of _ _ (by rw [T_slices_Clone_api_Packet_hl]; exact trivial)) (by rw [T_slices_Clone_api_Packet_eq]; exact h)

/-! slices.Clone[[]byte,byte] -/
def T_slices_Clone_byte (s1a : Option Addr) (s1l : Nat) (s1c : Nat) (w : World) (R : Ending → World → Prop) : Prop :=
  if s1a.isNone = true then (R (.returned (.slice none 0 0)) w) else (let w2 : World := w.alloc (.cells #[] 5)
  runV Try.prog (Builtin.append_ #[36, 36] 36 #[.slice (some (⟨w.heap.size, 0, none⟩ : Addr)) 0 0, .slice s1a s1l s1c]) w2 (fun r3 w4 => ∃ s5a : Option Addr, ∃ s5l : Nat, ∃ s5c : Nat, r3 = .slice s5a s5l s5c ∧ R (.returned (.slice s5a s5l s5c)) w4) (pan R))

theorem T_slices_Clone_byte_hl : allP (hokL Try.prog (hookAt []) (bodyOf Try.f42) 1) = (True) := by kernel_rfl

theorem T_slices_Clone_byte_eq (s1a : Option Addr) (s1l : Nat) (s1c : Nat) (w : World) (R : Ending → World → Prop) : vcCode Try.prog (hookAt []) (bodyOf Try.f42) 1 ⟨argEnv [.slice s1a s1l s1c] 0, Try.f42.ntmps, []⟩ w (finQ Try.prog Try.f42.results.toList R) = T_slices_Clone_byte s1a s1l s1c w R := by kernel_rfl

theorem T_slices_Clone_byte_b : Try.f42.body = some (bodyOf Try.f42) := by kernel_rfl
theorem T_slices_Clone_byte_s : (quietSel (bodyOf Try.f42) && Nat.ble 1 Try.f42.ntmps) = true := by kernel_rfl

theorem C_slices_Clone_byte {s1a : Option Addr} {s1l : Nat} {s1c : Nat} {w : World} {R : Ending → World → Prop} (h : T_slices_Clone_byte s1a s1l s1c w R) : Calls Try.prog 42 #[.slice s1a s1l s1c] w R :=
  calls_of_text (args := [.slice s1a s1l s1c]) mixed Try.func42 T_slices_Clone_byte_b T_slices_Clone_byte_s (HOk_of _ _ (by rw [T_slices_Clone_byte_hl]; exact trivial)) (by rw [T_slices_Clone_byte_eq]; exact h)

/-! slices.DeleteFunc[[]tollgate/api.Packet,tollgate/api.Packet] -/
def T_slices_DeleteFunc_api_Packet_1_body (X : Int → Int → World → Prop) (i6 : Int) (j7 : Int) (s8a : Option Addr) (s8l : Nat) (s8c : Nat) (del9g : FuncId) (del9i : Array Value) (del9c : Array Value) (w : World) (Kn : Int → World → Prop) (Kp : List PanicEntry → World → Prop)  : Prop :=
  if (decide ((j7 : Int) < ((s8l : Nat) : Int))) = true then (0 ≤ (j7 : Int) ∧ (j7 : Int) < ((s8l : Nat) : Int) ∧ ∃ b10, s8a = some b10 ∧ ∃ x11 : Int, ∃ x12 : Int, ∃ x13 : Int, ∃ s14a : Option Addr, ∃ s14l : Nat, ∃ s14c : Nat, rd w (b10.add ((j7 : Int).toNat * 4)) (.agg #[.int .i64 x11, .int .i64 x12, .int .i64 x13, .slice s14a s14l s14c]) ∧ let w15 : World := w.alloc (.cells #[.int .i64 0, .int .i64 0, .int .i64 0, .slice none 0 0] 41)
  (.agg #[.int .i64 x11, .int .i64 x12, .int .i64 x13, .slice s14a s14l s14c] : Value).cells.size = 4 ∧ wrOk w15 (⟨w.heap.size, 0, none⟩ : Addr) (.agg #[.int .i64 x11, .int .i64 x12, .int .i64 x13, .slice s14a s14l s14c]) ∧ let w16 : World := wr w15 (⟨w.heap.size, 0, none⟩ : Addr) (.agg #[.int .i64 x11, .int .i64 x12, .int .i64 x13, .slice s14a s14l s14c])
  ∃ x17 : Int, ∃ x18 : Int, ∃ x19 : Int, ∃ s20a : Option Addr, ∃ s20l : Nat, ∃ s20c : Nat, rd w16 (⟨w.heap.size, 0, none⟩ : Addr) (.agg #[.int .i64 x17, .int .i64 x18, .int .i64 x19, .slice s20a s20l s20c]) ∧ hasBody Try.prog del9g = true ∧ Calls Try.prog del9g ⟨del9i.toList ++ ([.agg #[.int .i64 x17, .int .i64 x18, .int .i64 x19, .slice s20a s20l s20c]] ++ del9c.toList)⟩ w16 (ret (fun r21 w22 => ∃ b23 : Bool, r21 = .bool b23 ∧ if (!b23) = true then (∃ x24 : Int, ∃ x25 : Int, ∃ x26 : Int, ∃ s27a : Option Addr, ∃ s27l : Nat, ∃ s27c : Nat, rd w22 (⟨w.heap.size, 0, none⟩ : Addr) (.agg #[.int .i64 x24, .int .i64 x25, .int .i64 x26, .slice s27a s27l s27c]) ∧ 0 ≤ (i6 : Int) ∧ (i6 : Int) < ((s8l : Nat) : Int) ∧ ∃ b28, s8a = some b28 ∧ (.agg #[.int .i64 x24, .int .i64 x25, .int .i64 x26, .slice s27a s27l s27c] : Value).cells.size = 4 ∧ wrOk w22 (b28.add ((i6 : Int).toNat * 4)) (.agg #[.int .i64 x24, .int .i64 x25, .int .i64 x26, .slice s27a s27l s27c]) ∧ let w29 : World := wr w22 (b28.add ((i6 : Int).toNat * 4)) (.agg #[.int .i64 x24, .int .i64 x25, .int .i64 x26, .slice s27a s27l s27c])
  X (IntKind.wrap .i64 ((i6 : Int) + 1)) (IntKind.wrap .i64 ((j7 : Int) + 1)) w29) else (X i6 (IntKind.wrap .i64 ((j7 : Int) + 1)) w22)) Kp)) else (Kn i6 w)

def T_slices_DeleteFunc_api_Packet_1 (i6 : Int) (j7 : Int) (s8a : Option Addr) (s8l : Nat) (s8c : Nat) (del9g : FuncId) (del9i : Array Value) (del9c : Array Value) (w : World) (Kn : Int → World → Prop) (Kp : List PanicEntry → World → Prop) : Prop :=
  ∀ X : Int → Int → World → Prop, (∀ (i6 : Int) (j7 : Int) (w : World), T_slices_DeleteFunc_api_Packet_1_body X i6 j7 s8a s8l s8c del9g del9i del9c w Kn Kp → X i6 j7 w) → X i6 j7 w

def T_slices_DeleteFunc_api_Packet_1_outs : Exit → Option (List (Nat × Value)) := fun x => match x with | .normal => some [(5, .int .i64 0)] | .panic _ => some [] | _ => none

def T_slices_DeleteFunc_api_Packet_1_ks : Nat → Bool := ksOf [5, 6, 7, 16, 17, 18, 19, 20, 21, 22, 23, 24, 25, 26, 27, 28, 29, 30, 31, 32, 33, 34, 35]

def H_slices_DeleteFunc_api_Packet_1 : Env → World → QT → Prop := unitHook 42 T_slices_DeleteFunc_api_Packet_1_ks [(5, .int .i64 0), (6, .int .i64 0), (0, .slice none 0 0), (1, .func (.func 0) #[] #[])] T_slices_DeleteFunc_api_Packet_1_outs fun l w C => match l with | [v0, v1, v2, v3] => T_slices_DeleteFunc_api_Packet_1 (pInt v0) (pInt v1) (pA v2) (pL v2) (pC v2) (pFn v3) (pFi v3) (pCa v3) w (fun i31 w => C .normal [.int .i64 i31] w) (fun ch w => C (.panic ch) [] w) | _ => False

theorem T_slices_DeleteFunc_api_Packet_1_hl : allP (hokL Try.prog (hookAt []) (at_ (bodyOf Try.f43) [1, 1, 1, 0, 1, 0, 0]) 244) = (True) := by kernel_rfl
theorem T_slices_DeleteFunc_api_Packet_1_hok : HOk Try.prog (hookAt []) (at_ (bodyOf Try.f43) [1, 1, 1, 0, 1, 0, 0]) 244 := HOk_of _ _ (by rw [T_slices_DeleteFunc_api_Packet_1_hl]; exact trivial)

theorem T_slices_DeleteFunc_api_Packet_1_eq (C : Conts) (X : List Value → World → Prop) (i6 : Int) (j7 : Int) (s8a : Option Addr) (s8l : Nat) (s8c : Nat) (del9g : FuncId) (del9i : Array Value) (del9c : Array Value) (w : World) : vcCode Try.prog (hookAt []) (at_ (bodyOf Try.f43) [1, 1, 1, 0, 1, 0, 0]) 244 ⟨[(5, .int .i64 i6), (6, .int .i64 j7)] ++ [(0, .slice s8a s8l s8c), (1, .func (.func del9g) del9i del9c)], 42, []⟩ w (seqQ (fun e w => takeAll e [(5, .int .i64 0), (6, .int .i64 0)] fun l => X l w) (blockQ 0 (unitQ T_slices_DeleteFunc_api_Packet_1_outs C))) = T_slices_DeleteFunc_api_Packet_1_body (fun i6 j7 w => X [.int .i64 i6, .int .i64 j7] w) i6 j7 s8a s8l s8c del9g del9i del9c w (fun i32 w => C .normal [.int .i64 i32] w) (fun ch w => C (.panic ch) [] w) := by kernel_rfl

theorem T_slices_DeleteFunc_api_Packet_1_ok : UnitOk Try.prog H_slices_DeleteFunc_api_Packet_1 (at_ (bodyOf Try.f43) [1, 1, 1, 0, 1]) 61 := by
  have hc : at_ (bodyOf Try.f43) [1, 1, 1, 0, 1] = .block 0 (.loop (at_ (bodyOf Try.f43) [1, 1, 1, 0, 1, 0, 0])) := by kernel_rfl
  rw [hc]
  refine loop_unit_ok (carr := [(5, .int .i64 0), (6, .int .i64 0)]) (fix := [(0, .slice none 0 0), (1, .func (.func 0) #[] #[])]) (ks := T_slices_DeleteFunc_api_Packet_1_ks) (H := (hookAt [])) (B := fun C X l u w => match l, u with | [v0, v1], [v2, v3] => T_slices_DeleteFunc_api_Packet_1_body (fun i6 j7 w => X [.int .i64 i6, .int .i64 j7] w) (pInt v0) (pInt v1) (pA v2) (pL v2) (pC v2) (pFn v3) (pFi v3) (pCa v3) w (fun i33 w => C .normal [.int .i64 i33] w) (fun ch w => C (.panic ch) [] w) | _, _ => False) (by kernel_rfl) (by kernel_rfl) T_slices_DeleteFunc_api_Packet_1_hok ?_ ?_
  · intro C X l u w hl hu
    obtain ⟨v0, l_v0, rfl, k_v0, hl_v0⟩ := Kinds.cons_ hl
    obtain ⟨i6, rfl⟩ := kind_int k_v0
    obtain ⟨v1, l_v1, rfl, k_v1, hl_v1⟩ := Kinds.cons_ hl_v0
    obtain ⟨j7, rfl⟩ := kind_int k_v1
    obtain rfl := Kinds.nil_ hl_v1
    obtain ⟨v2, l_v2, rfl, k_v2, hu_v2⟩ := Kinds.cons_ hu
    obtain ⟨s8a, s8l, s8c, rfl⟩ := kind_slice k_v2
    obtain ⟨v3, l_v3, rfl, k_v3, hu_v3⟩ := Kinds.cons_ hu_v2
    obtain ⟨del9g, del9i, del9c, rfl⟩ := kind_func k_v3
    obtain rfl := Kinds.nil_ hu_v3
    exact T_slices_DeleteFunc_api_Packet_1_eq C X i6 j7 s8a s8l s8c del9g del9i del9c w
  · intro l u w C hl hu
    obtain ⟨v0, l_v0, rfl, k_v0, hl_v0⟩ := Kinds.cons_ hl
    obtain ⟨i6, rfl⟩ := kind_int k_v0
    obtain ⟨v1, l_v1, rfl, k_v1, hl_v1⟩ := Kinds.cons_ hl_v0
    obtain ⟨j7, rfl⟩ := kind_int k_v1
    obtain rfl := Kinds.nil_ hl_v1
    obtain ⟨v2, l_v2, rfl, k_v2, hu_v2⟩ := Kinds.cons_ hu
    obtain ⟨s8a, s8l, s8c, rfl⟩ := kind_slice k_v2
    obtain ⟨v3, l_v3, rfl, k_v3, hu_v3⟩ := Kinds.cons_ hu_v2
    obtain ⟨del9g, del9i, del9c, rfl⟩ := kind_func k_v3
    obtain rfl := Kinds.nil_ hu_v3
    constructor
    · intro h X hX
      exact h (fun i6 j7 w => X [.int .i64 i6, .int .i64 j7] w) (fun i6 j7 w hb => hX [.int .i64 i6, .int .i64 j7] w ⟨rfl, rfl, trivial⟩ hb)
    · intro h X hX
      exact h (fun l w => match l with | [v0, v1] => X (pInt v0) (pInt v1) w | _ => True) (fun l w hl hb => by
        obtain ⟨v0, l_v0, rfl, k_v0, hl_v0⟩ := Kinds.cons_ hl
        obtain ⟨i6, rfl⟩ := kind_int k_v0
        obtain ⟨v1, l_v1, rfl, k_v1, hl_v1⟩ := Kinds.cons_ hl_v0
        obtain ⟨j7, rfl⟩ := kind_int k_v1
        obtain rfl := Kinds.nil_ hl_v1
        exact hX i6 j7 w hb)

def T_slices_DeleteFunc_api_Packet (s1a : Option Addr) (s1l : Nat) (s1c : Nat) (del2g : FuncId) (del2i : Array Value) (del2c : Array Value) (w : World) (R : Ending → World → Prop) : Prop :=
  Calls Try.prog 54 #[.slice s1a s1l s1c, .func (.func del2g) del2i del2c] w (ret (fun r3 w4 => ∃ x5 : Int, r3 = .int .i64 x5 ∧ if ((x5 : Int) == (-1)) = true then (R (.returned (.slice s1a s1l s1c)) w4) else (T_slices_DeleteFunc_api_Packet_1 x5 (IntKind.wrap .i64 ((x5 : Int) + 1)) s1a s1l s1c del2g del2i del2c w4 (fun i34 w35 => 0 ≤ (i34 : Int) ∧ (i34 : Int) ≤ ((s1l : Nat) : Int) ∧ runV Try.prog (Builtin.clear_ #[33] 0 #[.slice (if s1c = ((i34 : Int).toNat) then s1a else s1a.map (fun x => x.add (((i34 : Int).toNat) * 4))) (s1l - ((i34 : Int).toNat)) (s1c - ((i34 : Int).toNat))]) w35 (fun r36 w37 => 0 ≤ (i34 : Int) ∧ (i34 : Int) ≤ ((s1c : Nat) : Int) ∧ R (.returned (.slice (if s1c = 0 then s1a else s1a.map (fun x => x.add (0 * 4))) (((i34 : Int).toNat) - 0) (s1c - 0))) w37) (pan R)) (pan R))) (pan R))

theorem T_slices_DeleteFunc_api_Packet_hl : allP (hokL Try.prog (hookAt [(61, H_slices_DeleteFunc_api_Packet_1)]) (bodyOf Try.f43) 1) = (UnitOk Try.prog H_slices_DeleteFunc_api_Packet_1 (at_ (bodyOf Try.f43) [1, 1, 1, 0, 1]) 61 ∧ True) := by kernel_rfl

theorem T_slices_DeleteFunc_api_Packet_eq (s1a : Option Addr) (s1l : Nat) (s1c : Nat) (del2g : FuncId) (del2i : Array Value) (del2c : Array Value) (w : World) (R : Ending → World → Prop) : vcCode Try.prog (hookAt [(61, H_slices_DeleteFunc_api_Packet_1)]) (bodyOf Try.f43) 1 ⟨argEnv [.slice s1a s1l s1c, .func (.func del2g) del2i del2c] 0, Try.f43.ntmps, []⟩ w (finQ Try.prog Try.f43.results.toList R) = T_slices_DeleteFunc_api_Packet s1a s1l s1c del2g del2i del2c w R := by kernel_rfl

theorem T_slices_DeleteFunc_api_Packet_b : Try.f43.body = some (bodyOf Try.f43) := by kernel_rfl
theorem T_slices_DeleteFunc_api_Packet_s : (quietSel (bodyOf Try.f43) && Nat.ble 2 Try.f43.ntmps) = true := by kernel_rfl

theorem C_slices_DeleteFunc_api_Packet {s1a : Option Addr} {s1l : Nat} {s1c : Nat} {del2g : FuncId} {del2i : Array Value} {del2c : Array Value} {w : World} {R : Ending → World → Prop} (h : T_slices_DeleteFunc_api_Packet s1a s1l s1c del2g del2i del2c w R) : Calls Try.prog 43 #[.slice s1a s1l s1c, .func (.func del2g) del2i del2c] w R :=
  calls_of_text (args := [.slice s1a s1l s1c, .func (.func del2g) del2i del2c]) mixed Try.func43 T_slices_DeleteFunc_api_Packet_b T_slices_DeleteFunc_api_Packet_s (HOk_of _ _ (by rw [T_slices_DeleteFunc_api_Packet_hl]; exact ⟨T_slices_DeleteFunc_api_Packet_1_ok, trivial⟩)) (by rw [T_slices_DeleteFunc_api_Packet_eq]; exact h)

/-! (*tollgate/flight.Net).Part$1 -/
def T_flight_Net_Part_1 (x1 : Int) (x2 : Int) (x3 : Int) (s4a : Option Addr) (s4l : Nat) (s4c : Nat) (cap5 : Addr) (cap6 : Addr) (w : World) (R : Ending → World → Prop) : Prop :=
  let w7 : World := w.alloc (.cells #[.int .i64 x1, .int .i64 x2, .int .i64 x3, .slice s4a s4l s4c] 41)
  ∃ x8 : Int, rd w7 ((⟨w.heap.size, 0, none⟩ : Addr).add 1) (.int .i64 x8) ∧ ∃ x9 : Int, rd w7 cap5 (.int .i64 x9) ∧ if ((x8 : Int) == x9) = true then (∃ x10 : Int, rd w7 ((⟨w.heap.size, 0, none⟩ : Addr).add 2) (.int .i64 x10) ∧ ∃ x11 : Int, rd w7 cap6 (.int .i64 x11) ∧ R (.returned (.bool ((x10 : Int) == x11))) w7) else (R (.returned (.bool false)) w7)

theorem T_flight_Net_Part_1_hl : allP (hokL Try.prog (hookAt []) (bodyOf Try.f44) 1) = (True) := by kernel_rfl

theorem T_flight_Net_Part_1_eq (x1 : Int) (x2 : Int) (x3 : Int) (s4a : Option Addr) (s4l : Nat) (s4c : Nat) (cap5 : Addr) (cap6 : Addr) (w : World) (R : Ending → World → Prop) : vcCode Try.prog (hookAt []) (bodyOf Try.f44) 1 ⟨argEnv [.agg #[.int .i64 x1, .int .i64 x2, .int .i64 x3, .slice s4a s4l s4c], .pointer (some cap5), .pointer (some cap6)] 0, Try.f44.ntmps, []⟩ w (finQ Try.prog Try.f44.results.toList R) = T_flight_Net_Part_1 x1 x2 x3 s4a s4l s4c cap5 cap6 w R := by kernel_rfl

theorem T_flight_Net_Part_1_b : Try.f44.body = some (bodyOf Try.f44) := by kernel_rfl
theorem T_flight_Net_Part_1_s : (quietSel (bodyOf Try.f44) && Nat.ble 3 Try.f44.ntmps) = true := by kernel_rfl

theorem C_flight_Net_Part_1 {x1 : Int} {x2 : Int} {x3 : Int} {s4a : Option Addr} {s4l : Nat} {s4c : Nat} {cap5 : Addr} {cap6 : Addr} {w : World} {R : Ending → World → Prop} (h : T_flight_Net_Part_1 x1 x2 x3 s4a s4l s4c cap5 cap6 w R) : Calls Try.prog 44 #[.agg #[.int .i64 x1, .int .i64 x2, .int .i64 x3, .slice s4a s4l s4c], .pointer (some cap5), .pointer (some cap6)] w R :=
  calls_of_text (args := [.agg #[.int .i64 x1, .int .i64 x2, .int .i64 x3, .slice s4a s4l s4c], .pointer (some cap5), .pointer (some cap6)]) mixed Try.func44 T_flight_Net_Part_1_b T_flight_Net_Part_1_s (HOk_of _ _ (by rw [T_flight_Net_Part_1_hl]; exact trivial)) (by rw [T_flight_Net_Part_1_eq]; exact h)

/-! maps.Clone[map[tollgate/flight.link]int,tollgate/flight.link,int] -/
def T_maps_Clone_int (m1 : Option Nat) (w : World) (R : Ending → World → Prop) : Prop :=
  if m1.isNone = true then (R (.returned (.map none)) w) else (runV Try.prog (callFunc 56 #[.iface 60 (.map m1)]) w (nxv (fun r2 w3 => ∃ u4 : Value, one u4 = true ∧ r2 = u4 ∧ runV Try.prog (Instr.typeAssert u4 20 60 false) w3 (fun r5 w6 => ∃ m7 : Option Nat, r5 = .map m7 ∧ R (.returned (.map m7)) w6) (pan R))) (pan R))

theorem T_maps_Clone_int_hl : allP (hokL Try.prog (hookAt []) (bodyOf Try.f53) 1) = (True) := by kernel_rfl

theorem T_maps_Clone_int_eq (m1 : Option Nat) (w : World) (R : Ending → World → Prop) : vcCode Try.prog (hookAt []) (bodyOf Try.f53) 1 ⟨argEnv [.map m1] 0, Try.f53.ntmps, []⟩ w (finQ Try.prog Try.f53.results.toList R) = T_maps_Clone_int m1 w R := by kernel_rfl

theorem T_maps_Clone_int_b : Try.f53.body = some (bodyOf Try.f53) := by kernel_rfl
theorem T_maps_Clone_int_s : (quietSel (bodyOf Try.f53) && Nat.ble 1 Try.f53.ntmps) = true := by kernel_rfl

theorem C_maps_Clone_int {m1 : Option Nat} {w : World} {R : Ending → World → Prop} (h : T_maps_Clone_int m1 w R) : Calls Try.prog 53 #[.map m1] w R :=
  calls_of_text (args := [.map m1]) mixed Try.func53 T_maps_Clone_int_b T_maps_Clone_int_s (HOk_of _ _ (by rw [T_maps_Clone_int_hl]; exact trivial)) (by rw [T_maps_Clone_int_eq]; exact h)

/-! slices.IndexFunc[[]tollgate/api.Packet,tollgate/api.Packet] -/
def T_slices_IndexFunc_api_Packet_1_body (X : Int → World → Prop) (x3 : Int) (s4a : Option Addr) (s4l : Nat) (s4c : Nat) (f5g : FuncId) (f5i : Array Value) (f5c : Array Value) (x6 : Int) (w : World) (Kn : World → Prop) (Kr : Int → World → Prop) (Kp : List PanicEntry → World → Prop)  : Prop :=
  if (decide ((x3 : Int) < x6)) = true then (0 ≤ (x3 : Int) ∧ (x3 : Int) < ((s4l : Nat) : Int) ∧ ∃ b7, s4a = some b7 ∧ ∃ x8 : Int, ∃ x9 : Int, ∃ x10 : Int, ∃ s11a : Option Addr, ∃ s11l : Nat, ∃ s11c : Nat, rd w (b7.add ((x3 : Int).toNat * 4)) (.agg #[.int .i64 x8, .int .i64 x9, .int .i64 x10, .slice s11a s11l s11c]) ∧ hasBody Try.prog f5g = true ∧ Calls Try.prog f5g ⟨f5i.toList ++ ([.agg #[.int .i64 x8, .int .i64 x9, .int .i64 x10, .slice s11a s11l s11c]] ++ f5c.toList)⟩ w (ret (fun r12 w13 => ∃ b14 : Bool, r12 = .bool b14 ∧ if b14 = true then (Kr x3 w13) else (X (IntKind.wrap .i64 ((x3 : Int) + 1)) w13)) Kp)) else (Kn  w)

def T_slices_IndexFunc_api_Packet_1 (x3 : Int) (s4a : Option Addr) (s4l : Nat) (s4c : Nat) (f5g : FuncId) (f5i : Array Value) (f5c : Array Value) (x6 : Int) (w : World) (Kn : World → Prop) (Kr : Int → World → Prop) (Kp : List PanicEntry → World → Prop) : Prop :=
  ∀ X : Int → World → Prop, (∀ (x3 : Int) (w : World), T_slices_IndexFunc_api_Packet_1_body X x3 s4a s4l s4c f5g f5i f5c x6 w Kn Kr Kp → X x3 w) → X x3 w

def T_slices_IndexFunc_api_Packet_1_outs : Exit → Option (List (Nat × Value)) := fun x => match x with | .normal => some [] | .ret => some [(4, .int .i64 0)] | .panic _ => some [] | _ => none

def T_slices_IndexFunc_api_Packet_1_ks : Nat → Bool := ksOf [4, 5, 8, 9, 10, 11, 12, 13, 14, 15, 16, 17, 18]

def H_slices_IndexFunc_api_Packet_1 : Env → World → QT → Prop := unitHook 19 T_slices_IndexFunc_api_Packet_1_ks [(8, .int .i64 0), (0, .slice none 0 0), (1, .func (.func 0) #[] #[]), (7, .int .i64 0)] T_slices_IndexFunc_api_Packet_1_outs fun l w C => match l with | [v0, v1, v2, v3] => T_slices_IndexFunc_api_Packet_1 (pInt v0) (pA v1) (pL v1) (pC v1) (pFn v2) (pFi v2) (pCa v2) (pInt v3) w (fun w => C .normal [] w) (fun x16 w => C .ret [.int .i64 x16] w) (fun ch w => C (.panic ch) [] w) | _ => False

theorem T_slices_IndexFunc_api_Packet_1_hl : allP (hokL Try.prog (hookAt []) (at_ (bodyOf Try.f54) [1, 0, 1, 0, 0]) 52) = (True) := by kernel_rfl
theorem T_slices_IndexFunc_api_Packet_1_hok : HOk Try.prog (hookAt []) (at_ (bodyOf Try.f54) [1, 0, 1, 0, 0]) 52 := HOk_of _ _ (by rw [T_slices_IndexFunc_api_Packet_1_hl]; exact trivial)

theorem T_slices_IndexFunc_api_Packet_1_eq (C : Conts) (X : List Value → World → Prop) (x3 : Int) (s4a : Option Addr) (s4l : Nat) (s4c : Nat) (f5g : FuncId) (f5i : Array Value) (f5c : Array Value) (x6 : Int) (w : World) : vcCode Try.prog (hookAt []) (at_ (bodyOf Try.f54) [1, 0, 1, 0, 0]) 52 ⟨[(8, .int .i64 x3)] ++ [(0, .slice s4a s4l s4c), (1, .func (.func f5g) f5i f5c), (7, .int .i64 x6)], 19, []⟩ w (seqQ (fun e w => takeAll e [(8, .int .i64 0)] fun l => X l w) (blockQ 0 (unitQ T_slices_IndexFunc_api_Packet_1_outs C))) = T_slices_IndexFunc_api_Packet_1_body (fun x3 w => X [.int .i64 x3] w) x3 s4a s4l s4c f5g f5i f5c x6 w (fun w => C .normal [] w) (fun x17 w => C .ret [.int .i64 x17] w) (fun ch w => C (.panic ch) [] w) := by kernel_rfl

theorem T_slices_IndexFunc_api_Packet_1_ok : UnitOk Try.prog H_slices_IndexFunc_api_Packet_1 (at_ (bodyOf Try.f54) [1, 0, 1]) 13 := by
  have hc : at_ (bodyOf Try.f54) [1, 0, 1] = .block 0 (.loop (at_ (bodyOf Try.f54) [1, 0, 1, 0, 0])) := by kernel_rfl
  rw [hc]
  refine loop_unit_ok (carr := [(8, .int .i64 0)]) (fix := [(0, .slice none 0 0), (1, .func (.func 0) #[] #[]), (7, .int .i64 0)]) (ks := T_slices_IndexFunc_api_Packet_1_ks) (H := (hookAt [])) (B := fun C X l u w => match l, u with | [v0], [v1, v2, v3] => T_slices_IndexFunc_api_Packet_1_body (fun x3 w => X [.int .i64 x3] w) (pInt v0) (pA v1) (pL v1) (pC v1) (pFn v2) (pFi v2) (pCa v2) (pInt v3) w (fun w => C .normal [] w) (fun x18 w => C .ret [.int .i64 x18] w) (fun ch w => C (.panic ch) [] w) | _, _ => False) (by kernel_rfl) (by kernel_rfl) T_slices_IndexFunc_api_Packet_1_hok ?_ ?_
  · intro C X l u w hl hu
    obtain ⟨v0, l_v0, rfl, k_v0, hl_v0⟩ := Kinds.cons_ hl
    obtain ⟨x3, rfl⟩ := kind_int k_v0
    obtain rfl := Kinds.nil_ hl_v0
    obtain ⟨v1, l_v1, rfl, k_v1, hu_v1⟩ := Kinds.cons_ hu
    obtain ⟨s4a, s4l, s4c, rfl⟩ := kind_slice k_v1
    obtain ⟨v2, l_v2, rfl, k_v2, hu_v2⟩ := Kinds.cons_ hu_v1
    obtain ⟨f5g, f5i, f5c, rfl⟩ := kind_func k_v2
    obtain ⟨v3, l_v3, rfl, k_v3, hu_v3⟩ := Kinds.cons_ hu_v2
    obtain ⟨x6, rfl⟩ := kind_int k_v3
    obtain rfl := Kinds.nil_ hu_v3
    exact T_slices_IndexFunc_api_Packet_1_eq C X x3 s4a s4l s4c f5g f5i f5c x6 w
  · intro l u w C hl hu
    obtain ⟨v0, l_v0, rfl, k_v0, hl_v0⟩ := Kinds.cons_ hl
    obtain ⟨x3, rfl⟩ := kind_int k_v0
    obtain rfl := Kinds.nil_ hl_v0
    obtain ⟨v1, l_v1, rfl, k_v1, hu_v1⟩ := Kinds.cons_ hu
    obtain ⟨s4a, s4l, s4c, rfl⟩ := kind_slice k_v1
    obtain ⟨v2, l_v2, rfl, k_v2, hu_v2⟩ := Kinds.cons_ hu_v1
    obtain ⟨f5g, f5i, f5c, rfl⟩ := kind_func k_v2
    obtain ⟨v3, l_v3, rfl, k_v3, hu_v3⟩ := Kinds.cons_ hu_v2
    obtain ⟨x6, rfl⟩ := kind_int k_v3
    obtain rfl := Kinds.nil_ hu_v3
    constructor
    · intro h X hX
      exact h (fun x3 w => X [.int .i64 x3] w) (fun x3 w hb => hX [.int .i64 x3] w ⟨rfl, trivial⟩ hb)
    · intro h X hX
      exact h (fun l w => match l with | [v0] => X (pInt v0) w | _ => True) (fun l w hl hb => by
        obtain ⟨v0, l_v0, rfl, k_v0, hl_v0⟩ := Kinds.cons_ hl
        obtain ⟨x3, rfl⟩ := kind_int k_v0
        obtain rfl := Kinds.nil_ hl_v0
        exact hX x3 w hb)

def T_slices_IndexFunc_api_Packet (s1a : Option Addr) (s1l : Nat) (s1c : Nat) (f2g : FuncId) (f2i : Array Value) (f2c : Array Value) (w : World) (R : Ending → World → Prop) : Prop :=
  T_slices_IndexFunc_api_Packet_1 0 s1a s1l s1c f2g f2i f2c ((s1l : Nat) : Int) w (fun w19 => R (.returned (.int .i64 (-1))) w19) (fun x20 w21 => R (.returned (.int .i64 x20)) w21) (pan R)

theorem T_slices_IndexFunc_api_Packet_hl : allP (hokL Try.prog (hookAt [(13, H_slices_IndexFunc_api_Packet_1)]) (bodyOf Try.f54) 1) = (UnitOk Try.prog H_slices_IndexFunc_api_Packet_1 (at_ (bodyOf Try.f54) [1, 0, 1]) 13 ∧ True) := by kernel_rfl

theorem T_slices_IndexFunc_api_Packet_eq (s1a : Option Addr) (s1l : Nat) (s1c : Nat) (f2g : FuncId) (f2i : Array Value) (f2c : Array Value) (w : World) (R : Ending → World → Prop) : vcCode Try.prog (hookAt [(13, H_slices_IndexFunc_api_Packet_1)]) (bodyOf Try.f54) 1 ⟨argEnv [.slice s1a s1l s1c, .func (.func f2g) f2i f2c] 0, Try.f54.ntmps, []⟩ w (finQ Try.prog Try.f54.results.toList R) = T_slices_IndexFunc_api_Packet s1a s1l s1c f2g f2i f2c w R := by kernel_rfl

theorem T_slices_IndexFunc_api_Packet_b : Try.f54.body = some (bodyOf Try.f54) := by kernel_rfl
theorem T_slices_IndexFunc_api_Packet_s : (quietSel (bodyOf Try.f54) && Nat.ble 2 Try.f54.ntmps) = true := by kernel_rfl

theorem C_slices_IndexFunc_api_Packet {s1a : Option Addr} {s1l : Nat} {s1c : Nat} {f2g : FuncId} {f2i : Array Value} {f2c : Array Value} {w : World} {R : Ending → World → Prop} (h : T_slices_IndexFunc_api_Packet s1a s1l s1c f2g f2i f2c w R) : Calls Try.prog 54 #[.slice s1a s1l s1c, .func (.func f2g) f2i f2c] w R :=
  calls_of_text (args := [.slice s1a s1l s1c, .func (.func f2g) f2i f2c]) mixed Try.func54 T_slices_IndexFunc_api_Packet_b T_slices_IndexFunc_api_Packet_s (HOk_of _ _ (by rw [T_slices_IndexFunc_api_Packet_hl]; exact ⟨T_slices_IndexFunc_api_Packet_1_ok, trivial⟩)) (by rw [T_slices_IndexFunc_api_Packet_eq]; exact h)

end Go.Proofs.Ytilhnmncbpnfjaa
