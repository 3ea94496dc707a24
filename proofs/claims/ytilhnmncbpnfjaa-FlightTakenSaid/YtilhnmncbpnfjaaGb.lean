/-
  What the functions' code comes to; printed by a program of this claim's own.
-/
import Derived.Test.YtilhnmncbpnfjaaProg
import Derived.KernelRfl
import Derived.Test.YtilhnmncbpnfjaaGa
namespace Go.Proofs.Ytilhnmncbpnfjaa
open Go Go.Vc
set_option maxRecDepth 100000

/-! tollgate/tollgateref04.SamePacket -/
def T_ref04_SamePacket (x1 : Int) (x2 : Int) (x3 : Int) (s4a : Option Addr) (s4l : Nat) (s4c : Nat) (x5 : Int) (x6 : Int) (x7 : Int) (s8a : Option Addr) (s8l : Nat) (s8c : Nat) (w : World) (R : Ending → World → Prop) : Prop :=
  let w9 : World := w.alloc (.cells #[.int .i64 x1, .int .i64 x2, .int .i64 x3, .slice s4a s4l s4c] 41)
  let w10 : World := w9.alloc (.cells #[.int .i64 x5, .int .i64 x6, .int .i64 x7, .slice s8a s8l s8c] 41)
  ∃ x11 : Int, rd w10 (⟨w.heap.size, 0, none⟩ : Addr) (.int .i64 x11) ∧ ∃ x12 : Int, rd w10 (⟨w9.heap.size, 0, none⟩ : Addr) (.int .i64 x12) ∧ if ((x11 : Int) == x12) = true then (∃ x13 : Int, rd w10 ((⟨w.heap.size, 0, none⟩ : Addr).add 1) (.int .i64 x13) ∧ ∃ x14 : Int, rd w10 ((⟨w9.heap.size, 0, none⟩ : Addr).add 1) (.int .i64 x14) ∧ if ((x13 : Int) == x14) = true then (∃ x15 : Int, rd w10 ((⟨w.heap.size, 0, none⟩ : Addr).add 2) (.int .i64 x15) ∧ ∃ x16 : Int, rd w10 ((⟨w9.heap.size, 0, none⟩ : Addr).add 2) (.int .i64 x16) ∧ if ((x15 : Int) == x16) = true then (∃ s17a : Option Addr, ∃ s17l : Nat, ∃ s17c : Nat, rd w10 ((⟨w.heap.size, 0, none⟩ : Addr).add 3) (.slice s17a s17l s17c) ∧ runV Try.prog (convert 36 9 (.slice s17a s17l s17c)) w10 (fun r18 w19 => ∃ s20 : ByteArray, r18 = .string s20 ∧ ∃ s21a : Option Addr, ∃ s21l : Nat, ∃ s21c : Nat, rd w19 ((⟨w9.heap.size, 0, none⟩ : Addr).add 3) (.slice s21a s21l s21c) ∧ runV Try.prog (convert 36 9 (.slice s21a s21l s21c)) w19 (fun r22 w23 => ∃ s24 : ByteArray, r22 = .string s24 ∧ R (.returned (.bool (s20.toList == s24.toList))) w23) (pan R)) (pan R)) else (R (.returned (.bool false)) w10)) else (R (.returned (.bool false)) w10)) else (R (.returned (.bool false)) w10)

theorem T_ref04_SamePacket_hl : allP (hokL Try.prog (hookAt []) (bodyOf Try.f19) 1) = (True) := by kernel_rfl

theorem T_ref04_SamePacket_eq (x1 : Int) (x2 : Int) (x3 : Int) (s4a : Option Addr) (s4l : Nat) (s4c : Nat) (x5 : Int) (x6 : Int) (x7 : Int) (s8a : Option Addr) (s8l : Nat) (s8c : Nat) (w : World) (R : Ending → World → Prop) : vcCode Try.prog (hookAt []) (bodyOf Try.f19) 1 ⟨argEnv [.agg #[.int .i64 x1, .int .i64 x2, .int .i64 x3, .slice s4a s4l s4c], .agg #[.int .i64 x5, .int .i64 x6, .int .i64 x7, .slice s8a s8l s8c]] 0, Try.f19.ntmps, []⟩ w (finQ Try.prog Try.f19.results.toList R) = T_ref04_SamePacket x1 x2 x3 s4a s4l s4c x5 x6 x7 s8a s8l s8c w R := by kernel_rfl

theorem T_ref04_SamePacket_b : Try.f19.body = some (bodyOf Try.f19) := by kernel_rfl
theorem T_ref04_SamePacket_s : (quietSel (bodyOf Try.f19) && Nat.ble 2 Try.f19.ntmps) = true := by kernel_rfl

theorem C_ref04_SamePacket {x1 : Int} {x2 : Int} {x3 : Int} {s4a : Option Addr} {s4l : Nat} {s4c : Nat} {x5 : Int} {x6 : Int} {x7 : Int} {s8a : Option Addr} {s8l : Nat} {s8c : Nat} {w : World} {R : Ending → World → Prop} (h : T_ref04_SamePacket x1 x2 x3 s4a s4l s4c x5 x6 x7 s8a s8l s8c w R) : Calls Try.prog 19 #[.agg #[.int .i64 x1, .int .i64 x2, .int .i64 x3, .slice s4a s4l s4c], .agg #[.int .i64 x5, .int .i64 x6, .int .i64 x7, .slice s8a s8l s8c]] w R :=
  calls_of_text (args := [.agg #[.int .i64 x1, .int .i64 x2, .int .i64 x3, .slice s4a s4l s4c], .agg #[.int .i64 x5, .int .i64 x6, .int .i64 x7, .slice s8a s8l s8c]]) mixed Try.func19 T_ref04_SamePacket_b T_ref04_SamePacket_s (HOk_of _ _ (by rw [T_ref04_SamePacket_hl]; exact trivial)) (by rw [T_ref04_SamePacket_eq]; exact h)

/-! tollgate/tollgateref04.SamePackets -/
def T_ref04_SamePackets_1_body (X : Int → World → Prop) (i3 : Int) (a4a : Option Addr) (a4l : Nat) (a4c : Nat) (b5a : Option Addr) (b5l : Nat) (b5c : Nat) (w : World) (Kn : World → Prop) (Kr : Bool → World → Prop) (Kp : List PanicEntry → World → Prop)  : Prop :=
  if (decide ((i3 : Int) < ((a4l : Nat) : Int))) = true then (let w6 : World := w.drew
  0 ≤ (i3 : Int) ∧ (i3 : Int) < ((a4l : Nat) : Int) ∧ ∃ b7, a4a = some b7 ∧ ∃ x8 : Int, ∃ x9 : Int, ∃ x10 : Int, ∃ s11a : Option Addr, ∃ s11l : Nat, ∃ s11c : Nat, rd w6 (b7.add ((i3 : Int).toNat * 4)) (.agg #[.int .i64 x8, .int .i64 x9, .int .i64 x10, .slice s11a s11l s11c]) ∧ 0 ≤ (i3 : Int) ∧ (i3 : Int) < ((b5l : Nat) : Int) ∧ ∃ b12, b5a = some b12 ∧ ∃ x13 : Int, ∃ x14 : Int, ∃ x15 : Int, ∃ s16a : Option Addr, ∃ s16l : Nat, ∃ s16c : Nat, rd w6 (b12.add ((i3 : Int).toNat * 4)) (.agg #[.int .i64 x13, .int .i64 x14, .int .i64 x15, .slice s16a s16l s16c]) ∧ Calls Try.prog 19 #[.agg #[.int .i64 x8, .int .i64 x9, .int .i64 x10, .slice s11a s11l s11c], .agg #[.int .i64 x13, .int .i64 x14, .int .i64 x15, .slice s16a s16l s16c]] w6 (ret (fun r17 w18 => ∃ b19 : Bool, r17 = .bool b19 ∧ (True) ∧ if (!b19) = true then (Kr false w18) else (X (IntKind.wrap .i64 ((i3 : Int) + 1)) w18)) Kp)) else (Kn  w)

def T_ref04_SamePackets_1 (i3 : Int) (a4a : Option Addr) (a4l : Nat) (a4c : Nat) (b5a : Option Addr) (b5l : Nat) (b5c : Nat) (w : World) (Kn : World → Prop) (Kr : Bool → World → Prop) (Kp : List PanicEntry → World → Prop) : Prop :=
  ∀ X : Int → World → Prop, (∀ (i3 : Int) (w : World), T_ref04_SamePackets_1_body X i3 a4a a4l a4c b5a b5l b5c w Kn Kr Kp → X i3 w) → X i3 w

def T_ref04_SamePackets_1_outs : Exit → Option (List (Nat × Value)) := fun x => match x with | .normal => some [] | .ret => some [(4, .bool false)] | .panic _ => some [] | _ => none

def T_ref04_SamePackets_1_ks : Nat → Bool := ksOf [4, 5, 11, 12, 13, 14, 15, 16, 17, 18, 19, 20, 21, 22, 23, 24, 25, 26]

def H_ref04_SamePackets_1 : Env → World → QT → Prop := unitHook 27 T_ref04_SamePackets_1_ks [(5, .int .i64 0), (0, .slice none 0 0), (1, .slice none 0 0)] T_ref04_SamePackets_1_outs fun l w C => match l with | [v0, v1, v2] => T_ref04_SamePackets_1 (pInt v0) (pA v1) (pL v1) (pC v1) (pA v2) (pL v2) (pC v2) w (fun w => C .normal [] w) (fun b21 w => C .ret [.bool b21] w) (fun ch w => C (.panic ch) [] w) | _ => False

theorem T_ref04_SamePackets_1_hl : allP (hokL Try.prog (hookAt []) (at_ (bodyOf Try.f25) [1, 1, 0, 1, 0, 0]) 116) = (True) := by kernel_rfl
theorem T_ref04_SamePackets_1_hok : HOk Try.prog (hookAt []) (at_ (bodyOf Try.f25) [1, 1, 0, 1, 0, 0]) 116 := HOk_of _ _ (by rw [T_ref04_SamePackets_1_hl]; exact trivial)

theorem T_ref04_SamePackets_1_eq (C : Conts) (X : List Value → World → Prop) (i3 : Int) (a4a : Option Addr) (a4l : Nat) (a4c : Nat) (b5a : Option Addr) (b5l : Nat) (b5c : Nat) (w : World) : vcCode Try.prog (hookAt []) (at_ (bodyOf Try.f25) [1, 1, 0, 1, 0, 0]) 116 ⟨[(5, .int .i64 i3)] ++ [(0, .slice a4a a4l a4c), (1, .slice b5a b5l b5c)], 27, []⟩ w (seqQ (fun e w => takeAll e [(5, .int .i64 0)] fun l => X l w) (blockQ 0 (unitQ T_ref04_SamePackets_1_outs C))) = T_ref04_SamePackets_1_body (fun i3 w => X [.int .i64 i3] w) i3 a4a a4l a4c b5a b5l b5c w (fun w => C .normal [] w) (fun b22 w => C .ret [.bool b22] w) (fun ch w => C (.panic ch) [] w) := by kernel_rfl

theorem T_ref04_SamePackets_1_ok : UnitOk Try.prog H_ref04_SamePackets_1 (at_ (bodyOf Try.f25) [1, 1, 0, 1]) 29 := by
  have hc : at_ (bodyOf Try.f25) [1, 1, 0, 1] = .block 0 (.loop (at_ (bodyOf Try.f25) [1, 1, 0, 1, 0, 0])) := by kernel_rfl
  rw [hc]
  refine loop_unit_ok (carr := [(5, .int .i64 0)]) (fix := [(0, .slice none 0 0), (1, .slice none 0 0)]) (ks := T_ref04_SamePackets_1_ks) (H := (hookAt [])) (B := fun C X l u w => match l, u with | [v0], [v1, v2] => T_ref04_SamePackets_1_body (fun i3 w => X [.int .i64 i3] w) (pInt v0) (pA v1) (pL v1) (pC v1) (pA v2) (pL v2) (pC v2) w (fun w => C .normal [] w) (fun b23 w => C .ret [.bool b23] w) (fun ch w => C (.panic ch) [] w) | _, _ => False) (by kernel_rfl) (by kernel_rfl) T_ref04_SamePackets_1_hok ?_ ?_
  · intro C X l u w hl hu
    obtain ⟨v0, l_v0, rfl, k_v0, hl_v0⟩ := Kinds.cons_ hl
    obtain ⟨i3, rfl⟩ := kind_int k_v0
    obtain rfl := Kinds.nil_ hl_v0
    obtain ⟨v1, l_v1, rfl, k_v1, hu_v1⟩ := Kinds.cons_ hu
    obtain ⟨a4a, a4l, a4c, rfl⟩ := kind_slice k_v1
    obtain ⟨v2, l_v2, rfl, k_v2, hu_v2⟩ := Kinds.cons_ hu_v1
    obtain ⟨b5a, b5l, b5c, rfl⟩ := kind_slice k_v2
    obtain rfl := Kinds.nil_ hu_v2
    exact T_ref04_SamePackets_1_eq C X i3 a4a a4l a4c b5a b5l b5c w
  · intro l u w C hl hu
    obtain ⟨v0, l_v0, rfl, k_v0, hl_v0⟩ := Kinds.cons_ hl
    obtain ⟨i3, rfl⟩ := kind_int k_v0
    obtain rfl := Kinds.nil_ hl_v0
    obtain ⟨v1, l_v1, rfl, k_v1, hu_v1⟩ := Kinds.cons_ hu
    obtain ⟨a4a, a4l, a4c, rfl⟩ := kind_slice k_v1
    obtain ⟨v2, l_v2, rfl, k_v2, hu_v2⟩ := Kinds.cons_ hu_v1
    obtain ⟨b5a, b5l, b5c, rfl⟩ := kind_slice k_v2
    obtain rfl := Kinds.nil_ hu_v2
    constructor
    · intro h X hX
      exact h (fun i3 w => X [.int .i64 i3] w) (fun i3 w hb => hX [.int .i64 i3] w ⟨rfl, trivial⟩ hb)
    · intro h X hX
      exact h (fun l w => match l with | [v0] => X (pInt v0) w | _ => True) (fun l w hl hb => by
        obtain ⟨v0, l_v0, rfl, k_v0, hl_v0⟩ := Kinds.cons_ hl
        obtain ⟨i3, rfl⟩ := kind_int k_v0
        obtain rfl := Kinds.nil_ hl_v0
        exact hX i3 w hb)

def T_ref04_SamePackets (a1a : Option Addr) (a1l : Nat) (a1c : Nat) (b2a : Option Addr) (b2l : Nat) (b2c : Nat) (w : World) (R : Ending → World → Prop) : Prop :=
  if (((a1l : Nat) : Int) != ((b2l : Nat) : Int)) = true then (R (.returned (.bool false)) w) else (T_ref04_SamePackets_1 0 a1a a1l a1c b2a b2l b2c w (fun w24 => R (.returned (.bool true)) w24) (fun b25 w26 => R (.returned (.bool b25)) w26) (pan R))

theorem T_ref04_SamePackets_hl : allP (hokL Try.prog (hookAt [(29, H_ref04_SamePackets_1)]) (bodyOf Try.f25) 1) = (UnitOk Try.prog H_ref04_SamePackets_1 (at_ (bodyOf Try.f25) [1, 1, 0, 1]) 29 ∧ True) := by kernel_rfl

theorem T_ref04_SamePackets_eq (a1a : Option Addr) (a1l : Nat) (a1c : Nat) (b2a : Option Addr) (b2l : Nat) (b2c : Nat) (w : World) (R : Ending → World → Prop) : vcCode Try.prog (hookAt [(29, H_ref04_SamePackets_1)]) (bodyOf Try.f25) 1 ⟨argEnv [.slice a1a a1l a1c, .slice b2a b2l b2c] 0, Try.f25.ntmps, []⟩ w (finQ Try.prog Try.f25.results.toList R) = T_ref04_SamePackets a1a a1l a1c b2a b2l b2c w R := by kernel_rfl

theorem T_ref04_SamePackets_b : Try.f25.body = some (bodyOf Try.f25) := by kernel_rfl
theorem T_ref04_SamePackets_s : (quietSel (bodyOf Try.f25) && Nat.ble 2 Try.f25.ntmps) = true := by kernel_rfl

theorem C_ref04_SamePackets {a1a : Option Addr} {a1l : Nat} {a1c : Nat} {b2a : Option Addr} {b2l : Nat} {b2c : Nat} {w : World} {R : Ending → World → Prop} (h : T_ref04_SamePackets a1a a1l a1c b2a b2l b2c w R) : Calls Try.prog 25 #[.slice a1a a1l a1c, .slice b2a b2l b2c] w R :=
  calls_of_text (args := [.slice a1a a1l a1c, .slice b2a b2l b2c]) mixed Try.func25 T_ref04_SamePackets_b T_ref04_SamePackets_s (HOk_of _ _ (by rw [T_ref04_SamePackets_hl]; exact ⟨T_ref04_SamePackets_1_ok, trivial⟩)) (by rw [T_ref04_SamePackets_eq]; exact h)

/-! (*tollgate/tollgateref04.Net).Double -/
def T_ref04_Net_Double (n1 : Option Addr) (i2 : Int) (w : World) (R : Ending → World → Prop) : Prop :=
  if n1.isNone = true then (R (.returned (.tuple #[.int .i64 0, .int .i64 1])) w) else (Calls Try.prog 45 #[.pointer n1, .int .i64 i2] w (ret (fun r3 w4 => ∃ x5 : Int, r3 = .int .i64 x5 ∧ if (decide ((x5 : Int) < 0)) = true then (R (.returned (.tuple #[.int .i64 0, .int .i64 8])) w4) else (Calls Try.prog 30 #[.pointer n1] w4 (ret (fun r6 w7 => ∃ x8 : Int, r6 = .int .i64 x8 ∧ if (decide ((x8 : Int) ≥ 128)) = true then (R (.returned (.tuple #[.int .i64 0, .int .i64 6])) w7) else (∃ a9, n1 = some a9 ∧ ∃ s10a : Option Addr, ∃ s10l : Nat, ∃ s10c : Nat, rd w7 a9 (.slice s10a s10l s10c) ∧ 0 ≤ (x5 : Int) ∧ (x5 : Int) < ((s10l : Nat) : Int) ∧ ∃ b11, s10a = some b11 ∧ ∃ x12 : Int, ∃ x13 : Int, ∃ x14 : Int, ∃ s15a : Option Addr, ∃ s15l : Nat, ∃ s15c : Nat, rd w7 (b11.add ((x5 : Int).toNat * 5)) (.agg #[.int .i64 x12, .int .i64 x13, .int .i64 x14, .slice s15a s15l s15c]) ∧ let w16 : World := w7.alloc (.cells #[.int .i64 0, .int .i64 0, .int .i64 0, .slice none 0 0] 41)
  (.agg #[.int .i64 x12, .int .i64 x13, .int .i64 x14, .slice s15a s15l s15c] : Value).cells.size = 4 ∧ wrOk w16 (⟨w7.heap.size, 0, none⟩ : Addr) (.agg #[.int .i64 x12, .int .i64 x13, .int .i64 x14, .slice s15a s15l s15c]) ∧ let w17 : World := wr w16 (⟨w7.heap.size, 0, none⟩ : Addr) (.agg #[.int .i64 x12, .int .i64 x13, .int .i64 x14, .slice s15a s15l s15c])
  ∃ x18 : Int, rd w17 ((⟨w7.heap.size, 0, none⟩ : Addr).add 1) (.int .i64 x18) ∧ ∃ x19 : Int, rd w17 ((⟨w7.heap.size, 0, none⟩ : Addr).add 2) (.int .i64 x19) ∧ ∃ s20a : Option Addr, ∃ s20l : Nat, ∃ s20c : Nat, rd w17 ((⟨w7.heap.size, 0, none⟩ : Addr).add 3) (.slice s20a s20l s20c) ∧ Calls Try.prog 46 #[.pointer n1, .int .i64 x18, .int .i64 x19, .slice s20a s20l s20c] w17 (ret (fun r21 w22 => ∃ x23 : Int, r21 = .int .i64 x23 ∧ R (.returned (.tuple #[.int .i64 x23, .int .i64 0])) w22) (pan R)))) (pan R)))) (pan R)))

theorem T_ref04_Net_Double_hl : allP (hokL Try.prog (hookAt []) (bodyOf Try.f28) 1) = (True) := by kernel_rfl

theorem T_ref04_Net_Double_eq (n1 : Option Addr) (i2 : Int) (w : World) (R : Ending → World → Prop) : vcCode Try.prog (hookAt []) (bodyOf Try.f28) 1 ⟨argEnv [.pointer n1, .int .i64 i2] 0, Try.f28.ntmps, []⟩ w (finQ Try.prog Try.f28.results.toList R) = T_ref04_Net_Double n1 i2 w R := by kernel_rfl

theorem T_ref04_Net_Double_b : Try.f28.body = some (bodyOf Try.f28) := by kernel_rfl
theorem T_ref04_Net_Double_s : (quietSel (bodyOf Try.f28) && Nat.ble 2 Try.f28.ntmps) = true := by kernel_rfl

theorem C_ref04_Net_Double {n1 : Option Addr} {i2 : Int} {w : World} {R : Ending → World → Prop} (h : T_ref04_Net_Double n1 i2 w R) : Calls Try.prog 28 #[.pointer n1, .int .i64 i2] w R :=
  calls_of_text (args := [.pointer n1, .int .i64 i2]) mixed Try.func28 T_ref04_Net_Double_b T_ref04_Net_Double_s (HOk_of _ _ (by rw [T_ref04_Net_Double_hl]; exact trivial)) (by rw [T_ref04_Net_Double_eq]; exact h)

/-! (*tollgate/tollgateref04.Net).Take -/
def T_ref04_Net_Take (n1 : Option Addr) (i2 : Int) (w : World) (R : Ending → World → Prop) : Prop :=
  let w3 : World := w.alloc (.cells #[.int .i64 0, .int .i64 0, .int .i64 0, .slice none 0 0] 41)
  if n1.isNone = true then ((.agg #[.int .i64 0, .int .i64 0, .int .i64 0, .slice none 0 0] : Value).cells.size = 4 ∧ wrOk w3 (⟨w.heap.size, 0, none⟩ : Addr) (.agg #[.int .i64 0, .int .i64 0, .int .i64 0, .slice none 0 0]) ∧ let w4 : World := wr w3 (⟨w.heap.size, 0, none⟩ : Addr) (.agg #[.int .i64 0, .int .i64 0, .int .i64 0, .slice none 0 0])
  ∃ x5 : Int, ∃ x6 : Int, ∃ x7 : Int, ∃ s8a : Option Addr, ∃ s8l : Nat, ∃ s8c : Nat, rd w4 (⟨w.heap.size, 0, none⟩ : Addr) (.agg #[.int .i64 x5, .int .i64 x6, .int .i64 x7, .slice s8a s8l s8c]) ∧ R (.returned (.tuple #[.agg #[.int .i64 x5, .int .i64 x6, .int .i64 x7, .slice s8a s8l s8c], .int .i64 1])) w4) else (Calls Try.prog 45 #[.pointer n1, .int .i64 i2] w3 (ret (fun r9 w10 => ∃ x11 : Int, r9 = .int .i64 x11 ∧ if (decide ((x11 : Int) < 0)) = true then ((.agg #[.int .i64 0, .int .i64 0, .int .i64 0, .slice none 0 0] : Value).cells.size = 4 ∧ wrOk w10 (⟨w.heap.size, 0, none⟩ : Addr) (.agg #[.int .i64 0, .int .i64 0, .int .i64 0, .slice none 0 0]) ∧ let w12 : World := wr w10 (⟨w.heap.size, 0, none⟩ : Addr) (.agg #[.int .i64 0, .int .i64 0, .int .i64 0, .slice none 0 0])
  ∃ x13 : Int, ∃ x14 : Int, ∃ x15 : Int, ∃ s16a : Option Addr, ∃ s16l : Nat, ∃ s16c : Nat, rd w12 (⟨w.heap.size, 0, none⟩ : Addr) (.agg #[.int .i64 x13, .int .i64 x14, .int .i64 x15, .slice s16a s16l s16c]) ∧ R (.returned (.tuple #[.agg #[.int .i64 x13, .int .i64 x14, .int .i64 x15, .slice s16a s16l s16c], .int .i64 8])) w12) else (∃ a17, n1 = some a17 ∧ ∃ s18a : Option Addr, ∃ s18l : Nat, ∃ s18c : Nat, rd w10 a17 (.slice s18a s18l s18c) ∧ 0 ≤ (x11 : Int) ∧ (x11 : Int) < ((s18l : Nat) : Int) ∧ ∃ b19, s18a = some b19 ∧ (.bool true : Value).cells.size = 1 ∧ wrOk w10 ((b19.add ((x11 : Int).toNat * 5)).add 4) (.bool true) ∧ let w20 : World := wr w10 ((b19.add ((x11 : Int).toNat * 5)).add 4) (.bool true)
  ∃ a21, n1 = some a21 ∧ ∃ s22a : Option Addr, ∃ s22l : Nat, ∃ s22c : Nat, rd w20 a21 (.slice s22a s22l s22c) ∧ 0 ≤ (x11 : Int) ∧ (x11 : Int) < ((s22l : Nat) : Int) ∧ ∃ b23, s22a = some b23 ∧ ∃ x24 : Int, ∃ x25 : Int, ∃ x26 : Int, ∃ s27a : Option Addr, ∃ s27l : Nat, ∃ s27c : Nat, rd w20 (b23.add ((x11 : Int).toNat * 5)) (.agg #[.int .i64 x24, .int .i64 x25, .int .i64 x26, .slice s27a s27l s27c]) ∧ (.agg #[.int .i64 x24, .int .i64 x25, .int .i64 x26, .slice s27a s27l s27c] : Value).cells.size = 4 ∧ wrOk w20 (⟨w.heap.size, 0, none⟩ : Addr) (.agg #[.int .i64 x24, .int .i64 x25, .int .i64 x26, .slice s27a s27l s27c]) ∧ let w28 : World := wr w20 (⟨w.heap.size, 0, none⟩ : Addr) (.agg #[.int .i64 x24, .int .i64 x25, .int .i64 x26, .slice s27a s27l s27c])
  ∃ x29 : Int, ∃ x30 : Int, ∃ x31 : Int, ∃ s32a : Option Addr, ∃ s32l : Nat, ∃ s32c : Nat, rd w28 (⟨w.heap.size, 0, none⟩ : Addr) (.agg #[.int .i64 x29, .int .i64 x30, .int .i64 x31, .slice s32a s32l s32c]) ∧ R (.returned (.tuple #[.agg #[.int .i64 x29, .int .i64 x30, .int .i64 x31, .slice s32a s32l s32c], .int .i64 0])) w28)) (pan R)))

theorem T_ref04_Net_Take_hl : allP (hokL Try.prog (hookAt []) (bodyOf Try.f29) 1) = (True) := by kernel_rfl

theorem T_ref04_Net_Take_eq (n1 : Option Addr) (i2 : Int) (w : World) (R : Ending → World → Prop) : vcCode Try.prog (hookAt []) (bodyOf Try.f29) 1 ⟨argEnv [.pointer n1, .int .i64 i2] 0, Try.f29.ntmps, []⟩ w (finQ Try.prog Try.f29.results.toList R) = T_ref04_Net_Take n1 i2 w R := by kernel_rfl

theorem T_ref04_Net_Take_b : Try.f29.body = some (bodyOf Try.f29) := by kernel_rfl
theorem T_ref04_Net_Take_s : (quietSel (bodyOf Try.f29) && Nat.ble 2 Try.f29.ntmps) = true := by kernel_rfl

theorem C_ref04_Net_Take {n1 : Option Addr} {i2 : Int} {w : World} {R : Ending → World → Prop} (h : T_ref04_Net_Take n1 i2 w R) : Calls Try.prog 29 #[.pointer n1, .int .i64 i2] w R :=
  calls_of_text (args := [.pointer n1, .int .i64 i2]) mixed Try.func29 T_ref04_Net_Take_b T_ref04_Net_Take_s (HOk_of _ _ (by rw [T_ref04_Net_Take_hl]; exact trivial)) (by rw [T_ref04_Net_Take_eq]; exact h)

/-! (*tollgate/tollgateref04.Net).Len -/
def T_ref04_Net_Len (n1 : Option Addr) (w : World) (R : Ending → World → Prop) : Prop :=
  Calls Try.prog 31 #[.pointer n1] w (ret (fun r2 w3 => ∃ s4a : Option Addr, ∃ s4l : Nat, ∃ s4c : Nat, r2 = .slice s4a s4l s4c ∧ R (.returned (.int .i64 ((s4l : Nat) : Int))) w3) (pan R))

theorem T_ref04_Net_Len_hl : allP (hokL Try.prog (hookAt []) (bodyOf Try.f30) 1) = (True) := by kernel_rfl

theorem T_ref04_Net_Len_eq (n1 : Option Addr) (w : World) (R : Ending → World → Prop) : vcCode Try.prog (hookAt []) (bodyOf Try.f30) 1 ⟨argEnv [.pointer n1] 0, Try.f30.ntmps, []⟩ w (finQ Try.prog Try.f30.results.toList R) = T_ref04_Net_Len n1 w R := by kernel_rfl

theorem T_ref04_Net_Len_b : Try.f30.body = some (bodyOf Try.f30) := by kernel_rfl
theorem T_ref04_Net_Len_s : (quietSel (bodyOf Try.f30) && Nat.ble 1 Try.f30.ntmps) = true := by kernel_rfl

theorem C_ref04_Net_Len {n1 : Option Addr} {w : World} {R : Ending → World → Prop} (h : T_ref04_Net_Len n1 w R) : Calls Try.prog 30 #[.pointer n1] w R :=
  calls_of_text (args := [.pointer n1]) mixed Try.func30 T_ref04_Net_Len_b T_ref04_Net_Len_s (HOk_of _ _ (by rw [T_ref04_Net_Len_hl]; exact trivial)) (by rw [T_ref04_Net_Len_eq]; exact h)

/-! (*tollgate/tollgateref04.Net).Under -/
def T_ref04_Net_Under_2 (n6 : Option Addr) (i7 : Int) (w : World) (Kn : Bool → World → Prop) (Kp : List PanicEntry → World → Prop) : Prop :=
  if (!n6.isNone) = true then (∃ a8, n6 = some a8 ∧ ∃ s9a : Option Addr, ∃ s9l : Nat, ∃ s9c : Nat, rd w a8 (.slice s9a s9l s9c) ∧ Kn (decide ((i7 : Int) < ((s9l : Nat) : Int))) w) else (Kn false w)

def T_ref04_Net_Under_2_outs : Exit → Option (List (Nat × Value)) := fun x => match x with | .normal => some [(16, .bool false)] | .panic _ => some [] | _ => none

def T_ref04_Net_Under_2_ks : Nat → Bool := ksOf [6, 7, 8, 9, 10, 11, 12, 13, 14, 15, 16]

def H_ref04_Net_Under_2 : Env → World → QT → Prop := unitHook 40 T_ref04_Net_Under_2_ks [(0, .pointer none), (4, .int .i64 0)] T_ref04_Net_Under_2_outs fun l w C => match l with | [v0, v1] => T_ref04_Net_Under_2 (pPtr v0) (pInt v1) w (fun b11 w => C .normal [.bool b11] w) (fun ch w => C (.panic ch) [] w) | _ => False

theorem T_ref04_Net_Under_2_hl : allP (hokL Try.prog (hookAt []) (at_ (bodyOf Try.f31) [1, 1, 0, 1, 0, 0, 0, 0]) 464) = (True) := by kernel_rfl
theorem T_ref04_Net_Under_2_hok : HOk Try.prog (hookAt []) (at_ (bodyOf Try.f31) [1, 1, 0, 1, 0, 0, 0, 0]) 464 := HOk_of _ _ (by rw [T_ref04_Net_Under_2_hl]; exact trivial)

theorem T_ref04_Net_Under_2_eq (C : Conts) (n6 : Option Addr) (i7 : Int) (w : World) : vcCode Try.prog (hookAt []) (at_ (bodyOf Try.f31) [1, 1, 0, 1, 0, 0, 0, 0]) 464 ⟨[(0, .pointer n6), (4, .int .i64 i7)], 40, []⟩ w (unitQ T_ref04_Net_Under_2_outs C) = T_ref04_Net_Under_2 n6 i7 w (fun b12 w => C .normal [.bool b12] w) (fun ch w => C (.panic ch) [] w) := by kernel_rfl

theorem T_ref04_Net_Under_2_ok : UnitOk Try.prog H_ref04_Net_Under_2 (at_ (bodyOf Try.f31) [1, 1, 0, 1, 0, 0, 0, 0]) 464 := unit_ok (H := (hookAt [])) (by kernel_rfl) T_ref04_Net_Under_2_hok fun l w C hk => by
    obtain ⟨v0, l_v0, rfl, k_v0, hk_v0⟩ := Kinds.cons_ hk
    obtain ⟨n6, rfl⟩ := kind_pointer k_v0
    obtain ⟨v1, l_v1, rfl, k_v1, hk_v1⟩ := Kinds.cons_ hk_v0
    obtain ⟨i7, rfl⟩ := kind_int k_v1
    obtain rfl := Kinds.nil_ hk_v1
    exact T_ref04_Net_Under_2_eq C n6 i7 w

def T_ref04_Net_Under_1_body (X : Option Addr → Nat → Nat → Int → World → Prop) (out3a : Option Addr) (out3l : Nat) (out3c : Nat) (i4 : Int) (n5 : Option Addr) (w : World) (Kn : Option Addr → Nat → Nat → World → Prop) (Kp : List PanicEntry → World → Prop)  : Prop :=
  T_ref04_Net_Under_2 n5 i4 w (fun b13 w14 => if b13 = true then (∃ a15, n5 = some a15 ∧ ∃ s16a : Option Addr, ∃ s16l : Nat, ∃ s16c : Nat, rd w14 a15 (.slice s16a s16l s16c) ∧ 0 ≤ (i4 : Int) ∧ (i4 : Int) < ((s16l : Nat) : Int) ∧ ∃ b17, s16a = some b17 ∧ ∃ b18 : Bool, rd w14 ((b17.add ((i4 : Int).toNat * 5)).add 4) (.bool b18) ∧ if (!b18) = true then (∃ a19, n5 = some a19 ∧ ∃ s20a : Option Addr, ∃ s20l : Nat, ∃ s20c : Nat, rd w14 a19 (.slice s20a s20l s20c) ∧ 0 ≤ (i4 : Int) ∧ (i4 : Int) < ((s20l : Nat) : Int) ∧ ∃ b21, s20a = some b21 ∧ ∃ x22 : Int, ∃ x23 : Int, ∃ x24 : Int, ∃ s25a : Option Addr, ∃ s25l : Nat, ∃ s25c : Nat, rd w14 (b21.add ((i4 : Int).toNat * 5)) (.agg #[.int .i64 x22, .int .i64 x23, .int .i64 x24, .slice s25a s25l s25c]) ∧ let w26 : World := w14.alloc (.cells #[.int .i64 x22, .int .i64 x23, .int .i64 x24, .slice s25a s25l s25c] 41)
  runV Try.prog (Builtin.append_ #[33, 33] 33 #[.slice out3a out3l out3c, .slice (some (⟨w14.heap.size, 0, none⟩ : Addr)) 1 1]) w26 (fun r27 w28 => ∃ s29a : Option Addr, ∃ s29l : Nat, ∃ s29c : Nat, r27 = .slice s29a s29l s29c ∧ X s29a s29l s29c (IntKind.wrap .i64 ((i4 : Int) + 1)) w28) Kp) else (X out3a out3l out3c (IntKind.wrap .i64 ((i4 : Int) + 1)) w14)) else (Kn out3a out3l out3c w14)) Kp

def T_ref04_Net_Under_1 (out3a : Option Addr) (out3l : Nat) (out3c : Nat) (i4 : Int) (n5 : Option Addr) (w : World) (Kn : Option Addr → Nat → Nat → World → Prop) (Kp : List PanicEntry → World → Prop) : Prop :=
  ∀ X : Option Addr → Nat → Nat → Int → World → Prop, (∀ (out3a : Option Addr) (out3l : Nat) (out3c : Nat) (i4 : Int) (w : World), T_ref04_Net_Under_1_body X out3a out3l out3c i4 n5 w Kn Kp → X out3a out3l out3c i4 w) → X out3a out3l out3c i4 w

def T_ref04_Net_Under_1_outs : Exit → Option (List (Nat × Value)) := fun x => match x with | .normal => some [(3, .slice none 0 0)] | .panic _ => some [] | _ => none

def T_ref04_Net_Under_1_ks : Nat → Bool := ksOf [3, 4, 6, 7, 8, 9, 10, 11, 12, 13, 14, 15, 16, 17, 18, 19, 20, 21, 22, 23, 24, 25, 26, 27, 28, 29, 30, 31, 32, 33, 34, 35, 36, 37, 38]

def H_ref04_Net_Under_1 : Env → World → QT → Prop := unitHook 40 T_ref04_Net_Under_1_ks [(3, .slice none 0 0), (4, .int .i64 0), (0, .pointer none)] T_ref04_Net_Under_1_outs fun l w C => match l with | [v0, v1, v2] => T_ref04_Net_Under_1 (pA v0) (pL v0) (pC v0) (pInt v1) (pPtr v2) w (fun out31a out31l out31c w => C .normal [.slice out31a out31l out31c] w) (fun ch w => C (.panic ch) [] w) | _ => False

theorem T_ref04_Net_Under_1_hl : allP (hokL Try.prog (hookAt [(464, H_ref04_Net_Under_2)]) (at_ (bodyOf Try.f31) [1, 1, 0, 1, 0, 0]) 116) = (UnitOk Try.prog H_ref04_Net_Under_2 (at_ (bodyOf Try.f31) [1, 1, 0, 1, 0, 0, 0, 0]) 464 ∧ True) := by kernel_rfl
theorem T_ref04_Net_Under_1_hok : HOk Try.prog (hookAt [(464, H_ref04_Net_Under_2)]) (at_ (bodyOf Try.f31) [1, 1, 0, 1, 0, 0]) 116 := HOk_of _ _ (by rw [T_ref04_Net_Under_1_hl]; exact ⟨T_ref04_Net_Under_2_ok, trivial⟩)

theorem T_ref04_Net_Under_1_eq (C : Conts) (X : List Value → World → Prop) (out3a : Option Addr) (out3l : Nat) (out3c : Nat) (i4 : Int) (n5 : Option Addr) (w : World) : vcCode Try.prog (hookAt [(464, H_ref04_Net_Under_2)]) (at_ (bodyOf Try.f31) [1, 1, 0, 1, 0, 0]) 116 ⟨[(3, .slice out3a out3l out3c), (4, .int .i64 i4)] ++ [(0, .pointer n5)], 40, []⟩ w (seqQ (fun e w => takeAll e [(3, .slice none 0 0), (4, .int .i64 0)] fun l => X l w) (blockQ 0 (unitQ T_ref04_Net_Under_1_outs C))) = T_ref04_Net_Under_1_body (fun out3a out3l out3c i4 w => X [.slice out3a out3l out3c, .int .i64 i4] w) out3a out3l out3c i4 n5 w (fun out32a out32l out32c w => C .normal [.slice out32a out32l out32c] w) (fun ch w => C (.panic ch) [] w) := by kernel_rfl

theorem T_ref04_Net_Under_1_ok : UnitOk Try.prog H_ref04_Net_Under_1 (at_ (bodyOf Try.f31) [1, 1, 0, 1]) 29 := by
  have hc : at_ (bodyOf Try.f31) [1, 1, 0, 1] = .block 0 (.loop (at_ (bodyOf Try.f31) [1, 1, 0, 1, 0, 0])) := by kernel_rfl
  rw [hc]
  refine loop_unit_ok (carr := [(3, .slice none 0 0), (4, .int .i64 0)]) (fix := [(0, .pointer none)]) (ks := T_ref04_Net_Under_1_ks) (H := (hookAt [(464, H_ref04_Net_Under_2)])) (B := fun C X l u w => match l, u with | [v0, v1], [v2] => T_ref04_Net_Under_1_body (fun out3a out3l out3c i4 w => X [.slice out3a out3l out3c, .int .i64 i4] w) (pA v0) (pL v0) (pC v0) (pInt v1) (pPtr v2) w (fun out33a out33l out33c w => C .normal [.slice out33a out33l out33c] w) (fun ch w => C (.panic ch) [] w) | _, _ => False) (by kernel_rfl) (by kernel_rfl) T_ref04_Net_Under_1_hok ?_ ?_
  · intro C X l u w hl hu
    obtain ⟨v0, l_v0, rfl, k_v0, hl_v0⟩ := Kinds.cons_ hl
    obtain ⟨out3a, out3l, out3c, rfl⟩ := kind_slice k_v0
    obtain ⟨v1, l_v1, rfl, k_v1, hl_v1⟩ := Kinds.cons_ hl_v0
    obtain ⟨i4, rfl⟩ := kind_int k_v1
    obtain rfl := Kinds.nil_ hl_v1
    obtain ⟨v2, l_v2, rfl, k_v2, hu_v2⟩ := Kinds.cons_ hu
    obtain ⟨n5, rfl⟩ := kind_pointer k_v2
    obtain rfl := Kinds.nil_ hu_v2
    exact T_ref04_Net_Under_1_eq C X out3a out3l out3c i4 n5 w
  · intro l u w C hl hu
    obtain ⟨v0, l_v0, rfl, k_v0, hl_v0⟩ := Kinds.cons_ hl
    obtain ⟨out3a, out3l, out3c, rfl⟩ := kind_slice k_v0
    obtain ⟨v1, l_v1, rfl, k_v1, hl_v1⟩ := Kinds.cons_ hl_v0
    obtain ⟨i4, rfl⟩ := kind_int k_v1
    obtain rfl := Kinds.nil_ hl_v1
    obtain ⟨v2, l_v2, rfl, k_v2, hu_v2⟩ := Kinds.cons_ hu
    obtain ⟨n5, rfl⟩ := kind_pointer k_v2
    obtain rfl := Kinds.nil_ hu_v2
    constructor
    · intro h X hX
      exact h (fun out3a out3l out3c i4 w => X [.slice out3a out3l out3c, .int .i64 i4] w) (fun out3a out3l out3c i4 w hb => hX [.slice out3a out3l out3c, .int .i64 i4] w ⟨rfl, rfl, trivial⟩ hb)
    · intro h X hX
      exact h (fun l w => match l with | [v0, v1] => X (pA v0) (pL v0) (pC v0) (pInt v1) w | _ => True) (fun l w hl hb => by
        obtain ⟨v0, l_v0, rfl, k_v0, hl_v0⟩ := Kinds.cons_ hl
        obtain ⟨out3a, out3l, out3c, rfl⟩ := kind_slice k_v0
        obtain ⟨v1, l_v1, rfl, k_v1, hl_v1⟩ := Kinds.cons_ hl_v0
        obtain ⟨i4, rfl⟩ := kind_int k_v1
        obtain rfl := Kinds.nil_ hl_v1
        exact hX out3a out3l out3c i4 w hb)

def T_ref04_Net_Under (n1 : Option Addr) (w : World) (R : Ending → World → Prop) : Prop :=
  let w2 : World := w.alloc (.cells #[] 41)
  T_ref04_Net_Under_1 (some (⟨w.heap.size, 0, none⟩ : Addr)) 0 0 0 n1 w2 (fun out34a out34l out34c w35 => R (.returned (.slice out34a out34l out34c)) w35) (pan R)

theorem T_ref04_Net_Under_hl : allP (hokL Try.prog (hookAt [(29, H_ref04_Net_Under_1)]) (bodyOf Try.f31) 1) = (UnitOk Try.prog H_ref04_Net_Under_1 (at_ (bodyOf Try.f31) [1, 1, 0, 1]) 29 ∧ True) := by kernel_rfl

theorem T_ref04_Net_Under_eq (n1 : Option Addr) (w : World) (R : Ending → World → Prop) : vcCode Try.prog (hookAt [(29, H_ref04_Net_Under_1)]) (bodyOf Try.f31) 1 ⟨argEnv [.pointer n1] 0, Try.f31.ntmps, []⟩ w (finQ Try.prog Try.f31.results.toList R) = T_ref04_Net_Under n1 w R := by kernel_rfl

theorem T_ref04_Net_Under_b : Try.f31.body = some (bodyOf Try.f31) := by kernel_rfl
theorem T_ref04_Net_Under_s : (quietSel (bodyOf Try.f31) && Nat.ble 1 Try.f31.ntmps) = true := by kernel_rfl

theorem C_ref04_Net_Under {n1 : Option Addr} {w : World} {R : Ending → World → Prop} (h : T_ref04_Net_Under n1 w R) : Calls Try.prog 31 #[.pointer n1] w R :=
  calls_of_text (args := [.pointer n1]) mixed Try.func31 T_ref04_Net_Under_b T_ref04_Net_Under_s (HOk_of _ _ (by rw [T_ref04_Net_Under_hl]; exact ⟨T_ref04_Net_Under_1_ok, trivial⟩)) (by rw [T_ref04_Net_Under_eq]; exact h)

/-! tollgate/tollgateref04.New -/
def T_ref04_New  (w : World) (R : Ending → World → Prop) : Prop :=
  let w1 : World := w.alloc (.cells #[.slice none 0 0, .bool false, .bool false, .bool false, .bool false, .bool false, .bool false, .bool false, .bool false, .bool false, .bool false, .bool false, .bool false, .bool false, .bool false, .bool false, .bool false, .bool false, .bool false, .bool false, .bool false, .bool false, .bool false, .bool false, .bool false, .bool false, .bool false, .bool false, .bool false, .bool false, .bool false, .bool false, .bool false, .bool false, .bool false, .bool false, .bool false, .bool false, .bool false, .bool false, .bool false, .bool false, .bool false, .bool false, .bool false, .bool false, .bool false, .bool false, .bool false, .bool false, .bool false, .bool false, .bool false, .bool false, .bool false, .bool false, .bool false, .bool false, .bool false, .bool false, .bool false, .bool false, .bool false, .bool false, .bool false, .bool false, .bool false, .bool false, .bool false, .bool false, .bool false, .bool false, .bool false, .bool false, .bool false, .bool false, .bool false, .bool false, .bool false, .bool false, .bool false, .bool false, .bool false, .bool false, .bool false, .bool false, .bool false, .bool false, .bool false, .bool false, .bool false, .bool false, .bool false, .bool false, .bool false, .bool false, .bool false, .bool false, .bool false, .bool false, .bool false, .int .i64 0, .int .i64 0, .int .i64 0, .int .i64 0, .int .i64 0, .int .i64 0, .int .i64 0, .int .i64 0, .int .i64 0, .int .i64 0] 77)
  R (.returned (.pointer (some (⟨w.heap.size, 0, none⟩ : Addr)))) w1

theorem T_ref04_New_hl : allP (hokL Try.prog (hookAt []) (bodyOf Try.f32) 1) = (True) := by kernel_rfl

theorem T_ref04_New_eq  (w : World) (R : Ending → World → Prop) : vcCode Try.prog (hookAt []) (bodyOf Try.f32) 1 ⟨argEnv [] 0, Try.f32.ntmps, []⟩ w (finQ Try.prog Try.f32.results.toList R) = T_ref04_New  w R := by kernel_rfl

theorem T_ref04_New_b : Try.f32.body = some (bodyOf Try.f32) := by kernel_rfl
theorem T_ref04_New_s : (quietSel (bodyOf Try.f32) && Nat.ble 0 Try.f32.ntmps) = true := by kernel_rfl

theorem C_ref04_New  {w : World} {R : Ending → World → Prop} (h : T_ref04_New  w R) : Calls Try.prog 32 #[] w R :=
  calls_of_text (args := []) mixed Try.func32 T_ref04_New_b T_ref04_New_s (HOk_of _ _ (by rw [T_ref04_New_hl]; exact trivial)) (by rw [T_ref04_New_eq]; exact h)

/-! (*tollgate/tollgateref04.Net).Fork -/
def T_ref04_Net_Fork (n1 : Option Addr) (w : World) (R : Ending → World → Prop) : Prop :=
  if n1.isNone = true then (R (.returned (.pointer none)) w) else (∃ a2, n1 = some a2 ∧ ∃ xs3 : Array Value, xs3.size = 111 ∧ rd w a2 (.agg xs3) ∧ let w4 : World := w.alloc (.cells (zc Try.prog 77) 77)
  (.agg xs3 : Value).cells.size = 111 ∧ wrOk w4 (⟨w.heap.size, 0, none⟩ : Addr) (.agg xs3) ∧ let w5 : World := wr w4 (⟨w.heap.size, 0, none⟩ : Addr) (.agg xs3)
  let w6 : World := w5.alloc (.cells #[] 73)
  ∃ a7, n1 = some a7 ∧ ∃ s8a : Option Addr, ∃ s8l : Nat, ∃ s8c : Nat, rd w6 a7 (.slice s8a s8l s8c) ∧ runV Try.prog (Builtin.append_ #[74, 74] 74 #[.slice (some (⟨w5.heap.size, 0, none⟩ : Addr)) 0 0, .slice s8a s8l s8c]) w6 (fun r9 w10 => ∃ s11a : Option Addr, ∃ s11l : Nat, ∃ s11c : Nat, r9 = .slice s11a s11l s11c ∧ (.slice s11a s11l s11c : Value).cells.size = 1 ∧ wrOk w10 (⟨w.heap.size, 0, none⟩ : Addr) (.slice s11a s11l s11c) ∧ let w12 : World := wr w10 (⟨w.heap.size, 0, none⟩ : Addr) (.slice s11a s11l s11c)
  R (.returned (.pointer (some (⟨w.heap.size, 0, none⟩ : Addr)))) w12) (pan R))

theorem T_ref04_Net_Fork_hl : allP (hokL Try.prog (hookAt []) (bodyOf Try.f36) 1) = (True) := by kernel_rfl

theorem T_ref04_Net_Fork_eq (n1 : Option Addr) (w : World) (R : Ending → World → Prop) : vcCode Try.prog (hookAt []) (bodyOf Try.f36) 1 ⟨argEnv [.pointer n1] 0, Try.f36.ntmps, []⟩ w (finQ Try.prog Try.f36.results.toList R) = T_ref04_Net_Fork n1 w R := by kernel_rfl

theorem T_ref04_Net_Fork_b : Try.f36.body = some (bodyOf Try.f36) := by kernel_rfl
theorem T_ref04_Net_Fork_s : (quietSel (bodyOf Try.f36) && Nat.ble 1 Try.f36.ntmps) = true := by kernel_rfl

theorem C_ref04_Net_Fork {n1 : Option Addr} {w : World} {R : Ending → World → Prop} (h : T_ref04_Net_Fork n1 w R) : Calls Try.prog 36 #[.pointer n1] w R :=
  calls_of_text (args := [.pointer n1]) mixed Try.func36 T_ref04_Net_Fork_b T_ref04_Net_Fork_s (HOk_of _ _ (by rw [T_ref04_Net_Fork_hl]; exact trivial)) (by rw [T_ref04_Net_Fork_eq]; exact h)

/-! (*tollgate/tollgateref04.Net).place -/
def T_ref04_Net_place_1_body (X : Int → Int → World → Prop) (k3 : Int) (j4 : Int) (n5 : Option Addr) (i6 : Int) (w : World) (Kn : World → Prop) (Kr : Int → World → Prop) (Kp : List PanicEntry → World → Prop)  : Prop :=
  ∃ a7, n5 = some a7 ∧ ∃ s8a : Option Addr, ∃ s8l : Nat, ∃ s8c : Nat, rd w a7 (.slice s8a s8l s8c) ∧ if (decide ((j4 : Int) < ((s8l : Nat) : Int))) = true then (∃ a9, n5 = some a9 ∧ ∃ s10a : Option Addr, ∃ s10l : Nat, ∃ s10c : Nat, rd w a9 (.slice s10a s10l s10c) ∧ 0 ≤ (j4 : Int) ∧ (j4 : Int) < ((s10l : Nat) : Int) ∧ ∃ b11, s10a = some b11 ∧ ∃ b12 : Bool, rd w ((b11.add ((j4 : Int).toNat * 5)).add 4) (.bool b12) ∧ if b12 = true then (X k3 (IntKind.wrap .i64 ((j4 : Int) + 1)) w) else (if ((k3 : Int) == i6) = true then (Kr j4 w) else (X (IntKind.wrap .i64 ((k3 : Int) + 1)) (IntKind.wrap .i64 ((j4 : Int) + 1)) w))) else (Kn  w)

def T_ref04_Net_place_1 (k3 : Int) (j4 : Int) (n5 : Option Addr) (i6 : Int) (w : World) (Kn : World → Prop) (Kr : Int → World → Prop) (Kp : List PanicEntry → World → Prop) : Prop :=
  ∀ X : Int → Int → World → Prop, (∀ (k3 : Int) (j4 : Int) (w : World), T_ref04_Net_place_1_body X k3 j4 n5 i6 w Kn Kr Kp → X k3 j4 w) → X k3 j4 w

def T_ref04_Net_place_1_outs : Exit → Option (List (Nat × Value)) := fun x => match x with | .normal => some [] | .ret => some [(4, .int .i64 0)] | .panic _ => some [] | _ => none

def T_ref04_Net_place_1_ks : Nat → Bool := ksOf [4, 5, 6, 7, 8, 9, 10, 11, 12, 13, 14, 15, 16, 17, 18, 19, 20, 21, 22, 23, 24, 25, 26, 27, 28, 29]

def H_ref04_Net_place_1 : Env → World → QT → Prop := unitHook 30 T_ref04_Net_place_1_ks [(5, .int .i64 0), (6, .int .i64 0), (0, .pointer none), (1, .int .i64 0)] T_ref04_Net_place_1_outs fun l w C => match l with | [v0, v1, v2, v3] => T_ref04_Net_place_1 (pInt v0) (pInt v1) (pPtr v2) (pInt v3) w (fun w => C .normal [] w) (fun x14 w => C .ret [.int .i64 x14] w) (fun ch w => C (.panic ch) [] w) | _ => False

theorem T_ref04_Net_place_1_hl : allP (hokL Try.prog (hookAt []) (at_ (bodyOf Try.f45) [1, 1, 0, 1, 0, 0]) 116) = (True) := by kernel_rfl
theorem T_ref04_Net_place_1_hok : HOk Try.prog (hookAt []) (at_ (bodyOf Try.f45) [1, 1, 0, 1, 0, 0]) 116 := HOk_of _ _ (by rw [T_ref04_Net_place_1_hl]; exact trivial)

theorem T_ref04_Net_place_1_eq (C : Conts) (X : List Value → World → Prop) (k3 : Int) (j4 : Int) (n5 : Option Addr) (i6 : Int) (w : World) : vcCode Try.prog (hookAt []) (at_ (bodyOf Try.f45) [1, 1, 0, 1, 0, 0]) 116 ⟨[(5, .int .i64 k3), (6, .int .i64 j4)] ++ [(0, .pointer n5), (1, .int .i64 i6)], 30, []⟩ w (seqQ (fun e w => takeAll e [(5, .int .i64 0), (6, .int .i64 0)] fun l => X l w) (blockQ 0 (unitQ T_ref04_Net_place_1_outs C))) = T_ref04_Net_place_1_body (fun k3 j4 w => X [.int .i64 k3, .int .i64 j4] w) k3 j4 n5 i6 w (fun w => C .normal [] w) (fun x15 w => C .ret [.int .i64 x15] w) (fun ch w => C (.panic ch) [] w) := by kernel_rfl

theorem T_ref04_Net_place_1_ok : UnitOk Try.prog H_ref04_Net_place_1 (at_ (bodyOf Try.f45) [1, 1, 0, 1]) 29 := by
  have hc : at_ (bodyOf Try.f45) [1, 1, 0, 1] = .block 0 (.loop (at_ (bodyOf Try.f45) [1, 1, 0, 1, 0, 0])) := by kernel_rfl
  rw [hc]
  refine loop_unit_ok (carr := [(5, .int .i64 0), (6, .int .i64 0)]) (fix := [(0, .pointer none), (1, .int .i64 0)]) (ks := T_ref04_Net_place_1_ks) (H := (hookAt [])) (B := fun C X l u w => match l, u with | [v0, v1], [v2, v3] => T_ref04_Net_place_1_body (fun k3 j4 w => X [.int .i64 k3, .int .i64 j4] w) (pInt v0) (pInt v1) (pPtr v2) (pInt v3) w (fun w => C .normal [] w) (fun x16 w => C .ret [.int .i64 x16] w) (fun ch w => C (.panic ch) [] w) | _, _ => False) (by kernel_rfl) (by kernel_rfl) T_ref04_Net_place_1_hok ?_ ?_
  · intro C X l u w hl hu
    obtain ⟨v0, l_v0, rfl, k_v0, hl_v0⟩ := Kinds.cons_ hl
    obtain ⟨k3, rfl⟩ := kind_int k_v0
    obtain ⟨v1, l_v1, rfl, k_v1, hl_v1⟩ := Kinds.cons_ hl_v0
    obtain ⟨j4, rfl⟩ := kind_int k_v1
    obtain rfl := Kinds.nil_ hl_v1
    obtain ⟨v2, l_v2, rfl, k_v2, hu_v2⟩ := Kinds.cons_ hu
    obtain ⟨n5, rfl⟩ := kind_pointer k_v2
    obtain ⟨v3, l_v3, rfl, k_v3, hu_v3⟩ := Kinds.cons_ hu_v2
    obtain ⟨i6, rfl⟩ := kind_int k_v3
    obtain rfl := Kinds.nil_ hu_v3
    exact T_ref04_Net_place_1_eq C X k3 j4 n5 i6 w
  · intro l u w C hl hu
    obtain ⟨v0, l_v0, rfl, k_v0, hl_v0⟩ := Kinds.cons_ hl
    obtain ⟨k3, rfl⟩ := kind_int k_v0
    obtain ⟨v1, l_v1, rfl, k_v1, hl_v1⟩ := Kinds.cons_ hl_v0
    obtain ⟨j4, rfl⟩ := kind_int k_v1
    obtain rfl := Kinds.nil_ hl_v1
    obtain ⟨v2, l_v2, rfl, k_v2, hu_v2⟩ := Kinds.cons_ hu
    obtain ⟨n5, rfl⟩ := kind_pointer k_v2
    obtain ⟨v3, l_v3, rfl, k_v3, hu_v3⟩ := Kinds.cons_ hu_v2
    obtain ⟨i6, rfl⟩ := kind_int k_v3
    obtain rfl := Kinds.nil_ hu_v3
    constructor
    · intro h X hX
      exact h (fun k3 j4 w => X [.int .i64 k3, .int .i64 j4] w) (fun k3 j4 w hb => hX [.int .i64 k3, .int .i64 j4] w ⟨rfl, rfl, trivial⟩ hb)
    · intro h X hX
      exact h (fun l w => match l with | [v0, v1] => X (pInt v0) (pInt v1) w | _ => True) (fun l w hl hb => by
        obtain ⟨v0, l_v0, rfl, k_v0, hl_v0⟩ := Kinds.cons_ hl
        obtain ⟨k3, rfl⟩ := kind_int k_v0
        obtain ⟨v1, l_v1, rfl, k_v1, hl_v1⟩ := Kinds.cons_ hl_v0
        obtain ⟨j4, rfl⟩ := kind_int k_v1
        obtain rfl := Kinds.nil_ hl_v1
        exact hX k3 j4 w hb)

def T_ref04_Net_place (n1 : Option Addr) (i2 : Int) (w : World) (R : Ending → World → Prop) : Prop :=
  T_ref04_Net_place_1 0 0 n1 i2 w (fun w17 => R (.returned (.int .i64 (-1))) w17) (fun x18 w19 => R (.returned (.int .i64 x18)) w19) (pan R)

theorem T_ref04_Net_place_hl : allP (hokL Try.prog (hookAt [(29, H_ref04_Net_place_1)]) (bodyOf Try.f45) 1) = (UnitOk Try.prog H_ref04_Net_place_1 (at_ (bodyOf Try.f45) [1, 1, 0, 1]) 29 ∧ True) := by kernel_rfl

theorem T_ref04_Net_place_eq (n1 : Option Addr) (i2 : Int) (w : World) (R : Ending → World → Prop) : vcCode Try.prog (hookAt [(29, H_ref04_Net_place_1)]) (bodyOf Try.f45) 1 ⟨argEnv [.pointer n1, .int .i64 i2] 0, Try.f45.ntmps, []⟩ w (finQ Try.prog Try.f45.results.toList R) = T_ref04_Net_place n1 i2 w R := by kernel_rfl

theorem T_ref04_Net_place_b : Try.f45.body = some (bodyOf Try.f45) := by kernel_rfl
theorem T_ref04_Net_place_s : (quietSel (bodyOf Try.f45) && Nat.ble 2 Try.f45.ntmps) = true := by kernel_rfl

theorem C_ref04_Net_place {n1 : Option Addr} {i2 : Int} {w : World} {R : Ending → World → Prop} (h : T_ref04_Net_place n1 i2 w R) : Calls Try.prog 45 #[.pointer n1, .int .i64 i2] w R :=
  calls_of_text (args := [.pointer n1, .int .i64 i2]) mixed Try.func45 T_ref04_Net_place_b T_ref04_Net_place_s (HOk_of _ _ (by rw [T_ref04_Net_place_hl]; exact ⟨T_ref04_Net_place_1_ok, trivial⟩)) (by rw [T_ref04_Net_place_eq]; exact h)

/-! (*tollgate/tollgateref04.Net).add -/
def T_ref04_Net_add (n1 : Option Addr) (from2 : Int) (to3 : Int) (b4a : Option Addr) (b4l : Nat) (b4c : Nat) (w : World) (R : Ending → World → Prop) : Prop :=
  let w5 : World := w.drew
  ∃ a6, n1 = some a6 ∧ ∃ s7a : Option Addr, ∃ s7l : Nat, ∃ s7c : Nat, rd w5 a6 (.slice s7a s7l s7c) ∧ (let w8 : World := w5.alloc (.cells #[] 5)
  (rd w8 a6 (.slice s7a s7l s7c) ∧ True) ∧ (runV Try.prog (Builtin.append_ #[36, 36] 36 #[.slice (some (⟨w5.heap.size, 0, none⟩ : Addr)) 0 0, .slice b4a b4l b4c]) w8 (fun r9 w10 => ∃ s11a : Option Addr, ∃ s11l : Nat, ∃ s11c : Nat, r9 = .slice s11a s11l s11c ∧ (rd w10 a6 (.slice s7a s7l s7c) ∧ True) ∧ let w12 : World := w10.alloc (.cells #[.int .i64 0, .int .i64 0, .int .i64 0, .slice none 0 0] 41)
  (rd w12 a6 (.slice s7a s7l s7c) ∧ True) ∧ (.agg #[.int .i64 (IntKind.wrap .i64 (((s7l : Nat) : Int) + 1)), .int .i64 from2, .int .i64 to3, .slice s11a s11l s11c] : Value).cells.size = 4 ∧ wrOk w12 (⟨w10.heap.size, 0, none⟩ : Addr) (.agg #[.int .i64 (IntKind.wrap .i64 (((s7l : Nat) : Int) + 1)), .int .i64 from2, .int .i64 to3, .slice s11a s11l s11c]) ∧ let w13 : World := wr w12 (⟨w10.heap.size, 0, none⟩ : Addr) (.agg #[.int .i64 (IntKind.wrap .i64 (((s7l : Nat) : Int) + 1)), .int .i64 from2, .int .i64 to3, .slice s11a s11l s11c])
  (True) ∧ let w14 : World := w13.drew
  ∃ a15, n1 = some a15 ∧ ∃ s16a : Option Addr, ∃ s16l : Nat, ∃ s16c : Nat, rd w14 a15 (.slice s16a s16l s16c) ∧ ∃ x17 : Int, ∃ x18 : Int, ∃ x19 : Int, ∃ s20a : Option Addr, ∃ s20l : Nat, ∃ s20c : Nat, rd w14 (⟨w10.heap.size, 0, none⟩ : Addr) (.agg #[.int .i64 x17, .int .i64 x18, .int .i64 x19, .slice s20a s20l s20c]) ∧ let w21 : World := w14.alloc (.cells #[.int .i64 x17, .int .i64 x18, .int .i64 x19, .slice s20a s20l s20c, .bool false] 73)
  (rd w21 a15 (.slice s16a s16l s16c) ∧ True) ∧ runV Try.prog (Builtin.append_ #[74, 74] 74 #[.slice s16a s16l s16c, .slice (some (⟨w14.heap.size, 0, none⟩ : Addr)) 1 1]) w21 (fun r22 w23 => ∃ s24a : Option Addr, ∃ s24l : Nat, ∃ s24c : Nat, r22 = .slice s24a s24l s24c ∧ (True) ∧ ∃ a25, n1 = some a25 ∧ (.slice s24a s24l s24c : Value).cells.size = 1 ∧ wrOk w23 a25 (.slice s24a s24l s24c) ∧ let w26 : World := wr w23 a25 (.slice s24a s24l s24c)
  (True) ∧ ∃ x27 : Int, rd w26 (⟨w10.heap.size, 0, none⟩ : Addr) (.int .i64 x27) ∧ R (.returned (.int .i64 x27)) w26) (pan R)) (pan R)) ∧ (let w28 : World := w8.alloc (.cells #[.int .i64 0, .int .i64 0, .int .i64 0, .slice none 0 0] 41)
  (rd w28 a6 (.slice s7a s7l s7c) ∧ True) ∧ runV Try.prog (Builtin.append_ #[36, 36] 36 #[.slice (some (⟨w5.heap.size, 0, none⟩ : Addr)) 0 0, .slice b4a b4l b4c]) w28 (fun r29 w30 => ∃ s31a : Option Addr, ∃ s31l : Nat, ∃ s31c : Nat, r29 = .slice s31a s31l s31c ∧ (rd w30 a6 (.slice s7a s7l s7c) ∧ True) ∧ (.agg #[.int .i64 (IntKind.wrap .i64 (((s7l : Nat) : Int) + 1)), .int .i64 from2, .int .i64 to3, .slice s31a s31l s31c] : Value).cells.size = 4 ∧ wrOk w30 (⟨w8.heap.size, 0, none⟩ : Addr) (.agg #[.int .i64 (IntKind.wrap .i64 (((s7l : Nat) : Int) + 1)), .int .i64 from2, .int .i64 to3, .slice s31a s31l s31c]) ∧ let w32 : World := wr w30 (⟨w8.heap.size, 0, none⟩ : Addr) (.agg #[.int .i64 (IntKind.wrap .i64 (((s7l : Nat) : Int) + 1)), .int .i64 from2, .int .i64 to3, .slice s31a s31l s31c])
  (True) ∧ let w33 : World := w32.drew
  ∃ a34, n1 = some a34 ∧ ∃ s35a : Option Addr, ∃ s35l : Nat, ∃ s35c : Nat, rd w33 a34 (.slice s35a s35l s35c) ∧ ∃ x36 : Int, ∃ x37 : Int, ∃ x38 : Int, ∃ s39a : Option Addr, ∃ s39l : Nat, ∃ s39c : Nat, rd w33 (⟨w8.heap.size, 0, none⟩ : Addr) (.agg #[.int .i64 x36, .int .i64 x37, .int .i64 x38, .slice s39a s39l s39c]) ∧ let w40 : World := w33.alloc (.cells #[.int .i64 x36, .int .i64 x37, .int .i64 x38, .slice s39a s39l s39c, .bool false] 73)
  (rd w40 a34 (.slice s35a s35l s35c) ∧ True) ∧ runV Try.prog (Builtin.append_ #[74, 74] 74 #[.slice s35a s35l s35c, .slice (some (⟨w33.heap.size, 0, none⟩ : Addr)) 1 1]) w40 (fun r41 w42 => ∃ s43a : Option Addr, ∃ s43l : Nat, ∃ s43c : Nat, r41 = .slice s43a s43l s43c ∧ (True) ∧ ∃ a44, n1 = some a44 ∧ (.slice s43a s43l s43c : Value).cells.size = 1 ∧ wrOk w42 a44 (.slice s43a s43l s43c) ∧ let w45 : World := wr w42 a44 (.slice s43a s43l s43c)
  (True) ∧ ∃ x46 : Int, rd w45 (⟨w8.heap.size, 0, none⟩ : Addr) (.int .i64 x46) ∧ R (.returned (.int .i64 x46)) w45) (pan R)) (pan R))) ∧ (let w47 : World := w5.alloc (.cells #[.int .i64 0, .int .i64 0, .int .i64 0, .slice none 0 0] 41)
  (rd w47 a6 (.slice s7a s7l s7c) ∧ True) ∧ let w48 : World := w47.alloc (.cells #[] 5)
  (rd w48 a6 (.slice s7a s7l s7c) ∧ True) ∧ runV Try.prog (Builtin.append_ #[36, 36] 36 #[.slice (some (⟨w47.heap.size, 0, none⟩ : Addr)) 0 0, .slice b4a b4l b4c]) w48 (fun r49 w50 => ∃ s51a : Option Addr, ∃ s51l : Nat, ∃ s51c : Nat, r49 = .slice s51a s51l s51c ∧ (rd w50 a6 (.slice s7a s7l s7c) ∧ True) ∧ (.agg #[.int .i64 (IntKind.wrap .i64 (((s7l : Nat) : Int) + 1)), .int .i64 from2, .int .i64 to3, .slice s51a s51l s51c] : Value).cells.size = 4 ∧ wrOk w50 (⟨w5.heap.size, 0, none⟩ : Addr) (.agg #[.int .i64 (IntKind.wrap .i64 (((s7l : Nat) : Int) + 1)), .int .i64 from2, .int .i64 to3, .slice s51a s51l s51c]) ∧ let w52 : World := wr w50 (⟨w5.heap.size, 0, none⟩ : Addr) (.agg #[.int .i64 (IntKind.wrap .i64 (((s7l : Nat) : Int) + 1)), .int .i64 from2, .int .i64 to3, .slice s51a s51l s51c])
  (True) ∧ let w53 : World := w52.drew
  ∃ a54, n1 = some a54 ∧ ∃ s55a : Option Addr, ∃ s55l : Nat, ∃ s55c : Nat, rd w53 a54 (.slice s55a s55l s55c) ∧ ∃ x56 : Int, ∃ x57 : Int, ∃ x58 : Int, ∃ s59a : Option Addr, ∃ s59l : Nat, ∃ s59c : Nat, rd w53 (⟨w5.heap.size, 0, none⟩ : Addr) (.agg #[.int .i64 x56, .int .i64 x57, .int .i64 x58, .slice s59a s59l s59c]) ∧ let w60 : World := w53.alloc (.cells #[.int .i64 x56, .int .i64 x57, .int .i64 x58, .slice s59a s59l s59c, .bool false] 73)
  (rd w60 a54 (.slice s55a s55l s55c) ∧ True) ∧ runV Try.prog (Builtin.append_ #[74, 74] 74 #[.slice s55a s55l s55c, .slice (some (⟨w53.heap.size, 0, none⟩ : Addr)) 1 1]) w60 (fun r61 w62 => ∃ s63a : Option Addr, ∃ s63l : Nat, ∃ s63c : Nat, r61 = .slice s63a s63l s63c ∧ (True) ∧ ∃ a64, n1 = some a64 ∧ (.slice s63a s63l s63c : Value).cells.size = 1 ∧ wrOk w62 a64 (.slice s63a s63l s63c) ∧ let w65 : World := wr w62 a64 (.slice s63a s63l s63c)
  (True) ∧ ∃ x66 : Int, rd w65 (⟨w5.heap.size, 0, none⟩ : Addr) (.int .i64 x66) ∧ R (.returned (.int .i64 x66)) w65) (pan R)) (pan R))

theorem T_ref04_Net_add_hl : allP (hokL Try.prog (hookAt []) (bodyOf Try.f46) 1) = (True) := by kernel_rfl

theorem T_ref04_Net_add_eq (n1 : Option Addr) (from2 : Int) (to3 : Int) (b4a : Option Addr) (b4l : Nat) (b4c : Nat) (w : World) (R : Ending → World → Prop) : vcCode Try.prog (hookAt []) (bodyOf Try.f46) 1 ⟨argEnv [.pointer n1, .int .i64 from2, .int .i64 to3, .slice b4a b4l b4c] 0, Try.f46.ntmps, []⟩ w (finQ Try.prog Try.f46.results.toList R) = T_ref04_Net_add n1 from2 to3 b4a b4l b4c w R := by kernel_rfl

theorem T_ref04_Net_add_b : Try.f46.body = some (bodyOf Try.f46) := by kernel_rfl
theorem T_ref04_Net_add_s : (quietSel (bodyOf Try.f46) && Nat.ble 4 Try.f46.ntmps) = true := by kernel_rfl

theorem C_ref04_Net_add {n1 : Option Addr} {from2 : Int} {to3 : Int} {b4a : Option Addr} {b4l : Nat} {b4c : Nat} {w : World} {R : Ending → World → Prop} (h : T_ref04_Net_add n1 from2 to3 b4a b4l b4c w R) : Calls Try.prog 46 #[.pointer n1, .int .i64 from2, .int .i64 to3, .slice b4a b4l b4c] w R :=
  calls_of_text (args := [.pointer n1, .int .i64 from2, .int .i64 to3, .slice b4a b4l b4c]) mixed Try.func46 T_ref04_Net_add_b T_ref04_Net_add_s (HOk_of _ _ (by rw [T_ref04_Net_add_hl]; exact trivial)) (by rw [T_ref04_Net_add_eq]; exact h)

/-! (*tollgate/tollgateref04.Net).Send -/
def T_ref04_Net_Send_1 (n8 : Option Addr) (b9a : Option Addr) (b9l : Nat) (b9c : Nat) (w : World) (Kn : Bool → World → Prop) (Kp : List PanicEntry → World → Prop) : Prop :=
  if (decide (((b9l : Nat) : Int) > 65536)) = true then (Kn true w) else (Calls Try.prog 30 #[.pointer n8] w (ret (fun r10 w11 => ∃ x12 : Int, r10 = .int .i64 x12 ∧ Kn (decide ((x12 : Int) ≥ 128)) w11) Kp))

def T_ref04_Net_Send_1_outs : Exit → Option (List (Nat × Value)) := fun x => match x with | .normal => some [(23, .bool false)] | .panic _ => some [] | _ => none

def T_ref04_Net_Send_1_ks : Nat → Bool := ksOf [16, 17, 18, 19, 20, 21, 22, 23]

def H_ref04_Net_Send_1 : Env → World → QT → Prop := unitHook 38 T_ref04_Net_Send_1_ks [(0, .pointer none), (3, .slice none 0 0)] T_ref04_Net_Send_1_outs fun l w C => match l with | [v0, v1] => T_ref04_Net_Send_1 (pPtr v0) (pA v1) (pL v1) (pC v1) w (fun b14 w => C .normal [.bool b14] w) (fun ch w => C (.panic ch) [] w) | _ => False

theorem T_ref04_Net_Send_1_hl : allP (hokL Try.prog (hookAt []) (at_ (bodyOf Try.f47) [1, 1, 1, 0, 0]) 60) = (True) := by kernel_rfl
theorem T_ref04_Net_Send_1_hok : HOk Try.prog (hookAt []) (at_ (bodyOf Try.f47) [1, 1, 1, 0, 0]) 60 := HOk_of _ _ (by rw [T_ref04_Net_Send_1_hl]; exact trivial)

theorem T_ref04_Net_Send_1_eq (C : Conts) (n8 : Option Addr) (b9a : Option Addr) (b9l : Nat) (b9c : Nat) (w : World) : vcCode Try.prog (hookAt []) (at_ (bodyOf Try.f47) [1, 1, 1, 0, 0]) 60 ⟨[(0, .pointer n8), (3, .slice b9a b9l b9c)], 38, []⟩ w (unitQ T_ref04_Net_Send_1_outs C) = T_ref04_Net_Send_1 n8 b9a b9l b9c w (fun b15 w => C .normal [.bool b15] w) (fun ch w => C (.panic ch) [] w) := by kernel_rfl

theorem T_ref04_Net_Send_1_ok : UnitOk Try.prog H_ref04_Net_Send_1 (at_ (bodyOf Try.f47) [1, 1, 1, 0, 0]) 60 := unit_ok (H := (hookAt [])) (by kernel_rfl) T_ref04_Net_Send_1_hok fun l w C hk => by
    obtain ⟨v0, l_v0, rfl, k_v0, hk_v0⟩ := Kinds.cons_ hk
    obtain ⟨n8, rfl⟩ := kind_pointer k_v0
    obtain ⟨v1, l_v1, rfl, k_v1, hk_v1⟩ := Kinds.cons_ hk_v0
    obtain ⟨b9a, b9l, b9c, rfl⟩ := kind_slice k_v1
    obtain rfl := Kinds.nil_ hk_v1
    exact T_ref04_Net_Send_1_eq C n8 b9a b9l b9c w

def T_ref04_Net_Send (n1 : Option Addr) (from2 : Int) (to3 : Int) (b4a : Option Addr) (b4l : Nat) (b4c : Nat) (w : World) (R : Ending → World → Prop) : Prop :=
  if n1.isNone = true then (R (.returned (.tuple #[.int .i64 0, .int .i64 1])) w) else (Calls Try.prog 55 #[.int .i64 from2, .int .i64 to3] w (ret (fun r5 w6 => ∃ b7 : Bool, r5 = .bool b7 ∧ if (!b7) = true then (R (.returned (.tuple #[.int .i64 0, .int .i64 2])) w6) else (T_ref04_Net_Send_1 n1 b4a b4l b4c w6 (fun b16 w17 => if b16 = true then (R (.returned (.tuple #[.int .i64 0, .int .i64 6])) w17) else (∃ a18, n1 = some a18 ∧ 0 ≤ (IntKind.wrap .i64 ((IntKind.wrap .i64 ((10 : Int) * from2) : Int) + to3) : Int) ∧ (IntKind.wrap .i64 ((IntKind.wrap .i64 ((10 : Int) * from2) : Int) + to3) : Int) < 100 ∧ ∃ b19 : Bool, rd w17 ((a18.add 1).add ((IntKind.wrap .i64 ((IntKind.wrap .i64 ((10 : Int) * from2) : Int) + to3) : Int).toNat * 1)) (.bool b19) ∧ if b19 = true then (R (.returned (.tuple #[.int .i64 0, .int .i64 8])) w17) else (Calls Try.prog 46 #[.pointer n1, .int .i64 from2, .int .i64 to3, .slice b4a b4l b4c] w17 (ret (fun r20 w21 => ∃ x22 : Int, r20 = .int .i64 x22 ∧ R (.returned (.tuple #[.int .i64 x22, .int .i64 0])) w21) (pan R))))) (pan R))) (pan R)))

theorem T_ref04_Net_Send_hl : allP (hokL Try.prog (hookAt [(60, H_ref04_Net_Send_1)]) (bodyOf Try.f47) 1) = (UnitOk Try.prog H_ref04_Net_Send_1 (at_ (bodyOf Try.f47) [1, 1, 1, 0, 0]) 60 ∧ True) := by kernel_rfl

theorem T_ref04_Net_Send_eq (n1 : Option Addr) (from2 : Int) (to3 : Int) (b4a : Option Addr) (b4l : Nat) (b4c : Nat) (w : World) (R : Ending → World → Prop) : vcCode Try.prog (hookAt [(60, H_ref04_Net_Send_1)]) (bodyOf Try.f47) 1 ⟨argEnv [.pointer n1, .int .i64 from2, .int .i64 to3, .slice b4a b4l b4c] 0, Try.f47.ntmps, []⟩ w (finQ Try.prog Try.f47.results.toList R) = T_ref04_Net_Send n1 from2 to3 b4a b4l b4c w R := by kernel_rfl

theorem T_ref04_Net_Send_b : Try.f47.body = some (bodyOf Try.f47) := by kernel_rfl
theorem T_ref04_Net_Send_s : (quietSel (bodyOf Try.f47) && Nat.ble 4 Try.f47.ntmps) = true := by kernel_rfl

theorem C_ref04_Net_Send {n1 : Option Addr} {from2 : Int} {to3 : Int} {b4a : Option Addr} {b4l : Nat} {b4c : Nat} {w : World} {R : Ending → World → Prop} (h : T_ref04_Net_Send n1 from2 to3 b4a b4l b4c w R) : Calls Try.prog 47 #[.pointer n1, .int .i64 from2, .int .i64 to3, .slice b4a b4l b4c] w R :=
  calls_of_text (args := [.pointer n1, .int .i64 from2, .int .i64 to3, .slice b4a b4l b4c]) mixed Try.func47 T_ref04_Net_Send_b T_ref04_Net_Send_s (HOk_of _ _ (by rw [T_ref04_Net_Send_hl]; exact ⟨T_ref04_Net_Send_1_ok, trivial⟩)) (by rw [T_ref04_Net_Send_eq]; exact h)

/-! (*tollgate/tollgateref04.Net).Part -/
def T_ref04_Net_Part_2 (n15 : Option Addr) (from16 : Int) (to17 : Int) (j18 : Int) (w : World) (Kn : Bool → World → Prop) (Kp : List PanicEntry → World → Prop) : Prop :=
  ∃ a19, n15 = some a19 ∧ ∃ s20a : Option Addr, ∃ s20l : Nat, ∃ s20c : Nat, rd w a19 (.slice s20a s20l s20c) ∧ 0 ≤ (j18 : Int) ∧ (j18 : Int) < ((s20l : Nat) : Int) ∧ ∃ b21, s20a = some b21 ∧ ∃ x22 : Int, rd w ((b21.add ((j18 : Int).toNat * 5)).add 1) (.int .i64 x22) ∧ if ((x22 : Int) == from16) = true then (∃ a23, n15 = some a23 ∧ ∃ s24a : Option Addr, ∃ s24l : Nat, ∃ s24c : Nat, rd w a23 (.slice s24a s24l s24c) ∧ 0 ≤ (j18 : Int) ∧ (j18 : Int) < ((s24l : Nat) : Int) ∧ ∃ b25, s24a = some b25 ∧ ∃ x26 : Int, rd w ((b25.add ((j18 : Int).toNat * 5)).add 2) (.int .i64 x26) ∧ Kn ((x26 : Int) == to17) w) else (Kn false w)

def T_ref04_Net_Part_2_outs : Exit → Option (List (Nat × Value)) := fun x => match x with | .normal => some [(54, .bool false)] | .panic _ => some [] | _ => none

def T_ref04_Net_Part_2_ks : Nat → Bool := ksOf [31, 32, 33, 34, 35, 36, 37, 38, 39, 40, 41, 42, 43, 44, 45, 46, 47, 48, 49, 50, 51, 52, 53, 54]

def H_ref04_Net_Part_2 : Env → World → QT → Prop := unitHook 62 T_ref04_Net_Part_2_ks [(0, .pointer none), (1, .int .i64 0), (2, .int .i64 0), (7, .int .i64 0)] T_ref04_Net_Part_2_outs fun l w C => match l with | [v0, v1, v2, v3] => T_ref04_Net_Part_2 (pPtr v0) (pInt v1) (pInt v2) (pInt v3) w (fun b28 w => C .normal [.bool b28] w) (fun ch w => C (.panic ch) [] w) | _ => False

theorem T_ref04_Net_Part_2_hl : allP (hokL Try.prog (hookAt []) (at_ (bodyOf Try.f48) [1, 1, 1, 1, 0, 1, 0, 0, 1, 0, 0, 0]) 8008) = (True) := by kernel_rfl
theorem T_ref04_Net_Part_2_hok : HOk Try.prog (hookAt []) (at_ (bodyOf Try.f48) [1, 1, 1, 1, 0, 1, 0, 0, 1, 0, 0, 0]) 8008 := HOk_of _ _ (by rw [T_ref04_Net_Part_2_hl]; exact trivial)

theorem T_ref04_Net_Part_2_eq (C : Conts) (n15 : Option Addr) (from16 : Int) (to17 : Int) (j18 : Int) (w : World) : vcCode Try.prog (hookAt []) (at_ (bodyOf Try.f48) [1, 1, 1, 1, 0, 1, 0, 0, 1, 0, 0, 0]) 8008 ⟨[(0, .pointer n15), (1, .int .i64 from16), (2, .int .i64 to17), (7, .int .i64 j18)], 62, []⟩ w (unitQ T_ref04_Net_Part_2_outs C) = T_ref04_Net_Part_2 n15 from16 to17 j18 w (fun b29 w => C .normal [.bool b29] w) (fun ch w => C (.panic ch) [] w) := by kernel_rfl

theorem T_ref04_Net_Part_2_ok : UnitOk Try.prog H_ref04_Net_Part_2 (at_ (bodyOf Try.f48) [1, 1, 1, 1, 0, 1, 0, 0, 1, 0, 0, 0]) 8008 := unit_ok (H := (hookAt [])) (by kernel_rfl) T_ref04_Net_Part_2_hok fun l w C hk => by
    obtain ⟨v0, l_v0, rfl, k_v0, hk_v0⟩ := Kinds.cons_ hk
    obtain ⟨n15, rfl⟩ := kind_pointer k_v0
    obtain ⟨v1, l_v1, rfl, k_v1, hk_v1⟩ := Kinds.cons_ hk_v0
    obtain ⟨from16, rfl⟩ := kind_int k_v1
    obtain ⟨v2, l_v2, rfl, k_v2, hk_v2⟩ := Kinds.cons_ hk_v1
    obtain ⟨to17, rfl⟩ := kind_int k_v2
    obtain ⟨v3, l_v3, rfl, k_v3, hk_v3⟩ := Kinds.cons_ hk_v2
    obtain ⟨j18, rfl⟩ := kind_int k_v3
    obtain rfl := Kinds.nil_ hk_v3
    exact T_ref04_Net_Part_2_eq C n15 from16 to17 j18 w

def T_ref04_Net_Part_1_body (X : Int → World → Prop) (j9 : Int) (n10 : Option Addr) (from11 : Int) (to12 : Int) (w : World) (Kn : World → Prop) (Kp : List PanicEntry → World → Prop)  : Prop :=
  ∃ a13, n10 = some a13 ∧ ∃ s14a : Option Addr, ∃ s14l : Nat, ∃ s14c : Nat, rd w a13 (.slice s14a s14l s14c) ∧ if (decide ((j9 : Int) < ((s14l : Nat) : Int))) = true then (T_ref04_Net_Part_2 n10 from11 to12 j9 w (fun b30 w31 => if b30 = true then (∃ a32, n10 = some a32 ∧ ∃ s33a : Option Addr, ∃ s33l : Nat, ∃ s33c : Nat, rd w31 a32 (.slice s33a s33l s33c) ∧ 0 ≤ (j9 : Int) ∧ (j9 : Int) < ((s33l : Nat) : Int) ∧ ∃ b34, s33a = some b34 ∧ (.bool true : Value).cells.size = 1 ∧ wrOk w31 ((b34.add ((j9 : Int).toNat * 5)).add 4) (.bool true) ∧ let w35 : World := wr w31 ((b34.add ((j9 : Int).toNat * 5)).add 4) (.bool true)
  X (IntKind.wrap .i64 ((j9 : Int) + 1)) w35) else (X (IntKind.wrap .i64 ((j9 : Int) + 1)) w31)) Kp) else (Kn  w)

def T_ref04_Net_Part_1 (j9 : Int) (n10 : Option Addr) (from11 : Int) (to12 : Int) (w : World) (Kn : World → Prop) (Kp : List PanicEntry → World → Prop) : Prop :=
  ∀ X : Int → World → Prop, (∀ (j9 : Int) (w : World), T_ref04_Net_Part_1_body X j9 n10 from11 to12 w Kn Kp → X j9 w) → X j9 w

def T_ref04_Net_Part_1_outs : Exit → Option (List (Nat × Value)) := fun x => match x with | .normal => some [] | .panic _ => some [] | _ => none

def T_ref04_Net_Part_1_ks : Nat → Bool := ksOf [7, 22, 23, 24, 25, 26, 27, 28, 29, 30, 31, 32, 33, 34, 35, 36, 37, 38, 39, 40, 41, 42, 43, 44, 45, 46, 47, 48, 49, 50, 51, 52, 53, 54, 55, 56, 57, 58, 59, 60, 61]

def H_ref04_Net_Part_1 : Env → World → QT → Prop := unitHook 62 T_ref04_Net_Part_1_ks [(7, .int .i64 0), (0, .pointer none), (1, .int .i64 0), (2, .int .i64 0)] T_ref04_Net_Part_1_outs fun l w C => match l with | [v0, v1, v2, v3] => T_ref04_Net_Part_1 (pInt v0) (pPtr v1) (pInt v2) (pInt v3) w (fun w => C .normal [] w) (fun ch w => C (.panic ch) [] w) | _ => False

theorem T_ref04_Net_Part_1_hl : allP (hokL Try.prog (hookAt [(8008, H_ref04_Net_Part_2)]) (at_ (bodyOf Try.f48) [1, 1, 1, 1, 0, 1, 0, 0]) 500) = (UnitOk Try.prog H_ref04_Net_Part_2 (at_ (bodyOf Try.f48) [1, 1, 1, 1, 0, 1, 0, 0, 1, 0, 0, 0]) 8008 ∧ True) := by kernel_rfl
theorem T_ref04_Net_Part_1_hok : HOk Try.prog (hookAt [(8008, H_ref04_Net_Part_2)]) (at_ (bodyOf Try.f48) [1, 1, 1, 1, 0, 1, 0, 0]) 500 := HOk_of _ _ (by rw [T_ref04_Net_Part_1_hl]; exact ⟨T_ref04_Net_Part_2_ok, trivial⟩)

theorem T_ref04_Net_Part_1_eq (C : Conts) (X : List Value → World → Prop) (j9 : Int) (n10 : Option Addr) (from11 : Int) (to12 : Int) (w : World) : vcCode Try.prog (hookAt [(8008, H_ref04_Net_Part_2)]) (at_ (bodyOf Try.f48) [1, 1, 1, 1, 0, 1, 0, 0]) 500 ⟨[(7, .int .i64 j9)] ++ [(0, .pointer n10), (1, .int .i64 from11), (2, .int .i64 to12)], 62, []⟩ w (seqQ (fun e w => takeAll e [(7, .int .i64 0)] fun l => X l w) (blockQ 0 (unitQ T_ref04_Net_Part_1_outs C))) = T_ref04_Net_Part_1_body (fun j9 w => X [.int .i64 j9] w) j9 n10 from11 to12 w (fun w => C .normal [] w) (fun ch w => C (.panic ch) [] w) := by kernel_rfl

theorem T_ref04_Net_Part_1_ok : UnitOk Try.prog H_ref04_Net_Part_1 (at_ (bodyOf Try.f48) [1, 1, 1, 1, 0, 1]) 125 := by
  have hc : at_ (bodyOf Try.f48) [1, 1, 1, 1, 0, 1] = .block 0 (.loop (at_ (bodyOf Try.f48) [1, 1, 1, 1, 0, 1, 0, 0])) := by kernel_rfl
  rw [hc]
  refine loop_unit_ok (carr := [(7, .int .i64 0)]) (fix := [(0, .pointer none), (1, .int .i64 0), (2, .int .i64 0)]) (ks := T_ref04_Net_Part_1_ks) (H := (hookAt [(8008, H_ref04_Net_Part_2)])) (B := fun C X l u w => match l, u with | [v0], [v1, v2, v3] => T_ref04_Net_Part_1_body (fun j9 w => X [.int .i64 j9] w) (pInt v0) (pPtr v1) (pInt v2) (pInt v3) w (fun w => C .normal [] w) (fun ch w => C (.panic ch) [] w) | _, _ => False) (by kernel_rfl) (by kernel_rfl) T_ref04_Net_Part_1_hok ?_ ?_
  · intro C X l u w hl hu
    obtain ⟨v0, l_v0, rfl, k_v0, hl_v0⟩ := Kinds.cons_ hl
    obtain ⟨j9, rfl⟩ := kind_int k_v0
    obtain rfl := Kinds.nil_ hl_v0
    obtain ⟨v1, l_v1, rfl, k_v1, hu_v1⟩ := Kinds.cons_ hu
    obtain ⟨n10, rfl⟩ := kind_pointer k_v1
    obtain ⟨v2, l_v2, rfl, k_v2, hu_v2⟩ := Kinds.cons_ hu_v1
    obtain ⟨from11, rfl⟩ := kind_int k_v2
    obtain ⟨v3, l_v3, rfl, k_v3, hu_v3⟩ := Kinds.cons_ hu_v2
    obtain ⟨to12, rfl⟩ := kind_int k_v3
    obtain rfl := Kinds.nil_ hu_v3
    exact T_ref04_Net_Part_1_eq C X j9 n10 from11 to12 w
  · intro l u w C hl hu
    obtain ⟨v0, l_v0, rfl, k_v0, hl_v0⟩ := Kinds.cons_ hl
    obtain ⟨j9, rfl⟩ := kind_int k_v0
    obtain rfl := Kinds.nil_ hl_v0
    obtain ⟨v1, l_v1, rfl, k_v1, hu_v1⟩ := Kinds.cons_ hu
    obtain ⟨n10, rfl⟩ := kind_pointer k_v1
    obtain ⟨v2, l_v2, rfl, k_v2, hu_v2⟩ := Kinds.cons_ hu_v1
    obtain ⟨from11, rfl⟩ := kind_int k_v2
    obtain ⟨v3, l_v3, rfl, k_v3, hu_v3⟩ := Kinds.cons_ hu_v2
    obtain ⟨to12, rfl⟩ := kind_int k_v3
    obtain rfl := Kinds.nil_ hu_v3
    constructor
    · intro h X hX
      exact h (fun j9 w => X [.int .i64 j9] w) (fun j9 w hb => hX [.int .i64 j9] w ⟨rfl, trivial⟩ hb)
    · intro h X hX
      exact h (fun l w => match l with | [v0] => X (pInt v0) w | _ => True) (fun l w hl hb => by
        obtain ⟨v0, l_v0, rfl, k_v0, hl_v0⟩ := Kinds.cons_ hl
        obtain ⟨j9, rfl⟩ := kind_int k_v0
        obtain rfl := Kinds.nil_ hl_v0
        exact hX j9 w hb)

def T_ref04_Net_Part (n1 : Option Addr) (from2 : Int) (to3 : Int) (w : World) (R : Ending → World → Prop) : Prop :=
  if n1.isNone = true then (R (.returned (.int .i64 1)) w) else (Calls Try.prog 55 #[.int .i64 from2, .int .i64 to3] w (ret (fun r4 w5 => ∃ b6 : Bool, r4 = .bool b6 ∧ if (!b6) = true then (R (.returned (.int .i64 2)) w5) else (∃ a7, n1 = some a7 ∧ 0 ≤ (IntKind.wrap .i64 ((IntKind.wrap .i64 ((10 : Int) * from2) : Int) + to3) : Int) ∧ (IntKind.wrap .i64 ((IntKind.wrap .i64 ((10 : Int) * from2) : Int) + to3) : Int) < 100 ∧ (.bool true : Value).cells.size = 1 ∧ wrOk w5 ((a7.add 1).add ((IntKind.wrap .i64 ((IntKind.wrap .i64 ((10 : Int) * from2) : Int) + to3) : Int).toNat * 1)) (.bool true) ∧ let w8 : World := wr w5 ((a7.add 1).add ((IntKind.wrap .i64 ((IntKind.wrap .i64 ((10 : Int) * from2) : Int) + to3) : Int).toNat * 1)) (.bool true)
  T_ref04_Net_Part_1 0 n1 from2 to3 w8 (fun w36 => R (.returned (.int .i64 0)) w36) (pan R))) (pan R)))

theorem T_ref04_Net_Part_hl : allP (hokL Try.prog (hookAt [(125, H_ref04_Net_Part_1)]) (bodyOf Try.f48) 1) = (UnitOk Try.prog H_ref04_Net_Part_1 (at_ (bodyOf Try.f48) [1, 1, 1, 1, 0, 1]) 125 ∧ True) := by kernel_rfl

theorem T_ref04_Net_Part_eq (n1 : Option Addr) (from2 : Int) (to3 : Int) (w : World) (R : Ending → World → Prop) : vcCode Try.prog (hookAt [(125, H_ref04_Net_Part_1)]) (bodyOf Try.f48) 1 ⟨argEnv [.pointer n1, .int .i64 from2, .int .i64 to3] 0, Try.f48.ntmps, []⟩ w (finQ Try.prog Try.f48.results.toList R) = T_ref04_Net_Part n1 from2 to3 w R := by kernel_rfl

theorem T_ref04_Net_Part_b : Try.f48.body = some (bodyOf Try.f48) := by kernel_rfl
theorem T_ref04_Net_Part_s : (quietSel (bodyOf Try.f48) && Nat.ble 3 Try.f48.ntmps) = true := by kernel_rfl

theorem C_ref04_Net_Part {n1 : Option Addr} {from2 : Int} {to3 : Int} {w : World} {R : Ending → World → Prop} (h : T_ref04_Net_Part n1 from2 to3 w R) : Calls Try.prog 48 #[.pointer n1, .int .i64 from2, .int .i64 to3] w R :=
  calls_of_text (args := [.pointer n1, .int .i64 from2, .int .i64 to3]) mixed Try.func48 T_ref04_Net_Part_b T_ref04_Net_Part_s (HOk_of _ _ (by rw [T_ref04_Net_Part_hl]; exact ⟨T_ref04_Net_Part_1_ok, trivial⟩)) (by rw [T_ref04_Net_Part_eq]; exact h)

/-! (*tollgate/tollgateref04.Net).Heal -/
def T_ref04_Net_Heal (n1 : Option Addr) (from2 : Int) (to3 : Int) (w : World) (R : Ending → World → Prop) : Prop :=
  if n1.isNone = true then (R (.returned (.int .i64 1)) w) else (Calls Try.prog 55 #[.int .i64 from2, .int .i64 to3] w (ret (fun r4 w5 => ∃ b6 : Bool, r4 = .bool b6 ∧ if (!b6) = true then (R (.returned (.int .i64 2)) w5) else (∃ a7, n1 = some a7 ∧ 0 ≤ (IntKind.wrap .i64 ((IntKind.wrap .i64 ((10 : Int) * from2) : Int) + to3) : Int) ∧ (IntKind.wrap .i64 ((IntKind.wrap .i64 ((10 : Int) * from2) : Int) + to3) : Int) < 100 ∧ (.bool false : Value).cells.size = 1 ∧ wrOk w5 ((a7.add 1).add ((IntKind.wrap .i64 ((IntKind.wrap .i64 ((10 : Int) * from2) : Int) + to3) : Int).toNat * 1)) (.bool false) ∧ let w8 : World := wr w5 ((a7.add 1).add ((IntKind.wrap .i64 ((IntKind.wrap .i64 ((10 : Int) * from2) : Int) + to3) : Int).toNat * 1)) (.bool false)
  R (.returned (.int .i64 0)) w8)) (pan R)))

theorem T_ref04_Net_Heal_hl : allP (hokL Try.prog (hookAt []) (bodyOf Try.f49) 1) = (True) := by kernel_rfl

theorem T_ref04_Net_Heal_eq (n1 : Option Addr) (from2 : Int) (to3 : Int) (w : World) (R : Ending → World → Prop) : vcCode Try.prog (hookAt []) (bodyOf Try.f49) 1 ⟨argEnv [.pointer n1, .int .i64 from2, .int .i64 to3] 0, Try.f49.ntmps, []⟩ w (finQ Try.prog Try.f49.results.toList R) = T_ref04_Net_Heal n1 from2 to3 w R := by kernel_rfl

theorem T_ref04_Net_Heal_b : Try.f49.body = some (bodyOf Try.f49) := by kernel_rfl
theorem T_ref04_Net_Heal_s : (quietSel (bodyOf Try.f49) && Nat.ble 3 Try.f49.ntmps) = true := by kernel_rfl

theorem C_ref04_Net_Heal {n1 : Option Addr} {from2 : Int} {to3 : Int} {w : World} {R : Ending → World → Prop} (h : T_ref04_Net_Heal n1 from2 to3 w R) : Calls Try.prog 49 #[.pointer n1, .int .i64 from2, .int .i64 to3] w R :=
  calls_of_text (args := [.pointer n1, .int .i64 from2, .int .i64 to3]) mixed Try.func49 T_ref04_Net_Heal_b T_ref04_Net_Heal_s (HOk_of _ _ (by rw [T_ref04_Net_Heal_hl]; exact trivial)) (by rw [T_ref04_Net_Heal_eq]; exact h)

/-! (*tollgate/tollgateref04.Net).Tick -/
def T_ref04_Net_Tick_1 (node3 : Int) (w : World) (Kn : Bool → World → Prop) (Kp : List PanicEntry → World → Prop) : Prop :=
  if (decide ((node3 : Int) < 1)) = true then (Kn true w) else (Kn (decide ((node3 : Int) > 9)) w)

def T_ref04_Net_Tick_1_outs : Exit → Option (List (Nat × Value)) := fun x => match x with | .normal => some [(13, .bool false)] | .panic _ => some [] | _ => none

def T_ref04_Net_Tick_1_ks : Nat → Bool := ksOf [8, 9, 10, 11, 12, 13]

def H_ref04_Net_Tick_1 : Env → World → QT → Prop := unitHook 30 T_ref04_Net_Tick_1_ks [(1, .int .i64 0)] T_ref04_Net_Tick_1_outs fun l w C => match l with | [v0] => T_ref04_Net_Tick_1 (pInt v0) w (fun b5 w => C .normal [.bool b5] w) (fun ch w => C (.panic ch) [] w) | _ => False

theorem T_ref04_Net_Tick_1_hl : allP (hokL Try.prog (hookAt []) (at_ (bodyOf Try.f50) [1, 1, 0, 0]) 28) = (True) := by kernel_rfl
theorem T_ref04_Net_Tick_1_hok : HOk Try.prog (hookAt []) (at_ (bodyOf Try.f50) [1, 1, 0, 0]) 28 := HOk_of _ _ (by rw [T_ref04_Net_Tick_1_hl]; exact trivial)

theorem T_ref04_Net_Tick_1_eq (C : Conts) (node3 : Int) (w : World) : vcCode Try.prog (hookAt []) (at_ (bodyOf Try.f50) [1, 1, 0, 0]) 28 ⟨[(1, .int .i64 node3)], 30, []⟩ w (unitQ T_ref04_Net_Tick_1_outs C) = T_ref04_Net_Tick_1 node3 w (fun b6 w => C .normal [.bool b6] w) (fun ch w => C (.panic ch) [] w) := by kernel_rfl

theorem T_ref04_Net_Tick_1_ok : UnitOk Try.prog H_ref04_Net_Tick_1 (at_ (bodyOf Try.f50) [1, 1, 0, 0]) 28 := unit_ok (H := (hookAt [])) (by kernel_rfl) T_ref04_Net_Tick_1_hok fun l w C hk => by
    obtain ⟨v0, l_v0, rfl, k_v0, hk_v0⟩ := Kinds.cons_ hk
    obtain ⟨node3, rfl⟩ := kind_int k_v0
    obtain rfl := Kinds.nil_ hk_v0
    exact T_ref04_Net_Tick_1_eq C node3 w

def T_ref04_Net_Tick (n1 : Option Addr) (node2 : Int) (w : World) (R : Ending → World → Prop) : Prop :=
  if n1.isNone = true then (R (.returned (.tuple #[.int .i64 0, .int .i64 1])) w) else (T_ref04_Net_Tick_1 node2 w (fun b7 w8 => if b7 = true then (R (.returned (.tuple #[.int .i64 0, .int .i64 2])) w8) else (let w9 : World := w8.drew
  ∃ a10, n1 = some a10 ∧ 0 ≤ (node2 : Int) ∧ (node2 : Int) < 10 ∧ ∃ x11 : Int, rd w9 ((a10.add 101).add ((node2 : Int).toNat * 1)) (.int .i64 x11) ∧ ∃ a12, n1 = some a12 ∧ 0 ≤ (node2 : Int) ∧ (node2 : Int) < 10 ∧ (.int .i64 (IntKind.wrap .i64 ((x11 : Int) + 1)) : Value).cells.size = 1 ∧ wrOk w9 ((a12.add 101).add ((node2 : Int).toNat * 1)) (.int .i64 (IntKind.wrap .i64 ((x11 : Int) + 1))) ∧ let w13 : World := wr w9 ((a12.add 101).add ((node2 : Int).toNat * 1)) (.int .i64 (IntKind.wrap .i64 ((x11 : Int) + 1)))
  (True) ∧ ∃ a14, n1 = some a14 ∧ 0 ≤ (node2 : Int) ∧ (node2 : Int) < 10 ∧ ∃ x15 : Int, rd w13 ((a14.add 101).add ((node2 : Int).toNat * 1)) (.int .i64 x15) ∧ R (.returned (.tuple #[.int .i64 x15, .int .i64 0])) w13)) (pan R))

theorem T_ref04_Net_Tick_hl : allP (hokL Try.prog (hookAt [(28, H_ref04_Net_Tick_1)]) (bodyOf Try.f50) 1) = (UnitOk Try.prog H_ref04_Net_Tick_1 (at_ (bodyOf Try.f50) [1, 1, 0, 0]) 28 ∧ True) := by kernel_rfl

theorem T_ref04_Net_Tick_eq (n1 : Option Addr) (node2 : Int) (w : World) (R : Ending → World → Prop) : vcCode Try.prog (hookAt [(28, H_ref04_Net_Tick_1)]) (bodyOf Try.f50) 1 ⟨argEnv [.pointer n1, .int .i64 node2] 0, Try.f50.ntmps, []⟩ w (finQ Try.prog Try.f50.results.toList R) = T_ref04_Net_Tick n1 node2 w R := by kernel_rfl

theorem T_ref04_Net_Tick_b : Try.f50.body = some (bodyOf Try.f50) := by kernel_rfl
theorem T_ref04_Net_Tick_s : (quietSel (bodyOf Try.f50) && Nat.ble 2 Try.f50.ntmps) = true := by kernel_rfl

theorem C_ref04_Net_Tick {n1 : Option Addr} {node2 : Int} {w : World} {R : Ending → World → Prop} (h : T_ref04_Net_Tick n1 node2 w R) : Calls Try.prog 50 #[.pointer n1, .int .i64 node2] w R :=
  calls_of_text (args := [.pointer n1, .int .i64 node2]) mixed Try.func50 T_ref04_Net_Tick_b T_ref04_Net_Tick_s (HOk_of _ _ (by rw [T_ref04_Net_Tick_hl]; exact ⟨T_ref04_Net_Tick_1_ok, trivial⟩)) (by rw [T_ref04_Net_Tick_eq]; exact h)

/-! (*tollgate/tollgateref04.Net).Now -/
def T_ref04_Net_Now_1 (n3 : Option Addr) (node4 : Int) (w : World) (Kn : Bool → World → Prop) (Kp : List PanicEntry → World → Prop) : Prop :=
  if n3.isNone = true then (Kn true w) else (if (decide ((node4 : Int) < 1)) = true then (Kn true w) else (Kn (decide ((node4 : Int) > 9)) w))

def T_ref04_Net_Now_1_outs : Exit → Option (List (Nat × Value)) := fun x => match x with | .normal => some [(14, .bool false)] | .panic _ => some [] | _ => none

def T_ref04_Net_Now_1_ks : Nat → Bool := ksOf [5, 6, 7, 8, 9, 10, 11, 12, 13, 14]

def H_ref04_Net_Now_1 : Env → World → QT → Prop := unitHook 21 T_ref04_Net_Now_1_ks [(0, .pointer none), (1, .int .i64 0)] T_ref04_Net_Now_1_outs fun l w C => match l with | [v0, v1] => T_ref04_Net_Now_1 (pPtr v0) (pInt v1) w (fun b6 w => C .normal [.bool b6] w) (fun ch w => C (.panic ch) [] w) | _ => False

theorem T_ref04_Net_Now_1_hl : allP (hokL Try.prog (hookAt []) (at_ (bodyOf Try.f51) [1, 0, 0]) 12) = (True) := by kernel_rfl
theorem T_ref04_Net_Now_1_hok : HOk Try.prog (hookAt []) (at_ (bodyOf Try.f51) [1, 0, 0]) 12 := HOk_of _ _ (by rw [T_ref04_Net_Now_1_hl]; exact trivial)

theorem T_ref04_Net_Now_1_eq (C : Conts) (n3 : Option Addr) (node4 : Int) (w : World) : vcCode Try.prog (hookAt []) (at_ (bodyOf Try.f51) [1, 0, 0]) 12 ⟨[(0, .pointer n3), (1, .int .i64 node4)], 21, []⟩ w (unitQ T_ref04_Net_Now_1_outs C) = T_ref04_Net_Now_1 n3 node4 w (fun b7 w => C .normal [.bool b7] w) (fun ch w => C (.panic ch) [] w) := by kernel_rfl

theorem T_ref04_Net_Now_1_ok : UnitOk Try.prog H_ref04_Net_Now_1 (at_ (bodyOf Try.f51) [1, 0, 0]) 12 := unit_ok (H := (hookAt [])) (by kernel_rfl) T_ref04_Net_Now_1_hok fun l w C hk => by
    obtain ⟨v0, l_v0, rfl, k_v0, hk_v0⟩ := Kinds.cons_ hk
    obtain ⟨n3, rfl⟩ := kind_pointer k_v0
    obtain ⟨v1, l_v1, rfl, k_v1, hk_v1⟩ := Kinds.cons_ hk_v0
    obtain ⟨node4, rfl⟩ := kind_int k_v1
    obtain rfl := Kinds.nil_ hk_v1
    exact T_ref04_Net_Now_1_eq C n3 node4 w

def T_ref04_Net_Now (n1 : Option Addr) (node2 : Int) (w : World) (R : Ending → World → Prop) : Prop :=
  T_ref04_Net_Now_1 n1 node2 w (fun b8 w9 => if b8 = true then (R (.returned (.int .i64 0)) w9) else (∃ a10, n1 = some a10 ∧ 0 ≤ (node2 : Int) ∧ (node2 : Int) < 10 ∧ ∃ x11 : Int, rd w9 ((a10.add 101).add ((node2 : Int).toNat * 1)) (.int .i64 x11) ∧ R (.returned (.int .i64 x11)) w9)) (pan R)

theorem T_ref04_Net_Now_hl : allP (hokL Try.prog (hookAt [(12, H_ref04_Net_Now_1)]) (bodyOf Try.f51) 1) = (UnitOk Try.prog H_ref04_Net_Now_1 (at_ (bodyOf Try.f51) [1, 0, 0]) 12 ∧ True) := by kernel_rfl

theorem T_ref04_Net_Now_eq (n1 : Option Addr) (node2 : Int) (w : World) (R : Ending → World → Prop) : vcCode Try.prog (hookAt [(12, H_ref04_Net_Now_1)]) (bodyOf Try.f51) 1 ⟨argEnv [.pointer n1, .int .i64 node2] 0, Try.f51.ntmps, []⟩ w (finQ Try.prog Try.f51.results.toList R) = T_ref04_Net_Now n1 node2 w R := by kernel_rfl

theorem T_ref04_Net_Now_b : Try.f51.body = some (bodyOf Try.f51) := by kernel_rfl
theorem T_ref04_Net_Now_s : (quietSel (bodyOf Try.f51) && Nat.ble 2 Try.f51.ntmps) = true := by kernel_rfl

theorem C_ref04_Net_Now {n1 : Option Addr} {node2 : Int} {w : World} {R : Ending → World → Prop} (h : T_ref04_Net_Now n1 node2 w R) : Calls Try.prog 51 #[.pointer n1, .int .i64 node2] w R :=
  calls_of_text (args := [.pointer n1, .int .i64 node2]) mixed Try.func51 T_ref04_Net_Now_b T_ref04_Net_Now_s (HOk_of _ _ (by rw [T_ref04_Net_Now_hl]; exact ⟨T_ref04_Net_Now_1_ok, trivial⟩)) (by rw [T_ref04_Net_Now_eq]; exact h)

/-! (*tollgate/tollgateref04.Net).Parted -/
def T_ref04_Net_Parted (n1 : Option Addr) (from2 : Int) (to3 : Int) (w : World) (R : Ending → World → Prop) : Prop :=
  if (!n1.isNone) = true then (Calls Try.prog 55 #[.int .i64 from2, .int .i64 to3] w (ret (fun r4 w5 => ∃ b6 : Bool, r4 = .bool b6 ∧ if b6 = true then (∃ a7, n1 = some a7 ∧ 0 ≤ (IntKind.wrap .i64 ((IntKind.wrap .i64 ((10 : Int) * from2) : Int) + to3) : Int) ∧ (IntKind.wrap .i64 ((IntKind.wrap .i64 ((10 : Int) * from2) : Int) + to3) : Int) < 100 ∧ ∃ b8 : Bool, rd w5 ((a7.add 1).add ((IntKind.wrap .i64 ((IntKind.wrap .i64 ((10 : Int) * from2) : Int) + to3) : Int).toNat * 1)) (.bool b8) ∧ R (.returned (.bool b8)) w5) else (R (.returned (.bool false)) w5)) (pan R))) else (R (.returned (.bool false)) w)

theorem T_ref04_Net_Parted_hl : allP (hokL Try.prog (hookAt []) (bodyOf Try.f52) 1) = (True) := by kernel_rfl

theorem T_ref04_Net_Parted_eq (n1 : Option Addr) (from2 : Int) (to3 : Int) (w : World) (R : Ending → World → Prop) : vcCode Try.prog (hookAt []) (bodyOf Try.f52) 1 ⟨argEnv [.pointer n1, .int .i64 from2, .int .i64 to3] 0, Try.f52.ntmps, []⟩ w (finQ Try.prog Try.f52.results.toList R) = T_ref04_Net_Parted n1 from2 to3 w R := by kernel_rfl

theorem T_ref04_Net_Parted_b : Try.f52.body = some (bodyOf Try.f52) := by kernel_rfl
theorem T_ref04_Net_Parted_s : (quietSel (bodyOf Try.f52) && Nat.ble 3 Try.f52.ntmps) = true := by kernel_rfl

theorem C_ref04_Net_Parted {n1 : Option Addr} {from2 : Int} {to3 : Int} {w : World} {R : Ending → World → Prop} (h : T_ref04_Net_Parted n1 from2 to3 w R) : Calls Try.prog 52 #[.pointer n1, .int .i64 from2, .int .i64 to3] w R :=
  calls_of_text (args := [.pointer n1, .int .i64 from2, .int .i64 to3]) mixed Try.func52 T_ref04_Net_Parted_b T_ref04_Net_Parted_s (HOk_of _ _ (by rw [T_ref04_Net_Parted_hl]; exact trivial)) (by rw [T_ref04_Net_Parted_eq]; exact h)

/-! tollgate/tollgateref04.link -/
def T_ref04_link (from1 : Int) (to2 : Int) (w : World) (R : Ending → World → Prop) : Prop :=
  if (decide ((from1 : Int) ≥ 1)) = true then (if (decide ((from1 : Int) ≤ 9)) = true then (if (decide ((to2 : Int) ≥ 1)) = true then (if (decide ((to2 : Int) ≤ 9)) = true then (R (.returned (.bool ((from1 : Int) != to2))) w) else (R (.returned (.bool false)) w)) else (R (.returned (.bool false)) w)) else (R (.returned (.bool false)) w)) else (R (.returned (.bool false)) w)

theorem T_ref04_link_hl : allP (hokL Try.prog (hookAt []) (bodyOf Try.f55) 1) = (True) := by kernel_rfl

theorem T_ref04_link_eq (from1 : Int) (to2 : Int) (w : World) (R : Ending → World → Prop) : vcCode Try.prog (hookAt []) (bodyOf Try.f55) 1 ⟨argEnv [.int .i64 from1, .int .i64 to2] 0, Try.f55.ntmps, []⟩ w (finQ Try.prog Try.f55.results.toList R) = T_ref04_link from1 to2 w R := by kernel_rfl

theorem T_ref04_link_b : Try.f55.body = some (bodyOf Try.f55) := by kernel_rfl
theorem T_ref04_link_s : (quietSel (bodyOf Try.f55) && Nat.ble 2 Try.f55.ntmps) = true := by kernel_rfl

theorem C_ref04_link {from1 : Int} {to2 : Int} {w : World} {R : Ending → World → Prop} (h : T_ref04_link from1 to2 w R) : Calls Try.prog 55 #[.int .i64 from1, .int .i64 to2] w R :=
  calls_of_text (args := [.int .i64 from1, .int .i64 to2]) mixed Try.func55 T_ref04_link_b T_ref04_link_s (HOk_of _ _ (by rw [T_ref04_link_hl]; exact trivial)) (by rw [T_ref04_link_eq]; exact h)

end Go.Proofs.Ytilhnmncbpnfjaa
