/- Texts of this claim's own, laid into one. -/
import Derived.Test.YtclinifclfahfaaGreatProg
import Derived.KernelRfl
import Derived.Sort.Walk0
import Derived.Test.YtclinifclfahfaaGreatXSnapSavesA
import Derived.Test.YtclinifclfahfaaGreatXSnapSavesB
import Derived.Test.YtclinifclfahfaaGreatXSnapSavesC
import Derived.Test.YtclinifclfahfaaGreatXSnapSavesD
import Derived.Test.YtclinifclfahfaaGreatXSnapSavesE
set_option linter.all false
namespace Go.Proofs.YtclinifclfahfaaGreat
open Go Go.Vc
set_option maxRecDepth 100000
set_option linter.unusedVariables false
def T_q9y (room1 : Int) (w : World) (R : RT) : Prop :=
 if (decide (room1 < 0)) = true then (let w2 : World := w.alloc (.cells #[.int .i64 0, .slice none 0 0] 90)
 R (.returned (.pointer (some (⟨w.heap.size, 0, none⟩ : Addr)))) w2) else (let w3 : World := w.alloc (.cells #[.int .i64 room1, .slice none 0 0] 90)
 R (.returned (.pointer (some (⟨w.heap.size, 0, none⟩ : Addr)))) w3)
theorem T_q9y_hl : allP (hokL Tryz.prog (hookAt []) (bodyOf Tryz.f17) 1) = (True) := by kernel_rfl
theorem T_q9y_eq (room1 : Int) (w : World) (R : RT) : vcCode Tryz.prog (hookAt []) (bodyOf Tryz.f17) 1 ⟨argEnv [.int .i64 room1] 0, Tryz.f17.ntmps, []⟩ w (finQ Tryz.prog Tryz.f17.results.toList R) = T_q9y room1 w R := by kernel_rfl
theorem T_q9y_b : Tryz.f17.body = some (bodyOf Tryz.f17) := by kernel_rfl
theorem T_q9y_s : (quietSel (bodyOf Tryz.f17) && Nat.ble 1 Tryz.f17.ntmps) = true := by kernel_rfl
theorem C_q9y {room1 : Int} {w : World} {R : RT} (h : T_q9y room1 w R) : Calls Tryz.prog 17 #[.int .i64 room1] w R :=
 calls_of_text (args := [.int .i64 room1]) mixed Tryz.func17 T_q9y_b T_q9y_s (HOk_of _ _ (by rw [T_q9y_hl]; exact trivial)) (by rw [T_q9y_eq]; exact h)
def T_q8d (k16 : Int) (f17 : Addr) (i18 : Int) (w : World) (Kn : Bool → World → Prop) (Kp : XT) : Prop :=
 ∃ (s19a : Option Addr) (s19l s19c : Nat), rd w (f17.add 3) (.slice s19a s19l s19c) ∧ if (decide (i18 < ((s19l : Nat) : Int))) = true then (Kn (decide (i18 < k16)) w) else (Kn false w)
def T_q4k : Exit → Option (List (Nat × Value)) := fun x => match x with | .normal => some [(21, .bool false)] | .panic _ => some [] | _ => none
def T_q6g : Nat → Bool := ksOf [12, 13, 14, 15, 16, 17, 18, 19, 20, 21]
def H_q8d : Env → World → QT → Prop := unitHook 54 T_q6g [(1, .int .i64 0), (2, .pointer (some ⟨0, 0, none⟩)), (6, .int .i64 0)] T_q4k fun l w C => match l with | [v0, v1, v2] => T_q8d (pInt v0) (pAddr v1) (pInt v2) w (fun b21 w => C .normal [.bool b21] w) (fun ch w => C (.panic ch) [] w) | _ => False
theorem T_q8d_hl : allP (hokL Tryz.prog (hookAt []) (at_ (bodyOf Tryz.f68) [1, 1, 0, 1, 0, 0, 0, 0]) 464) = (True) := by kernel_rfl
theorem T_q8d_hok : HOk Tryz.prog (hookAt []) (at_ (bodyOf Tryz.f68) [1, 1, 0, 1, 0, 0, 0, 0]) 464 := HOk_of _ _ (by rw [T_q8d_hl]; exact trivial)
theorem T_q8d_eq (C : Conts) (k16 : Int) (f17 : Addr) (i18 : Int) (w : World) : vcCode Tryz.prog (hookAt []) (at_ (bodyOf Tryz.f68) [1, 1, 0, 1, 0, 0, 0, 0]) 464 ⟨[(1, .int .i64 k16), (2, .pointer (some f17)), (6, .int .i64 i18)], 54, []⟩ w (unitQ T_q4k C) = T_q8d k16 f17 i18 w (fun b22 w => C .normal [.bool b22] w) (fun ch w => C (.panic ch) [] w) := by kernel_rfl
theorem T_q9k_2_ok : UnitOk Tryz.prog H_q8d (at_ (bodyOf Tryz.f68) [1, 1, 0, 1, 0, 0, 0, 0]) 464 := unit_ok (H := (hookAt [])) (by kernel_rfl) T_q8d_hok fun l w C hk => by
  obtain ⟨v0, _, rfl, k_v0, hk_v0⟩ := kC hk
  obtain ⟨k16, rfl⟩ := kind_int k_v0
  obtain ⟨v1, _, rfl, k_v1, hk_v1⟩ := kC hk_v0
  obtain ⟨f17, rfl⟩ := kind_addr k_v1
  obtain ⟨v2, _, rfl, k_v2, hk_v2⟩ := kC hk_v1
  obtain ⟨i18, rfl⟩ := kind_int k_v2
  obtain rfl := kN hk_v2
  exact T_q8d_eq C k16 f17 i18 w
def T_q9k_1_body (X : Option Addr → Nat → Nat → Int → World → Prop) (out12a : Option Addr) (out12l out12c : Nat) (i13 k14 : Int) (f15 : Addr) (w : World) (Kn : Option Addr → Nat → Nat → World → Prop) (Kp : XT)  : Prop :=
 T_q8d k14 f15 i13 w (fun b23 w24 => if b23 = true then (∃ (s25a : Option Addr) (s25l s25c : Nat), rd w24 (f15.add 3) (.slice s25a s25l s25c) ∧ 0 ≤ i13 ∧ i13 < ((s25l : Nat) : Int) ∧ ∃ b26, s25a = some b26 ∧ ∃ (b27 : Bool) (x28 x29 : Int), rd w24 (b26.add (i13.toNat * 3)) (.agg #[.bool b27, .int .i64 x28, .int .u8 x29]) ∧ let w30 : World := w24.alloc (.cells #[.bool false, .int .i64 0, .int .u8 0] 118)
 (.agg #[.bool b27, .int .i64 x28, .int .u8 x29] : Value).cells.size = 3 ∧ wrOk w30 (⟨w24.heap.size, 0, none⟩ : Addr) (.agg #[.bool b27, .int .i64 x28, .int .u8 x29]) ∧ let w31 : World := wr w30 (⟨w24.heap.size, 0, none⟩ : Addr) (.agg #[.bool b27, .int .i64 x28, .int .u8 x29])
 ∃ b32 : Bool, rd w31 (⟨w24.heap.size, 0, none⟩ : Addr) (.bool b32) ∧ if b32 = true then (∃ x33 : Int, rd w31 ((⟨w24.heap.size, 0, none⟩ : Addr).add 1) (.int .i64 x33) ∧ 0 ≤ x33 ∧ x33 ≤ ((out12c : Nat) : Int) ∧ X (if out12c = 0 then out12a else out12a.map (fun x => x.add (0 * 1))) ((x33.toNat) - 0) (out12c - 0) (IntKind.wrap .i64 (i13 + 1)) w31) else (∃ x34 : Int, rd w31 ((⟨w24.heap.size, 0, none⟩ : Addr).add 1) (.int .i64 x34) ∧ if (decide (x34 < ((out12l : Nat) : Int))) = true then (∃ x35 : Int, rd w31 ((⟨w24.heap.size, 0, none⟩ : Addr).add 1) (.int .i64 x35) ∧ ∃ x36 : Int, rd w31 ((⟨w24.heap.size, 0, none⟩ : Addr).add 2) (.int .u8 x36) ∧ 0 ≤ x35 ∧ x35 < ((out12l : Nat) : Int) ∧ ∃ b37, out12a = some b37 ∧ (.int .u8 x36 : Value).cells.size = 1 ∧ wrOk w31 (b37.add (x35.toNat * 1)) (.int .u8 x36) ∧ let w38 : World := wr w31 (b37.add (x35.toNat * 1)) (.int .u8 x36)
 X out12a out12l out12c (IntKind.wrap .i64 (i13 + 1)) w38) else (∃ x39 : Int, rd w31 ((⟨w24.heap.size, 0, none⟩ : Addr).add 2) (.int .u8 x39) ∧ let w40 : World := w31.alloc (.cells #[.int .u8 x39] 5)
 runV Tryz.prog (Builtin.append_ #[27, 27] 27 #[.slice out12a out12l out12c, .slice (some (⟨w31.heap.size, 0, none⟩ : Addr)) 1 1]) w40 (fun r41 w42 => ∃ (s43a : Option Addr) (s43l s43c : Nat), r41 = .slice s43a s43l s43c ∧ X s43a s43l s43c (IntKind.wrap .i64 (i13 + 1)) w42) Kp))) else (Kn out12a out12l out12c w24)) Kp
def T_q8c (out12a : Option Addr) (out12l out12c : Nat) (i13 k14 : Int) (f15 : Addr) (w : World) (Kn : Option Addr → Nat → Nat → World → Prop) (Kp : XT) : Prop :=
 ∀ X : Option Addr → Nat → Nat → Int → World → Prop, (∀ (out12a : Option Addr) (out12l out12c : Nat) (i13 : Int) (w : World), T_q9k_1_body X out12a out12l out12c i13 k14 f15 w Kn Kp → X out12a out12l out12c i13 w) → X out12a out12l out12c i13 w
def T_q4j : Exit → Option (List (Nat × Value)) := fun x => match x with | .normal => some [(5, .slice none 0 0)] | .panic _ => some [] | _ => none
def T_q6f : Nat → Bool := ksOf [5, 6, 7, 12, 13, 14, 15, 16, 17, 18, 19, 20, 21, 22, 23, 24, 25, 26, 27, 28, 29, 30, 31, 32, 33, 34, 35, 36, 37, 38, 39, 40, 41, 42, 43, 44, 45, 46, 47, 48, 49, 50, 51, 52]
def H_q8c : Env → World → QT → Prop := unitHook 54 T_q6f [(5, .slice none 0 0), (6, .int .i64 0), (1, .int .i64 0), (2, .pointer (some ⟨0, 0, none⟩))] T_q4j fun l w C => match l with | [v0, v1, v2, v3] => T_q8c (pA v0) (pL v0) (pC v0) (pInt v1) (pInt v2) (pAddr v3) w (fun out45a out45l out45c w => C .normal [.slice out45a out45l out45c] w) (fun ch w => C (.panic ch) [] w) | _ => False
theorem T_q8c_hl : allP (hokL Tryz.prog (hookAt [(464, H_q8d)]) (at_ (bodyOf Tryz.f68) [1, 1, 0, 1, 0, 0]) 116) = (UnitOk Tryz.prog H_q8d (at_ (bodyOf Tryz.f68) [1, 1, 0, 1, 0, 0, 0, 0]) 464 ∧ True) := by kernel_rfl
theorem T_q8c_hok : HOk Tryz.prog (hookAt [(464, H_q8d)]) (at_ (bodyOf Tryz.f68) [1, 1, 0, 1, 0, 0]) 116 := HOk_of _ _ (by rw [T_q8c_hl]; exact ⟨T_q9k_2_ok, trivial⟩)
theorem T_q8c_eq (C : Conts) (X : List Value → World → Prop) (out12a : Option Addr) (out12l out12c : Nat) (i13 k14 : Int) (f15 : Addr) (w : World) : vcCode Tryz.prog (hookAt [(464, H_q8d)]) (at_ (bodyOf Tryz.f68) [1, 1, 0, 1, 0, 0]) 116 ⟨[(5, .slice out12a out12l out12c), (6, .int .i64 i13)] ++ [(1, .int .i64 k14), (2, .pointer (some f15))], 54, []⟩ w (seqQ (fun e w => takeAll e [(5, .slice none 0 0), (6, .int .i64 0)] fun l => X l w) (blockQ 0 (unitQ T_q4j C))) = T_q9k_1_body (fun out12a out12l out12c i13 w => X [.slice out12a out12l out12c, .int .i64 i13] w) out12a out12l out12c i13 k14 f15 w (fun out46a out46l out46c w => C .normal [.slice out46a out46l out46c] w) (fun ch w => C (.panic ch) [] w) := by kernel_rfl
theorem T_q9k_1_ok : UnitOk Tryz.prog H_q8c (at_ (bodyOf Tryz.f68) [1, 1, 0, 1]) 29 := by
 have hc : at_ (bodyOf Tryz.f68) [1, 1, 0, 1] = .block 0 (.loop (at_ (bodyOf Tryz.f68) [1, 1, 0, 1, 0, 0])) := by kernel_rfl
 rw [hc]
 refine loop_unit_ok (carr := [(5, .slice none 0 0), (6, .int .i64 0)]) (fix := [(1, .int .i64 0), (2, .pointer (some ⟨0, 0, none⟩))]) (ks := T_q6f) (H := (hookAt [(464, H_q8d)])) (B := fun C X l u w => match l, u with | [v0, v1], [v2, v3] => T_q9k_1_body (fun out12a out12l out12c i13 w => X [.slice out12a out12l out12c, .int .i64 i13] w) (pA v0) (pL v0) (pC v0) (pInt v1) (pInt v2) (pAddr v3) w (fun out47a out47l out47c w => C .normal [.slice out47a out47l out47c] w) (fun ch w => C (.panic ch) [] w) | _, _ => False) (by kernel_rfl) (by kernel_rfl) T_q8c_hok ?_ ?_
 ·intro C X l u w hl hu
  obtain ⟨v0, _, rfl, k_v0, hl_v0⟩ := kC hl
  obtain ⟨out12a, out12l, out12c, rfl⟩ := kind_slice k_v0
  obtain ⟨v1, _, rfl, k_v1, hl_v1⟩ := kC hl_v0
  obtain ⟨i13, rfl⟩ := kind_int k_v1
  obtain rfl := kN hl_v1
  obtain ⟨v2, _, rfl, k_v2, hu_v2⟩ := kC hu
  obtain ⟨k14, rfl⟩ := kind_int k_v2
  obtain ⟨v3, _, rfl, k_v3, hu_v3⟩ := kC hu_v2
  obtain ⟨f15, rfl⟩ := kind_addr k_v3
  obtain rfl := kN hu_v3
  exact T_q8c_eq C X out12a out12l out12c i13 k14 f15 w
 ·intro l u w C hl hu
  obtain ⟨v0, _, rfl, k_v0, hl_v0⟩ := kC hl
  obtain ⟨out12a, out12l, out12c, rfl⟩ := kind_slice k_v0
  obtain ⟨v1, _, rfl, k_v1, hl_v1⟩ := kC hl_v0
  obtain ⟨i13, rfl⟩ := kind_int k_v1
  obtain rfl := kN hl_v1
  obtain ⟨v2, _, rfl, k_v2, hu_v2⟩ := kC hu
  obtain ⟨k14, rfl⟩ := kind_int k_v2
  obtain ⟨v3, _, rfl, k_v3, hu_v3⟩ := kC hu_v2
  obtain ⟨f15, rfl⟩ := kind_addr k_v3
  obtain rfl := kN hu_v3
  constructor
  ·intro h X hX
   exact h (fun out12a out12l out12c i13 w => X [.slice out12a out12l out12c, .int .i64 i13] w) (fun out12a out12l out12c i13 w hb => hX [.slice out12a out12l out12c, .int .i64 i13] w ⟨rfl, rfl, trivial⟩ hb)
  ·intro h X hX
   exact h (fun l w => match l with | [v0, v1] => X (pA v0) (pL v0) (pC v0) (pInt v1) w | _ => True) (fun l w hl hb => by
    obtain ⟨v0, _, rfl, k_v0, hl_v0⟩ := kC hl
    obtain ⟨out12a, out12l, out12c, rfl⟩ := kind_slice k_v0
    obtain ⟨v1, _, rfl, k_v1, hl_v1⟩ := kC hl_v0
    obtain ⟨i13, rfl⟩ := kind_int k_v1
    obtain rfl := kN hl_v1
    exact hX out12a out12l out12c i13 w hb)
def T_q9k (s1 : ByteArray) (b2 : Bool) (s3a : Option Addr) (s3l s3c : Nat) (s4a : Option Addr) (s4l s4c : Nat) (k5 : Int) (w : World) (R : RT) : Prop :=
 let w6 : World := w.alloc (.cells #[.string s1, .bool b2, .slice s3a s3l s3c, .slice s4a s4l s4c] 108)
 let w7 : World := w6.alloc (.cells #[] 5)
 ∃ (s8a : Option Addr) (s8l s8c : Nat), rd w7 ((⟨w.heap.size, 0, none⟩ : Addr).add 2) (.slice s8a s8l s8c) ∧ runV Tryz.prog (Builtin.append_ #[27, 27] 27 #[.slice (some (⟨w6.heap.size, 0, none⟩ : Addr)) 0 0, .slice s8a s8l s8c]) w7 (fun r9 w10 => ∃ (s11a : Option Addr) (s11l s11c : Nat), r9 = .slice s11a s11l s11c ∧ T_q8c s11a s11l s11c 0 k5 (⟨w.heap.size, 0, none⟩ : Addr) w10 (fun out48a out48l out48c w49 => R (.returned (.slice out48a out48l out48c)) w49) (pan R)) (pan R)
theorem T_q9k_hl : allP (hokL Tryz.prog (hookAt [(29, H_q8c)]) (bodyOf Tryz.f68) 1) = (UnitOk Tryz.prog H_q8c (at_ (bodyOf Tryz.f68) [1, 1, 0, 1]) 29 ∧ True) := by kernel_rfl
theorem T_q9k_eq (s1 : ByteArray) (b2 : Bool) (s3a : Option Addr) (s3l s3c : Nat) (s4a : Option Addr) (s4l s4c : Nat) (k5 : Int) (w : World) (R : RT) : vcCode Tryz.prog (hookAt [(29, H_q8c)]) (bodyOf Tryz.f68) 1 ⟨argEnv [.agg #[.string s1, .bool b2, .slice s3a s3l s3c, .slice s4a s4l s4c], .int .i64 k5] 0, Tryz.f68.ntmps, []⟩ w (finQ Tryz.prog Tryz.f68.results.toList R) = T_q9k s1 b2 s3a s3l s3c s4a s4l s4c k5 w R := by kernel_rfl
theorem T_q9k_b : Tryz.f68.body = some (bodyOf Tryz.f68) := by kernel_rfl
theorem T_q9k_s : (quietSel (bodyOf Tryz.f68) && Nat.ble 2 Tryz.f68.ntmps) = true := by kernel_rfl
theorem C_q9k {s1 : ByteArray} {b2 : Bool} {s3a : Option Addr} {s3l s3c : Nat} {s4a : Option Addr} {s4l s4c : Nat} {k5 : Int} {w : World} {R : RT} (h : T_q9k s1 b2 s3a s3l s3c s4a s4l s4c k5 w R) : Calls Tryz.prog 68 #[.agg #[.string s1, .bool b2, .slice s3a s3l s3c, .slice s4a s4l s4c], .int .i64 k5] w R :=
 calls_of_text (args := [.agg #[.string s1, .bool b2, .slice s3a s3l s3c, .slice s4a s4l s4c], .int .i64 k5]) mixed Tryz.func68 T_q9k_b T_q9k_s (HOk_of _ _ (by rw [T_q9k_hl]; exact ⟨T_q9k_1_ok, trivial⟩)) (by rw [T_q9k_eq]; exact h)
def T_q9z (s1 : ByteArray) (b2 : Bool) (s3a : Option Addr) (s3l s3c : Nat) (s4a : Option Addr) (s4l s4c : Nat) (w : World) (R : RT) : Prop :=
 let w5 : World := w.alloc (.cells #[.string s1, .bool b2, .slice s3a s3l s3c, .slice s4a s4l s4c] 108)
 ∃ (s6 : ByteArray) (b7 : Bool) (s8a : Option Addr) (s8l s8c : Nat) (s9a : Option Addr) (s9l s9c : Nat), rd w5 (⟨w.heap.size, 0, none⟩ : Addr) (.agg #[.string s6, .bool b7, .slice s8a s8l s8c, .slice s9a s9l s9c]) ∧ ∃ (s10a : Option Addr) (s10l s10c : Nat), rd w5 ((⟨w.heap.size, 0, none⟩ : Addr).add 3) (.slice s10a s10l s10c) ∧ Calls Tryz.prog 68 #[.agg #[.string s6, .bool b7, .slice s8a s8l s8c, .slice s9a s9l s9c], .int .i64 ((s10l : Nat) : Int)] w5 (ret (fun r11 w12 => ∃ (s13a : Option Addr) (s13l s13c : Nat), r11 = .slice s13a s13l s13c ∧ R (.returned (.slice s13a s13l s13c)) w12) (pan R))
theorem T_q9z_hl : allP (hokL Tryz.prog (hookAt []) (bodyOf Tryz.f73) 1) = (True) := by kernel_rfl
theorem T_q9z_eq (s1 : ByteArray) (b2 : Bool) (s3a : Option Addr) (s3l s3c : Nat) (s4a : Option Addr) (s4l s4c : Nat) (w : World) (R : RT) : vcCode Tryz.prog (hookAt []) (bodyOf Tryz.f73) 1 ⟨argEnv [.agg #[.string s1, .bool b2, .slice s3a s3l s3c, .slice s4a s4l s4c]] 0, Tryz.f73.ntmps, []⟩ w (finQ Tryz.prog Tryz.f73.results.toList R) = T_q9z s1 b2 s3a s3l s3c s4a s4l s4c w R := by kernel_rfl
theorem T_q9z_b : Tryz.f73.body = some (bodyOf Tryz.f73) := by kernel_rfl
theorem T_q9z_s : (quietSel (bodyOf Tryz.f73) && Nat.ble 1 Tryz.f73.ntmps) = true := by kernel_rfl
theorem C_q9z {s1 : ByteArray} {b2 : Bool} {s3a : Option Addr} {s3l s3c : Nat} {s4a : Option Addr} {s4l s4c : Nat} {w : World} {R : RT} (h : T_q9z s1 b2 s3a s3l s3c s4a s4l s4c w R) : Calls Tryz.prog 73 #[.agg #[.string s1, .bool b2, .slice s3a s3l s3c, .slice s4a s4l s4c]] w R :=
 calls_of_text (args := [.agg #[.string s1, .bool b2, .slice s3a s3l s3c, .slice s4a s4l s4c]]) mixed Tryz.func73 T_q9z_b T_q9z_s (HOk_of _ _ (by rw [T_q9z_hl]; exact trivial)) (by rw [T_q9z_eq]; exact h)
def T_q6d_1_body (X : Int → World → Prop) (i3 : Int) (d4 : Option Addr) (name5 : ByteArray) (w : World) (Kn : World → Prop) (Kr : Int → World → Prop) (Kp : XT)  : Prop :=
 ∃ a6, d4 = some a6 ∧ ∃ (s7a : Option Addr) (s7l s7c : Nat), rd w (a6.add 1) (.slice s7a s7l s7c) ∧ if (decide (i3 < ((s7l : Nat) : Int))) = true then (∃ a8, d4 = some a8 ∧ ∃ (s9a : Option Addr) (s9l s9c : Nat), rd w (a8.add 1) (.slice s9a s9l s9c) ∧ 0 ≤ i3 ∧ i3 < ((s9l : Nat) : Int) ∧ ∃ b10, s9a = some b10 ∧ ∃ s11 : ByteArray, rd w (b10.add (i3.toNat * 4)) (.string s11) ∧ if (s11.toList == name5.toList) = true then (Kr i3 w) else (X (IntKind.wrap .i64 (i3 + 1)) w)) else (Kn  w)
def T_q4h (i3 : Int) (d4 : Option Addr) (name5 : ByteArray) (w : World) (Kn : World → Prop) (Kr : Int → World → Prop) (Kp : XT) : Prop :=
 ∀ X : Int → World → Prop, (∀ (i3 : Int) (w : World), T_q6d_1_body X i3 d4 name5 w Kn Kr Kp → X i3 w) → X i3 w
def T_q0z : Exit → Option (List (Nat × Value)) := fun x => match x with | .normal => some [] | .ret => some [(4, .int .i64 0)] | .panic _ => some [] | _ => none
def T_q26 : Nat → Bool := ksOf [4, 5, 6, 7, 8, 9, 10, 11, 12, 13, 14, 15, 16, 17, 18, 19, 20, 21, 22, 23, 24, 25]
def H_q4h : Env → World → QT → Prop := unitHook 26 T_q26 [(5, .int .i64 0), (0, .pointer none), (1, .string default)] T_q0z fun l w C => match l with | [v0, v1, v2] => T_q4h (pInt v0) (pPtr v1) (pStr v2) w (fun w => C .normal [] w) (fun x13 w => C .ret [.int .i64 x13] w) (fun ch w => C (.panic ch) [] w) | _ => False
theorem T_q4h_hl : allP (hokL Tryz.prog (hookAt []) (at_ (bodyOf Tryz.f72) [1, 0, 1, 0, 0]) 52) = (True) := by kernel_rfl
theorem T_q4h_hok : HOk Tryz.prog (hookAt []) (at_ (bodyOf Tryz.f72) [1, 0, 1, 0, 0]) 52 := HOk_of _ _ (by rw [T_q4h_hl]; exact trivial)
theorem T_q4h_eq (C : Conts) (X : List Value → World → Prop) (i3 : Int) (d4 : Option Addr) (name5 : ByteArray) (w : World) : vcCode Tryz.prog (hookAt []) (at_ (bodyOf Tryz.f72) [1, 0, 1, 0, 0]) 52 ⟨[(5, .int .i64 i3)] ++ [(0, .pointer d4), (1, .string name5)], 26, []⟩ w (seqQ (fun e w => takeAll e [(5, .int .i64 0)] fun l => X l w) (blockQ 0 (unitQ T_q0z C))) = T_q6d_1_body (fun i3 w => X [.int .i64 i3] w) i3 d4 name5 w (fun w => C .normal [] w) (fun x14 w => C .ret [.int .i64 x14] w) (fun ch w => C (.panic ch) [] w) := by kernel_rfl
theorem T_q6d_1_ok : UnitOk Tryz.prog H_q4h (at_ (bodyOf Tryz.f72) [1, 0, 1]) 13 := by
 have hc : at_ (bodyOf Tryz.f72) [1, 0, 1] = .block 0 (.loop (at_ (bodyOf Tryz.f72) [1, 0, 1, 0, 0])) := by kernel_rfl
 rw [hc]
 refine loop_unit_ok (carr := [(5, .int .i64 0)]) (fix := [(0, .pointer none), (1, .string default)]) (ks := T_q26) (H := (hookAt [])) (B := fun C X l u w => match l, u with | [v0], [v1, v2] => T_q6d_1_body (fun i3 w => X [.int .i64 i3] w) (pInt v0) (pPtr v1) (pStr v2) w (fun w => C .normal [] w) (fun x15 w => C .ret [.int .i64 x15] w) (fun ch w => C (.panic ch) [] w) | _, _ => False) (by kernel_rfl) (by kernel_rfl) T_q4h_hok ?_ ?_
 ·intro C X l u w hl hu
  obtain ⟨v0, _, rfl, k_v0, hl_v0⟩ := kC hl
  obtain ⟨i3, rfl⟩ := kind_int k_v0
  obtain rfl := kN hl_v0
  obtain ⟨v1, _, rfl, k_v1, hu_v1⟩ := kC hu
  obtain ⟨d4, rfl⟩ := kind_pointer k_v1
  obtain ⟨v2, _, rfl, k_v2, hu_v2⟩ := kC hu_v1
  obtain ⟨name5, rfl⟩ := kind_string k_v2
  obtain rfl := kN hu_v2
  exact T_q4h_eq C X i3 d4 name5 w
 ·intro l u w C hl hu
  obtain ⟨v0, _, rfl, k_v0, hl_v0⟩ := kC hl
  obtain ⟨i3, rfl⟩ := kind_int k_v0
  obtain rfl := kN hl_v0
  obtain ⟨v1, _, rfl, k_v1, hu_v1⟩ := kC hu
  obtain ⟨d4, rfl⟩ := kind_pointer k_v1
  obtain ⟨v2, _, rfl, k_v2, hu_v2⟩ := kC hu_v1
  obtain ⟨name5, rfl⟩ := kind_string k_v2
  obtain rfl := kN hu_v2
  constructor
  ·intro h X hX
   exact h (fun i3 w => X [.int .i64 i3] w) (fun i3 w hb => hX [.int .i64 i3] w ⟨rfl, trivial⟩ hb)
  ·intro h X hX
   exact h (fun l w => match l with | [v0] => X (pInt v0) w | _ => True) (fun l w hl hb => by
    obtain ⟨v0, _, rfl, k_v0, hl_v0⟩ := kC hl
    obtain ⟨i3, rfl⟩ := kind_int k_v0
    obtain rfl := kN hl_v0
    exact hX i3 w hb)
def T_q6d (d1 : Option Addr) (name2 : ByteArray) (w : World) (R : RT) : Prop :=
 T_q4h 0 d1 name2 w (fun w16 => R (.returned (.int .i64 (-1))) w16) (fun x17 w18 => R (.returned (.int .i64 x17)) w18) (pan R)
theorem T_q6d_hl : allP (hokL Tryz.prog (hookAt [(13, H_q4h)]) (bodyOf Tryz.f72) 1) = (UnitOk Tryz.prog H_q4h (at_ (bodyOf Tryz.f72) [1, 0, 1]) 13 ∧ True) := by kernel_rfl
theorem T_q6d_eq (d1 : Option Addr) (name2 : ByteArray) (w : World) (R : RT) : vcCode Tryz.prog (hookAt [(13, H_q4h)]) (bodyOf Tryz.f72) 1 ⟨argEnv [.pointer d1, .string name2] 0, Tryz.f72.ntmps, []⟩ w (finQ Tryz.prog Tryz.f72.results.toList R) = T_q6d d1 name2 w R := by kernel_rfl
theorem T_q6d_b : Tryz.f72.body = some (bodyOf Tryz.f72) := by kernel_rfl
theorem T_q6d_s : (quietSel (bodyOf Tryz.f72) && Nat.ble 2 Tryz.f72.ntmps) = true := by kernel_rfl
theorem C_q6d {d1 : Option Addr} {name2 : ByteArray} {w : World} {R : RT} (h : T_q6d d1 name2 w R) : Calls Tryz.prog 72 #[.pointer d1, .string name2] w R :=
 calls_of_text (args := [.pointer d1, .string name2]) mixed Tryz.func72 T_q6d_b T_q6d_s (HOk_of _ _ (by rw [T_q6d_hl]; exact ⟨T_q6d_1_ok, trivial⟩)) (by rw [T_q6d_eq]; exact h)
def T_q7u (c5 : Int) (w : World) (Kn : Bool → World → Prop) (Kp : XT) : Prop :=
 if (decide (c5 ≥ 97)) = true then (if (decide (c5 ≤ 122)) = true then (Kn true w) else (if (decide (c5 ≥ 48)) = true then (Kn (decide (c5 ≤ 57)) w) else (Kn false w))) else (if (decide (c5 ≥ 48)) = true then (Kn (decide (c5 ≤ 57)) w) else (Kn false w))
def T_q3f : Exit → Option (List (Nat × Value)) := fun x => match x with | .normal => some [(5, .bool false)] | .panic _ => some [] | _ => none
def T_q5i : Nat → Bool := ksOf [5, 15, 16, 17, 18, 19, 20, 21, 22, 23, 24, 25, 26, 27, 28]
def H_q7u : Env → World → QT → Prop := unitHook 47 T_q5i [(4, .int .u8 0)] T_q3f fun l w C => match l with | [v0] => T_q7u (pInt v0) w (fun letter7 w => C .normal [.bool letter7] w) (fun ch w => C (.panic ch) [] w) | _ => False
theorem T_q7u_hl : allP (hokL Tryz.prog (hookAt []) (at_ (bodyOf Tryz.f71) [1, 0, 1, 0, 0, 1, 0, 0, 1, 0]) 1682) = (True) := by kernel_rfl
theorem T_q7u_hok : HOk Tryz.prog (hookAt []) (at_ (bodyOf Tryz.f71) [1, 0, 1, 0, 0, 1, 0, 0, 1, 0]) 1682 := HOk_of _ _ (by rw [T_q7u_hl]; exact trivial)
theorem T_q7u_eq (C : Conts) (c5 : Int) (w : World) : vcCode Tryz.prog (hookAt []) (at_ (bodyOf Tryz.f71) [1, 0, 1, 0, 0, 1, 0, 0, 1, 0]) 1682 ⟨[(4, .int .u8 c5)], 47, []⟩ w (unitQ T_q3f C) = T_q7u c5 w (fun letter8 w => C .normal [.bool letter8] w) (fun ch w => C (.panic ch) [] w) := by kernel_rfl
theorem T_q8x_2_ok : UnitOk Tryz.prog H_q7u (at_ (bodyOf Tryz.f71) [1, 0, 1, 0, 0, 1, 0, 0, 1, 0]) 1682 := unit_ok (H := (hookAt [])) (by kernel_rfl) T_q7u_hok fun l w C hk => by
  obtain ⟨v0, _, rfl, k_v0, hk_v0⟩ := kC hk
  obtain ⟨c5, rfl⟩ := kind_int k_v0
  obtain rfl := kN hk_v0
  exact T_q7u_eq C c5 w
def T_q8x_1_body (X : Int → World → Prop) (i2 : Int) (s3 : ByteArray) (w : World) (Kn : World → Prop) (Kr : Bool → World → Prop) (Kp : XT)  : Prop :=
 if (decide (i2 < ((s3.size : Nat) : Int))) = true then (0 ≤ i2 ∧ ∃ c4, s3[i2.toNat]? = some c4 ∧ T_q7u ((c4.toNat : Nat) : Int) w (fun letter9 w10 => if (!letter9) = true then (if (((c4.toNat : Nat) : Int) != 45) = true then (if (((c4.toNat : Nat) : Int) != 46) = true then (Kr false w10) else (X (IntKind.wrap .i64 (i2 + 1)) w10)) else (X (IntKind.wrap .i64 (i2 + 1)) w10)) else (X (IntKind.wrap .i64 (i2 + 1)) w10)) Kp) else (Kn  w)
def T_q7t (i2 : Int) (s3 : ByteArray) (w : World) (Kn : World → Prop) (Kr : Bool → World → Prop) (Kp : XT) : Prop :=
 ∀ X : Int → World → Prop, (∀ (i2 : Int) (w : World), T_q8x_1_body X i2 s3 w Kn Kr Kp → X i2 w) → X i2 w
def T_q3e : Exit → Option (List (Nat × Value)) := fun x => match x with | .normal => some [] | .ret => some [(2, .bool false)] | .panic _ => some [] | _ => none
def T_q5h : Nat → Bool := ksOf [2, 3, 4, 5, 6, 7, 8, 9, 10, 11, 12, 13, 14, 15, 16, 17, 18, 19, 20, 21, 22, 23, 24, 25, 26, 27, 28, 29, 30, 31, 32, 33, 34, 35, 36, 37, 38]
def H_q7t : Env → World → QT → Prop := unitHook 47 T_q5h [(3, .int .i64 0), (0, .string default)] T_q3e fun l w C => match l with | [v0, v1] => T_q7t (pInt v0) (pStr v1) w (fun w => C .normal [] w) (fun b12 w => C .ret [.bool b12] w) (fun ch w => C (.panic ch) [] w) | _ => False
theorem T_q7t_hl : allP (hokL Tryz.prog (hookAt [(1682, H_q7u)]) (at_ (bodyOf Tryz.f71) [1, 0, 1, 0, 0]) 52) = (UnitOk Tryz.prog H_q7u (at_ (bodyOf Tryz.f71) [1, 0, 1, 0, 0, 1, 0, 0, 1, 0]) 1682 ∧ True) := by kernel_rfl
theorem T_q7t_hok : HOk Tryz.prog (hookAt [(1682, H_q7u)]) (at_ (bodyOf Tryz.f71) [1, 0, 1, 0, 0]) 52 := HOk_of _ _ (by rw [T_q7t_hl]; exact ⟨T_q8x_2_ok, trivial⟩)
theorem T_q7t_eq (C : Conts) (X : List Value → World → Prop) (i2 : Int) (s3 : ByteArray) (w : World) : vcCode Tryz.prog (hookAt [(1682, H_q7u)]) (at_ (bodyOf Tryz.f71) [1, 0, 1, 0, 0]) 52 ⟨[(3, .int .i64 i2)] ++ [(0, .string s3)], 47, []⟩ w (seqQ (fun e w => takeAll e [(3, .int .i64 0)] fun l => X l w) (blockQ 0 (unitQ T_q3e C))) = T_q8x_1_body (fun i2 w => X [.int .i64 i2] w) i2 s3 w (fun w => C .normal [] w) (fun b13 w => C .ret [.bool b13] w) (fun ch w => C (.panic ch) [] w) := by kernel_rfl
theorem T_q8x_1_ok : UnitOk Tryz.prog H_q7t (at_ (bodyOf Tryz.f71) [1, 0, 1]) 13 := by
 have hc : at_ (bodyOf Tryz.f71) [1, 0, 1] = .block 0 (.loop (at_ (bodyOf Tryz.f71) [1, 0, 1, 0, 0])) := by kernel_rfl
 rw [hc]
 refine loop_unit_ok (carr := [(3, .int .i64 0)]) (fix := [(0, .string default)]) (ks := T_q5h) (H := (hookAt [(1682, H_q7u)])) (B := fun C X l u w => match l, u with | [v0], [v1] => T_q8x_1_body (fun i2 w => X [.int .i64 i2] w) (pInt v0) (pStr v1) w (fun w => C .normal [] w) (fun b14 w => C .ret [.bool b14] w) (fun ch w => C (.panic ch) [] w) | _, _ => False) (by kernel_rfl) (by kernel_rfl) T_q7t_hok ?_ ?_
 ·intro C X l u w hl hu
  obtain ⟨v0, _, rfl, k_v0, hl_v0⟩ := kC hl
  obtain ⟨i2, rfl⟩ := kind_int k_v0
  obtain rfl := kN hl_v0
  obtain ⟨v1, _, rfl, k_v1, hu_v1⟩ := kC hu
  obtain ⟨s3, rfl⟩ := kind_string k_v1
  obtain rfl := kN hu_v1
  exact T_q7t_eq C X i2 s3 w
 ·intro l u w C hl hu
  obtain ⟨v0, _, rfl, k_v0, hl_v0⟩ := kC hl
  obtain ⟨i2, rfl⟩ := kind_int k_v0
  obtain rfl := kN hl_v0
  obtain ⟨v1, _, rfl, k_v1, hu_v1⟩ := kC hu
  obtain ⟨s3, rfl⟩ := kind_string k_v1
  obtain rfl := kN hu_v1
  constructor
  ·intro h X hX
   exact h (fun i2 w => X [.int .i64 i2] w) (fun i2 w hb => hX [.int .i64 i2] w ⟨rfl, trivial⟩ hb)
  ·intro h X hX
   exact h (fun l w => match l with | [v0] => X (pInt v0) w | _ => True) (fun l w hl hb => by
    obtain ⟨v0, _, rfl, k_v0, hl_v0⟩ := kC hl
    obtain ⟨i2, rfl⟩ := kind_int k_v0
    obtain rfl := kN hl_v0
    exact hX i2 w hb)
def T_q8x (s1 : ByteArray) (w : World) (R : RT) : Prop :=
 T_q7t 0 s1 w (fun w15 => if (decide (((s1.size : Nat) : Int) ≥ 1)) = true then (R (.returned (.bool (decide (((s1.size : Nat) : Int) ≤ 64)))) w15) else (R (.returned (.bool false)) w15)) (fun b16 w17 => R (.returned (.bool b16)) w17) (pan R)
theorem T_q8x_hl : allP (hokL Tryz.prog (hookAt [(13, H_q7t)]) (bodyOf Tryz.f71) 1) = (UnitOk Tryz.prog H_q7t (at_ (bodyOf Tryz.f71) [1, 0, 1]) 13 ∧ True) := by kernel_rfl
theorem T_q8x_eq (s1 : ByteArray) (w : World) (R : RT) : vcCode Tryz.prog (hookAt [(13, H_q7t)]) (bodyOf Tryz.f71) 1 ⟨argEnv [.string s1] 0, Tryz.f71.ntmps, []⟩ w (finQ Tryz.prog Tryz.f71.results.toList R) = T_q8x s1 w R := by kernel_rfl
theorem T_q8x_b : Tryz.f71.body = some (bodyOf Tryz.f71) := by kernel_rfl
theorem T_q8x_s : (quietSel (bodyOf Tryz.f71) && Nat.ble 1 Tryz.f71.ntmps) = true := by kernel_rfl
theorem C_q8x {s1 : ByteArray} {w : World} {R : RT} (h : T_q8x s1 w R) : Calls Tryz.prog 71 #[.string s1] w R :=
 calls_of_text (args := [.string s1]) mixed Tryz.func71 T_q8x_b T_q8x_s (HOk_of _ _ (by rw [T_q8x_hl]; exact ⟨T_q8x_1_ok, trivial⟩)) (by rw [T_q8x_eq]; exact h)
def T_q4g (d5 : Option Addr) (i6 : Int) (w : World) (Kn : Bool → World → Prop) (Kp : XT) : Prop :=
 if (!d5.isNone) = true then (∃ a7, d5 = some a7 ∧ ∃ (s8a : Option Addr) (s8l s8c : Nat), rd w (a7.add 1) (.slice s8a s8l s8c) ∧ Kn (decide (i6 < ((s8l : Nat) : Int))) w) else (Kn false w)
def T_q0y : Exit → Option (List (Nat × Value)) := fun x => match x with | .normal => some [(15, .bool false)] | .panic _ => some [] | _ => none
def T_q25 : Nat → Bool := ksOf [5, 6, 7, 8, 9, 10, 11, 12, 13, 14, 15]
def H_q4g : Env → World → QT → Prop := unitHook 30 T_q25 [(0, .pointer none), (4, .int .i64 0)] T_q0y fun l w C => match l with | [v0, v1] => T_q4g (pPtr v0) (pInt v1) w (fun b10 w => C .normal [.bool b10] w) (fun ch w => C (.panic ch) [] w) | _ => False
theorem T_q4g_hl : allP (hokL Tryz.prog (hookAt []) (at_ (bodyOf Tryz.f30) [1, 1, 0, 1, 0, 0, 0, 0]) 464) = (True) := by kernel_rfl
theorem T_q4g_hok : HOk Tryz.prog (hookAt []) (at_ (bodyOf Tryz.f30) [1, 1, 0, 1, 0, 0, 0, 0]) 464 := HOk_of _ _ (by rw [T_q4g_hl]; exact trivial)
theorem T_q4g_eq (C : Conts) (d5 : Option Addr) (i6 : Int) (w : World) : vcCode Tryz.prog (hookAt []) (at_ (bodyOf Tryz.f30) [1, 1, 0, 1, 0, 0, 0, 0]) 464 ⟨[(0, .pointer d5), (4, .int .i64 i6)], 30, []⟩ w (unitQ T_q0y C) = T_q4g d5 i6 w (fun b11 w => C .normal [.bool b11] w) (fun ch w => C (.panic ch) [] w) := by kernel_rfl
theorem T_q6c_2_ok : UnitOk Tryz.prog H_q4g (at_ (bodyOf Tryz.f30) [1, 1, 0, 1, 0, 0, 0, 0]) 464 := unit_ok (H := (hookAt [])) (by kernel_rfl) T_q4g_hok fun l w C hk => by
  obtain ⟨v0, _, rfl, k_v0, hk_v0⟩ := kC hk
  obtain ⟨d5, rfl⟩ := kind_pointer k_v0
  obtain ⟨v1, _, rfl, k_v1, hk_v1⟩ := kC hk_v0
  obtain ⟨i6, rfl⟩ := kind_int k_v1
  obtain rfl := kN hk_v1
  exact T_q4g_eq C d5 i6 w
def T_q6c_1_body (X : Int → Int → World → Prop) (n2 i3 : Int) (d4 : Option Addr) (w : World) (Kn : Int → World → Prop) (Kp : XT)  : Prop :=
 T_q4g d4 i3 w (fun b12 w13 => if b12 = true then (∃ a14, d4 = some a14 ∧ ∃ (s15a : Option Addr) (s15l s15c : Nat), rd w13 (a14.add 1) (.slice s15a s15l s15c) ∧ 0 ≤ i3 ∧ i3 < ((s15l : Nat) : Int) ∧ ∃ b16, s15a = some b16 ∧ ∃ (s17 : ByteArray) (b18 : Bool) (s19a : Option Addr) (s19l s19c : Nat) (s20a : Option Addr) (s20l s20c : Nat), rd w13 (b16.add (i3.toNat * 4)) (.agg #[.string s17, .bool b18, .slice s19a s19l s19c, .slice s20a s20l s20c]) ∧ Calls Tryz.prog 73 #[.agg #[.string s17, .bool b18, .slice s19a s19l s19c, .slice s20a s20l s20c]] w13 (ret (fun r21 w22 => ∃ (s23a : Option Addr) (s23l s23c : Nat), r21 = .slice s23a s23l s23c ∧ X (IntKind.wrap .i64 (n2 + ((s23l : Nat) : Int))) (IntKind.wrap .i64 (i3 + 1)) w22) Kp)) else (Kn n2 w13)) Kp
def T_q4f (n2 i3 : Int) (d4 : Option Addr) (w : World) (Kn : Int → World → Prop) (Kp : XT) : Prop :=
 ∀ X : Int → Int → World → Prop, (∀ (n2 i3 : Int) (w : World), T_q6c_1_body X n2 i3 d4 w Kn Kp → X n2 i3 w) → X n2 i3 w
def T_q0x : Exit → Option (List (Nat × Value)) := fun x => match x with | .normal => some [(3, .int .i64 0)] | .panic _ => some [] | _ => none
def T_q24 : Nat → Bool := ksOf [3, 4, 5, 6, 7, 8, 9, 10, 11, 12, 13, 14, 15, 16, 17, 18, 19, 20, 21, 22, 23, 24, 25, 26, 27, 28]
def H_q4f : Env → World → QT → Prop := unitHook 30 T_q24 [(3, .int .i64 0), (4, .int .i64 0), (0, .pointer none)] T_q0x fun l w C => match l with | [v0, v1, v2] => T_q4f (pInt v0) (pInt v1) (pPtr v2) w (fun n25 w => C .normal [.int .i64 n25] w) (fun ch w => C (.panic ch) [] w) | _ => False
theorem T_q4f_hl : allP (hokL Tryz.prog (hookAt [(464, H_q4g)]) (at_ (bodyOf Tryz.f30) [1, 1, 0, 1, 0, 0]) 116) = (UnitOk Tryz.prog H_q4g (at_ (bodyOf Tryz.f30) [1, 1, 0, 1, 0, 0, 0, 0]) 464 ∧ True) := by kernel_rfl
theorem T_q4f_hok : HOk Tryz.prog (hookAt [(464, H_q4g)]) (at_ (bodyOf Tryz.f30) [1, 1, 0, 1, 0, 0]) 116 := HOk_of _ _ (by rw [T_q4f_hl]; exact ⟨T_q6c_2_ok, trivial⟩)
theorem T_q4f_eq (C : Conts) (X : List Value → World → Prop) (n2 i3 : Int) (d4 : Option Addr) (w : World) : vcCode Tryz.prog (hookAt [(464, H_q4g)]) (at_ (bodyOf Tryz.f30) [1, 1, 0, 1, 0, 0]) 116 ⟨[(3, .int .i64 n2), (4, .int .i64 i3)] ++ [(0, .pointer d4)], 30, []⟩ w (seqQ (fun e w => takeAll e [(3, .int .i64 0), (4, .int .i64 0)] fun l => X l w) (blockQ 0 (unitQ T_q0x C))) = T_q6c_1_body (fun n2 i3 w => X [.int .i64 n2, .int .i64 i3] w) n2 i3 d4 w (fun n26 w => C .normal [.int .i64 n26] w) (fun ch w => C (.panic ch) [] w) := by kernel_rfl
theorem T_q6c_1_ok : UnitOk Tryz.prog H_q4f (at_ (bodyOf Tryz.f30) [1, 1, 0, 1]) 29 := by
 have hc : at_ (bodyOf Tryz.f30) [1, 1, 0, 1] = .block 0 (.loop (at_ (bodyOf Tryz.f30) [1, 1, 0, 1, 0, 0])) := by kernel_rfl
 rw [hc]
 refine loop_unit_ok (carr := [(3, .int .i64 0), (4, .int .i64 0)]) (fix := [(0, .pointer none)]) (ks := T_q24) (H := (hookAt [(464, H_q4g)])) (B := fun C X l u w => match l, u with | [v0, v1], [v2] => T_q6c_1_body (fun n2 i3 w => X [.int .i64 n2, .int .i64 i3] w) (pInt v0) (pInt v1) (pPtr v2) w (fun n27 w => C .normal [.int .i64 n27] w) (fun ch w => C (.panic ch) [] w) | _, _ => False) (by kernel_rfl) (by kernel_rfl) T_q4f_hok ?_ ?_
 ·intro C X l u w hl hu
  obtain ⟨v0, _, rfl, k_v0, hl_v0⟩ := kC hl
  obtain ⟨n2, rfl⟩ := kind_int k_v0
  obtain ⟨v1, _, rfl, k_v1, hl_v1⟩ := kC hl_v0
  obtain ⟨i3, rfl⟩ := kind_int k_v1
  obtain rfl := kN hl_v1
  obtain ⟨v2, _, rfl, k_v2, hu_v2⟩ := kC hu
  obtain ⟨d4, rfl⟩ := kind_pointer k_v2
  obtain rfl := kN hu_v2
  exact T_q4f_eq C X n2 i3 d4 w
 ·intro l u w C hl hu
  obtain ⟨v0, _, rfl, k_v0, hl_v0⟩ := kC hl
  obtain ⟨n2, rfl⟩ := kind_int k_v0
  obtain ⟨v1, _, rfl, k_v1, hl_v1⟩ := kC hl_v0
  obtain ⟨i3, rfl⟩ := kind_int k_v1
  obtain rfl := kN hl_v1
  obtain ⟨v2, _, rfl, k_v2, hu_v2⟩ := kC hu
  obtain ⟨d4, rfl⟩ := kind_pointer k_v2
  obtain rfl := kN hu_v2
  constructor
  ·intro h X hX
   exact h (fun n2 i3 w => X [.int .i64 n2, .int .i64 i3] w) (fun n2 i3 w hb => hX [.int .i64 n2, .int .i64 i3] w ⟨rfl, rfl, trivial⟩ hb)
  ·intro h X hX
   exact h (fun l w => match l with | [v0, v1] => X (pInt v0) (pInt v1) w | _ => True) (fun l w hl hb => by
    obtain ⟨v0, _, rfl, k_v0, hl_v0⟩ := kC hl
    obtain ⟨n2, rfl⟩ := kind_int k_v0
    obtain ⟨v1, _, rfl, k_v1, hl_v1⟩ := kC hl_v0
    obtain ⟨i3, rfl⟩ := kind_int k_v1
    obtain rfl := kN hl_v1
    exact hX n2 i3 w hb)
def T_q6c (d1 : Option Addr) (w : World) (R : RT) : Prop :=
 T_q4f 0 0 d1 w (fun n28 w29 => R (.returned (.int .i64 n28)) w29) (pan R)
theorem T_q6c_hl : allP (hokL Tryz.prog (hookAt [(29, H_q4f)]) (bodyOf Tryz.f30) 1) = (UnitOk Tryz.prog H_q4f (at_ (bodyOf Tryz.f30) [1, 1, 0, 1]) 29 ∧ True) := by kernel_rfl
theorem T_q6c_eq (d1 : Option Addr) (w : World) (R : RT) : vcCode Tryz.prog (hookAt [(29, H_q4f)]) (bodyOf Tryz.f30) 1 ⟨argEnv [.pointer d1] 0, Tryz.f30.ntmps, []⟩ w (finQ Tryz.prog Tryz.f30.results.toList R) = T_q6c d1 w R := by kernel_rfl
theorem T_q6c_b : Tryz.f30.body = some (bodyOf Tryz.f30) := by kernel_rfl
theorem T_q6c_s : (quietSel (bodyOf Tryz.f30) && Nat.ble 1 Tryz.f30.ntmps) = true := by kernel_rfl
theorem C_q6c {d1 : Option Addr} {w : World} {R : RT} (h : T_q6c d1 w R) : Calls Tryz.prog 30 #[.pointer d1] w R :=
 calls_of_text (args := [.pointer d1]) mixed Tryz.func30 T_q6c_b T_q6c_s (HOk_of _ _ (by rw [T_q6c_hl]; exact ⟨T_q6c_1_ok, trivial⟩)) (by rw [T_q6c_eq]; exact h)
def T_q8z (l13a : Option Addr) (l13l l13c : Nat) (f14 : Addr) (done15 : Bool) (i16 : Int) (w : World) (Kn : Bool → World → Prop) (Kp : XT) : Prop :=
 let w17 : World := w.drew
 if (!done15) = true then (0 ≤ i16 ∧ i16 < ((l13l : Nat) : Int) ∧ ∃ b18, l13a = some b18 ∧ ∃ s19 : ByteArray, rd w17 (b18.add (i16.toNat * 4)) (.string s19) ∧ ∃ s20 : ByteArray, rd w17 f14 (.string s20) ∧ Kn (!(Op.bytesLess s19.toList s20.toList)) w17) else (Kn false w17)
def T_q5k : Exit → Option (List (Nat × Value)) := fun x => match x with | .normal => some [(26, .bool false)] | .panic _ => some [] | _ => none
def T_q7d : Nat → Bool := ksOf [15, 16, 17, 18, 19, 20, 21, 22, 23, 24, 25, 26]
def H_q8z : Env → World → QT → Prop := unitHook 53 T_q7d [(0, .slice none 0 0), (3, .pointer (some ⟨0, 0, none⟩)), (6, .bool false), (7, .int .i64 0)] T_q5k fun l w C => match l with | [v0, v1, v2, v3] => T_q8z (pA v0) (pL v0) (pC v0) (pAddr v1) (pBool v2) (pInt v3) w (fun b22 w => C .normal [.bool b22] w) (fun ch w => C (.panic ch) [] w) | _ => False
theorem T_q8z_hl : allP (hokL Tryz.prog (hookAt []) (at_ (bodyOf Tryz.f74) [1, 1, 1, 0, 1, 0, 0, 1, 0, 0, 0, 0]) 7824) = (True) := by kernel_rfl
theorem T_q8z_hok : HOk Tryz.prog (hookAt []) (at_ (bodyOf Tryz.f74) [1, 1, 1, 0, 1, 0, 0, 1, 0, 0, 0, 0]) 7824 := HOk_of _ _ (by rw [T_q8z_hl]; exact trivial)
theorem T_q8z_eq (C : Conts) (l13a : Option Addr) (l13l l13c : Nat) (f14 : Addr) (done15 : Bool) (i16 : Int) (w : World) : vcCode Tryz.prog (hookAt []) (at_ (bodyOf Tryz.f74) [1, 1, 1, 0, 1, 0, 0, 1, 0, 0, 0, 0]) 7824 ⟨[(0, .slice l13a l13l l13c), (3, .pointer (some f14)), (6, .bool done15), (7, .int .i64 i16)], 53, []⟩ w (unitQ T_q5k C) = T_q8z l13a l13l l13c f14 done15 i16 w (fun b23 w => C .normal [.bool b23] w) (fun ch w => C (.panic ch) [] w) := by kernel_rfl
theorem T_qa0_2_ok : UnitOk Tryz.prog H_q8z (at_ (bodyOf Tryz.f74) [1, 1, 1, 0, 1, 0, 0, 1, 0, 0, 0, 0]) 7824 := unit_ok (H := (hookAt [])) (by kernel_rfl) T_q8z_hok fun l w C hk => by
  obtain ⟨v0, _, rfl, k_v0, hk_v0⟩ := kC hk
  obtain ⟨l13a, l13l, l13c, rfl⟩ := kind_slice k_v0
  obtain ⟨v1, _, rfl, k_v1, hk_v1⟩ := kC hk_v0
  obtain ⟨f14, rfl⟩ := kind_addr k_v1
  obtain ⟨v2, _, rfl, k_v2, hk_v2⟩ := kC hk_v1
  obtain ⟨done15, rfl⟩ := kind_bool k_v2
  obtain ⟨v3, _, rfl, k_v3, hk_v3⟩ := kC hk_v2
  obtain ⟨i16, rfl⟩ := kind_int k_v3
  obtain rfl := kN hk_v3
  exact T_q8z_eq C l13a l13l l13c f14 done15 i16 w
def T_q90 (f26 : Addr) (out27a : Option Addr) (out27l out27c : Nat) (done28 b29 : Bool) (w : World) (Kn : Option Addr → Nat → Nat → Bool → World → Prop) (Kp : XT) : Prop :=
 if b29 = true then (∃ (s30 : ByteArray) (b31 : Bool) (s32a : Option Addr) (s32l s32c : Nat) (s33a : Option Addr) (s33l s33c : Nat), rd w f26 (.agg #[.string s30, .bool b31, .slice s32a s32l s32c, .slice s33a s33l s33c]) ∧ let w34 : World := w.alloc (.cells #[.string s30, .bool b31, .slice s32a s32l s32c, .slice s33a s33l s33c] 108)
 runV Tryz.prog (Builtin.append_ #[88, 88] 88 #[.slice out27a out27l out27c, .slice (some (⟨w.heap.size, 0, none⟩ : Addr)) 1 1]) w34 (fun r35 w36 => ∃ (s37a : Option Addr) (s37l s37c : Nat), r35 = .slice s37a s37l s37c ∧ Kn s37a s37l s37c true w36) Kp) else (Kn out27a out27l out27c done28 w)
def T_q5l : Exit → Option (List (Nat × Value)) := fun x => match x with | .normal => some [(5, .slice none 0 0), (6, .bool false)] | .panic _ => some [] | _ => none
def T_q7e : Nat → Bool := ksOf [5, 6, 27, 28, 29, 30]
def H_q90 : Env → World → QT → Prop := unitHook 53 T_q7e [(3, .pointer (some ⟨0, 0, none⟩)), (5, .slice none 0 0), (6, .bool false), (26, .bool false)] T_q5l fun l w C => match l with | [v0, v1, v2, v3] => T_q90 (pAddr v0) (pA v1) (pL v1) (pC v1) (pBool v2) (pBool v3) w (fun out40a out40l out40c done41 w => C .normal [.slice out40a out40l out40c, .bool done41] w) (fun ch w => C (.panic ch) [] w) | _ => False
theorem T_q90_hl : allP (hokL Tryz.prog (hookAt []) (at_ (bodyOf Tryz.f74) [1, 1, 1, 0, 1, 0, 0, 1, 0, 0, 0, 1]) 7825) = (True) := by kernel_rfl
theorem T_q90_hok : HOk Tryz.prog (hookAt []) (at_ (bodyOf Tryz.f74) [1, 1, 1, 0, 1, 0, 0, 1, 0, 0, 0, 1]) 7825 := HOk_of _ _ (by rw [T_q90_hl]; exact trivial)
theorem T_q90_eq (C : Conts) (f26 : Addr) (out27a : Option Addr) (out27l out27c : Nat) (done28 b29 : Bool) (w : World) : vcCode Tryz.prog (hookAt []) (at_ (bodyOf Tryz.f74) [1, 1, 1, 0, 1, 0, 0, 1, 0, 0, 0, 1]) 7825 ⟨[(3, .pointer (some f26)), (5, .slice out27a out27l out27c), (6, .bool done28), (26, .bool b29)], 53, []⟩ w (unitQ T_q5l C) = T_q90 f26 out27a out27l out27c done28 b29 w (fun out42a out42l out42c done43 w => C .normal [.slice out42a out42l out42c, .bool done43] w) (fun ch w => C (.panic ch) [] w) := by kernel_rfl
theorem T_qa0_3_ok : UnitOk Tryz.prog H_q90 (at_ (bodyOf Tryz.f74) [1, 1, 1, 0, 1, 0, 0, 1, 0, 0, 0, 1]) 7825 := unit_ok (H := (hookAt [])) (by kernel_rfl) T_q90_hok fun l w C hk => by
  obtain ⟨v0, _, rfl, k_v0, hk_v0⟩ := kC hk
  obtain ⟨f26, rfl⟩ := kind_addr k_v0
  obtain ⟨v1, _, rfl, k_v1, hk_v1⟩ := kC hk_v0
  obtain ⟨out27a, out27l, out27c, rfl⟩ := kind_slice k_v1
  obtain ⟨v2, _, rfl, k_v2, hk_v2⟩ := kC hk_v1
  obtain ⟨done28, rfl⟩ := kind_bool k_v2
  obtain ⟨v3, _, rfl, k_v3, hk_v3⟩ := kC hk_v2
  obtain ⟨b29, rfl⟩ := kind_bool k_v3
  obtain rfl := kN hk_v3
  exact T_q90_eq C f26 out27a out27l out27c done28 b29 w
def T_qa0_1_body (X : Option Addr → Nat → Nat → Bool → Int → World → Prop) (out8a : Option Addr) (out8l out8c : Nat) (done9 : Bool) (i10 : Int) (l11a : Option Addr) (l11l l11c : Nat) (f12 : Addr) (w : World) (Kn : Option Addr → Nat → Nat → Bool → World → Prop) (Kp : XT)  : Prop :=
 if (decide (i10 < ((l11l : Nat) : Int))) = true then (T_q8z l11a l11l l11c f12 done9 i10 w (fun b24 w25 => T_q90 f12 out8a out8l out8c done9 b24 w25 (fun out44a out44l out44c done45 w46 => let w47 : World := w46.drew
 0 ≤ i10 ∧ i10 < ((l11l : Nat) : Int) ∧ ∃ b48, l11a = some b48 ∧ ∃ s49 : ByteArray, rd w47 (b48.add (i10.toNat * 4)) (.string s49) ∧ ∃ s50 : ByteArray, rd w47 f12 (.string s50) ∧ if (!(s49.toList == s50.toList)) = true then (0 ≤ i10 ∧ i10 < ((l11l : Nat) : Int) ∧ ∃ b51, l11a = some b51 ∧ ∃ (s52 : ByteArray) (b53 : Bool) (s54a : Option Addr) (s54l s54c : Nat) (s55a : Option Addr) (s55l s55c : Nat), rd w47 (b51.add (i10.toNat * 4)) (.agg #[.string s52, .bool b53, .slice s54a s54l s54c, .slice s55a s55l s55c]) ∧ let w56 : World := w47.alloc (.cells #[.string s52, .bool b53, .slice s54a s54l s54c, .slice s55a s55l s55c] 108)
 runV Tryz.prog (Builtin.append_ #[88, 88] 88 #[.slice out44a out44l out44c, .slice (some (⟨w47.heap.size, 0, none⟩ : Addr)) 1 1]) w56 (fun r57 w58 => ∃ (s59a : Option Addr) (s59l s59c : Nat), r57 = .slice s59a s59l s59c ∧ X s59a s59l s59c done45 (IntKind.wrap .i64 (i10 + 1)) w58) Kp) else (X out44a out44l out44c done45 (IntKind.wrap .i64 (i10 + 1)) w47)) Kp) Kp) else (Kn out8a out8l out8c done9 w)
def T_q8y (out8a : Option Addr) (out8l out8c : Nat) (done9 : Bool) (i10 : Int) (l11a : Option Addr) (l11l l11c : Nat) (f12 : Addr) (w : World) (Kn : Option Addr → Nat → Nat → Bool → World → Prop) (Kp : XT) : Prop :=
 ∀ X : Option Addr → Nat → Nat → Bool → Int → World → Prop, (∀ (out8a : Option Addr) (out8l out8c : Nat) (done9 : Bool) (i10 : Int) (w : World), T_qa0_1_body X out8a out8l out8c done9 i10 l11a l11l l11c f12 w Kn Kp → X out8a out8l out8c done9 i10 w) → X out8a out8l out8c done9 i10 w
def T_q5j : Exit → Option (List (Nat × Value)) := fun x => match x with | .normal => some [(5, .slice none 0 0), (6, .bool false)] | .panic _ => some [] | _ => none
def T_q7c : Nat → Bool := ksOf [5, 6, 7, 9, 10, 11, 12, 13, 14, 15, 16, 17, 18, 19, 20, 21, 22, 23, 24, 25, 26, 27, 28, 29, 30, 31, 32, 33, 34, 35, 36, 37, 38, 39, 40, 41, 42, 43, 44, 45]
def H_q8y : Env → World → QT → Prop := unitHook 53 T_q7c [(5, .slice none 0 0), (6, .bool false), (7, .int .i64 0), (0, .slice none 0 0), (3, .pointer (some ⟨0, 0, none⟩))] T_q5j fun l w C => match l with | [v0, v1, v2, v3, v4] => T_q8y (pA v0) (pL v0) (pC v0) (pBool v1) (pInt v2) (pA v3) (pL v3) (pC v3) (pAddr v4) w (fun out62a out62l out62c done63 w => C .normal [.slice out62a out62l out62c, .bool done63] w) (fun ch w => C (.panic ch) [] w) | _ => False
theorem T_q8y_hl : allP (hokL Tryz.prog (hookAt [(7824, H_q8z), (7825, H_q90)]) (at_ (bodyOf Tryz.f74) [1, 1, 1, 0, 1, 0, 0]) 244) = (UnitOk Tryz.prog H_q8z (at_ (bodyOf Tryz.f74) [1, 1, 1, 0, 1, 0, 0, 1, 0, 0, 0, 0]) 7824 ∧ UnitOk Tryz.prog H_q90 (at_ (bodyOf Tryz.f74) [1, 1, 1, 0, 1, 0, 0, 1, 0, 0, 0, 1]) 7825 ∧ True) := by kernel_rfl
theorem T_q8y_hok : HOk Tryz.prog (hookAt [(7824, H_q8z), (7825, H_q90)]) (at_ (bodyOf Tryz.f74) [1, 1, 1, 0, 1, 0, 0]) 244 := HOk_of _ _ (by rw [T_q8y_hl]; exact ⟨T_qa0_2_ok, T_qa0_3_ok, trivial⟩)
theorem T_q8y_eq (C : Conts) (X : List Value → World → Prop) (out8a : Option Addr) (out8l out8c : Nat) (done9 : Bool) (i10 : Int) (l11a : Option Addr) (l11l l11c : Nat) (f12 : Addr) (w : World) : vcCode Tryz.prog (hookAt [(7824, H_q8z), (7825, H_q90)]) (at_ (bodyOf Tryz.f74) [1, 1, 1, 0, 1, 0, 0]) 244 ⟨[(5, .slice out8a out8l out8c), (6, .bool done9), (7, .int .i64 i10)] ++ [(0, .slice l11a l11l l11c), (3, .pointer (some f12))], 53, []⟩ w (seqQ (fun e w => takeAll e [(5, .slice none 0 0), (6, .bool false), (7, .int .i64 0)] fun l => X l w) (blockQ 0 (unitQ T_q5j C))) = T_qa0_1_body (fun out8a out8l out8c done9 i10 w => X [.slice out8a out8l out8c, .bool done9, .int .i64 i10] w) out8a out8l out8c done9 i10 l11a l11l l11c f12 w (fun out64a out64l out64c done65 w => C .normal [.slice out64a out64l out64c, .bool done65] w) (fun ch w => C (.panic ch) [] w) := by kernel_rfl
theorem T_qa0_1_ok : UnitOk Tryz.prog H_q8y (at_ (bodyOf Tryz.f74) [1, 1, 1, 0, 1]) 61 := by
 have hc : at_ (bodyOf Tryz.f74) [1, 1, 1, 0, 1] = .block 0 (.loop (at_ (bodyOf Tryz.f74) [1, 1, 1, 0, 1, 0, 0])) := by kernel_rfl
 rw [hc]
 refine loop_unit_ok (carr := [(5, .slice none 0 0), (6, .bool false), (7, .int .i64 0)]) (fix := [(0, .slice none 0 0), (3, .pointer (some ⟨0, 0, none⟩))]) (ks := T_q7c) (H := (hookAt [(7824, H_q8z), (7825, H_q90)])) (B := fun C X l u w => match l, u with | [v0, v1, v2], [v3, v4] => T_qa0_1_body (fun out8a out8l out8c done9 i10 w => X [.slice out8a out8l out8c, .bool done9, .int .i64 i10] w) (pA v0) (pL v0) (pC v0) (pBool v1) (pInt v2) (pA v3) (pL v3) (pC v3) (pAddr v4) w (fun out66a out66l out66c done67 w => C .normal [.slice out66a out66l out66c, .bool done67] w) (fun ch w => C (.panic ch) [] w) | _, _ => False) (by kernel_rfl) (by kernel_rfl) T_q8y_hok ?_ ?_
 ·intro C X l u w hl hu
  obtain ⟨v0, _, rfl, k_v0, hl_v0⟩ := kC hl
  obtain ⟨out8a, out8l, out8c, rfl⟩ := kind_slice k_v0
  obtain ⟨v1, _, rfl, k_v1, hl_v1⟩ := kC hl_v0
  obtain ⟨done9, rfl⟩ := kind_bool k_v1
  obtain ⟨v2, _, rfl, k_v2, hl_v2⟩ := kC hl_v1
  obtain ⟨i10, rfl⟩ := kind_int k_v2
  obtain rfl := kN hl_v2
  obtain ⟨v3, _, rfl, k_v3, hu_v3⟩ := kC hu
  obtain ⟨l11a, l11l, l11c, rfl⟩ := kind_slice k_v3
  obtain ⟨v4, _, rfl, k_v4, hu_v4⟩ := kC hu_v3
  obtain ⟨f12, rfl⟩ := kind_addr k_v4
  obtain rfl := kN hu_v4
  exact T_q8y_eq C X out8a out8l out8c done9 i10 l11a l11l l11c f12 w
 ·intro l u w C hl hu
  obtain ⟨v0, _, rfl, k_v0, hl_v0⟩ := kC hl
  obtain ⟨out8a, out8l, out8c, rfl⟩ := kind_slice k_v0
  obtain ⟨v1, _, rfl, k_v1, hl_v1⟩ := kC hl_v0
  obtain ⟨done9, rfl⟩ := kind_bool k_v1
  obtain ⟨v2, _, rfl, k_v2, hl_v2⟩ := kC hl_v1
  obtain ⟨i10, rfl⟩ := kind_int k_v2
  obtain rfl := kN hl_v2
  obtain ⟨v3, _, rfl, k_v3, hu_v3⟩ := kC hu
  obtain ⟨l11a, l11l, l11c, rfl⟩ := kind_slice k_v3
  obtain ⟨v4, _, rfl, k_v4, hu_v4⟩ := kC hu_v3
  obtain ⟨f12, rfl⟩ := kind_addr k_v4
  obtain rfl := kN hu_v4
  constructor
  ·intro h X hX
   exact h (fun out8a out8l out8c done9 i10 w => X [.slice out8a out8l out8c, .bool done9, .int .i64 i10] w) (fun out8a out8l out8c done9 i10 w hb => hX [.slice out8a out8l out8c, .bool done9, .int .i64 i10] w ⟨rfl, rfl, rfl, trivial⟩ hb)
  ·intro h X hX
   exact h (fun l w => match l with | [v0, v1, v2] => X (pA v0) (pL v0) (pC v0) (pBool v1) (pInt v2) w | _ => True) (fun l w hl hb => by
    obtain ⟨v0, _, rfl, k_v0, hl_v0⟩ := kC hl
    obtain ⟨out8a, out8l, out8c, rfl⟩ := kind_slice k_v0
    obtain ⟨v1, _, rfl, k_v1, hl_v1⟩ := kC hl_v0
    obtain ⟨done9, rfl⟩ := kind_bool k_v1
    obtain ⟨v2, _, rfl, k_v2, hl_v2⟩ := kC hl_v1
    obtain ⟨i10, rfl⟩ := kind_int k_v2
    obtain rfl := kN hl_v2
    exact hX out8a out8l out8c done9 i10 w hb)
def T_qa0 (l1a : Option Addr) (l1l l1c : Nat) (s2 : ByteArray) (b3 : Bool) (s4a : Option Addr) (s4l s4c : Nat) (s5a : Option Addr) (s5l s5c : Nat) (w : World) (R : RT) : Prop :=
 let w6 : World := w.alloc (.cells #[.string s2, .bool b3, .slice s4a s4l s4c, .slice s5a s5l s5c] 108)
 let w7 : World := w6.alloc (.cells #[] 108)
 T_q8y (some (⟨w6.heap.size, 0, none⟩ : Addr)) 0 0 false 0 l1a l1l l1c (⟨w.heap.size, 0, none⟩ : Addr) w7 (fun out68a out68l out68c done69 w70 => if (!done69) = true then (∃ (s71 : ByteArray) (b72 : Bool) (s73a : Option Addr) (s73l s73c : Nat) (s74a : Option Addr) (s74l s74c : Nat), rd w70 (⟨w.heap.size, 0, none⟩ : Addr) (.agg #[.string s71, .bool b72, .slice s73a s73l s73c, .slice s74a s74l s74c]) ∧ let w75 : World := w70.alloc (.cells #[.string s71, .bool b72, .slice s73a s73l s73c, .slice s74a s74l s74c] 108)
 runV Tryz.prog (Builtin.append_ #[88, 88] 88 #[.slice out68a out68l out68c, .slice (some (⟨w70.heap.size, 0, none⟩ : Addr)) 1 1]) w75 (fun r76 w77 => ∃ (s78a : Option Addr) (s78l s78c : Nat), r76 = .slice s78a s78l s78c ∧ R (.returned (.slice s78a s78l s78c)) w77) (pan R)) else (R (.returned (.slice out68a out68l out68c)) w70)) (pan R)
theorem T_qa0_hl : allP (hokL Tryz.prog (hookAt [(61, H_q8y)]) (bodyOf Tryz.f74) 1) = (UnitOk Tryz.prog H_q8y (at_ (bodyOf Tryz.f74) [1, 1, 1, 0, 1]) 61 ∧ True) := by kernel_rfl
theorem T_qa0_eq (l1a : Option Addr) (l1l l1c : Nat) (s2 : ByteArray) (b3 : Bool) (s4a : Option Addr) (s4l s4c : Nat) (s5a : Option Addr) (s5l s5c : Nat) (w : World) (R : RT) : vcCode Tryz.prog (hookAt [(61, H_q8y)]) (bodyOf Tryz.f74) 1 ⟨argEnv [.slice l1a l1l l1c, .agg #[.string s2, .bool b3, .slice s4a s4l s4c, .slice s5a s5l s5c]] 0, Tryz.f74.ntmps, []⟩ w (finQ Tryz.prog Tryz.f74.results.toList R) = T_qa0 l1a l1l l1c s2 b3 s4a s4l s4c s5a s5l s5c w R := by kernel_rfl
theorem T_qa0_b : Tryz.f74.body = some (bodyOf Tryz.f74) := by kernel_rfl
theorem T_qa0_s : (quietSel (bodyOf Tryz.f74) && Nat.ble 2 Tryz.f74.ntmps) = true := by kernel_rfl
theorem C_qa0 {l1a : Option Addr} {l1l l1c : Nat} {s2 : ByteArray} {b3 : Bool} {s4a : Option Addr} {s4l s4c : Nat} {s5a : Option Addr} {s5l s5c : Nat} {w : World} {R : RT} (h : T_qa0 l1a l1l l1c s2 b3 s4a s4l s4c s5a s5l s5c w R) : Calls Tryz.prog 74 #[.slice l1a l1l l1c, .agg #[.string s2, .bool b3, .slice s4a s4l s4c, .slice s5a s5l s5c]] w R :=
 calls_of_text (args := [.slice l1a l1l l1c, .agg #[.string s2, .bool b3, .slice s4a s4l s4c, .slice s5a s5l s5c]]) mixed Tryz.func74 T_qa0_b T_qa0_s (HOk_of _ _ (by rw [T_qa0_hl]; exact ⟨T_qa0_1_ok, trivial⟩)) (by rw [T_qa0_eq]; exact h)
def T_q7v_1_body (X : Option Addr → Nat → Nat → Int → World → Prop) (out4a : Option Addr) (out4l out4c : Nat) (i5 : Int) (l6a : Option Addr) (l6l l6c : Nat) (name7 : ByteArray) (w : World) (Kn : Option Addr → Nat → Nat → World → Prop) (Kp : XT)  : Prop :=
 if (decide (i5 < ((l6l : Nat) : Int))) = true then (0 ≤ i5 ∧ i5 < ((l6l : Nat) : Int) ∧ ∃ b8, l6a = some b8 ∧ ∃ s9 : ByteArray, rd w (b8.add (i5.toNat * 4)) (.string s9) ∧ if (!(s9.toList == name7.toList)) = true then (0 ≤ i5 ∧ i5 < ((l6l : Nat) : Int) ∧ ∃ b10, l6a = some b10 ∧ ∃ (s11 : ByteArray) (b12 : Bool) (s13a : Option Addr) (s13l s13c : Nat) (s14a : Option Addr) (s14l s14c : Nat), rd w (b10.add (i5.toNat * 4)) (.agg #[.string s11, .bool b12, .slice s13a s13l s13c, .slice s14a s14l s14c]) ∧ let w15 : World := w.alloc (.cells #[.string s11, .bool b12, .slice s13a s13l s13c, .slice s14a s14l s14c] 108)
 runV Tryz.prog (Builtin.append_ #[88, 88] 88 #[.slice out4a out4l out4c, .slice (some (⟨w.heap.size, 0, none⟩ : Addr)) 1 1]) w15 (fun r16 w17 => ∃ (s18a : Option Addr) (s18l s18c : Nat), r16 = .slice s18a s18l s18c ∧ X s18a s18l s18c (IntKind.wrap .i64 (i5 + 1)) w17) Kp) else (X out4a out4l out4c (IntKind.wrap .i64 (i5 + 1)) w)) else (Kn out4a out4l out4c w)
def T_q6h (out4a : Option Addr) (out4l out4c : Nat) (i5 : Int) (l6a : Option Addr) (l6l l6c : Nat) (name7 : ByteArray) (w : World) (Kn : Option Addr → Nat → Nat → World → Prop) (Kp : XT) : Prop :=
 ∀ X : Option Addr → Nat → Nat → Int → World → Prop, (∀ (out4a : Option Addr) (out4l out4c : Nat) (i5 : Int) (w : World), T_q7v_1_body X out4a out4l out4c i5 l6a l6l l6c name7 w Kn Kp → X out4a out4l out4c i5 w) → X out4a out4l out4c i5 w
def T_q28 : Exit → Option (List (Nat × Value)) := fun x => match x with | .normal => some [(5, .slice none 0 0)] | .panic _ => some [] | _ => none
def T_q3g : Nat → Bool := ksOf [5, 6, 8, 9, 10, 11, 12, 13, 14, 15, 16, 17, 18, 19, 20, 21, 22, 23, 24, 25, 26, 27]
def H_q6h : Env → World → QT → Prop := unitHook 29 T_q3g [(5, .slice none 0 0), (6, .int .i64 0), (0, .slice none 0 0), (1, .string default)] T_q28 fun l w C => match l with | [v0, v1, v2, v3] => T_q6h (pA v0) (pL v0) (pC v0) (pInt v1) (pA v2) (pL v2) (pC v2) (pStr v3) w (fun out20a out20l out20c w => C .normal [.slice out20a out20l out20c] w) (fun ch w => C (.panic ch) [] w) | _ => False
theorem T_q6h_hl : allP (hokL Tryz.prog (hookAt []) (at_ (bodyOf Tryz.f99) [1, 1, 0, 1, 0, 0]) 116) = (True) := by kernel_rfl
theorem T_q6h_hok : HOk Tryz.prog (hookAt []) (at_ (bodyOf Tryz.f99) [1, 1, 0, 1, 0, 0]) 116 := HOk_of _ _ (by rw [T_q6h_hl]; exact trivial)
theorem T_q6h_eq (C : Conts) (X : List Value → World → Prop) (out4a : Option Addr) (out4l out4c : Nat) (i5 : Int) (l6a : Option Addr) (l6l l6c : Nat) (name7 : ByteArray) (w : World) : vcCode Tryz.prog (hookAt []) (at_ (bodyOf Tryz.f99) [1, 1, 0, 1, 0, 0]) 116 ⟨[(5, .slice out4a out4l out4c), (6, .int .i64 i5)] ++ [(0, .slice l6a l6l l6c), (1, .string name7)], 29, []⟩ w (seqQ (fun e w => takeAll e [(5, .slice none 0 0), (6, .int .i64 0)] fun l => X l w) (blockQ 0 (unitQ T_q28 C))) = T_q7v_1_body (fun out4a out4l out4c i5 w => X [.slice out4a out4l out4c, .int .i64 i5] w) out4a out4l out4c i5 l6a l6l l6c name7 w (fun out21a out21l out21c w => C .normal [.slice out21a out21l out21c] w) (fun ch w => C (.panic ch) [] w) := by kernel_rfl
theorem T_q7v_1_ok : UnitOk Tryz.prog H_q6h (at_ (bodyOf Tryz.f99) [1, 1, 0, 1]) 29 := by
 have hc : at_ (bodyOf Tryz.f99) [1, 1, 0, 1] = .block 0 (.loop (at_ (bodyOf Tryz.f99) [1, 1, 0, 1, 0, 0])) := by kernel_rfl
 rw [hc]
 refine loop_unit_ok (carr := [(5, .slice none 0 0), (6, .int .i64 0)]) (fix := [(0, .slice none 0 0), (1, .string default)]) (ks := T_q3g) (H := (hookAt [])) (B := fun C X l u w => match l, u with | [v0, v1], [v2, v3] => T_q7v_1_body (fun out4a out4l out4c i5 w => X [.slice out4a out4l out4c, .int .i64 i5] w) (pA v0) (pL v0) (pC v0) (pInt v1) (pA v2) (pL v2) (pC v2) (pStr v3) w (fun out22a out22l out22c w => C .normal [.slice out22a out22l out22c] w) (fun ch w => C (.panic ch) [] w) | _, _ => False) (by kernel_rfl) (by kernel_rfl) T_q6h_hok ?_ ?_
 ·intro C X l u w hl hu
  obtain ⟨v0, _, rfl, k_v0, hl_v0⟩ := kC hl
  obtain ⟨out4a, out4l, out4c, rfl⟩ := kind_slice k_v0
  obtain ⟨v1, _, rfl, k_v1, hl_v1⟩ := kC hl_v0
  obtain ⟨i5, rfl⟩ := kind_int k_v1
  obtain rfl := kN hl_v1
  obtain ⟨v2, _, rfl, k_v2, hu_v2⟩ := kC hu
  obtain ⟨l6a, l6l, l6c, rfl⟩ := kind_slice k_v2
  obtain ⟨v3, _, rfl, k_v3, hu_v3⟩ := kC hu_v2
  obtain ⟨name7, rfl⟩ := kind_string k_v3
  obtain rfl := kN hu_v3
  exact T_q6h_eq C X out4a out4l out4c i5 l6a l6l l6c name7 w
 ·intro l u w C hl hu
  obtain ⟨v0, _, rfl, k_v0, hl_v0⟩ := kC hl
  obtain ⟨out4a, out4l, out4c, rfl⟩ := kind_slice k_v0
  obtain ⟨v1, _, rfl, k_v1, hl_v1⟩ := kC hl_v0
  obtain ⟨i5, rfl⟩ := kind_int k_v1
  obtain rfl := kN hl_v1
  obtain ⟨v2, _, rfl, k_v2, hu_v2⟩ := kC hu
  obtain ⟨l6a, l6l, l6c, rfl⟩ := kind_slice k_v2
  obtain ⟨v3, _, rfl, k_v3, hu_v3⟩ := kC hu_v2
  obtain ⟨name7, rfl⟩ := kind_string k_v3
  obtain rfl := kN hu_v3
  constructor
  ·intro h X hX
   exact h (fun out4a out4l out4c i5 w => X [.slice out4a out4l out4c, .int .i64 i5] w) (fun out4a out4l out4c i5 w hb => hX [.slice out4a out4l out4c, .int .i64 i5] w ⟨rfl, rfl, trivial⟩ hb)
  ·intro h X hX
   exact h (fun l w => match l with | [v0, v1] => X (pA v0) (pL v0) (pC v0) (pInt v1) w | _ => True) (fun l w hl hb => by
    obtain ⟨v0, _, rfl, k_v0, hl_v0⟩ := kC hl
    obtain ⟨out4a, out4l, out4c, rfl⟩ := kind_slice k_v0
    obtain ⟨v1, _, rfl, k_v1, hl_v1⟩ := kC hl_v0
    obtain ⟨i5, rfl⟩ := kind_int k_v1
    obtain rfl := kN hl_v1
    exact hX out4a out4l out4c i5 w hb)
def T_q7v (l1a : Option Addr) (l1l l1c : Nat) (name2 : ByteArray) (w : World) (R : RT) : Prop :=
 let w3 : World := w.alloc (.cells #[] 108)
 T_q6h (some (⟨w.heap.size, 0, none⟩ : Addr)) 0 0 0 l1a l1l l1c name2 w3 (fun out23a out23l out23c w24 => R (.returned (.slice out23a out23l out23c)) w24) (pan R)
theorem T_q7v_hl : allP (hokL Tryz.prog (hookAt [(29, H_q6h)]) (bodyOf Tryz.f99) 1) = (UnitOk Tryz.prog H_q6h (at_ (bodyOf Tryz.f99) [1, 1, 0, 1]) 29 ∧ True) := by kernel_rfl
theorem T_q7v_eq (l1a : Option Addr) (l1l l1c : Nat) (name2 : ByteArray) (w : World) (R : RT) : vcCode Tryz.prog (hookAt [(29, H_q6h)]) (bodyOf Tryz.f99) 1 ⟨argEnv [.slice l1a l1l l1c, .string name2] 0, Tryz.f99.ntmps, []⟩ w (finQ Tryz.prog Tryz.f99.results.toList R) = T_q7v l1a l1l l1c name2 w R := by kernel_rfl
theorem T_q7v_b : Tryz.f99.body = some (bodyOf Tryz.f99) := by kernel_rfl
theorem T_q7v_s : (quietSel (bodyOf Tryz.f99) && Nat.ble 2 Tryz.f99.ntmps) = true := by kernel_rfl
theorem C_q7v {l1a : Option Addr} {l1l l1c : Nat} {name2 : ByteArray} {w : World} {R : RT} (h : T_q7v l1a l1l l1c name2 w R) : Calls Tryz.prog 99 #[.slice l1a l1l l1c, .string name2] w R :=
 calls_of_text (args := [.slice l1a l1l l1c, .string name2]) mixed Tryz.func99 T_q7v_b T_q7v_s (HOk_of _ _ (by rw [T_q7v_hl]; exact ⟨T_q7v_1_ok, trivial⟩)) (by rw [T_q7v_eq]; exact h)
def T_q39 (d13 : Option Addr) (k14 : Int) (f15 : Addr) (b16 : Bool) (w : World) (Kn : World → Prop) (Kp : XT) : Prop :=
 if b16 = true then (∃ a17, d13 = some a17 ∧ ∃ (s18a : Option Addr) (s18l s18c : Nat), rd w (a17.add 1) (.slice s18a s18l s18c) ∧ 0 ≤ k14 ∧ k14 < ((s18l : Nat) : Int) ∧ ∃ b19, s18a = some b19 ∧ ∃ (s20 : ByteArray) (b21 : Bool) (s22a : Option Addr) (s22l s22c : Nat) (s23a : Option Addr) (s23l s23c : Nat), rd w (b19.add (k14.toNat * 4)) (.agg #[.string s20, .bool b21, .slice s22a s22l s22c, .slice s23a s23l s23c]) ∧ (.agg #[.string s20, .bool b21, .slice s22a s22l s22c, .slice s23a s23l s23c] : Value).cells.size = 4 ∧ wrOk w f15 (.agg #[.string s20, .bool b21, .slice s22a s22l s22c, .slice s23a s23l s23c]) ∧ let w24 : World := wr w f15 (.agg #[.string s20, .bool b21, .slice s22a s22l s22c, .slice s23a s23l s23c])
 Kn  w24) else (Kn  w)
def T_q0c : Exit → Option (List (Nat × Value)) := fun x => match x with | .normal => some [] | .panic _ => some [] | _ => none
def T_q1g : Nat → Bool := ksOf [27, 28, 29, 30, 31, 32, 33]
def H_q39 : Env → World → QT → Prop := unitHook 112 T_q1g [(0, .pointer none), (9, .int .i64 0), (10, .pointer (some ⟨0, 0, none⟩)), (26, .bool false)] T_q0c fun l w C => match l with | [v0, v1, v2, v3] => T_q39 (pPtr v0) (pInt v1) (pAddr v2) (pBool v3) w (fun w => C .normal [] w) (fun ch w => C (.panic ch) [] w) | _ => False
theorem T_q39_hl : allP (hokL Tryz.prog (hookAt []) (at_ (bodyOf Tryz.f23) [1, 1, 1, 1, 1, 0, 1]) 253) = (True) := by kernel_rfl
theorem T_q39_hok : HOk Tryz.prog (hookAt []) (at_ (bodyOf Tryz.f23) [1, 1, 1, 1, 1, 0, 1]) 253 := HOk_of _ _ (by rw [T_q39_hl]; exact trivial)
theorem T_q39_eq (C : Conts) (d13 : Option Addr) (k14 : Int) (f15 : Addr) (b16 : Bool) (w : World) : vcCode Tryz.prog (hookAt []) (at_ (bodyOf Tryz.f23) [1, 1, 1, 1, 1, 0, 1]) 253 ⟨[(0, .pointer d13), (9, .int .i64 k14), (10, .pointer (some f15)), (26, .bool b16)], 112, []⟩ w (unitQ T_q0c C) = T_q39 d13 k14 f15 b16 w (fun w => C .normal [] w) (fun ch w => C (.panic ch) [] w) := by kernel_rfl
theorem T_q5g_1_ok : UnitOk Tryz.prog H_q39 (at_ (bodyOf Tryz.f23) [1, 1, 1, 1, 1, 0, 1]) 253 := unit_ok (H := (hookAt [])) (by kernel_rfl) T_q39_hok fun l w C hk => by
  obtain ⟨v0, _, rfl, k_v0, hk_v0⟩ := kC hk
  obtain ⟨d13, rfl⟩ := kind_pointer k_v0
  obtain ⟨v1, _, rfl, k_v1, hk_v1⟩ := kC hk_v0
  obtain ⟨k14, rfl⟩ := kind_int k_v1
  obtain ⟨v2, _, rfl, k_v2, hk_v2⟩ := kC hk_v1
  obtain ⟨f15, rfl⟩ := kind_addr k_v2
  obtain ⟨v3, _, rfl, k_v3, hk_v3⟩ := kC hk_v2
  obtain ⟨b16, rfl⟩ := kind_bool k_v3
  obtain rfl := kN hk_v3
  exact T_q39_eq C d13 k14 f15 b16 w
def T_q3a (at33 size34 : Int) (w : World) (Kn : Bool → World → Prop) (Kp : XT) : Prop :=
 if (decide (at33 < 0)) = true then (Kn true w) else (Kn (decide (at33 > size34)) w)
def T_q0d : Exit → Option (List (Nat × Value)) := fun x => match x with | .normal => some [(43, .bool false)] | .panic _ => some [] | _ => none
def T_q1h : Nat → Bool := ksOf [37, 38, 39, 40, 41, 42, 43]
def H_q3a : Env → World → QT → Prop := unitHook 112 T_q1h [(2, .int .i64 0), (11, .int .i64 0)] T_q0d fun l w C => match l with | [v0, v1] => T_q3a (pInt v0) (pInt v1) w (fun b36 w => C .normal [.bool b36] w) (fun ch w => C (.panic ch) [] w) | _ => False
theorem T_q3a_hl : allP (hokL Tryz.prog (hookAt []) (at_ (bodyOf Tryz.f23) [1, 1, 1, 1, 1, 1, 1, 0, 0]) 1020) = (True) := by kernel_rfl
theorem T_q3a_hok : HOk Tryz.prog (hookAt []) (at_ (bodyOf Tryz.f23) [1, 1, 1, 1, 1, 1, 1, 0, 0]) 1020 := HOk_of _ _ (by rw [T_q3a_hl]; exact trivial)
theorem T_q3a_eq (C : Conts) (at33 size34 : Int) (w : World) : vcCode Tryz.prog (hookAt []) (at_ (bodyOf Tryz.f23) [1, 1, 1, 1, 1, 1, 1, 0, 0]) 1020 ⟨[(2, .int .i64 at33), (11, .int .i64 size34)], 112, []⟩ w (unitQ T_q0d C) = T_q3a at33 size34 w (fun b37 w => C .normal [.bool b37] w) (fun ch w => C (.panic ch) [] w) := by kernel_rfl
theorem T_q5g_2_ok : UnitOk Tryz.prog H_q3a (at_ (bodyOf Tryz.f23) [1, 1, 1, 1, 1, 1, 1, 0, 0]) 1020 := unit_ok (H := (hookAt [])) (by kernel_rfl) T_q3a_hok fun l w C hk => by
  obtain ⟨v0, _, rfl, k_v0, hk_v0⟩ := kC hk
  obtain ⟨at33, rfl⟩ := kind_int k_v0
  obtain ⟨v1, _, rfl, k_v1, hk_v1⟩ := kC hk_v0
  obtain ⟨size34, rfl⟩ := kind_int k_v1
  obtain rfl := kN hk_v1
  exact T_q3a_eq C at33 size34 w
def T_q3b (at40 : Int) (b41a : Option Addr) (b41l b41c : Nat) (end42 : Int) (b43 : Bool) (w : World) (Kn : Int → World → Prop) (Kp : XT) : Prop :=
 if b43 = true then (Kn (IntKind.wrap .i64 (at40 + ((b41l : Nat) : Int))) w) else (Kn end42 w)
def T_q0e : Exit → Option (List (Nat × Value)) := fun x => match x with | .normal => some [(12, .int .i64 0)] | .panic _ => some [] | _ => none
def T_q1i : Nat → Bool := ksOf [12, 51, 52, 53, 54]
def H_q3b : Env → World → QT → Prop := unitHook 112 T_q1i [(2, .int .i64 0), (3, .slice none 0 0), (12, .int .i64 0), (50, .bool false)] T_q0e fun l w C => match l with | [v0, v1, v2, v3] => T_q3b (pInt v0) (pA v1) (pL v1) (pC v1) (pInt v2) (pBool v3) w (fun end45 w => C .normal [.int .i64 end45] w) (fun ch w => C (.panic ch) [] w) | _ => False
theorem T_q3b_hl : allP (hokL Tryz.prog (hookAt []) (at_ (bodyOf Tryz.f23) [1, 1, 1, 1, 1, 1, 1, 1, 1, 0, 1]) 4093) = (True) := by kernel_rfl
theorem T_q3b_hok : HOk Tryz.prog (hookAt []) (at_ (bodyOf Tryz.f23) [1, 1, 1, 1, 1, 1, 1, 1, 1, 0, 1]) 4093 := HOk_of _ _ (by rw [T_q3b_hl]; exact trivial)
theorem T_q3b_eq (C : Conts) (at40 : Int) (b41a : Option Addr) (b41l b41c : Nat) (end42 : Int) (b43 : Bool) (w : World) : vcCode Tryz.prog (hookAt []) (at_ (bodyOf Tryz.f23) [1, 1, 1, 1, 1, 1, 1, 1, 1, 0, 1]) 4093 ⟨[(2, .int .i64 at40), (3, .slice b41a b41l b41c), (12, .int .i64 end42), (50, .bool b43)], 112, []⟩ w (unitQ T_q0e C) = T_q3b at40 b41a b41l b41c end42 b43 w (fun end46 w => C .normal [.int .i64 end46] w) (fun ch w => C (.panic ch) [] w) := by kernel_rfl
theorem T_q5g_3_ok : UnitOk Tryz.prog H_q3b (at_ (bodyOf Tryz.f23) [1, 1, 1, 1, 1, 1, 1, 1, 1, 0, 1]) 4093 := unit_ok (H := (hookAt [])) (by kernel_rfl) T_q3b_hok fun l w C hk => by
  obtain ⟨v0, _, rfl, k_v0, hk_v0⟩ := kC hk
  obtain ⟨at40, rfl⟩ := kind_int k_v0
  obtain ⟨v1, _, rfl, k_v1, hk_v1⟩ := kC hk_v0
  obtain ⟨b41a, b41l, b41c, rfl⟩ := kind_slice k_v1
  obtain ⟨v2, _, rfl, k_v2, hk_v2⟩ := kC hk_v1
  obtain ⟨end42, rfl⟩ := kind_int k_v2
  obtain ⟨v3, _, rfl, k_v3, hk_v3⟩ := kC hk_v2
  obtain ⟨b43, rfl⟩ := kind_bool k_v3
  obtain rfl := kN hk_v3
  exact T_q3b_eq C at40 b41a b41l b41c end42 b43 w
def T_q3c (d49 : Option Addr) (k50 end51 : Int) (w : World) (Kn : Bool → World → Prop) (Kp : XT) : Prop :=
 if (decide (k50 < 0)) = true then (∃ a52, d49 = some a52 ∧ ∃ (s53a : Option Addr) (s53l s53c : Nat), rd w (a52.add 1) (.slice s53a s53l s53c) ∧ if (decide (((s53l : Nat) : Int) ≥ 16)) = true then (Kn true w) else (Kn (decide (end51 > 262144)) w)) else (Kn (decide (end51 > 262144)) w)
def T_q0f : Exit → Option (List (Nat × Value)) := fun x => match x with | .normal => some [(68, .bool false)] | .panic _ => some [] | _ => none
def T_q1j : Nat → Bool := ksOf [55, 56, 57, 58, 59, 60, 61, 62, 63, 64, 65, 66, 67, 68]
def H_q3c : Env → World → QT → Prop := unitHook 112 T_q1j [(0, .pointer none), (9, .int .i64 0), (12, .int .i64 0)] T_q0f fun l w C => match l with | [v0, v1, v2] => T_q3c (pPtr v0) (pInt v1) (pInt v2) w (fun b55 w => C .normal [.bool b55] w) (fun ch w => C (.panic ch) [] w) | _ => False
theorem T_q3c_hl : allP (hokL Tryz.prog (hookAt []) (at_ (bodyOf Tryz.f23) [1, 1, 1, 1, 1, 1, 1, 1, 1, 1, 0, 0]) 8188) = (True) := by kernel_rfl
theorem T_q3c_hok : HOk Tryz.prog (hookAt []) (at_ (bodyOf Tryz.f23) [1, 1, 1, 1, 1, 1, 1, 1, 1, 1, 0, 0]) 8188 := HOk_of _ _ (by rw [T_q3c_hl]; exact trivial)
theorem T_q3c_eq (C : Conts) (d49 : Option Addr) (k50 end51 : Int) (w : World) : vcCode Tryz.prog (hookAt []) (at_ (bodyOf Tryz.f23) [1, 1, 1, 1, 1, 1, 1, 1, 1, 1, 0, 0]) 8188 ⟨[(0, .pointer d49), (9, .int .i64 k50), (12, .int .i64 end51)], 112, []⟩ w (unitQ T_q0f C) = T_q3c d49 k50 end51 w (fun b56 w => C .normal [.bool b56] w) (fun ch w => C (.panic ch) [] w) := by kernel_rfl
theorem T_q5g_4_ok : UnitOk Tryz.prog H_q3c (at_ (bodyOf Tryz.f23) [1, 1, 1, 1, 1, 1, 1, 1, 1, 1, 0, 0]) 8188 := unit_ok (H := (hookAt [])) (by kernel_rfl) T_q3c_hok fun l w C hk => by
  obtain ⟨v0, _, rfl, k_v0, hk_v0⟩ := kC hk
  obtain ⟨d49, rfl⟩ := kind_pointer k_v0
  obtain ⟨v1, _, rfl, k_v1, hk_v1⟩ := kC hk_v0
  obtain ⟨k50, rfl⟩ := kind_int k_v1
  obtain ⟨v2, _, rfl, k_v2, hk_v2⟩ := kC hk_v1
  obtain ⟨end51, rfl⟩ := kind_int k_v2
  obtain rfl := kN hk_v2
  exact T_q3c_eq C d49 k50 end51 w
def T_q5g_5_body (X : Option Addr → Nat → Nat → Int → World → Prop) (units70a : Option Addr) (units70l units70c : Nat) (i71 at72 : Int) (b73a : Option Addr) (b73l b73c : Nat) (w : World) (Kn : Option Addr → Nat → Nat → World → Prop) (Kp : XT)  : Prop :=
 if (decide (i71 < ((b73l : Nat) : Int))) = true then (0 ≤ i71 ∧ i71 < ((b73l : Nat) : Int) ∧ ∃ b74, b73a = some b74 ∧ ∃ x75 : Int, rd w (b74.add (i71.toNat * 1)) (.int .u8 x75) ∧ let w76 : World := w.alloc (.cells #[.bool false, .int .i64 (IntKind.wrap .i64 (at72 + i71)), .int .u8 x75] 118)
 runV Tryz.prog (Builtin.append_ #[106, 106] 106 #[.slice units70a units70l units70c, .slice (some (⟨w.heap.size, 0, none⟩ : Addr)) 1 1]) w76 (fun r77 w78 => ∃ (s79a : Option Addr) (s79l s79c : Nat), r77 = .slice s79a s79l s79c ∧ X s79a s79l s79c (IntKind.wrap .i64 (i71 + 1)) w78) Kp) else (Kn units70a units70l units70c w)
def T_q3d (units70a : Option Addr) (units70l units70c : Nat) (i71 at72 : Int) (b73a : Option Addr) (b73l b73c : Nat) (w : World) (Kn : Option Addr → Nat → Nat → World → Prop) (Kp : XT) : Prop :=
 ∀ X : Option Addr → Nat → Nat → Int → World → Prop, (∀ (units70a : Option Addr) (units70l units70c : Nat) (i71 : Int) (w : World), T_q5g_5_body X units70a units70l units70c i71 at72 b73a b73l b73c w Kn Kp → X units70a units70l units70c i71 w) → X units70a units70l units70c i71 w
def T_q0g : Exit → Option (List (Nat × Value)) := fun x => match x with | .normal => some [(13, .slice none 0 0)] | .panic _ => some [] | _ => none
def T_q1k : Nat → Bool := ksOf [13, 14, 84, 85, 86, 87, 88, 89, 90, 91, 92, 93, 94, 95, 96, 97, 98, 99, 100]
def H_q3d : Env → World → QT → Prop := unitHook 112 T_q1k [(13, .slice none 0 0), (14, .int .i64 0), (2, .int .i64 0), (3, .slice none 0 0)] T_q0g fun l w C => match l with | [v0, v1, v2, v3] => T_q3d (pA v0) (pL v0) (pC v0) (pInt v1) (pInt v2) (pA v3) (pL v3) (pC v3) w (fun units81a units81l units81c w => C .normal [.slice units81a units81l units81c] w) (fun ch w => C (.panic ch) [] w) | _ => False
theorem T_q3d_hl : allP (hokL Tryz.prog (hookAt []) (at_ (bodyOf Tryz.f23) [1, 1, 1, 1, 1, 1, 1, 1, 1, 1, 1, 1, 1, 0, 1, 0, 0]) 262132) = (True) := by kernel_rfl
theorem T_q3d_hok : HOk Tryz.prog (hookAt []) (at_ (bodyOf Tryz.f23) [1, 1, 1, 1, 1, 1, 1, 1, 1, 1, 1, 1, 1, 0, 1, 0, 0]) 262132 := HOk_of _ _ (by rw [T_q3d_hl]; exact trivial)
theorem T_q3d_eq (C : Conts) (X : List Value → World → Prop) (units70a : Option Addr) (units70l units70c : Nat) (i71 at72 : Int) (b73a : Option Addr) (b73l b73c : Nat) (w : World) : vcCode Tryz.prog (hookAt []) (at_ (bodyOf Tryz.f23) [1, 1, 1, 1, 1, 1, 1, 1, 1, 1, 1, 1, 1, 0, 1, 0, 0]) 262132 ⟨[(13, .slice units70a units70l units70c), (14, .int .i64 i71)] ++ [(2, .int .i64 at72), (3, .slice b73a b73l b73c)], 112, []⟩ w (seqQ (fun e w => takeAll e [(13, .slice none 0 0), (14, .int .i64 0)] fun l => X l w) (blockQ 0 (unitQ T_q0g C))) = T_q5g_5_body (fun units70a units70l units70c i71 w => X [.slice units70a units70l units70c, .int .i64 i71] w) units70a units70l units70c i71 at72 b73a b73l b73c w (fun units82a units82l units82c w => C .normal [.slice units82a units82l units82c] w) (fun ch w => C (.panic ch) [] w) := by kernel_rfl
theorem T_q5g_5_ok : UnitOk Tryz.prog H_q3d (at_ (bodyOf Tryz.f23) [1, 1, 1, 1, 1, 1, 1, 1, 1, 1, 1, 1, 1, 0, 1]) 65533 := by
 have hc : at_ (bodyOf Tryz.f23) [1, 1, 1, 1, 1, 1, 1, 1, 1, 1, 1, 1, 1, 0, 1] = .block 0 (.loop (at_ (bodyOf Tryz.f23) [1, 1, 1, 1, 1, 1, 1, 1, 1, 1, 1, 1, 1, 0, 1, 0, 0])) := by kernel_rfl
 rw [hc]
 refine loop_unit_ok (carr := [(13, .slice none 0 0), (14, .int .i64 0)]) (fix := [(2, .int .i64 0), (3, .slice none 0 0)]) (ks := T_q1k) (H := (hookAt [])) (B := fun C X l u w => match l, u with | [v0, v1], [v2, v3] => T_q5g_5_body (fun units70a units70l units70c i71 w => X [.slice units70a units70l units70c, .int .i64 i71] w) (pA v0) (pL v0) (pC v0) (pInt v1) (pInt v2) (pA v3) (pL v3) (pC v3) w (fun units83a units83l units83c w => C .normal [.slice units83a units83l units83c] w) (fun ch w => C (.panic ch) [] w) | _, _ => False) (by kernel_rfl) (by kernel_rfl) T_q3d_hok ?_ ?_
 ·intro C X l u w hl hu
  obtain ⟨v0, _, rfl, k_v0, hl_v0⟩ := kC hl
  obtain ⟨units70a, units70l, units70c, rfl⟩ := kind_slice k_v0
  obtain ⟨v1, _, rfl, k_v1, hl_v1⟩ := kC hl_v0
  obtain ⟨i71, rfl⟩ := kind_int k_v1
  obtain rfl := kN hl_v1
  obtain ⟨v2, _, rfl, k_v2, hu_v2⟩ := kC hu
  obtain ⟨at72, rfl⟩ := kind_int k_v2
  obtain ⟨v3, _, rfl, k_v3, hu_v3⟩ := kC hu_v2
  obtain ⟨b73a, b73l, b73c, rfl⟩ := kind_slice k_v3
  obtain rfl := kN hu_v3
  exact T_q3d_eq C X units70a units70l units70c i71 at72 b73a b73l b73c w
 ·intro l u w C hl hu
  obtain ⟨v0, _, rfl, k_v0, hl_v0⟩ := kC hl
  obtain ⟨units70a, units70l, units70c, rfl⟩ := kind_slice k_v0
  obtain ⟨v1, _, rfl, k_v1, hl_v1⟩ := kC hl_v0
  obtain ⟨i71, rfl⟩ := kind_int k_v1
  obtain rfl := kN hl_v1
  obtain ⟨v2, _, rfl, k_v2, hu_v2⟩ := kC hu
  obtain ⟨at72, rfl⟩ := kind_int k_v2
  obtain ⟨v3, _, rfl, k_v3, hu_v3⟩ := kC hu_v2
  obtain ⟨b73a, b73l, b73c, rfl⟩ := kind_slice k_v3
  obtain rfl := kN hu_v3
  constructor
  ·intro h X hX
   exact h (fun units70a units70l units70c i71 w => X [.slice units70a units70l units70c, .int .i64 i71] w) (fun units70a units70l units70c i71 w hb => hX [.slice units70a units70l units70c, .int .i64 i71] w ⟨rfl, rfl, trivial⟩ hb)
  ·intro h X hX
   exact h (fun l w => match l with | [v0, v1] => X (pA v0) (pL v0) (pC v0) (pInt v1) w | _ => True) (fun l w hl hb => by
    obtain ⟨v0, _, rfl, k_v0, hl_v0⟩ := kC hl
    obtain ⟨units70a, units70l, units70c, rfl⟩ := kind_slice k_v0
    obtain ⟨v1, _, rfl, k_v1, hl_v1⟩ := kC hl_v0
    obtain ⟨i71, rfl⟩ := kind_int k_v1
    obtain rfl := kN hl_v1
    exact hX units70a units70l units70c i71 w hb)
def T_q5g (d1 : Option Addr) (name2 : ByteArray) (at3 : Int) (b4a : Option Addr) (b4l b4c : Nat) (w : World) (R : RT) : Prop :=
 if d1.isNone = true then (R (.returned (.int .i64 1)) w) else (Calls Tryz.prog 71 #[.string name2] w (ret (fun r5 w6 => ∃ b7 : Bool, r5 = .bool b7 ∧ if (!b7) = true then (R (.returned (.int .i64 14)) w6) else (Calls Tryz.prog 72 #[.pointer d1, .string name2] w6 (ret (fun r8 w9 => ∃ x10 : Int, r8 = .int .i64 x10 ∧ let w11 : World := w9.alloc (.cells #[.string (ByteArray.mk #[]), .bool false, .slice none 0 0, .slice none 0 0] 108)
 (.agg #[.string name2, .bool false, .slice none 0 0, .slice none 0 0] : Value).cells.size = 4 ∧ wrOk w11 (⟨w9.heap.size, 0, none⟩ : Addr) (.agg #[.string name2, .bool false, .slice none 0 0, .slice none 0 0]) ∧ let w12 : World := wr w11 (⟨w9.heap.size, 0, none⟩ : Addr) (.agg #[.string name2, .bool false, .slice none 0 0, .slice none 0 0])
 T_q39 d1 x10 (⟨w9.heap.size, 0, none⟩ : Addr) (decide (x10 ≥ 0)) w12 (fun w25 => ∃ (s26 : ByteArray) (b27 : Bool) (s28a : Option Addr) (s28l s28c : Nat) (s29a : Option Addr) (s29l s29c : Nat), rd w25 (⟨w9.heap.size, 0, none⟩ : Addr) (.agg #[.string s26, .bool b27, .slice s28a s28l s28c, .slice s29a s29l s29c]) ∧ Calls Tryz.prog 73 #[.agg #[.string s26, .bool b27, .slice s28a s28l s28c, .slice s29a s29l s29c]] w25 (ret (fun r30 w31 => ∃ (s32a : Option Addr) (s32l s32c : Nat), r30 = .slice s32a s32l s32c ∧ T_q3a at3 ((s32l : Nat) : Int) w31 (fun b38 w39 => if b38 = true then (R (.returned (.int .i64 2)) w39) else (T_q3b at3 b4a b4l b4c ((s32l : Nat) : Int) (decide ((IntKind.wrap .i64 (at3 + ((b4l : Nat) : Int)) : Int) > ((s32l : Nat) : Int))) w39 (fun end47 w48 => T_q3c d1 x10 end47 w48 (fun b57 w58 => if b57 = true then (R (.returned (.int .i64 6)) w58) else (let w59 : World := w58.drew
 ∃ a60, d1 = some a60 ∧ ∃ x61 : Int, rd w59 a60 (.int .i64 x61) ∧ Calls Tryz.prog 30 #[.pointer d1] w59 (ret (fun r62 w63 => ∃ x64 : Int, r62 = .int .i64 x64 ∧ (rd w63 a60 (.int .i64 x61) ∧ True) ∧ if (decide ((IntKind.wrap .i64 ((IntKind.wrap .i64 (x64 - ((s32l : Nat) : Int)) : Int) + end47) : Int) > x61)) = true then (R (.returned (.int .i64 9)) w63) else (let w65 : World := w63.alloc (.cells #[] 118)
 ∃ (s66a : Option Addr) (s66l s66c : Nat), rd w65 ((⟨w9.heap.size, 0, none⟩ : Addr).add 3) (.slice s66a s66l s66c) ∧ runV Tryz.prog (Builtin.append_ #[106, 106] 106 #[.slice (some (⟨w63.heap.size, 0, none⟩ : Addr)) 0 0, .slice s66a s66l s66c]) w65 (fun r67 w68 => ∃ (s69a : Option Addr) (s69l s69c : Nat), r67 = .slice s69a s69l s69c ∧ T_q3d s69a s69l s69c 0 at3 b4a b4l b4c w68 (fun units84a units84l units84c w85 => (.slice units84a units84l units84c : Value).cells.size = 1 ∧ wrOk w85 ((⟨w9.heap.size, 0, none⟩ : Addr).add 3) (.slice units84a units84l units84c) ∧ let w86 : World := wr w85 ((⟨w9.heap.size, 0, none⟩ : Addr).add 3) (.slice units84a units84l units84c)
 let w87 : World := w86.drew
 ∃ a88, d1 = some a88 ∧ ∃ (s89a : Option Addr) (s89l s89c : Nat), rd w87 (a88.add 1) (.slice s89a s89l s89c) ∧ ∃ (s90 : ByteArray) (b91 : Bool) (s92a : Option Addr) (s92l s92c : Nat) (s93a : Option Addr) (s93l s93c : Nat), rd w87 (⟨w9.heap.size, 0, none⟩ : Addr) (.agg #[.string s90, .bool b91, .slice s92a s92l s92c, .slice s93a s93l s93c]) ∧ Calls Tryz.prog 74 #[.slice s89a s89l s89c, .agg #[.string s90, .bool b91, .slice s92a s92l s92c, .slice s93a s93l s93c]] w87 (ret (fun r94 w95 => ∃ (s96a : Option Addr) (s96l s96c : Nat), r94 = .slice s96a s96l s96c ∧ (True) ∧ ∃ a97, d1 = some a97 ∧ (.slice s96a s96l s96c : Value).cells.size = 1 ∧ wrOk w95 (a97.add 1) (.slice s96a s96l s96c) ∧ let w98 : World := wr w95 (a97.add 1) (.slice s96a s96l s96c)
 (True) ∧ R (.returned (.int .i64 0)) w98) (pan R))) (pan R)) (pan R))) (pan R)))) (pan R)) (pan R))) (pan R)) (pan R))) (pan R)) (pan R)))) (pan R)))
theorem T_q5g_hl : allP (hokL Tryz.prog (hookAt [(253, H_q39), (1020, H_q3a), (4093, H_q3b), (8188, H_q3c), (65533, H_q3d)]) (bodyOf Tryz.f23) 1) = (UnitOk Tryz.prog H_q39 (at_ (bodyOf Tryz.f23) [1, 1, 1, 1, 1, 0, 1]) 253 ∧ UnitOk Tryz.prog H_q3a (at_ (bodyOf Tryz.f23) [1, 1, 1, 1, 1, 1, 1, 0, 0]) 1020 ∧ UnitOk Tryz.prog H_q3b (at_ (bodyOf Tryz.f23) [1, 1, 1, 1, 1, 1, 1, 1, 1, 0, 1]) 4093 ∧ UnitOk Tryz.prog H_q3c (at_ (bodyOf Tryz.f23) [1, 1, 1, 1, 1, 1, 1, 1, 1, 1, 0, 0]) 8188 ∧ UnitOk Tryz.prog H_q3d (at_ (bodyOf Tryz.f23) [1, 1, 1, 1, 1, 1, 1, 1, 1, 1, 1, 1, 1, 0, 1]) 65533 ∧ True) := by kernel_rfl
theorem T_q5g_eq (d1 : Option Addr) (name2 : ByteArray) (at3 : Int) (b4a : Option Addr) (b4l b4c : Nat) (w : World) (R : RT) : vcCode Tryz.prog (hookAt [(253, H_q39), (1020, H_q3a), (4093, H_q3b), (8188, H_q3c), (65533, H_q3d)]) (bodyOf Tryz.f23) 1 ⟨argEnv [.pointer d1, .string name2, .int .i64 at3, .slice b4a b4l b4c] 0, Tryz.f23.ntmps, []⟩ w (finQ Tryz.prog Tryz.f23.results.toList R) = T_q5g d1 name2 at3 b4a b4l b4c w R := by kernel_rfl
theorem T_q5g_b : Tryz.f23.body = some (bodyOf Tryz.f23) := by kernel_rfl
theorem T_q5g_s : (quietSel (bodyOf Tryz.f23) && Nat.ble 4 Tryz.f23.ntmps) = true := by kernel_rfl
theorem C_q5g {d1 : Option Addr} {name2 : ByteArray} {at3 : Int} {b4a : Option Addr} {b4l b4c : Nat} {w : World} {R : RT} (h : T_q5g d1 name2 at3 b4a b4l b4c w R) : Calls Tryz.prog 23 #[.pointer d1, .string name2, .int .i64 at3, .slice b4a b4l b4c] w R :=
 calls_of_text (args := [.pointer d1, .string name2, .int .i64 at3, .slice b4a b4l b4c]) mixed Tryz.func23 T_q5g_b T_q5g_s (HOk_of _ _ (by rw [T_q5g_hl]; exact ⟨T_q5g_1_ok, T_q5g_2_ok, T_q5g_3_ok, T_q5g_4_ok, T_q5g_5_ok, trivial⟩)) (by rw [T_q5g_eq]; exact h)
def T_q6b (d1 : Option Addr) (name2 : ByteArray) (w : World) (R : RT) : Prop :=
 if d1.isNone = true then (R (.returned (.int .i64 1)) w) else (Calls Tryz.prog 72 #[.pointer d1, .string name2] w (ret (fun r3 w4 => ∃ x5 : Int, r3 = .int .i64 x5 ∧ if (decide (x5 < 0)) = true then (R (.returned (.int .i64 8)) w4) else (let w6 : World := w4.drew
 ∃ a7, d1 = some a7 ∧ ∃ (s8a : Option Addr) (s8l s8c : Nat), rd w6 (a7.add 1) (.slice s8a s8l s8c) ∧ ∃ a9, d1 = some a9 ∧ ∃ (s10a : Option Addr) (s10l s10c : Nat), rd w6 (a9.add 1) (.slice s10a s10l s10c) ∧ 0 ≤ x5 ∧ x5 < ((s10l : Nat) : Int) ∧ ∃ b11, s10a = some b11 ∧ ∃ (s12 : ByteArray) (b13 : Bool) (s14a : Option Addr) (s14l s14c : Nat) (s15a : Option Addr) (s15l s15c : Nat), rd w6 (b11.add (x5.toNat * 4)) (.agg #[.string s12, .bool b13, .slice s14a s14l s14c, .slice s15a s15l s15c]) ∧ Calls Tryz.prog 73 #[.agg #[.string s12, .bool b13, .slice s14a s14l s14c, .slice s15a s15l s15c]] w6 (ret (fun r16 w17 => ∃ (s18a : Option Addr) (s18l s18c : Nat), r16 = .slice s18a s18l s18c ∧ (rd w17 (a7.add 1) (.slice s8a s8l s8c) ∧ True) ∧ Calls Tryz.prog 74 #[.slice s8a s8l s8c, .agg #[.string name2, .bool true, .slice s18a s18l s18c, .slice none 0 0]] w17 (ret (fun r19 w20 => ∃ (s21a : Option Addr) (s21l s21c : Nat), r19 = .slice s21a s21l s21c ∧ (True) ∧ ∃ a22, d1 = some a22 ∧ (.slice s21a s21l s21c : Value).cells.size = 1 ∧ wrOk w20 (a22.add 1) (.slice s21a s21l s21c) ∧ let w23 : World := wr w20 (a22.add 1) (.slice s21a s21l s21c)
 (True) ∧ R (.returned (.int .i64 0)) w23) (pan R))) (pan R)))) (pan R)))
theorem T_q6b_hl : allP (hokL Tryz.prog (hookAt []) (bodyOf Tryz.f62) 1) = (True) := by kernel_rfl
theorem T_q6b_eq (d1 : Option Addr) (name2 : ByteArray) (w : World) (R : RT) : vcCode Tryz.prog (hookAt []) (bodyOf Tryz.f62) 1 ⟨argEnv [.pointer d1, .string name2] 0, Tryz.f62.ntmps, []⟩ w (finQ Tryz.prog Tryz.f62.results.toList R) = T_q6b d1 name2 w R := by kernel_rfl
theorem T_q6b_b : Tryz.f62.body = some (bodyOf Tryz.f62) := by kernel_rfl
theorem T_q6b_s : (quietSel (bodyOf Tryz.f62) && Nat.ble 2 Tryz.f62.ntmps) = true := by kernel_rfl
theorem C_q6b {d1 : Option Addr} {name2 : ByteArray} {w : World} {R : RT} (h : T_q6b d1 name2 w R) : Calls Tryz.prog 62 #[.pointer d1, .string name2] w R :=
 calls_of_text (args := [.pointer d1, .string name2]) mixed Tryz.func62 T_q6b_b T_q6b_s (HOk_of _ _ (by rw [T_q6b_hl]; exact trivial)) (by rw [T_q6b_eq]; exact h)
def T_q4e (d1 : Option Addr) (from2 to3 : ByteArray) (w : World) (R : RT) : Prop :=
 if d1.isNone = true then (R (.returned (.int .i64 1)) w) else (Calls Tryz.prog 72 #[.pointer d1, .string from2] w (ret (fun r4 w5 => ∃ x6 : Int, r4 = .int .i64 x6 ∧ if (decide (x6 < 0)) = true then (R (.returned (.int .i64 8)) w5) else (Calls Tryz.prog 71 #[.string to3] w5 (ret (fun r7 w8 => ∃ b9 : Bool, r7 = .bool b9 ∧ if (!b9) = true then (R (.returned (.int .i64 14)) w8) else (if (from2.toList == to3.toList) = true then (R (.returned (.int .i64 0)) w8) else (∃ a10, d1 = some a10 ∧ ∃ (s11a : Option Addr) (s11l s11c : Nat), rd w8 (a10.add 1) (.slice s11a s11l s11c) ∧ 0 ≤ x6 ∧ x6 < ((s11l : Nat) : Int) ∧ ∃ b12, s11a = some b12 ∧ ∃ (s13 : ByteArray) (b14 : Bool) (s15a : Option Addr) (s15l s15c : Nat) (s16a : Option Addr) (s16l s16c : Nat), rd w8 (b12.add (x6.toNat * 4)) (.agg #[.string s13, .bool b14, .slice s15a s15l s15c, .slice s16a s16l s16c]) ∧ let w17 : World := w8.alloc (.cells #[.string (ByteArray.mk #[]), .bool false, .slice none 0 0, .slice none 0 0] 108)
 (.agg #[.string s13, .bool b14, .slice s15a s15l s15c, .slice s16a s16l s16c] : Value).cells.size = 4 ∧ wrOk w17 (⟨w8.heap.size, 0, none⟩ : Addr) (.agg #[.string s13, .bool b14, .slice s15a s15l s15c, .slice s16a s16l s16c]) ∧ let w18 : World := wr w17 (⟨w8.heap.size, 0, none⟩ : Addr) (.agg #[.string s13, .bool b14, .slice s15a s15l s15c, .slice s16a s16l s16c])
 (.string to3 : Value).cells.size = 1 ∧ wrOk w18 (⟨w8.heap.size, 0, none⟩ : Addr) (.string to3) ∧ let w19 : World := wr w18 (⟨w8.heap.size, 0, none⟩ : Addr) (.string to3)
 let w20 : World := w19.drew
 ∃ a21, d1 = some a21 ∧ ∃ (s22a : Option Addr) (s22l s22c : Nat), rd w20 (a21.add 1) (.slice s22a s22l s22c) ∧ ∃ (s23 : ByteArray) (b24 : Bool) (s25a : Option Addr) (s25l s25c : Nat) (s26a : Option Addr) (s26l s26c : Nat), rd w20 (⟨w8.heap.size, 0, none⟩ : Addr) (.agg #[.string s23, .bool b24, .slice s25a s25l s25c, .slice s26a s26l s26c]) ∧ Calls Tryz.prog 99 #[.slice s22a s22l s22c, .string from2] w20 (ret (fun r27 w28 => ∃ (s29a : Option Addr) (s29l s29c : Nat), r27 = .slice s29a s29l s29c ∧ (rd w28 (⟨w8.heap.size, 0, none⟩ : Addr) (.agg #[.string s23, .bool b24, .slice s25a s25l s25c, .slice s26a s26l s26c]) ∧ True) ∧ Calls Tryz.prog 74 #[.slice s29a s29l s29c, .agg #[.string s23, .bool b24, .slice s25a s25l s25c, .slice s26a s26l s26c]] w28 (ret (fun r30 w31 => ∃ (s32a : Option Addr) (s32l s32c : Nat), r30 = .slice s32a s32l s32c ∧ (True) ∧ ∃ a33, d1 = some a33 ∧ (.slice s32a s32l s32c : Value).cells.size = 1 ∧ wrOk w31 (a33.add 1) (.slice s32a s32l s32c) ∧ let w34 : World := wr w31 (a33.add 1) (.slice s32a s32l s32c)
 (True) ∧ R (.returned (.int .i64 0)) w34) (pan R))) (pan R))))) (pan R)))) (pan R)))
theorem T_q4e_hl : allP (hokL Tryz.prog (hookAt []) (bodyOf Tryz.f63) 1) = (True) := by kernel_rfl
theorem T_q4e_eq (d1 : Option Addr) (from2 to3 : ByteArray) (w : World) (R : RT) : vcCode Tryz.prog (hookAt []) (bodyOf Tryz.f63) 1 ⟨argEnv [.pointer d1, .string from2, .string to3] 0, Tryz.f63.ntmps, []⟩ w (finQ Tryz.prog Tryz.f63.results.toList R) = T_q4e d1 from2 to3 w R := by kernel_rfl
theorem T_q4e_b : Tryz.f63.body = some (bodyOf Tryz.f63) := by kernel_rfl
theorem T_q4e_s : (quietSel (bodyOf Tryz.f63) && Nat.ble 3 Tryz.f63.ntmps) = true := by kernel_rfl
theorem C_q4e {d1 : Option Addr} {from2 to3 : ByteArray} {w : World} {R : RT} (h : T_q4e d1 from2 to3 w R) : Calls Tryz.prog 63 #[.pointer d1, .string from2, .string to3] w R :=
 calls_of_text (args := [.pointer d1, .string from2, .string to3]) mixed Tryz.func63 T_q4e_b T_q4e_s (HOk_of _ _ (by rw [T_q4e_hl]; exact trivial)) (by rw [T_q4e_eq]; exact h)
def T_q4d (d1 : Option Addr) (name2 : ByteArray) (w : World) (R : RT) : Prop :=
 if d1.isNone = true then (R (.returned (.int .i64 1)) w) else (Calls Tryz.prog 72 #[.pointer d1, .string name2] w (ret (fun r3 w4 => ∃ x5 : Int, r3 = .int .i64 x5 ∧ if (decide (x5 < 0)) = true then (R (.returned (.int .i64 8)) w4) else (∃ a6, d1 = some a6 ∧ ∃ (s7a : Option Addr) (s7l s7c : Nat), rd w4 (a6.add 1) (.slice s7a s7l s7c) ∧ Calls Tryz.prog 99 #[.slice s7a s7l s7c, .string name2] w4 (ret (fun r8 w9 => ∃ (s10a : Option Addr) (s10l s10c : Nat), r8 = .slice s10a s10l s10c ∧ ∃ a11, d1 = some a11 ∧ (.slice s10a s10l s10c : Value).cells.size = 1 ∧ wrOk w9 (a11.add 1) (.slice s10a s10l s10c) ∧ let w12 : World := wr w9 (a11.add 1) (.slice s10a s10l s10c)
 R (.returned (.int .i64 0)) w12) (pan R)))) (pan R)))
theorem T_q4d_hl : allP (hokL Tryz.prog (hookAt []) (bodyOf Tryz.f61) 1) = (True) := by kernel_rfl
theorem T_q4d_eq (d1 : Option Addr) (name2 : ByteArray) (w : World) (R : RT) : vcCode Tryz.prog (hookAt []) (bodyOf Tryz.f61) 1 ⟨argEnv [.pointer d1, .string name2] 0, Tryz.f61.ntmps, []⟩ w (finQ Tryz.prog Tryz.f61.results.toList R) = T_q4d d1 name2 w R := by kernel_rfl
theorem T_q4d_b : Tryz.f61.body = some (bodyOf Tryz.f61) := by kernel_rfl
theorem T_q4d_s : (quietSel (bodyOf Tryz.f61) && Nat.ble 2 Tryz.f61.ntmps) = true := by kernel_rfl
theorem C_q4d {d1 : Option Addr} {name2 : ByteArray} {w : World} {R : RT} (h : T_q4d d1 name2 w R) : Calls Tryz.prog 61 #[.pointer d1, .string name2] w R :=
 calls_of_text (args := [.pointer d1, .string name2]) mixed Tryz.func61 T_q4d_b T_q4d_s (HOk_of _ _ (by rw [T_q4d_hl]; exact trivial)) (by rw [T_q4d_eq]; exact h)
def T_q6a (d1 : Option Addr) (name2 : ByteArray) (w : World) (R : RT) : Prop :=
 if d1.isNone = true then (R (.returned (.tuple #[.slice none 0 0, .int .i64 1])) w) else (Calls Tryz.prog 72 #[.pointer d1, .string name2] w (ret (fun r3 w4 => ∃ x5 : Int, r3 = .int .i64 x5 ∧ if (decide (x5 < 0)) = true then (R (.returned (.tuple #[.slice none 0 0, .int .i64 8])) w4) else (∃ a6, d1 = some a6 ∧ ∃ (s7a : Option Addr) (s7l s7c : Nat), rd w4 (a6.add 1) (.slice s7a s7l s7c) ∧ 0 ≤ x5 ∧ x5 < ((s7l : Nat) : Int) ∧ ∃ b8, s7a = some b8 ∧ ∃ (s9 : ByteArray) (b10 : Bool) (s11a : Option Addr) (s11l s11c : Nat) (s12a : Option Addr) (s12l s12c : Nat), rd w4 (b8.add (x5.toNat * 4)) (.agg #[.string s9, .bool b10, .slice s11a s11l s11c, .slice s12a s12l s12c]) ∧ Calls Tryz.prog 73 #[.agg #[.string s9, .bool b10, .slice s11a s11l s11c, .slice s12a s12l s12c]] w4 (ret (fun r13 w14 => ∃ (s15a : Option Addr) (s15l s15c : Nat), r13 = .slice s15a s15l s15c ∧ R (.returned (.tuple #[.slice s15a s15l s15c, .int .i64 0])) w14) (pan R)))) (pan R)))
theorem T_q6a_hl : allP (hokL Tryz.prog (hookAt []) (bodyOf Tryz.f76) 1) = (True) := by kernel_rfl
theorem T_q6a_eq (d1 : Option Addr) (name2 : ByteArray) (w : World) (R : RT) : vcCode Tryz.prog (hookAt []) (bodyOf Tryz.f76) 1 ⟨argEnv [.pointer d1, .string name2] 0, Tryz.f76.ntmps, []⟩ w (finQ Tryz.prog Tryz.f76.results.toList R) = T_q6a d1 name2 w R := by kernel_rfl
theorem T_q6a_b : Tryz.f76.body = some (bodyOf Tryz.f76) := by kernel_rfl
theorem T_q6a_s : (quietSel (bodyOf Tryz.f76) && Nat.ble 2 Tryz.f76.ntmps) = true := by kernel_rfl
theorem C_q6a {d1 : Option Addr} {name2 : ByteArray} {w : World} {R : RT} (h : T_q6a d1 name2 w R) : Calls Tryz.prog 76 #[.pointer d1, .string name2] w R :=
 calls_of_text (args := [.pointer d1, .string name2]) mixed Tryz.func76 T_q6a_b T_q6a_s (HOk_of _ _ (by rw [T_q6a_hl]; exact trivial)) (by rw [T_q6a_eq]; exact h)
def T_q38 (d6 : Option Addr) (i7 : Int) (w : World) (Kn : Bool → World → Prop) (Kp : XT) : Prop :=
 if (!d6.isNone) = true then (∃ a8, d6 = some a8 ∧ ∃ (s9a : Option Addr) (s9l s9c : Nat), rd w (a8.add 1) (.slice s9a s9l s9c) ∧ Kn (decide (i7 < ((s9l : Nat) : Int))) w) else (Kn false w)
def T_q0b : Exit → Option (List (Nat × Value)) := fun x => match x with | .normal => some [(16, .bool false)] | .panic _ => some [] | _ => none
def T_q1f : Nat → Bool := ksOf [6, 7, 8, 9, 10, 11, 12, 13, 14, 15, 16]
def H_q38 : Env → World → QT → Prop := unitHook 31 T_q1f [(0, .pointer none), (4, .int .i64 0)] T_q0b fun l w C => match l with | [v0, v1] => T_q38 (pPtr v0) (pInt v1) w (fun b11 w => C .normal [.bool b11] w) (fun ch w => C (.panic ch) [] w) | _ => False
theorem T_q38_hl : allP (hokL Tryz.prog (hookAt []) (at_ (bodyOf Tryz.f28) [1, 1, 0, 1, 0, 0, 0, 0]) 464) = (True) := by kernel_rfl
theorem T_q38_hok : HOk Tryz.prog (hookAt []) (at_ (bodyOf Tryz.f28) [1, 1, 0, 1, 0, 0, 0, 0]) 464 := HOk_of _ _ (by rw [T_q38_hl]; exact trivial)
theorem T_q38_eq (C : Conts) (d6 : Option Addr) (i7 : Int) (w : World) : vcCode Tryz.prog (hookAt []) (at_ (bodyOf Tryz.f28) [1, 1, 0, 1, 0, 0, 0, 0]) 464 ⟨[(0, .pointer d6), (4, .int .i64 i7)], 31, []⟩ w (unitQ T_q0b C) = T_q38 d6 i7 w (fun b12 w => C .normal [.bool b12] w) (fun ch w => C (.panic ch) [] w) := by kernel_rfl
theorem T_q5f_2_ok : UnitOk Tryz.prog H_q38 (at_ (bodyOf Tryz.f28) [1, 1, 0, 1, 0, 0, 0, 0]) 464 := unit_ok (H := (hookAt [])) (by kernel_rfl) T_q38_hok fun l w C hk => by
  obtain ⟨v0, _, rfl, k_v0, hk_v0⟩ := kC hk
  obtain ⟨d6, rfl⟩ := kind_pointer k_v0
  obtain ⟨v1, _, rfl, k_v1, hk_v1⟩ := kC hk_v0
  obtain ⟨i7, rfl⟩ := kind_int k_v1
  obtain rfl := kN hk_v1
  exact T_q38_eq C d6 i7 w
def T_q5f_1_body (X : Option Addr → Nat → Nat → Int → World → Prop) (out3a : Option Addr) (out3l out3c : Nat) (i4 : Int) (d5 : Option Addr) (w : World) (Kn : Option Addr → Nat → Nat → World → Prop) (Kp : XT)  : Prop :=
 T_q38 d5 i4 w (fun b13 w14 => if b13 = true then (∃ a15, d5 = some a15 ∧ ∃ (s16a : Option Addr) (s16l s16c : Nat), rd w14 (a15.add 1) (.slice s16a s16l s16c) ∧ 0 ≤ i4 ∧ i4 < ((s16l : Nat) : Int) ∧ ∃ b17, s16a = some b17 ∧ ∃ s18 : ByteArray, rd w14 (b17.add (i4.toNat * 4)) (.string s18) ∧ let w19 : World := w14.alloc (.cells #[.string s18] 9)
 runV Tryz.prog (Builtin.append_ #[55, 55] 55 #[.slice out3a out3l out3c, .slice (some (⟨w14.heap.size, 0, none⟩ : Addr)) 1 1]) w19 (fun r20 w21 => ∃ (s22a : Option Addr) (s22l s22c : Nat), r20 = .slice s22a s22l s22c ∧ X s22a s22l s22c (IntKind.wrap .i64 (i4 + 1)) w21) Kp) else (Kn out3a out3l out3c w14)) Kp
def T_q37 (out3a : Option Addr) (out3l out3c : Nat) (i4 : Int) (d5 : Option Addr) (w : World) (Kn : Option Addr → Nat → Nat → World → Prop) (Kp : XT) : Prop :=
 ∀ X : Option Addr → Nat → Nat → Int → World → Prop, (∀ (out3a : Option Addr) (out3l out3c : Nat) (i4 : Int) (w : World), T_q5f_1_body X out3a out3l out3c i4 d5 w Kn Kp → X out3a out3l out3c i4 w) → X out3a out3l out3c i4 w
def T_q0a : Exit → Option (List (Nat × Value)) := fun x => match x with | .normal => some [(3, .slice none 0 0)] | .panic _ => some [] | _ => none
def T_q1e : Nat → Bool := ksOf [3, 4, 6, 7, 8, 9, 10, 11, 12, 13, 14, 15, 16, 17, 18, 19, 20, 21, 22, 23, 24, 25, 26, 27, 28, 29]
def H_q37 : Env → World → QT → Prop := unitHook 31 T_q1e [(3, .slice none 0 0), (4, .int .i64 0), (0, .pointer none)] T_q0a fun l w C => match l with | [v0, v1, v2] => T_q37 (pA v0) (pL v0) (pC v0) (pInt v1) (pPtr v2) w (fun out24a out24l out24c w => C .normal [.slice out24a out24l out24c] w) (fun ch w => C (.panic ch) [] w) | _ => False
theorem T_q37_hl : allP (hokL Tryz.prog (hookAt [(464, H_q38)]) (at_ (bodyOf Tryz.f28) [1, 1, 0, 1, 0, 0]) 116) = (UnitOk Tryz.prog H_q38 (at_ (bodyOf Tryz.f28) [1, 1, 0, 1, 0, 0, 0, 0]) 464 ∧ True) := by kernel_rfl
theorem T_q37_hok : HOk Tryz.prog (hookAt [(464, H_q38)]) (at_ (bodyOf Tryz.f28) [1, 1, 0, 1, 0, 0]) 116 := HOk_of _ _ (by rw [T_q37_hl]; exact ⟨T_q5f_2_ok, trivial⟩)
theorem T_q37_eq (C : Conts) (X : List Value → World → Prop) (out3a : Option Addr) (out3l out3c : Nat) (i4 : Int) (d5 : Option Addr) (w : World) : vcCode Tryz.prog (hookAt [(464, H_q38)]) (at_ (bodyOf Tryz.f28) [1, 1, 0, 1, 0, 0]) 116 ⟨[(3, .slice out3a out3l out3c), (4, .int .i64 i4)] ++ [(0, .pointer d5)], 31, []⟩ w (seqQ (fun e w => takeAll e [(3, .slice none 0 0), (4, .int .i64 0)] fun l => X l w) (blockQ 0 (unitQ T_q0a C))) = T_q5f_1_body (fun out3a out3l out3c i4 w => X [.slice out3a out3l out3c, .int .i64 i4] w) out3a out3l out3c i4 d5 w (fun out25a out25l out25c w => C .normal [.slice out25a out25l out25c] w) (fun ch w => C (.panic ch) [] w) := by kernel_rfl
theorem T_q5f_1_ok : UnitOk Tryz.prog H_q37 (at_ (bodyOf Tryz.f28) [1, 1, 0, 1]) 29 := by
 have hc : at_ (bodyOf Tryz.f28) [1, 1, 0, 1] = .block 0 (.loop (at_ (bodyOf Tryz.f28) [1, 1, 0, 1, 0, 0])) := by kernel_rfl
 rw [hc]
 refine loop_unit_ok (carr := [(3, .slice none 0 0), (4, .int .i64 0)]) (fix := [(0, .pointer none)]) (ks := T_q1e) (H := (hookAt [(464, H_q38)])) (B := fun C X l u w => match l, u with | [v0, v1], [v2] => T_q5f_1_body (fun out3a out3l out3c i4 w => X [.slice out3a out3l out3c, .int .i64 i4] w) (pA v0) (pL v0) (pC v0) (pInt v1) (pPtr v2) w (fun out26a out26l out26c w => C .normal [.slice out26a out26l out26c] w) (fun ch w => C (.panic ch) [] w) | _, _ => False) (by kernel_rfl) (by kernel_rfl) T_q37_hok ?_ ?_
 ·intro C X l u w hl hu
  obtain ⟨v0, _, rfl, k_v0, hl_v0⟩ := kC hl
  obtain ⟨out3a, out3l, out3c, rfl⟩ := kind_slice k_v0
  obtain ⟨v1, _, rfl, k_v1, hl_v1⟩ := kC hl_v0
  obtain ⟨i4, rfl⟩ := kind_int k_v1
  obtain rfl := kN hl_v1
  obtain ⟨v2, _, rfl, k_v2, hu_v2⟩ := kC hu
  obtain ⟨d5, rfl⟩ := kind_pointer k_v2
  obtain rfl := kN hu_v2
  exact T_q37_eq C X out3a out3l out3c i4 d5 w
 ·intro l u w C hl hu
  obtain ⟨v0, _, rfl, k_v0, hl_v0⟩ := kC hl
  obtain ⟨out3a, out3l, out3c, rfl⟩ := kind_slice k_v0
  obtain ⟨v1, _, rfl, k_v1, hl_v1⟩ := kC hl_v0
  obtain ⟨i4, rfl⟩ := kind_int k_v1
  obtain rfl := kN hl_v1
  obtain ⟨v2, _, rfl, k_v2, hu_v2⟩ := kC hu
  obtain ⟨d5, rfl⟩ := kind_pointer k_v2
  obtain rfl := kN hu_v2
  constructor
  ·intro h X hX
   exact h (fun out3a out3l out3c i4 w => X [.slice out3a out3l out3c, .int .i64 i4] w) (fun out3a out3l out3c i4 w hb => hX [.slice out3a out3l out3c, .int .i64 i4] w ⟨rfl, rfl, trivial⟩ hb)
  ·intro h X hX
   exact h (fun l w => match l with | [v0, v1] => X (pA v0) (pL v0) (pC v0) (pInt v1) w | _ => True) (fun l w hl hb => by
    obtain ⟨v0, _, rfl, k_v0, hl_v0⟩ := kC hl
    obtain ⟨out3a, out3l, out3c, rfl⟩ := kind_slice k_v0
    obtain ⟨v1, _, rfl, k_v1, hl_v1⟩ := kC hl_v0
    obtain ⟨i4, rfl⟩ := kind_int k_v1
    obtain rfl := kN hl_v1
    exact hX out3a out3l out3c i4 w hb)
def T_q5f (d1 : Option Addr) (w : World) (R : RT) : Prop :=
 let w2 : World := w.alloc (.cells #[] 9)
 T_q37 (some (⟨w.heap.size, 0, none⟩ : Addr)) 0 0 0 d1 w2 (fun out27a out27l out27c w28 => R (.returned (.slice out27a out27l out27c)) w28) (pan R)
theorem T_q5f_hl : allP (hokL Tryz.prog (hookAt [(29, H_q37)]) (bodyOf Tryz.f28) 1) = (UnitOk Tryz.prog H_q37 (at_ (bodyOf Tryz.f28) [1, 1, 0, 1]) 29 ∧ True) := by kernel_rfl
theorem T_q5f_eq (d1 : Option Addr) (w : World) (R : RT) : vcCode Tryz.prog (hookAt [(29, H_q37)]) (bodyOf Tryz.f28) 1 ⟨argEnv [.pointer d1] 0, Tryz.f28.ntmps, []⟩ w (finQ Tryz.prog Tryz.f28.results.toList R) = T_q5f d1 w R := by kernel_rfl
theorem T_q5f_b : Tryz.f28.body = some (bodyOf Tryz.f28) := by kernel_rfl
theorem T_q5f_s : (quietSel (bodyOf Tryz.f28) && Nat.ble 1 Tryz.f28.ntmps) = true := by kernel_rfl
theorem C_q5f {d1 : Option Addr} {w : World} {R : RT} (h : T_q5f d1 w R) : Calls Tryz.prog 28 #[.pointer d1] w R :=
 calls_of_text (args := [.pointer d1]) mixed Tryz.func28 T_q5f_b T_q5f_s (HOk_of _ _ (by rw [T_q5f_hl]; exact ⟨T_q5f_1_ok, trivial⟩)) (by rw [T_q5f_eq]; exact h)
def T_q34 (keep10a : Option Addr) (keep10l keep10c : Nat) (i11 : Int) (w : World) (Kn : Bool → World → Prop) (Kp : XT) : Prop :=
 if (decide (i11 < ((keep10l : Nat) : Int))) = true then (0 ≤ i11 ∧ i11 < ((keep10l : Nat) : Int) ∧ ∃ b12, keep10a = some b12 ∧ ∃ x13 : Int, rd w (b12.add (i11.toNat * 1)) (.int .i64 x13) ∧ Kn (decide (x13 > 0)) w) else (Kn false w)
def T_q07 : Exit → Option (List (Nat × Value)) := fun x => match x with | .normal => some [(30, .bool false)] | .panic _ => some [] | _ => none
def T_q1b : Nat → Bool := ksOf [20, 21, 22, 23, 24, 25, 26, 27, 28, 29, 30]
def H_q34 : Env → World → QT → Prop := unitHook 68 T_q1b [(1, .slice none 0 0), (5, .int .i64 0)] T_q07 fun l w C => match l with | [v0, v1] => T_q34 (pA v0) (pL v0) (pC v0) (pInt v1) w (fun b15 w => C .normal [.bool b15] w) (fun ch w => C (.panic ch) [] w) | _ => False
theorem T_q34_hl : allP (hokL Tryz.prog (hookAt []) (at_ (bodyOf Tryz.f21) [1, 1, 0, 1, 0, 0, 1, 0, 0, 1, 0, 0]) 7460) = (True) := by kernel_rfl
theorem T_q34_hok : HOk Tryz.prog (hookAt []) (at_ (bodyOf Tryz.f21) [1, 1, 0, 1, 0, 0, 1, 0, 0, 1, 0, 0]) 7460 := HOk_of _ _ (by rw [T_q34_hl]; exact trivial)
theorem T_q34_eq (C : Conts) (keep10a : Option Addr) (keep10l keep10c : Nat) (i11 : Int) (w : World) : vcCode Tryz.prog (hookAt []) (at_ (bodyOf Tryz.f21) [1, 1, 0, 1, 0, 0, 1, 0, 0, 1, 0, 0]) 7460 ⟨[(1, .slice keep10a keep10l keep10c), (5, .int .i64 i11)], 68, []⟩ w (unitQ T_q07 C) = T_q34 keep10a keep10l keep10c i11 w (fun b16 w => C .normal [.bool b16] w) (fun ch w => C (.panic ch) [] w) := by kernel_rfl
theorem T_q5e_2_ok : UnitOk Tryz.prog H_q34 (at_ (bodyOf Tryz.f21) [1, 1, 0, 1, 0, 0, 1, 0, 0, 1, 0, 0]) 7460 := unit_ok (H := (hookAt [])) (by kernel_rfl) T_q34_hok fun l w C hk => by
  obtain ⟨v0, _, rfl, k_v0, hk_v0⟩ := kC hk
  obtain ⟨keep10a, keep10l, keep10c, rfl⟩ := kind_slice k_v0
  obtain ⟨v1, _, rfl, k_v1, hk_v1⟩ := kC hk_v0
  obtain ⟨i11, rfl⟩ := kind_int k_v1
  obtain rfl := kN hk_v1
  exact T_q34_eq C keep10a keep10l keep10c i11 w
def T_q35 (keep19a : Option Addr) (keep19l keep19c : Nat) (i20 k21 : Int) (b22 : Bool) (w : World) (Kn : Int → World → Prop) (Kp : XT) : Prop :=
 if b22 = true then (0 ≤ i20 ∧ i20 < ((keep19l : Nat) : Int) ∧ ∃ b23, keep19a = some b23 ∧ ∃ x24 : Int, rd w (b23.add (i20.toNat * 1)) (.int .i64 x24) ∧ Kn x24 w) else (Kn k21 w)
def T_q08 : Exit → Option (List (Nat × Value)) := fun x => match x with | .normal => some [(6, .int .i64 0)] | .panic _ => some [] | _ => none
def T_q1c : Nat → Bool := ksOf [6, 31, 32, 33, 34]
def H_q35 : Env → World → QT → Prop := unitHook 68 T_q1c [(1, .slice none 0 0), (5, .int .i64 0), (6, .int .i64 0), (30, .bool false)] T_q08 fun l w C => match l with | [v0, v1, v2, v3] => T_q35 (pA v0) (pL v0) (pC v0) (pInt v1) (pInt v2) (pBool v3) w (fun k26 w => C .normal [.int .i64 k26] w) (fun ch w => C (.panic ch) [] w) | _ => False
theorem T_q35_hl : allP (hokL Tryz.prog (hookAt []) (at_ (bodyOf Tryz.f21) [1, 1, 0, 1, 0, 0, 1, 0, 0, 1, 0, 1]) 7461) = (True) := by kernel_rfl
theorem T_q35_hok : HOk Tryz.prog (hookAt []) (at_ (bodyOf Tryz.f21) [1, 1, 0, 1, 0, 0, 1, 0, 0, 1, 0, 1]) 7461 := HOk_of _ _ (by rw [T_q35_hl]; exact trivial)
theorem T_q35_eq (C : Conts) (keep19a : Option Addr) (keep19l keep19c : Nat) (i20 k21 : Int) (b22 : Bool) (w : World) : vcCode Tryz.prog (hookAt []) (at_ (bodyOf Tryz.f21) [1, 1, 0, 1, 0, 0, 1, 0, 0, 1, 0, 1]) 7461 ⟨[(1, .slice keep19a keep19l keep19c), (5, .int .i64 i20), (6, .int .i64 k21), (30, .bool b22)], 68, []⟩ w (unitQ T_q08 C) = T_q35 keep19a keep19l keep19c i20 k21 b22 w (fun k27 w => C .normal [.int .i64 k27] w) (fun ch w => C (.panic ch) [] w) := by kernel_rfl
theorem T_q5e_3_ok : UnitOk Tryz.prog H_q35 (at_ (bodyOf Tryz.f21) [1, 1, 0, 1, 0, 0, 1, 0, 0, 1, 0, 1]) 7461 := unit_ok (H := (hookAt [])) (by kernel_rfl) T_q35_hok fun l w C hk => by
  obtain ⟨v0, _, rfl, k_v0, hk_v0⟩ := kC hk
  obtain ⟨keep19a, keep19l, keep19c, rfl⟩ := kind_slice k_v0
  obtain ⟨v1, _, rfl, k_v1, hk_v1⟩ := kC hk_v0
  obtain ⟨i20, rfl⟩ := kind_int k_v1
  obtain ⟨v2, _, rfl, k_v2, hk_v2⟩ := kC hk_v1
  obtain ⟨k21, rfl⟩ := kind_int k_v2
  obtain ⟨v3, _, rfl, k_v3, hk_v3⟩ := kC hk_v2
  obtain ⟨b22, rfl⟩ := kind_bool k_v3
  obtain rfl := kN hk_v3
  exact T_q35_eq C keep19a keep19l keep19c i20 k21 b22 w
def T_q36 (k39 : Int) (f40 : Addr) (w : World) (Kn : Bool → World → Prop) (Kp : XT) : Prop :=
 ∃ b41 : Bool, rd w (f40.add 1) (.bool b41) ∧ if (!b41) = true then (if (k39 == 0) = true then (Kn true w) else (∃ (s42a : Option Addr) (s42l s42c : Nat), rd w (f40.add 3) (.slice s42a s42l s42c) ∧ Kn (((s42l : Nat) : Int) == 0) w)) else (Kn false w)
def T_q09 : Exit → Option (List (Nat × Value)) := fun x => match x with | .normal => some [(54, .bool false)] | .panic _ => some [] | _ => none
def T_q1d : Nat → Bool := ksOf [42, 43, 44, 45, 46, 47, 48, 49, 50, 51, 52, 53, 54]
def H_q36 : Env → World → QT → Prop := unitHook 68 T_q1d [(6, .int .i64 0), (7, .pointer (some ⟨0, 0, none⟩))] T_q09 fun l w C => match l with | [v0, v1] => T_q36 (pInt v0) (pAddr v1) w (fun b44 w => C .normal [.bool b44] w) (fun ch w => C (.panic ch) [] w) | _ => False
theorem T_q36_hl : allP (hokL Tryz.prog (hookAt []) (at_ (bodyOf Tryz.f21) [1, 1, 0, 1, 0, 0, 1, 0, 0, 1, 1, 1, 0, 0]) 29852) = (True) := by kernel_rfl
theorem T_q36_hok : HOk Tryz.prog (hookAt []) (at_ (bodyOf Tryz.f21) [1, 1, 0, 1, 0, 0, 1, 0, 0, 1, 1, 1, 0, 0]) 29852 := HOk_of _ _ (by rw [T_q36_hl]; exact trivial)
theorem T_q36_eq (C : Conts) (k39 : Int) (f40 : Addr) (w : World) : vcCode Tryz.prog (hookAt []) (at_ (bodyOf Tryz.f21) [1, 1, 0, 1, 0, 0, 1, 0, 0, 1, 1, 1, 0, 0]) 29852 ⟨[(6, .int .i64 k39), (7, .pointer (some f40))], 68, []⟩ w (unitQ T_q09 C) = T_q36 k39 f40 w (fun b45 w => C .normal [.bool b45] w) (fun ch w => C (.panic ch) [] w) := by kernel_rfl
theorem T_q5e_4_ok : UnitOk Tryz.prog H_q36 (at_ (bodyOf Tryz.f21) [1, 1, 0, 1, 0, 0, 1, 0, 0, 1, 1, 1, 0, 0]) 29852 := unit_ok (H := (hookAt [])) (by kernel_rfl) T_q36_hok fun l w C hk => by
  obtain ⟨v0, _, rfl, k_v0, hk_v0⟩ := kC hk
  obtain ⟨k39, rfl⟩ := kind_int k_v0
  obtain ⟨v1, _, rfl, k_v1, hk_v1⟩ := kC hk_v0
  obtain ⟨f40, rfl⟩ := kind_addr k_v1
  obtain rfl := kN hk_v1
  exact T_q36_eq C k39 f40 w
def T_q5e_1_body (X : Option Addr → Nat → Nat → Int → World → Prop) (out4a : Option Addr) (out4l out4c : Nat) (i5 : Int) (d6 keep7a : Option Addr) (keep7l keep7c : Nat) (w : World) (Kn : Option Addr → Nat → Nat → World → Prop) (Kp : XT)  : Prop :=
 ∃ a8, d6 = some a8 ∧ ∃ (s9a : Option Addr) (s9l s9c : Nat), rd w (a8.add 1) (.slice s9a s9l s9c) ∧ if (decide (i5 < ((s9l : Nat) : Int))) = true then (T_q34 keep7a keep7l keep7c i5 w (fun b17 w18 => T_q35 keep7a keep7l keep7c i5 0 b17 w18 (fun k28 w29 => ∃ a30, d6 = some a30 ∧ ∃ (s31a : Option Addr) (s31l s31c : Nat), rd w29 (a30.add 1) (.slice s31a s31l s31c) ∧ 0 ≤ i5 ∧ i5 < ((s31l : Nat) : Int) ∧ ∃ b32, s31a = some b32 ∧ ∃ (s33 : ByteArray) (b34 : Bool) (s35a : Option Addr) (s35l s35c : Nat) (s36a : Option Addr) (s36l s36c : Nat), rd w29 (b32.add (i5.toNat * 4)) (.agg #[.string s33, .bool b34, .slice s35a s35l s35c, .slice s36a s36l s36c]) ∧ let w37 : World := w29.alloc (.cells #[.string (ByteArray.mk #[]), .bool false, .slice none 0 0, .slice none 0 0] 108)
 (.agg #[.string s33, .bool b34, .slice s35a s35l s35c, .slice s36a s36l s36c] : Value).cells.size = 4 ∧ wrOk w37 (⟨w29.heap.size, 0, none⟩ : Addr) (.agg #[.string s33, .bool b34, .slice s35a s35l s35c, .slice s36a s36l s36c]) ∧ let w38 : World := wr w37 (⟨w29.heap.size, 0, none⟩ : Addr) (.agg #[.string s33, .bool b34, .slice s35a s35l s35c, .slice s36a s36l s36c])
 T_q36 k28 (⟨w29.heap.size, 0, none⟩ : Addr) w38 (fun b46 w47 => if b46 = true then (X out4a out4l out4c (IntKind.wrap .i64 (i5 + 1)) w47) else (let w48 : World := w47.drew
 ∃ s49 : ByteArray, rd w48 (⟨w29.heap.size, 0, none⟩ : Addr) (.string s49) ∧ ∃ (s50 : ByteArray) (b51 : Bool) (s52a : Option Addr) (s52l s52c : Nat) (s53a : Option Addr) (s53l s53c : Nat), rd w48 (⟨w29.heap.size, 0, none⟩ : Addr) (.agg #[.string s50, .bool b51, .slice s52a s52l s52c, .slice s53a s53l s53c]) ∧ Calls Tryz.prog 68 #[.agg #[.string s50, .bool b51, .slice s52a s52l s52c, .slice s53a s53l s53c], .int .i64 k28] w48 (ret (fun r54 w55 => ∃ (s56a : Option Addr) (s56l s56c : Nat), r54 = .slice s56a s56l s56c ∧ (rd w55 (⟨w29.heap.size, 0, none⟩ : Addr) (.string s49) ∧ True) ∧ let w57 : World := w55.alloc (.cells #[.string s49, .bool true, .slice s56a s56l s56c, .slice none 0 0] 108)
 (True) ∧ runV Tryz.prog (Builtin.append_ #[88, 88] 88 #[.slice out4a out4l out4c, .slice (some (⟨w55.heap.size, 0, none⟩ : Addr)) 1 1]) w57 (fun r58 w59 => ∃ (s60a : Option Addr) (s60l s60c : Nat), r58 = .slice s60a s60l s60c ∧ (True) ∧ X s60a s60l s60c (IntKind.wrap .i64 (i5 + 1)) w59) Kp) Kp))) Kp) Kp) Kp) else (Kn out4a out4l out4c w)
def T_q33 (out4a : Option Addr) (out4l out4c : Nat) (i5 : Int) (d6 keep7a : Option Addr) (keep7l keep7c : Nat) (w : World) (Kn : Option Addr → Nat → Nat → World → Prop) (Kp : XT) : Prop :=
 ∀ X : Option Addr → Nat → Nat → Int → World → Prop, (∀ (out4a : Option Addr) (out4l out4c : Nat) (i5 : Int) (w : World), T_q5e_1_body X out4a out4l out4c i5 d6 keep7a keep7l keep7c w Kn Kp → X out4a out4l out4c i5 w) → X out4a out4l out4c i5 w
def T_q06 : Exit → Option (List (Nat × Value)) := fun x => match x with | .normal => some [(4, .slice none 0 0)] | .panic _ => some [] | _ => none
def T_q1a : Nat → Bool := ksOf [4, 5, 6, 7, 11, 12, 13, 14, 15, 16, 17, 18, 19, 20, 21, 22, 23, 24, 25, 26, 27, 28, 29, 30, 31, 32, 33, 34, 35, 36, 37, 38, 39, 40, 41, 42, 43, 44, 45, 46, 47, 48, 49, 50, 51, 52, 53, 54, 55, 56, 57, 58, 59, 60, 61, 62, 63]
def H_q33 : Env → World → QT → Prop := unitHook 68 T_q1a [(4, .slice none 0 0), (5, .int .i64 0), (0, .pointer none), (1, .slice none 0 0)] T_q06 fun l w C => match l with | [v0, v1, v2, v3] => T_q33 (pA v0) (pL v0) (pC v0) (pInt v1) (pPtr v2) (pA v3) (pL v3) (pC v3) w (fun out62a out62l out62c w => C .normal [.slice out62a out62l out62c] w) (fun ch w => C (.panic ch) [] w) | _ => False
theorem T_q33_hl : allP (hokL Tryz.prog (hookAt [(7460, H_q34), (7461, H_q35), (29852, H_q36)]) (at_ (bodyOf Tryz.f21) [1, 1, 0, 1, 0, 0]) 116) = (UnitOk Tryz.prog H_q34 (at_ (bodyOf Tryz.f21) [1, 1, 0, 1, 0, 0, 1, 0, 0, 1, 0, 0]) 7460 ∧ UnitOk Tryz.prog H_q35 (at_ (bodyOf Tryz.f21) [1, 1, 0, 1, 0, 0, 1, 0, 0, 1, 0, 1]) 7461 ∧ UnitOk Tryz.prog H_q36 (at_ (bodyOf Tryz.f21) [1, 1, 0, 1, 0, 0, 1, 0, 0, 1, 1, 1, 0, 0]) 29852 ∧ True) := by kernel_rfl
theorem T_q33_hok : HOk Tryz.prog (hookAt [(7460, H_q34), (7461, H_q35), (29852, H_q36)]) (at_ (bodyOf Tryz.f21) [1, 1, 0, 1, 0, 0]) 116 := HOk_of _ _ (by rw [T_q33_hl]; exact ⟨T_q5e_2_ok, T_q5e_3_ok, T_q5e_4_ok, trivial⟩)
theorem T_q33_eq (C : Conts) (X : List Value → World → Prop) (out4a : Option Addr) (out4l out4c : Nat) (i5 : Int) (d6 keep7a : Option Addr) (keep7l keep7c : Nat) (w : World) : vcCode Tryz.prog (hookAt [(7460, H_q34), (7461, H_q35), (29852, H_q36)]) (at_ (bodyOf Tryz.f21) [1, 1, 0, 1, 0, 0]) 116 ⟨[(4, .slice out4a out4l out4c), (5, .int .i64 i5)] ++ [(0, .pointer d6), (1, .slice keep7a keep7l keep7c)], 68, []⟩ w (seqQ (fun e w => takeAll e [(4, .slice none 0 0), (5, .int .i64 0)] fun l => X l w) (blockQ 0 (unitQ T_q06 C))) = T_q5e_1_body (fun out4a out4l out4c i5 w => X [.slice out4a out4l out4c, .int .i64 i5] w) out4a out4l out4c i5 d6 keep7a keep7l keep7c w (fun out63a out63l out63c w => C .normal [.slice out63a out63l out63c] w) (fun ch w => C (.panic ch) [] w) := by kernel_rfl
theorem T_q5e_1_ok : UnitOk Tryz.prog H_q33 (at_ (bodyOf Tryz.f21) [1, 1, 0, 1]) 29 := by
 have hc : at_ (bodyOf Tryz.f21) [1, 1, 0, 1] = .block 0 (.loop (at_ (bodyOf Tryz.f21) [1, 1, 0, 1, 0, 0])) := by kernel_rfl
 rw [hc]
 refine loop_unit_ok (carr := [(4, .slice none 0 0), (5, .int .i64 0)]) (fix := [(0, .pointer none), (1, .slice none 0 0)]) (ks := T_q1a) (H := (hookAt [(7460, H_q34), (7461, H_q35), (29852, H_q36)])) (B := fun C X l u w => match l, u with | [v0, v1], [v2, v3] => T_q5e_1_body (fun out4a out4l out4c i5 w => X [.slice out4a out4l out4c, .int .i64 i5] w) (pA v0) (pL v0) (pC v0) (pInt v1) (pPtr v2) (pA v3) (pL v3) (pC v3) w (fun out64a out64l out64c w => C .normal [.slice out64a out64l out64c] w) (fun ch w => C (.panic ch) [] w) | _, _ => False) (by kernel_rfl) (by kernel_rfl) T_q33_hok ?_ ?_
 ·intro C X l u w hl hu
  obtain ⟨v0, _, rfl, k_v0, hl_v0⟩ := kC hl
  obtain ⟨out4a, out4l, out4c, rfl⟩ := kind_slice k_v0
  obtain ⟨v1, _, rfl, k_v1, hl_v1⟩ := kC hl_v0
  obtain ⟨i5, rfl⟩ := kind_int k_v1
  obtain rfl := kN hl_v1
  obtain ⟨v2, _, rfl, k_v2, hu_v2⟩ := kC hu
  obtain ⟨d6, rfl⟩ := kind_pointer k_v2
  obtain ⟨v3, _, rfl, k_v3, hu_v3⟩ := kC hu_v2
  obtain ⟨keep7a, keep7l, keep7c, rfl⟩ := kind_slice k_v3
  obtain rfl := kN hu_v3
  exact T_q33_eq C X out4a out4l out4c i5 d6 keep7a keep7l keep7c w
 ·intro l u w C hl hu
  obtain ⟨v0, _, rfl, k_v0, hl_v0⟩ := kC hl
  obtain ⟨out4a, out4l, out4c, rfl⟩ := kind_slice k_v0
  obtain ⟨v1, _, rfl, k_v1, hl_v1⟩ := kC hl_v0
  obtain ⟨i5, rfl⟩ := kind_int k_v1
  obtain rfl := kN hl_v1
  obtain ⟨v2, _, rfl, k_v2, hu_v2⟩ := kC hu
  obtain ⟨d6, rfl⟩ := kind_pointer k_v2
  obtain ⟨v3, _, rfl, k_v3, hu_v3⟩ := kC hu_v2
  obtain ⟨keep7a, keep7l, keep7c, rfl⟩ := kind_slice k_v3
  obtain rfl := kN hu_v3
  constructor
  ·intro h X hX
   exact h (fun out4a out4l out4c i5 w => X [.slice out4a out4l out4c, .int .i64 i5] w) (fun out4a out4l out4c i5 w hb => hX [.slice out4a out4l out4c, .int .i64 i5] w ⟨rfl, rfl, trivial⟩ hb)
  ·intro h X hX
   exact h (fun l w => match l with | [v0, v1] => X (pA v0) (pL v0) (pC v0) (pInt v1) w | _ => True) (fun l w hl hb => by
    obtain ⟨v0, _, rfl, k_v0, hl_v0⟩ := kC hl
    obtain ⟨out4a, out4l, out4c, rfl⟩ := kind_slice k_v0
    obtain ⟨v1, _, rfl, k_v1, hl_v1⟩ := kC hl_v0
    obtain ⟨i5, rfl⟩ := kind_int k_v1
    obtain rfl := kN hl_v1
    exact hX out4a out4l out4c i5 w hb)
def T_q5e (d1 keep2a : Option Addr) (keep2l keep2c : Nat) (w : World) (R : RT) : Prop :=
 if d1.isNone = true then (R (.returned (.tuple #[])) w) else (let w3 : World := w.alloc (.cells #[] 108)
 T_q33 (some (⟨w.heap.size, 0, none⟩ : Addr)) 0 0 0 d1 keep2a keep2l keep2c w3 (fun out65a out65l out65c w66 => ∃ a67, d1 = some a67 ∧ (.slice out65a out65l out65c : Value).cells.size = 1 ∧ wrOk w66 (a67.add 1) (.slice out65a out65l out65c) ∧ let w68 : World := wr w66 (a67.add 1) (.slice out65a out65l out65c)
 R (.returned (.tuple #[])) w68) (pan R))
theorem T_q5e_hl : allP (hokL Tryz.prog (hookAt [(29, H_q33)]) (bodyOf Tryz.f21) 1) = (UnitOk Tryz.prog H_q33 (at_ (bodyOf Tryz.f21) [1, 1, 0, 1]) 29 ∧ True) := by kernel_rfl
theorem T_q5e_eq (d1 keep2a : Option Addr) (keep2l keep2c : Nat) (w : World) (R : RT) : vcCode Tryz.prog (hookAt [(29, H_q33)]) (bodyOf Tryz.f21) 1 ⟨argEnv [.pointer d1, .slice keep2a keep2l keep2c] 0, Tryz.f21.ntmps, []⟩ w (finQ Tryz.prog Tryz.f21.results.toList R) = T_q5e d1 keep2a keep2l keep2c w R := by kernel_rfl
theorem T_q5e_b : Tryz.f21.body = some (bodyOf Tryz.f21) := by kernel_rfl
theorem T_q5e_s : (quietSel (bodyOf Tryz.f21) && Nat.ble 2 Tryz.f21.ntmps) = true := by kernel_rfl
theorem C_q5e {d1 keep2a : Option Addr} {keep2l keep2c : Nat} {w : World} {R : RT} (h : T_q5e d1 keep2a keep2l keep2c w R) : Calls Tryz.prog 21 #[.pointer d1, .slice keep2a keep2l keep2c] w R :=
 calls_of_text (args := [.pointer d1, .slice keep2a keep2l keep2c]) mixed Tryz.func21 T_q5e_b T_q5e_s (HOk_of _ _ (by rw [T_q5e_hl]; exact ⟨T_q5e_1_ok, trivial⟩)) (by rw [T_q5e_eq]; exact h)
def T_q8e (n1 : Int) (w : World) (R : RT) : Prop :=
 if (decide (n1 < 10)) = true then (let w2 : World := w.alloc (.cells #[.int .u8 (IntKind.wrap .u8 (IntKind.wrap .i64 ((48 : Int) + n1)))] 5)
 runV Tryz.prog (convert 27 9 (.slice (some (⟨w.heap.size, 0, none⟩ : Addr)) 1 1)) w2 (fun r3 w4 => ∃ s5 : ByteArray, r3 = .string s5 ∧ R (.returned (.string s5)) w4) (pan R)) else (let w6 : World := w.drew
 (Calls Tryz.prog 64 #[.int .i64 (IntKind.wrap .i64 (Int.tdiv n1 10))] w6 (ret (fun r7 w8 => ∃ s9 : ByteArray, r7 = .string s9 ∧ (True) ∧ let w10 : World := w8.alloc (.cells #[.int .u8 (IntKind.wrap .u8 (IntKind.wrap .i64 ((48 : Int) + (Int.tmod n1 10))))] 5)
 (True) ∧ runV Tryz.prog (convert 27 9 (.slice (some (⟨w8.heap.size, 0, none⟩ : Addr)) 1 1)) w10 (fun r11 w12 => ∃ s13 : ByteArray, r11 = .string s13 ∧ (True) ∧ runV Tryz.prog (do eqGuard .add 9 (.tmp 12) (.tmp 18) (.string s9) (.string s13); binOp .add 9 (.string s9) (.string s13)) w12 (fun r14 w15 => ∃ s16 : ByteArray, r14 = .string s16 ∧ (True) ∧ R (.returned (.string s16)) w15) (pan R)) (pan R)) (pan R))) ∧ (let w17 : World := w6.alloc (.cells #[.int .u8 (IntKind.wrap .u8 (IntKind.wrap .i64 ((48 : Int) + (Int.tmod n1 10))))] 5)
 (True) ∧ (Calls Tryz.prog 64 #[.int .i64 (IntKind.wrap .i64 (Int.tdiv n1 10))] w17 (ret (fun r18 w19 => ∃ s20 : ByteArray, r18 = .string s20 ∧ (True) ∧ runV Tryz.prog (convert 27 9 (.slice (some (⟨w6.heap.size, 0, none⟩ : Addr)) 1 1)) w19 (fun r21 w22 => ∃ s23 : ByteArray, r21 = .string s23 ∧ (True) ∧ runV Tryz.prog (do eqGuard .add 9 (.tmp 12) (.tmp 18) (.string s20) (.string s23); binOp .add 9 (.string s20) (.string s23)) w22 (fun r24 w25 => ∃ s26 : ByteArray, r24 = .string s26 ∧ (True) ∧ R (.returned (.string s26)) w25) (pan R)) (pan R)) (pan R))) ∧ (runV Tryz.prog (convert 27 9 (.slice (some (⟨w6.heap.size, 0, none⟩ : Addr)) 1 1)) w17 (fun r27 w28 => ∃ s29 : ByteArray, r27 = .string s29 ∧ (True) ∧ Calls Tryz.prog 64 #[.int .i64 (IntKind.wrap .i64 (Int.tdiv n1 10))] w28 (ret (fun r30 w31 => ∃ s32 : ByteArray, r30 = .string s32 ∧ (True) ∧ runV Tryz.prog (do eqGuard .add 9 (.tmp 12) (.tmp 18) (.string s32) (.string s29); binOp .add 9 (.string s32) (.string s29)) w31 (fun r33 w34 => ∃ s35 : ByteArray, r33 = .string s35 ∧ (True) ∧ R (.returned (.string s35)) w34) (pan R)) (pan R))) (pan R))))
theorem T_q8e_hl : allP (hokL Tryz.prog (hookAt []) (bodyOf Tryz.f64) 1) = (True) := by kernel_rfl
theorem T_q8e_eq (n1 : Int) (w : World) (R : RT) : vcCode Tryz.prog (hookAt []) (bodyOf Tryz.f64) 1 ⟨argEnv [.int .i64 n1] 0, Tryz.f64.ntmps, []⟩ w (finQ Tryz.prog Tryz.f64.results.toList R) = T_q8e n1 w R := by kernel_rfl
theorem T_q8e_b : Tryz.f64.body = some (bodyOf Tryz.f64) := by kernel_rfl
theorem T_q8e_s : (quietSel (bodyOf Tryz.f64) && Nat.ble 1 Tryz.f64.ntmps) = true := by kernel_rfl
theorem C_q8e {n1 : Int} {w : World} {R : RT} (h : T_q8e n1 w R) : Calls Tryz.prog 64 #[.int .i64 n1] w R :=
 calls_of_text (args := [.int .i64 n1]) mixed Tryz.func64 T_q8e_b T_q8e_s (HOk_of _ _ (by rw [T_q8e_hl]; exact trivial)) (by rw [T_q8e_eq]; exact h)
def T_q5m (word3 s4 : ByteArray) (w : World) (Kn : Bool → World → Prop) (Kp : XT) : Prop :=
 if (decide (((s4.size : Nat) : Int) ≤ ((word3.size : Nat) : Int))) = true then (Kn true w) else (if (decide (((s4.size : Nat) : Int) > (IntKind.wrap .i64 (((word3.size : Nat) : Int) + 13)))) = true then (Kn true w) else (0 ≤ ((word3.size : Nat) : Int) ∧ ((word3.size : Nat) : Int) ≤ ((s4.size : Nat) : Int) ∧ Kn (!((s4.extract 0 (((word3.size : Nat) : Int).toNat)).toList == word3.toList)) w))
def T_q1l : Exit → Option (List (Nat × Value)) := fun x => match x with | .normal => some [(27, .bool false)] | .panic _ => some [] | _ => none
def T_q2q : Nat → Bool := ksOf [7, 8, 9, 10, 11, 12, 13, 14, 15, 16, 17, 18, 19, 20, 21, 22, 23, 24, 25, 26, 27]
def H_q5m : Env → World → QT → Prop := unitHook 66 T_q2q [(0, .string default), (1, .string default)] T_q1l fun l w C => match l with | [v0, v1] => T_q5m (pStr v0) (pStr v1) w (fun b6 w => C .normal [.bool b6] w) (fun ch w => C (.panic ch) [] w) | _ => False
theorem T_q5m_hl : allP (hokL Tryz.prog (hookAt []) (at_ (bodyOf Tryz.f65) [1, 0, 0]) 12) = (True) := by kernel_rfl
theorem T_q5m_hok : HOk Tryz.prog (hookAt []) (at_ (bodyOf Tryz.f65) [1, 0, 0]) 12 := HOk_of _ _ (by rw [T_q5m_hl]; exact trivial)
theorem T_q5m_eq (C : Conts) (word3 s4 : ByteArray) (w : World) : vcCode Tryz.prog (hookAt []) (at_ (bodyOf Tryz.f65) [1, 0, 0]) 12 ⟨[(0, .string word3), (1, .string s4)], 66, []⟩ w (unitQ T_q1l C) = T_q5m word3 s4 w (fun b7 w => C .normal [.bool b7] w) (fun ch w => C (.panic ch) [] w) := by kernel_rfl
theorem T_q7f_1_ok : UnitOk Tryz.prog H_q5m (at_ (bodyOf Tryz.f65) [1, 0, 0]) 12 := unit_ok (H := (hookAt [])) (by kernel_rfl) T_q5m_hok fun l w C hk => by
  obtain ⟨v0, _, rfl, k_v0, hk_v0⟩ := kC hk
  obtain ⟨word3, rfl⟩ := kind_string k_v0
  obtain ⟨v1, _, rfl, k_v1, hk_v1⟩ := kC hk_v0
  obtain ⟨s4, rfl⟩ := kind_string k_v1
  obtain rfl := kN hk_v1
  exact T_q5m_eq C word3 s4 w
def T_q5o (s13 : ByteArray) (i14 : Int) (w : World) (Kn : Bool → World → Prop) (Kp : XT) : Prop :=
 0 ≤ i14 ∧ ∃ c15, s13[i14.toNat]? = some c15 ∧ if (decide (((c15.toNat : Nat) : Int) < 48)) = true then (Kn true w) else (0 ≤ i14 ∧ ∃ c16, s13[i14.toNat]? = some c16 ∧ Kn (decide (((c16.toNat : Nat) : Int) > 57)) w)
def T_q1n : Exit → Option (List (Nat × Value)) := fun x => match x with | .normal => some [(45, .bool false)] | .panic _ => some [] | _ => none
def T_q2s : Nat → Bool := ksOf [36, 37, 38, 39, 40, 41, 42, 43, 44, 45]
def H_q5o : Env → World → QT → Prop := unitHook 66 T_q2s [(1, .string default), (6, .int .i64 0)] T_q1n fun l w C => match l with | [v0, v1] => T_q5o (pStr v0) (pInt v1) w (fun b18 w => C .normal [.bool b18] w) (fun ch w => C (.panic ch) [] w) | _ => False
theorem T_q5o_hl : allP (hokL Tryz.prog (hookAt []) (at_ (bodyOf Tryz.f65) [1, 1, 1, 0, 1, 0, 0, 1, 0, 0, 0, 0]) 7824) = (True) := by kernel_rfl
theorem T_q5o_hok : HOk Tryz.prog (hookAt []) (at_ (bodyOf Tryz.f65) [1, 1, 1, 0, 1, 0, 0, 1, 0, 0, 0, 0]) 7824 := HOk_of _ _ (by rw [T_q5o_hl]; exact trivial)
theorem T_q5o_eq (C : Conts) (s13 : ByteArray) (i14 : Int) (w : World) : vcCode Tryz.prog (hookAt []) (at_ (bodyOf Tryz.f65) [1, 1, 1, 0, 1, 0, 0, 1, 0, 0, 0, 0]) 7824 ⟨[(1, .string s13), (6, .int .i64 i14)], 66, []⟩ w (unitQ T_q1n C) = T_q5o s13 i14 w (fun b19 w => C .normal [.bool b19] w) (fun ch w => C (.panic ch) [] w) := by kernel_rfl
theorem T_q7f_3_ok : UnitOk Tryz.prog H_q5o (at_ (bodyOf Tryz.f65) [1, 1, 1, 0, 1, 0, 0, 1, 0, 0, 0, 0]) 7824 := unit_ok (H := (hookAt [])) (by kernel_rfl) T_q5o_hok fun l w C hk => by
  obtain ⟨v0, _, rfl, k_v0, hk_v0⟩ := kC hk
  obtain ⟨s13, rfl⟩ := kind_string k_v0
  obtain ⟨v1, _, rfl, k_v1, hk_v1⟩ := kC hk_v0
  obtain ⟨i14, rfl⟩ := kind_int k_v1
  obtain rfl := kN hk_v1
  exact T_q5o_eq C s13 i14 w
def T_q7f_2_body (X : Int → Int → World → Prop) (n10 i11 : Int) (s12 : ByteArray) (w : World) (Kn : Int → World → Prop) (Kr : Int → World → Prop) (Kp : XT)  : Prop :=
 if (decide (i11 < ((s12.size : Nat) : Int))) = true then (T_q5o s12 i11 w (fun b20 w21 => if b20 = true then (Kr 0 w21) else (0 ≤ i11 ∧ ∃ c22, s12[i11.toNat]? = some c22 ∧ X (IntKind.wrap .i64 ((IntKind.wrap .i64 (n10 * 10) : Int) + (IntKind.wrap .i64 (IntKind.wrap .u8 (((c22.toNat : Nat) : Int) - 48))))) (IntKind.wrap .i64 (i11 + 1)) w21)) Kp) else (Kn n10 w)
def T_q5n (n10 i11 : Int) (s12 : ByteArray) (w : World) (Kn : Int → World → Prop) (Kr : Int → World → Prop) (Kp : XT) : Prop :=
 ∀ X : Int → Int → World → Prop, (∀ (n10 i11 : Int) (w : World), T_q7f_2_body X n10 i11 s12 w Kn Kr Kp → X n10 i11 w) → X n10 i11 w
def T_q1m : Exit → Option (List (Nat × Value)) := fun x => match x with | .normal => some [(5, .int .i64 0)] | .ret => some [(4, .int .i64 0)] | .panic _ => some [] | _ => none
def T_q2r : Nat → Bool := ksOf [4, 5, 6, 30, 31, 32, 33, 34, 35, 36, 37, 38, 39, 40, 41, 42, 43, 44, 45, 46, 47, 48, 49, 50, 51, 52, 53]
def H_q5n : Env → World → QT → Prop := unitHook 66 T_q2r [(5, .int .i64 0), (6, .int .i64 0), (1, .string default)] T_q1m fun l w C => match l with | [v0, v1, v2] => T_q5n (pInt v0) (pInt v1) (pStr v2) w (fun n25 w => C .normal [.int .i64 n25] w) (fun x26 w => C .ret [.int .i64 x26] w) (fun ch w => C (.panic ch) [] w) | _ => False
theorem T_q5n_hl : allP (hokL Tryz.prog (hookAt [(7824, H_q5o)]) (at_ (bodyOf Tryz.f65) [1, 1, 1, 0, 1, 0, 0]) 244) = (UnitOk Tryz.prog H_q5o (at_ (bodyOf Tryz.f65) [1, 1, 1, 0, 1, 0, 0, 1, 0, 0, 0, 0]) 7824 ∧ True) := by kernel_rfl
theorem T_q5n_hok : HOk Tryz.prog (hookAt [(7824, H_q5o)]) (at_ (bodyOf Tryz.f65) [1, 1, 1, 0, 1, 0, 0]) 244 := HOk_of _ _ (by rw [T_q5n_hl]; exact ⟨T_q7f_3_ok, trivial⟩)
theorem T_q5n_eq (C : Conts) (X : List Value → World → Prop) (n10 i11 : Int) (s12 : ByteArray) (w : World) : vcCode Tryz.prog (hookAt [(7824, H_q5o)]) (at_ (bodyOf Tryz.f65) [1, 1, 1, 0, 1, 0, 0]) 244 ⟨[(5, .int .i64 n10), (6, .int .i64 i11)] ++ [(1, .string s12)], 66, []⟩ w (seqQ (fun e w => takeAll e [(5, .int .i64 0), (6, .int .i64 0)] fun l => X l w) (blockQ 0 (unitQ T_q1m C))) = T_q7f_2_body (fun n10 i11 w => X [.int .i64 n10, .int .i64 i11] w) n10 i11 s12 w (fun n27 w => C .normal [.int .i64 n27] w) (fun x28 w => C .ret [.int .i64 x28] w) (fun ch w => C (.panic ch) [] w) := by kernel_rfl
theorem T_q7f_2_ok : UnitOk Tryz.prog H_q5n (at_ (bodyOf Tryz.f65) [1, 1, 1, 0, 1]) 61 := by
 have hc : at_ (bodyOf Tryz.f65) [1, 1, 1, 0, 1] = .block 0 (.loop (at_ (bodyOf Tryz.f65) [1, 1, 1, 0, 1, 0, 0])) := by kernel_rfl
 rw [hc]
 refine loop_unit_ok (carr := [(5, .int .i64 0), (6, .int .i64 0)]) (fix := [(1, .string default)]) (ks := T_q2r) (H := (hookAt [(7824, H_q5o)])) (B := fun C X l u w => match l, u with | [v0, v1], [v2] => T_q7f_2_body (fun n10 i11 w => X [.int .i64 n10, .int .i64 i11] w) (pInt v0) (pInt v1) (pStr v2) w (fun n29 w => C .normal [.int .i64 n29] w) (fun x30 w => C .ret [.int .i64 x30] w) (fun ch w => C (.panic ch) [] w) | _, _ => False) (by kernel_rfl) (by kernel_rfl) T_q5n_hok ?_ ?_
 ·intro C X l u w hl hu
  obtain ⟨v0, _, rfl, k_v0, hl_v0⟩ := kC hl
  obtain ⟨n10, rfl⟩ := kind_int k_v0
  obtain ⟨v1, _, rfl, k_v1, hl_v1⟩ := kC hl_v0
  obtain ⟨i11, rfl⟩ := kind_int k_v1
  obtain rfl := kN hl_v1
  obtain ⟨v2, _, rfl, k_v2, hu_v2⟩ := kC hu
  obtain ⟨s12, rfl⟩ := kind_string k_v2
  obtain rfl := kN hu_v2
  exact T_q5n_eq C X n10 i11 s12 w
 ·intro l u w C hl hu
  obtain ⟨v0, _, rfl, k_v0, hl_v0⟩ := kC hl
  obtain ⟨n10, rfl⟩ := kind_int k_v0
  obtain ⟨v1, _, rfl, k_v1, hl_v1⟩ := kC hl_v0
  obtain ⟨i11, rfl⟩ := kind_int k_v1
  obtain rfl := kN hl_v1
  obtain ⟨v2, _, rfl, k_v2, hu_v2⟩ := kC hu
  obtain ⟨s12, rfl⟩ := kind_string k_v2
  obtain rfl := kN hu_v2
  constructor
  ·intro h X hX
   exact h (fun n10 i11 w => X [.int .i64 n10, .int .i64 i11] w) (fun n10 i11 w hb => hX [.int .i64 n10, .int .i64 i11] w ⟨rfl, rfl, trivial⟩ hb)
  ·intro h X hX
   exact h (fun l w => match l with | [v0, v1] => X (pInt v0) (pInt v1) w | _ => True) (fun l w hl hb => by
    obtain ⟨v0, _, rfl, k_v0, hl_v0⟩ := kC hl
    obtain ⟨n10, rfl⟩ := kind_int k_v0
    obtain ⟨v1, _, rfl, k_v1, hl_v1⟩ := kC hl_v0
    obtain ⟨i11, rfl⟩ := kind_int k_v1
    obtain rfl := kN hl_v1
    exact hX n10 i11 w hb)
def T_q7f (word1 s2 : ByteArray) (w : World) (R : RT) : Prop :=
 T_q5m word1 s2 w (fun b8 w9 => if b8 = true then (R (.returned (.int .i64 0)) w9) else (T_q5n 0 ((word1.size : Nat) : Int) s2 w9 (fun n31 w32 => let w33 : World := w32.drew
 if (decide (n31 > 1099511627776)) = true then ((True) ∧ R (.returned (.int .i64 0)) w33) else (0 ≤ ((word1.size : Nat) : Int) ∧ ((word1.size : Nat) : Int) ≤ ((s2.size : Nat) : Int) ∧ Calls Tryz.prog 64 #[.int .i64 n31] w33 (ret (fun r34 w35 => ∃ s36 : ByteArray, r34 = .string s36 ∧ (True) ∧ if (!(s36.toList == (s2.extract (((word1.size : Nat) : Int).toNat) s2.size).toList)) = true then (R (.returned (.int .i64 0)) w35) else (R (.returned (.int .i64 n31)) w35)) (pan R)))) (fun x37 w38 => R (.returned (.int .i64 x37)) w38) (pan R))) (pan R)
theorem T_q7f_hl : allP (hokL Tryz.prog (hookAt [(12, H_q5m), (61, H_q5n)]) (bodyOf Tryz.f65) 1) = (UnitOk Tryz.prog H_q5m (at_ (bodyOf Tryz.f65) [1, 0, 0]) 12 ∧ UnitOk Tryz.prog H_q5n (at_ (bodyOf Tryz.f65) [1, 1, 1, 0, 1]) 61 ∧ True) := by kernel_rfl
theorem T_q7f_eq (word1 s2 : ByteArray) (w : World) (R : RT) : vcCode Tryz.prog (hookAt [(12, H_q5m), (61, H_q5n)]) (bodyOf Tryz.f65) 1 ⟨argEnv [.string word1, .string s2] 0, Tryz.f65.ntmps, []⟩ w (finQ Tryz.prog Tryz.f65.results.toList R) = T_q7f word1 s2 w R := by kernel_rfl
theorem T_q7f_b : Tryz.f65.body = some (bodyOf Tryz.f65) := by kernel_rfl
theorem T_q7f_s : (quietSel (bodyOf Tryz.f65) && Nat.ble 2 Tryz.f65.ntmps) = true := by kernel_rfl
theorem C_q7f {word1 s2 : ByteArray} {w : World} {R : RT} (h : T_q7f word1 s2 w R) : Calls Tryz.prog 65 #[.string word1, .string s2] w R :=
 calls_of_text (args := [.string word1, .string s2]) mixed Tryz.func65 T_q7f_b T_q7f_s (HOk_of _ _ (by rw [T_q7f_hl]; exact ⟨T_q7f_1_ok, T_q7f_2_ok, trivial⟩)) (by rw [T_q7f_eq]; exact h)
def T_q8h (s54 : Addr) (k55 : Int) (w : World) (Kn : Bool → World → Prop) (Kp : XT) : Prop :=
 if (decide (k55 > 0)) = true then (∃ x56 : Int, rd w s54 (.int .i64 x56) ∧ Kn (decide (k55 < x56)) w) else (Kn false w)
def T_q4n : Exit → Option (List (Nat × Value)) := fun x => match x with | .normal => some [(65, .bool false)] | .panic _ => some [] | _ => none
def T_q6k : Nat → Bool := ksOf [57, 58, 59, 60, 61, 62, 63, 64, 65]
def H_q8h : Env → World → QT → Prop := unitHook 72 T_q6k [(3, .pointer (some ⟨0, 0, none⟩)), (9, .int .i64 0)] T_q4n fun l w C => match l with | [v0, v1] => T_q8h (pAddr v0) (pInt v1) w (fun b58 w => C .normal [.bool b58] w) (fun ch w => C (.panic ch) [] w) | _ => False
theorem T_q8h_hl : allP (hokL Tryz.prog (hookAt []) (at_ (bodyOf Tryz.f19) [1, 1, 1, 1, 1, 1, 1, 1, 1, 1, 1, 0, 1, 0, 0, 1, 0, 0, 1, 0]) 2096786) = (True) := by kernel_rfl
theorem T_q8h_hok : HOk Tryz.prog (hookAt []) (at_ (bodyOf Tryz.f19) [1, 1, 1, 1, 1, 1, 1, 1, 1, 1, 1, 0, 1, 0, 0, 1, 0, 0, 1, 0]) 2096786 := HOk_of _ _ (by rw [T_q8h_hl]; exact trivial)
theorem T_q8h_eq (C : Conts) (s54 : Addr) (k55 : Int) (w : World) : vcCode Tryz.prog (hookAt []) (at_ (bodyOf Tryz.f19) [1, 1, 1, 1, 1, 1, 1, 1, 1, 1, 1, 0, 1, 0, 0, 1, 0, 0, 1, 0]) 2096786 ⟨[(3, .pointer (some s54)), (9, .int .i64 k55)], 72, []⟩ w (unitQ T_q4n C) = T_q8h s54 k55 w (fun b59 w => C .normal [.bool b59] w) (fun ch w => C (.panic ch) [] w) := by kernel_rfl
theorem T_q9n_2_ok : UnitOk Tryz.prog H_q8h (at_ (bodyOf Tryz.f19) [1, 1, 1, 1, 1, 1, 1, 1, 1, 1, 1, 0, 1, 0, 0, 1, 0, 0, 1, 0]) 2096786 := unit_ok (H := (hookAt [])) (by kernel_rfl) T_q8h_hok fun l w C hk => by
  obtain ⟨v0, _, rfl, k_v0, hk_v0⟩ := kC hk
  obtain ⟨s54, rfl⟩ := kind_addr k_v0
  obtain ⟨v1, _, rfl, k_v1, hk_v1⟩ := kC hk_v0
  obtain ⟨k55, rfl⟩ := kind_int k_v1
  obtain rfl := kN hk_v1
  exact T_q8h_eq C s54 k55 w
def T_q9n_1_body (X : Int → World → Prop) (i45 : Int) (d46 : Option Addr) (s47 : Addr) (names48a : Option Addr) (names48l names48c : Nat) (w : World) (Kn : World → Prop) (Kp : XT)  : Prop :=
 if (decide (i45 < ((names48l : Nat) : Int))) = true then (0 ≤ i45 ∧ i45 < ((names48l : Nat) : Int) ∧ ∃ b49, names48a = some b49 ∧ ∃ s50 : ByteArray, rd w (b49.add (i45.toNat * 1)) (.string s50) ∧ Calls Tryz.prog 65 #[.string (ByteArray.mk #[115, 110, 97, 112, 45]), .string s50] w (ret (fun r51 w52 => ∃ x53 : Int, r51 = .int .i64 x53 ∧ T_q8h s47 x53 w52 (fun b60 w61 => if b60 = true then (0 ≤ i45 ∧ i45 < ((names48l : Nat) : Int) ∧ ∃ b62, names48a = some b62 ∧ ∃ s63 : ByteArray, rd w61 (b62.add (i45.toNat * 1)) (.string s63) ∧ Calls Tryz.prog 61 #[.pointer d46, .string s63] w61 (ret (fun r64 w65 => ∃ x66 : Int, r64 = .int .i64 x66 ∧ X (IntKind.wrap .i64 (i45 + 1)) w65) Kp)) else (X (IntKind.wrap .i64 (i45 + 1)) w61)) Kp) Kp)) else (Kn  w)
def T_q8g (i45 : Int) (d46 : Option Addr) (s47 : Addr) (names48a : Option Addr) (names48l names48c : Nat) (w : World) (Kn : World → Prop) (Kp : XT) : Prop :=
 ∀ X : Int → World → Prop, (∀ (i45 : Int) (w : World), T_q9n_1_body X i45 d46 s47 names48a names48l names48c w Kn Kp → X i45 w) → X i45 w
def T_q4m : Exit → Option (List (Nat × Value)) := fun x => match x with | .normal => some [] | .panic _ => some [] | _ => none
def T_q6j : Nat → Bool := ksOf [8, 9, 46, 47, 48, 49, 50, 51, 52, 53, 54, 55, 56, 57, 58, 59, 60, 61, 62, 63, 64, 65, 66, 67, 68, 69, 70, 71]
def H_q8g : Env → World → QT → Prop := unitHook 72 T_q6j [(8, .int .i64 0), (0, .pointer none), (3, .pointer (some ⟨0, 0, none⟩)), (7, .slice none 0 0)] T_q4m fun l w C => match l with | [v0, v1, v2, v3] => T_q8g (pInt v0) (pPtr v1) (pAddr v2) (pA v3) (pL v3) (pC v3) w (fun w => C .normal [] w) (fun ch w => C (.panic ch) [] w) | _ => False
theorem T_q8g_hl : allP (hokL Tryz.prog (hookAt [(2096786, H_q8h)]) (at_ (bodyOf Tryz.f19) [1, 1, 1, 1, 1, 1, 1, 1, 1, 1, 1, 0, 1, 0, 0]) 65524) = (UnitOk Tryz.prog H_q8h (at_ (bodyOf Tryz.f19) [1, 1, 1, 1, 1, 1, 1, 1, 1, 1, 1, 0, 1, 0, 0, 1, 0, 0, 1, 0]) 2096786 ∧ True) := by kernel_rfl
theorem T_q8g_hok : HOk Tryz.prog (hookAt [(2096786, H_q8h)]) (at_ (bodyOf Tryz.f19) [1, 1, 1, 1, 1, 1, 1, 1, 1, 1, 1, 0, 1, 0, 0]) 65524 := HOk_of _ _ (by rw [T_q8g_hl]; exact ⟨T_q9n_2_ok, trivial⟩)
theorem T_q8g_eq (C : Conts) (X : List Value → World → Prop) (i45 : Int) (d46 : Option Addr) (s47 : Addr) (names48a : Option Addr) (names48l names48c : Nat) (w : World) : vcCode Tryz.prog (hookAt [(2096786, H_q8h)]) (at_ (bodyOf Tryz.f19) [1, 1, 1, 1, 1, 1, 1, 1, 1, 1, 1, 0, 1, 0, 0]) 65524 ⟨[(8, .int .i64 i45)] ++ [(0, .pointer d46), (3, .pointer (some s47)), (7, .slice names48a names48l names48c)], 72, []⟩ w (seqQ (fun e w => takeAll e [(8, .int .i64 0)] fun l => X l w) (blockQ 0 (unitQ T_q4m C))) = T_q9n_1_body (fun i45 w => X [.int .i64 i45] w) i45 d46 s47 names48a names48l names48c w (fun w => C .normal [] w) (fun ch w => C (.panic ch) [] w) := by kernel_rfl
theorem T_q9n_1_ok : UnitOk Tryz.prog H_q8g (at_ (bodyOf Tryz.f19) [1, 1, 1, 1, 1, 1, 1, 1, 1, 1, 1, 0, 1]) 16381 := by
 have hc : at_ (bodyOf Tryz.f19) [1, 1, 1, 1, 1, 1, 1, 1, 1, 1, 1, 0, 1] = .block 0 (.loop (at_ (bodyOf Tryz.f19) [1, 1, 1, 1, 1, 1, 1, 1, 1, 1, 1, 0, 1, 0, 0])) := by kernel_rfl
 rw [hc]
 refine loop_unit_ok (carr := [(8, .int .i64 0)]) (fix := [(0, .pointer none), (3, .pointer (some ⟨0, 0, none⟩)), (7, .slice none 0 0)]) (ks := T_q6j) (H := (hookAt [(2096786, H_q8h)])) (B := fun C X l u w => match l, u with | [v0], [v1, v2, v3] => T_q9n_1_body (fun i45 w => X [.int .i64 i45] w) (pInt v0) (pPtr v1) (pAddr v2) (pA v3) (pL v3) (pC v3) w (fun w => C .normal [] w) (fun ch w => C (.panic ch) [] w) | _, _ => False) (by kernel_rfl) (by kernel_rfl) T_q8g_hok ?_ ?_
 ·intro C X l u w hl hu
  obtain ⟨v0, _, rfl, k_v0, hl_v0⟩ := kC hl
  obtain ⟨i45, rfl⟩ := kind_int k_v0
  obtain rfl := kN hl_v0
  obtain ⟨v1, _, rfl, k_v1, hu_v1⟩ := kC hu
  obtain ⟨d46, rfl⟩ := kind_pointer k_v1
  obtain ⟨v2, _, rfl, k_v2, hu_v2⟩ := kC hu_v1
  obtain ⟨s47, rfl⟩ := kind_addr k_v2
  obtain ⟨v3, _, rfl, k_v3, hu_v3⟩ := kC hu_v2
  obtain ⟨names48a, names48l, names48c, rfl⟩ := kind_slice k_v3
  obtain rfl := kN hu_v3
  exact T_q8g_eq C X i45 d46 s47 names48a names48l names48c w
 ·intro l u w C hl hu
  obtain ⟨v0, _, rfl, k_v0, hl_v0⟩ := kC hl
  obtain ⟨i45, rfl⟩ := kind_int k_v0
  obtain rfl := kN hl_v0
  obtain ⟨v1, _, rfl, k_v1, hu_v1⟩ := kC hu
  obtain ⟨d46, rfl⟩ := kind_pointer k_v1
  obtain ⟨v2, _, rfl, k_v2, hu_v2⟩ := kC hu_v1
  obtain ⟨s47, rfl⟩ := kind_addr k_v2
  obtain ⟨v3, _, rfl, k_v3, hu_v3⟩ := kC hu_v2
  obtain ⟨names48a, names48l, names48c, rfl⟩ := kind_slice k_v3
  obtain rfl := kN hu_v3
  constructor
  ·intro h X hX
   exact h (fun i45 w => X [.int .i64 i45] w) (fun i45 w hb => hX [.int .i64 i45] w ⟨rfl, trivial⟩ hb)
  ·intro h X hX
   exact h (fun l w => match l with | [v0] => X (pInt v0) w | _ => True) (fun l w hl hb => by
    obtain ⟨v0, _, rfl, k_v0, hl_v0⟩ := kC hl
    obtain ⟨i45, rfl⟩ := kind_int k_v0
    obtain rfl := kN hl_v0
    exact hX i45 w hb)
def T_q9n (d1 : Option Addr) (x2 x3 : Int) (s4a : Option Addr) (s4l s4c : Nat) (s5a : Option Addr) (s5l s5c : Nat) (s6a : Option Addr) (s6l s6c : Nat) (w : World) (R : RT) : Prop :=
 let w7 : World := w.alloc (.cells #[.int .i64 x2, .int .i64 x3, .slice s4a s4l s4c, .slice s5a s5l s5c, .slice s6a s6l s6c] 29)
 if d1.isNone = true then (R (.returned (.int .i64 1)) w7) else (∃ (x8 x9 : Int) (s10a : Option Addr) (s10l s10c : Nat) (s11a : Option Addr) (s11l s11c : Nat) (s12a : Option Addr) (s12l s12c : Nat), rd w7 (⟨w.heap.size, 0, none⟩ : Addr) (.agg #[.int .i64 x8, .int .i64 x9, .slice s10a s10l s10c, .slice s11a s11l s11c, .slice s12a s12l s12c]) ∧ Calls Tryz.prog 10 #[.agg #[.int .i64 x8, .int .i64 x9, .slice s10a s10l s10c, .slice s11a s11l s11c, .slice s12a s12l s12c]] w7 (ret (fun r13 w14 => ∃ (s15a : Option Addr) (s15l s15c : Nat) (x16 : Int), r13 = .tuple #[.slice s15a s15l s15c, .int .i64 x16] ∧ if (x16 != 0) = true then (R (.returned (.int .i64 x16)) w14) else (Calls Tryz.prog 61 #[.pointer d1, .string (ByteArray.mk #[115, 110, 97, 112, 46, 116, 109, 112])] w14 (ret (fun r17 w18 => ∃ x19 : Int, r17 = .int .i64 x19 ∧ Calls Tryz.prog 23 #[.pointer d1, .string (ByteArray.mk #[115, 110, 97, 112, 46, 116, 109, 112]), .int .i64 0, .slice s15a s15l s15c] w18 (ret (fun r20 w21 => ∃ x22 : Int, r20 = .int .i64 x22 ∧ if (x22 != 0) = true then (Calls Tryz.prog 61 #[.pointer d1, .string (ByteArray.mk #[115, 110, 97, 112, 46, 116, 109, 112])] w21 (ret (fun r23 w24 => ∃ x25 : Int, r23 = .int .i64 x25 ∧ R (.returned (.int .i64 x22)) w24) (pan R))) else (Calls Tryz.prog 62 #[.pointer d1, .string (ByteArray.mk #[115, 110, 97, 112, 46, 116, 109, 112])] w21 (ret (fun r26 w27 => ∃ x28 : Int, r26 = .int .i64 x28 ∧ ∃ x29 : Int, rd w27 (⟨w.heap.size, 0, none⟩ : Addr) (.int .i64 x29) ∧ Calls Tryz.prog 64 #[.int .i64 x29] w27 (ret (fun r30 w31 => ∃ s32 : ByteArray, r30 = .string s32 ∧ runV Tryz.prog (do eqGuard .add 9 (.const (.string (ByteArray.mk #[115, 110, 97, 112, 45]))) (.tmp 36) (.string (ByteArray.mk #[115, 110, 97, 112, 45])) (.string s32); binOp .add 9 (.string (ByteArray.mk #[115, 110, 97, 112, 45])) (.string s32)) w31 (fun r33 w34 => ∃ s35 : ByteArray, r33 = .string s35 ∧ Calls Tryz.prog 63 #[.pointer d1, .string (ByteArray.mk #[115, 110, 97, 112, 46, 116, 109, 112]), .string s35] w34 (ret (fun r36 w37 => ∃ x38 : Int, r36 = .int .i64 x38 ∧ if (x38 != 0) = true then (Calls Tryz.prog 61 #[.pointer d1, .string (ByteArray.mk #[115, 110, 97, 112, 46, 116, 109, 112])] w37 (ret (fun r39 w40 => ∃ x41 : Int, r39 = .int .i64 x41 ∧ R (.returned (.int .i64 x38)) w40) (pan R))) else (Calls Tryz.prog 28 #[.pointer d1] w37 (ret (fun r42 w43 => ∃ (s44a : Option Addr) (s44l s44c : Nat), r42 = .slice s44a s44l s44c ∧ T_q8g 0 d1 (⟨w.heap.size, 0, none⟩ : Addr) s44a s44l s44c w43 (fun w67 => R (.returned (.int .i64 0)) w67) (pan R)) (pan R)))) (pan R))) (pan R)) (pan R))) (pan R)))) (pan R))) (pan R)))) (pan R)))
theorem T_q9n_hl : allP (hokL Tryz.prog (hookAt [(16381, H_q8g)]) (bodyOf Tryz.f19) 1) = (UnitOk Tryz.prog H_q8g (at_ (bodyOf Tryz.f19) [1, 1, 1, 1, 1, 1, 1, 1, 1, 1, 1, 0, 1]) 16381 ∧ True) := by kernel_rfl
theorem T_q9n_eq (d1 : Option Addr) (x2 x3 : Int) (s4a : Option Addr) (s4l s4c : Nat) (s5a : Option Addr) (s5l s5c : Nat) (s6a : Option Addr) (s6l s6c : Nat) (w : World) (R : RT) : vcCode Tryz.prog (hookAt [(16381, H_q8g)]) (bodyOf Tryz.f19) 1 ⟨argEnv [.pointer d1, .agg #[.int .i64 x2, .int .i64 x3, .slice s4a s4l s4c, .slice s5a s5l s5c, .slice s6a s6l s6c]] 0, Tryz.f19.ntmps, []⟩ w (finQ Tryz.prog Tryz.f19.results.toList R) = T_q9n d1 x2 x3 s4a s4l s4c s5a s5l s5c s6a s6l s6c w R := by kernel_rfl
theorem T_q9n_b : Tryz.f19.body = some (bodyOf Tryz.f19) := by kernel_rfl
theorem T_q9n_s : (quietSel (bodyOf Tryz.f19) && Nat.ble 2 Tryz.f19.ntmps) = true := by kernel_rfl
theorem C_q9n {d1 : Option Addr} {x2 x3 : Int} {s4a : Option Addr} {s4l s4c : Nat} {s5a : Option Addr} {s5l s5c : Nat} {s6a : Option Addr} {s6l s6c : Nat} {w : World} {R : RT} (h : T_q9n d1 x2 x3 s4a s4l s4c s5a s5l s5c s6a s6l s6c w R) : Calls Tryz.prog 19 #[.pointer d1, .agg #[.int .i64 x2, .int .i64 x3, .slice s4a s4l s4c, .slice s5a s5l s5c, .slice s6a s6l s6c]] w R :=
 calls_of_text (args := [.pointer d1, .agg #[.int .i64 x2, .int .i64 x3, .slice s4a s4l s4c, .slice s5a s5l s5c, .slice s6a s6l s6c]]) mixed Tryz.func19 T_q9n_b T_q9n_s (HOk_of _ _ (by rw [T_q9n_hl]; exact ⟨T_q9n_1_ok, trivial⟩)) (by rw [T_q9n_eq]; exact h)
def T_q9l_1_body (X : Int → World → Prop) (i14 : Int) (d15 : Option Addr) (best16 : Addr) (names17a : Option Addr) (names17l names17c : Nat) (w : World) (Kn : World → Prop) (Kp : XT)  : Prop :=
 if (decide (i14 < ((names17l : Nat) : Int))) = true then (0 ≤ i14 ∧ i14 < ((names17l : Nat) : Int) ∧ ∃ b18, names17a = some b18 ∧ ∃ s19 : ByteArray, rd w (b18.add (i14.toNat * 1)) (.string s19) ∧ Calls Tryz.prog 65 #[.string (ByteArray.mk #[115, 110, 97, 112, 45]), .string s19] w (ret (fun r20 w21 => ∃ x22 : Int, r20 = .int .i64 x22 ∧ 0 ≤ i14 ∧ i14 < ((names17l : Nat) : Int) ∧ ∃ b23, names17a = some b23 ∧ ∃ s24 : ByteArray, rd w21 (b23.add (i14.toNat * 1)) (.string s24) ∧ Calls Tryz.prog 76 #[.pointer d15, .string s24] w21 (ret (fun r25 w26 => ∃ (s27a : Option Addr) (s27l s27c : Nat) (x28 : Int), r25 = .tuple #[.slice s27a s27l s27c, .int .i64 x28] ∧ Calls Tryz.prog 14 #[.slice s27a s27l s27c] w26 (ret (fun r29 w30 => ∃ (x31 x32 : Int) (s33a : Option Addr) (s33l s33c : Nat) (s34a : Option Addr) (s34l s34c : Nat) (s35a : Option Addr) (s35l s35c : Nat) (x36 : Int), r29 = .tuple #[.agg #[.int .i64 x31, .int .i64 x32, .slice s33a s33l s33c, .slice s34a s34l s34c, .slice s35a s35l s35c], .int .i64 x36] ∧ let w37 : World := w30.alloc (.cells #[.int .i64 0, .int .i64 0, .slice none 0 0, .slice none 0 0, .slice none 0 0] 29)
 (.agg #[.int .i64 x31, .int .i64 x32, .slice s33a s33l s33c, .slice s34a s34l s34c, .slice s35a s35l s35c] : Value).cells.size = 5 ∧ wrOk w37 (⟨w30.heap.size, 0, none⟩ : Addr) (.agg #[.int .i64 x31, .int .i64 x32, .slice s33a s33l s33c, .slice s34a s34l s34c, .slice s35a s35l s35c]) ∧ let w38 : World := wr w37 (⟨w30.heap.size, 0, none⟩ : Addr) (.agg #[.int .i64 x31, .int .i64 x32, .slice s33a s33l s33c, .slice s34a s34l s34c, .slice s35a s35l s35c])
 if (decide (x22 > 0)) = true then (if (x36 == 0) = true then (∃ x39 : Int, rd w38 (⟨w30.heap.size, 0, none⟩ : Addr) (.int .i64 x39) ∧ if (x39 == x22) = true then (∃ x40 : Int, rd w38 best16 (.int .i64 x40) ∧ if (decide (x22 > x40)) = true then (∃ (x41 x42 : Int) (s43a : Option Addr) (s43l s43c : Nat) (s44a : Option Addr) (s44l s44c : Nat) (s45a : Option Addr) (s45l s45c : Nat), rd w38 (⟨w30.heap.size, 0, none⟩ : Addr) (.agg #[.int .i64 x41, .int .i64 x42, .slice s43a s43l s43c, .slice s44a s44l s44c, .slice s45a s45l s45c]) ∧ (.agg #[.int .i64 x41, .int .i64 x42, .slice s43a s43l s43c, .slice s44a s44l s44c, .slice s45a s45l s45c] : Value).cells.size = 5 ∧ wrOk w38 best16 (.agg #[.int .i64 x41, .int .i64 x42, .slice s43a s43l s43c, .slice s44a s44l s44c, .slice s45a s45l s45c]) ∧ let w46 : World := wr w38 best16 (.agg #[.int .i64 x41, .int .i64 x42, .slice s43a s43l s43c, .slice s44a s44l s44c, .slice s45a s45l s45c])
 X (IntKind.wrap .i64 (i14 + 1)) w46) else (X (IntKind.wrap .i64 (i14 + 1)) w38)) else (X (IntKind.wrap .i64 (i14 + 1)) w38)) else (X (IntKind.wrap .i64 (i14 + 1)) w38)) else (X (IntKind.wrap .i64 (i14 + 1)) w38)) Kp)) Kp)) Kp)) else (Kn  w)
def T_q8f (i14 : Int) (d15 : Option Addr) (best16 : Addr) (names17a : Option Addr) (names17l names17c : Nat) (w : World) (Kn : World → Prop) (Kp : XT) : Prop :=
 ∀ X : Int → World → Prop, (∀ (i14 : Int) (w : World), T_q9l_1_body X i14 d15 best16 names17a names17l names17c w Kn Kp → X i14 w) → X i14 w
def T_q4l : Exit → Option (List (Nat × Value)) := fun x => match x with | .normal => some [] | .panic _ => some [] | _ => none
def T_q6i : Nat → Bool := ksOf [6, 7, 8, 9, 10, 11, 18, 19, 20, 21, 22, 23, 24, 25, 26, 27, 28, 29, 30, 31, 32, 33, 34, 35, 36, 37, 38, 39, 40, 41, 42, 43, 44, 45, 46, 47, 48, 49, 50, 51, 52, 53, 54, 55, 56, 57, 58, 59, 60, 61, 62, 63]
def H_q8f : Env → World → QT → Prop := unitHook 70 T_q6i [(6, .int .i64 0), (0, .pointer none), (4, .pointer (some ⟨0, 0, none⟩)), (5, .slice none 0 0)] T_q4l fun l w C => match l with | [v0, v1, v2, v3] => T_q8f (pInt v0) (pPtr v1) (pAddr v2) (pA v3) (pL v3) (pC v3) w (fun w => C .normal [] w) (fun ch w => C (.panic ch) [] w) | _ => False
theorem T_q8f_hl : allP (hokL Tryz.prog (hookAt []) (at_ (bodyOf Tryz.f25) [1, 1, 1, 1, 0, 1, 0, 0]) 500) = (True) := by kernel_rfl
theorem T_q8f_hok : HOk Tryz.prog (hookAt []) (at_ (bodyOf Tryz.f25) [1, 1, 1, 1, 0, 1, 0, 0]) 500 := HOk_of _ _ (by rw [T_q8f_hl]; exact trivial)
theorem T_q8f_eq (C : Conts) (X : List Value → World → Prop) (i14 : Int) (d15 : Option Addr) (best16 : Addr) (names17a : Option Addr) (names17l names17c : Nat) (w : World) : vcCode Tryz.prog (hookAt []) (at_ (bodyOf Tryz.f25) [1, 1, 1, 1, 0, 1, 0, 0]) 500 ⟨[(6, .int .i64 i14)] ++ [(0, .pointer d15), (4, .pointer (some best16)), (5, .slice names17a names17l names17c)], 70, []⟩ w (seqQ (fun e w => takeAll e [(6, .int .i64 0)] fun l => X l w) (blockQ 0 (unitQ T_q4l C))) = T_q9l_1_body (fun i14 w => X [.int .i64 i14] w) i14 d15 best16 names17a names17l names17c w (fun w => C .normal [] w) (fun ch w => C (.panic ch) [] w) := by kernel_rfl
theorem T_q9l_1_ok : UnitOk Tryz.prog H_q8f (at_ (bodyOf Tryz.f25) [1, 1, 1, 1, 0, 1]) 125 := by
 have hc : at_ (bodyOf Tryz.f25) [1, 1, 1, 1, 0, 1] = .block 0 (.loop (at_ (bodyOf Tryz.f25) [1, 1, 1, 1, 0, 1, 0, 0])) := by kernel_rfl
 rw [hc]
 refine loop_unit_ok (carr := [(6, .int .i64 0)]) (fix := [(0, .pointer none), (4, .pointer (some ⟨0, 0, none⟩)), (5, .slice none 0 0)]) (ks := T_q6i) (H := (hookAt [])) (B := fun C X l u w => match l, u with | [v0], [v1, v2, v3] => T_q9l_1_body (fun i14 w => X [.int .i64 i14] w) (pInt v0) (pPtr v1) (pAddr v2) (pA v3) (pL v3) (pC v3) w (fun w => C .normal [] w) (fun ch w => C (.panic ch) [] w) | _, _ => False) (by kernel_rfl) (by kernel_rfl) T_q8f_hok ?_ ?_
 ·intro C X l u w hl hu
  obtain ⟨v0, _, rfl, k_v0, hl_v0⟩ := kC hl
  obtain ⟨i14, rfl⟩ := kind_int k_v0
  obtain rfl := kN hl_v0
  obtain ⟨v1, _, rfl, k_v1, hu_v1⟩ := kC hu
  obtain ⟨d15, rfl⟩ := kind_pointer k_v1
  obtain ⟨v2, _, rfl, k_v2, hu_v2⟩ := kC hu_v1
  obtain ⟨best16, rfl⟩ := kind_addr k_v2
  obtain ⟨v3, _, rfl, k_v3, hu_v3⟩ := kC hu_v2
  obtain ⟨names17a, names17l, names17c, rfl⟩ := kind_slice k_v3
  obtain rfl := kN hu_v3
  exact T_q8f_eq C X i14 d15 best16 names17a names17l names17c w
 ·intro l u w C hl hu
  obtain ⟨v0, _, rfl, k_v0, hl_v0⟩ := kC hl
  obtain ⟨i14, rfl⟩ := kind_int k_v0
  obtain rfl := kN hl_v0
  obtain ⟨v1, _, rfl, k_v1, hu_v1⟩ := kC hu
  obtain ⟨d15, rfl⟩ := kind_pointer k_v1
  obtain ⟨v2, _, rfl, k_v2, hu_v2⟩ := kC hu_v1
  obtain ⟨best16, rfl⟩ := kind_addr k_v2
  obtain ⟨v3, _, rfl, k_v3, hu_v3⟩ := kC hu_v2
  obtain ⟨names17a, names17l, names17c, rfl⟩ := kind_slice k_v3
  obtain rfl := kN hu_v3
  constructor
  ·intro h X hX
   exact h (fun i14 w => X [.int .i64 i14] w) (fun i14 w hb => hX [.int .i64 i14] w ⟨rfl, trivial⟩ hb)
  ·intro h X hX
   exact h (fun l w => match l with | [v0] => X (pInt v0) w | _ => True) (fun l w hl hb => by
    obtain ⟨v0, _, rfl, k_v0, hl_v0⟩ := kC hl
    obtain ⟨i14, rfl⟩ := kind_int k_v0
    obtain rfl := kN hl_v0
    exact hX i14 w hb)
def T_q9l (d1 : Option Addr) (w : World) (R : RT) : Prop :=
 let w2 : World := w.alloc (.cells #[.int .i64 0, .int .i64 0, .slice none 0 0, .slice none 0 0, .slice none 0 0] 29)
 if d1.isNone = true then ((.agg #[.int .i64 0, .int .i64 0, .slice none 0 0, .slice none 0 0, .slice none 0 0] : Value).cells.size = 5 ∧ wrOk w2 (⟨w.heap.size, 0, none⟩ : Addr) (.agg #[.int .i64 0, .int .i64 0, .slice none 0 0, .slice none 0 0, .slice none 0 0]) ∧ let w3 : World := wr w2 (⟨w.heap.size, 0, none⟩ : Addr) (.agg #[.int .i64 0, .int .i64 0, .slice none 0 0, .slice none 0 0, .slice none 0 0])
 ∃ (x4 x5 : Int) (s6a : Option Addr) (s6l s6c : Nat) (s7a : Option Addr) (s7l s7c : Nat) (s8a : Option Addr) (s8l s8c : Nat), rd w3 (⟨w.heap.size, 0, none⟩ : Addr) (.agg #[.int .i64 x4, .int .i64 x5, .slice s6a s6l s6c, .slice s7a s7l s7c, .slice s8a s8l s8c]) ∧ R (.returned (.tuple #[.agg #[.int .i64 x4, .int .i64 x5, .slice s6a s6l s6c, .slice s7a s7l s7c, .slice s8a s8l s8c], .int .i64 1])) w3) else (let w9 : World := w2.alloc (.cells #[.int .i64 0, .int .i64 0, .slice none 0 0, .slice none 0 0, .slice none 0 0] 29)
 (.agg #[.int .i64 0, .int .i64 0, .slice none 0 0, .slice none 0 0, .slice none 0 0] : Value).cells.size = 5 ∧ wrOk w9 (⟨w2.heap.size, 0, none⟩ : Addr) (.agg #[.int .i64 0, .int .i64 0, .slice none 0 0, .slice none 0 0, .slice none 0 0]) ∧ let w10 : World := wr w9 (⟨w2.heap.size, 0, none⟩ : Addr) (.agg #[.int .i64 0, .int .i64 0, .slice none 0 0, .slice none 0 0, .slice none 0 0])
 Calls Tryz.prog 28 #[.pointer d1] w10 (ret (fun r11 w12 => ∃ (s13a : Option Addr) (s13l s13c : Nat), r11 = .slice s13a s13l s13c ∧ T_q8f 0 d1 (⟨w2.heap.size, 0, none⟩ : Addr) s13a s13l s13c w12 (fun w47 => ∃ x48 : Int, rd w47 (⟨w2.heap.size, 0, none⟩ : Addr) (.int .i64 x48) ∧ if (x48 == 0) = true then ((.agg #[.int .i64 0, .int .i64 0, .slice none 0 0, .slice none 0 0, .slice none 0 0] : Value).cells.size = 5 ∧ wrOk w47 (⟨w.heap.size, 0, none⟩ : Addr) (.agg #[.int .i64 0, .int .i64 0, .slice none 0 0, .slice none 0 0, .slice none 0 0]) ∧ let w49 : World := wr w47 (⟨w.heap.size, 0, none⟩ : Addr) (.agg #[.int .i64 0, .int .i64 0, .slice none 0 0, .slice none 0 0, .slice none 0 0])
 ∃ (x50 x51 : Int) (s52a : Option Addr) (s52l s52c : Nat) (s53a : Option Addr) (s53l s53c : Nat) (s54a : Option Addr) (s54l s54c : Nat), rd w49 (⟨w.heap.size, 0, none⟩ : Addr) (.agg #[.int .i64 x50, .int .i64 x51, .slice s52a s52l s52c, .slice s53a s53l s53c, .slice s54a s54l s54c]) ∧ R (.returned (.tuple #[.agg #[.int .i64 x50, .int .i64 x51, .slice s52a s52l s52c, .slice s53a s53l s53c, .slice s54a s54l s54c], .int .i64 8])) w49) else (∃ (x55 x56 : Int) (s57a : Option Addr) (s57l s57c : Nat) (s58a : Option Addr) (s58l s58c : Nat) (s59a : Option Addr) (s59l s59c : Nat), rd w47 (⟨w2.heap.size, 0, none⟩ : Addr) (.agg #[.int .i64 x55, .int .i64 x56, .slice s57a s57l s57c, .slice s58a s58l s58c, .slice s59a s59l s59c]) ∧ (.agg #[.int .i64 x55, .int .i64 x56, .slice s57a s57l s57c, .slice s58a s58l s58c, .slice s59a s59l s59c] : Value).cells.size = 5 ∧ wrOk w47 (⟨w.heap.size, 0, none⟩ : Addr) (.agg #[.int .i64 x55, .int .i64 x56, .slice s57a s57l s57c, .slice s58a s58l s58c, .slice s59a s59l s59c]) ∧ let w60 : World := wr w47 (⟨w.heap.size, 0, none⟩ : Addr) (.agg #[.int .i64 x55, .int .i64 x56, .slice s57a s57l s57c, .slice s58a s58l s58c, .slice s59a s59l s59c])
 ∃ (x61 x62 : Int) (s63a : Option Addr) (s63l s63c : Nat) (s64a : Option Addr) (s64l s64c : Nat) (s65a : Option Addr) (s65l s65c : Nat), rd w60 (⟨w.heap.size, 0, none⟩ : Addr) (.agg #[.int .i64 x61, .int .i64 x62, .slice s63a s63l s63c, .slice s64a s64l s64c, .slice s65a s65l s65c]) ∧ R (.returned (.tuple #[.agg #[.int .i64 x61, .int .i64 x62, .slice s63a s63l s63c, .slice s64a s64l s64c, .slice s65a s65l s65c], .int .i64 0])) w60)) (pan R)) (pan R)))
theorem T_q9l_hl : allP (hokL Tryz.prog (hookAt [(125, H_q8f)]) (bodyOf Tryz.f25) 1) = (UnitOk Tryz.prog H_q8f (at_ (bodyOf Tryz.f25) [1, 1, 1, 1, 0, 1]) 125 ∧ True) := by kernel_rfl
theorem T_q9l_eq (d1 : Option Addr) (w : World) (R : RT) : vcCode Tryz.prog (hookAt [(125, H_q8f)]) (bodyOf Tryz.f25) 1 ⟨argEnv [.pointer d1] 0, Tryz.f25.ntmps, []⟩ w (finQ Tryz.prog Tryz.f25.results.toList R) = T_q9l d1 w R := by kernel_rfl
theorem T_q9l_b : Tryz.f25.body = some (bodyOf Tryz.f25) := by kernel_rfl
theorem T_q9l_s : (quietSel (bodyOf Tryz.f25) && Nat.ble 1 Tryz.f25.ntmps) = true := by kernel_rfl
theorem C_q9l {d1 : Option Addr} {w : World} {R : RT} (h : T_q9l d1 w R) : Calls Tryz.prog 25 #[.pointer d1] w R :=
 calls_of_text (args := [.pointer d1]) mixed Tryz.func25 T_q9l_b T_q9l_s (HOk_of _ _ (by rw [T_q9l_hl]; exact ⟨T_q9l_1_ok, trivial⟩)) (by rw [T_q9l_eq]; exact h)
end Go.Proofs.YtclinifclfahfaaGreat
namespace Go.Vc
open Go Go.Proofs Go.Proofs.YtclinifclfahfaaGreat
set_option maxRecDepth 100000
structure RF where
  name : Cm.Bs
  lasts : Bool
  sr : Sl
  sure : Cm.Bs
  us : Sl
  ws : List (Nat × UInt8)
def unP (p : Nat × UInt8) : Dk.Un := .wr p.1 p.2
def RF.fl (x : RF) : Dk.Fl := ⟨x.name, x.lasts, x.sure, x.ws.map unP⟩
def unV (p : Nat × UInt8) : List Value := [.bool false, .int .i64 (p.1 : Int), .int .u8 (p.2.toNat : Int)]
def rfL (x : RF) : List Value := [encN x.name, .bool x.lasts, .slice x.sr.1 x.sr.2.1 x.sr.2.2, .slice x.us.1 x.us.2.1 x.us.2.2]
def rfV (x : RF) : Value := .agg ⟨rfL x⟩
structure RF.ok (G : Fz) (x : RF) : Prop where
  sure : Src G x.sr x.sure
  us : RdF G x.us.1 x.us.2.1 3 (x.ws.flatMap unV)
  ul : x.ws.length = x.us.2.1
  few : x.ws.length ≤ 100000000
theorem RF.ok.mono {F G : Fz} {x : RF} (h : x.ok F) (k : Fz.le F G) : x.ok G := ⟨h.sure.mono k, h.us.mono k, h.ul, h.few⟩
theorem unV_len (p : Nat × UInt8) : (unV p).length = 3 := rfl
theorem rfL_len (x : RF) : (rfL x).length = 4 := rfl
theorem unV_one (l : List (Nat × UInt8)) : ∀ u ∈ l.flatMap unV, one u = true := by
  intro u hu
  obtain ⟨c, _, hc⟩ := List.mem_flatMap.1 hu
  simp [unV] at hc
  rcases hc with rfl | rfl | rfl <;> rfl
theorem rfL_one (l : List RF) : ∀ u ∈ l.flatMap rfL, one u = true := by
  intro u hu
  obtain ⟨c, _, hc⟩ := List.mem_flatMap.1 hu
  simp [rfL] at hc
  rcases hc with rfl | rfl | rfl | rfl <;> rfl
section
variable {E w : World} {L : List Asrt} {R : RT} {F G : Fz} {q s o : Sl} {b : Cm.Bs} {x : RF}
theorem rd_rf {bf : Nat} (h : St E (blkL bf 108 (rfL x) :: L) w) : rd w ⟨bf, 0, none⟩ (rfV x) := rd_agg (xs := rfL x) h.at_blk (by intro i u hu; rw [Nat.zero_add]; exact hu)
theorem made_2 {bf i kk : Nat} {K : Bool → World → Prop} {Kp : XT} (hul : x.ws.length = x.us.2.1) (h : St E (blkL bf 108 (rfL x) :: L) w) (k : K (decide (i < x.ws.length ∧ i < kk)) w) : T_q8d (kk : Int) ⟨bf, 0, none⟩ (i : Int) w K Kp := by
  unfold T_q8d
  refine ⟨_, _, _, rd_fld h.at_blk rfl rfl, ?_⟩
  rw [← hul]
  refine ite_d (fun hh => ?_) fun hh => ?_
  · by_cases hk : i < kk
    · rw [decide_eq_true ⟨by omega, hk⟩] at k
      rw [decide_eq_true (by omega)]; exact k
    · rw [decide_eq_false (fun hh => hk hh.2)] at k
      rw [decide_eq_false (by omega)]; exact k
  · rw [decide_eq_false (by omega)] at k
    exact k
theorem setB {a : Addr} {xs : Cm.Bs} {j : Nat} {y : UInt8} (h : St E (byA o xs :: L) w) (ha : o.1 = some a) (hj : j < xs.length) : wrOk w (a.add (j * 1)) (.int .u8 (y.toNat : Int)) ∧ St E (byA o (xs.set j y) :: L) (wr w (a.add (j * 1)) (.int .u8 (y.toNat : Int))) := by
  have := St.ownS_set (i := j) (v := .int .u8 (y.toNat : Int)) h ha (by rw [bytesV_len]; exact hj) rfl
  rw [Nat.mul_one]
  refine ⟨this.1, ?_⟩
  have e : (bytesV xs).set j (.int .u8 (y.toNat : Int)) = bytesV (xs.set j y) := by unfold bytesV; rw [List.map_set]
  show St E (ownS o.1 o.2.1 o.2.2 5 1 (bytesV (xs.set j y)) :: L) _
  rw [← e]
  exact this.2
set_option maxHeartbeats 1000000 in
theorem RMade_spec {kk : Nat} (hx : x.ok G) (hu : Dk.okU x.sure (x.ws.map unP)) (hm : kn G ∈ L) (h : St E L w)
    (k : ∀ (w' : World) (o : Sl), St E (byA o (Dk.made x.sure ((x.ws.map unP).take kk)) :: L) w' → R (.returned (.slice o.1 o.2.1 o.2.2)) w') :
    Calls Tryz.prog 68 #[rfV x, .int .i64 (kk : Int)] w R := by
  have hbig : big = 140737488355328 := rfl
  have hsl := (Dk.okU_len hu).1
  have hfew := hx.few
  have hul := hx.ul
  refine C_q9k ?_
  unfold T_q9k
  intro w6 w7
  have h6 : St E (blkL w.heap.size 108 (rfL x) :: L) w6 := h.alloc (.cells ⟨rfL x⟩ 108)
  have h7 : St E (byA (some ⟨w6.heap.size, 0, none⟩, 0, 0) [] :: blkL w.heap.size 108 (rfL x) :: L) w7 := h6.by_new [] (Nat.zero_le _)
  clear_value w7
  generalize w6.heap.size = b0 at *
  generalize w.heap.size = bf at *
  refine ⟨_, _, _, rd_fld h7.f1.at_blk rfl rfl, ?_⟩
  obtain ⟨o1, w10, hr, h10⟩ := app_b (c2 := x.sr.2.2) h7 (hx.sure.rd.at h7 (by simp [hm])) (by simp; omega)
  rw [List.nil_append] at h10
  refine runV_ok hr ⟨_, _, _, rfl, ?_⟩
  unfold T_q8c
  intro X hX
  have htk : ∀ j, (x.ws.map unP).take (min j kk) = ((x.ws.map unP).take kk).take j := fun j => by rw [List.take_take]
  refine up_to (min x.ws.length kk) (Q := fun j => ∀ (w : World) (o : Sl), St E (byA o (Dk.made x.sure ((x.ws.map unP).take j)) :: blkL bf 108 (rfL x) :: L) w → X o.1 o.2.1 o.2.2 (j : Int) w) ?_ w10 o1 (by simpa [Dk.made] using h10)
  intro j hj ih w o h
  refine hX _ _ _ _ _ ?_
  unfold T_q9k_1_body
  refine made_2 hul h.f1 (ite_d (fun hh => ?_) fun hh => ?_)
  · obtain ⟨hjl, hjk⟩ := hh
    have hjm : j < (x.ws.map unP).length := by rw [List.length_map]; exact hjl
    have hsucc : (x.ws.map unP).take (j + 1) = (x.ws.map unP).take j ++ [unP x.ws[j]] := by rw [List.take_succ_eq_append_getElem hjm]; simp
    have ihj := ih (by omega)
    rw [hsucc, Dk.made_app] at ihj
    have hsplit : x.ws.map unP = ((x.ws.map unP).take j ++ [unP x.ws[j]]) ++ (x.ws.map unP).drop (j + 1) := by rw [← hsucc, List.take_append_drop]
    have hu2 := Dk.okU_split (Dk.okU_split (hsplit ▸ hu)).1
    have hml := (Dk.okU_len hu2.1).2
    have hfit : x.ws[j].1 ≤ (Dk.made x.sure ((x.ws.map unP).take j)).length := hu2.2.2.1
    obtain ⟨ad, hae, hrd, _⟩ := (hx.us.at h (by simp [hm])).elem (f := unV) unV_len (List.getElem?_eq_getElem hjl) (by decide)
    refine ⟨_, _, _, rd_fld h.f1.at_blk rfl rfl, by omega, by omega, ad, hae, _, _, _, hrd, ?_⟩
    generalize Dk.made x.sure ((x.ws.map unP).take j) = B at *
    clear ih hX hsucc hsplit hu2
    generalize x.ws[j] = p at *
    intro w30
    have h30 : St E (blkL w.heap.size 118 [.bool false, .int .i64 0, .int .u8 0] :: byA o B :: blkL bf 108 (rfL x) :: L) w30 := h.alloc (.cells ⟨[.bool false, .int .i64 0, .int .u8 0]⟩ 118)
    clear_value w30
    generalize w.heap.size = bu at *
    refine ⟨rfl, wrOk_agg (off := 0) (xs := unV p) h30.at_blk (by show 3 ≤ 3; decide) (fun u hu => unV_one [p] u (by simpa using hu)), ?_⟩
    intro w31
    have h31 : St E (blkL bu 118 (unV p) :: byA o B :: blkL bf 108 (rfL x) :: L) w31 := h30.wr_agg0 (xs := unV p) rfl
    clear_value w31
    have hol : B.length = o.2.1 := h31.f1.by_len2
    have hap : Dk.made B [unP p] = if p.1 < B.length then B.set p.1 p.2 else B ++ [p.2] := Dk.ap_wr B p.1 p.2
    rw [hap] at ihj
    rw [succ_big (by omega)]
    refine ⟨_, rd_cell h31.at_blk rfl rfl, ite_b (fun hh => by cases hh) fun _ => ⟨_, rd_fld h31.at_blk rfl rfl, ite_d (fun hlt => ?_) fun hlt => ?_⟩⟩
    · rw [if_pos (by omega)] at ihj
      obtain ⟨ad2, hae2, _⟩ := one_at (f := fun x : UInt8 => Value.int .u8 (x.toNat : Int)) (qs := B) (fun _ => rfl) (by rw [← List.map_eq_flatMap]; exact h31.f1.rdS_own) (show p.1 < B.length by omega)
      obtain ⟨g1, g2⟩ := setB (y := p.2) h31.f1 hae2 (show p.1 < B.length by omega)
      refine ⟨_, rd_fld h31.at_blk rfl rfl, _, rd_fld h31.at_blk rfl rfl, by omega, by omega, ad2, hae2, rfl, g1, ?_⟩
      intro w38
      exact ihj w38 o (St.sel (L := byA o (B.set p.1 p.2) :: blkL bu 118 (unV p) :: blkL bf 108 (rfL x) :: L) g2 3 [0, 2] (by simp))
    · rw [if_neg (by omega)] at ihj
      refine ⟨_, rd_fld h31.at_blk rfl rfl, ?_⟩
      intro w40
      have h40 : St E (byA (some ⟨w31.heap.size, 0, none⟩, 1, 1) [p.2] :: blkL bu 118 (unV p) :: byA o B :: blkL bf 108 (rfL x) :: L) w40 := h31.by_new [p.2] (by show 1 ≤ big; omega)
      clear_value w40
      have h41 : St E (byA o B :: byA (some ⟨w31.heap.size, 0, none⟩, 1, 1) [p.2] :: blkL bf 108 (rfL x) :: L) w40 := h40.sel 4 [2, 0, 3] (by simp)
      obtain ⟨o2, w42, hr2, h42⟩ := app_b (c2 := 1) h41 h41.f1.rdS_own (by simp; omega)
      exact runV_ok hr2 ⟨_, _, _, rfl, ihj w42 o2 (h42.sel 3 [0, 2] (by simp))⟩
  · have hjm : j = min x.ws.length kk := by omega
    have e : (x.ws.map unP).take j = (x.ws.map unP).take kk := by
      rcases Nat.le_total x.ws.length kk with hl | hl
      · rw [List.take_of_length_le (by rw [List.length_map]; omega), List.take_of_length_le (by rw [List.length_map]; omega)]
      · rw [show j = kk by omega]
    rw [e] at h
    exact k w o (h.sel 2 [0] (by simp))
theorem RNow_spec (hx : x.ok G) (hu : Dk.okU x.sure (x.ws.map unP)) (hm : kn G ∈ L) (h : St E L w)
    (k : ∀ (w' : World) (o : Sl), St E (byA o (Dk.now x.fl) :: L) w' → R (.returned (.slice o.1 o.2.1 o.2.2)) w') :
    Calls Tryz.prog 73 #[rfV x] w R := by
  have e : Dk.now x.fl = Dk.made x.sure (x.ws.map unP) := rfl
  rw [e] at k
  clear e
  refine C_q9z ?_
  unfold T_q9z
  intro w5
  have h5 : St E (blkL w.heap.size 108 (rfL x) :: L) w5 := h.alloc (.cells ⟨rfL x⟩ 108)
  clear_value w5
  generalize w.heap.size = bf at *
  refine ⟨_, _, _, _, _, _, _, _, rd_rf h5, _, _, _, rd_fld h5.at_blk rfl rfl, ?_⟩
  have eu : ((x.us.2.1 : Nat) : Int) = ((x.ws.length : Nat) : Int) := by rw [hx.ul]
  rw [eu]
  have hq := fun (R : RT) => @RMade_spec E w5 _ R G x x.ws.length hx hu (by simp [hm]) h5
  refine hq _ fun w' o h' => ?_
  refine ⟨_, _, _, rfl, ?_⟩
  rw [List.take_of_length_le (by rw [List.length_map]; exact Nat.le_refl _)] at h'
  have h2 : St E (byA o (Dk.made x.sure (x.ws.map unP)) :: L) w' := h'.sel 2 [0] (by simp)
  exact k w' o h2
end
end Go.Vc
namespace Go.Vc
open Go Go.Proofs Go.Proofs.YtclinifclfahfaaGreat
set_option maxRecDepth 100000
structure rlOk (G : Fz) (c : Nat) (l : Sl) (rfs : List RF) (d : Dk.Ds) : Prop where
  dl : d.l = rfs.map RF.fl
  rd : RdF G l.1 l.2.1 4 (rfs.flatMap rfL)
  ll : rfs.length = l.2.1
  ok : ∀ x ∈ rfs, x.ok G
  few : ∀ x ∈ rfs, x.ws.length ≤ c * 262144
theorem rlOk.mono {F G : Fz} {c : Nat} {l : Sl} {rfs : List RF} {d : Dk.Ds} (h : rlOk F c l rfs d) (k : Fz.le F G) : rlOk G c l rfs d := ⟨h.dl, h.rd.mono k, h.ll, fun x hx => (h.ok x hx).mono k, h.few⟩
def rdkV (room : Int) (l : Sl) : List Value := [.int .i64 room, .slice l.1 l.2.1 l.2.2]
def rdkA (G : Fz) (c rp : Nat) (d : Dk.Ds) : Asrt := fun h => ∃ l rfs, rlOk G c l rfs d ∧ blkL rp 90 (rdkV d.room l) h
def rfA (o : Sl) (rfs : List RF) : Asrt := ownS o.1 o.2.1 o.2.2 108 4 (rfs.flatMap rfL)
def lt8 (a b : RF) : Bool := Dk.flLt a.fl b.fl
def putR (l : List RF) (f : RF) : List RF := Cm.put lt8 l f
theorem putR_fl (l : List RF) (f : RF) : (putR l f).map RF.fl = Dk.putF (l.map RF.fl) f.fl := put_map Dk.flLt RF.fl l f
def pg (f : RF) : Bool → List RF → List RF
  | true, [] => []
  | false, [] => [f]
  | true, x :: r => (if x.name = f.name then [] else [x]) ++ pg f true r
  | false, x :: r => if x.name < f.name then x :: pg f false r else f :: ((if x.name = f.name then [] else [x]) ++ pg f true r)
theorem pg_true (f : RF) : ∀ (l : List RF), (∀ x ∈ l, ¬ x.name < f.name) → l.Pairwise (fun a b => lt8 a b = true) → pg f true l = l.filter fun a => lt8 f a
  | [], _, _ => rfl
  | x :: r, h, hp => by
    rw [List.pairwise_cons] at hp
    have ih := pg_true f r (fun y hy => h y (List.mem_cons_of_mem _ hy)) hp.2
    unfold pg
    rw [ih, List.filter_cons]
    by_cases e : x.name = f.name
    · rw [if_pos e]
      have : lt8 f x = false := by
        unfold lt8 Dk.flLt
        refine decide_eq_false ?_
        show ¬ f.name < x.name
        rw [e]; exact Cm.slt_irrefl _
      rw [if_neg (by rw [this]; decide)]
      rfl
    · rw [if_neg e]
      have : lt8 f x = true := by
        unfold lt8 Dk.flLt
        refine decide_eq_true ?_
        show f.name < x.name
        rcases Cm.slt_tri x.name f.name with h1 | h1 | h1
        · exact absurd h1 (h x List.mem_cons_self)
        · exact absurd h1 e
        · exact h1
      rw [if_pos this]
      rfl
theorem pg_false (f : RF) : ∀ (l : List RF), l.Pairwise (fun a b => lt8 a b = true) → pg f false l = putR l f
  | [], _ => rfl
  | x :: r, hp => by
    rw [List.pairwise_cons] at hp
    have ih := pg_false f r hp.2
    unfold pg putR Cm.put
    have hlt : ∀ a b : RF, (lt8 a b = true) ↔ a.name < b.name := fun a b => by unfold lt8 Dk.flLt; exact decide_eq_true_iff
    by_cases e : x.name < f.name
    · rw [if_pos e, ih]
      have h1 : lt8 x f = true := (hlt x f).2 e
      have h2 : lt8 f x = false := by
        cases hc : lt8 f x with
        | false => rfl
        | true => exact absurd (Cm.slt_trans e ((hlt f x).1 hc)) (Cm.slt_irrefl _)
      rw [List.filter_cons, List.filter_cons, if_pos h1, if_neg (by rw [h2]; decide)]
      rfl
    · rw [if_neg e]
      have hge : ∀ y ∈ x :: r, ¬ y.name < f.name := fun y hy hl => by
        rcases List.mem_cons.1 hy with rfl | hy
        · exact e hl
        · exact e (Cm.slt_trans ((hlt x y).1 (hp.1 y hy)) hl)
      have h0 : (x :: r).filter (fun a => lt8 a f) = [] := List.filter_eq_nil_iff.2 fun y hy hl => hge y hy ((hlt y f).1 hl)
      have h1 := pg_true f (x :: r) hge (List.pairwise_cons.2 hp)
      unfold pg at h1
      rw [h0, h1]
      rfl
section
variable {E w : World} {L : List Asrt} {R : RT} {F G : Fz} {q s o l : Sl} {b n : Cm.Bs} {x f : RF} {rfs : List RF} {c rp : Nat} {d : Dk.Ds}
theorem St.rdk_open (h : St E (rdkA G c rp d :: L) w) : ∃ l rfs, rlOk G c l rfs d ∧ St E (blkL rp 90 (rdkV d.room l) :: L) w := by
  obtain ⟨en, x, ⟨h1, h2, dj, rfl, ⟨l, rfs, ok, hs⟩, hL⟩, hl⟩ := h
  exact ⟨l, rfs, ok, en, _, ⟨h1, h2, dj, rfl, hs, hL⟩, hl⟩
theorem St.rdk_mk (ok : rlOk G c l rfs d) (h : St E (blkL rp 90 (rdkV d.room l) :: L) w) : St E (rdkA G c rp d :: L) w := h.mono fun _ hx => ⟨l, rfs, ok, hx⟩
theorem St.rdk_mono (h : St E (rdkA F c rp d :: L) w) (k : Fz.le F G) : St E (rdkA G c rp d :: L) w := h.mono fun _ ⟨l, rfs, ok, hs⟩ => ⟨l, rfs, ok.mono k, hs⟩
theorem St.rdk_c {c2 : Nat} (h : St E (rdkA F c rp d :: L) w) (k : c ≤ c2) : St E (rdkA F c2 rp d :: L) w := h.mono fun _ ⟨l, rfs, ok, hs⟩ => ⟨l, rfs, ⟨ok.dl, ok.rd, ok.ll, ok.ok, fun x hx => Nat.le_trans (ok.few x hx) (Nat.mul_le_mul_right _ k)⟩, hs⟩
theorem RDNew_spec {room : Int} (h : St E L w) (k : ∀ (w' : World) (rp : Nat), St E (rdkA G 0 rp (Dk.newD room) :: L) w' → R (.returned (.pointer (some ⟨rp, 0, none⟩))) w') : Calls Tryz.prog 17 #[.int .i64 room] w R := by
  have ok : rlOk G 0 nilS [] (Dk.newD room) := ⟨rfl, RdF.nil _ _, rfl, fun _ h => (nomatch h), fun _ h => (nomatch h)⟩
  refine C_q9y ?_
  unfold T_q9y
  refine ite_d (fun hh => ?_) fun hh => ?_
  · intro w2
    have e : (Dk.newD room).room = 0 := by show max 0 room = 0; omega
    exact k _ _ (St.rdk_mk ok (by rw [e]; exact h.alloc (.cells ⟨rdkV 0 nilS⟩ 90)))
  · intro w2
    have e : (Dk.newD room).room = room := by show max 0 room = room; omega
    exact k _ _ (St.rdk_mk ok (by rw [e]; exact h.alloc (.cells ⟨rdkV room nilS⟩ 90)))
def at_n (rfs : List RF) (d : Dk.Ds) (n : Cm.Bs) (i : Int) : Prop := (i = -1 ∧ Dk.find d.l n = none) ∨ ∃ (j : Nat) (hj : j < rfs.length), i = (j : Int) ∧ rfs[j].name = n ∧ Dk.find d.l n = some rfs[j].fl
theorem RFind_spec (ok : rlOk G c l rfs d) (hn : rfs.length ≤ 1000) (hm : kn G ∈ L) (h : St E (blkL rp 90 (rdkV d.room l) :: L) w)
    (k : ∀ i, at_n rfs d n i → R (.returned (.int .i64 i)) w) : Calls Tryz.prog 72 #[.pointer (some ⟨rp, 0, none⟩), .string (bs n)] w R := by
  refine C_q6d ?_
  unfold T_q6d T_q4h
  intro X hX
  refine up_to rfs.length (Q := fun j => (∀ i, i < j → ∀ x, rfs[i]? = some x → x.name ≠ n) → X (j : Int) w) ?_ (fun i hi => absurd hi (by omega))
  intro j hj ih hno
  refine hX _ _ ?_
  unfold T_q6d_1_body
  refine ⟨_, rfl, _, _, _, rd_fld h.at_blk rfl rfl, ?_⟩
  rw [← ok.ll]
  refine ite_d (fun hh => ?_) fun hh => ?_
  · have hjl : j < rfs.length := by omega
    obtain ⟨ad, hae, _, hrd⟩ := (ok.rd.at h (by simp [hm])).elem (f := rfL) rfL_len (List.getElem?_eq_getElem hjl) (by decide)
    have hr0 := hrd 0 _ rfl rfl
    refine ⟨_, rfl, _, _, _, rd_fld h.at_blk rfl rfl, by omega, by have := ok.ll; omega, ad, hae, _, hr0, ?_⟩
    show ite ((((bs rfs[j].name).toList == (bs n).toList)) = true) _ _
    rw [bs_beq]
    refine ite_b (fun he => ?_) fun he => ?_
    · have he : rfs[j].name = n := of_decide_eq_true he
      refine k _ (.inr ⟨j, hjl, rfl, he, ?_⟩)
      unfold Dk.find
      rw [ok.dl, List.find?_eq_some_iff_getElem]
      refine ⟨decide_eq_true (p := rfs[j].fl.name = n) he, j, by rw [List.length_map]; exact hjl, by simp, fun i hi => ?_⟩
      have hil : i < rfs.length := by omega
      have := hno i hi rfs[i] (List.getElem?_eq_getElem hil)
      simp
      exact this
    · have he : rfs[j].name ≠ n := of_decide_eq_false he
      rw [succ_big (by unfold big; omega)]
      refine ih hjl fun i hi x hx => ?_
      by_cases e : i = j
      · subst e
        rw [List.getElem?_eq_getElem hjl] at hx
        injection hx with hx
        rw [← hx]; exact he
      · exact hno i (by omega) x hx
  · refine k _ (.inl ⟨rfl, ?_⟩)
    unfold Dk.find
    rw [ok.dl, List.find?_eq_none]
    intro y hy
    obtain ⟨x, hx, rfl⟩ := List.mem_map.1 hy
    obtain ⟨i, hi, hxe⟩ := List.mem_iff_getElem.1 hx
    have := hno i (by omega) x (by rw [List.getElem?_eq_getElem hi, hxe])
    exact fun h => this (of_decide_eq_true (p := x.fl.name = n) h)
theorem rnamed_2 {cc : UInt8} {K : Bool → World → Prop} {Kp : XT} (k : K (decide (97 ≤ cc.toNat ∧ cc.toNat ≤ 122) || decide (48 ≤ cc.toNat ∧ cc.toNat ≤ 57)) w) : T_q7u ((cc.toNat : Nat) : Int) w K Kp := by
  unfold T_q7u
  have dig : ¬ (97 ≤ cc.toNat ∧ cc.toNat ≤ 122) → (if (decide (((cc.toNat : Nat) : Int) ≥ 48)) = true then (K (decide (((cc.toNat : Nat) : Int) ≤ 57)) w) else (K false w)) := fun hn => by
    rw [decide_eq_false hn, Bool.false_or] at k
    refine ite_d (fun h1 => ?_) fun h1 => ?_
    · by_cases h2 : cc.toNat ≤ 57
      · rw [decide_eq_true ⟨by omega, h2⟩] at k
        rw [decide_eq_true (by omega)]; exact k
      · rw [decide_eq_false (fun hh => h2 hh.2)] at k
        rw [decide_eq_false (by omega)]; exact k
    · rw [decide_eq_false (by omega)] at k; exact k
  refine ite_d (fun h1 => ite_d (fun h2 => ?_) fun h2 => dig (by omega)) fun h1 => dig (by omega)
  rw [decide_eq_true (show 97 ≤ cc.toNat ∧ cc.toNat ≤ 122 by omega), Bool.true_or] at k
  exact k
theorem RNamed_spec (hn : n.length ≤ huge) (k : R (.returned (.bool (Dk.named n))) w) : Calls Tryz.prog 71 #[.string (bs n)] w R := by
  have hh : huge = 9223372036854775807 := rfl
  refine C_q8x ?_
  unfold T_q8x
  rw [bs_size]
  unfold T_q7t
  intro X hX
  refine up_to n.length (Q := fun j => (n.take j).all Dk.nameB = true → X (j : Int) w) ?_ (by simp)
  intro j hj ih hok
  refine hX _ _ ?_
  unfold T_q8x_1_body
  rw [bs_size]
  refine ite_d (fun hc => ?_) fun hc => ?_
  · have hjl : j < n.length := by omega
    have hnb : Dk.nameB n[j] = (decide (97 ≤ n[j].toNat ∧ n[j].toNat ≤ 122) || decide (48 ≤ n[j].toNat ∧ n[j].toNat ≤ 57) || decide (n[j].toNat = 45) || decide (n[j].toNat = 46)) := rfl
    have hg : Dk.nameB n[j] = true → X (IntKind.wrap .i64 ((j : Int) + 1)) w := fun hx => by
      rw [succ_huge (by omega)]
      exact ih hjl (by rw [Dk.named_take n j hjl, hok, hx]; rfl)
    refine ⟨by omega, n[j], by rw [Int.toNat_natCast, bs_get]; exact List.getElem?_eq_getElem hjl, ?_⟩
    refine rnamed_2 ?_
    generalize hA : (decide (97 ≤ n[j].toNat ∧ n[j].toNat ≤ 122) || decide (48 ≤ n[j].toNat ∧ n[j].toNat ≤ 57)) = A at *
    cases A with
    | true =>
      refine ite_b (fun h => by cases h) fun _ => hg (by rw [hnb]; rfl)
    | false =>
      refine ite_b (fun _ => ite_b (fun h5 => ite_b (fun h6 => ?_) fun h6 => hg ?_) fun h5 => hg ?_) fun h => by cases h
      · have h5 : ((n[j].toNat : Nat) : Int) ≠ 45 := by simpa using h5
        have h6 : ((n[j].toNat : Nat) : Int) ≠ 46 := by simpa using h6
        have hx : Dk.nameB n[j] = false := by rw [hnb, decide_eq_false (show ¬ n[j].toNat = 45 by omega), decide_eq_false (show ¬ n[j].toNat = 46 by omega)]; rfl
        have hf : Dk.named n = false := by
          have h2 : (n.take (j + 1)).all Dk.nameB = false := by rw [Dk.named_take n j hjl, hx]; simp
          unfold Dk.named
          rw [← List.take_append_drop (j + 1) n, List.all_append, h2]
          simp
        rw [hf] at k
        exact k
      · have h6 : ((n[j].toNat : Nat) : Int) = 46 := by simpa using h6
        rw [hnb, decide_eq_true (show n[j].toNat = 46 by omega)]; simp
      · have h5 : ((n[j].toNat : Nat) : Int) = 45 := by simpa using h5
        rw [hnb, decide_eq_true (show n[j].toNat = 45 by omega)]; simp
  · have hjn : j = n.length := by omega
    subst hjn
    rw [List.take_length] at hok
    have hf : Dk.named n = decide (1 ≤ n.length ∧ n.length ≤ 64) := by unfold Dk.named; rw [hok]; simp
    rw [hf] at k
    refine ite_d (fun h1 => ?_) fun h1 => ?_
    · by_cases h2 : n.length ≤ 64
      · rw [decide_eq_true ⟨by omega, h2⟩] at k
        rw [decide_eq_true (by omega)]; exact k
      · rw [decide_eq_false (fun hh => h2 hh.2)] at k
        rw [decide_eq_false (by omega)]; exact k
    · rw [decide_eq_false (by omega)] at k; exact k
end
end Go.Vc
namespace Go.Vc
open Go Go.Proofs Go.Proofs.YtclinifclfahfaaGreat
set_option maxRecDepth 100000
section
variable {E w : World} {L : List Asrt} {R : RT} {F G : Fz} {q s o l : Sl} {b n : Cm.Bs} {x f : RF} {rfs out : List RF} {c rp : Nat} {d : Dk.Ds}
theorem St.rf_count (h : St E (rfA o out :: L) w) : out.length = o.2.1 := h.rdS_own.count rfL_len (by decide)
theorem St.rf_new (h : St E L w) : St E (rfA (some ⟨w.heap.size, 0, none⟩, 0, 0) [] :: L) (w.alloc (.cells #[] 108)) :=
  (St.ownS_mk (xs := ([] : List RF).flatMap rfL) (rest := []) (l := 0) (c := 0) (sz := 4) (h.alloc _) rfl (Nat.le_refl _) (by decide) rfl :)
theorem app_rf (h : St E (rfA o out :: L) w) (x : RF) (hb : out.length + 1 ≤ 1000000) :
    ∃ (o' : Sl) (w' : World), (Builtin.append_ #[88, 88] 88 #[.slice o.1 o.2.1 o.2.2, .slice (some ⟨w.heap.size, 0, none⟩) 1 1]).run Tryz.prog (w.alloc (.cells ⟨rfL x⟩ 108)) = .ok (.slice o'.1 o'.2.1 o'.2.2) w' ∧ St E (rfA o' (out ++ [x]) :: L) w' := by
  have h2 : St E (rfA (some ⟨w.heap.size, 0, none⟩, 1, 1) [x] :: rfA o out :: L) (w.alloc (.cells ⟨rfL x⟩ 108)) :=
    (St.ownS_mk (xs := rfL x) (rest := []) (l := 1) (c := 1) (sz := 4) (by rw [List.append_nil]; exact h.alloc _) rfl (Nat.le_refl _) (by decide) rfl :)
  have hro : RdS (w.alloc (.cells ⟨rfL x⟩ 108)) (some ⟨w.heap.size, 0, none⟩) 1 4 ([x].flatMap rfL) := St.rdS_own h2
  have hl : out.length = o.2.1 := h.rf_count
  obtain ⟨a', c', w', hr, hs⟩ := append_own (P := Tryz.prog) (t := 88) (ty := 88) (e := 108) (i := Tryz.t108) (z := .agg #[.string ⟨#[]⟩, .bool false, .slice none 0 0, .slice none 0 0]) (by kernel_rfl) (by kernel_rfl) (by kernel_rfl) (by kernel_rfl) (by decide) (c2 := 1) h2.f1 hro (rfL_one [x])
    (by have : Tryz.t108.bytes = 72 := by kernel_rfl
        rw [this]; omega) (by unfold maxLen; omega)
  rw [show Tryz.t108.size = 4 from by kernel_rfl, ← List.flatMap_append] at hs
  exact ⟨(a', o.2.1 + 1, c'), w', hr, hs.f1.drop⟩
theorem name_ne (a b : Cm.Bs) : (!((bs a).toList == (bs b).toList)) = decide (a ≠ b) := by
  rw [bs_beq]
  by_cases h : a = b <;> simp [h]
theorem name_ge (a b : Cm.Bs) : (!(Op.bytesLess (bs a).toList (bs b).toList)) = !decide (a < b) := by rw [bs_toList, bs_toList, bytesLess_eq]
theorem rput_2 {j bf : Nat} {dn : Bool} {K : Bool → World → Prop} {Kp : XT} (hr : RdF G l.1 l.2.1 4 (rfs.flatMap rfL)) (hl : rfs.length = l.2.1) (hm : kn G ∈ L) (hj : j < rfs.length) (h : St E (rfA o out :: blkL bf 108 (rfL f) :: L) w)
    (k : ∀ w', St E (rfA o out :: blkL bf 108 (rfL f) :: L) w' → K (!dn && !decide (rfs[j].name < f.name)) w') : T_q8z l.1 l.2.1 l.2.2 ⟨bf, 0, none⟩ dn (j : Int) w K Kp := by
  unfold T_q8z
  intro w17
  have h17 : St E (rfA o out :: blkL bf 108 (rfL f) :: L) w17 := h.drew
  clear_value w17
  have k := k w17 h17
  refine ite_b (fun hd => ?_) fun hd => ?_
  · have hd : dn = false := by simpa using hd
    obtain ⟨ad, hae, _, hrd⟩ := (hr.at h17 (by simp [hm])).elem (f := rfL) rfL_len (List.getElem?_eq_getElem hj) (by decide)
    refine ⟨by omega, by omega, ad, hae, _, hrd 0 _ rfl rfl, _, rd_cell h17.f1.at_blk rfl rfl, ?_⟩
    rw [hd] at k
    show K (!(Op.bytesLess (bs rfs[j].name).toList (bs f.name).toList)) w17
    rw [name_ge]
    exact k
  · have hd : dn = true := by simpa using hd
    rw [hd] at k
    exact k
theorem rput_3 {bf : Nat} {dn bb : Bool} {K : Option Addr → Nat → Nat → Bool → World → Prop} {Kp : XT} (ho : out.length + 1 ≤ 1000000) (h : St E (rfA o out :: blkL bf 108 (rfL f) :: L) w)
    (k : ∀ (w' : World) (o' : Sl), St E (rfA o' (if bb = true then out ++ [f] else out) :: blkL bf 108 (rfL f) :: L) w' → K o'.1 o'.2.1 o'.2.2 (bb || dn) w') : T_q90 ⟨bf, 0, none⟩ o.1 o.2.1 o.2.2 dn bb w K Kp := by
  unfold T_q90
  refine ite_b (fun hb => ?_) fun hb => ?_
  · rw [if_pos hb, hb] at k
    refine ⟨_, _, _, _, _, _, _, _, rd_rf h.f1, ?_⟩
    intro w34
    obtain ⟨o', w36, hr, h36⟩ := app_rf h f ho
    exact runV_ok hr ⟨_, _, _, rfl, k w36 o' h36⟩
  · rw [if_neg (by rw [hb]; decide), hb] at k
    exact k w o h
set_option maxHeartbeats 1000000 in
theorem RPut_spec (hr : RdF G l.1 l.2.1 4 (rfs.flatMap rfL)) (hl : rfs.length = l.2.1) (hp : rfs.Pairwise fun a b => lt8 a b = true) (hn : rfs.length ≤ 1000) (hm : kn G ∈ L) (h : St E L w)
    (k : ∀ (w' : World) (o : Sl), St E (rfA o (putR rfs f) :: L) w' → R (.returned (.slice o.1 o.2.1 o.2.2)) w') : Calls Tryz.prog 74 #[.slice l.1 l.2.1 l.2.2, rfV f] w R := by
  refine C_qa0 ?_
  unfold T_qa0
  intro w6 w7
  have h6 : St E (blkL w.heap.size 108 (rfL f) :: L) w6 := h.alloc (.cells ⟨rfL f⟩ 108)
  have h7 : St E (rfA (some ⟨w6.heap.size, 0, none⟩, 0, 0) [] :: blkL w.heap.size 108 (rfL f) :: L) w7 := h6.rf_new
  clear_value w7
  generalize w6.heap.size = b0 at *
  generalize w.heap.size = bf at *
  unfold T_q8y
  intro X hX
  refine up_to rfs.length (Q := fun j => ∀ (w : World) (o : Sl) (out : List RF) (dn : Bool), out.length ≤ j + dn.toNat → out ++ pg f dn (rfs.drop j) = putR rfs f → St E (rfA o out :: blkL bf 108 (rfL f) :: L) w → X o.1 o.2.1 o.2.2 dn (j : Int) w) ?_ w7 (some ⟨b0, 0, none⟩, 0, 0) [] false (by simp) (by rw [List.drop_zero, List.nil_append]; exact pg_false f rfs hp) h7
  intro j hj ih w o out dn hol he h
  refine hX _ _ _ _ _ _ ?_
  unfold T_qa0_1_body
  rw [← hl]
  refine ite_d (fun hh => ?_) fun hh => ?_
  · have hjl : j < rfs.length := by omega
    rw [hl]
    refine rput_2 hr hl hm hjl h fun w25 h25 => ?_
    have hb0 : dn.toNat ≤ 1 := by cases dn <;> decide
    refine rput_3 (by omega) h25 fun w46 o' h46 => ?_
    intro w47
    have h47 := h46.drew
    have h47 : St E (rfA o' (if (!dn && !decide (rfs[j].name < f.name)) = true then out ++ [f] else out) :: blkL bf 108 (rfL f) :: L) w47 := h47
    clear_value w47
    obtain ⟨ad, hae, hrd1, hrd⟩ := (hr.at h47 (by simp [hm])).elem (f := rfL) rfL_len (List.getElem?_eq_getElem hjl) (by decide)
    refine ⟨by omega, by omega, ad, hae, _, hrd 0 _ rfl rfl, _, rd_cell h47.f1.at_blk rfl rfl, ?_⟩
    show ite ((!((bs rfs[j].name).toList == (bs f.name).toList)) = true) _ _
    rw [name_ne]
    have hd := List.drop_eq_getElem_cons hjl
    rw [hd] at he
    have ihj := ih hjl
    generalize rfs[j] = x at *
    clear ih hX hd
    rw [succ_big (by unfold big; omega)]
    have key : (if (!dn && !decide (x.name < f.name)) = true then out ++ [f] else out) ++ ((if x.name = f.name then [] else [x]) ++ pg f ((!dn && !decide (x.name < f.name)) || dn) (rfs.drop (j + 1))) = putR rfs f := by
      rw [← he]
      cases dn with
      | true =>
        simp only [Bool.not_true, Bool.false_and, Bool.or_true]
        rw [if_neg (by decide)]
        rfl
      | false =>
        by_cases e : x.name < f.name
        · have hne : x.name ≠ f.name := fun e2 => by rw [e2] at e; exact Cm.slt_irrefl _ e
          simp only [e, decide_true, Bool.not_true, Bool.and_false, Bool.or_false]
          rw [if_neg (by decide), if_neg hne]
          show _ = out ++ (if x.name < f.name then x :: pg f false (rfs.drop (j + 1)) else _)
          rw [if_pos e]
          rfl
        · simp only [e, decide_false, Bool.not_false, Bool.and_true, Bool.true_or]
          rw [if_pos trivial]
          show _ = out ++ (if x.name < f.name then _ else f :: ((if x.name = f.name then [] else [x]) ++ pg f true (rfs.drop (j + 1))))
          rw [if_neg e, List.append_assoc]
          rfl
    have hlen : ((if (!dn && !decide (x.name < f.name)) = true then out ++ [f] else out) : List RF).length ≤ j + ((!dn && !decide (x.name < f.name)) || dn).toNat := by
      cases dn with
      | true =>
        have hol : out.length ≤ j + 1 := hol
        simpa using hol
      | false =>
        have hol : out.length ≤ j := hol
        by_cases e : x.name < f.name
        · simpa [e] using hol
        · simp [e]; exact hol
    generalize (if (!dn && !decide (x.name < f.name)) = true then out ++ [f] else out) = out2 at *
    generalize ((!dn && !decide (x.name < f.name)) || dn) = dn2 at *
    have hb1 : dn2.toNat ≤ 1 := by cases dn2 <;> decide
    refine ite_d (fun hne => ?_) fun hne => ?_
    · rw [if_neg hne] at key
      refine ⟨by omega, by omega, ad, hae, _, _, _, _, _, _, _, _, hrd1, ?_⟩
      intro w56
      obtain ⟨o2, w58, hr2, h58⟩ := app_rf h47 x (by omega)
      refine runV_ok hr2 ⟨_, _, _, rfl, ?_⟩
      exact ihj w58 o2 (out2 ++ [x]) dn2 (by simp; omega) (by rw [List.append_assoc]; exact key) h58
    · have he2 : x.name = f.name := Decidable.byContradiction fun h => hne h
      rw [if_pos he2, List.nil_append] at key
      exact ihj w47 o' out2 dn2 (by omega) key h47
  · have hjn : j = rfs.length := by omega
    subst hjn
    rw [List.drop_length] at he
    cases dn with
    | true =>
      rw [show pg f true [] = [] from rfl, List.append_nil] at he
      rw [he] at h
      exact ite_b (fun hh => by cases hh) fun _ => k w o (h.sel 2 [0] (by simp))
    | false =>
      rw [show pg f false [] = [f] from rfl] at he
      have hol : out.length ≤ rfs.length := hol
      refine ite_b (fun _ => ?_) fun hh => by cases hh
      refine ⟨_, _, _, _, _, _, _, _, rd_rf h.f1, ?_⟩
      intro w75
      obtain ⟨o2, w77, hr2, h77⟩ := app_rf h f (by omega)
      rw [he] at h77
      exact runV_ok hr2 ⟨_, _, _, rfl, k w77 o2 (h77.sel 2 [0] (by simp))⟩
theorem RWithout_spec (hr : RdF G l.1 l.2.1 4 (rfs.flatMap rfL)) (hl : rfs.length = l.2.1) (hn : rfs.length ≤ 1000) (hm : kn G ∈ L) (h : St E L w)
    (k : ∀ (w' : World) (o : Sl), St E (rfA o (rfs.filter fun x => !decide (x.name = n)) :: L) w' → R (.returned (.slice o.1 o.2.1 o.2.2)) w') : Calls Tryz.prog 99 #[.slice l.1 l.2.1 l.2.2, .string (bs n)] w R := by
  refine C_q7v ?_
  unfold T_q7v
  intro w3
  have h3 : St E (rfA (some ⟨w.heap.size, 0, none⟩, 0, 0) [] :: L) w3 := h.rf_new
  clear_value w3
  generalize w.heap.size = b0 at *
  unfold T_q6h
  intro X hX
  refine up_to rfs.length (Q := fun j => ∀ (w : World) (o : Sl), St E (rfA o ((rfs.take j).filter fun x => !decide (x.name = n)) :: L) w → X o.1 o.2.1 o.2.2 (j : Int) w) ?_ w3 (some ⟨b0, 0, none⟩, 0, 0) h3
  intro j hj ih w o h
  refine hX _ _ _ _ _ ?_
  unfold T_q7v_1_body
  rw [← hl]
  refine ite_d (fun hh => ?_) fun hh => ?_
  · have hjl : j < rfs.length := by omega
    obtain ⟨ad, hae, hrd1, hrd⟩ := (hr.at h (by simp [hm])).elem (f := rfL) rfL_len (List.getElem?_eq_getElem hjl) (by decide)
    refine ⟨by omega, by omega, ad, hae, _, hrd 0 _ rfl rfl, ?_⟩
    show ite ((!((bs rfs[j].name).toList == (bs n).toList)) = true) _ _
    rw [name_ne]
    have ihj := ih hjl
    rw [List.take_succ_eq_append_getElem hjl, List.filter_append] at ihj
    have hlen : ((rfs.take j).filter fun x => !decide (x.name = n)).length ≤ 1000 := by
      refine Nat.le_trans (List.length_filter_le ..) ?_
      rw [List.length_take]; omega
    generalize (rfs.take j).filter (fun x => !decide (x.name = n)) = out at *
    generalize rfs[j] = x at *
    rw [succ_big (by unfold big; omega)]
    refine ite_d (fun hne => ?_) fun hne => ?_
    · have e : [x].filter (fun x => !decide (x.name = n)) = [x] := by simp [hne]
      rw [e] at ihj
      refine ⟨by omega, by omega, ad, hae, _, _, _, _, _, _, _, _, hrd1, ?_⟩
      intro w15
      obtain ⟨o2, w17, hr2, h17⟩ := app_rf h x (by omega)
      exact runV_ok hr2 ⟨_, _, _, rfl, ihj w17 o2 h17⟩
    · have he : x.name = n := Decidable.byContradiction fun h => hne h
      have e : [x].filter (fun x => !decide (x.name = n)) = [] := by simp [he]
      rw [e, List.append_nil] at ihj
      exact ihj w o h
  · have : j = rfs.length := by omega
    subst this
    rw [List.take_length] at h
    exact k w o h
theorem rused_2 {j : Nat} {n0 : Int} {K : Bool → World → Prop} {Kp : XT} (ll : rfs.length = l.2.1) (h : St E (blkL rp 90 (rdkV n0 l) :: L) w) (k : K (decide (j < rfs.length)) w) : T_q4g (some ⟨rp, 0, none⟩) (j : Int) w K Kp := by
  unfold T_q4g
  refine ite_b (fun _ => ⟨_, rfl, _, _, _, rd_fld h.at_blk rfl rfl, ?_⟩) fun hh => by simp at hh
  rw [← ll]
  by_cases hj : j < rfs.length
  · rw [decide_eq_true hj] at k; rw [decide_eq_true (by omega)]; exact k
  · rw [decide_eq_false hj] at k; rw [decide_eq_false (by omega)]; exact k
theorem RUsed_spec (I : Dk.Inv d) (ok : rlOk G c l rfs d) (hm : kn G ∈ L) (h : St E (blkL rp 90 (rdkV d.room l) :: L) w)
    (k : ∀ w', St E (blkL rp 90 (rdkV d.room l) :: L) w' → R (.returned (.int .i64 (Dk.used d))) w') : Calls Tryz.prog 30 #[.pointer (some ⟨rp, 0, none⟩)] w R := by
  have hU := used_le I
  have hnl : rfs.length ≤ 16 := by have := I.n; rw [ok.dl, List.length_map] at this; exact this
  refine C_q6c ?_
  unfold T_q6c T_q4f
  intro X hX
  have hsum : ∀ j, ((rfs.take j).map fun x => (Dk.now x.fl).length).sum ≤ 16 * 262144 := fun j => by
    have h1 := Dk.sum_le (f := fun x : RF => (Dk.now x.fl).length) (m := 262144) (l := rfs.take j) fun x hx => by
      have hx := List.mem_of_mem_take hx
      exact (Dk.okU_len (I.u x.fl (by rw [ok.dl]; exact List.mem_map_of_mem hx))).2
    have h2 : (rfs.take j).length ≤ 16 := by rw [List.length_take]; omega
    exact Nat.le_trans h1 (Nat.mul_le_mul_right 262144 h2)
  refine up_to rfs.length (Q := fun j => ∀ (w : World), St E (blkL rp 90 (rdkV d.room l) :: L) w → X ((((rfs.take j).map fun x => (Dk.now x.fl).length).sum : Nat) : Int) (j : Int) w) ?_ w h
  intro j hj ih w h
  refine hX _ _ _ ?_
  unfold T_q6c_1_body
  refine rused_2 ok.ll h (ite_d (fun hh => ?_) fun hh => ?_)
  · have hjl : j < rfs.length := hh
    obtain ⟨ad, hae, hrd1, hrd⟩ := (ok.rd.at h (by simp [hm])).elem (f := rfL) rfL_len (List.getElem?_eq_getElem hjl) (by decide)
    have hll := ok.ll
    refine ⟨_, rfl, _, _, _, rd_fld h.at_blk rfl rfl, by omega, by omega, ad, hae, _, _, _, _, _, _, _, _, hrd1, ?_⟩
    have hx := ok.ok rfs[j] (List.getElem_mem hjl)
    have hu := I.u rfs[j].fl (by rw [ok.dl]; exact List.mem_map_of_mem (List.getElem_mem hjl))
    have ihj := ih hjl
    have hs1 := hsum (j + 1)
    rw [List.take_succ_eq_append_getElem hjl, List.map_append, List.sum_append] at ihj hs1
    refine RNow_spec (x := rfs[j]) hx hu (by simp [hm]) h fun w22 o h22 => ?_
    refine ⟨_, _, _, rfl, ?_⟩
    have hol := h22.by_len2
    simp only [List.map_cons, List.map_nil, List.sum_cons, List.sum_nil, Nat.add_zero] at ihj hs1
    rw [← hol, succ_big (by unfold big; omega), wrap_id (by omega) (by omega)]
    have := ihj w22 h22.drop
    rw [show (((((rfs.take j).map fun x => (Dk.now x.fl).length).sum + (Dk.now rfs[j].fl).length : Nat)) : Int) = ((((rfs.take j).map fun x => (Dk.now x.fl).length).sum : Nat) : Int) + (((Dk.now rfs[j].fl).length : Nat) : Int) by omega] at this
    exact this
  · have hj2 : j = rfs.length := by omega
    subst hj2
    have e : ((rfs.take rfs.length).map fun x => (Dk.now x.fl).length).sum = Dk.used d := by
      rw [List.take_length]
      unfold Dk.used
      rw [ok.dl, List.map_map]
      rfl
    rw [e]
    exact k w h
end
end Go.Vc
namespace Go.Vc
open Go Go.Proofs Go.Proofs.YtclinifclfahfaaGreat
set_option maxRecDepth 100000
section
variable {E w : World} {L : List Asrt} {R : RT} {F G : Fz} {q s o l : Sl} {b n : Cm.Bs} {x f : RF} {rfs rfs2 out : List RF} {c rp : Nat} {d : Dk.Ds}
theorem rl_pair (I : Dk.Inv d) (ok : rlOk G c l rfs d) : rfs.Pairwise fun a b => lt8 a b = true := by
  have h := (Cm.rises_iff Dk.flOrd _).1 I.r
  rw [ok.dl, List.pairwise_map] at h
  exact h
theorem rl_n (I : Dk.Inv d) (ok : rlOk G c l rfs d) : rfs.length ≤ 16 := by have := I.n; rw [ok.dl, List.length_map] at this; exact this
theorem rdk_put {room : Int} {d2 : Dk.Ds} {c2 : Nat} (hroom : d2.room = room) (hdl : d2.l = rfs2.map RF.fl) (hok : ∀ x ∈ rfs2, x.ok F) (hfew : ∀ x ∈ rfs2, x.ws.length ≤ c2 * 262144) (h : St E (rfA o rfs2 :: blkL rp 90 (rdkV room l) :: kn F :: L) w) :
    wrOk w ((⟨rp, 0, none⟩ : Addr).add 1) (.slice o.1 o.2.1 o.2.2) ∧ ∃ G, Fz.le F G ∧ St E (rdkA G c2 rp d2 :: kn G :: L) (wr w ((⟨rp, 0, none⟩ : Addr).add 1) (.slice o.1 o.2.1 o.2.2)) := by
  subst hroom
  refine ⟨wrOk_fld (k := 1) h.f1.at_blk (by show 1 < 2; decide) rfl, ?_⟩
  have h2 : St E (blkL rp 90 (rdkV d2.room o) :: rfA o rfs2 :: kn F :: L) (wr w ((⟨rp, 0, none⟩ : Addr).add 1) (.slice o.1 o.2.1 o.2.2)) := (h.f1).wr_fld (k := 1) rfl
  have hc : rfs2.length = o.2.1 := h.rf_count
  have h3 : St E (rfA o rfs2 :: kn F :: blkL rp 90 (rdkV d2.room o) :: L) (wr w ((⟨rp, 0, none⟩ : Addr).add 1) (.slice o.1 o.2.1 o.2.2)) := h2.sel 3 [1, 2, 0] (by simp)
  obtain ⟨G, hG, h4, hrd⟩ := St.freezeS h3
  exact ⟨G, hG, St.rdk_mk ⟨hdl, hrd, hc, fun x hx => (hok x hx).mono hG, hfew⟩ h4.f1⟩
theorem RDRemove_spec (I : Dk.Inv d) (h : St E (rdkA F c rp d :: kn F :: L) w)
    (k : ∀ (G : Fz) (w' : World), Fz.le F G → St E (rdkA G c rp (Dk.remove d n).1 :: kn G :: L) w' → R (.returned (.int .i64 (Dk.remove d n).2)) w') : Calls Tryz.prog 61 #[.pointer (some ⟨rp, 0, none⟩), .string (bs n)] w R := by
  obtain ⟨l, rfs, ok, h⟩ := h.rdk_open
  have hn16 := rl_n I ok
  refine C_q4d ?_
  unfold T_q4d
  refine ite_b (fun hh => by simp at hh) fun _ => ?_
  refine RFind_spec ok (by omega) (by simp) h fun i hi => ⟨_, rfl, ?_⟩
  rcases hi with ⟨rfl, hf⟩ | ⟨j, hj, rfl, hnm, hf⟩
  · have e : Dk.remove d n = (d, 8) := by unfold Dk.remove; rw [hf]
    rw [e] at k
    exact ite_d (fun _ => k F w (Fz.le_refl F) (St.rdk_mk ok h)) fun hh => absurd (by decide) hh
  · have e : Dk.remove d n = ({ d with l := Dk.without d.l n }, 0) := by unfold Dk.remove; rw [hf]
    rw [e] at k
    refine ite_d (fun hh => absurd hh (by omega)) fun _ => ⟨_, rfl, _, _, _, rd_fld h.at_blk rfl rfl, ?_⟩
    refine RWithout_spec (n := n) ok.rd ok.ll (by omega) (by simp) h fun w9 o h9 => ⟨_, _, _, rfl, _, rfl, rfl, ?_⟩
    obtain ⟨g1, G, hG, g2⟩ := rdk_put (d2 := { d with l := Dk.without d.l n }) (c2 := c) rfl (by
      show Dk.without d.l n = _
      unfold Dk.without
      rw [ok.dl, List.filter_map]
      rfl) (fun x hx => ok.ok x (List.mem_filter.1 hx).1) (fun x hx => ok.few x (List.mem_filter.1 hx).1) h9
    refine ⟨g1, ?_⟩
    intro w12
    exact k G w12 hG g2
theorem RDRead_spec (I : Dk.Inv d) (h : St E (rdkA F c rp d :: kn F :: L) w)
    (k : ∀ (w' : World) (o : Sl), St E (byA o (Dk.read d n).1 :: rdkA F c rp d :: kn F :: L) w' → R (.returned (.tuple #[.slice o.1 o.2.1 o.2.2, .int .i64 (Dk.read d n).2])) w') : Calls Tryz.prog 76 #[.pointer (some ⟨rp, 0, none⟩), .string (bs n)] w R := by
  obtain ⟨l, rfs, ok, h⟩ := h.rdk_open
  have hn16 := rl_n I ok
  refine C_q6a ?_
  unfold T_q6a
  refine ite_b (fun hh => by simp at hh) fun _ => ?_
  refine RFind_spec ok (by omega) (by simp) h fun i hi => ⟨_, rfl, ?_⟩
  rcases hi with ⟨rfl, hf⟩ | ⟨j, hj, rfl, hnm, hf⟩
  · have e : Dk.read d n = ([], 8) := by unfold Dk.read; rw [hf]
    rw [e] at k
    exact ite_d (fun _ => k w nilS (St.by_nil (St.rdk_mk ok h))) fun hh => absurd (by decide) hh
  · have e : Dk.read d n = (Dk.now rfs[j].fl, 0) := by unfold Dk.read; rw [hf]
    rw [e] at k
    have hll := ok.ll
    obtain ⟨ad, hae, hrd1, _⟩ := (ok.rd.at h (by simp)).elem (f := rfL) rfL_len (List.getElem?_eq_getElem hj) (by decide)
    have hx := ok.ok rfs[j] (List.getElem_mem hj)
    have hu := I.u rfs[j].fl (by rw [ok.dl]; exact List.mem_map_of_mem (List.getElem_mem hj))
    refine ite_d (fun hh => absurd hh (by omega)) fun _ => ⟨_, rfl, _, _, _, rd_fld h.at_blk rfl rfl, by omega, by omega, ad, hae, _, _, _, _, _, _, _, _, hrd1, ?_⟩
    refine RNow_spec (x := rfs[j]) hx hu (by simp) h fun w14 o h14 => ?_
    refine ⟨_, _, _, rfl, ?_⟩
    exact k w14 o (St.f1 (St.rdk_mk ok h14.f1))
theorem put_fl (ok : rlOk F c l rfs d) (x : RF) : Dk.putF d.l x.fl = (putR rfs x).map RF.fl := by rw [putR_fl, ← ok.dl]
theorem putR_mem {y : RF} (h : y ∈ putR rfs x) : y = x ∨ y ∈ rfs := by
  unfold putR Cm.put at h
  rcases List.mem_append.1 h with h | h
  · exact .inr (List.mem_filter.1 h).1
  · rcases List.mem_cons.1 h with h | h
    · exact .inl h
    · exact .inr (List.mem_filter.1 h).1
theorem RDSync_spec (I : Dk.Inv d) (h : St E (rdkA F c rp d :: kn F :: L) w)
    (k : ∀ (G : Fz) (w' : World), Fz.le F G → St E (rdkA G c rp (Dk.sync d n).1 :: kn G :: L) w' → R (.returned (.int .i64 (Dk.sync d n).2)) w') : Calls Tryz.prog 62 #[.pointer (some ⟨rp, 0, none⟩), .string (bs n)] w R := by
  obtain ⟨l, rfs, ok, h⟩ := h.rdk_open
  have hn16 := rl_n I ok
  refine C_q6b ?_
  unfold T_q6b
  refine ite_b (fun hh => by simp at hh) fun _ => ?_
  refine RFind_spec ok (by omega) (by simp) h fun i hi => ⟨_, rfl, ?_⟩
  rcases hi with ⟨rfl, hf⟩ | ⟨j, hj, rfl, hnm, hf⟩
  · have e : Dk.sync d n = (d, 8) := by unfold Dk.sync; rw [hf]
    rw [e] at k
    exact ite_d (fun _ => k F w (Fz.le_refl F) (St.rdk_mk ok h)) fun hh => absurd (by decide) hh
  · have e : Dk.sync d n = ({ d with l := Dk.putF d.l ⟨n, true, Dk.now rfs[j].fl, []⟩ }, 0) := by unfold Dk.sync; rw [hf]
    rw [e] at k
    refine ite_d (fun hh => absurd hh (by omega)) fun _ => ?_
    intro w6
    have h6 : St E (blkL rp 90 (rdkV d.room l) :: kn F :: L) w6 := h.drew
    clear_value w6
    have hll := ok.ll
    obtain ⟨ad, hae, hrd1, _⟩ := (ok.rd.at h6 (by simp)).elem (f := rfL) rfL_len (List.getElem?_eq_getElem hj) (by decide)
    have hx := ok.ok rfs[j] (List.getElem_mem hj)
    have hu := I.u rfs[j].fl (by rw [ok.dl]; exact List.mem_map_of_mem (List.getElem_mem hj))
    have hnl : (Dk.now rfs[j].fl).length ≤ 262144 := (Dk.okU_len hu).2
    refine ⟨_, rfl, _, _, _, rd_fld h6.at_blk rfl rfl, _, rfl, _, _, _, rd_fld h6.at_blk rfl rfl, by omega, by omega, ad, hae, _, _, _, _, _, _, _, _, hrd1, ?_⟩
    refine RNow_spec (x := rfs[j]) hx hu (by simp) h6 fun w17 o h17 => ?_
    have h18 : St E (byA o (Dk.now rfs[j].fl) :: kn F :: blkL rp 90 (rdkV d.room l) :: L) w17 := h17.sel 3 [0, 2, 1] (by simp)
    obtain ⟨G, hG, h19, hs⟩ := St.srcB2 h18 (by omega)
    have h20 : St E (blkL rp 90 (rdkV d.room l) :: kn G :: L) w17 := h19.f1
    have okG := ok.mono hG
    refine ⟨_, _, _, rfl, ⟨rd_fld h20.at_blk rfl rfl, trivial⟩, ?_⟩
    have hq := fun (R : RT) => @RPut_spec E w17 _ R G l ⟨n, true, o, Dk.now rfs[j].fl, nilS, []⟩ rfs okG.rd okG.ll (rl_pair I okG) (by omega) (by simp) h20
    refine hq _ fun w20 o2 h21 => ⟨_, _, _, rfl, trivial, _, rfl, rfl, ?_⟩
    have hxn : RF.ok G ⟨n, true, o, Dk.now rfs[j].fl, nilS, []⟩ := ⟨hs, RdF.nil _ _, rfl, Nat.zero_le _⟩
    obtain ⟨g1, G2, hG2, g2⟩ := rdk_put (d2 := { d with l := Dk.putF d.l ⟨n, true, Dk.now rfs[j].fl, []⟩ }) (c2 := c) rfl (put_fl okG ⟨n, true, o, Dk.now rfs[j].fl, nilS, []⟩)
      (fun y hy => by rcases putR_mem hy with rfl | hy; exact hxn; exact okG.ok y hy) (fun y hy => by rcases putR_mem hy with rfl | hy; exact Nat.zero_le _; exact okG.few y hy) h21
    refine ⟨g1, ?_⟩
    intro w23
    exact ⟨trivial, k G2 w23 (Fz.le_trans hG hG2) g2⟩
set_option maxHeartbeats 1000000 in
theorem RDRename_spec {a b : Cm.Bs} (hbl : b.length ≤ huge) (I : Dk.Inv d) (h : St E (rdkA F c rp d :: kn F :: L) w)
    (k : ∀ (G : Fz) (w' : World), Fz.le F G → St E (rdkA G c rp (Dk.rename d a b).1 :: kn G :: L) w' → R (.returned (.int .i64 (Dk.rename d a b).2)) w') : Calls Tryz.prog 63 #[.pointer (some ⟨rp, 0, none⟩), .string (bs a), .string (bs b)] w R := by
  obtain ⟨l, rfs, ok, h⟩ := h.rdk_open
  have hn16 := rl_n I ok
  refine C_q4e ?_
  unfold T_q4e
  refine ite_b (fun hh => by simp at hh) fun _ => ?_
  refine RFind_spec ok (by omega) (by simp) h fun i hi => ⟨_, rfl, ?_⟩
  rcases hi with ⟨rfl, hf⟩ | ⟨j, hj, rfl, hnm, hf⟩
  · have e : Dk.rename d a b = (d, 8) := by unfold Dk.rename; rw [hf]
    rw [e] at k
    exact ite_d (fun _ => k F w (Fz.le_refl F) (St.rdk_mk ok h)) fun hh => absurd (by decide) hh
  refine ite_d (fun hh => absurd hh (by omega)) fun _ => ?_
  refine RNamed_spec hbl ⟨_, rfl, ite_b (fun hnb => ?_) fun hnb => ?_⟩
  · have hnb : Dk.named b = false := by simpa using hnb
    have e : Dk.rename d a b = (d, 14) := by unfold Dk.rename; rw [hf]; simp only; rw [if_pos hnb]
    rw [e] at k
    exact k F w (Fz.le_refl F) (St.rdk_mk ok h)
  have hnb : Dk.named b = true := by simpa using hnb
  show ite (((bs a).toList == (bs b).toList) = true) _ _
  rw [bs_beq]
  refine ite_d (fun hab => ?_) fun hab => ?_
  · have e : Dk.rename d a b = (d, 0) := by unfold Dk.rename; rw [hf]; simp only; rw [if_neg (by rw [hnb]; decide), if_pos hab]
    rw [e] at k
    exact k F w (Fz.le_refl F) (St.rdk_mk ok h)
  have e : Dk.rename d a b = ({ d with l := Dk.putF (Dk.without d.l a) { rfs[j].fl with name := b } }, 0) := by unfold Dk.rename; rw [hf]; simp only; rw [if_neg (by rw [hnb]; decide), if_neg hab]
  rw [e] at k
  have hll := ok.ll
  obtain ⟨ad, hae, hrd1, _⟩ := (ok.rd.at h (by simp)).elem (f := rfL) rfL_len (List.getElem?_eq_getElem hj) (by decide)
  have hx := ok.ok rfs[j] (List.getElem_mem hj)
  have hxf := ok.few rfs[j] (List.getElem_mem hj)
  refine ⟨_, rfl, _, _, _, rd_fld h.at_blk rfl rfl, by omega, by omega, ad, hae, _, _, _, _, _, _, _, _, hrd1, ?_⟩
  generalize rfs[j] = x at *
  intro w17
  have h17 : St E (blkL w.heap.size 108 [.string ⟨#[]⟩, .bool false, .slice none 0 0, .slice none 0 0] :: blkL rp 90 (rdkV d.room l) :: kn F :: L) w17 := h.alloc (.cells ⟨[.string ⟨#[]⟩, .bool false, .slice none 0 0, .slice none 0 0]⟩ 108)
  clear_value w17
  generalize w.heap.size = bf at *
  refine ⟨rfl, wrOk_agg (off := 0) (xs := rfL x) h17.at_blk (by show 4 ≤ 4; decide) (fun u hu => rfL_one [x] u (by simpa using hu)), ?_⟩
  intro w18
  have h18 : St E (blkL bf 108 (rfL x) :: blkL rp 90 (rdkV d.room l) :: kn F :: L) w18 := h17.wr_agg0 (xs := rfL x) rfl
  clear_value w18
  refine ⟨rfl, wrOk_cell (off := 0) h18.at_blk (by show 0 < 4; decide) rfl, ?_⟩
  intro w19 w20
  have h20 : St E (blkL bf 108 (rfL { x with name := b }) :: blkL rp 90 (rdkV d.room l) :: kn F :: L) w20 := (h18.wr_cell (off := 0) rfl).drew
  clear_value w20
  refine ⟨_, rfl, _, _, _, rd_fld h20.f1.at_blk rfl rfl, _, _, _, _, _, _, _, _, rd_rf h20, ?_⟩
  refine RWithout_spec (n := a) ok.rd ok.ll (by omega) (by simp) h20 fun w28 o h28 => ⟨_, _, _, rfl, ⟨rd_rf h28.f1, trivial⟩, ?_⟩
  have hcnt : (rfs.filter fun x => !decide (x.name = a)).length = o.2.1 := h28.rf_count
  have hfl : (rfs.filter fun x => !decide (x.name = a)).length ≤ 16 := Nat.le_trans (List.length_filter_le ..) hn16
  have h29 : St E (rfA o (rfs.filter fun x => !decide (x.name = a)) :: kn F :: blkL rp 90 (rdkV d.room l) :: L) w28 := h28.sel 4 [0, 3, 2] (by simp)
  obtain ⟨G, hG, h30, hrd⟩ := St.freezeS h29
  have h31 : St E (blkL rp 90 (rdkV d.room l) :: kn G :: L) w28 := h30.f1
  have hq := fun (R : RT) => @RPut_spec E w28 _ R G o { x with name := b } _ hrd hcnt ((rl_pair I ok).filter _) (by omega) (by simp) h31
  refine hq _ fun w31 o2 h32 => ⟨_, _, _, rfl, trivial, _, rfl, rfl, ?_⟩
  obtain ⟨g1, G2, hG2, g2⟩ := rdk_put (d2 := { d with l := Dk.putF (Dk.without d.l a) { x.fl with name := b } }) (c2 := c) rfl (by
      show Dk.putF (Dk.without d.l a) { x.fl with name := b } = _
      rw [putR_fl]
      congr 1
      unfold Dk.without
      rw [ok.dl, List.filter_map]
      rfl)
    (fun y hy => by
      rcases putR_mem hy with rfl | hy
      · exact ⟨(hx.mono hG).sure, (hx.mono hG).us, hx.ul, hx.few⟩
      · exact (ok.ok y (List.mem_filter.1 hy).1).mono hG) (fun y hy => by
      rcases putR_mem hy with rfl | hy
      · exact hxf
      · exact ok.few y (List.mem_filter.1 hy).1) h32
  refine ⟨g1, ?_⟩
  intro w34
  exact ⟨trivial, k G2 w34 (Fz.le_trans hG hG2) g2⟩
end
end Go.Vc
namespace Go.Vc
open Go Go.Proofs Go.Proofs.YtclinifclfahfaaGreat
set_option maxRecDepth 100000
section
variable {E w : World} {L : List Asrt} {R : RT} {F G : Fz} {q s o l : Sl} {b n : Cm.Bs} {x f : RF} {rfs rfs2 out : List RF} {c rp : Nat} {d : Dk.Ds}
def stA (o : Sl) (ns : List Cm.Bs) : Asrt := ownS o.1 o.2.1 o.2.2 9 1 (ns.flatMap celS)
theorem St.st_count {ns : List Cm.Bs} (h : St E (stA o ns :: L) w) : ns.length = o.2.1 := h.rdS_own.count (f := celS) (fun _ => rfl) (by decide)
theorem app_st {ns : List Cm.Bs} (h : St E (stA o ns :: L) w) (x : Cm.Bs) (hb : ns.length + 1 ≤ 1000000) :
    ∃ (o' : Sl) (w' : World), (Builtin.append_ #[55, 55] 55 #[.slice o.1 o.2.1 o.2.2, .slice (some ⟨w.heap.size, 0, none⟩) 1 1]).run Tryz.prog (w.alloc (.cells ⟨celS x⟩ 9)) = .ok (.slice o'.1 o'.2.1 o'.2.2) w' ∧ St E (stA o' (ns ++ [x]) :: L) w' := by
  have h2 : St E (stA (some ⟨w.heap.size, 0, none⟩, 1, 1) [x] :: stA o ns :: L) (w.alloc (.cells ⟨celS x⟩ 9)) :=
    (St.ownS_mk (xs := celS x) (rest := []) (l := 1) (c := 1) (sz := 1) (by rw [List.append_nil]; exact h.alloc _) rfl (Nat.le_refl _) (by decide) rfl :)
  have hro : RdS (w.alloc (.cells ⟨celS x⟩ 9)) (some ⟨w.heap.size, 0, none⟩) 1 1 ([x].flatMap celS) := St.rdS_own h2
  have hl : ns.length = o.2.1 := h.st_count
  obtain ⟨a', c', w', hr, hs⟩ := append_own (P := Tryz.prog) (t := 55) (ty := 55) (e := 9) (i := Tryz.t9) (z := .string ⟨#[]⟩) (by kernel_rfl) (by kernel_rfl) (by kernel_rfl) (by kernel_rfl) (by decide) (c2 := 1) h2.f1 hro (by intro u hu; simp [celS] at hu; subst hu; rfl)
    (by have : Tryz.t9.bytes = 16 := by kernel_rfl
        rw [this]; omega) (by unfold maxLen; omega)
  rw [show Tryz.t9.size = 1 from by kernel_rfl, ← List.flatMap_append] at hs
  exact ⟨(a', o.2.1 + 1, c'), w', hr, hs.f1.drop⟩
theorem rnames_2 {j : Nat} {n0 : Int} {K : Bool → World → Prop} {Kp : XT} (ll : rfs.length = l.2.1) (h : St E (blkL rp 90 (rdkV n0 l) :: L) w) (k : K (decide (j < rfs.length)) w) : T_q38 (some ⟨rp, 0, none⟩) (j : Int) w K Kp := by
  unfold T_q38
  refine ite_b (fun _ => ⟨_, rfl, _, _, _, rd_fld h.at_blk rfl rfl, ?_⟩) fun hh => by simp at hh
  rw [← ll]
  by_cases hj : j < rfs.length
  · rw [decide_eq_true hj] at k; rw [decide_eq_true (by omega)]; exact k
  · rw [decide_eq_false hj] at k; rw [decide_eq_false (by omega)]; exact k
theorem RDNames_spec (I : Dk.Inv d) (h : St E (rdkA F c rp d :: kn F :: L) w)
    (k : ∀ (w' : World) (o : Sl), o.2.1 = (namesOf d).length → St E (stA o (namesOf d) :: rdkA F c rp d :: kn F :: L) w' → R (.returned (.slice o.1 o.2.1 o.2.2)) w') : Calls Tryz.prog 28 #[.pointer (some ⟨rp, 0, none⟩)] w R := by
  obtain ⟨l, rfs, ok, h⟩ := h.rdk_open
  have hn16 := rl_n I ok
  have hnm : namesOf d = rfs.map (·.name) := by unfold namesOf; rw [ok.dl, List.map_map]; rfl
  rw [hnm] at k
  refine C_q5f ?_
  unfold T_q5f
  intro w2
  have h2 : St E (stA (some ⟨w.heap.size, 0, none⟩, 0, 0) [] :: blkL rp 90 (rdkV d.room l) :: kn F :: L) w2 :=
    (St.ownS_mk (xs := ([] : List Cm.Bs).flatMap celS) (rest := []) (l := 0) (c := 0) (sz := 1) (h.alloc _) rfl (Nat.le_refl _) (by decide) rfl :)
  clear_value w2
  generalize w.heap.size = b0 at *
  unfold T_q37
  intro X hX
  refine up_to rfs.length (Q := fun j => ∀ (w : World) (o : Sl), St E (stA o ((rfs.take j).map (·.name)) :: blkL rp 90 (rdkV d.room l) :: kn F :: L) w → X o.1 o.2.1 o.2.2 (j : Int) w) ?_ w2 (some ⟨b0, 0, none⟩, 0, 0) h2
  intro j hj ih w o h
  refine hX _ _ _ _ _ ?_
  unfold T_q5f_1_body
  refine rnames_2 ok.ll h.f1 (ite_d (fun hh => ?_) fun hh => ?_)
  · have hjl : j < rfs.length := hh
    have hll := ok.ll
    obtain ⟨ad, hae, _, hrd⟩ := (ok.rd.at h (by simp)).elem (f := rfL) rfL_len (List.getElem?_eq_getElem hjl) (by decide)
    have ihj := ih hjl
    rw [List.take_succ_eq_append_getElem hjl, List.map_append] at ihj
    have hlen : ((rfs.take j).map (·.name)).length ≤ 16 := by rw [List.length_map, List.length_take]; omega
    refine ⟨_, rfl, _, _, _, rd_fld h.f1.at_blk rfl rfl, by omega, by omega, ad, hae, _, hrd 0 _ rfl rfl, ?_⟩
    intro w19
    obtain ⟨o', w21, hr, h21⟩ := app_st h rfs[j].name (by omega)
    refine runV_ok hr ⟨_, _, _, rfl, ?_⟩
    rw [succ_big (by unfold big; omega)]
    exact ihj w21 o' h21
  · have hj2 : j = rfs.length := by omega
    subst hj2
    rw [List.take_length] at h
    exact k w o h.st_count.symm (St.f1 (St.rdk_mk ok h.f1))
def wrsP (i : Nat) : Cm.Bs → List (Nat × UInt8)
  | [] => []
  | c :: r => (i, c) :: wrsP (i + 1) r
theorem wrsP_un : ∀ (b : Cm.Bs) (i : Nat), (wrsP i b).map unP = Dk.wrs i b
  | [], _ => rfl
  | c :: r, i => by
    show unP (i, c) :: (wrsP (i + 1) r).map unP = _
    rw [wrsP_un r (i + 1)]; rfl
theorem wrsP_len : ∀ (b : Cm.Bs) (i : Nat), (wrsP i b).length = b.length
  | [], _ => rfl
  | c :: r, i => by show (wrsP (i + 1) r).length + 1 = _; rw [wrsP_len r]; rfl
theorem wrsP_snoc : ∀ (b : Cm.Bs) (i : Nat) (c : UInt8), wrsP i (b ++ [c]) = wrsP i b ++ [(i + b.length, c)]
  | [], i, c => rfl
  | a :: r, i, c => by
    show (i, a) :: wrsP (i + 1) (r ++ [c]) = (i, a) :: (wrsP (i + 1) r ++ _)
    rw [wrsP_snoc r (i + 1) c, show i + 1 + r.length = i + (a :: r).length by simp; omega]
def uA (o : Sl) (ws : List (Nat × UInt8)) : Asrt := ownS o.1 o.2.1 o.2.2 118 3 (ws.flatMap unV)
theorem St.u_count {ws : List (Nat × UInt8)} (h : St E (uA o ws :: L) w) : ws.length = o.2.1 := h.rdS_own.count unV_len (by decide)
theorem app_us {ws ys : List (Nat × UInt8)} {a2 : Option Addr} {l2 c2 : Nat} (h : St E (uA o ws :: L) w) (hro : RdS w a2 l2 3 (ys.flatMap unV)) (hb : ws.length + ys.length ≤ 1000000000) :
    ∃ (o' : Sl) (w' : World), (Builtin.append_ #[106, 106] 106 #[.slice o.1 o.2.1 o.2.2, .slice a2 l2 c2]).run Tryz.prog w = .ok (.slice o'.1 o'.2.1 o'.2.2) w' ∧ St E (uA o' (ws ++ ys) :: L) w' := by
  have hl : ws.length = o.2.1 := h.u_count
  have hl2 : ys.length = l2 := hro.count unV_len (by decide)
  obtain ⟨a', c', w', hr, hs⟩ := append_own (P := Tryz.prog) (t := 106) (ty := 106) (e := 118) (i := Tryz.t118) (z := .agg #[.bool false, .int .i64 0, .int .u8 0]) (by kernel_rfl) (by kernel_rfl) (by kernel_rfl) (by kernel_rfl) (by decide) (c2 := c2) h hro (unV_one ys)
    (by have : Tryz.t118.bytes = 24 := by kernel_rfl
        rw [this]; omega) (by unfold maxLen; omega)
  rw [show Tryz.t118.size = 3 from by kernel_rfl, ← List.flatMap_append] at hs
  exact ⟨(a', o.2.1 + l2, c'), w', hr, hs⟩
theorem rwr_2 {at_ : Int} {size : Nat} {K : Bool → World → Prop} {Kp : XT} (k : K (decide (at_ < 0 ∨ (size : Int) < at_)) w) : T_q3a at_ (size : Int) w K Kp := by
  unfold T_q3a
  refine ite_d (fun hh => ?_) fun hh => ?_
  · rw [decide_eq_true (.inl hh)] at k; exact k
  · by_cases h2 : (size : Int) < at_
    · rw [decide_eq_true (.inr h2)] at k; rw [decide_eq_true (by omega)]; exact k
    · rw [decide_eq_false (by omega)] at k; rw [decide_eq_false (by omega)]; exact k
theorem rwr_3 {at_ size : Nat} {K : Int → World → Prop} {Kp : XT} (ha : at_ + q.2.1 ≤ 9223372036854775807) (k : K ((max size (at_ + q.2.1) : Nat) : Int) w) : T_q3b (at_ : Int) q.1 q.2.1 q.2.2 (size : Int) (decide ((IntKind.wrap .i64 ((at_ : Int) + ((q.2.1 : Nat) : Int)) : Int) > (size : Int))) w K Kp := by
  unfold T_q3b
  rw [wrap_id (by omega) (by omega)]
  refine ite_d (fun hh => ?_) fun hh => ?_
  · rw [show ((at_ : Int) + ((q.2.1 : Nat) : Int)) = ((max size (at_ + q.2.1) : Nat) : Int) by omega]; exact k
  · rw [show (size : Int) = ((max size (at_ + q.2.1) : Nat) : Int) by omega]; exact k
theorem rwr_4 {i e n0 : Int} {K : Bool → World → Prop} {Kp : XT} (ll : rfs.length = l.2.1) (h : St E (blkL rp 90 (rdkV n0 l) :: L) w) (k : K (decide ((i < 0 ∧ 16 ≤ rfs.length) ∨ 262144 < e)) w) : T_q3c (some ⟨rp, 0, none⟩) i e w K Kp := by
  unfold T_q3c
  have last : ¬ (i < 0 ∧ 16 ≤ rfs.length) → K (decide (e > 262144)) w := fun hn => by
    by_cases h2 : 262144 < e
    · rw [decide_eq_true (.inr h2)] at k; rw [decide_eq_true (by omega)]; exact k
    · rw [decide_eq_false (fun hh => hh.elim hn h2)] at k; rw [decide_eq_false (by omega)]; exact k
  refine ite_d (fun hh => ⟨_, rfl, _, _, _, rd_fld h.at_blk rfl rfl, ?_⟩) fun hh => last (by omega)
  rw [← ll]
  refine ite_d (fun h2 => ?_) fun h2 => last (by omega)
  rw [decide_eq_true (.inl ⟨hh, by omega⟩)] at k
  exact k
theorem rwr_5 {at_ : Nat} {us : Sl} {ws : List (Nat × UInt8)} {K : Option Addr → Nat → Nat → World → Prop} {Kp : XT} (hs : Src G q b) (hm : kn G ∈ L) (hb : b.length ≤ 262144) (ha : at_ ≤ 262144) (hw : ws.length + b.length ≤ 1000000000) (h : St E (uA us ws :: L) w)
    (k : ∀ (w' : World) (o : Sl), St E (uA o (ws ++ wrsP at_ b) :: L) w' → K o.1 o.2.1 o.2.2 w') : T_q3d us.1 us.2.1 us.2.2 0 (at_ : Int) q.1 q.2.1 q.2.2 w K Kp := by
  have hl := hs.len
  unfold T_q3d
  intro X hX
  refine up_to b.length (Q := fun j => ∀ (w : World) (o : Sl), St E (uA o (ws ++ wrsP at_ (b.take j)) :: L) w → X o.1 o.2.1 o.2.2 (j : Int) w) ?_ w us (by rw [List.take_zero]; show St E (uA us (ws ++ []) :: L) w; rw [List.append_nil]; exact h)
  intro j hj ih w o h
  refine hX _ _ _ _ _ ?_
  unfold T_q5g_5_body
  rw [← hl]
  refine ite_d (fun hh => ?_) fun hh => ?_
  · have hjl : j < b.length := by omega
    obtain ⟨ad, hae, hrd⟩ := one_at (f := fun x : UInt8 => Value.int .u8 (x.toNat : Int)) (qs := b) (fun _ => rfl) (by rw [← List.map_eq_flatMap]; exact hs.rd.at h (by simp [hm])) hjl
    refine ⟨by omega, by omega, ad, hae, _, hrd, ?_⟩
    have ihj := ih hjl
    rw [List.take_succ_eq_append_getElem hjl, wrsP_snoc, ← List.append_assoc] at ihj
    rw [List.length_take, Nat.min_eq_left (Nat.le_of_lt hjl)] at ihj
    have hwl : (ws ++ wrsP at_ (b.take j)).length ≤ ws.length + j := by rw [List.length_append, wrsP_len, List.length_take]; omega
    generalize ws ++ wrsP at_ (b.take j) = U at *
    rw [wrap_id (x := (at_ : Int) + (j : Int)) (by omega) (by omega), show (at_ : Int) + (j : Int) = ((at_ + j : Nat) : Int) by omega]
    intro w76
    have h76 : St E (uA (some ⟨w.heap.size, 0, none⟩, 1, 1) [(at_ + j, b[j])] :: uA o U :: L) w76 :=
      (St.ownS_mk (xs := unV (at_ + j, b[j])) (rest := []) (l := 1) (c := 1) (sz := 3) (by rw [List.append_nil]; exact h.alloc _) rfl (Nat.le_refl _) (by decide) rfl :)
    clear_value w76
    obtain ⟨o', w78, hr, h78⟩ := app_us (c2 := 1) h76.f1 h76.rdS_own (by simp; omega)
    refine runV_ok hr ⟨_, _, _, rfl, ?_⟩
    rw [succ_big (by unfold big; omega)]
    exact ihj w78 o' (h78.sel 2 [0] (by simp))
  · have : j = b.length := by omega
    subst this
    rw [List.take_length] at h
    exact k w o h
def freshR (n : Cm.Bs) : RF := ⟨n, false, nilS, [], nilS, []⟩
theorem rwr_1 {bf : Nat} {i : Int} {Kn : World → Prop} {Kp : XT} (ok : rlOk G c l rfs d) (hn16 : rfs.length ≤ 16) (hi : at_n rfs d n i) (hm : kn G ∈ L) (h : St E (blkL bf 108 (rfL (freshR n)) :: blkL rp 90 (rdkV d.room l) :: L) w)
    (k : ∀ (w' : World) (x : RF), x.name = n → x.ok G → x.ws.length ≤ c * 262144 → (Dk.find d.l n).getD (Dk.fresh n) = x.fl → (x.fl ∈ d.l ∨ x = freshR n) → ((i < 0) ↔ Dk.find d.l n = none) → St E (blkL bf 108 (rfL x) :: blkL rp 90 (rdkV d.room l) :: L) w' → Kn w') : T_q39 (some ⟨rp, 0, none⟩) i ⟨bf, 0, none⟩ (decide (i ≥ 0)) w Kn Kp := by
  unfold T_q39
  rcases hi with ⟨rfl, hf⟩ | ⟨j, hj, rfl, hnm, hf⟩
  · refine ite_b (fun hh => by cases hh) fun _ => k w (freshR n) rfl ⟨⟨RdF.nil _ _, rfl, Nat.le_refl _, Nat.zero_le _⟩, RdF.nil _ _, rfl, Nat.zero_le _⟩ (Nat.zero_le _) (by rw [hf]; rfl) (.inr rfl) ⟨fun _ => hf, fun _ => by decide⟩ h
  · have hll := ok.ll
    refine ite_d (fun _ => ?_) fun hh => absurd (by omega) hh
    obtain ⟨ad, hae, hrd1, _⟩ := (ok.rd.at h (by simp [hm])).elem (f := rfL) rfL_len (List.getElem?_eq_getElem hj) (by decide)
    refine ⟨_, rfl, _, _, _, rd_fld h.f1.at_blk rfl rfl, by omega, by omega, ad, hae, _, _, _, _, _, _, _, _, hrd1, rfl, wrOk_agg (off := 0) (xs := rfL rfs[j]) h.at_blk (by show 4 ≤ 4; decide) (fun u hu => rfL_one [rfs[j]] u (by simpa using hu)), ?_⟩
    intro w24
    have h24 : St E (blkL bf 108 (rfL rfs[j]) :: blkL rp 90 (rdkV d.room l) :: L) w24 := h.wr_agg0 (xs := rfL rfs[j]) rfl
    clear_value w24
    exact k w24 rfs[j] hnm (ok.ok _ (List.getElem_mem hj)) (ok.few _ (List.getElem_mem hj)) (by rw [hf]; rfl) (.inl (by rw [ok.dl]; exact List.mem_map_of_mem (List.getElem_mem hj))) ⟨fun hh => absurd hh (by omega), fun hh => by rw [hf] at hh; cases hh⟩ h24
end
end Go.Vc
namespace Go.Vc
open Go Go.Proofs Go.Proofs.YtclinifclfahfaaGreat
set_option maxRecDepth 100000
section
variable {E w : World} {L : List Asrt} {R : RT} {F G : Fz} {q s : Sl} {b : Cm.Bs} {dp c : Nat} {d : Dk.Ds} {m : List (Cm.Bs × Nat)} {fs : List FR} {n : Cm.Bs}
theorem crash_2 {keep : List Int} {ks : Sl} {i : Nat} {K : Int → World → Prop} {Kp : XT} (hr : RdF F ks.1 ks.2.1 1 (intV keep)) (hkl : keep.length = ks.2.1) (hm : kn F ∈ L) (h : St E L w) (k : K ((Dk.keepAt keep i : Nat) : Int) w) :
    T_q3l ks.1 ks.2.1 ks.2.2 (i : Int) 0 (decide ((i : Int) < ((ks.2.1 : Nat) : Int))) w K Kp := by
  unfold T_q3l
  refine ite_d (fun hh => ?_) fun hh => ?_
  · have hi : i < keep.length := by omega
    obtain ⟨ad, hae, hrd⟩ := one_at (f := fun x : Int => Value.int .i64 x) (qs := keep) (fun _ => rfl) (by rw [← List.map_eq_flatMap]; exact hr.at h hm) hi
    refine ⟨by omega, by omega, ad, hae, _, hrd, ?_⟩
    have e : (if keep[i] > 0 then keep[i] else 0) = ((Dk.keepAt keep i : Nat) : Int) := by
      unfold Dk.keepAt
      rw [List.getElem?_eq_getElem hi]
      show _ = ((keep[i].toNat : Nat) : Int)
      split <;> omega
    rw [e]
    exact k
  · have e : Dk.keepAt keep i = 0 := by
      unfold Dk.keepAt
      rw [List.getElem?_eq_none (by omega)]
      rfl
    rw [e] at k
    exact k
set_option maxHeartbeats 2000000 in
theorem DCrash_spec {keep : List Int} {ks : Sl} (I : Dk.Inv d) (hr : RdF F ks.1 ks.2.1 1 (intV keep)) (hkl : keep.length = ks.2.1) (hk64 : ∀ i ∈ keep, i ≤ 9223372036854775807) (hc : c ≤ 1000000) (h : St E (diskA F c dp d :: kn F :: L) w)
    (k : ∀ (G : Fz) (w' : World), Fz.le F G → St E (diskA G c dp (Dk.crash d keep) :: kn G :: L) w' → R (.returned (.tuple #[])) w') :
    Calls Tryz.prog 20 #[.pointer (some ⟨dp, 0, none⟩), .slice ks.1 ks.2.1 ks.2.2] w R := by
  have hdl := I.n
  refine C_q5y ?_
  unfold T_q5y
  refine DNames_spec I h fun w4 o hol h4 => ⟨_, _, _, rfl, ?_⟩
  have hnl : (namesOf d).length = d.l.length := by unfold namesOf; rw [List.length_map]
  unfold T_q3k
  intro X hX
  refine up_to d.l.length (Q := fun j => ∀ (w : World) (G : Fz), Fz.le F G → Dk.Inv ⟨d.room, Dk.mid keep d.l j⟩ → St E (diskA G c dp ⟨d.room, Dk.mid keep d.l j⟩ :: kn G :: ownS o.1 o.2.1 o.2.2 9 1 ((namesOf d).flatMap celS) :: L) w → X (j : Int) w) ?_ w4 F (Fz.le_refl F) (by rw [Dk.mid_zero]; exact I) (by rw [Dk.mid_zero]; exact h4.sel 3 [1, 2, 0] (by simp))
  intro j hj ih w G hG Ij h
  refine hX _ _ ?_
  unfold T_q5y_1_body
  rw [hol]
  refine ite_d (fun hh => ?_) fun hh => ?_
  · have hjl : j < d.l.length := by omega
    have hjn : j < (namesOf d).length := by omega
    obtain ⟨ad, hae, hrd⟩ := one_at (f := encN) (fun _ => rfl) (hol ▸ h.f2.rdS_own :) hjn
    refine ⟨by omega, by omega, ad, hae, _, hrd, ?_⟩
    have hname : (namesOf d)[j] = d.l[j].name := List.getElem_map (l := d.l) (fun f : Dk.Fl => f.name)
    rw [hname]
    refine crash_2 (hr.mono hG) hkl (by simp) h ?_
    have ihj := ih hjl
    have Ij1 := Dk.mid_inv hjl Ij
    have hfd := Dk.mid_find hjl Ij
    have hdel := fun hx => Dk.mid_del hjl Ij hx
    have hput := fun g hx => Dk.mid_put (g := g) hjl Ij hx
    have hkk : Dk.keepAt keep j ≤ 9223372036854775807 := by
      unfold Dk.keepAt
      cases hg : keep[j]? with
      | none => exact Nat.zero_le _
      | some x =>
        have := hk64 x (List.mem_of_getElem? hg)
        show x.toNat ≤ _
        omega
    generalize Dk.keepAt keep j = kk at *
    generalize Dk.mid keep d.l (j + 1) = dj1 at *
    generalize hdjE : Dk.mid keep d.l j = dj at *
    generalize d.l[j] = fl at *
    clear ih hX hrd
    obtain ⟨bm, m, fs, ok, h5⟩ := h.dk_open
    refine ⟨_, rfl, _, rd_fld h5.at_blk rfl rfl, ?_⟩
    have hlk := lookup_run (P := Tryz.prog) (t := 85) (et := 99) nameLaw (by kernel_rfl) (z := .pointer none) (by kernel_rfl) h5.f1 fl.name
    cases hg : mget m fl.name with
    | none =>
      exfalso
      have := (dk_gone ok hg).1
      have hfd : Dk.find dj fl.name = some fl := hfd
      have this : Dk.find dj fl.name = none := this
      rw [hfd] at this; cases this
    | some p =>
      obtain ⟨x, l1, l2, hf, hx1, hx2, hfx⟩ := dk_there ok Ij hg
      subst hf
      have hxf : x.fl = fl := by
        have h1 : Dk.find dj fl.name = some x.fl := hfx
        have h2 : Dk.find dj fl.name = some fl := hfd
        rw [h2] at h1
        injection h1 with h1
        exact h1.symm
      subst hxf
      rw [hg] at hlk
      subst hx2
      refine runV_ok hlk ⟨_, rfl, ?_⟩
      have h6 := h5.file_out
      have hxo : x.ok G := ok.ok x (by simp)
      have hxm : x.fl ∈ dj := (Dk.find_some (show Dk.find dj x.fl.name = some x.fl from hfx)).1
      have hxu : Dk.okU x.sure x.units := Ij.u x.fl hxm
      have hfew := ok.few x (by simp)
      have h7 : St E (blkL x.p 104 (fileV x.nw x.sr x.lasts x.ch) :: chA x.ch x.cs :: kn G :: (blkL dp 87 (diskV ⟨d.room, dj⟩ bm) :: mapA bm encN encF m :: (filesL (l1 ++ l2) ++ ownS o.1 (namesOf d).length o.2.2 9 1 ((namesOf d).flatMap celS) :: L))) w := by
        refine h6.perm (((List.Perm.refl _).cons _).cons _ |>.trans ?_)
        refine ((List.Perm.cons _ (List.Perm.cons _ ?_)))
        rw [hol]
        exact (List.perm_middle (l₁ := blkL dp 87 (diskV ⟨d.room, dj⟩ bm) :: mapA bm encN encF m :: filesL (l1 ++ l2)))
      refine after_spec hxo hxu hkk (by omega) h7 fun G2 w30 o2 hG2 hs2 h30 => ⟨_, _, _, _, rfl, ?_⟩
      unfold T_q3m
      refine ⟨_, rfl, _, rd_fld h30.at_blk rfl rfl, ?_⟩
      have hml : (Dk.made x.sure (x.units.take kk)).length ≤ 262144 := (Dk.okU_len (Dk.okU_take kk hxu)).2
      have hGG := Fz.le_trans hG hG2
      have gone : Dk.crashF kk x.fl = none → ∀ (m43 : Option Nat), m43 = some bm → ∃ w45, (Builtin.delete_ #[85, 9] 0 #[.map m43, .string (bs x.name)]).run Tryz.prog w30 = .ok (.tuple #[]) w45 ∧ X ((j + 1 : Nat) : Int) w45 := by
        rintro hcr _ rfl
        have h31 : St E (mapA bm encN encF m :: (blkL dp 87 (diskV ⟨d.room, dj⟩ bm) :: kn G2 :: (filesL (l1 ++ l2) ++ ownS o.1 (namesOf d).length o.2.2 9 1 ((namesOf d).flatMap celS) :: L))) w30 := h30.sel 5 [4, 3, 2] (by simp)
        obtain ⟨w45, hrun, h45⟩ := delete_D h31 x.name
        refine ⟨w45, hrun, ihj w45 G2 hGG Ij1 ?_⟩
        have dkp := (dk_del (n := x.name) ok Ij d.room).mono hG2
        rw [but_mid (fs_nodup ok Ij)] at dkp
        have e : Dk.without dj x.name = dj1 := hdel hcr
        have dkp : dkOk G2 c ⟨d.room, dj1⟩ (mdel m x.name) (l1 ++ l2) := by rw [← e]; exact dkp
        rw [hol]
        refine St.dk_mk dkp (?_ : St E (blkL dp 87 (diskV ⟨d.room, dj1⟩ bm) :: mapA bm encN encF (mdel m x.name) :: (filesL (l1 ++ l2) ++ kn G2 :: ownS o.1 (namesOf d).length o.2.2 9 1 ((namesOf d).flatMap celS) :: L)) w45)
        have h46 : St E (blkL dp 87 (diskV ⟨d.room, dj1⟩ bm) :: mapA bm encN encF (mdel m x.name) :: kn G2 :: (filesL (l1 ++ l2) ++ ownS o.1 (namesOf d).length o.2.2 9 1 ((namesOf d).flatMap celS) :: L)) w45 := h45.sel 3 [1, 0, 2] (by simp)
        exact h46.perm (((List.perm_middle (l₁ := filesL (l1 ++ l2))).symm.cons _).cons _)
      have stay : Dk.crashF kk x.fl = some ⟨x.name, true, Dk.made x.sure (x.units.take kk), []⟩ → Calls Tryz.prog 67 #[.slice o2.1 o2.2.1 o2.2.2] w30 (ret (fun r46 w47 => ∃ s48a : Option Addr, ∃ s48l : Nat, ∃ s48c : Nat, r46 = .slice s48a s48l s48c ∧ ∃ a49, (some ⟨x.p, 0, none⟩ : Option Addr) = some a49 ∧ (.slice o2.1 o2.2.1 o2.2.2 : Value).cells.size = 1 ∧ wrOk w47 a49 (.slice o2.1 o2.2.1 o2.2.2) ∧ let w50 : World := wr w47 a49 (.slice o2.1 o2.2.1 o2.2.2)
          ∃ a51, (some ⟨x.p, 0, none⟩ : Option Addr) = some a51 ∧ (.slice s48a s48l s48c : Value).cells.size = 1 ∧ wrOk w50 (a51.add 1) (.slice s48a s48l s48c) ∧ let w52 : World := wr w50 (a51.add 1) (.slice s48a s48l s48c)
          ∃ a53, (some ⟨x.p, 0, none⟩ : Option Addr) = some a53 ∧ (.bool true : Value).cells.size = 1 ∧ wrOk w52 (a53.add 2) (.bool true) ∧ let w54 : World := wr w52 (a53.add 2) (.bool true)
          ∃ a55, (some ⟨x.p, 0, none⟩ : Option Addr) = some a55 ∧ (.slice none 0 0 : Value).cells.size = 1 ∧ wrOk w54 (a55.add 3) (.slice none 0 0) ∧ let w56 : World := wr w54 (a55.add 3) (.slice none 0 0)
          X (IntKind.wrap .i64 ((j : Int) + 1)) w56) (pan R)) := fun hcr => by
        refine Clone_spec (s := o2) (ys := Dk.made x.sure (x.units.take kk)) (fun A => hs2.sees' (by simp) A) (by unfold big; omega) h30 fun w47 s48 h47 => ⟨_, _, _, rfl, _, rfl, rfl, ?_⟩
        have h48 : St E (blkL x.p 104 (fileV x.nw x.sr x.lasts x.ch) :: byA s48 (Dk.made x.sure (x.units.take kk)) :: kn G2 :: (blkL dp 87 (diskV ⟨d.room, dj⟩ bm) :: mapA bm encN encF m :: (filesL (l1 ++ l2) ++ ownS o.1 (namesOf d).length o.2.2 9 1 ((namesOf d).flatMap celS) :: L))) w47 := h47.sel 4 [1, 0, 3] (by simp)
        refine ⟨wrOk_cell (off := 0) h48.at_blk (by show 0 < 4; decide) rfl, ?_⟩
        intro w50
        have h50 : St E (blkL x.p 104 (fileV o2 x.sr x.lasts x.ch) :: byA s48 (Dk.made x.sure (x.units.take kk)) :: kn G2 :: (blkL dp 87 (diskV ⟨d.room, dj⟩ bm) :: mapA bm encN encF m :: (filesL (l1 ++ l2) ++ ownS o.1 (namesOf d).length o.2.2 9 1 ((namesOf d).flatMap celS) :: L))) w50 := h48.wr_cell (off := 0) rfl
        clear_value w50
        refine ⟨_, rfl, rfl, wrOk_fld (k := 1) h50.at_blk (by show 1 < 4; decide) rfl, ?_⟩
        intro w52
        have h52 : St E (blkL x.p 104 (fileV o2 s48 x.lasts x.ch) :: byA s48 (Dk.made x.sure (x.units.take kk)) :: kn G2 :: (blkL dp 87 (diskV ⟨d.room, dj⟩ bm) :: mapA bm encN encF m :: (filesL (l1 ++ l2) ++ ownS o.1 (namesOf d).length o.2.2 9 1 ((namesOf d).flatMap celS) :: L))) w52 := h50.wr_fld (k := 1) rfl
        clear_value w52
        refine ⟨_, rfl, rfl, wrOk_fld (k := 2) h52.at_blk (by show 2 < 4; decide) rfl, ?_⟩
        intro w54
        have h54 : St E (blkL x.p 104 (fileV o2 s48 true x.ch) :: byA s48 (Dk.made x.sure (x.units.take kk)) :: kn G2 :: (blkL dp 87 (diskV ⟨d.room, dj⟩ bm) :: mapA bm encN encF m :: (filesL (l1 ++ l2) ++ ownS o.1 (namesOf d).length o.2.2 9 1 ((namesOf d).flatMap celS) :: L))) w54 := h52.wr_fld (k := 2) rfl
        clear_value w54
        refine ⟨_, rfl, rfl, wrOk_fld (k := 3) h54.at_blk (by show 3 < 4; decide) rfl, ?_⟩
        intro w56
        have h56 : St E (blkL x.p 104 (fileV o2 s48 true nilS) :: byA s48 (Dk.made x.sure (x.units.take kk)) :: kn G2 :: (blkL dp 87 (diskV ⟨d.room, dj⟩ bm) :: mapA bm encN encF m :: (filesL (l1 ++ l2) ++ ownS o.1 (namesOf d).length o.2.2 9 1 ((namesOf d).flatMap celS) :: L))) w56 := h54.wr_fld (k := 3) rfl
        clear_value w56
        have h57 : St E (byA s48 (Dk.made x.sure (x.units.take kk)) :: kn G2 :: blkL x.p 104 (fileV o2 s48 true nilS) :: (blkL dp 87 (diskV ⟨d.room, dj⟩ bm) :: mapA bm encN encF m :: (filesL (l1 ++ l2) ++ ownS o.1 (namesOf d).length o.2.2 9 1 ((namesOf d).flatMap celS) :: L))) w56 := h56.sel 3 [1, 2, 0] (by simp)
        obtain ⟨G3, hG3, h58, hs48⟩ := St.srcB2 h57 (by omega)
        let y : FR := { x with nw := o2, sr := s48, sure := Dk.made x.sure (x.units.take kk), lasts := true, ch := nilS, cs := [] }
        have hy : y.ok G3 := ⟨hs2.mono hG3, hs48, fun t ht => by cases ht⟩
        have hyf : y.fl = ⟨x.name, true, Dk.made x.sure (x.units.take kk), []⟩ := rfl
        have h59 : St E (chA nilS [] :: kn G3 :: blkL x.p 104 (fileV o2 s48 true nilS) :: (blkL dp 87 (diskV ⟨d.room, dj⟩ bm) :: mapA bm encN encF m :: (filesL (l1 ++ l2) ++ ownS o.1 (namesOf d).length o.2.2 9 1 ((namesOf d).flatMap celS) :: L))) w56 := h58.ownS_nil
        have p4 : St E (blkL y.p 104 (fileV y.nw y.sr y.lasts y.ch) :: ownS y.ch.1 y.ch.2.1 y.ch.2.2 114 4 (y.cs.flatMap chV) :: blkL dp 87 (diskV ⟨d.room, dj⟩ bm) :: mapA bm encN encF m :: (filesL ([] ++ (l1 ++ l2)) ++ kn G3 :: ownS o.1 (namesOf d).length o.2.2 9 1 ((namesOf d).flatMap celS) :: L)) w56 := by
          have h : St E (blkL x.p 104 (fileV o2 s48 true nilS) :: chA nilS [] :: blkL dp 87 (diskV ⟨d.room, dj⟩ bm) :: mapA bm encN encF m :: kn G3 :: (filesL (l1 ++ l2) ++ ownS o.1 (namesOf d).length o.2.2 9 1 ((namesOf d).flatMap celS) :: L)) w56 := h59.sel 5 [2, 0, 3, 4, 1] (by simp)
          exact h.perm (((((List.perm_middle (l₁ := filesL (l1 ++ l2))).symm.cons _).cons _).cons _).cons _)
        have p6 : St E (blkL dp 87 (diskV ⟨d.room, dj⟩ bm) :: mapA bm encN encF m :: (filesL (Cm.put lt7 (l1 ++ x :: l2) y) ++ kn G3 :: ownS o.1 (namesOf d).length o.2.2 9 1 ((namesOf d).flatMap celS) :: L)) w56 := St.files_perm p4.file_in (by
          have := fput_perm (fs := l1 ++ x :: l2) y
          rw [show but (l1 ++ x :: l2) y.name = l1 ++ l2 from but_mid (fs_nodup ok Ij)] at this
          exact this.symm)
        have dkp := dk_set ok Ij hy rfl rfl (Fz.le_trans hG2 hG3) d.room (c2 := c) (Nat.zero_le _) (Nat.le_refl c)
        have e : Dk.putF dj y.fl = dj1 := by rw [hyf]; exact hput _ hcr
        have dkp : dkOk G3 c ⟨d.room, dj1⟩ m (Cm.put lt7 (l1 ++ x :: l2) y) := by rw [← e]; exact dkp
        rw [succ_big (by unfold big; omega)]
        refine ihj w56 G3 (Fz.le_trans hGG hG3) Ij1 ?_
        rw [hol]
        exact St.dk_mk dkp p6
      have hcrash : Dk.crashF kk x.fl = if x.lasts = false ∧ (kk = 0 ∨ x.units = []) then none else some ⟨x.name, true, Dk.made x.sure (x.units.take kk), []⟩ := rfl
      rw [hcrash] at gone stay
      have hun : (min kk x.units.length = 0) ↔ (kk = 0 ∨ x.units = []) := by
        constructor
        · intro hz
          rcases Nat.eq_zero_or_pos kk with h0 | h0
          · exact .inl h0
          · exact .inr (List.eq_nil_of_length_eq_zero (by omega))
        · rintro (hz | hz)
          · omega
          · rw [hz]; simp
      refine ite_b (fun hl => ?_) fun hl => ?_
      · have hl : x.lasts = false := by simpa using hl
        by_cases hz : min kk x.units.length = 0
        · have hb : (((min kk x.units.length : Nat) : Int) == 0) = true := by rw [hz]; rfl
          rw [hb]
          refine ite_b (fun _ => ?_) fun hh => by cases hh
          obtain ⟨w45, hrun, hx⟩ := gone (if_pos ⟨hl, hun.1 hz⟩) _ rfl
          refine ⟨_, rfl, _, rd_fld h30.f3.at_blk rfl rfl, runV_ok hrun ?_⟩
          rw [succ_big (by unfold big; omega)]
          exact hx
        · have hb : (((min kk x.units.length : Nat) : Int) == 0) = false := by rw [beq_eq_false_iff_ne]; omega
          rw [hb]
          exact ite_b (fun hh => by cases hh) fun _ => stay (if_neg (fun hh => hz (hun.2 hh.2)))
      · have hl : x.lasts = true := by simpa using hl
        exact ite_b (fun hh => by cases hh) fun _ => stay (if_neg (fun hh => by rw [hl] at hh; cases hh.1))
  · have : j = d.l.length := by omega
    subst this
    rw [Dk.mid_all] at h
    exact k G w hG (h.sel 3 [0, 1] (by simp))
end
end Go.Vc
namespace Go.Vc
open Go Go.Proofs Go.Proofs.YtclinifclfahfaaGreat
set_option maxRecDepth 100000
section
variable {E w : World} {L : List Asrt} {R : RT} {F G : Fz} {q s o l : Sl} {b n : Cm.Bs} {x f : RF} {rfs rfs2 out : List RF} {c rp : Nat} {d : Dk.Ds}
set_option maxHeartbeats 2000000 in
theorem RDWrite_spec {at_ : Nat} (I : Dk.Inv d) (hs : Src F q b) (hb : b.length ≤ 262144) (ha : at_ ≤ 262144) (hc : c ≤ 380) (hnl : n.length ≤ huge) (h : St E (rdkA F c rp d :: kn F :: L) w)
    (k : ∀ (G : Fz) (w' : World), Fz.le F G → St E (rdkA G (c + 1) rp (Dk.write d n (at_ : Int) b).1 :: kn G :: L) w' → R (.returned (.int .i64 (Dk.write d n (at_ : Int) b).2)) w') :
    Calls Tryz.prog 23 #[.pointer (some ⟨rp, 0, none⟩), .string (bs n), .int .i64 (at_ : Int), .slice q.1 q.2.1 q.2.2] w R := by
  have hql := hs.len
  have hU := used_le I
  obtain ⟨l, rfs, ok, h⟩ := h.rdk_open
  have hn16 := rl_n I ok
  have hdl : d.l.length = rfs.length := by rw [ok.dl, List.length_map]
  have less : ∀ {w' : World} {M : List Asrt} {e : Int}, Dk.write d n (at_ : Int) b = (d, e) → St E (blkL rp 90 (rdkV d.room l) :: kn F :: L) w' → R (.returned (.int .i64 e)) w' := fun {w' M e} he h => by
    rw [he] at k
    exact k F w' (Fz.le_refl F) ((St.rdk_mk ok h).rdk_c (Nat.le_succ c))
  refine C_q5g ?_
  unfold T_q5g
  refine ite_b (fun hh => by simp at hh) fun _ => ?_
  refine RNamed_spec hnl ⟨_, rfl, ite_b (fun hnb => ?_) fun hnb => ?_⟩
  · have hnb : Dk.named n = false := by simpa using hnb
    exact less (M := []) (by unfold Dk.write; rw [if_pos hnb]) h
  have hnb : Dk.named n = true := by simpa using hnb
  refine RFind_spec ok (by omega) (by simp) h fun i hi => ⟨_, rfl, ?_⟩
  intro w11
  have h11 : St E (blkL w.heap.size 108 [.string ⟨#[]⟩, .bool false, .slice none 0 0, .slice none 0 0] :: blkL rp 90 (rdkV d.room l) :: kn F :: L) w11 := h.alloc (.cells ⟨[.string ⟨#[]⟩, .bool false, .slice none 0 0, .slice none 0 0]⟩ 108)
  clear_value w11
  generalize w.heap.size = bf at *
  refine ⟨rfl, wrOk_agg (off := 0) (xs := rfL (freshR n)) h11.at_blk (by show 4 ≤ 4; decide) (fun u hu => rfL_one [freshR n] u (by simpa using hu)), ?_⟩
  intro w12
  have h12 : St E (blkL bf 108 (rfL (freshR n)) :: blkL rp 90 (rdkV d.room l) :: kn F :: L) w12 := h11.wr_agg0 (xs := rfL (freshR n)) rfl
  clear_value w12
  refine rwr_1 ok hn16 hi (by simp) h12 fun w25 x hxn hx hxf hfx hxm hneg h25 => ?_
  have hu : Dk.okU x.sure (x.ws.map unP) := by
    rcases hxm with hxm | rfl
    · exact I.u x.fl hxm
    · exact Nat.zero_le _
  have hnowl : (Dk.now x.fl).length ≤ 262144 := (Dk.okU_len hu).2
  have hW : Dk.write d n (at_ : Int) b = (if (at_ : Int) < 0 ∨ ((Dk.now x.fl).length : Int) < (at_ : Int) then (d, 2)
      else if (Dk.find d.l n = none ∧ 16 ≤ d.l.length) ∨ (262144 : Int) < max ((Dk.now x.fl).length : Int) ((at_ : Int) + b.length) then (d, 6)
      else if d.room < (Dk.used d : Int) - (Dk.now x.fl).length + max ((Dk.now x.fl).length : Int) ((at_ : Int) + b.length) then (d, 9)
      else ({ d with l := Dk.putF d.l { x.fl with units := x.fl.units ++ Dk.wrs (at_ : Int).toNat b } }, 0)) := by
    unfold Dk.write
    rw [if_neg (by rw [hnb]; decide)]
    simp only [hfx]
  refine ⟨_, _, _, _, _, _, _, _, rd_rf h25, ?_⟩
  refine RNow_spec (x := x) hx hu (by simp) h25 fun w31 o h31 => ?_
  refine ⟨_, _, _, rfl, ?_⟩
  have hol := h31.by_len2
  rw [← hol]
  have h32 : St E (blkL bf 108 (rfL x) :: blkL rp 90 (rdkV d.room l) :: kn F :: L) w31 := h31.drop
  generalize hns : (Dk.now x.fl).length = ns at *
  refine rwr_2 (ite_d (fun hc1 => ?_) fun hc1 => ?_)
  · exact less (M := []) (by rw [hW, if_pos hc1]) h32.drop
  rw [if_neg hc1] at hW
  refine rwr_3 (by omega) ?_
  have hmax : max (ns : Int) ((at_ : Int) + b.length) = ((max ns (at_ + q.2.1) : Nat) : Int) := by omega
  rw [hmax] at hW
  generalize hen0 : max ns (at_ + q.2.1) = en at *
  refine rwr_4 ok.ll h32.f1 (ite_d (fun hc2 => ?_) fun hc2 => ?_)
  · exact less (M := []) (by rw [hW, if_pos (by rcases hc2 with ⟨h1, h2⟩ | h2; exact .inl ⟨hneg.1 h1, by omega⟩; exact .inr h2)]) h32.drop
  rw [if_neg (by rintro (⟨h1, h2⟩ | h2); exact hc2 (.inl ⟨hneg.2 h1, by omega⟩); exact hc2 (.inr h2))] at hW
  intro w59
  have h59 : St E (blkL rp 90 (rdkV d.room l) :: blkL bf 108 (rfL x) :: kn F :: L) w59 := (h32.f1).drew
  clear_value w59
  refine ⟨_, rfl, _, rd_cell h59.at_blk rfl rfl, ?_⟩
  refine RUsed_spec I ok (by simp) h59 fun w63 h63 => ⟨_, rfl, ⟨rd_cell h63.at_blk rfl rfl, trivial⟩, ?_⟩
  have hen : en ≤ 262144 := by
    have h2 : ¬ (262144 : Int) < (en : Int) := fun h2 => hc2 (.inr h2)
    omega
  have ew : IntKind.wrap .i64 ((IntKind.wrap .i64 (((Dk.used d : Nat) : Int) - (ns : Int)) : Int) + (en : Int)) = (Dk.used d : Int) - (ns : Int) + (en : Int) := by
    rw [wrap_id (x := ((Dk.used d : Nat) : Int) - (ns : Int)) (by omega) (by omega), wrap_id (by omega) (by omega)]
  rw [ew]
  refine ite_d (fun hc3 => ?_) fun hc3 => ?_
  · exact less (M := []) (by rw [hW, if_pos (by omega)]) (h63.sel 3 [0, 2] (by simp))
  rw [if_neg (by omega)] at hW
  intro w65
  have h65 : St E (uA (some ⟨w63.heap.size, 0, none⟩, 0, 0) [] :: blkL rp 90 (rdkV d.room l) :: blkL bf 108 (rfL x) :: kn F :: L) w65 :=
    (St.ownS_mk (xs := ([] : List (Nat × UInt8)).flatMap unV) (rest := []) (l := 0) (c := 0) (sz := 3) (h63.alloc _) rfl (Nat.le_refl _) (by decide) rfl :)
  clear_value w65
  generalize w63.heap.size = b0 at *
  refine ⟨_, _, _, rd_fld h65.f2.at_blk rfl rfl, ?_⟩
  have hfew := hx.few
  obtain ⟨us, w68, hr, h68⟩ := app_us (c2 := x.us.2.2) h65 (hx.us.at h65 (by simp)) (by simp; omega)
  rw [List.nil_append] at h68
  refine runV_ok hr ⟨_, _, _, rfl, ?_⟩
  have hcw : x.ws.length + b.length ≤ 100000000 := by
    have h1 := Nat.mul_le_mul_right 262144 hc
    exact Nat.le_trans (Nat.add_le_add (Nat.le_trans hxf h1) hb) (Nat.le_of_ble_eq_true rfl)
  refine rwr_5 (at_ := at_) hs (by simp) hb ha (by omega) h68 fun w85 us2 h85 => ?_
  have hucnt := h85.u_count
  have h86 : St E (blkL bf 108 (rfL x) :: uA us2 (x.ws ++ wrsP at_ b) :: blkL rp 90 (rdkV d.room l) :: kn F :: L) w85 := h85.sel 4 [2, 0, 1, 3] (by simp)
  refine ⟨rfl, wrOk_fld (k := 3) h86.at_blk (by show 3 < 4; decide) rfl, ?_⟩
  intro w86 w87
  have h87 : St E (blkL bf 108 (rfL { x with us := us2, ws := x.ws ++ wrsP at_ b }) :: uA us2 (x.ws ++ wrsP at_ b) :: blkL rp 90 (rdkV d.room l) :: kn F :: L) w87 := (h86.wr_fld (k := 3) rfl).drew
  clear_value w87
  have h88 : St E (uA us2 (x.ws ++ wrsP at_ b) :: kn F :: blkL bf 108 (rfL { x with us := us2, ws := x.ws ++ wrsP at_ b }) :: blkL rp 90 (rdkV d.room l) :: L) w87 := h87.sel 4 [1, 3, 0, 2] (by simp)
  obtain ⟨G, hG, h89, hus⟩ := St.freezeS h88
  have okG := ok.mono hG
  refine ⟨_, rfl, _, _, _, rd_fld h89.f2.at_blk rfl rfl, _, _, _, _, _, _, _, _, rd_rf h89.f1, ?_⟩
  have h90 : St E (blkL rp 90 (rdkV d.room l) :: kn G :: L) w87 := h89.sel 3 [2, 0] (by simp)
  have hq := fun (R : RT) => @RPut_spec E w87 _ R G l { x with us := us2, ws := x.ws ++ wrsP at_ b } rfs okG.rd okG.ll (rl_pair I okG) (by omega) (by simp) h90
  refine hq _ fun w95 o2 h95 => ⟨_, _, _, rfl, trivial, _, rfl, rfl, ?_⟩
  have hxG := hx.mono hG
  have hlen2 : (x.ws ++ wrsP at_ b).length = x.ws.length + b.length := by rw [List.length_append, wrsP_len]
  have hxn' : RF.ok G { x with us := us2, ws := x.ws ++ wrsP at_ b } := ⟨hxG.sure, hus, hucnt, by show (x.ws ++ wrsP at_ b).length ≤ _; omega⟩
  have hfl : RF.fl { x with us := us2, ws := x.ws ++ wrsP at_ b } = { x.fl with units := x.fl.units ++ Dk.wrs (at_ : Int).toNat b } := by
    unfold RF.fl
    simp only [List.map_append, wrsP_un, Int.toNat_natCast]
  rw [hW] at k
  obtain ⟨g1, G2, hG2, g2⟩ := rdk_put (d2 := { d with l := Dk.putF d.l { x.fl with units := x.fl.units ++ Dk.wrs (at_ : Int).toNat b } }) (c2 := c + 1) rfl (by rw [← hfl]; exact put_fl okG { x with us := us2, ws := x.ws ++ wrsP at_ b })
    (fun y hy => by rcases putR_mem hy with rfl | hy; exact hxn'; exact okG.ok y hy) (fun y hy => by
      rcases putR_mem hy with rfl | hy
      · show (x.ws ++ wrsP at_ b).length ≤ _
        rw [hlen2]
        exact Nat.le_trans (Nat.add_le_add hxf hb) (Nat.le_of_eq (by rw [Nat.add_mul, Nat.one_mul]))
      · exact Nat.le_trans (okG.few y hy) (Nat.mul_le_mul_right _ (Nat.le_succ c))) h95
  refine ⟨g1, ?_⟩
  intro w98
  exact ⟨trivial, k G2 w98 (Fz.le_trans hG hG2) g2⟩
theorem rcr_23 {keep : List Int} {ks : Sl} {i : Nat} {K : Int → World → Prop} {Kp : XT} (hr : RdF F ks.1 ks.2.1 1 (intV keep)) (hkl : keep.length = ks.2.1) (hm : kn F ∈ L) (h : St E L w) (k : K ((Dk.keepAt keep i : Nat) : Int) w) :
    T_q34 ks.1 ks.2.1 ks.2.2 (i : Int) w (fun b17 w18 => T_q35 ks.1 ks.2.1 ks.2.2 (i : Int) 0 b17 w18 K Kp) Kp := by
  unfold T_q34 T_q35
  have e0 : ∀ i, keep.length ≤ i → Dk.keepAt keep i = 0 := fun i hi => by
    unfold Dk.keepAt
    rw [List.getElem?_eq_none hi]
    rfl
  refine ite_d (fun hh => ?_) fun hh => ?_
  · have hi : i < keep.length := by omega
    obtain ⟨ad, hae, hrd⟩ := one_at (f := fun x : Int => Value.int .i64 x) (qs := keep) (fun _ => rfl) (by rw [← List.map_eq_flatMap]; exact hr.at h hm) hi
    have e : ((Dk.keepAt keep i : Nat) : Int) = max 0 keep[i] := by
      unfold Dk.keepAt
      rw [List.getElem?_eq_getElem hi]
      show ((keep[i].toNat : Nat) : Int) = _
      omega
    refine ⟨by omega, by omega, ad, hae, _, hrd, ite_d (fun hp => ⟨by omega, by omega, ad, hae, _, hrd, ?_⟩) fun hp => ?_⟩
    · rw [show keep[i] = max 0 keep[i] by omega, ← e]; exact k
    · rw [show (0 : Int) = max 0 keep[i] by omega, ← e]; exact k
  · rw [e0 i (by omega)] at k
    exact ite_b (fun hh => by cases hh) fun _ => k
theorem rcr_4 {bf kk : Nat} {K : Bool → World → Prop} {Kp : XT} (hul : x.ws.length = x.us.2.1) (h : St E (blkL bf 108 (rfL x) :: L) w) (k : K (decide (x.lasts = false ∧ (kk = 0 ∨ x.ws = []))) w) : T_q36 (kk : Int) ⟨bf, 0, none⟩ w K Kp := by
  unfold T_q36
  refine ⟨_, rd_fld h.at_blk rfl rfl, ite_b (fun hl => ?_) fun hl => ?_⟩
  · have hl : x.lasts = false := by simpa using hl
    refine ite_b (fun hk => ?_) fun hk => ⟨_, _, _, rd_fld h.at_blk rfl rfl, ?_⟩
    · have hk : kk = 0 := by have : (kk : Int) = 0 := by simpa using hk
                             omega
      rw [decide_eq_true ⟨hl, .inl hk⟩] at k
      exact k
    · have hk : kk ≠ 0 := by have : ¬ ((kk : Int) = 0) := by simpa using hk
                             omega
      rw [← hul]
      by_cases hw : x.ws = []
      · rw [decide_eq_true ⟨hl, .inr hw⟩] at k
        rw [hw]; exact k
      · rw [decide_eq_false (by rintro ⟨_, h1 | h1⟩; exact hk h1; exact hw h1)] at k
        have hp : 0 < x.ws.length := List.length_pos_iff.2 hw
        have : (((x.ws.length : Nat) : Int) == 0) = false := by rw [beq_eq_false_iff_ne]; omega
        rw [this]; exact k
  · have hl : x.lasts = true := by simpa using hl
    rw [decide_eq_false (by rintro ⟨h1, _⟩; rw [hl] at h1; cases h1)] at k
    exact k
set_option maxHeartbeats 2000000 in
theorem RDCrash_spec {keep : List Int} {ks : Sl} (I : Dk.Inv d) (hr : RdF F ks.1 ks.2.1 1 (intV keep)) (hkl : keep.length = ks.2.1) (h : St E (rdkA F c rp d :: kn F :: L) w)
    (k : ∀ (G : Fz) (w' : World), Fz.le F G → St E (rdkA G c rp (Dk.crash d keep) :: kn G :: L) w' → R (.returned (.tuple #[])) w') : Calls Tryz.prog 21 #[.pointer (some ⟨rp, 0, none⟩), .slice ks.1 ks.2.1 ks.2.2] w R := by
  obtain ⟨l, rfs, ok, h⟩ := h.rdk_open
  have hn16 := rl_n I ok
  refine C_q5e ?_
  unfold T_q5e
  refine ite_b (fun hh => by simp at hh) fun _ => ?_
  intro w3
  have h3 : St E (rfA (some ⟨w.heap.size, 0, none⟩, 0, 0) [] :: blkL rp 90 (rdkV d.room l) :: kn F :: L) w3 := h.rf_new
  clear_value w3
  generalize w.heap.size = b0 at *
  unfold T_q33
  intro X hX
  refine up_to rfs.length (Q := fun j => ∀ (w : World) (G : Fz) (o : Sl) (out : List RF), Fz.le F G → out.length ≤ j → out.map RF.fl = Dk.crashL keep 0 ((rfs.take j).map RF.fl) → (∀ x ∈ out, x.ok G ∧ x.ws = []) → St E (rfA o out :: blkL rp 90 (rdkV d.room l) :: kn G :: L) w → X o.1 o.2.1 o.2.2 (j : Int) w) ?_ w3 F (some ⟨b0, 0, none⟩, 0, 0) [] (Fz.le_refl F) (Nat.zero_le _) rfl (fun _ h => (nomatch h)) h3
  intro j hj ih w G o out hG hol hout hoo h
  refine hX _ _ _ _ _ ?_
  unfold T_q5e_1_body
  have hll := ok.ll
  refine ⟨_, rfl, _, _, _, rd_fld h.f1.at_blk rfl rfl, ?_⟩
  refine ite_d (fun hh => ?_) fun hh => ?_
  · have hjl : j < rfs.length := by omega
    refine rcr_23 (hr.mono hG) hkl (by simp) h ?_
    have ihj := ih hjl
    rw [List.take_succ_eq_append_getElem hjl, List.map_append, List.map_cons, List.map_nil, Dk.crashL_snoc] at ihj
    rw [List.length_map, List.length_take, Nat.min_eq_left (Nat.le_of_lt hjl), Nat.zero_add, ← hout] at ihj
    obtain ⟨ad, hae, hrd1, _⟩ := ((ok.rd.mono hG).at h (by simp)).elem (f := rfL) rfL_len (List.getElem?_eq_getElem hjl) (by decide)
    have hx := (ok.ok rfs[j] (List.getElem_mem hjl)).mono hG
    have hu := I.u rfs[j].fl (by rw [ok.dl]; exact List.mem_map_of_mem (List.getElem_mem hjl))
    refine ⟨_, rfl, _, _, _, rd_fld h.f1.at_blk rfl rfl, by omega, by omega, ad, hae, _, _, _, _, _, _, _, _, hrd1, ?_⟩
    generalize Dk.keepAt keep j = kk at *
    generalize rfs[j] = x at *
    intro w37
    have h37 : St E (blkL w.heap.size 108 [.string ⟨#[]⟩, .bool false, .slice none 0 0, .slice none 0 0] :: rfA o out :: blkL rp 90 (rdkV d.room l) :: kn G :: L) w37 := h.alloc (.cells ⟨[.string ⟨#[]⟩, .bool false, .slice none 0 0, .slice none 0 0]⟩ 108)
    clear_value w37
    generalize w.heap.size = bf at *
    refine ⟨rfl, wrOk_agg (off := 0) (xs := rfL x) h37.at_blk (by show 4 ≤ 4; decide) (fun u hu => rfL_one [x] u (by simpa using hu)), ?_⟩
    intro w38
    have h38 : St E (blkL bf 108 (rfL x) :: rfA o out :: blkL rp 90 (rdkV d.room l) :: kn G :: L) w38 := h37.wr_agg0 (xs := rfL x) rfl
    clear_value w38
    have hem : (x.ws.map unP = []) ↔ x.ws = [] := List.map_eq_nil_iff
    have hcf1 : (x.lasts = false ∧ (kk = 0 ∨ x.ws = [])) → Dk.crashF kk x.fl = none := fun hc => if_pos ⟨hc.1, hc.2.imp id hem.2⟩
    have hcf2 : ¬ (x.lasts = false ∧ (kk = 0 ∨ x.ws = [])) → Dk.crashF kk x.fl = some ⟨x.name, true, Dk.made x.sure ((x.ws.map unP).take kk), []⟩ := fun hc => if_neg fun h => hc ⟨h.1, h.2.imp id hem.1⟩
    rw [succ_big (by unfold big; omega)]
    refine rcr_4 hx.ul h38 (ite_d (fun hc => ?_) fun hc => ?_)
    · rw [hcf1 hc] at ihj
      exact ihj w38 G o out hG (by omega) (by simp) hoo (h38.sel 4 [1, 2, 3] (by simp))
    · rw [hcf2 hc] at ihj
      intro w48
      have h48 : St E (blkL bf 108 (rfL x) :: rfA o out :: blkL rp 90 (rdkV d.room l) :: kn G :: L) w48 := h38.drew
      clear_value w48
      have hml : (Dk.made x.sure ((x.ws.map unP).take kk)).length ≤ 262144 := (Dk.okU_len (Dk.okU_take kk hu)).2
      refine ⟨_, rd_cell h48.at_blk rfl rfl, _, _, _, _, _, _, _, _, rd_rf h48, ?_⟩
      have hq := fun (R : RT) => @RMade_spec E w48 _ R G x kk hx hu (by simp) h48
      refine hq _ fun w55 o3 h55 => ?_
      refine ⟨_, _, _, rfl, ⟨rd_cell h55.f1.at_blk rfl rfl, trivial⟩, ?_⟩
      have h56 : St E (byA o3 (Dk.made x.sure ((x.ws.map unP).take kk)) :: kn G :: rfA o out :: blkL rp 90 (rdkV d.room l) :: L) w55 := h55.sel 5 [0, 4, 2, 3] (by simp)
      obtain ⟨G2, hG2, h57, hs3⟩ := St.srcB2 h56 (by omega)
      have h58 : St E (rfA o out :: blkL rp 90 (rdkV d.room l) :: kn G2 :: L) w55 := h57.sel 3 [1, 2, 0] (by simp)
      intro w57
      obtain ⟨o4, w59, hr4, h59⟩ := app_rf h58 ⟨x.name, true, o3, Dk.made x.sure ((x.ws.map unP).take kk), nilS, []⟩ (by omega)
      refine ⟨trivial, runV_ok hr4 ⟨_, _, _, rfl, trivial, ?_⟩⟩
      refine ihj w59 G2 o4 _ (Fz.le_trans hG hG2) (by simp; omega) (by rw [List.map_append]; rfl) (fun y hy => ?_) h59
      rcases List.mem_append.1 hy with hy | hy
      · exact ⟨(hoo y hy).1.mono hG2, (hoo y hy).2⟩
      · rw [List.mem_singleton.1 hy]
        exact ⟨⟨hs3, RdF.nil _ _, rfl, Nat.zero_le _⟩, rfl⟩
  · have hj2 : j = rfs.length := by omega
    subst hj2
    rw [List.take_length, ← ok.dl] at hout
    obtain ⟨g1, G2, hG2, g2⟩ := rdk_put (d2 := Dk.crash d keep) (c2 := c) rfl hout.symm (fun y hy => (hoo y hy).1) (fun y hy => by rw [(hoo y hy).2]; exact Nat.zero_le _) h
    refine ⟨_, rfl, rfl, g1, ?_⟩
    intro w68
    exact k G2 w68 (Fz.le_trans hG hG2) g2
end
end Go.Vc
