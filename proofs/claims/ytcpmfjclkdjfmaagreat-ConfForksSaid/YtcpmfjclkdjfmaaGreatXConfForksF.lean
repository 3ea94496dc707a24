/-
  Texts of this claim's own, laid into one: Gh, ConfY, ConfZ, ConfAa, ConfX, Gi, ConfBb, ConfCk, GDoes.
-/
import Derived.Test.YtcpmfjclkdjfmaaGreatProg
import Derived.KernelRfl
import Derived.Test.YtcpmfjclkdjfmaaGreatXConfForksA
import Derived.Test.YtcpmfjclkdjfmaaGreatXConfForksB
import Derived.Test.YtcpmfjclkdjfmaaGreatXConfForksC
import Derived.Test.YtcpmfjclkdjfmaaGreatXConfForksD
import Derived.Test.YtcpmfjclkdjfmaaGreatXConfForksE
set_option linter.all false
/-
  What the functions' code comes to; printed by a program of this claim's own.
-/
namespace Go.Proofs.YtcpmfjclkdjfmaaGreat
open Go Go.Vc
set_option maxRecDepth 100000
set_option linter.unusedVariables false

/-! (*tollgate/tollgateref08.Store).Fork -/
def T_ref08_Store_Fork (s1 : Option Addr) (w : World) (R : Ending → World → Prop) : Prop :=
  if s1.isNone = true then (R (.returned (.pointer none)) w) else (let w2 : World := w.drew
  ∃ a3, s1 = some a3 ∧ ∃ x4 : Int, ∃ s5a : Option Addr, ∃ s5l : Nat, ∃ s5c : Nat, ∃ s6a : Option Addr, ∃ s6l : Nat, ∃ s6c : Nat, rd w2 a3 (.agg #[.int .i64 x4, .slice s5a s5l s5c, .slice s6a s6l s6c]) ∧ ∃ a7, s1 = some a7 ∧ ∃ s8a : Option Addr, ∃ s8l : Nat, ∃ s8c : Nat, rd w2 (a7.add 3) (.slice s8a s8l s8c) ∧ (Calls Tryz.prog 59 #[.agg #[.int .i64 x4, .slice s5a s5l s5c, .slice s6a s6l s6c]] w2 (ret (fun r9 w10 => ∃ x11 : Int, ∃ s12a : Option Addr, ∃ s12l : Nat, ∃ s12c : Nat, ∃ s13a : Option Addr, ∃ s13l : Nat, ∃ s13c : Nat, r9 = .agg #[.int .i64 x11, .slice s12a s12l s12c, .slice s13a s13l s13c] ∧ (rd w10 (a7.add 3) (.slice s8a s8l s8c) ∧ True) ∧ let w14 : World := w10.alloc (.cells #[] 113)
  (rd w14 (a7.add 3) (.slice s8a s8l s8c) ∧ True) ∧ runV Tryz.prog (Builtin.append_ #[106, 106] 106 #[.slice (some (⟨w10.heap.size, 0, none⟩ : Addr)) 0 0, .slice s8a s8l s8c]) w14 (fun r15 w16 => ∃ s17a : Option Addr, ∃ s17l : Nat, ∃ s17c : Nat, r15 = .slice s17a s17l s17c ∧ (True) ∧ let w18 : World := w16.alloc (.cells #[.int .i64 x11, .slice s12a s12l s12c, .slice s13a s13l s13c, .slice s17a s17l s17c] 108)
  (True) ∧ R (.returned (.pointer (some (⟨w16.heap.size, 0, none⟩ : Addr)))) w18) (pan R)) (pan R))) ∧ (let w19 : World := w2.alloc (.cells #[] 113)
  (rd w19 (a7.add 3) (.slice s8a s8l s8c) ∧ rd w19 a3 (.agg #[.int .i64 x4, .slice s5a s5l s5c, .slice s6a s6l s6c]) ∧ True) ∧ Calls Tryz.prog 59 #[.agg #[.int .i64 x4, .slice s5a s5l s5c, .slice s6a s6l s6c]] w19 (ret (fun r20 w21 => ∃ x22 : Int, ∃ s23a : Option Addr, ∃ s23l : Nat, ∃ s23c : Nat, ∃ s24a : Option Addr, ∃ s24l : Nat, ∃ s24c : Nat, r20 = .agg #[.int .i64 x22, .slice s23a s23l s23c, .slice s24a s24l s24c] ∧ (rd w21 (a7.add 3) (.slice s8a s8l s8c) ∧ True) ∧ runV Tryz.prog (Builtin.append_ #[106, 106] 106 #[.slice (some (⟨w2.heap.size, 0, none⟩ : Addr)) 0 0, .slice s8a s8l s8c]) w21 (fun r25 w26 => ∃ s27a : Option Addr, ∃ s27l : Nat, ∃ s27c : Nat, r25 = .slice s27a s27l s27c ∧ (True) ∧ let w28 : World := w26.alloc (.cells #[.int .i64 x22, .slice s23a s23l s23c, .slice s24a s24l s24c, .slice s27a s27l s27c] 108)
  (True) ∧ R (.returned (.pointer (some (⟨w26.heap.size, 0, none⟩ : Addr)))) w28) (pan R)) (pan R))))

theorem T_ref08_Store_Fork_hl : allP (hokL Tryz.prog (hookAt []) (bodyOf Tryz.f28) 1) = (True) := by kernel_rfl

theorem T_ref08_Store_Fork_eq (s1 : Option Addr) (w : World) (R : Ending → World → Prop) : vcCode Tryz.prog (hookAt []) (bodyOf Tryz.f28) 1 ⟨argEnv [.pointer s1] 0, Tryz.f28.ntmps, []⟩ w (finQ Tryz.prog Tryz.f28.results.toList R) = T_ref08_Store_Fork s1 w R := by kernel_rfl

theorem T_ref08_Store_Fork_b : Tryz.f28.body = some (bodyOf Tryz.f28) := by kernel_rfl
theorem T_ref08_Store_Fork_s : (quietSel (bodyOf Tryz.f28) && Nat.ble 1 Tryz.f28.ntmps) = true := by kernel_rfl

theorem C_ref08_Store_Fork {s1 : Option Addr} {w : World} {R : Ending → World → Prop} (h : T_ref08_Store_Fork s1 w R) : Calls Tryz.prog 28 #[.pointer s1] w R :=
  calls_of_text (args := [.pointer s1]) mixed Tryz.func28 T_ref08_Store_Fork_b T_ref08_Store_Fork_s (HOk_of _ _ (by rw [T_ref08_Store_Fork_hl]; exact trivial)) (by rw [T_ref08_Store_Fork_eq]; exact h)

/-! (*tollgate/tollgateref08.Store).Do -/
def T_ref08_Store_Do_1 (s32 : Option Addr) (x33 : Addr) (a34 : Addr) (b35 : Bool) (w : World) (Kn : World → Prop) (Kr : World → Prop) (Kp : List PanicEntry → World → Prop) : Prop :=
  if b35 = true then (∃ x36 : Int, rd w (x33.add 1) (.int .i64 x36) ∧ Calls Tryz.prog 55 #[.pointer s32, .int .i64 x36] w (ret (fun r37 w38 => ∃ x39 : Int, ∃ x40 : Int, ∃ x41 : Int, r37 = .tuple #[.int .i64 x39, .agg #[.int .i64 x40, .int .i64 x41]] ∧ let w42 : World := w38.alloc (.cells #[.int .i64 0, .int .i64 0] 45)
  (.agg #[.int .i64 x40, .int .i64 x41] : Value).cells.size = 2 ∧ wrOk w42 (⟨w38.heap.size, 0, none⟩ : Addr) (.agg #[.int .i64 x40, .int .i64 x41]) ∧ let w43 : World := wr w42 (⟨w38.heap.size, 0, none⟩ : Addr) (.agg #[.int .i64 x40, .int .i64 x41])
  ∃ x44 : Int, rd w43 (x33.add 2) (.int .i64 x44) ∧ if ((x44 : Int) == x39) = true then (∃ x45 : Int, ∃ x46 : Int, rd w43 (⟨w38.heap.size, 0, none⟩ : Addr) (.agg #[.int .i64 x45, .int .i64 x46]) ∧ (.agg #[.int .i64 x45, .int .i64 x46] : Value).cells.size = 2 ∧ wrOk w43 a34 (.agg #[.int .i64 x45, .int .i64 x46]) ∧ let w47 : World := wr w43 a34 (.agg #[.int .i64 x45, .int .i64 x46])
  Kr  w47) else (∃ x48 : Int, rd w43 (x33.add 2) (.int .i64 x48) ∧ if (decide ((x48 : Int) < x39)) = true then (∃ a49, s32 = some a49 ∧ ∃ x50 : Int, rd w43 a49 (.int .i64 x50) ∧ (.agg #[.int .i64 12, .int .i64 x50] : Value).cells.size = 2 ∧ wrOk w43 a34 (.agg #[.int .i64 12, .int .i64 x50]) ∧ let w51 : World := wr w43 a34 (.agg #[.int .i64 12, .int .i64 x50])
  Kr  w51) else (Kn  w43))) Kp)) else (Kn  w)

def T_ref08_Store_Do_1_outs : Exit → Option (List (Nat × Value)) := fun x => match x with | .normal => some [] | .ret => some [] | .panic _ => some [] | _ => none

def T_ref08_Store_Do_1_ks : Nat → Bool := ksOf [6, 7, 26, 27, 28, 29, 30, 31, 32, 33, 34, 35, 36, 37, 38, 39, 40, 41, 42, 43, 44, 45, 46, 47]

def H_ref08_Store_Do_1 : Env → World → QT → Prop := unitHook 109 T_ref08_Store_Do_1_ks [(0, .pointer none), (3, .pointer (some ⟨0, 0, none⟩)), (4, .pointer (some ⟨0, 0, none⟩)), (25, .bool false)] T_ref08_Store_Do_1_outs fun l w C => match l with | [v0, v1, v2, v3] => T_ref08_Store_Do_1 (pPtr v0) (pAddr v1) (pAddr v2) (pBool v3) w (fun w => C .normal [] w) (fun w => C .ret [] w) (fun ch w => C (.panic ch) [] w) | _ => False

theorem T_ref08_Store_Do_1_hl : allP (hokL Tryz.prog (hookAt []) (at_ (bodyOf Tryz.f29) [1, 1, 1, 1, 0, 1]) 125) = (True) := by kernel_rfl
theorem T_ref08_Store_Do_1_hok : HOk Tryz.prog (hookAt []) (at_ (bodyOf Tryz.f29) [1, 1, 1, 1, 0, 1]) 125 := HOk_of _ _ (by rw [T_ref08_Store_Do_1_hl]; exact trivial)

theorem T_ref08_Store_Do_1_eq (C : Conts) (s32 : Option Addr) (x33 : Addr) (a34 : Addr) (b35 : Bool) (w : World) : vcCode Tryz.prog (hookAt []) (at_ (bodyOf Tryz.f29) [1, 1, 1, 1, 0, 1]) 125 ⟨[(0, .pointer s32), (3, .pointer (some x33)), (4, .pointer (some a34)), (25, .bool b35)], 109, []⟩ w (unitQ T_ref08_Store_Do_1_outs C) = T_ref08_Store_Do_1 s32 x33 a34 b35 w (fun w => C .normal [] w) (fun w => C .ret [] w) (fun ch w => C (.panic ch) [] w) := by kernel_rfl

theorem T_ref08_Store_Do_1_ok : UnitOk Tryz.prog H_ref08_Store_Do_1 (at_ (bodyOf Tryz.f29) [1, 1, 1, 1, 0, 1]) 125 := unit_ok (H := (hookAt [])) (by kernel_rfl) T_ref08_Store_Do_1_hok fun l w C hk => by
    obtain ⟨v0, l_v0, rfl, k_v0, hk_v0⟩ := Kinds.cons_ hk
    obtain ⟨s32, rfl⟩ := kind_pointer k_v0
    obtain ⟨v1, l_v1, rfl, k_v1, hk_v1⟩ := Kinds.cons_ hk_v0
    obtain ⟨x33, rfl⟩ := kind_addr k_v1
    obtain ⟨v2, l_v2, rfl, k_v2, hk_v2⟩ := Kinds.cons_ hk_v1
    obtain ⟨a34, rfl⟩ := kind_addr k_v2
    obtain ⟨v3, l_v3, rfl, k_v3, hk_v3⟩ := Kinds.cons_ hk_v2
    obtain ⟨b35, rfl⟩ := kind_bool k_v3
    obtain rfl := Kinds.nil_ hk_v3
    exact T_ref08_Store_Do_1_eq C s32 x33 a34 b35 w

def T_ref08_Store_Do_2 (s53 : Option Addr) (x54 : Addr) (w : World) (Kn : Bool → World → Prop) (Kp : List PanicEntry → World → Prop) : Prop :=
  let w55 : World := w.drew
  ∃ x56 : Int, rd w55 (x54.add 3) (.int .i64 x56) ∧ if (decide ((x56 : Int) ≥ 0)) = true then (∃ x57 : Int, rd w55 (x54.add 3) (.int .i64 x57) ∧ ∃ a58, s53 = some a58 ∧ ∃ x59 : Int, rd w55 a58 (.int .i64 x59) ∧ Kn ((x57 : Int) != x59) w55) else (Kn false w55)

def T_ref08_Store_Do_2_outs : Exit → Option (List (Nat × Value)) := fun x => match x with | .normal => some [(60, .bool false)] | .panic _ => some [] | _ => none

def T_ref08_Store_Do_2_ks : Nat → Bool := ksOf [48, 49, 50, 51, 52, 53, 54, 55, 56, 57, 58, 59, 60]

def H_ref08_Store_Do_2 : Env → World → QT → Prop := unitHook 109 T_ref08_Store_Do_2_ks [(0, .pointer none), (3, .pointer (some ⟨0, 0, none⟩))] T_ref08_Store_Do_2_outs fun l w C => match l with | [v0, v1] => T_ref08_Store_Do_2 (pPtr v0) (pAddr v1) w (fun b61 w => C .normal [.bool b61] w) (fun ch w => C (.panic ch) [] w) | _ => False

theorem T_ref08_Store_Do_2_hl : allP (hokL Tryz.prog (hookAt []) (at_ (bodyOf Tryz.f29) [1, 1, 1, 1, 1, 0, 0]) 252) = (True) := by kernel_rfl
theorem T_ref08_Store_Do_2_hok : HOk Tryz.prog (hookAt []) (at_ (bodyOf Tryz.f29) [1, 1, 1, 1, 1, 0, 0]) 252 := HOk_of _ _ (by rw [T_ref08_Store_Do_2_hl]; exact trivial)

theorem T_ref08_Store_Do_2_eq (C : Conts) (s53 : Option Addr) (x54 : Addr) (w : World) : vcCode Tryz.prog (hookAt []) (at_ (bodyOf Tryz.f29) [1, 1, 1, 1, 1, 0, 0]) 252 ⟨[(0, .pointer s53), (3, .pointer (some x54))], 109, []⟩ w (unitQ T_ref08_Store_Do_2_outs C) = T_ref08_Store_Do_2 s53 x54 w (fun b62 w => C .normal [.bool b62] w) (fun ch w => C (.panic ch) [] w) := by kernel_rfl

theorem T_ref08_Store_Do_2_ok : UnitOk Tryz.prog H_ref08_Store_Do_2 (at_ (bodyOf Tryz.f29) [1, 1, 1, 1, 1, 0, 0]) 252 := unit_ok (H := (hookAt [])) (by kernel_rfl) T_ref08_Store_Do_2_hok fun l w C hk => by
    obtain ⟨v0, l_v0, rfl, k_v0, hk_v0⟩ := Kinds.cons_ hk
    obtain ⟨s53, rfl⟩ := kind_pointer k_v0
    obtain ⟨v1, l_v1, rfl, k_v1, hk_v1⟩ := Kinds.cons_ hk_v0
    obtain ⟨x54, rfl⟩ := kind_addr k_v1
    obtain rfl := Kinds.nil_ hk_v1
    exact T_ref08_Store_Do_2_eq C s53 x54 w

def T_ref08_Store_Do_3 (s65 : Option Addr) (x66 : Addr) (b67 : Bool) (w : World) (Kn : Int → World → Prop) (Kp : List PanicEntry → World → Prop) : Prop :=
  if b67 = true then (Kn 12 w) else (∃ a68, s65 = some a68 ∧ ∃ x69 : Int, rd w a68 (.int .i64 x69) ∧ if ((x69 : Int) == 1099511627776) = true then (Kn 6 w) else (let w70 : World := w.drew
  ∃ a71, s65 = some a71 ∧ ∃ x72 : Int, ∃ s73a : Option Addr, ∃ s73l : Nat, ∃ s73c : Nat, ∃ s74a : Option Addr, ∃ s74l : Nat, ∃ s74c : Nat, rd w70 a71 (.agg #[.int .i64 x72, .slice s73a s73l s73c, .slice s74a s74l s74c]) ∧ ∃ x75 : Int, ∃ x76 : Int, ∃ x77 : Int, ∃ x78 : Int, ∃ s79 : ByteArray, ∃ s80 : ByteArray, ∃ s81 : ByteArray, ∃ s82a : Option Addr, ∃ s82l : Nat, ∃ s82c : Nat, rd w70 x66 (.agg #[.int .i64 x75, .int .i64 x76, .int .i64 x77, .int .i64 x78, .string s79, .string s80, .string s81, .slice s82a s82l s82c]) ∧ Calls Tryz.prog 61 #[.agg #[.int .i64 x72, .slice s73a s73l s73c, .slice s74a s74l s74c], .agg #[.int .i64 x75, .int .i64 x76, .int .i64 x77, .int .i64 x78, .string s79, .string s80, .string s81, .slice s82a s82l s82c]] w70 (ret (fun r83 w84 => ∃ x85 : Int, ∃ s86a : Option Addr, ∃ s86l : Nat, ∃ s86c : Nat, ∃ s87a : Option Addr, ∃ s87l : Nat, ∃ s87c : Nat, ∃ x88 : Int, r83 = .tuple #[.agg #[.int .i64 x85, .slice s86a s86l s86c, .slice s87a s87l s87c], .int .i64 x88] ∧ (True) ∧ ∃ a89, s65 = some a89 ∧ (.agg #[.int .i64 x85, .slice s86a s86l s86c, .slice s87a s87l s87c] : Value).cells.size = 3 ∧ wrOk w84 a89 (.agg #[.int .i64 x85, .slice s86a s86l s86c, .slice s87a s87l s87c]) ∧ let w90 : World := wr w84 a89 (.agg #[.int .i64 x85, .slice s86a s86l s86c, .slice s87a s87l s87c])
  (True) ∧ Kn x88 w90) Kp)))

def T_ref08_Store_Do_3_outs : Exit → Option (List (Nat × Value)) := fun x => match x with | .normal => some [(5, .int .i64 0)] | .panic _ => some [] | _ => none

def T_ref08_Store_Do_3_ks : Nat → Bool := ksOf [5, 61, 62, 63, 64, 65, 66, 67, 68, 69, 70, 71, 72, 73, 74, 75, 76, 77, 78]

def H_ref08_Store_Do_3 : Env → World → QT → Prop := unitHook 109 T_ref08_Store_Do_3_ks [(0, .pointer none), (3, .pointer (some ⟨0, 0, none⟩)), (60, .bool false)] T_ref08_Store_Do_3_outs fun l w C => match l with | [v0, v1, v2] => T_ref08_Store_Do_3 (pPtr v0) (pAddr v1) (pBool v2) w (fun e92 w => C .normal [.int .i64 e92] w) (fun ch w => C (.panic ch) [] w) | _ => False

theorem T_ref08_Store_Do_3_hl : allP (hokL Tryz.prog (hookAt []) (at_ (bodyOf Tryz.f29) [1, 1, 1, 1, 1, 0, 1]) 253) = (True) := by kernel_rfl
theorem T_ref08_Store_Do_3_hok : HOk Tryz.prog (hookAt []) (at_ (bodyOf Tryz.f29) [1, 1, 1, 1, 1, 0, 1]) 253 := HOk_of _ _ (by rw [T_ref08_Store_Do_3_hl]; exact trivial)

theorem T_ref08_Store_Do_3_eq (C : Conts) (s65 : Option Addr) (x66 : Addr) (b67 : Bool) (w : World) : vcCode Tryz.prog (hookAt []) (at_ (bodyOf Tryz.f29) [1, 1, 1, 1, 1, 0, 1]) 253 ⟨[(0, .pointer s65), (3, .pointer (some x66)), (60, .bool b67)], 109, []⟩ w (unitQ T_ref08_Store_Do_3_outs C) = T_ref08_Store_Do_3 s65 x66 b67 w (fun e93 w => C .normal [.int .i64 e93] w) (fun ch w => C (.panic ch) [] w) := by kernel_rfl

theorem T_ref08_Store_Do_3_ok : UnitOk Tryz.prog H_ref08_Store_Do_3 (at_ (bodyOf Tryz.f29) [1, 1, 1, 1, 1, 0, 1]) 253 := unit_ok (H := (hookAt [])) (by kernel_rfl) T_ref08_Store_Do_3_hok fun l w C hk => by
    obtain ⟨v0, l_v0, rfl, k_v0, hk_v0⟩ := Kinds.cons_ hk
    obtain ⟨s65, rfl⟩ := kind_pointer k_v0
    obtain ⟨v1, l_v1, rfl, k_v1, hk_v1⟩ := Kinds.cons_ hk_v0
    obtain ⟨x66, rfl⟩ := kind_addr k_v1
    obtain ⟨v2, l_v2, rfl, k_v2, hk_v2⟩ := Kinds.cons_ hk_v1
    obtain ⟨b67, rfl⟩ := kind_bool k_v2
    obtain rfl := Kinds.nil_ hk_v2
    exact T_ref08_Store_Do_3_eq C s65 x66 b67 w

def T_ref08_Store_Do_4 (s96 : Option Addr) (b97 : Bool) (w : World) (Kn : World → Prop) (Kp : List PanicEntry → World → Prop) : Prop :=
  if b97 = true then (∃ a98, s96 = some a98 ∧ ∃ x99 : Int, rd w a98 (.int .i64 x99) ∧ ∃ a100, s96 = some a100 ∧ (.int .i64 (IntKind.wrap .i64 ((x99 : Int) + 1)) : Value).cells.size = 1 ∧ wrOk w a100 (.int .i64 (IntKind.wrap .i64 ((x99 : Int) + 1))) ∧ let w101 : World := wr w a100 (.int .i64 (IntKind.wrap .i64 ((x99 : Int) + 1)))
  Kn  w101) else (Kn  w)

def T_ref08_Store_Do_4_outs : Exit → Option (List (Nat × Value)) := fun x => match x with | .normal => some [] | .panic _ => some [] | _ => none

def T_ref08_Store_Do_4_ks : Nat → Bool := ksOf [81, 82, 83, 84, 85, 86, 87, 88, 89]

def H_ref08_Store_Do_4 : Env → World → QT → Prop := unitHook 109 T_ref08_Store_Do_4_ks [(0, .pointer none), (80, .bool false)] T_ref08_Store_Do_4_outs fun l w C => match l with | [v0, v1] => T_ref08_Store_Do_4 (pPtr v0) (pBool v1) w (fun w => C .normal [] w) (fun ch w => C (.panic ch) [] w) | _ => False

theorem T_ref08_Store_Do_4_hl : allP (hokL Tryz.prog (hookAt []) (at_ (bodyOf Tryz.f29) [1, 1, 1, 1, 1, 1, 0, 1]) 509) = (True) := by kernel_rfl
theorem T_ref08_Store_Do_4_hok : HOk Tryz.prog (hookAt []) (at_ (bodyOf Tryz.f29) [1, 1, 1, 1, 1, 1, 0, 1]) 509 := HOk_of _ _ (by rw [T_ref08_Store_Do_4_hl]; exact trivial)

theorem T_ref08_Store_Do_4_eq (C : Conts) (s96 : Option Addr) (b97 : Bool) (w : World) : vcCode Tryz.prog (hookAt []) (at_ (bodyOf Tryz.f29) [1, 1, 1, 1, 1, 1, 0, 1]) 509 ⟨[(0, .pointer s96), (80, .bool b97)], 109, []⟩ w (unitQ T_ref08_Store_Do_4_outs C) = T_ref08_Store_Do_4 s96 b97 w (fun w => C .normal [] w) (fun ch w => C (.panic ch) [] w) := by kernel_rfl

theorem T_ref08_Store_Do_4_ok : UnitOk Tryz.prog H_ref08_Store_Do_4 (at_ (bodyOf Tryz.f29) [1, 1, 1, 1, 1, 1, 0, 1]) 509 := unit_ok (H := (hookAt [])) (by kernel_rfl) T_ref08_Store_Do_4_hok fun l w C hk => by
    obtain ⟨v0, l_v0, rfl, k_v0, hk_v0⟩ := Kinds.cons_ hk
    obtain ⟨s96, rfl⟩ := kind_pointer k_v0
    obtain ⟨v1, l_v1, rfl, k_v1, hk_v1⟩ := Kinds.cons_ hk_v0
    obtain ⟨b97, rfl⟩ := kind_bool k_v1
    obtain rfl := Kinds.nil_ hk_v1
    exact T_ref08_Store_Do_4_eq C s96 b97 w

def T_ref08_Store_Do (s1 : Option Addr) (x2 : Int) (x3 : Int) (x4 : Int) (x5 : Int) (s6 : ByteArray) (s7 : ByteArray) (s8 : ByteArray) (s9a : Option Addr) (s9l : Nat) (s9c : Nat) (w : World) (R : Ending → World → Prop) : Prop :=
  let w10 : World := w.alloc (.cells #[.int .i64 x2, .int .i64 x3, .int .i64 x4, .int .i64 x5, .string s6, .string s7, .string s8, .slice s9a s9l s9c] 42)
  let w11 : World := w10.alloc (.cells #[.int .i64 0, .int .i64 0] 45)
  if s1.isNone = true then ((.agg #[.int .i64 1, .int .i64 0] : Value).cells.size = 2 ∧ wrOk w11 (⟨w10.heap.size, 0, none⟩ : Addr) (.agg #[.int .i64 1, .int .i64 0]) ∧ let w12 : World := wr w11 (⟨w10.heap.size, 0, none⟩ : Addr) (.agg #[.int .i64 1, .int .i64 0])
  ∃ x13 : Int, ∃ x14 : Int, rd w12 (⟨w10.heap.size, 0, none⟩ : Addr) (.agg #[.int .i64 x13, .int .i64 x14]) ∧ R (.returned (.agg #[.int .i64 x13, .int .i64 x14])) w12) else (∃ x15 : Int, ∃ x16 : Int, ∃ x17 : Int, ∃ x18 : Int, ∃ s19 : ByteArray, ∃ s20 : ByteArray, ∃ s21 : ByteArray, ∃ s22a : Option Addr, ∃ s22l : Nat, ∃ s22c : Nat, rd w11 (⟨w.heap.size, 0, none⟩ : Addr) (.agg #[.int .i64 x15, .int .i64 x16, .int .i64 x17, .int .i64 x18, .string s19, .string s20, .string s21, .slice s22a s22l s22c]) ∧ Calls Tryz.prog 60 #[.agg #[.int .i64 x15, .int .i64 x16, .int .i64 x17, .int .i64 x18, .string s19, .string s20, .string s21, .slice s22a s22l s22c]] w11 (ret (fun r23 w24 => ∃ x25 : Int, r23 = .int .i64 x25 ∧ if ((x25 : Int) != 0) = true then (∃ a26, s1 = some a26 ∧ ∃ x27 : Int, rd w24 a26 (.int .i64 x27) ∧ (.agg #[.int .i64 x25, .int .i64 x27] : Value).cells.size = 2 ∧ wrOk w24 (⟨w10.heap.size, 0, none⟩ : Addr) (.agg #[.int .i64 x25, .int .i64 x27]) ∧ let w28 : World := wr w24 (⟨w10.heap.size, 0, none⟩ : Addr) (.agg #[.int .i64 x25, .int .i64 x27])
  ∃ x29 : Int, ∃ x30 : Int, rd w28 (⟨w10.heap.size, 0, none⟩ : Addr) (.agg #[.int .i64 x29, .int .i64 x30]) ∧ R (.returned (.agg #[.int .i64 x29, .int .i64 x30])) w28) else (∃ x31 : Int, rd w24 ((⟨w.heap.size, 0, none⟩ : Addr).add 1) (.int .i64 x31) ∧ T_ref08_Store_Do_1 s1 (⟨w.heap.size, 0, none⟩ : Addr) (⟨w10.heap.size, 0, none⟩ : Addr) (decide ((x31 : Int) > 0)) w24 (fun w52 => T_ref08_Store_Do_2 s1 (⟨w.heap.size, 0, none⟩ : Addr) w52 (fun b63 w64 => T_ref08_Store_Do_3 s1 (⟨w.heap.size, 0, none⟩ : Addr) b63 w64 (fun e94 w95 => T_ref08_Store_Do_4 s1 ((e94 : Int) == 0) w95 (fun w102 => ∃ a103, s1 = some a103 ∧ ∃ x104 : Int, rd w102 a103 (.int .i64 x104) ∧ let w105 : World := w102.alloc (.cells #[.int .i64 0, .int .i64 0] 45)
  (.agg #[.int .i64 e94, .int .i64 x104] : Value).cells.size = 2 ∧ wrOk w105 (⟨w102.heap.size, 0, none⟩ : Addr) (.agg #[.int .i64 e94, .int .i64 x104]) ∧ let w106 : World := wr w105 (⟨w102.heap.size, 0, none⟩ : Addr) (.agg #[.int .i64 e94, .int .i64 x104])
  ∃ x107 : Int, rd w106 ((⟨w.heap.size, 0, none⟩ : Addr).add 1) (.int .i64 x107) ∧ if (decide ((x107 : Int) > 0)) = true then (∃ x108 : Int, rd w106 ((⟨w.heap.size, 0, none⟩ : Addr).add 1) (.int .i64 x108) ∧ ∃ x109 : Int, rd w106 ((⟨w.heap.size, 0, none⟩ : Addr).add 2) (.int .i64 x109) ∧ ∃ x110 : Int, ∃ x111 : Int, rd w106 (⟨w102.heap.size, 0, none⟩ : Addr) (.agg #[.int .i64 x110, .int .i64 x111]) ∧ Calls Tryz.prog 62 #[.pointer s1, .agg #[.int .i64 x108, .int .i64 x109, .int .i64 x110, .int .i64 x111]] w106 (ret (fun r112 w113 => r112 = .tuple #[] ∧ ∃ x114 : Int, ∃ x115 : Int, rd w113 (⟨w102.heap.size, 0, none⟩ : Addr) (.agg #[.int .i64 x114, .int .i64 x115]) ∧ (.agg #[.int .i64 x114, .int .i64 x115] : Value).cells.size = 2 ∧ wrOk w113 (⟨w10.heap.size, 0, none⟩ : Addr) (.agg #[.int .i64 x114, .int .i64 x115]) ∧ let w116 : World := wr w113 (⟨w10.heap.size, 0, none⟩ : Addr) (.agg #[.int .i64 x114, .int .i64 x115])
  ∃ x117 : Int, ∃ x118 : Int, rd w116 (⟨w10.heap.size, 0, none⟩ : Addr) (.agg #[.int .i64 x117, .int .i64 x118]) ∧ R (.returned (.agg #[.int .i64 x117, .int .i64 x118])) w116) (pan R))) else (∃ x119 : Int, ∃ x120 : Int, rd w106 (⟨w102.heap.size, 0, none⟩ : Addr) (.agg #[.int .i64 x119, .int .i64 x120]) ∧ (.agg #[.int .i64 x119, .int .i64 x120] : Value).cells.size = 2 ∧ wrOk w106 (⟨w10.heap.size, 0, none⟩ : Addr) (.agg #[.int .i64 x119, .int .i64 x120]) ∧ let w121 : World := wr w106 (⟨w10.heap.size, 0, none⟩ : Addr) (.agg #[.int .i64 x119, .int .i64 x120])
  ∃ x122 : Int, ∃ x123 : Int, rd w121 (⟨w10.heap.size, 0, none⟩ : Addr) (.agg #[.int .i64 x122, .int .i64 x123]) ∧ R (.returned (.agg #[.int .i64 x122, .int .i64 x123])) w121)) (pan R)) (pan R)) (pan R)) (fun w124 => ∃ x125 : Int, ∃ x126 : Int, rd w124 (⟨w10.heap.size, 0, none⟩ : Addr) (.agg #[.int .i64 x125, .int .i64 x126]) ∧ R (.returned (.agg #[.int .i64 x125, .int .i64 x126])) w124) (pan R))) (pan R)))

theorem T_ref08_Store_Do_hl : allP (hokL Tryz.prog (hookAt [(125, H_ref08_Store_Do_1), (252, H_ref08_Store_Do_2), (253, H_ref08_Store_Do_3), (509, H_ref08_Store_Do_4)]) (bodyOf Tryz.f29) 1) = (UnitOk Tryz.prog H_ref08_Store_Do_1 (at_ (bodyOf Tryz.f29) [1, 1, 1, 1, 0, 1]) 125 ∧ UnitOk Tryz.prog H_ref08_Store_Do_2 (at_ (bodyOf Tryz.f29) [1, 1, 1, 1, 1, 0, 0]) 252 ∧ UnitOk Tryz.prog H_ref08_Store_Do_3 (at_ (bodyOf Tryz.f29) [1, 1, 1, 1, 1, 0, 1]) 253 ∧ UnitOk Tryz.prog H_ref08_Store_Do_4 (at_ (bodyOf Tryz.f29) [1, 1, 1, 1, 1, 1, 0, 1]) 509 ∧ True) := by kernel_rfl

theorem T_ref08_Store_Do_eq (s1 : Option Addr) (x2 : Int) (x3 : Int) (x4 : Int) (x5 : Int) (s6 : ByteArray) (s7 : ByteArray) (s8 : ByteArray) (s9a : Option Addr) (s9l : Nat) (s9c : Nat) (w : World) (R : Ending → World → Prop) : vcCode Tryz.prog (hookAt [(125, H_ref08_Store_Do_1), (252, H_ref08_Store_Do_2), (253, H_ref08_Store_Do_3), (509, H_ref08_Store_Do_4)]) (bodyOf Tryz.f29) 1 ⟨argEnv [.pointer s1, .agg #[.int .i64 x2, .int .i64 x3, .int .i64 x4, .int .i64 x5, .string s6, .string s7, .string s8, .slice s9a s9l s9c]] 0, Tryz.f29.ntmps, []⟩ w (finQ Tryz.prog Tryz.f29.results.toList R) = T_ref08_Store_Do s1 x2 x3 x4 x5 s6 s7 s8 s9a s9l s9c w R := by kernel_rfl

theorem T_ref08_Store_Do_b : Tryz.f29.body = some (bodyOf Tryz.f29) := by kernel_rfl
theorem T_ref08_Store_Do_s : (quietSel (bodyOf Tryz.f29) && Nat.ble 2 Tryz.f29.ntmps) = true := by kernel_rfl

theorem C_ref08_Store_Do {s1 : Option Addr} {x2 : Int} {x3 : Int} {x4 : Int} {x5 : Int} {s6 : ByteArray} {s7 : ByteArray} {s8 : ByteArray} {s9a : Option Addr} {s9l : Nat} {s9c : Nat} {w : World} {R : Ending → World → Prop} (h : T_ref08_Store_Do s1 x2 x3 x4 x5 s6 s7 s8 s9a s9l s9c w R) : Calls Tryz.prog 29 #[.pointer s1, .agg #[.int .i64 x2, .int .i64 x3, .int .i64 x4, .int .i64 x5, .string s6, .string s7, .string s8, .slice s9a s9l s9c]] w R :=
  calls_of_text (args := [.pointer s1, .agg #[.int .i64 x2, .int .i64 x3, .int .i64 x4, .int .i64 x5, .string s6, .string s7, .string s8, .slice s9a s9l s9c]]) mixed Tryz.func29 T_ref08_Store_Do_b T_ref08_Store_Do_s (HOk_of _ _ (by rw [T_ref08_Store_Do_hl]; exact ⟨T_ref08_Store_Do_1_ok, T_ref08_Store_Do_2_ok, T_ref08_Store_Do_3_ok, T_ref08_Store_Do_4_ok, trivial⟩)) (by rw [T_ref08_Store_Do_eq]; exact h)

/-! tollgate/tollgateref08.New -/
def T_ref08_New  (w : World) (R : Ending → World → Prop) : Prop :=
  let w1 : World := w.alloc (.cells #[.int .i64 0, .slice none 0 0, .slice none 0 0, .slice none 0 0] 108)
  R (.returned (.pointer (some (⟨w.heap.size, 0, none⟩ : Addr)))) w1

theorem T_ref08_New_hl : allP (hokL Tryz.prog (hookAt []) (bodyOf Tryz.f36) 1) = (True) := by kernel_rfl

theorem T_ref08_New_eq  (w : World) (R : Ending → World → Prop) : vcCode Tryz.prog (hookAt []) (bodyOf Tryz.f36) 1 ⟨argEnv [] 0, Tryz.f36.ntmps, []⟩ w (finQ Tryz.prog Tryz.f36.results.toList R) = T_ref08_New  w R := by kernel_rfl

theorem T_ref08_New_b : Tryz.f36.body = some (bodyOf Tryz.f36) := by kernel_rfl
theorem T_ref08_New_s : (quietSel (bodyOf Tryz.f36) && Nat.ble 0 Tryz.f36.ntmps) = true := by kernel_rfl

theorem C_ref08_New  {w : World} {R : Ending → World → Prop} (h : T_ref08_New  w R) : Calls Tryz.prog 36 #[] w R :=
  calls_of_text (args := []) mixed Tryz.func36 T_ref08_New_b T_ref08_New_s (HOk_of _ _ (by rw [T_ref08_New_hl]; exact trivial)) (by rw [T_ref08_New_eq]; exact h)

/-! (*tollgate/tollgateref08.Store).Config -/
def T_ref08_Store_Config (s1 : Option Addr) (w : World) (R : Ending → World → Prop) : Prop :=
  let w2 : World := w.alloc (.cells #[.int .i64 0, .slice none 0 0, .slice none 0 0] 30)
  if s1.isNone = true then ((.agg #[.int .i64 0, .slice none 0 0, .slice none 0 0] : Value).cells.size = 3 ∧ wrOk w2 (⟨w.heap.size, 0, none⟩ : Addr) (.agg #[.int .i64 0, .slice none 0 0, .slice none 0 0]) ∧ let w3 : World := wr w2 (⟨w.heap.size, 0, none⟩ : Addr) (.agg #[.int .i64 0, .slice none 0 0, .slice none 0 0])
  ∃ x4 : Int, ∃ s5a : Option Addr, ∃ s5l : Nat, ∃ s5c : Nat, ∃ s6a : Option Addr, ∃ s6l : Nat, ∃ s6c : Nat, rd w3 (⟨w.heap.size, 0, none⟩ : Addr) (.agg #[.int .i64 x4, .slice s5a s5l s5c, .slice s6a s6l s6c]) ∧ R (.returned (.agg #[.int .i64 x4, .slice s5a s5l s5c, .slice s6a s6l s6c])) w3) else (∃ a7, s1 = some a7 ∧ ∃ x8 : Int, ∃ s9a : Option Addr, ∃ s9l : Nat, ∃ s9c : Nat, ∃ s10a : Option Addr, ∃ s10l : Nat, ∃ s10c : Nat, rd w2 a7 (.agg #[.int .i64 x8, .slice s9a s9l s9c, .slice s10a s10l s10c]) ∧ Calls Tryz.prog 59 #[.agg #[.int .i64 x8, .slice s9a s9l s9c, .slice s10a s10l s10c]] w2 (ret (fun r11 w12 => ∃ x13 : Int, ∃ s14a : Option Addr, ∃ s14l : Nat, ∃ s14c : Nat, ∃ s15a : Option Addr, ∃ s15l : Nat, ∃ s15c : Nat, r11 = .agg #[.int .i64 x13, .slice s14a s14l s14c, .slice s15a s15l s15c] ∧ (.agg #[.int .i64 x13, .slice s14a s14l s14c, .slice s15a s15l s15c] : Value).cells.size = 3 ∧ wrOk w12 (⟨w.heap.size, 0, none⟩ : Addr) (.agg #[.int .i64 x13, .slice s14a s14l s14c, .slice s15a s15l s15c]) ∧ let w16 : World := wr w12 (⟨w.heap.size, 0, none⟩ : Addr) (.agg #[.int .i64 x13, .slice s14a s14l s14c, .slice s15a s15l s15c])
  ∃ x17 : Int, ∃ s18a : Option Addr, ∃ s18l : Nat, ∃ s18c : Nat, ∃ s19a : Option Addr, ∃ s19l : Nat, ∃ s19c : Nat, rd w16 (⟨w.heap.size, 0, none⟩ : Addr) (.agg #[.int .i64 x17, .slice s18a s18l s18c, .slice s19a s19l s19c]) ∧ R (.returned (.agg #[.int .i64 x17, .slice s18a s18l s18c, .slice s19a s19l s19c])) w16) (pan R)))

theorem T_ref08_Store_Config_hl : allP (hokL Tryz.prog (hookAt []) (bodyOf Tryz.f53) 1) = (True) := by kernel_rfl

theorem T_ref08_Store_Config_eq (s1 : Option Addr) (w : World) (R : Ending → World → Prop) : vcCode Tryz.prog (hookAt []) (bodyOf Tryz.f53) 1 ⟨argEnv [.pointer s1] 0, Tryz.f53.ntmps, []⟩ w (finQ Tryz.prog Tryz.f53.results.toList R) = T_ref08_Store_Config s1 w R := by kernel_rfl

theorem T_ref08_Store_Config_b : Tryz.f53.body = some (bodyOf Tryz.f53) := by kernel_rfl
theorem T_ref08_Store_Config_s : (quietSel (bodyOf Tryz.f53) && Nat.ble 1 Tryz.f53.ntmps) = true := by kernel_rfl

theorem C_ref08_Store_Config {s1 : Option Addr} {w : World} {R : Ending → World → Prop} (h : T_ref08_Store_Config s1 w R) : Calls Tryz.prog 53 #[.pointer s1] w R :=
  calls_of_text (args := [.pointer s1]) mixed Tryz.func53 T_ref08_Store_Config_b T_ref08_Store_Config_s (HOk_of _ _ (by rw [T_ref08_Store_Config_hl]; exact trivial)) (by rw [T_ref08_Store_Config_eq]; exact h)

/-! (*tollgate/tollgateref08.Store).Put -/
def T_ref08_Store_Put_1_body (X : Option Addr → Nat → Nat → Int → World → Prop) (b20a : Option Addr) (b20l : Nat) (b20c : Nat) (i21 : Int) (s22 : Option Addr) (w : World) (Kn : Option Addr → Nat → Nat → World → Prop) (Kp : List PanicEntry → World → Prop)  : Prop :=
  ∃ a23, s22 = some a23 ∧ ∃ s24a : Option Addr, ∃ s24l : Nat, ∃ s24c : Nat, rd w (a23.add 3) (.slice s24a s24l s24c) ∧ if (decide ((i21 : Int) < ((s24l : Nat) : Int))) = true then (let w25 : World := w.drew
  ∃ a26, s22 = some a26 ∧ ∃ s27a : Option Addr, ∃ s27l : Nat, ∃ s27c : Nat, rd w25 (a26.add 3) (.slice s27a s27l s27c) ∧ 0 ≤ (i21 : Int) ∧ (i21 : Int) < ((s27l : Nat) : Int) ∧ ∃ b28, s27a = some b28 ∧ ∃ x29 : Int, rd w25 (b28.add ((i21 : Int).toNat * 4)) (.int .i64 x29) ∧ ∃ a30, s22 = some a30 ∧ ∃ s31a : Option Addr, ∃ s31l : Nat, ∃ s31c : Nat, rd w25 (a30.add 3) (.slice s31a s31l s31c) ∧ 0 ≤ (i21 : Int) ∧ (i21 : Int) < ((s31l : Nat) : Int) ∧ ∃ b32, s31a = some b32 ∧ ∃ x33 : Int, rd w25 ((b32.add ((i21 : Int).toNat * 4)).add 1) (.int .i64 x33) ∧ Calls Tryz.prog 94 #[.slice b20a b20l b20c, .int .i64 x29] w25 (ret (fun r34 w35 => ∃ s36a : Option Addr, ∃ s36l : Nat, ∃ s36c : Nat, r34 = .slice s36a s36l s36c ∧ (rd w35 ((b32.add ((i21 : Int).toNat * 4)).add 1) (.int .i64 x33) ∧ rd w35 (a30.add 3) (.slice s31a s31l s31c) ∧ rd w35 (a26.add 3) (.slice s27a s27l s27c) ∧ True) ∧ Calls Tryz.prog 94 #[.slice s36a s36l s36c, .int .i64 x33] w35 (ret (fun r37 w38 => ∃ s39a : Option Addr, ∃ s39l : Nat, ∃ s39c : Nat, r37 = .slice s39a s39l s39c ∧ (rd w38 (a30.add 3) (.slice s31a s31l s31c) ∧ rd w38 (a26.add 3) (.slice s27a s27l s27c) ∧ True) ∧ let w40 : World := w38.drew
  ∃ a41, s22 = some a41 ∧ ∃ s42a : Option Addr, ∃ s42l : Nat, ∃ s42c : Nat, rd w40 (a41.add 3) (.slice s42a s42l s42c) ∧ 0 ≤ (i21 : Int) ∧ (i21 : Int) < ((s42l : Nat) : Int) ∧ ∃ b43, s42a = some b43 ∧ ∃ x44 : Int, rd w40 ((b43.add ((i21 : Int).toNat * 4)).add 2) (.int .i64 x44) ∧ ∃ a45, s22 = some a45 ∧ ∃ s46a : Option Addr, ∃ s46l : Nat, ∃ s46c : Nat, rd w40 (a45.add 3) (.slice s46a s46l s46c) ∧ 0 ≤ (i21 : Int) ∧ (i21 : Int) < ((s46l : Nat) : Int) ∧ ∃ b47, s46a = some b47 ∧ ∃ x48 : Int, rd w40 (((b47.add ((i21 : Int).toNat * 4)).add 2).add 1) (.int .i64 x48) ∧ Calls Tryz.prog 94 #[.slice s39a s39l s39c, .int .i64 x44] w40 (ret (fun r49 w50 => ∃ s51a : Option Addr, ∃ s51l : Nat, ∃ s51c : Nat, r49 = .slice s51a s51l s51c ∧ (rd w50 (((b47.add ((i21 : Int).toNat * 4)).add 2).add 1) (.int .i64 x48) ∧ rd w50 (a45.add 3) (.slice s46a s46l s46c) ∧ rd w50 (a41.add 3) (.slice s42a s42l s42c) ∧ True) ∧ Calls Tryz.prog 94 #[.slice s51a s51l s51c, .int .i64 x48] w50 (ret (fun r52 w53 => ∃ s54a : Option Addr, ∃ s54l : Nat, ∃ s54c : Nat, r52 = .slice s54a s54l s54c ∧ (rd w53 (a45.add 3) (.slice s46a s46l s46c) ∧ rd w53 (a41.add 3) (.slice s42a s42l s42c) ∧ True) ∧ X s54a s54l s54c (IntKind.wrap .i64 ((i21 : Int) + 1)) w53) Kp)) Kp)) Kp)) Kp)) else (Kn b20a b20l b20c w)

def T_ref08_Store_Put_1 (b20a : Option Addr) (b20l : Nat) (b20c : Nat) (i21 : Int) (s22 : Option Addr) (w : World) (Kn : Option Addr → Nat → Nat → World → Prop) (Kp : List PanicEntry → World → Prop) : Prop :=
  ∀ X : Option Addr → Nat → Nat → Int → World → Prop, (∀ (b20a : Option Addr) (b20l : Nat) (b20c : Nat) (i21 : Int) (w : World), T_ref08_Store_Put_1_body X b20a b20l b20c i21 s22 w Kn Kp → X b20a b20l b20c i21 w) → X b20a b20l b20c i21 w

def T_ref08_Store_Put_1_outs : Exit → Option (List (Nat × Value)) := fun x => match x with | .normal => some [(3, .slice none 0 0)] | .panic _ => some [] | _ => none

def T_ref08_Store_Put_1_ks : Nat → Bool := ksOf [3, 4, 24, 25, 26, 27, 28, 29, 30, 31, 32, 33, 34, 35, 36, 37, 38, 39, 40, 41, 42, 43, 44, 45, 46, 47, 48, 49, 50, 51, 52, 53, 54, 55, 56, 57, 58, 59, 60, 61, 62, 63, 64, 65, 66, 67, 68, 69, 70, 71, 72]

def H_ref08_Store_Put_1 : Env → World → QT → Prop := unitHook 74 T_ref08_Store_Put_1_ks [(3, .slice none 0 0), (4, .int .i64 0), (0, .pointer none)] T_ref08_Store_Put_1_outs fun l w C => match l with | [v0, v1, v2] => T_ref08_Store_Put_1 (pA v0) (pL v0) (pC v0) (pInt v1) (pPtr v2) w (fun b56a b56l b56c w => C .normal [.slice b56a b56l b56c] w) (fun ch w => C (.panic ch) [] w) | _ => False

theorem T_ref08_Store_Put_1_hl : allP (hokL Tryz.prog (hookAt []) (at_ (bodyOf Tryz.f54) [1, 1, 1, 0, 1, 0, 0]) 244) = (True) := by kernel_rfl
theorem T_ref08_Store_Put_1_hok : HOk Tryz.prog (hookAt []) (at_ (bodyOf Tryz.f54) [1, 1, 1, 0, 1, 0, 0]) 244 := HOk_of _ _ (by rw [T_ref08_Store_Put_1_hl]; exact trivial)

theorem T_ref08_Store_Put_1_eq (C : Conts) (X : List Value → World → Prop) (b20a : Option Addr) (b20l : Nat) (b20c : Nat) (i21 : Int) (s22 : Option Addr) (w : World) : vcCode Tryz.prog (hookAt []) (at_ (bodyOf Tryz.f54) [1, 1, 1, 0, 1, 0, 0]) 244 ⟨[(3, .slice b20a b20l b20c), (4, .int .i64 i21)] ++ [(0, .pointer s22)], 74, []⟩ w (seqQ (fun e w => takeAll e [(3, .slice none 0 0), (4, .int .i64 0)] fun l => X l w) (blockQ 0 (unitQ T_ref08_Store_Put_1_outs C))) = T_ref08_Store_Put_1_body (fun b20a b20l b20c i21 w => X [.slice b20a b20l b20c, .int .i64 i21] w) b20a b20l b20c i21 s22 w (fun b57a b57l b57c w => C .normal [.slice b57a b57l b57c] w) (fun ch w => C (.panic ch) [] w) := by kernel_rfl

theorem T_ref08_Store_Put_1_ok : UnitOk Tryz.prog H_ref08_Store_Put_1 (at_ (bodyOf Tryz.f54) [1, 1, 1, 0, 1]) 61 := by
  have hc : at_ (bodyOf Tryz.f54) [1, 1, 1, 0, 1] = .block 0 (.loop (at_ (bodyOf Tryz.f54) [1, 1, 1, 0, 1, 0, 0])) := by kernel_rfl
  rw [hc]
  refine loop_unit_ok (carr := [(3, .slice none 0 0), (4, .int .i64 0)]) (fix := [(0, .pointer none)]) (ks := T_ref08_Store_Put_1_ks) (H := (hookAt [])) (B := fun C X l u w => match l, u with | [v0, v1], [v2] => T_ref08_Store_Put_1_body (fun b20a b20l b20c i21 w => X [.slice b20a b20l b20c, .int .i64 i21] w) (pA v0) (pL v0) (pC v0) (pInt v1) (pPtr v2) w (fun b58a b58l b58c w => C .normal [.slice b58a b58l b58c] w) (fun ch w => C (.panic ch) [] w) | _, _ => False) (by kernel_rfl) (by kernel_rfl) T_ref08_Store_Put_1_hok ?_ ?_
  · intro C X l u w hl hu
    obtain ⟨v0, l_v0, rfl, k_v0, hl_v0⟩ := Kinds.cons_ hl
    obtain ⟨b20a, b20l, b20c, rfl⟩ := kind_slice k_v0
    obtain ⟨v1, l_v1, rfl, k_v1, hl_v1⟩ := Kinds.cons_ hl_v0
    obtain ⟨i21, rfl⟩ := kind_int k_v1
    obtain rfl := Kinds.nil_ hl_v1
    obtain ⟨v2, l_v2, rfl, k_v2, hu_v2⟩ := Kinds.cons_ hu
    obtain ⟨s22, rfl⟩ := kind_pointer k_v2
    obtain rfl := Kinds.nil_ hu_v2
    exact T_ref08_Store_Put_1_eq C X b20a b20l b20c i21 s22 w
  · intro l u w C hl hu
    obtain ⟨v0, l_v0, rfl, k_v0, hl_v0⟩ := Kinds.cons_ hl
    obtain ⟨b20a, b20l, b20c, rfl⟩ := kind_slice k_v0
    obtain ⟨v1, l_v1, rfl, k_v1, hl_v1⟩ := Kinds.cons_ hl_v0
    obtain ⟨i21, rfl⟩ := kind_int k_v1
    obtain rfl := Kinds.nil_ hl_v1
    obtain ⟨v2, l_v2, rfl, k_v2, hu_v2⟩ := Kinds.cons_ hu
    obtain ⟨s22, rfl⟩ := kind_pointer k_v2
    obtain rfl := Kinds.nil_ hu_v2
    constructor
    · intro h X hX
      exact h (fun b20a b20l b20c i21 w => X [.slice b20a b20l b20c, .int .i64 i21] w) (fun b20a b20l b20c i21 w hb => hX [.slice b20a b20l b20c, .int .i64 i21] w ⟨rfl, rfl, trivial⟩ hb)
    · intro h X hX
      exact h (fun l w => match l with | [v0, v1] => X (pA v0) (pL v0) (pC v0) (pInt v1) w | _ => True) (fun l w hl hb => by
        obtain ⟨v0, l_v0, rfl, k_v0, hl_v0⟩ := Kinds.cons_ hl
        obtain ⟨b20a, b20l, b20c, rfl⟩ := kind_slice k_v0
        obtain ⟨v1, l_v1, rfl, k_v1, hl_v1⟩ := Kinds.cons_ hl_v0
        obtain ⟨i21, rfl⟩ := kind_int k_v1
        obtain rfl := Kinds.nil_ hl_v1
        exact hX b20a b20l b20c i21 w hb)

def T_ref08_Store_Put (s1 : Option Addr) (w : World) (R : Ending → World → Prop) : Prop :=
  if s1.isNone = true then (R (.returned (.slice none 0 0)) w) else (let w2 : World := w.drew
  ∃ a3, s1 = some a3 ∧ ∃ x4 : Int, rd w2 a3 (.int .i64 x4) ∧ ∃ a5, s1 = some a5 ∧ ∃ x6 : Int, ∃ s7a : Option Addr, ∃ s7l : Nat, ∃ s7c : Nat, ∃ s8a : Option Addr, ∃ s8l : Nat, ∃ s8c : Nat, rd w2 a5 (.agg #[.int .i64 x6, .slice s7a s7l s7c, .slice s8a s8l s8c]) ∧ ∃ a9, s1 = some a9 ∧ ∃ s10a : Option Addr, ∃ s10l : Nat, ∃ s10c : Nat, rd w2 (a9.add 3) (.slice s10a s10l s10c) ∧ Calls Tryz.prog 94 #[.slice none 0 0, .int .i64 x4] w2 (ret (fun r11 w12 => ∃ s13a : Option Addr, ∃ s13l : Nat, ∃ s13c : Nat, r11 = .slice s13a s13l s13c ∧ (rd w12 (a9.add 3) (.slice s10a s10l s10c) ∧ rd w12 a5 (.agg #[.int .i64 x6, .slice s7a s7l s7c, .slice s8a s8l s8c]) ∧ True) ∧ Calls Tryz.prog 95 #[.slice s13a s13l s13c, .agg #[.int .i64 x6, .slice s7a s7l s7c, .slice s8a s8l s8c]] w12 (ret (fun r14 w15 => ∃ s16a : Option Addr, ∃ s16l : Nat, ∃ s16c : Nat, r14 = .slice s16a s16l s16c ∧ (rd w15 (a9.add 3) (.slice s10a s10l s10c) ∧ True) ∧ Calls Tryz.prog 94 #[.slice s16a s16l s16c, .int .i64 ((s10l : Nat) : Int)] w15 (ret (fun r17 w18 => ∃ s19a : Option Addr, ∃ s19l : Nat, ∃ s19c : Nat, r17 = .slice s19a s19l s19c ∧ (True) ∧ T_ref08_Store_Put_1 s19a s19l s19c 0 s1 w18 (fun b59a b59l b59c w60 => R (.returned (.slice b59a b59l b59c)) w60) (pan R)) (pan R))) (pan R))) (pan R)))

theorem T_ref08_Store_Put_hl : allP (hokL Tryz.prog (hookAt [(61, H_ref08_Store_Put_1)]) (bodyOf Tryz.f54) 1) = (UnitOk Tryz.prog H_ref08_Store_Put_1 (at_ (bodyOf Tryz.f54) [1, 1, 1, 0, 1]) 61 ∧ True) := by kernel_rfl

theorem T_ref08_Store_Put_eq (s1 : Option Addr) (w : World) (R : Ending → World → Prop) : vcCode Tryz.prog (hookAt [(61, H_ref08_Store_Put_1)]) (bodyOf Tryz.f54) 1 ⟨argEnv [.pointer s1] 0, Tryz.f54.ntmps, []⟩ w (finQ Tryz.prog Tryz.f54.results.toList R) = T_ref08_Store_Put s1 w R := by kernel_rfl

theorem T_ref08_Store_Put_b : Tryz.f54.body = some (bodyOf Tryz.f54) := by kernel_rfl
theorem T_ref08_Store_Put_s : (quietSel (bodyOf Tryz.f54) && Nat.ble 1 Tryz.f54.ntmps) = true := by kernel_rfl

theorem C_ref08_Store_Put {s1 : Option Addr} {w : World} {R : Ending → World → Prop} (h : T_ref08_Store_Put s1 w R) : Calls Tryz.prog 54 #[.pointer s1] w R :=
  calls_of_text (args := [.pointer s1]) mixed Tryz.func54 T_ref08_Store_Put_b T_ref08_Store_Put_s (HOk_of _ _ (by rw [T_ref08_Store_Put_hl]; exact ⟨T_ref08_Store_Put_1_ok, trivial⟩)) (by rw [T_ref08_Store_Put_eq]; exact h)

/-! (*tollgate/tollgateref08.Store).Seen -/
def T_ref08_Store_Seen_2 (s8 : Option Addr) (i9 : Int) (w : World) (Kn : Bool → World → Prop) (Kp : List PanicEntry → World → Prop) : Prop :=
  if (!s8.isNone) = true then (∃ a10, s8 = some a10 ∧ ∃ s11a : Option Addr, ∃ s11l : Nat, ∃ s11c : Nat, rd w (a10.add 3) (.slice s11a s11l s11c) ∧ Kn (decide ((i9 : Int) < ((s11l : Nat) : Int))) w) else (Kn false w)

def T_ref08_Store_Seen_2_outs : Exit → Option (List (Nat × Value)) := fun x => match x with | .normal => some [(17, .bool false)] | .panic _ => some [] | _ => none

def T_ref08_Store_Seen_2_ks : Nat → Bool := ksOf [7, 8, 9, 10, 11, 12, 13, 14, 15, 16, 17]

def H_ref08_Store_Seen_2 : Env → World → QT → Prop := unitHook 47 T_ref08_Store_Seen_2_ks [(0, .pointer none), (6, .int .i64 0)] T_ref08_Store_Seen_2_outs fun l w C => match l with | [v0, v1] => T_ref08_Store_Seen_2 (pPtr v0) (pInt v1) w (fun b13 w => C .normal [.bool b13] w) (fun ch w => C (.panic ch) [] w) | _ => False

theorem T_ref08_Store_Seen_2_hl : allP (hokL Tryz.prog (hookAt []) (at_ (bodyOf Tryz.f55) [1, 0, 1, 0, 0, 0, 0]) 208) = (True) := by kernel_rfl
theorem T_ref08_Store_Seen_2_hok : HOk Tryz.prog (hookAt []) (at_ (bodyOf Tryz.f55) [1, 0, 1, 0, 0, 0, 0]) 208 := HOk_of _ _ (by rw [T_ref08_Store_Seen_2_hl]; exact trivial)

theorem T_ref08_Store_Seen_2_eq (C : Conts) (s8 : Option Addr) (i9 : Int) (w : World) : vcCode Tryz.prog (hookAt []) (at_ (bodyOf Tryz.f55) [1, 0, 1, 0, 0, 0, 0]) 208 ⟨[(0, .pointer s8), (6, .int .i64 i9)], 47, []⟩ w (unitQ T_ref08_Store_Seen_2_outs C) = T_ref08_Store_Seen_2 s8 i9 w (fun b14 w => C .normal [.bool b14] w) (fun ch w => C (.panic ch) [] w) := by kernel_rfl

theorem T_ref08_Store_Seen_2_ok : UnitOk Tryz.prog H_ref08_Store_Seen_2 (at_ (bodyOf Tryz.f55) [1, 0, 1, 0, 0, 0, 0]) 208 := unit_ok (H := (hookAt [])) (by kernel_rfl) T_ref08_Store_Seen_2_hok fun l w C hk => by
    obtain ⟨v0, l_v0, rfl, k_v0, hk_v0⟩ := Kinds.cons_ hk
    obtain ⟨s8, rfl⟩ := kind_pointer k_v0
    obtain ⟨v1, l_v1, rfl, k_v1, hk_v1⟩ := Kinds.cons_ hk_v0
    obtain ⟨i9, rfl⟩ := kind_int k_v1
    obtain rfl := Kinds.nil_ hk_v1
    exact T_ref08_Store_Seen_2_eq C s8 i9 w

def T_ref08_Store_Seen_1_body (X : Int → World → Prop) (i4 : Int) (s5 : Option Addr) (client6 : Int) (a7 : Addr) (w : World) (Kn : World → Prop) (Kr : Int → World → Prop) (Kp : List PanicEntry → World → Prop)  : Prop :=
  T_ref08_Store_Seen_2 s5 i4 w (fun b15 w16 => if b15 = true then (∃ a17, s5 = some a17 ∧ ∃ s18a : Option Addr, ∃ s18l : Nat, ∃ s18c : Nat, rd w16 (a17.add 3) (.slice s18a s18l s18c) ∧ 0 ≤ (i4 : Int) ∧ (i4 : Int) < ((s18l : Nat) : Int) ∧ ∃ b19, s18a = some b19 ∧ ∃ x20 : Int, rd w16 (b19.add ((i4 : Int).toNat * 4)) (.int .i64 x20) ∧ if ((x20 : Int) == client6) = true then (let w21 : World := w16.drew
  ∃ a22, s5 = some a22 ∧ ∃ s23a : Option Addr, ∃ s23l : Nat, ∃ s23c : Nat, rd w21 (a22.add 3) (.slice s23a s23l s23c) ∧ 0 ≤ (i4 : Int) ∧ (i4 : Int) < ((s23l : Nat) : Int) ∧ ∃ b24, s23a = some b24 ∧ ∃ x25 : Int, rd w21 ((b24.add ((i4 : Int).toNat * 4)).add 1) (.int .i64 x25) ∧ ∃ a26, s5 = some a26 ∧ ∃ s27a : Option Addr, ∃ s27l : Nat, ∃ s27c : Nat, rd w21 (a26.add 3) (.slice s27a s27l s27c) ∧ 0 ≤ (i4 : Int) ∧ (i4 : Int) < ((s27l : Nat) : Int) ∧ ∃ b28, s27a = some b28 ∧ ∃ x29 : Int, ∃ x30 : Int, rd w21 ((b28.add ((i4 : Int).toNat * 4)).add 2) (.agg #[.int .i64 x29, .int .i64 x30]) ∧ (.agg #[.int .i64 x29, .int .i64 x30] : Value).cells.size = 2 ∧ wrOk w21 a7 (.agg #[.int .i64 x29, .int .i64 x30]) ∧ let w31 : World := wr w21 a7 (.agg #[.int .i64 x29, .int .i64 x30])
  (True) ∧ Kr x25 w31) else (X (IntKind.wrap .i64 ((i4 : Int) + 1)) w16)) else (Kn  w16)) Kp

def T_ref08_Store_Seen_1 (i4 : Int) (s5 : Option Addr) (client6 : Int) (a7 : Addr) (w : World) (Kn : World → Prop) (Kr : Int → World → Prop) (Kp : List PanicEntry → World → Prop) : Prop :=
  ∀ X : Int → World → Prop, (∀ (i4 : Int) (w : World), T_ref08_Store_Seen_1_body X i4 s5 client6 a7 w Kn Kr Kp → X i4 w) → X i4 w

def T_ref08_Store_Seen_1_outs : Exit → Option (List (Nat × Value)) := fun x => match x with | .normal => some [] | .ret => some [(4, .int .i64 0)] | .panic _ => some [] | _ => none

def T_ref08_Store_Seen_1_ks : Nat → Bool := ksOf [4, 6, 7, 8, 9, 10, 11, 12, 13, 14, 15, 16, 17, 18, 19, 20, 21, 22, 23, 24, 25, 26, 27, 28, 29, 30, 31, 32, 33, 34, 35, 36, 37, 38, 39, 40, 41, 42, 43, 44, 45]

def H_ref08_Store_Seen_1 : Env → World → QT → Prop := unitHook 47 T_ref08_Store_Seen_1_ks [(6, .int .i64 0), (0, .pointer none), (1, .int .i64 0), (5, .pointer (some ⟨0, 0, none⟩))] T_ref08_Store_Seen_1_outs fun l w C => match l with | [v0, v1, v2, v3] => T_ref08_Store_Seen_1 (pInt v0) (pPtr v1) (pInt v2) (pAddr v3) w (fun w => C .normal [] w) (fun x33 w => C .ret [.int .i64 x33] w) (fun ch w => C (.panic ch) [] w) | _ => False

theorem T_ref08_Store_Seen_1_hl : allP (hokL Tryz.prog (hookAt [(208, H_ref08_Store_Seen_2)]) (at_ (bodyOf Tryz.f55) [1, 0, 1, 0, 0]) 52) = (UnitOk Tryz.prog H_ref08_Store_Seen_2 (at_ (bodyOf Tryz.f55) [1, 0, 1, 0, 0, 0, 0]) 208 ∧ True) := by kernel_rfl
theorem T_ref08_Store_Seen_1_hok : HOk Tryz.prog (hookAt [(208, H_ref08_Store_Seen_2)]) (at_ (bodyOf Tryz.f55) [1, 0, 1, 0, 0]) 52 := HOk_of _ _ (by rw [T_ref08_Store_Seen_1_hl]; exact ⟨T_ref08_Store_Seen_2_ok, trivial⟩)

theorem T_ref08_Store_Seen_1_eq (C : Conts) (X : List Value → World → Prop) (i4 : Int) (s5 : Option Addr) (client6 : Int) (a7 : Addr) (w : World) : vcCode Tryz.prog (hookAt [(208, H_ref08_Store_Seen_2)]) (at_ (bodyOf Tryz.f55) [1, 0, 1, 0, 0]) 52 ⟨[(6, .int .i64 i4)] ++ [(0, .pointer s5), (1, .int .i64 client6), (5, .pointer (some a7))], 47, []⟩ w (seqQ (fun e w => takeAll e [(6, .int .i64 0)] fun l => X l w) (blockQ 0 (unitQ T_ref08_Store_Seen_1_outs C))) = T_ref08_Store_Seen_1_body (fun i4 w => X [.int .i64 i4] w) i4 s5 client6 a7 w (fun w => C .normal [] w) (fun x34 w => C .ret [.int .i64 x34] w) (fun ch w => C (.panic ch) [] w) := by kernel_rfl

theorem T_ref08_Store_Seen_1_ok : UnitOk Tryz.prog H_ref08_Store_Seen_1 (at_ (bodyOf Tryz.f55) [1, 0, 1]) 13 := by
  have hc : at_ (bodyOf Tryz.f55) [1, 0, 1] = .block 0 (.loop (at_ (bodyOf Tryz.f55) [1, 0, 1, 0, 0])) := by kernel_rfl
  rw [hc]
  refine loop_unit_ok (carr := [(6, .int .i64 0)]) (fix := [(0, .pointer none), (1, .int .i64 0), (5, .pointer (some ⟨0, 0, none⟩))]) (ks := T_ref08_Store_Seen_1_ks) (H := (hookAt [(208, H_ref08_Store_Seen_2)])) (B := fun C X l u w => match l, u with | [v0], [v1, v2, v3] => T_ref08_Store_Seen_1_body (fun i4 w => X [.int .i64 i4] w) (pInt v0) (pPtr v1) (pInt v2) (pAddr v3) w (fun w => C .normal [] w) (fun x35 w => C .ret [.int .i64 x35] w) (fun ch w => C (.panic ch) [] w) | _, _ => False) (by kernel_rfl) (by kernel_rfl) T_ref08_Store_Seen_1_hok ?_ ?_
  · intro C X l u w hl hu
    obtain ⟨v0, l_v0, rfl, k_v0, hl_v0⟩ := Kinds.cons_ hl
    obtain ⟨i4, rfl⟩ := kind_int k_v0
    obtain rfl := Kinds.nil_ hl_v0
    obtain ⟨v1, l_v1, rfl, k_v1, hu_v1⟩ := Kinds.cons_ hu
    obtain ⟨s5, rfl⟩ := kind_pointer k_v1
    obtain ⟨v2, l_v2, rfl, k_v2, hu_v2⟩ := Kinds.cons_ hu_v1
    obtain ⟨client6, rfl⟩ := kind_int k_v2
    obtain ⟨v3, l_v3, rfl, k_v3, hu_v3⟩ := Kinds.cons_ hu_v2
    obtain ⟨a7, rfl⟩ := kind_addr k_v3
    obtain rfl := Kinds.nil_ hu_v3
    exact T_ref08_Store_Seen_1_eq C X i4 s5 client6 a7 w
  · intro l u w C hl hu
    obtain ⟨v0, l_v0, rfl, k_v0, hl_v0⟩ := Kinds.cons_ hl
    obtain ⟨i4, rfl⟩ := kind_int k_v0
    obtain rfl := Kinds.nil_ hl_v0
    obtain ⟨v1, l_v1, rfl, k_v1, hu_v1⟩ := Kinds.cons_ hu
    obtain ⟨s5, rfl⟩ := kind_pointer k_v1
    obtain ⟨v2, l_v2, rfl, k_v2, hu_v2⟩ := Kinds.cons_ hu_v1
    obtain ⟨client6, rfl⟩ := kind_int k_v2
    obtain ⟨v3, l_v3, rfl, k_v3, hu_v3⟩ := Kinds.cons_ hu_v2
    obtain ⟨a7, rfl⟩ := kind_addr k_v3
    obtain rfl := Kinds.nil_ hu_v3
    constructor
    · intro h X hX
      exact h (fun i4 w => X [.int .i64 i4] w) (fun i4 w hb => hX [.int .i64 i4] w ⟨rfl, trivial⟩ hb)
    · intro h X hX
      exact h (fun l w => match l with | [v0] => X (pInt v0) w | _ => True) (fun l w hl hb => by
        obtain ⟨v0, l_v0, rfl, k_v0, hl_v0⟩ := Kinds.cons_ hl
        obtain ⟨i4, rfl⟩ := kind_int k_v0
        obtain rfl := Kinds.nil_ hl_v0
        exact hX i4 w hb)

def T_ref08_Store_Seen (s1 : Option Addr) (client2 : Int) (w : World) (R : Ending → World → Prop) : Prop :=
  let w3 : World := w.alloc (.cells #[.int .i64 0, .int .i64 0] 45)
  T_ref08_Store_Seen_1 0 s1 client2 (⟨w.heap.size, 0, none⟩ : Addr) w3 (fun w36 => (.agg #[.int .i64 0, .int .i64 0] : Value).cells.size = 2 ∧ wrOk w36 (⟨w.heap.size, 0, none⟩ : Addr) (.agg #[.int .i64 0, .int .i64 0]) ∧ let w37 : World := wr w36 (⟨w.heap.size, 0, none⟩ : Addr) (.agg #[.int .i64 0, .int .i64 0])
  ∃ x38 : Int, ∃ x39 : Int, rd w37 (⟨w.heap.size, 0, none⟩ : Addr) (.agg #[.int .i64 x38, .int .i64 x39]) ∧ R (.returned (.tuple #[.int .i64 0, .agg #[.int .i64 x38, .int .i64 x39]])) w37) (fun x40 w41 => ∃ x42 : Int, ∃ x43 : Int, rd w41 (⟨w.heap.size, 0, none⟩ : Addr) (.agg #[.int .i64 x42, .int .i64 x43]) ∧ R (.returned (.tuple #[.int .i64 x40, .agg #[.int .i64 x42, .int .i64 x43]])) w41) (pan R)

theorem T_ref08_Store_Seen_hl : allP (hokL Tryz.prog (hookAt [(13, H_ref08_Store_Seen_1)]) (bodyOf Tryz.f55) 1) = (UnitOk Tryz.prog H_ref08_Store_Seen_1 (at_ (bodyOf Tryz.f55) [1, 0, 1]) 13 ∧ True) := by kernel_rfl

theorem T_ref08_Store_Seen_eq (s1 : Option Addr) (client2 : Int) (w : World) (R : Ending → World → Prop) : vcCode Tryz.prog (hookAt [(13, H_ref08_Store_Seen_1)]) (bodyOf Tryz.f55) 1 ⟨argEnv [.pointer s1, .int .i64 client2] 0, Tryz.f55.ntmps, []⟩ w (finQ Tryz.prog Tryz.f55.results.toList R) = T_ref08_Store_Seen s1 client2 w R := by kernel_rfl

theorem T_ref08_Store_Seen_b : Tryz.f55.body = some (bodyOf Tryz.f55) := by kernel_rfl
theorem T_ref08_Store_Seen_s : (quietSel (bodyOf Tryz.f55) && Nat.ble 2 Tryz.f55.ntmps) = true := by kernel_rfl

theorem C_ref08_Store_Seen {s1 : Option Addr} {client2 : Int} {w : World} {R : Ending → World → Prop} (h : T_ref08_Store_Seen s1 client2 w R) : Calls Tryz.prog 55 #[.pointer s1, .int .i64 client2] w R :=
  calls_of_text (args := [.pointer s1, .int .i64 client2]) mixed Tryz.func55 T_ref08_Store_Seen_b T_ref08_Store_Seen_s (HOk_of _ _ (by rw [T_ref08_Store_Seen_hl]; exact ⟨T_ref08_Store_Seen_1_ok, trivial⟩)) (by rw [T_ref08_Store_Seen_eq]; exact h)

/-! tollgate/tollgateref08.CopyConfig -/
def T_ref08_CopyConfig_1_body (X : Int → World → Prop) (i15 : Int) (c16 : Addr) (out17 : Addr) (w : World) (Kn : World → Prop) (Kp : List PanicEntry → World → Prop)  : Prop :=
  ∃ s18a : Option Addr, ∃ s18l : Nat, ∃ s18c : Nat, rd w (c16.add 2) (.slice s18a s18l s18c) ∧ if (decide ((i15 : Int) < ((s18l : Nat) : Int))) = true then (let w19 : World := w.drew
  ∃ s20a : Option Addr, ∃ s20l : Nat, ∃ s20c : Nat, rd w19 (out17.add 2) (.slice s20a s20l s20c) ∧ ∃ s21a : Option Addr, ∃ s21l : Nat, ∃ s21c : Nat, rd w19 (c16.add 2) (.slice s21a s21l s21c) ∧ 0 ≤ (i15 : Int) ∧ (i15 : Int) < ((s21l : Nat) : Int) ∧ ∃ b22, s21a = some b22 ∧ ∃ s23 : ByteArray, rd w19 (b22.add ((i15 : Int).toNat * 2)) (.string s23) ∧ ∃ s24a : Option Addr, ∃ s24l : Nat, ∃ s24c : Nat, rd w19 (c16.add 2) (.slice s24a s24l s24c) ∧ 0 ≤ (i15 : Int) ∧ (i15 : Int) < ((s24l : Nat) : Int) ∧ ∃ b25, s24a = some b25 ∧ ∃ s26a : Option Addr, ∃ s26l : Nat, ∃ s26c : Nat, rd w19 ((b25.add ((i15 : Int).toNat * 2)).add 1) (.slice s26a s26l s26c) ∧ let w27 : World := w19.alloc (.cells #[] 64)
  (rd w27 ((b25.add ((i15 : Int).toNat * 2)).add 1) (.slice s26a s26l s26c) ∧ rd w27 (c16.add 2) (.slice s24a s24l s24c) ∧ rd w27 (b22.add ((i15 : Int).toNat * 2)) (.string s23) ∧ rd w27 (c16.add 2) (.slice s21a s21l s21c) ∧ rd w27 (out17.add 2) (.slice s20a s20l s20c) ∧ True) ∧ runV Tryz.prog (Builtin.append_ #[32, 32] 32 #[.slice (some (⟨w19.heap.size, 0, none⟩ : Addr)) 0 0, .slice s26a s26l s26c]) w27 (fun r28 w29 => ∃ s30a : Option Addr, ∃ s30l : Nat, ∃ s30c : Nat, r28 = .slice s30a s30l s30c ∧ (rd w29 (c16.add 2) (.slice s24a s24l s24c) ∧ rd w29 (b22.add ((i15 : Int).toNat * 2)) (.string s23) ∧ rd w29 (c16.add 2) (.slice s21a s21l s21c) ∧ rd w29 (out17.add 2) (.slice s20a s20l s20c) ∧ True) ∧ let w31 : World := w29.alloc (.cells #[.string s23, .slice s30a s30l s30c] 34)
  (rd w31 (c16.add 2) (.slice s24a s24l s24c) ∧ rd w31 (c16.add 2) (.slice s21a s21l s21c) ∧ rd w31 (out17.add 2) (.slice s20a s20l s20c) ∧ True) ∧ runV Tryz.prog (Builtin.append_ #[28, 28] 28 #[.slice s20a s20l s20c, .slice (some (⟨w29.heap.size, 0, none⟩ : Addr)) 1 1]) w31 (fun r32 w33 => ∃ s34a : Option Addr, ∃ s34l : Nat, ∃ s34c : Nat, r32 = .slice s34a s34l s34c ∧ (rd w33 (c16.add 2) (.slice s24a s24l s24c) ∧ rd w33 (c16.add 2) (.slice s21a s21l s21c) ∧ True) ∧ (.slice s34a s34l s34c : Value).cells.size = 1 ∧ wrOk w33 (out17.add 2) (.slice s34a s34l s34c) ∧ let w35 : World := wr w33 (out17.add 2) (.slice s34a s34l s34c)
  (True) ∧ X (IntKind.wrap .i64 ((i15 : Int) + 1)) w35) Kp) Kp) else (Kn  w)

def T_ref08_CopyConfig_1 (i15 : Int) (c16 : Addr) (out17 : Addr) (w : World) (Kn : World → Prop) (Kp : List PanicEntry → World → Prop) : Prop :=
  ∀ X : Int → World → Prop, (∀ (i15 : Int) (w : World), T_ref08_CopyConfig_1_body X i15 c16 out17 w Kn Kp → X i15 w) → X i15 w

def T_ref08_CopyConfig_1_outs : Exit → Option (List (Nat × Value)) := fun x => match x with | .normal => some [] | .panic _ => some [] | _ => none

def T_ref08_CopyConfig_1_ks : Nat → Bool := ksOf [4, 12, 13, 14, 15, 16, 17, 18, 19, 20, 21, 22, 23, 24, 25, 26, 27, 28, 29, 30, 31, 32, 33, 34, 35, 36, 37, 38]

def H_ref08_CopyConfig_1 : Env → World → QT → Prop := unitHook 40 T_ref08_CopyConfig_1_ks [(4, .int .i64 0), (1, .pointer (some ⟨0, 0, none⟩)), (3, .pointer (some ⟨0, 0, none⟩))] T_ref08_CopyConfig_1_outs fun l w C => match l with | [v0, v1, v2] => T_ref08_CopyConfig_1 (pInt v0) (pAddr v1) (pAddr v2) w (fun w => C .normal [] w) (fun ch w => C (.panic ch) [] w) | _ => False

theorem T_ref08_CopyConfig_1_hl : allP (hokL Tryz.prog (hookAt []) (at_ (bodyOf Tryz.f59) [1, 1, 0, 1, 0, 0]) 116) = (True) := by kernel_rfl
theorem T_ref08_CopyConfig_1_hok : HOk Tryz.prog (hookAt []) (at_ (bodyOf Tryz.f59) [1, 1, 0, 1, 0, 0]) 116 := HOk_of _ _ (by rw [T_ref08_CopyConfig_1_hl]; exact trivial)

theorem T_ref08_CopyConfig_1_eq (C : Conts) (X : List Value → World → Prop) (i15 : Int) (c16 : Addr) (out17 : Addr) (w : World) : vcCode Tryz.prog (hookAt []) (at_ (bodyOf Tryz.f59) [1, 1, 0, 1, 0, 0]) 116 ⟨[(4, .int .i64 i15)] ++ [(1, .pointer (some c16)), (3, .pointer (some out17))], 40, []⟩ w (seqQ (fun e w => takeAll e [(4, .int .i64 0)] fun l => X l w) (blockQ 0 (unitQ T_ref08_CopyConfig_1_outs C))) = T_ref08_CopyConfig_1_body (fun i15 w => X [.int .i64 i15] w) i15 c16 out17 w (fun w => C .normal [] w) (fun ch w => C (.panic ch) [] w) := by kernel_rfl

theorem T_ref08_CopyConfig_1_ok : UnitOk Tryz.prog H_ref08_CopyConfig_1 (at_ (bodyOf Tryz.f59) [1, 1, 0, 1]) 29 := by
  have hc : at_ (bodyOf Tryz.f59) [1, 1, 0, 1] = .block 0 (.loop (at_ (bodyOf Tryz.f59) [1, 1, 0, 1, 0, 0])) := by kernel_rfl
  rw [hc]
  refine loop_unit_ok (carr := [(4, .int .i64 0)]) (fix := [(1, .pointer (some ⟨0, 0, none⟩)), (3, .pointer (some ⟨0, 0, none⟩))]) (ks := T_ref08_CopyConfig_1_ks) (H := (hookAt [])) (B := fun C X l u w => match l, u with | [v0], [v1, v2] => T_ref08_CopyConfig_1_body (fun i15 w => X [.int .i64 i15] w) (pInt v0) (pAddr v1) (pAddr v2) w (fun w => C .normal [] w) (fun ch w => C (.panic ch) [] w) | _, _ => False) (by kernel_rfl) (by kernel_rfl) T_ref08_CopyConfig_1_hok ?_ ?_
  · intro C X l u w hl hu
    obtain ⟨v0, l_v0, rfl, k_v0, hl_v0⟩ := Kinds.cons_ hl
    obtain ⟨i15, rfl⟩ := kind_int k_v0
    obtain rfl := Kinds.nil_ hl_v0
    obtain ⟨v1, l_v1, rfl, k_v1, hu_v1⟩ := Kinds.cons_ hu
    obtain ⟨c16, rfl⟩ := kind_addr k_v1
    obtain ⟨v2, l_v2, rfl, k_v2, hu_v2⟩ := Kinds.cons_ hu_v1
    obtain ⟨out17, rfl⟩ := kind_addr k_v2
    obtain rfl := Kinds.nil_ hu_v2
    exact T_ref08_CopyConfig_1_eq C X i15 c16 out17 w
  · intro l u w C hl hu
    obtain ⟨v0, l_v0, rfl, k_v0, hl_v0⟩ := Kinds.cons_ hl
    obtain ⟨i15, rfl⟩ := kind_int k_v0
    obtain rfl := Kinds.nil_ hl_v0
    obtain ⟨v1, l_v1, rfl, k_v1, hu_v1⟩ := Kinds.cons_ hu
    obtain ⟨c16, rfl⟩ := kind_addr k_v1
    obtain ⟨v2, l_v2, rfl, k_v2, hu_v2⟩ := Kinds.cons_ hu_v1
    obtain ⟨out17, rfl⟩ := kind_addr k_v2
    obtain rfl := Kinds.nil_ hu_v2
    constructor
    · intro h X hX
      exact h (fun i15 w => X [.int .i64 i15] w) (fun i15 w hb => hX [.int .i64 i15] w ⟨rfl, trivial⟩ hb)
    · intro h X hX
      exact h (fun l w => match l with | [v0] => X (pInt v0) w | _ => True) (fun l w hl hb => by
        obtain ⟨v0, l_v0, rfl, k_v0, hl_v0⟩ := Kinds.cons_ hl
        obtain ⟨i15, rfl⟩ := kind_int k_v0
        obtain rfl := Kinds.nil_ hl_v0
        exact hX i15 w hb)

def T_ref08_CopyConfig (x1 : Int) (s2a : Option Addr) (s2l : Nat) (s2c : Nat) (s3a : Option Addr) (s3l : Nat) (s3c : Nat) (w : World) (R : Ending → World → Prop) : Prop :=
  let w4 : World := w.alloc (.cells #[.int .i64 x1, .slice s2a s2l s2c, .slice s3a s3l s3c] 30)
  let w5 : World := w4.alloc (.cells #[.int .i64 0, .slice none 0 0, .slice none 0 0] 30)
  let w6 : World := w5.drew
  ∃ x7 : Int, rd w6 (⟨w.heap.size, 0, none⟩ : Addr) (.int .i64 x7) ∧ ∃ s8a : Option Addr, ∃ s8l : Nat, ∃ s8c : Nat, rd w6 ((⟨w.heap.size, 0, none⟩ : Addr).add 1) (.slice s8a s8l s8c) ∧ (let w9 : World := w6.alloc (.cells #[] 36)
  (rd w9 ((⟨w.heap.size, 0, none⟩ : Addr).add 1) (.slice s8a s8l s8c) ∧ rd w9 (⟨w.heap.size, 0, none⟩ : Addr) (.int .i64 x7) ∧ True) ∧ (runV Tryz.prog (Builtin.append_ #[27, 27] 27 #[.slice (some (⟨w6.heap.size, 0, none⟩ : Addr)) 0 0, .slice s8a s8l s8c]) w9 (fun r10 w11 => ∃ s12a : Option Addr, ∃ s12l : Nat, ∃ s12c : Nat, r10 = .slice s12a s12l s12c ∧ (rd w11 (⟨w.heap.size, 0, none⟩ : Addr) (.int .i64 x7) ∧ True) ∧ let w13 : World := w11.alloc (.cells #[.int .i64 0, .slice none 0 0, .slice none 0 0] 30)
  (rd w13 (⟨w.heap.size, 0, none⟩ : Addr) (.int .i64 x7) ∧ True) ∧ (.agg #[.int .i64 x7, .slice s12a s12l s12c, .slice none 0 0] : Value).cells.size = 3 ∧ wrOk w13 (⟨w11.heap.size, 0, none⟩ : Addr) (.agg #[.int .i64 x7, .slice s12a s12l s12c, .slice none 0 0]) ∧ let w14 : World := wr w13 (⟨w11.heap.size, 0, none⟩ : Addr) (.agg #[.int .i64 x7, .slice s12a s12l s12c, .slice none 0 0])
  (True) ∧ T_ref08_CopyConfig_1 0 (⟨w.heap.size, 0, none⟩ : Addr) (⟨w11.heap.size, 0, none⟩ : Addr) w14 (fun w36 => ∃ x37 : Int, ∃ s38a : Option Addr, ∃ s38l : Nat, ∃ s38c : Nat, ∃ s39a : Option Addr, ∃ s39l : Nat, ∃ s39c : Nat, rd w36 (⟨w11.heap.size, 0, none⟩ : Addr) (.agg #[.int .i64 x37, .slice s38a s38l s38c, .slice s39a s39l s39c]) ∧ (.agg #[.int .i64 x37, .slice s38a s38l s38c, .slice s39a s39l s39c] : Value).cells.size = 3 ∧ wrOk w36 (⟨w4.heap.size, 0, none⟩ : Addr) (.agg #[.int .i64 x37, .slice s38a s38l s38c, .slice s39a s39l s39c]) ∧ let w40 : World := wr w36 (⟨w4.heap.size, 0, none⟩ : Addr) (.agg #[.int .i64 x37, .slice s38a s38l s38c, .slice s39a s39l s39c])
  ∃ x41 : Int, ∃ s42a : Option Addr, ∃ s42l : Nat, ∃ s42c : Nat, ∃ s43a : Option Addr, ∃ s43l : Nat, ∃ s43c : Nat, rd w40 (⟨w4.heap.size, 0, none⟩ : Addr) (.agg #[.int .i64 x41, .slice s42a s42l s42c, .slice s43a s43l s43c]) ∧ R (.returned (.agg #[.int .i64 x41, .slice s42a s42l s42c, .slice s43a s43l s43c])) w40) (pan R)) (pan R)) ∧ (let w44 : World := w9.alloc (.cells #[.int .i64 0, .slice none 0 0, .slice none 0 0] 30)
  (rd w44 ((⟨w.heap.size, 0, none⟩ : Addr).add 1) (.slice s8a s8l s8c) ∧ rd w44 (⟨w.heap.size, 0, none⟩ : Addr) (.int .i64 x7) ∧ True) ∧ runV Tryz.prog (Builtin.append_ #[27, 27] 27 #[.slice (some (⟨w6.heap.size, 0, none⟩ : Addr)) 0 0, .slice s8a s8l s8c]) w44 (fun r45 w46 => ∃ s47a : Option Addr, ∃ s47l : Nat, ∃ s47c : Nat, r45 = .slice s47a s47l s47c ∧ (rd w46 (⟨w.heap.size, 0, none⟩ : Addr) (.int .i64 x7) ∧ True) ∧ (.agg #[.int .i64 x7, .slice s47a s47l s47c, .slice none 0 0] : Value).cells.size = 3 ∧ wrOk w46 (⟨w9.heap.size, 0, none⟩ : Addr) (.agg #[.int .i64 x7, .slice s47a s47l s47c, .slice none 0 0]) ∧ let w48 : World := wr w46 (⟨w9.heap.size, 0, none⟩ : Addr) (.agg #[.int .i64 x7, .slice s47a s47l s47c, .slice none 0 0])
  (True) ∧ T_ref08_CopyConfig_1 0 (⟨w.heap.size, 0, none⟩ : Addr) (⟨w9.heap.size, 0, none⟩ : Addr) w48 (fun w49 => ∃ x50 : Int, ∃ s51a : Option Addr, ∃ s51l : Nat, ∃ s51c : Nat, ∃ s52a : Option Addr, ∃ s52l : Nat, ∃ s52c : Nat, rd w49 (⟨w9.heap.size, 0, none⟩ : Addr) (.agg #[.int .i64 x50, .slice s51a s51l s51c, .slice s52a s52l s52c]) ∧ (.agg #[.int .i64 x50, .slice s51a s51l s51c, .slice s52a s52l s52c] : Value).cells.size = 3 ∧ wrOk w49 (⟨w4.heap.size, 0, none⟩ : Addr) (.agg #[.int .i64 x50, .slice s51a s51l s51c, .slice s52a s52l s52c]) ∧ let w53 : World := wr w49 (⟨w4.heap.size, 0, none⟩ : Addr) (.agg #[.int .i64 x50, .slice s51a s51l s51c, .slice s52a s52l s52c])
  ∃ x54 : Int, ∃ s55a : Option Addr, ∃ s55l : Nat, ∃ s55c : Nat, ∃ s56a : Option Addr, ∃ s56l : Nat, ∃ s56c : Nat, rd w53 (⟨w4.heap.size, 0, none⟩ : Addr) (.agg #[.int .i64 x54, .slice s55a s55l s55c, .slice s56a s56l s56c]) ∧ R (.returned (.agg #[.int .i64 x54, .slice s55a s55l s55c, .slice s56a s56l s56c])) w53) (pan R)) (pan R))) ∧ (let w57 : World := w6.alloc (.cells #[.int .i64 0, .slice none 0 0, .slice none 0 0] 30)
  (rd w57 ((⟨w.heap.size, 0, none⟩ : Addr).add 1) (.slice s8a s8l s8c) ∧ rd w57 (⟨w.heap.size, 0, none⟩ : Addr) (.int .i64 x7) ∧ True) ∧ let w58 : World := w57.alloc (.cells #[] 36)
  (rd w58 ((⟨w.heap.size, 0, none⟩ : Addr).add 1) (.slice s8a s8l s8c) ∧ rd w58 (⟨w.heap.size, 0, none⟩ : Addr) (.int .i64 x7) ∧ True) ∧ runV Tryz.prog (Builtin.append_ #[27, 27] 27 #[.slice (some (⟨w57.heap.size, 0, none⟩ : Addr)) 0 0, .slice s8a s8l s8c]) w58 (fun r59 w60 => ∃ s61a : Option Addr, ∃ s61l : Nat, ∃ s61c : Nat, r59 = .slice s61a s61l s61c ∧ (rd w60 (⟨w.heap.size, 0, none⟩ : Addr) (.int .i64 x7) ∧ True) ∧ (.agg #[.int .i64 x7, .slice s61a s61l s61c, .slice none 0 0] : Value).cells.size = 3 ∧ wrOk w60 (⟨w6.heap.size, 0, none⟩ : Addr) (.agg #[.int .i64 x7, .slice s61a s61l s61c, .slice none 0 0]) ∧ let w62 : World := wr w60 (⟨w6.heap.size, 0, none⟩ : Addr) (.agg #[.int .i64 x7, .slice s61a s61l s61c, .slice none 0 0])
  (True) ∧ T_ref08_CopyConfig_1 0 (⟨w.heap.size, 0, none⟩ : Addr) (⟨w6.heap.size, 0, none⟩ : Addr) w62 (fun w63 => ∃ x64 : Int, ∃ s65a : Option Addr, ∃ s65l : Nat, ∃ s65c : Nat, ∃ s66a : Option Addr, ∃ s66l : Nat, ∃ s66c : Nat, rd w63 (⟨w6.heap.size, 0, none⟩ : Addr) (.agg #[.int .i64 x64, .slice s65a s65l s65c, .slice s66a s66l s66c]) ∧ (.agg #[.int .i64 x64, .slice s65a s65l s65c, .slice s66a s66l s66c] : Value).cells.size = 3 ∧ wrOk w63 (⟨w4.heap.size, 0, none⟩ : Addr) (.agg #[.int .i64 x64, .slice s65a s65l s65c, .slice s66a s66l s66c]) ∧ let w67 : World := wr w63 (⟨w4.heap.size, 0, none⟩ : Addr) (.agg #[.int .i64 x64, .slice s65a s65l s65c, .slice s66a s66l s66c])
  ∃ x68 : Int, ∃ s69a : Option Addr, ∃ s69l : Nat, ∃ s69c : Nat, ∃ s70a : Option Addr, ∃ s70l : Nat, ∃ s70c : Nat, rd w67 (⟨w4.heap.size, 0, none⟩ : Addr) (.agg #[.int .i64 x68, .slice s69a s69l s69c, .slice s70a s70l s70c]) ∧ R (.returned (.agg #[.int .i64 x68, .slice s69a s69l s69c, .slice s70a s70l s70c])) w67) (pan R)) (pan R))

theorem T_ref08_CopyConfig_hl : allP (hokL Tryz.prog (hookAt [(29, H_ref08_CopyConfig_1)]) (bodyOf Tryz.f59) 1) = (UnitOk Tryz.prog H_ref08_CopyConfig_1 (at_ (bodyOf Tryz.f59) [1, 1, 0, 1]) 29 ∧ True) := by kernel_rfl

theorem T_ref08_CopyConfig_eq (x1 : Int) (s2a : Option Addr) (s2l : Nat) (s2c : Nat) (s3a : Option Addr) (s3l : Nat) (s3c : Nat) (w : World) (R : Ending → World → Prop) : vcCode Tryz.prog (hookAt [(29, H_ref08_CopyConfig_1)]) (bodyOf Tryz.f59) 1 ⟨argEnv [.agg #[.int .i64 x1, .slice s2a s2l s2c, .slice s3a s3l s3c]] 0, Tryz.f59.ntmps, []⟩ w (finQ Tryz.prog Tryz.f59.results.toList R) = T_ref08_CopyConfig x1 s2a s2l s2c s3a s3l s3c w R := by kernel_rfl

theorem T_ref08_CopyConfig_b : Tryz.f59.body = some (bodyOf Tryz.f59) := by kernel_rfl
theorem T_ref08_CopyConfig_s : (quietSel (bodyOf Tryz.f59) && Nat.ble 1 Tryz.f59.ntmps) = true := by kernel_rfl

theorem C_ref08_CopyConfig {x1 : Int} {s2a : Option Addr} {s2l : Nat} {s2c : Nat} {s3a : Option Addr} {s3l : Nat} {s3c : Nat} {w : World} {R : Ending → World → Prop} (h : T_ref08_CopyConfig x1 s2a s2l s2c s3a s3l s3c w R) : Calls Tryz.prog 59 #[.agg #[.int .i64 x1, .slice s2a s2l s2c, .slice s3a s3l s3c]] w R :=
  calls_of_text (args := [.agg #[.int .i64 x1, .slice s2a s2l s2c, .slice s3a s3l s3c]]) mixed Tryz.func59 T_ref08_CopyConfig_b T_ref08_CopyConfig_s (HOk_of _ _ (by rw [T_ref08_CopyConfig_hl]; exact ⟨T_ref08_CopyConfig_1_ok, trivial⟩)) (by rw [T_ref08_CopyConfig_eq]; exact h)

/-! tollgate/tollgateref08.act -/
def T_ref08_act_1_body (X : Bool → Option Addr → Nat → Nat → Int → World → Prop) (there16 : Bool) (pools17a : Option Addr) (pools17l : Nat) (pools17c : Nat) (i18 : Int) (c19 : Addr) (x20 : Addr) (w : World) (Kn : Bool → Option Addr → Nat → Nat → World → Prop) (Kp : List PanicEntry → World → Prop)  : Prop :=
  ∃ s21a : Option Addr, ∃ s21l : Nat, ∃ s21c : Nat, rd w (c19.add 2) (.slice s21a s21l s21c) ∧ if (decide ((i18 : Int) < ((s21l : Nat) : Int))) = true then (let w22 : World := w.drew
  ∃ s23a : Option Addr, ∃ s23l : Nat, ∃ s23c : Nat, rd w22 (c19.add 2) (.slice s23a s23l s23c) ∧ 0 ≤ (i18 : Int) ∧ (i18 : Int) < ((s23l : Nat) : Int) ∧ ∃ b24, s23a = some b24 ∧ ∃ s25 : ByteArray, rd w22 (b24.add ((i18 : Int).toNat * 2)) (.string s25) ∧ ∃ s26 : ByteArray, rd w22 (x20.add 6) (.string s26) ∧ if (s25.toList == s26.toList) = true then (X true pools17a pools17l pools17c (IntKind.wrap .i64 ((i18 : Int) + 1)) w22) else (∃ s27a : Option Addr, ∃ s27l : Nat, ∃ s27c : Nat, rd w22 (c19.add 2) (.slice s27a s27l s27c) ∧ 0 ≤ (i18 : Int) ∧ (i18 : Int) < ((s27l : Nat) : Int) ∧ ∃ b28, s27a = some b28 ∧ ∃ s29 : ByteArray, ∃ s30a : Option Addr, ∃ s30l : Nat, ∃ s30c : Nat, rd w22 (b28.add ((i18 : Int).toNat * 2)) (.agg #[.string s29, .slice s30a s30l s30c]) ∧ let w31 : World := w22.alloc (.cells #[.string s29, .slice s30a s30l s30c] 34)
  runV Tryz.prog (Builtin.append_ #[28, 28] 28 #[.slice pools17a pools17l pools17c, .slice (some (⟨w22.heap.size, 0, none⟩ : Addr)) 1 1]) w31 (fun r32 w33 => ∃ s34a : Option Addr, ∃ s34l : Nat, ∃ s34c : Nat, r32 = .slice s34a s34l s34c ∧ X there16 s34a s34l s34c (IntKind.wrap .i64 ((i18 : Int) + 1)) w33) Kp)) else (Kn there16 pools17a pools17l pools17c w)

def T_ref08_act_1 (there16 : Bool) (pools17a : Option Addr) (pools17l : Nat) (pools17c : Nat) (i18 : Int) (c19 : Addr) (x20 : Addr) (w : World) (Kn : Bool → Option Addr → Nat → Nat → World → Prop) (Kp : List PanicEntry → World → Prop) : Prop :=
  ∀ X : Bool → Option Addr → Nat → Nat → Int → World → Prop, (∀ (there16 : Bool) (pools17a : Option Addr) (pools17l : Nat) (pools17c : Nat) (i18 : Int) (w : World), T_ref08_act_1_body X there16 pools17a pools17l pools17c i18 c19 x20 w Kn Kp → X there16 pools17a pools17l pools17c i18 w) → X there16 pools17a pools17l pools17c i18 w

def T_ref08_act_1_outs : Exit → Option (List (Nat × Value)) := fun x => match x with | .normal => some [(6, .bool false), (8, .slice none 0 0)] | .panic _ => some [] | _ => none

def T_ref08_act_1_ks : Nat → Bool := ksOf [6, 8, 9, 15, 16, 17, 18, 19, 20, 21, 22, 23, 24, 25, 26, 27, 28, 29, 30, 31, 32, 33, 34, 35, 36, 37, 38]

def H_ref08_act_1 : Env → World → QT → Prop := unitHook 155 T_ref08_act_1_ks [(6, .bool false), (8, .slice none 0 0), (9, .int .i64 0), (2, .pointer (some ⟨0, 0, none⟩)), (3, .pointer (some ⟨0, 0, none⟩))] T_ref08_act_1_outs fun l w C => match l with | [v0, v1, v2, v3, v4] => T_ref08_act_1 (pBool v0) (pA v1) (pL v1) (pC v1) (pInt v2) (pAddr v3) (pAddr v4) w (fun there37 pools38a pools38l pools38c w => C .normal [.bool there37, .slice pools38a pools38l pools38c] w) (fun ch w => C (.panic ch) [] w) | _ => False

theorem T_ref08_act_1_hl : allP (hokL Tryz.prog (hookAt []) (at_ (bodyOf Tryz.f61) [1, 1, 1, 0, 1, 0, 0]) 244) = (True) := by kernel_rfl
theorem T_ref08_act_1_hok : HOk Tryz.prog (hookAt []) (at_ (bodyOf Tryz.f61) [1, 1, 1, 0, 1, 0, 0]) 244 := HOk_of _ _ (by rw [T_ref08_act_1_hl]; exact trivial)

theorem T_ref08_act_1_eq (C : Conts) (X : List Value → World → Prop) (there16 : Bool) (pools17a : Option Addr) (pools17l : Nat) (pools17c : Nat) (i18 : Int) (c19 : Addr) (x20 : Addr) (w : World) : vcCode Tryz.prog (hookAt []) (at_ (bodyOf Tryz.f61) [1, 1, 1, 0, 1, 0, 0]) 244 ⟨[(6, .bool there16), (8, .slice pools17a pools17l pools17c), (9, .int .i64 i18)] ++ [(2, .pointer (some c19)), (3, .pointer (some x20))], 155, []⟩ w (seqQ (fun e w => takeAll e [(6, .bool false), (8, .slice none 0 0), (9, .int .i64 0)] fun l => X l w) (blockQ 0 (unitQ T_ref08_act_1_outs C))) = T_ref08_act_1_body (fun there16 pools17a pools17l pools17c i18 w => X [.bool there16, .slice pools17a pools17l pools17c, .int .i64 i18] w) there16 pools17a pools17l pools17c i18 c19 x20 w (fun there39 pools40a pools40l pools40c w => C .normal [.bool there39, .slice pools40a pools40l pools40c] w) (fun ch w => C (.panic ch) [] w) := by kernel_rfl

theorem T_ref08_act_1_ok : UnitOk Tryz.prog H_ref08_act_1 (at_ (bodyOf Tryz.f61) [1, 1, 1, 0, 1]) 61 := by
  have hc : at_ (bodyOf Tryz.f61) [1, 1, 1, 0, 1] = .block 0 (.loop (at_ (bodyOf Tryz.f61) [1, 1, 1, 0, 1, 0, 0])) := by kernel_rfl
  rw [hc]
  refine loop_unit_ok (carr := [(6, .bool false), (8, .slice none 0 0), (9, .int .i64 0)]) (fix := [(2, .pointer (some ⟨0, 0, none⟩)), (3, .pointer (some ⟨0, 0, none⟩))]) (ks := T_ref08_act_1_ks) (H := (hookAt [])) (B := fun C X l u w => match l, u with | [v0, v1, v2], [v3, v4] => T_ref08_act_1_body (fun there16 pools17a pools17l pools17c i18 w => X [.bool there16, .slice pools17a pools17l pools17c, .int .i64 i18] w) (pBool v0) (pA v1) (pL v1) (pC v1) (pInt v2) (pAddr v3) (pAddr v4) w (fun there41 pools42a pools42l pools42c w => C .normal [.bool there41, .slice pools42a pools42l pools42c] w) (fun ch w => C (.panic ch) [] w) | _, _ => False) (by kernel_rfl) (by kernel_rfl) T_ref08_act_1_hok ?_ ?_
  · intro C X l u w hl hu
    obtain ⟨v0, l_v0, rfl, k_v0, hl_v0⟩ := Kinds.cons_ hl
    obtain ⟨there16, rfl⟩ := kind_bool k_v0
    obtain ⟨v1, l_v1, rfl, k_v1, hl_v1⟩ := Kinds.cons_ hl_v0
    obtain ⟨pools17a, pools17l, pools17c, rfl⟩ := kind_slice k_v1
    obtain ⟨v2, l_v2, rfl, k_v2, hl_v2⟩ := Kinds.cons_ hl_v1
    obtain ⟨i18, rfl⟩ := kind_int k_v2
    obtain rfl := Kinds.nil_ hl_v2
    obtain ⟨v3, l_v3, rfl, k_v3, hu_v3⟩ := Kinds.cons_ hu
    obtain ⟨c19, rfl⟩ := kind_addr k_v3
    obtain ⟨v4, l_v4, rfl, k_v4, hu_v4⟩ := Kinds.cons_ hu_v3
    obtain ⟨x20, rfl⟩ := kind_addr k_v4
    obtain rfl := Kinds.nil_ hu_v4
    exact T_ref08_act_1_eq C X there16 pools17a pools17l pools17c i18 c19 x20 w
  · intro l u w C hl hu
    obtain ⟨v0, l_v0, rfl, k_v0, hl_v0⟩ := Kinds.cons_ hl
    obtain ⟨there16, rfl⟩ := kind_bool k_v0
    obtain ⟨v1, l_v1, rfl, k_v1, hl_v1⟩ := Kinds.cons_ hl_v0
    obtain ⟨pools17a, pools17l, pools17c, rfl⟩ := kind_slice k_v1
    obtain ⟨v2, l_v2, rfl, k_v2, hl_v2⟩ := Kinds.cons_ hl_v1
    obtain ⟨i18, rfl⟩ := kind_int k_v2
    obtain rfl := Kinds.nil_ hl_v2
    obtain ⟨v3, l_v3, rfl, k_v3, hu_v3⟩ := Kinds.cons_ hu
    obtain ⟨c19, rfl⟩ := kind_addr k_v3
    obtain ⟨v4, l_v4, rfl, k_v4, hu_v4⟩ := Kinds.cons_ hu_v3
    obtain ⟨x20, rfl⟩ := kind_addr k_v4
    obtain rfl := Kinds.nil_ hu_v4
    constructor
    · intro h X hX
      exact h (fun there16 pools17a pools17l pools17c i18 w => X [.bool there16, .slice pools17a pools17l pools17c, .int .i64 i18] w) (fun there16 pools17a pools17l pools17c i18 w hb => hX [.bool there16, .slice pools17a pools17l pools17c, .int .i64 i18] w ⟨rfl, rfl, rfl, trivial⟩ hb)
    · intro h X hX
      exact h (fun l w => match l with | [v0, v1, v2] => X (pBool v0) (pA v1) (pL v1) (pC v1) (pInt v2) w | _ => True) (fun l w hl hb => by
        obtain ⟨v0, l_v0, rfl, k_v0, hl_v0⟩ := Kinds.cons_ hl
        obtain ⟨there16, rfl⟩ := kind_bool k_v0
        obtain ⟨v1, l_v1, rfl, k_v1, hl_v1⟩ := Kinds.cons_ hl_v0
        obtain ⟨pools17a, pools17l, pools17c, rfl⟩ := kind_slice k_v1
        obtain ⟨v2, l_v2, rfl, k_v2, hl_v2⟩ := Kinds.cons_ hl_v1
        obtain ⟨i18, rfl⟩ := kind_int k_v2
        obtain rfl := Kinds.nil_ hl_v2
        exact hX there16 pools17a pools17l pools17c i18 w hb)

def T_ref08_act_3 (c54 : Addr) (x55 : Addr) (used56 : Bool) (i57 : Int) (w : World) (Kn : Bool → World → Prop) (Kp : List PanicEntry → World → Prop) : Prop :=
  let w58 : World := w.drew
  if used56 = true then (Kn true w58) else (∃ s59a : Option Addr, ∃ s59l : Nat, ∃ s59c : Nat, rd w58 (c54.add 1) (.slice s59a s59l s59c) ∧ 0 ≤ (i57 : Int) ∧ (i57 : Int) < ((s59l : Nat) : Int) ∧ ∃ b60, s59a = some b60 ∧ ∃ s61 : ByteArray, rd w58 ((b60.add ((i57 : Int).toNat * 3)).add 2) (.string s61) ∧ ∃ s62 : ByteArray, rd w58 (x55.add 6) (.string s62) ∧ Kn (s61.toList == s62.toList) w58)

def T_ref08_act_3_outs : Exit → Option (List (Nat × Value)) := fun x => match x with | .normal => some [(7, .bool false)] | .panic _ => some [] | _ => none

def T_ref08_act_3_ks : Nat → Bool := ksOf [7, 47, 48, 49, 50, 51, 52, 53, 54, 55, 56, 57, 58]

def H_ref08_act_3 : Env → World → QT → Prop := unitHook 155 T_ref08_act_3_ks [(2, .pointer (some ⟨0, 0, none⟩)), (3, .pointer (some ⟨0, 0, none⟩)), (7, .bool false), (12, .int .i64 0)] T_ref08_act_3_outs fun l w C => match l with | [v0, v1, v2, v3] => T_ref08_act_3 (pAddr v0) (pAddr v1) (pBool v2) (pInt v3) w (fun used64 w => C .normal [.bool used64] w) (fun ch w => C (.panic ch) [] w) | _ => False

theorem T_ref08_act_3_hl : allP (hokL Tryz.prog (hookAt []) (at_ (bodyOf Tryz.f61) [1, 1, 1, 1, 1, 1, 0, 1, 0, 0, 1, 0, 0, 0]) 32584) = (True) := by kernel_rfl
theorem T_ref08_act_3_hok : HOk Tryz.prog (hookAt []) (at_ (bodyOf Tryz.f61) [1, 1, 1, 1, 1, 1, 0, 1, 0, 0, 1, 0, 0, 0]) 32584 := HOk_of _ _ (by rw [T_ref08_act_3_hl]; exact trivial)

theorem T_ref08_act_3_eq (C : Conts) (c54 : Addr) (x55 : Addr) (used56 : Bool) (i57 : Int) (w : World) : vcCode Tryz.prog (hookAt []) (at_ (bodyOf Tryz.f61) [1, 1, 1, 1, 1, 1, 0, 1, 0, 0, 1, 0, 0, 0]) 32584 ⟨[(2, .pointer (some c54)), (3, .pointer (some x55)), (7, .bool used56), (12, .int .i64 i57)], 155, []⟩ w (unitQ T_ref08_act_3_outs C) = T_ref08_act_3 c54 x55 used56 i57 w (fun used65 w => C .normal [.bool used65] w) (fun ch w => C (.panic ch) [] w) := by kernel_rfl

theorem T_ref08_act_3_ok : UnitOk Tryz.prog H_ref08_act_3 (at_ (bodyOf Tryz.f61) [1, 1, 1, 1, 1, 1, 0, 1, 0, 0, 1, 0, 0, 0]) 32584 := unit_ok (H := (hookAt [])) (by kernel_rfl) T_ref08_act_3_hok fun l w C hk => by
    obtain ⟨v0, l_v0, rfl, k_v0, hk_v0⟩ := Kinds.cons_ hk
    obtain ⟨c54, rfl⟩ := kind_addr k_v0
    obtain ⟨v1, l_v1, rfl, k_v1, hk_v1⟩ := Kinds.cons_ hk_v0
    obtain ⟨x55, rfl⟩ := kind_addr k_v1
    obtain ⟨v2, l_v2, rfl, k_v2, hk_v2⟩ := Kinds.cons_ hk_v1
    obtain ⟨used56, rfl⟩ := kind_bool k_v2
    obtain ⟨v3, l_v3, rfl, k_v3, hk_v3⟩ := Kinds.cons_ hk_v2
    obtain ⟨i57, rfl⟩ := kind_int k_v3
    obtain rfl := Kinds.nil_ hk_v3
    exact T_ref08_act_3_eq C c54 x55 used56 i57 w

def T_ref08_act_4 (c68 : Addr) (x69 : Addr) (i70 : Int) (w : World) (Kn : Bool → World → Prop) (Kp : List PanicEntry → World → Prop) : Prop :=
  let w71 : World := w.drew
  ∃ s72a : Option Addr, ∃ s72l : Nat, ∃ s72c : Nat, rd w71 (c68.add 1) (.slice s72a s72l s72c) ∧ 0 ≤ (i70 : Int) ∧ (i70 : Int) < ((s72l : Nat) : Int) ∧ ∃ b73, s72a = some b73 ∧ ∃ s74 : ByteArray, rd w71 (b73.add ((i70 : Int).toNat * 3)) (.string s74) ∧ ∃ s75 : ByteArray, rd w71 (x69.add 4) (.string s75) ∧ if (s74.toList == s75.toList) = true then (∃ s76a : Option Addr, ∃ s76l : Nat, ∃ s76c : Nat, rd w71 (c68.add 1) (.slice s76a s76l s76c) ∧ 0 ≤ (i70 : Int) ∧ (i70 : Int) < ((s76l : Nat) : Int) ∧ ∃ b77, s76a = some b77 ∧ ∃ s78 : ByteArray, rd w71 ((b77.add ((i70 : Int).toNat * 3)).add 1) (.string s78) ∧ ∃ s79 : ByteArray, rd w71 (x69.add 5) (.string s79) ∧ Kn (s78.toList == s79.toList) w71) else (Kn false w71)

def T_ref08_act_4_outs : Exit → Option (List (Nat × Value)) := fun x => match x with | .normal => some [(78, .bool false)] | .panic _ => some [] | _ => none

def T_ref08_act_4_ks : Nat → Bool := ksOf [59, 60, 61, 62, 63, 64, 65, 66, 67, 68, 69, 70, 71, 72, 73, 74, 75, 76, 77, 78]

def H_ref08_act_4 : Env → World → QT → Prop := unitHook 155 T_ref08_act_4_ks [(2, .pointer (some ⟨0, 0, none⟩)), (3, .pointer (some ⟨0, 0, none⟩)), (12, .int .i64 0)] T_ref08_act_4_outs fun l w C => match l with | [v0, v1, v2] => T_ref08_act_4 (pAddr v0) (pAddr v1) (pInt v2) w (fun b81 w => C .normal [.bool b81] w) (fun ch w => C (.panic ch) [] w) | _ => False

theorem T_ref08_act_4_hl : allP (hokL Tryz.prog (hookAt []) (at_ (bodyOf Tryz.f61) [1, 1, 1, 1, 1, 1, 0, 1, 0, 0, 1, 0, 0, 1, 0]) 65170) = (True) := by kernel_rfl
theorem T_ref08_act_4_hok : HOk Tryz.prog (hookAt []) (at_ (bodyOf Tryz.f61) [1, 1, 1, 1, 1, 1, 0, 1, 0, 0, 1, 0, 0, 1, 0]) 65170 := HOk_of _ _ (by rw [T_ref08_act_4_hl]; exact trivial)

theorem T_ref08_act_4_eq (C : Conts) (c68 : Addr) (x69 : Addr) (i70 : Int) (w : World) : vcCode Tryz.prog (hookAt []) (at_ (bodyOf Tryz.f61) [1, 1, 1, 1, 1, 1, 0, 1, 0, 0, 1, 0, 0, 1, 0]) 65170 ⟨[(2, .pointer (some c68)), (3, .pointer (some x69)), (12, .int .i64 i70)], 155, []⟩ w (unitQ T_ref08_act_4_outs C) = T_ref08_act_4 c68 x69 i70 w (fun b82 w => C .normal [.bool b82] w) (fun ch w => C (.panic ch) [] w) := by kernel_rfl

theorem T_ref08_act_4_ok : UnitOk Tryz.prog H_ref08_act_4 (at_ (bodyOf Tryz.f61) [1, 1, 1, 1, 1, 1, 0, 1, 0, 0, 1, 0, 0, 1, 0]) 65170 := unit_ok (H := (hookAt [])) (by kernel_rfl) T_ref08_act_4_hok fun l w C hk => by
    obtain ⟨v0, l_v0, rfl, k_v0, hk_v0⟩ := Kinds.cons_ hk
    obtain ⟨c68, rfl⟩ := kind_addr k_v0
    obtain ⟨v1, l_v1, rfl, k_v1, hk_v1⟩ := Kinds.cons_ hk_v0
    obtain ⟨x69, rfl⟩ := kind_addr k_v1
    obtain ⟨v2, l_v2, rfl, k_v2, hk_v2⟩ := Kinds.cons_ hk_v1
    obtain ⟨i70, rfl⟩ := kind_int k_v2
    obtain rfl := Kinds.nil_ hk_v2
    exact T_ref08_act_4_eq C c68 x69 i70 w

def T_ref08_act_2_body (X : Bool → Bool → Option Addr → Nat → Nat → Int → World → Prop) (used47 : Bool) (known48 : Bool) (routes49a : Option Addr) (routes49l : Nat) (routes49c : Nat) (i50 : Int) (c51 : Addr) (x52 : Addr) (w : World) (Kn : Bool → Bool → Option Addr → Nat → Nat → World → Prop) (Kp : List PanicEntry → World → Prop)  : Prop :=
  ∃ s53a : Option Addr, ∃ s53l : Nat, ∃ s53c : Nat, rd w (c51.add 1) (.slice s53a s53l s53c) ∧ if (decide ((i50 : Int) < ((s53l : Nat) : Int))) = true then (T_ref08_act_3 c51 x52 used47 i50 w (fun used66 w67 => T_ref08_act_4 c51 x52 i50 w67 (fun b83 w84 => if b83 = true then (X used66 true routes49a routes49l routes49c (IntKind.wrap .i64 ((i50 : Int) + 1)) w84) else (∃ s85a : Option Addr, ∃ s85l : Nat, ∃ s85c : Nat, rd w84 (c51.add 1) (.slice s85a s85l s85c) ∧ 0 ≤ (i50 : Int) ∧ (i50 : Int) < ((s85l : Nat) : Int) ∧ ∃ b86, s85a = some b86 ∧ ∃ s87 : ByteArray, ∃ s88 : ByteArray, ∃ s89 : ByteArray, rd w84 (b86.add ((i50 : Int).toNat * 3)) (.agg #[.string s87, .string s88, .string s89]) ∧ let w90 : World := w84.alloc (.cells #[.string s87, .string s88, .string s89] 36)
  runV Tryz.prog (Builtin.append_ #[27, 27] 27 #[.slice routes49a routes49l routes49c, .slice (some (⟨w84.heap.size, 0, none⟩ : Addr)) 1 1]) w90 (fun r91 w92 => ∃ s93a : Option Addr, ∃ s93l : Nat, ∃ s93c : Nat, r91 = .slice s93a s93l s93c ∧ X used66 known48 s93a s93l s93c (IntKind.wrap .i64 ((i50 : Int) + 1)) w92) Kp)) Kp) Kp) else (Kn used47 known48 routes49a routes49l routes49c w)

def T_ref08_act_2 (used47 : Bool) (known48 : Bool) (routes49a : Option Addr) (routes49l : Nat) (routes49c : Nat) (i50 : Int) (c51 : Addr) (x52 : Addr) (w : World) (Kn : Bool → Bool → Option Addr → Nat → Nat → World → Prop) (Kp : List PanicEntry → World → Prop) : Prop :=
  ∀ X : Bool → Bool → Option Addr → Nat → Nat → Int → World → Prop, (∀ (used47 : Bool) (known48 : Bool) (routes49a : Option Addr) (routes49l : Nat) (routes49c : Nat) (i50 : Int) (w : World), T_ref08_act_2_body X used47 known48 routes49a routes49l routes49c i50 c51 x52 w Kn Kp → X used47 known48 routes49a routes49l routes49c i50 w) → X used47 known48 routes49a routes49l routes49c i50 w

def T_ref08_act_2_outs : Exit → Option (List (Nat × Value)) := fun x => match x with | .normal => some [(7, .bool false), (10, .bool false), (11, .slice none 0 0)] | .panic _ => some [] | _ => none

def T_ref08_act_2_ks : Nat → Bool := ksOf [7, 10, 11, 12, 40, 41, 42, 43, 44, 45, 46, 47, 48, 49, 50, 51, 52, 53, 54, 55, 56, 57, 58, 59, 60, 61, 62, 63, 64, 65, 66, 67, 68, 69, 70, 71, 72, 73, 74, 75, 76, 77, 78, 79, 80, 81, 82, 83, 84, 85, 86]

def H_ref08_act_2 : Env → World → QT → Prop := unitHook 155 T_ref08_act_2_ks [(7, .bool false), (10, .bool false), (11, .slice none 0 0), (12, .int .i64 0), (2, .pointer (some ⟨0, 0, none⟩)), (3, .pointer (some ⟨0, 0, none⟩))] T_ref08_act_2_outs fun l w C => match l with | [v0, v1, v2, v3, v4, v5] => T_ref08_act_2 (pBool v0) (pBool v1) (pA v2) (pL v2) (pC v2) (pInt v3) (pAddr v4) (pAddr v5) w (fun used97 known98 routes99a routes99l routes99c w => C .normal [.bool used97, .bool known98, .slice routes99a routes99l routes99c] w) (fun ch w => C (.panic ch) [] w) | _ => False

theorem T_ref08_act_2_hl : allP (hokL Tryz.prog (hookAt [(32584, H_ref08_act_3), (65170, H_ref08_act_4)]) (at_ (bodyOf Tryz.f61) [1, 1, 1, 1, 1, 1, 0, 1, 0, 0]) 2036) = (UnitOk Tryz.prog H_ref08_act_3 (at_ (bodyOf Tryz.f61) [1, 1, 1, 1, 1, 1, 0, 1, 0, 0, 1, 0, 0, 0]) 32584 ∧ UnitOk Tryz.prog H_ref08_act_4 (at_ (bodyOf Tryz.f61) [1, 1, 1, 1, 1, 1, 0, 1, 0, 0, 1, 0, 0, 1, 0]) 65170 ∧ True) := by kernel_rfl
theorem T_ref08_act_2_hok : HOk Tryz.prog (hookAt [(32584, H_ref08_act_3), (65170, H_ref08_act_4)]) (at_ (bodyOf Tryz.f61) [1, 1, 1, 1, 1, 1, 0, 1, 0, 0]) 2036 := HOk_of _ _ (by rw [T_ref08_act_2_hl]; exact ⟨T_ref08_act_3_ok, T_ref08_act_4_ok, trivial⟩)

theorem T_ref08_act_2_eq (C : Conts) (X : List Value → World → Prop) (used47 : Bool) (known48 : Bool) (routes49a : Option Addr) (routes49l : Nat) (routes49c : Nat) (i50 : Int) (c51 : Addr) (x52 : Addr) (w : World) : vcCode Tryz.prog (hookAt [(32584, H_ref08_act_3), (65170, H_ref08_act_4)]) (at_ (bodyOf Tryz.f61) [1, 1, 1, 1, 1, 1, 0, 1, 0, 0]) 2036 ⟨[(7, .bool used47), (10, .bool known48), (11, .slice routes49a routes49l routes49c), (12, .int .i64 i50)] ++ [(2, .pointer (some c51)), (3, .pointer (some x52))], 155, []⟩ w (seqQ (fun e w => takeAll e [(7, .bool false), (10, .bool false), (11, .slice none 0 0), (12, .int .i64 0)] fun l => X l w) (blockQ 2 (unitQ T_ref08_act_2_outs C))) = T_ref08_act_2_body (fun used47 known48 routes49a routes49l routes49c i50 w => X [.bool used47, .bool known48, .slice routes49a routes49l routes49c, .int .i64 i50] w) used47 known48 routes49a routes49l routes49c i50 c51 x52 w (fun used100 known101 routes102a routes102l routes102c w => C .normal [.bool used100, .bool known101, .slice routes102a routes102l routes102c] w) (fun ch w => C (.panic ch) [] w) := by kernel_rfl

theorem T_ref08_act_2_ok : UnitOk Tryz.prog H_ref08_act_2 (at_ (bodyOf Tryz.f61) [1, 1, 1, 1, 1, 1, 0, 1]) 509 := by
  have hc : at_ (bodyOf Tryz.f61) [1, 1, 1, 1, 1, 1, 0, 1] = .block 2 (.loop (at_ (bodyOf Tryz.f61) [1, 1, 1, 1, 1, 1, 0, 1, 0, 0])) := by kernel_rfl
  rw [hc]
  refine loop_unit_ok (carr := [(7, .bool false), (10, .bool false), (11, .slice none 0 0), (12, .int .i64 0)]) (fix := [(2, .pointer (some ⟨0, 0, none⟩)), (3, .pointer (some ⟨0, 0, none⟩))]) (ks := T_ref08_act_2_ks) (H := (hookAt [(32584, H_ref08_act_3), (65170, H_ref08_act_4)])) (B := fun C X l u w => match l, u with | [v0, v1, v2, v3], [v4, v5] => T_ref08_act_2_body (fun used47 known48 routes49a routes49l routes49c i50 w => X [.bool used47, .bool known48, .slice routes49a routes49l routes49c, .int .i64 i50] w) (pBool v0) (pBool v1) (pA v2) (pL v2) (pC v2) (pInt v3) (pAddr v4) (pAddr v5) w (fun used103 known104 routes105a routes105l routes105c w => C .normal [.bool used103, .bool known104, .slice routes105a routes105l routes105c] w) (fun ch w => C (.panic ch) [] w) | _, _ => False) (by kernel_rfl) (by kernel_rfl) T_ref08_act_2_hok ?_ ?_
  · intro C X l u w hl hu
    obtain ⟨v0, l_v0, rfl, k_v0, hl_v0⟩ := Kinds.cons_ hl
    obtain ⟨used47, rfl⟩ := kind_bool k_v0
    obtain ⟨v1, l_v1, rfl, k_v1, hl_v1⟩ := Kinds.cons_ hl_v0
    obtain ⟨known48, rfl⟩ := kind_bool k_v1
    obtain ⟨v2, l_v2, rfl, k_v2, hl_v2⟩ := Kinds.cons_ hl_v1
    obtain ⟨routes49a, routes49l, routes49c, rfl⟩ := kind_slice k_v2
    obtain ⟨v3, l_v3, rfl, k_v3, hl_v3⟩ := Kinds.cons_ hl_v2
    obtain ⟨i50, rfl⟩ := kind_int k_v3
    obtain rfl := Kinds.nil_ hl_v3
    obtain ⟨v4, l_v4, rfl, k_v4, hu_v4⟩ := Kinds.cons_ hu
    obtain ⟨c51, rfl⟩ := kind_addr k_v4
    obtain ⟨v5, l_v5, rfl, k_v5, hu_v5⟩ := Kinds.cons_ hu_v4
    obtain ⟨x52, rfl⟩ := kind_addr k_v5
    obtain rfl := Kinds.nil_ hu_v5
    exact T_ref08_act_2_eq C X used47 known48 routes49a routes49l routes49c i50 c51 x52 w
  · intro l u w C hl hu
    obtain ⟨v0, l_v0, rfl, k_v0, hl_v0⟩ := Kinds.cons_ hl
    obtain ⟨used47, rfl⟩ := kind_bool k_v0
    obtain ⟨v1, l_v1, rfl, k_v1, hl_v1⟩ := Kinds.cons_ hl_v0
    obtain ⟨known48, rfl⟩ := kind_bool k_v1
    obtain ⟨v2, l_v2, rfl, k_v2, hl_v2⟩ := Kinds.cons_ hl_v1
    obtain ⟨routes49a, routes49l, routes49c, rfl⟩ := kind_slice k_v2
    obtain ⟨v3, l_v3, rfl, k_v3, hl_v3⟩ := Kinds.cons_ hl_v2
    obtain ⟨i50, rfl⟩ := kind_int k_v3
    obtain rfl := Kinds.nil_ hl_v3
    obtain ⟨v4, l_v4, rfl, k_v4, hu_v4⟩ := Kinds.cons_ hu
    obtain ⟨c51, rfl⟩ := kind_addr k_v4
    obtain ⟨v5, l_v5, rfl, k_v5, hu_v5⟩ := Kinds.cons_ hu_v4
    obtain ⟨x52, rfl⟩ := kind_addr k_v5
    obtain rfl := Kinds.nil_ hu_v5
    constructor
    · intro h X hX
      exact h (fun used47 known48 routes49a routes49l routes49c i50 w => X [.bool used47, .bool known48, .slice routes49a routes49l routes49c, .int .i64 i50] w) (fun used47 known48 routes49a routes49l routes49c i50 w hb => hX [.bool used47, .bool known48, .slice routes49a routes49l routes49c, .int .i64 i50] w ⟨rfl, rfl, rfl, rfl, trivial⟩ hb)
    · intro h X hX
      exact h (fun l w => match l with | [v0, v1, v2, v3] => X (pBool v0) (pBool v1) (pA v2) (pL v2) (pC v2) (pInt v3) w | _ => True) (fun l w hl hb => by
        obtain ⟨v0, l_v0, rfl, k_v0, hl_v0⟩ := Kinds.cons_ hl
        obtain ⟨used47, rfl⟩ := kind_bool k_v0
        obtain ⟨v1, l_v1, rfl, k_v1, hl_v1⟩ := Kinds.cons_ hl_v0
        obtain ⟨known48, rfl⟩ := kind_bool k_v1
        obtain ⟨v2, l_v2, rfl, k_v2, hl_v2⟩ := Kinds.cons_ hl_v1
        obtain ⟨routes49a, routes49l, routes49c, rfl⟩ := kind_slice k_v2
        obtain ⟨v3, l_v3, rfl, k_v3, hl_v3⟩ := Kinds.cons_ hl_v2
        obtain ⟨i50, rfl⟩ := kind_int k_v3
        obtain rfl := Kinds.nil_ hl_v3
        exact hX used47 known48 routes49a routes49l routes49c i50 w hb)

def T_ref08_act_6 (c126 : Addr) (there127 : Bool) (w : World) (Kn : Bool → World → Prop) (Kp : List PanicEntry → World → Prop) : Prop :=
  if (!there127) = true then (∃ s128a : Option Addr, ∃ s128l : Nat, ∃ s128c : Nat, rd w (c126.add 2) (.slice s128a s128l s128c) ∧ Kn (decide (((s128l : Nat) : Int) ≥ 32)) w) else (Kn false w)

def T_ref08_act_6_outs : Exit → Option (List (Nat × Value)) := fun x => match x with | .normal => some [(104, .bool false)] | .panic _ => some [] | _ => none

def T_ref08_act_6_ks : Nat → Bool := ksOf [97, 98, 99, 100, 101, 102, 103, 104]

def H_ref08_act_6 : Env → World → QT → Prop := unitHook 155 T_ref08_act_6_ks [(2, .pointer (some ⟨0, 0, none⟩)), (6, .bool false)] T_ref08_act_6_outs fun l w C => match l with | [v0, v1] => T_ref08_act_6 (pAddr v0) (pBool v1) w (fun b130 w => C .normal [.bool b130] w) (fun ch w => C (.panic ch) [] w) | _ => False

theorem T_ref08_act_6_hl : allP (hokL Tryz.prog (hookAt []) (at_ (bodyOf Tryz.f61) [1, 1, 1, 1, 1, 1, 1, 1, 0, 1, 0, 1, 0, 0, 0]) 65448) = (True) := by kernel_rfl
theorem T_ref08_act_6_hok : HOk Tryz.prog (hookAt []) (at_ (bodyOf Tryz.f61) [1, 1, 1, 1, 1, 1, 1, 1, 0, 1, 0, 1, 0, 0, 0]) 65448 := HOk_of _ _ (by rw [T_ref08_act_6_hl]; exact trivial)

theorem T_ref08_act_6_eq (C : Conts) (c126 : Addr) (there127 : Bool) (w : World) : vcCode Tryz.prog (hookAt []) (at_ (bodyOf Tryz.f61) [1, 1, 1, 1, 1, 1, 1, 1, 0, 1, 0, 1, 0, 0, 0]) 65448 ⟨[(2, .pointer (some c126)), (6, .bool there127)], 155, []⟩ w (unitQ T_ref08_act_6_outs C) = T_ref08_act_6 c126 there127 w (fun b131 w => C .normal [.bool b131] w) (fun ch w => C (.panic ch) [] w) := by kernel_rfl

theorem T_ref08_act_6_ok : UnitOk Tryz.prog H_ref08_act_6 (at_ (bodyOf Tryz.f61) [1, 1, 1, 1, 1, 1, 1, 1, 0, 1, 0, 1, 0, 0, 0]) 65448 := unit_ok (H := (hookAt [])) (by kernel_rfl) T_ref08_act_6_hok fun l w C hk => by
    obtain ⟨v0, l_v0, rfl, k_v0, hk_v0⟩ := Kinds.cons_ hk
    obtain ⟨c126, rfl⟩ := kind_addr k_v0
    obtain ⟨v1, l_v1, rfl, k_v1, hk_v1⟩ := Kinds.cons_ hk_v0
    obtain ⟨there127, rfl⟩ := kind_bool k_v1
    obtain rfl := Kinds.nil_ hk_v1
    exact T_ref08_act_6_eq C c126 there127 w

def T_ref08_act_7 (c162 : Addr) (known163 : Bool) (w : World) (Kn : Bool → World → Prop) (Kp : List PanicEntry → World → Prop) : Prop :=
  if (!known163) = true then (∃ s164a : Option Addr, ∃ s164l : Nat, ∃ s164c : Nat, rd w (c162.add 1) (.slice s164a s164l s164c) ∧ Kn (decide (((s164l : Nat) : Int) ≥ 64)) w) else (Kn false w)

def T_ref08_act_7_outs : Exit → Option (List (Nat × Value)) := fun x => match x with | .normal => some [(137, .bool false)] | .panic _ => some [] | _ => none

def T_ref08_act_7_ks : Nat → Bool := ksOf [130, 131, 132, 133, 134, 135, 136, 137]

def H_ref08_act_7 : Env → World → QT → Prop := unitHook 155 T_ref08_act_7_ks [(2, .pointer (some ⟨0, 0, none⟩)), (10, .bool false)] T_ref08_act_7_outs fun l w C => match l with | [v0, v1] => T_ref08_act_7 (pAddr v0) (pBool v1) w (fun b166 w => C .normal [.bool b166] w) (fun ch w => C (.panic ch) [] w) | _ => False

theorem T_ref08_act_7_hl : allP (hokL Tryz.prog (hookAt []) (at_ (bodyOf Tryz.f61) [1, 1, 1, 1, 1, 1, 1, 1, 0, 1, 0, 1, 1, 1, 1, 1, 0, 1, 0, 0]) 2094580) = (True) := by kernel_rfl
theorem T_ref08_act_7_hok : HOk Tryz.prog (hookAt []) (at_ (bodyOf Tryz.f61) [1, 1, 1, 1, 1, 1, 1, 1, 0, 1, 0, 1, 1, 1, 1, 1, 0, 1, 0, 0]) 2094580 := HOk_of _ _ (by rw [T_ref08_act_7_hl]; exact trivial)

theorem T_ref08_act_7_eq (C : Conts) (c162 : Addr) (known163 : Bool) (w : World) : vcCode Tryz.prog (hookAt []) (at_ (bodyOf Tryz.f61) [1, 1, 1, 1, 1, 1, 1, 1, 0, 1, 0, 1, 1, 1, 1, 1, 0, 1, 0, 0]) 2094580 ⟨[(2, .pointer (some c162)), (10, .bool known163)], 155, []⟩ w (unitQ T_ref08_act_7_outs C) = T_ref08_act_7 c162 known163 w (fun b167 w => C .normal [.bool b167] w) (fun ch w => C (.panic ch) [] w) := by kernel_rfl

theorem T_ref08_act_7_ok : UnitOk Tryz.prog H_ref08_act_7 (at_ (bodyOf Tryz.f61) [1, 1, 1, 1, 1, 1, 1, 1, 0, 1, 0, 1, 1, 1, 1, 1, 0, 1, 0, 0]) 2094580 := unit_ok (H := (hookAt [])) (by kernel_rfl) T_ref08_act_7_hok fun l w C hk => by
    obtain ⟨v0, l_v0, rfl, k_v0, hk_v0⟩ := Kinds.cons_ hk
    obtain ⟨c162, rfl⟩ := kind_addr k_v0
    obtain ⟨v1, l_v1, rfl, k_v1, hk_v1⟩ := Kinds.cons_ hk_v0
    obtain ⟨known163, rfl⟩ := kind_bool k_v1
    obtain rfl := Kinds.nil_ hk_v1
    exact T_ref08_act_7_eq C c162 known163 w

def T_ref08_act_5 (c116 : Addr) (x117 : Addr) (a118 : Addr) (there119 : Bool) (used120 : Bool) (pools121a : Option Addr) (pools121l : Nat) (pools121c : Nat) (known122 : Bool) (routes123a : Option Addr) (routes123l : Nat) (routes123c : Nat) (out124 : Addr) (x125 : Int) (w : World) (Kn : World → Prop) (Kr : Int → World → Prop) (Kp : List PanicEntry → World → Prop) : Prop :=
  if ((x125 : Int) == 1) = true then (T_ref08_act_6 c116 there119 w (fun b132 w133 => if b132 = true then (∃ x134 : Int, ∃ s135a : Option Addr, ∃ s135l : Nat, ∃ s135c : Nat, ∃ s136a : Option Addr, ∃ s136l : Nat, ∃ s136c : Nat, rd w133 c116 (.agg #[.int .i64 x134, .slice s135a s135l s135c, .slice s136a s136l s136c]) ∧ (.agg #[.int .i64 x134, .slice s135a s135l s135c, .slice s136a s136l s136c] : Value).cells.size = 3 ∧ wrOk w133 a118 (.agg #[.int .i64 x134, .slice s135a s135l s135c, .slice s136a s136l s136c]) ∧ let w137 : World := wr w133 a118 (.agg #[.int .i64 x134, .slice s135a s135l s135c, .slice s136a s136l s136c])
  Kr 6 w137) else (let w138 : World := w133.drew
  ∃ s139 : ByteArray, rd w138 (x117.add 6) (.string s139) ∧ ∃ s140a : Option Addr, ∃ s140l : Nat, ∃ s140c : Nat, rd w138 (x117.add 7) (.slice s140a s140l s140c) ∧ let w141 : World := w138.alloc (.cells #[] 64)
  (rd w141 (x117.add 7) (.slice s140a s140l s140c) ∧ rd w141 (x117.add 6) (.string s139) ∧ True) ∧ runV Tryz.prog (Builtin.append_ #[32, 32] 32 #[.slice (some (⟨w138.heap.size, 0, none⟩ : Addr)) 0 0, .slice s140a s140l s140c]) w141 (fun r142 w143 => ∃ s144a : Option Addr, ∃ s144l : Nat, ∃ s144c : Nat, r142 = .slice s144a s144l s144c ∧ (rd w143 (x117.add 6) (.string s139) ∧ True) ∧ Calls Tryz.prog 99 #[.slice pools121a pools121l pools121c, .agg #[.string s139, .slice s144a s144l s144c]] w143 (ret (fun r145 w146 => ∃ s147a : Option Addr, ∃ s147l : Nat, ∃ s147c : Nat, r145 = .slice s147a s147l s147c ∧ (True) ∧ (.slice s147a s147l s147c : Value).cells.size = 1 ∧ wrOk w146 (out124.add 2) (.slice s147a s147l s147c) ∧ let w148 : World := wr w146 (out124.add 2) (.slice s147a s147l s147c)
  (True) ∧ Kn  w148) Kp)) Kp)) Kp) else (if ((x125 : Int) == 2) = true then (if (!there119) = true then (∃ x149 : Int, ∃ s150a : Option Addr, ∃ s150l : Nat, ∃ s150c : Nat, ∃ s151a : Option Addr, ∃ s151l : Nat, ∃ s151c : Nat, rd w c116 (.agg #[.int .i64 x149, .slice s150a s150l s150c, .slice s151a s151l s151c]) ∧ (.agg #[.int .i64 x149, .slice s150a s150l s150c, .slice s151a s151l s151c] : Value).cells.size = 3 ∧ wrOk w a118 (.agg #[.int .i64 x149, .slice s150a s150l s150c, .slice s151a s151l s151c]) ∧ let w152 : World := wr w a118 (.agg #[.int .i64 x149, .slice s150a s150l s150c, .slice s151a s151l s151c])
  Kr 8 w152) else (if used120 = true then (∃ x153 : Int, ∃ s154a : Option Addr, ∃ s154l : Nat, ∃ s154c : Nat, ∃ s155a : Option Addr, ∃ s155l : Nat, ∃ s155c : Nat, rd w c116 (.agg #[.int .i64 x153, .slice s154a s154l s154c, .slice s155a s155l s155c]) ∧ (.agg #[.int .i64 x153, .slice s154a s154l s154c, .slice s155a s155l s155c] : Value).cells.size = 3 ∧ wrOk w a118 (.agg #[.int .i64 x153, .slice s154a s154l s154c, .slice s155a s155l s155c]) ∧ let w156 : World := wr w a118 (.agg #[.int .i64 x153, .slice s154a s154l s154c, .slice s155a s155l s155c])
  Kr 13 w156) else ((.slice pools121a pools121l pools121c : Value).cells.size = 1 ∧ wrOk w (out124.add 2) (.slice pools121a pools121l pools121c) ∧ let w157 : World := wr w (out124.add 2) (.slice pools121a pools121l pools121c)
  Kn  w157))) else (if ((x125 : Int) == 3) = true then (if (!there119) = true then (∃ x158 : Int, ∃ s159a : Option Addr, ∃ s159l : Nat, ∃ s159c : Nat, ∃ s160a : Option Addr, ∃ s160l : Nat, ∃ s160c : Nat, rd w c116 (.agg #[.int .i64 x158, .slice s159a s159l s159c, .slice s160a s160l s160c]) ∧ (.agg #[.int .i64 x158, .slice s159a s159l s159c, .slice s160a s160l s160c] : Value).cells.size = 3 ∧ wrOk w a118 (.agg #[.int .i64 x158, .slice s159a s159l s159c, .slice s160a s160l s160c]) ∧ let w161 : World := wr w a118 (.agg #[.int .i64 x158, .slice s159a s159l s159c, .slice s160a s160l s160c])
  Kr 8 w161) else (T_ref08_act_7 c116 known122 w (fun b168 w169 => if b168 = true then (∃ x170 : Int, ∃ s171a : Option Addr, ∃ s171l : Nat, ∃ s171c : Nat, ∃ s172a : Option Addr, ∃ s172l : Nat, ∃ s172c : Nat, rd w169 c116 (.agg #[.int .i64 x170, .slice s171a s171l s171c, .slice s172a s172l s172c]) ∧ (.agg #[.int .i64 x170, .slice s171a s171l s171c, .slice s172a s172l s172c] : Value).cells.size = 3 ∧ wrOk w169 a118 (.agg #[.int .i64 x170, .slice s171a s171l s171c, .slice s172a s172l s172c]) ∧ let w173 : World := wr w169 a118 (.agg #[.int .i64 x170, .slice s171a s171l s171c, .slice s172a s172l s172c])
  Kr 6 w173) else (∃ s174 : ByteArray, rd w169 (x117.add 4) (.string s174) ∧ ∃ s175 : ByteArray, rd w169 (x117.add 5) (.string s175) ∧ ∃ s176 : ByteArray, rd w169 (x117.add 6) (.string s176) ∧ Calls Tryz.prog 100 #[.slice routes123a routes123l routes123c, .agg #[.string s174, .string s175, .string s176]] w169 (ret (fun r177 w178 => ∃ s179a : Option Addr, ∃ s179l : Nat, ∃ s179c : Nat, r177 = .slice s179a s179l s179c ∧ (.slice s179a s179l s179c : Value).cells.size = 1 ∧ wrOk w178 (out124.add 1) (.slice s179a s179l s179c) ∧ let w180 : World := wr w178 (out124.add 1) (.slice s179a s179l s179c)
  Kn  w180) Kp))) Kp)) else (if (!known122) = true then (∃ x181 : Int, ∃ s182a : Option Addr, ∃ s182l : Nat, ∃ s182c : Nat, ∃ s183a : Option Addr, ∃ s183l : Nat, ∃ s183c : Nat, rd w c116 (.agg #[.int .i64 x181, .slice s182a s182l s182c, .slice s183a s183l s183c]) ∧ (.agg #[.int .i64 x181, .slice s182a s182l s182c, .slice s183a s183l s183c] : Value).cells.size = 3 ∧ wrOk w a118 (.agg #[.int .i64 x181, .slice s182a s182l s182c, .slice s183a s183l s183c]) ∧ let w184 : World := wr w a118 (.agg #[.int .i64 x181, .slice s182a s182l s182c, .slice s183a s183l s183c])
  Kr 8 w184) else ((.slice routes123a routes123l routes123c : Value).cells.size = 1 ∧ wrOk w (out124.add 1) (.slice routes123a routes123l routes123c) ∧ let w185 : World := wr w (out124.add 1) (.slice routes123a routes123l routes123c)
  Kn  w185))))

def T_ref08_act_5_outs : Exit → Option (List (Nat × Value)) := fun x => match x with | .normal => some [] | .ret => some [(5, .int .i64 0)] | .panic _ => some [] | _ => none

def T_ref08_act_5_ks : Nat → Bool := ksOf [5, 90, 91, 92, 93, 94, 95, 96, 97, 98, 99, 100, 101, 102, 103, 104, 105, 106, 107, 108, 109, 110, 111, 112, 113, 114, 115, 116, 117, 118, 119, 120, 121, 122, 123, 124, 125, 126, 127, 128, 129, 130, 131, 132, 133, 134, 135, 136, 137, 138, 139, 140, 141, 142, 143, 144, 145, 146, 147, 148]

def H_ref08_act_5 : Env → World → QT → Prop := unitHook 155 T_ref08_act_5_ks [(2, .pointer (some ⟨0, 0, none⟩)), (3, .pointer (some ⟨0, 0, none⟩)), (4, .pointer (some ⟨0, 0, none⟩)), (6, .bool false), (7, .bool false), (8, .slice none 0 0), (10, .bool false), (11, .slice none 0 0), (13, .pointer (some ⟨0, 0, none⟩)), (89, .int .i64 0)] T_ref08_act_5_outs fun l w C => match l with | [v0, v1, v2, v3, v4, v5, v6, v7, v8, v9] => T_ref08_act_5 (pAddr v0) (pAddr v1) (pAddr v2) (pBool v3) (pBool v4) (pA v5) (pL v5) (pC v5) (pBool v6) (pA v7) (pL v7) (pC v7) (pAddr v8) (pInt v9) w (fun w => C .normal [] w) (fun x187 w => C .ret [.int .i64 x187] w) (fun ch w => C (.panic ch) [] w) | _ => False

theorem T_ref08_act_5_hl : allP (hokL Tryz.prog (hookAt [(65448, H_ref08_act_6), (2094580, H_ref08_act_7)]) (at_ (bodyOf Tryz.f61) [1, 1, 1, 1, 1, 1, 1, 1, 0, 1]) 2045) = (UnitOk Tryz.prog H_ref08_act_6 (at_ (bodyOf Tryz.f61) [1, 1, 1, 1, 1, 1, 1, 1, 0, 1, 0, 1, 0, 0, 0]) 65448 ∧ UnitOk Tryz.prog H_ref08_act_7 (at_ (bodyOf Tryz.f61) [1, 1, 1, 1, 1, 1, 1, 1, 0, 1, 0, 1, 1, 1, 1, 1, 0, 1, 0, 0]) 2094580 ∧ True) := by kernel_rfl
theorem T_ref08_act_5_hok : HOk Tryz.prog (hookAt [(65448, H_ref08_act_6), (2094580, H_ref08_act_7)]) (at_ (bodyOf Tryz.f61) [1, 1, 1, 1, 1, 1, 1, 1, 0, 1]) 2045 := HOk_of _ _ (by rw [T_ref08_act_5_hl]; exact ⟨T_ref08_act_6_ok, T_ref08_act_7_ok, trivial⟩)

theorem T_ref08_act_5_eq (C : Conts) (c116 : Addr) (x117 : Addr) (a118 : Addr) (there119 : Bool) (used120 : Bool) (pools121a : Option Addr) (pools121l : Nat) (pools121c : Nat) (known122 : Bool) (routes123a : Option Addr) (routes123l : Nat) (routes123c : Nat) (out124 : Addr) (x125 : Int) (w : World) : vcCode Tryz.prog (hookAt [(65448, H_ref08_act_6), (2094580, H_ref08_act_7)]) (at_ (bodyOf Tryz.f61) [1, 1, 1, 1, 1, 1, 1, 1, 0, 1]) 2045 ⟨[(2, .pointer (some c116)), (3, .pointer (some x117)), (4, .pointer (some a118)), (6, .bool there119), (7, .bool used120), (8, .slice pools121a pools121l pools121c), (10, .bool known122), (11, .slice routes123a routes123l routes123c), (13, .pointer (some out124)), (89, .int .i64 x125)], 155, []⟩ w (unitQ T_ref08_act_5_outs C) = T_ref08_act_5 c116 x117 a118 there119 used120 pools121a pools121l pools121c known122 routes123a routes123l routes123c out124 x125 w (fun w => C .normal [] w) (fun x188 w => C .ret [.int .i64 x188] w) (fun ch w => C (.panic ch) [] w) := by kernel_rfl

theorem T_ref08_act_5_ok : UnitOk Tryz.prog H_ref08_act_5 (at_ (bodyOf Tryz.f61) [1, 1, 1, 1, 1, 1, 1, 1, 0, 1]) 2045 := unit_ok (H := (hookAt [(65448, H_ref08_act_6), (2094580, H_ref08_act_7)])) (by kernel_rfl) T_ref08_act_5_hok fun l w C hk => by
    obtain ⟨v0, l_v0, rfl, k_v0, hk_v0⟩ := Kinds.cons_ hk
    obtain ⟨c116, rfl⟩ := kind_addr k_v0
    obtain ⟨v1, l_v1, rfl, k_v1, hk_v1⟩ := Kinds.cons_ hk_v0
    obtain ⟨x117, rfl⟩ := kind_addr k_v1
    obtain ⟨v2, l_v2, rfl, k_v2, hk_v2⟩ := Kinds.cons_ hk_v1
    obtain ⟨a118, rfl⟩ := kind_addr k_v2
    obtain ⟨v3, l_v3, rfl, k_v3, hk_v3⟩ := Kinds.cons_ hk_v2
    obtain ⟨there119, rfl⟩ := kind_bool k_v3
    obtain ⟨v4, l_v4, rfl, k_v4, hk_v4⟩ := Kinds.cons_ hk_v3
    obtain ⟨used120, rfl⟩ := kind_bool k_v4
    obtain ⟨v5, l_v5, rfl, k_v5, hk_v5⟩ := Kinds.cons_ hk_v4
    obtain ⟨pools121a, pools121l, pools121c, rfl⟩ := kind_slice k_v5
    obtain ⟨v6, l_v6, rfl, k_v6, hk_v6⟩ := Kinds.cons_ hk_v5
    obtain ⟨known122, rfl⟩ := kind_bool k_v6
    obtain ⟨v7, l_v7, rfl, k_v7, hk_v7⟩ := Kinds.cons_ hk_v6
    obtain ⟨routes123a, routes123l, routes123c, rfl⟩ := kind_slice k_v7
    obtain ⟨v8, l_v8, rfl, k_v8, hk_v8⟩ := Kinds.cons_ hk_v7
    obtain ⟨out124, rfl⟩ := kind_addr k_v8
    obtain ⟨v9, l_v9, rfl, k_v9, hk_v9⟩ := Kinds.cons_ hk_v8
    obtain ⟨x125, rfl⟩ := kind_int k_v9
    obtain rfl := Kinds.nil_ hk_v9
    exact T_ref08_act_5_eq C c116 x117 a118 there119 used120 pools121a pools121l pools121c known122 routes123a routes123l routes123c out124 x125 w

def T_ref08_act (x1 : Int) (s2a : Option Addr) (s2l : Nat) (s2c : Nat) (s3a : Option Addr) (s3l : Nat) (s3c : Nat) (x4 : Int) (x5 : Int) (x6 : Int) (x7 : Int) (s8 : ByteArray) (s9 : ByteArray) (s10 : ByteArray) (s11a : Option Addr) (s11l : Nat) (s11c : Nat) (w : World) (R : Ending → World → Prop) : Prop :=
  let w12 : World := w.alloc (.cells #[.int .i64 x1, .slice s2a s2l s2c, .slice s3a s3l s3c] 30)
  let w13 : World := w12.alloc (.cells #[.int .i64 x4, .int .i64 x5, .int .i64 x6, .int .i64 x7, .string s8, .string s9, .string s10, .slice s11a s11l s11c] 42)
  let w14 : World := w13.alloc (.cells #[.int .i64 0, .slice none 0 0, .slice none 0 0] 30)
  let w15 : World := w14.alloc (.cells #[] 34)
  T_ref08_act_1 false (some (⟨w14.heap.size, 0, none⟩ : Addr)) 0 0 0 (⟨w.heap.size, 0, none⟩ : Addr) (⟨w12.heap.size, 0, none⟩ : Addr) w15 (fun there43 pools44a pools44l pools44c w45 => let w46 : World := w45.alloc (.cells #[] 36)
  T_ref08_act_2 false false (some (⟨w45.heap.size, 0, none⟩ : Addr)) 0 0 0 (⟨w.heap.size, 0, none⟩ : Addr) (⟨w12.heap.size, 0, none⟩ : Addr) w46 (fun used106 known107 routes108a routes108l routes108c w109 => ∃ x110 : Int, ∃ s111a : Option Addr, ∃ s111l : Nat, ∃ s111c : Nat, ∃ s112a : Option Addr, ∃ s112l : Nat, ∃ s112c : Nat, rd w109 (⟨w.heap.size, 0, none⟩ : Addr) (.agg #[.int .i64 x110, .slice s111a s111l s111c, .slice s112a s112l s112c]) ∧ let w113 : World := w109.alloc (.cells #[.int .i64 0, .slice none 0 0, .slice none 0 0] 30)
  (.agg #[.int .i64 x110, .slice s111a s111l s111c, .slice s112a s112l s112c] : Value).cells.size = 3 ∧ wrOk w113 (⟨w109.heap.size, 0, none⟩ : Addr) (.agg #[.int .i64 x110, .slice s111a s111l s111c, .slice s112a s112l s112c]) ∧ let w114 : World := wr w113 (⟨w109.heap.size, 0, none⟩ : Addr) (.agg #[.int .i64 x110, .slice s111a s111l s111c, .slice s112a s112l s112c])
  ∃ x115 : Int, rd w114 (⟨w12.heap.size, 0, none⟩ : Addr) (.int .i64 x115) ∧ T_ref08_act_5 (⟨w.heap.size, 0, none⟩ : Addr) (⟨w12.heap.size, 0, none⟩ : Addr) (⟨w13.heap.size, 0, none⟩ : Addr) there43 used106 pools44a pools44l pools44c known107 routes108a routes108l routes108c (⟨w109.heap.size, 0, none⟩ : Addr) x115 w114 (fun w189 => ∃ x190 : Int, ∃ s191a : Option Addr, ∃ s191l : Nat, ∃ s191c : Nat, ∃ s192a : Option Addr, ∃ s192l : Nat, ∃ s192c : Nat, rd w189 (⟨w109.heap.size, 0, none⟩ : Addr) (.agg #[.int .i64 x190, .slice s191a s191l s191c, .slice s192a s192l s192c]) ∧ Calls Tryz.prog 95 #[.slice none 0 0, .agg #[.int .i64 x190, .slice s191a s191l s191c, .slice s192a s192l s192c]] w189 (ret (fun r193 w194 => ∃ s195a : Option Addr, ∃ s195l : Nat, ∃ s195c : Nat, r193 = .slice s195a s195l s195c ∧ if (decide (((s195l : Nat) : Int) > 12000)) = true then (∃ x196 : Int, ∃ s197a : Option Addr, ∃ s197l : Nat, ∃ s197c : Nat, ∃ s198a : Option Addr, ∃ s198l : Nat, ∃ s198c : Nat, rd w194 (⟨w.heap.size, 0, none⟩ : Addr) (.agg #[.int .i64 x196, .slice s197a s197l s197c, .slice s198a s198l s198c]) ∧ (.agg #[.int .i64 x196, .slice s197a s197l s197c, .slice s198a s198l s198c] : Value).cells.size = 3 ∧ wrOk w194 (⟨w13.heap.size, 0, none⟩ : Addr) (.agg #[.int .i64 x196, .slice s197a s197l s197c, .slice s198a s198l s198c]) ∧ let w199 : World := wr w194 (⟨w13.heap.size, 0, none⟩ : Addr) (.agg #[.int .i64 x196, .slice s197a s197l s197c, .slice s198a s198l s198c])
  ∃ x200 : Int, ∃ s201a : Option Addr, ∃ s201l : Nat, ∃ s201c : Nat, ∃ s202a : Option Addr, ∃ s202l : Nat, ∃ s202c : Nat, rd w199 (⟨w13.heap.size, 0, none⟩ : Addr) (.agg #[.int .i64 x200, .slice s201a s201l s201c, .slice s202a s202l s202c]) ∧ R (.returned (.tuple #[.agg #[.int .i64 x200, .slice s201a s201l s201c, .slice s202a s202l s202c], .int .i64 6])) w199) else (∃ x203 : Int, ∃ s204a : Option Addr, ∃ s204l : Nat, ∃ s204c : Nat, ∃ s205a : Option Addr, ∃ s205l : Nat, ∃ s205c : Nat, rd w194 (⟨w109.heap.size, 0, none⟩ : Addr) (.agg #[.int .i64 x203, .slice s204a s204l s204c, .slice s205a s205l s205c]) ∧ (.agg #[.int .i64 x203, .slice s204a s204l s204c, .slice s205a s205l s205c] : Value).cells.size = 3 ∧ wrOk w194 (⟨w13.heap.size, 0, none⟩ : Addr) (.agg #[.int .i64 x203, .slice s204a s204l s204c, .slice s205a s205l s205c]) ∧ let w206 : World := wr w194 (⟨w13.heap.size, 0, none⟩ : Addr) (.agg #[.int .i64 x203, .slice s204a s204l s204c, .slice s205a s205l s205c])
  ∃ x207 : Int, ∃ s208a : Option Addr, ∃ s208l : Nat, ∃ s208c : Nat, ∃ s209a : Option Addr, ∃ s209l : Nat, ∃ s209c : Nat, rd w206 (⟨w13.heap.size, 0, none⟩ : Addr) (.agg #[.int .i64 x207, .slice s208a s208l s208c, .slice s209a s209l s209c]) ∧ R (.returned (.tuple #[.agg #[.int .i64 x207, .slice s208a s208l s208c, .slice s209a s209l s209c], .int .i64 0])) w206)) (pan R))) (fun x210 w211 => ∃ x212 : Int, ∃ s213a : Option Addr, ∃ s213l : Nat, ∃ s213c : Nat, ∃ s214a : Option Addr, ∃ s214l : Nat, ∃ s214c : Nat, rd w211 (⟨w13.heap.size, 0, none⟩ : Addr) (.agg #[.int .i64 x212, .slice s213a s213l s213c, .slice s214a s214l s214c]) ∧ R (.returned (.tuple #[.agg #[.int .i64 x212, .slice s213a s213l s213c, .slice s214a s214l s214c], .int .i64 x210])) w211) (pan R)) (pan R)) (pan R)

theorem T_ref08_act_hl : allP (hokL Tryz.prog (hookAt [(61, H_ref08_act_1), (509, H_ref08_act_2), (2045, H_ref08_act_5)]) (bodyOf Tryz.f61) 1) = (UnitOk Tryz.prog H_ref08_act_1 (at_ (bodyOf Tryz.f61) [1, 1, 1, 0, 1]) 61 ∧ UnitOk Tryz.prog H_ref08_act_2 (at_ (bodyOf Tryz.f61) [1, 1, 1, 1, 1, 1, 0, 1]) 509 ∧ UnitOk Tryz.prog H_ref08_act_5 (at_ (bodyOf Tryz.f61) [1, 1, 1, 1, 1, 1, 1, 1, 0, 1]) 2045 ∧ True) := by kernel_rfl

theorem T_ref08_act_eq (x1 : Int) (s2a : Option Addr) (s2l : Nat) (s2c : Nat) (s3a : Option Addr) (s3l : Nat) (s3c : Nat) (x4 : Int) (x5 : Int) (x6 : Int) (x7 : Int) (s8 : ByteArray) (s9 : ByteArray) (s10 : ByteArray) (s11a : Option Addr) (s11l : Nat) (s11c : Nat) (w : World) (R : Ending → World → Prop) : vcCode Tryz.prog (hookAt [(61, H_ref08_act_1), (509, H_ref08_act_2), (2045, H_ref08_act_5)]) (bodyOf Tryz.f61) 1 ⟨argEnv [.agg #[.int .i64 x1, .slice s2a s2l s2c, .slice s3a s3l s3c], .agg #[.int .i64 x4, .int .i64 x5, .int .i64 x6, .int .i64 x7, .string s8, .string s9, .string s10, .slice s11a s11l s11c]] 0, Tryz.f61.ntmps, []⟩ w (finQ Tryz.prog Tryz.f61.results.toList R) = T_ref08_act x1 s2a s2l s2c s3a s3l s3c x4 x5 x6 x7 s8 s9 s10 s11a s11l s11c w R := by kernel_rfl

theorem T_ref08_act_b : Tryz.f61.body = some (bodyOf Tryz.f61) := by kernel_rfl
theorem T_ref08_act_s : (quietSel (bodyOf Tryz.f61) && Nat.ble 2 Tryz.f61.ntmps) = true := by kernel_rfl

theorem C_ref08_act {x1 : Int} {s2a : Option Addr} {s2l : Nat} {s2c : Nat} {s3a : Option Addr} {s3l : Nat} {s3c : Nat} {x4 : Int} {x5 : Int} {x6 : Int} {x7 : Int} {s8 : ByteArray} {s9 : ByteArray} {s10 : ByteArray} {s11a : Option Addr} {s11l : Nat} {s11c : Nat} {w : World} {R : Ending → World → Prop} (h : T_ref08_act x1 s2a s2l s2c s3a s3l s3c x4 x5 x6 x7 s8 s9 s10 s11a s11l s11c w R) : Calls Tryz.prog 61 #[.agg #[.int .i64 x1, .slice s2a s2l s2c, .slice s3a s3l s3c], .agg #[.int .i64 x4, .int .i64 x5, .int .i64 x6, .int .i64 x7, .string s8, .string s9, .string s10, .slice s11a s11l s11c]] w R :=
  calls_of_text (args := [.agg #[.int .i64 x1, .slice s2a s2l s2c, .slice s3a s3l s3c], .agg #[.int .i64 x4, .int .i64 x5, .int .i64 x6, .int .i64 x7, .string s8, .string s9, .string s10, .slice s11a s11l s11c]]) mixed Tryz.func61 T_ref08_act_b T_ref08_act_s (HOk_of _ _ (by rw [T_ref08_act_hl]; exact ⟨T_ref08_act_1_ok, T_ref08_act_2_ok, T_ref08_act_5_ok, trivial⟩)) (by rw [T_ref08_act_eq]; exact h)

/-! (*tollgate/tollgateref08.Store).note -/
def T_ref08_Store_note_1_body (X : Option Addr → Nat → Nat → Int → World → Prop) (out8a : Option Addr) (out8l : Nat) (out8c : Nat) (i9 : Int) (s10 : Option Addr) (x11 : Addr) (w : World) (Kn : Option Addr → Nat → Nat → World → Prop) (Kp : List PanicEntry → World → Prop)  : Prop :=
  ∃ a12, s10 = some a12 ∧ ∃ s13a : Option Addr, ∃ s13l : Nat, ∃ s13c : Nat, rd w (a12.add 3) (.slice s13a s13l s13c) ∧ if (decide ((i9 : Int) < ((s13l : Nat) : Int))) = true then (let w14 : World := w.drew
  ∃ a15, s10 = some a15 ∧ ∃ s16a : Option Addr, ∃ s16l : Nat, ∃ s16c : Nat, rd w14 (a15.add 3) (.slice s16a s16l s16c) ∧ 0 ≤ (i9 : Int) ∧ (i9 : Int) < ((s16l : Nat) : Int) ∧ ∃ b17, s16a = some b17 ∧ ∃ x18 : Int, rd w14 (b17.add ((i9 : Int).toNat * 4)) (.int .i64 x18) ∧ ∃ x19 : Int, rd w14 x11 (.int .i64 x19) ∧ if (decide ((x18 : Int) < x19)) = true then (∃ a20, s10 = some a20 ∧ ∃ s21a : Option Addr, ∃ s21l : Nat, ∃ s21c : Nat, rd w14 (a20.add 3) (.slice s21a s21l s21c) ∧ 0 ≤ (i9 : Int) ∧ (i9 : Int) < ((s21l : Nat) : Int) ∧ ∃ b22, s21a = some b22 ∧ ∃ x23 : Int, ∃ x24 : Int, ∃ x25 : Int, ∃ x26 : Int, rd w14 (b22.add ((i9 : Int).toNat * 4)) (.agg #[.int .i64 x23, .int .i64 x24, .int .i64 x25, .int .i64 x26]) ∧ let w27 : World := w14.alloc (.cells #[.int .i64 x23, .int .i64 x24, .int .i64 x25, .int .i64 x26] 113)
  runV Tryz.prog (Builtin.append_ #[106, 106] 106 #[.slice out8a out8l out8c, .slice (some (⟨w14.heap.size, 0, none⟩ : Addr)) 1 1]) w27 (fun r28 w29 => ∃ s30a : Option Addr, ∃ s30l : Nat, ∃ s30c : Nat, r28 = .slice s30a s30l s30c ∧ X s30a s30l s30c (IntKind.wrap .i64 ((i9 : Int) + 1)) w29) Kp) else (X out8a out8l out8c (IntKind.wrap .i64 ((i9 : Int) + 1)) w14)) else (Kn out8a out8l out8c w)

def T_ref08_Store_note_1 (out8a : Option Addr) (out8l : Nat) (out8c : Nat) (i9 : Int) (s10 : Option Addr) (x11 : Addr) (w : World) (Kn : Option Addr → Nat → Nat → World → Prop) (Kp : List PanicEntry → World → Prop) : Prop :=
  ∀ X : Option Addr → Nat → Nat → Int → World → Prop, (∀ (out8a : Option Addr) (out8l : Nat) (out8c : Nat) (i9 : Int) (w : World), T_ref08_Store_note_1_body X out8a out8l out8c i9 s10 x11 w Kn Kp → X out8a out8l out8c i9 w) → X out8a out8l out8c i9 w

def T_ref08_Store_note_1_outs : Exit → Option (List (Nat × Value)) := fun x => match x with | .normal => some [(4, .slice none 0 0)] | .panic _ => some [] | _ => none

def T_ref08_Store_note_1_ks : Nat → Bool := ksOf [4, 5, 8, 9, 10, 11, 12, 13, 14, 15, 16, 17, 18, 19, 20, 21, 22, 23, 24, 25, 26, 27, 28, 29, 30, 31, 32, 33, 34, 35, 36, 37]

def H_ref08_Store_note_1 : Env → World → QT → Prop := unitHook 76 T_ref08_Store_note_1_ks [(4, .slice none 0 0), (5, .int .i64 0), (0, .pointer none), (3, .pointer (some ⟨0, 0, none⟩))] T_ref08_Store_note_1_outs fun l w C => match l with | [v0, v1, v2, v3] => T_ref08_Store_note_1 (pA v0) (pL v0) (pC v0) (pInt v1) (pPtr v2) (pAddr v3) w (fun out32a out32l out32c w => C .normal [.slice out32a out32l out32c] w) (fun ch w => C (.panic ch) [] w) | _ => False

theorem T_ref08_Store_note_1_hl : allP (hokL Tryz.prog (hookAt []) (at_ (bodyOf Tryz.f62) [1, 1, 0, 1, 0, 0]) 116) = (True) := by kernel_rfl
theorem T_ref08_Store_note_1_hok : HOk Tryz.prog (hookAt []) (at_ (bodyOf Tryz.f62) [1, 1, 0, 1, 0, 0]) 116 := HOk_of _ _ (by rw [T_ref08_Store_note_1_hl]; exact trivial)

theorem T_ref08_Store_note_1_eq (C : Conts) (X : List Value → World → Prop) (out8a : Option Addr) (out8l : Nat) (out8c : Nat) (i9 : Int) (s10 : Option Addr) (x11 : Addr) (w : World) : vcCode Tryz.prog (hookAt []) (at_ (bodyOf Tryz.f62) [1, 1, 0, 1, 0, 0]) 116 ⟨[(4, .slice out8a out8l out8c), (5, .int .i64 i9)] ++ [(0, .pointer s10), (3, .pointer (some x11))], 76, []⟩ w (seqQ (fun e w => takeAll e [(4, .slice none 0 0), (5, .int .i64 0)] fun l => X l w) (blockQ 0 (unitQ T_ref08_Store_note_1_outs C))) = T_ref08_Store_note_1_body (fun out8a out8l out8c i9 w => X [.slice out8a out8l out8c, .int .i64 i9] w) out8a out8l out8c i9 s10 x11 w (fun out33a out33l out33c w => C .normal [.slice out33a out33l out33c] w) (fun ch w => C (.panic ch) [] w) := by kernel_rfl

theorem T_ref08_Store_note_1_ok : UnitOk Tryz.prog H_ref08_Store_note_1 (at_ (bodyOf Tryz.f62) [1, 1, 0, 1]) 29 := by
  have hc : at_ (bodyOf Tryz.f62) [1, 1, 0, 1] = .block 0 (.loop (at_ (bodyOf Tryz.f62) [1, 1, 0, 1, 0, 0])) := by kernel_rfl
  rw [hc]
  refine loop_unit_ok (carr := [(4, .slice none 0 0), (5, .int .i64 0)]) (fix := [(0, .pointer none), (3, .pointer (some ⟨0, 0, none⟩))]) (ks := T_ref08_Store_note_1_ks) (H := (hookAt [])) (B := fun C X l u w => match l, u with | [v0, v1], [v2, v3] => T_ref08_Store_note_1_body (fun out8a out8l out8c i9 w => X [.slice out8a out8l out8c, .int .i64 i9] w) (pA v0) (pL v0) (pC v0) (pInt v1) (pPtr v2) (pAddr v3) w (fun out34a out34l out34c w => C .normal [.slice out34a out34l out34c] w) (fun ch w => C (.panic ch) [] w) | _, _ => False) (by kernel_rfl) (by kernel_rfl) T_ref08_Store_note_1_hok ?_ ?_
  · intro C X l u w hl hu
    obtain ⟨v0, l_v0, rfl, k_v0, hl_v0⟩ := Kinds.cons_ hl
    obtain ⟨out8a, out8l, out8c, rfl⟩ := kind_slice k_v0
    obtain ⟨v1, l_v1, rfl, k_v1, hl_v1⟩ := Kinds.cons_ hl_v0
    obtain ⟨i9, rfl⟩ := kind_int k_v1
    obtain rfl := Kinds.nil_ hl_v1
    obtain ⟨v2, l_v2, rfl, k_v2, hu_v2⟩ := Kinds.cons_ hu
    obtain ⟨s10, rfl⟩ := kind_pointer k_v2
    obtain ⟨v3, l_v3, rfl, k_v3, hu_v3⟩ := Kinds.cons_ hu_v2
    obtain ⟨x11, rfl⟩ := kind_addr k_v3
    obtain rfl := Kinds.nil_ hu_v3
    exact T_ref08_Store_note_1_eq C X out8a out8l out8c i9 s10 x11 w
  · intro l u w C hl hu
    obtain ⟨v0, l_v0, rfl, k_v0, hl_v0⟩ := Kinds.cons_ hl
    obtain ⟨out8a, out8l, out8c, rfl⟩ := kind_slice k_v0
    obtain ⟨v1, l_v1, rfl, k_v1, hl_v1⟩ := Kinds.cons_ hl_v0
    obtain ⟨i9, rfl⟩ := kind_int k_v1
    obtain rfl := Kinds.nil_ hl_v1
    obtain ⟨v2, l_v2, rfl, k_v2, hu_v2⟩ := Kinds.cons_ hu
    obtain ⟨s10, rfl⟩ := kind_pointer k_v2
    obtain ⟨v3, l_v3, rfl, k_v3, hu_v3⟩ := Kinds.cons_ hu_v2
    obtain ⟨x11, rfl⟩ := kind_addr k_v3
    obtain rfl := Kinds.nil_ hu_v3
    constructor
    · intro h X hX
      exact h (fun out8a out8l out8c i9 w => X [.slice out8a out8l out8c, .int .i64 i9] w) (fun out8a out8l out8c i9 w hb => hX [.slice out8a out8l out8c, .int .i64 i9] w ⟨rfl, rfl, trivial⟩ hb)
    · intro h X hX
      exact h (fun l w => match l with | [v0, v1] => X (pA v0) (pL v0) (pC v0) (pInt v1) w | _ => True) (fun l w hl hb => by
        obtain ⟨v0, l_v0, rfl, k_v0, hl_v0⟩ := Kinds.cons_ hl
        obtain ⟨out8a, out8l, out8c, rfl⟩ := kind_slice k_v0
        obtain ⟨v1, l_v1, rfl, k_v1, hl_v1⟩ := Kinds.cons_ hl_v0
        obtain ⟨i9, rfl⟩ := kind_int k_v1
        obtain rfl := Kinds.nil_ hl_v1
        exact hX out8a out8l out8c i9 w hb)

def T_ref08_Store_note_2_body (X : Option Addr → Nat → Nat → Int → World → Prop) (out45a : Option Addr) (out45l : Nat) (out45c : Nat) (i46 : Int) (s47 : Option Addr) (x48 : Addr) (w : World) (Kn : Option Addr → Nat → Nat → World → Prop) (Kp : List PanicEntry → World → Prop)  : Prop :=
  ∃ a49, s47 = some a49 ∧ ∃ s50a : Option Addr, ∃ s50l : Nat, ∃ s50c : Nat, rd w (a49.add 3) (.slice s50a s50l s50c) ∧ if (decide ((i46 : Int) < ((s50l : Nat) : Int))) = true then (let w51 : World := w.drew
  ∃ a52, s47 = some a52 ∧ ∃ s53a : Option Addr, ∃ s53l : Nat, ∃ s53c : Nat, rd w51 (a52.add 3) (.slice s53a s53l s53c) ∧ 0 ≤ (i46 : Int) ∧ (i46 : Int) < ((s53l : Nat) : Int) ∧ ∃ b54, s53a = some b54 ∧ ∃ x55 : Int, rd w51 (b54.add ((i46 : Int).toNat * 4)) (.int .i64 x55) ∧ ∃ x56 : Int, rd w51 x48 (.int .i64 x56) ∧ if (decide ((x55 : Int) > x56)) = true then (∃ a57, s47 = some a57 ∧ ∃ s58a : Option Addr, ∃ s58l : Nat, ∃ s58c : Nat, rd w51 (a57.add 3) (.slice s58a s58l s58c) ∧ 0 ≤ (i46 : Int) ∧ (i46 : Int) < ((s58l : Nat) : Int) ∧ ∃ b59, s58a = some b59 ∧ ∃ x60 : Int, ∃ x61 : Int, ∃ x62 : Int, ∃ x63 : Int, rd w51 (b59.add ((i46 : Int).toNat * 4)) (.agg #[.int .i64 x60, .int .i64 x61, .int .i64 x62, .int .i64 x63]) ∧ let w64 : World := w51.alloc (.cells #[.int .i64 x60, .int .i64 x61, .int .i64 x62, .int .i64 x63] 113)
  runV Tryz.prog (Builtin.append_ #[106, 106] 106 #[.slice out45a out45l out45c, .slice (some (⟨w51.heap.size, 0, none⟩ : Addr)) 1 1]) w64 (fun r65 w66 => ∃ s67a : Option Addr, ∃ s67l : Nat, ∃ s67c : Nat, r65 = .slice s67a s67l s67c ∧ X s67a s67l s67c (IntKind.wrap .i64 ((i46 : Int) + 1)) w66) Kp) else (X out45a out45l out45c (IntKind.wrap .i64 ((i46 : Int) + 1)) w51)) else (Kn out45a out45l out45c w)

def T_ref08_Store_note_2 (out45a : Option Addr) (out45l : Nat) (out45c : Nat) (i46 : Int) (s47 : Option Addr) (x48 : Addr) (w : World) (Kn : Option Addr → Nat → Nat → World → Prop) (Kp : List PanicEntry → World → Prop) : Prop :=
  ∀ X : Option Addr → Nat → Nat → Int → World → Prop, (∀ (out45a : Option Addr) (out45l : Nat) (out45c : Nat) (i46 : Int) (w : World), T_ref08_Store_note_2_body X out45a out45l out45c i46 s47 x48 w Kn Kp → X out45a out45l out45c i46 w) → X out45a out45l out45c i46 w

def T_ref08_Store_note_2_outs : Exit → Option (List (Nat × Value)) := fun x => match x with | .normal => some [(4, .slice none 0 0)] | .panic _ => some [] | _ => none

def T_ref08_Store_note_2_ks : Nat → Bool := ksOf [4, 6, 42, 43, 44, 45, 46, 47, 48, 49, 50, 51, 52, 53, 54, 55, 56, 57, 58, 59, 60, 61, 62, 63, 64, 65, 66, 67, 68, 69, 70, 71]

def H_ref08_Store_note_2 : Env → World → QT → Prop := unitHook 76 T_ref08_Store_note_2_ks [(4, .slice none 0 0), (6, .int .i64 0), (0, .pointer none), (3, .pointer (some ⟨0, 0, none⟩))] T_ref08_Store_note_2_outs fun l w C => match l with | [v0, v1, v2, v3] => T_ref08_Store_note_2 (pA v0) (pL v0) (pC v0) (pInt v1) (pPtr v2) (pAddr v3) w (fun out69a out69l out69c w => C .normal [.slice out69a out69l out69c] w) (fun ch w => C (.panic ch) [] w) | _ => False

theorem T_ref08_Store_note_2_hl : allP (hokL Tryz.prog (hookAt []) (at_ (bodyOf Tryz.f62) [1, 1, 1, 1, 0, 1, 0, 0]) 500) = (True) := by kernel_rfl
theorem T_ref08_Store_note_2_hok : HOk Tryz.prog (hookAt []) (at_ (bodyOf Tryz.f62) [1, 1, 1, 1, 0, 1, 0, 0]) 500 := HOk_of _ _ (by rw [T_ref08_Store_note_2_hl]; exact trivial)

theorem T_ref08_Store_note_2_eq (C : Conts) (X : List Value → World → Prop) (out45a : Option Addr) (out45l : Nat) (out45c : Nat) (i46 : Int) (s47 : Option Addr) (x48 : Addr) (w : World) : vcCode Tryz.prog (hookAt []) (at_ (bodyOf Tryz.f62) [1, 1, 1, 1, 0, 1, 0, 0]) 500 ⟨[(4, .slice out45a out45l out45c), (6, .int .i64 i46)] ++ [(0, .pointer s47), (3, .pointer (some x48))], 76, []⟩ w (seqQ (fun e w => takeAll e [(4, .slice none 0 0), (6, .int .i64 0)] fun l => X l w) (blockQ 2 (unitQ T_ref08_Store_note_2_outs C))) = T_ref08_Store_note_2_body (fun out45a out45l out45c i46 w => X [.slice out45a out45l out45c, .int .i64 i46] w) out45a out45l out45c i46 s47 x48 w (fun out70a out70l out70c w => C .normal [.slice out70a out70l out70c] w) (fun ch w => C (.panic ch) [] w) := by kernel_rfl

theorem T_ref08_Store_note_2_ok : UnitOk Tryz.prog H_ref08_Store_note_2 (at_ (bodyOf Tryz.f62) [1, 1, 1, 1, 0, 1]) 125 := by
  have hc : at_ (bodyOf Tryz.f62) [1, 1, 1, 1, 0, 1] = .block 2 (.loop (at_ (bodyOf Tryz.f62) [1, 1, 1, 1, 0, 1, 0, 0])) := by kernel_rfl
  rw [hc]
  refine loop_unit_ok (carr := [(4, .slice none 0 0), (6, .int .i64 0)]) (fix := [(0, .pointer none), (3, .pointer (some ⟨0, 0, none⟩))]) (ks := T_ref08_Store_note_2_ks) (H := (hookAt [])) (B := fun C X l u w => match l, u with | [v0, v1], [v2, v3] => T_ref08_Store_note_2_body (fun out45a out45l out45c i46 w => X [.slice out45a out45l out45c, .int .i64 i46] w) (pA v0) (pL v0) (pC v0) (pInt v1) (pPtr v2) (pAddr v3) w (fun out71a out71l out71c w => C .normal [.slice out71a out71l out71c] w) (fun ch w => C (.panic ch) [] w) | _, _ => False) (by kernel_rfl) (by kernel_rfl) T_ref08_Store_note_2_hok ?_ ?_
  · intro C X l u w hl hu
    obtain ⟨v0, l_v0, rfl, k_v0, hl_v0⟩ := Kinds.cons_ hl
    obtain ⟨out45a, out45l, out45c, rfl⟩ := kind_slice k_v0
    obtain ⟨v1, l_v1, rfl, k_v1, hl_v1⟩ := Kinds.cons_ hl_v0
    obtain ⟨i46, rfl⟩ := kind_int k_v1
    obtain rfl := Kinds.nil_ hl_v1
    obtain ⟨v2, l_v2, rfl, k_v2, hu_v2⟩ := Kinds.cons_ hu
    obtain ⟨s47, rfl⟩ := kind_pointer k_v2
    obtain ⟨v3, l_v3, rfl, k_v3, hu_v3⟩ := Kinds.cons_ hu_v2
    obtain ⟨x48, rfl⟩ := kind_addr k_v3
    obtain rfl := Kinds.nil_ hu_v3
    exact T_ref08_Store_note_2_eq C X out45a out45l out45c i46 s47 x48 w
  · intro l u w C hl hu
    obtain ⟨v0, l_v0, rfl, k_v0, hl_v0⟩ := Kinds.cons_ hl
    obtain ⟨out45a, out45l, out45c, rfl⟩ := kind_slice k_v0
    obtain ⟨v1, l_v1, rfl, k_v1, hl_v1⟩ := Kinds.cons_ hl_v0
    obtain ⟨i46, rfl⟩ := kind_int k_v1
    obtain rfl := Kinds.nil_ hl_v1
    obtain ⟨v2, l_v2, rfl, k_v2, hu_v2⟩ := Kinds.cons_ hu
    obtain ⟨s47, rfl⟩ := kind_pointer k_v2
    obtain ⟨v3, l_v3, rfl, k_v3, hu_v3⟩ := Kinds.cons_ hu_v2
    obtain ⟨x48, rfl⟩ := kind_addr k_v3
    obtain rfl := Kinds.nil_ hu_v3
    constructor
    · intro h X hX
      exact h (fun out45a out45l out45c i46 w => X [.slice out45a out45l out45c, .int .i64 i46] w) (fun out45a out45l out45c i46 w hb => hX [.slice out45a out45l out45c, .int .i64 i46] w ⟨rfl, rfl, trivial⟩ hb)
    · intro h X hX
      exact h (fun l w => match l with | [v0, v1] => X (pA v0) (pL v0) (pC v0) (pInt v1) w | _ => True) (fun l w hl hb => by
        obtain ⟨v0, l_v0, rfl, k_v0, hl_v0⟩ := Kinds.cons_ hl
        obtain ⟨out45a, out45l, out45c, rfl⟩ := kind_slice k_v0
        obtain ⟨v1, l_v1, rfl, k_v1, hl_v1⟩ := Kinds.cons_ hl_v0
        obtain ⟨i46, rfl⟩ := kind_int k_v1
        obtain rfl := Kinds.nil_ hl_v1
        exact hX out45a out45l out45c i46 w hb)

def T_ref08_Store_note (s1 : Option Addr) (x2 : Int) (x3 : Int) (x4 : Int) (x5 : Int) (w : World) (R : Ending → World → Prop) : Prop :=
  let w6 : World := w.alloc (.cells #[.int .i64 x2, .int .i64 x3, .int .i64 x4, .int .i64 x5] 113)
  let w7 : World := w6.alloc (.cells #[] 113)
  T_ref08_Store_note_1 (some (⟨w6.heap.size, 0, none⟩ : Addr)) 0 0 0 s1 (⟨w.heap.size, 0, none⟩ : Addr) w7 (fun out35a out35l out35c w36 => ∃ x37 : Int, ∃ x38 : Int, ∃ x39 : Int, ∃ x40 : Int, rd w36 (⟨w.heap.size, 0, none⟩ : Addr) (.agg #[.int .i64 x37, .int .i64 x38, .int .i64 x39, .int .i64 x40]) ∧ let w41 : World := w36.alloc (.cells #[.int .i64 x37, .int .i64 x38, .int .i64 x39, .int .i64 x40] 113)
  runV Tryz.prog (Builtin.append_ #[106, 106] 106 #[.slice out35a out35l out35c, .slice (some (⟨w36.heap.size, 0, none⟩ : Addr)) 1 1]) w41 (fun r42 w43 => ∃ s44a : Option Addr, ∃ s44l : Nat, ∃ s44c : Nat, r42 = .slice s44a s44l s44c ∧ T_ref08_Store_note_2 s44a s44l s44c 0 s1 (⟨w.heap.size, 0, none⟩ : Addr) w43 (fun out72a out72l out72c w73 => ∃ a74, s1 = some a74 ∧ (.slice out72a out72l out72c : Value).cells.size = 1 ∧ wrOk w73 (a74.add 3) (.slice out72a out72l out72c) ∧ let w75 : World := wr w73 (a74.add 3) (.slice out72a out72l out72c)
  R (.returned (.tuple #[])) w75) (pan R)) (pan R)) (pan R)

theorem T_ref08_Store_note_hl : allP (hokL Tryz.prog (hookAt [(29, H_ref08_Store_note_1), (125, H_ref08_Store_note_2)]) (bodyOf Tryz.f62) 1) = (UnitOk Tryz.prog H_ref08_Store_note_1 (at_ (bodyOf Tryz.f62) [1, 1, 0, 1]) 29 ∧ UnitOk Tryz.prog H_ref08_Store_note_2 (at_ (bodyOf Tryz.f62) [1, 1, 1, 1, 0, 1]) 125 ∧ True) := by kernel_rfl

theorem T_ref08_Store_note_eq (s1 : Option Addr) (x2 : Int) (x3 : Int) (x4 : Int) (x5 : Int) (w : World) (R : Ending → World → Prop) : vcCode Tryz.prog (hookAt [(29, H_ref08_Store_note_1), (125, H_ref08_Store_note_2)]) (bodyOf Tryz.f62) 1 ⟨argEnv [.pointer s1, .agg #[.int .i64 x2, .int .i64 x3, .int .i64 x4, .int .i64 x5]] 0, Tryz.f62.ntmps, []⟩ w (finQ Tryz.prog Tryz.f62.results.toList R) = T_ref08_Store_note s1 x2 x3 x4 x5 w R := by kernel_rfl

theorem T_ref08_Store_note_b : Tryz.f62.body = some (bodyOf Tryz.f62) := by kernel_rfl
theorem T_ref08_Store_note_s : (quietSel (bodyOf Tryz.f62) && Nat.ble 2 Tryz.f62.ntmps) = true := by kernel_rfl

theorem C_ref08_Store_note {s1 : Option Addr} {x2 : Int} {x3 : Int} {x4 : Int} {x5 : Int} {w : World} {R : Ending → World → Prop} (h : T_ref08_Store_note s1 x2 x3 x4 x5 w R) : Calls Tryz.prog 62 #[.pointer s1, .agg #[.int .i64 x2, .int .i64 x3, .int .i64 x4, .int .i64 x5]] w R :=
  calls_of_text (args := [.pointer s1, .agg #[.int .i64 x2, .int .i64 x3, .int .i64 x4, .int .i64 x5]]) mixed Tryz.func62 T_ref08_Store_note_b T_ref08_Store_note_s (HOk_of _ _ (by rw [T_ref08_Store_note_hl]; exact ⟨T_ref08_Store_note_1_ok, T_ref08_Store_note_2_ok, trivial⟩)) (by rw [T_ref08_Store_note_eq]; exact h)

/-! tollgate/tollgateref08.config -/
def T_ref08_config_1_body (X : Option Addr → Nat → Nat → Int → World → Prop) (b10a : Option Addr) (b10l : Nat) (b10c : Nat) (i11 : Int) (c12 : Addr) (w : World) (Kn : Option Addr → Nat → Nat → World → Prop) (Kp : List PanicEntry → World → Prop)  : Prop :=
  ∃ s13a : Option Addr, ∃ s13l : Nat, ∃ s13c : Nat, rd w (c12.add 2) (.slice s13a s13l s13c) ∧ if (decide ((i11 : Int) < ((s13l : Nat) : Int))) = true then (let w14 : World := w.drew
  ∃ s15a : Option Addr, ∃ s15l : Nat, ∃ s15c : Nat, rd w14 (c12.add 2) (.slice s15a s15l s15c) ∧ 0 ≤ (i11 : Int) ∧ (i11 : Int) < ((s15l : Nat) : Int) ∧ ∃ b16, s15a = some b16 ∧ ∃ s17 : ByteArray, rd w14 (b16.add ((i11 : Int).toNat * 2)) (.string s17) ∧ ∃ s18a : Option Addr, ∃ s18l : Nat, ∃ s18c : Nat, rd w14 (c12.add 2) (.slice s18a s18l s18c) ∧ 0 ≤ (i11 : Int) ∧ (i11 : Int) < ((s18l : Nat) : Int) ∧ ∃ b19, s18a = some b19 ∧ ∃ s20a : Option Addr, ∃ s20l : Nat, ∃ s20c : Nat, rd w14 ((b19.add ((i11 : Int).toNat * 2)).add 1) (.slice s20a s20l s20c) ∧ Calls Tryz.prog 124 #[.slice b10a b10l b10c, .string s17] w14 (ret (fun r21 w22 => ∃ s23a : Option Addr, ∃ s23l : Nat, ∃ s23c : Nat, r21 = .slice s23a s23l s23c ∧ (rd w22 ((b19.add ((i11 : Int).toNat * 2)).add 1) (.slice s20a s20l s20c) ∧ rd w22 (c12.add 2) (.slice s18a s18l s18c) ∧ rd w22 (c12.add 2) (.slice s15a s15l s15c) ∧ True) ∧ Calls Tryz.prog 123 #[.slice s23a s23l s23c, .slice s20a s20l s20c] w22 (ret (fun r24 w25 => ∃ s26a : Option Addr, ∃ s26l : Nat, ∃ s26c : Nat, r24 = .slice s26a s26l s26c ∧ (rd w25 (c12.add 2) (.slice s18a s18l s18c) ∧ rd w25 (c12.add 2) (.slice s15a s15l s15c) ∧ True) ∧ X s26a s26l s26c (IntKind.wrap .i64 ((i11 : Int) + 1)) w25) Kp)) Kp)) else (Kn b10a b10l b10c w)

def T_ref08_config_1 (b10a : Option Addr) (b10l : Nat) (b10c : Nat) (i11 : Int) (c12 : Addr) (w : World) (Kn : Option Addr → Nat → Nat → World → Prop) (Kp : List PanicEntry → World → Prop) : Prop :=
  ∀ X : Option Addr → Nat → Nat → Int → World → Prop, (∀ (b10a : Option Addr) (b10l : Nat) (b10c : Nat) (i11 : Int) (w : World), T_ref08_config_1_body X b10a b10l b10c i11 c12 w Kn Kp → X b10a b10l b10c i11 w) → X b10a b10l b10c i11 w

def T_ref08_config_1_outs : Exit → Option (List (Nat × Value)) := fun x => match x with | .normal => some [(0, .slice none 0 0)] | .panic _ => some [] | _ => none

def T_ref08_config_1_ks : Nat → Bool := ksOf [0, 5, 12, 13, 14, 15, 16, 17, 18, 19, 20, 21, 22, 23, 24, 25, 26, 27, 28, 29, 30, 31, 32, 33]

def H_ref08_config_1 : Env → World → QT → Prop := unitHook 69 T_ref08_config_1_ks [(0, .slice none 0 0), (5, .int .i64 0), (3, .pointer (some ⟨0, 0, none⟩))] T_ref08_config_1_outs fun l w C => match l with | [v0, v1, v2] => T_ref08_config_1 (pA v0) (pL v0) (pC v0) (pInt v1) (pAddr v2) w (fun b28a b28l b28c w => C .normal [.slice b28a b28l b28c] w) (fun ch w => C (.panic ch) [] w) | _ => False

theorem T_ref08_config_1_hl : allP (hokL Tryz.prog (hookAt []) (at_ (bodyOf Tryz.f95) [1, 1, 0, 1, 0, 0]) 116) = (True) := by kernel_rfl
theorem T_ref08_config_1_hok : HOk Tryz.prog (hookAt []) (at_ (bodyOf Tryz.f95) [1, 1, 0, 1, 0, 0]) 116 := HOk_of _ _ (by rw [T_ref08_config_1_hl]; exact trivial)

theorem T_ref08_config_1_eq (C : Conts) (X : List Value → World → Prop) (b10a : Option Addr) (b10l : Nat) (b10c : Nat) (i11 : Int) (c12 : Addr) (w : World) : vcCode Tryz.prog (hookAt []) (at_ (bodyOf Tryz.f95) [1, 1, 0, 1, 0, 0]) 116 ⟨[(0, .slice b10a b10l b10c), (5, .int .i64 i11)] ++ [(3, .pointer (some c12))], 69, []⟩ w (seqQ (fun e w => takeAll e [(0, .slice none 0 0), (5, .int .i64 0)] fun l => X l w) (blockQ 0 (unitQ T_ref08_config_1_outs C))) = T_ref08_config_1_body (fun b10a b10l b10c i11 w => X [.slice b10a b10l b10c, .int .i64 i11] w) b10a b10l b10c i11 c12 w (fun b29a b29l b29c w => C .normal [.slice b29a b29l b29c] w) (fun ch w => C (.panic ch) [] w) := by kernel_rfl

theorem T_ref08_config_1_ok : UnitOk Tryz.prog H_ref08_config_1 (at_ (bodyOf Tryz.f95) [1, 1, 0, 1]) 29 := by
  have hc : at_ (bodyOf Tryz.f95) [1, 1, 0, 1] = .block 0 (.loop (at_ (bodyOf Tryz.f95) [1, 1, 0, 1, 0, 0])) := by kernel_rfl
  rw [hc]
  refine loop_unit_ok (carr := [(0, .slice none 0 0), (5, .int .i64 0)]) (fix := [(3, .pointer (some ⟨0, 0, none⟩))]) (ks := T_ref08_config_1_ks) (H := (hookAt [])) (B := fun C X l u w => match l, u with | [v0, v1], [v2] => T_ref08_config_1_body (fun b10a b10l b10c i11 w => X [.slice b10a b10l b10c, .int .i64 i11] w) (pA v0) (pL v0) (pC v0) (pInt v1) (pAddr v2) w (fun b30a b30l b30c w => C .normal [.slice b30a b30l b30c] w) (fun ch w => C (.panic ch) [] w) | _, _ => False) (by kernel_rfl) (by kernel_rfl) T_ref08_config_1_hok ?_ ?_
  · intro C X l u w hl hu
    obtain ⟨v0, l_v0, rfl, k_v0, hl_v0⟩ := Kinds.cons_ hl
    obtain ⟨b10a, b10l, b10c, rfl⟩ := kind_slice k_v0
    obtain ⟨v1, l_v1, rfl, k_v1, hl_v1⟩ := Kinds.cons_ hl_v0
    obtain ⟨i11, rfl⟩ := kind_int k_v1
    obtain rfl := Kinds.nil_ hl_v1
    obtain ⟨v2, l_v2, rfl, k_v2, hu_v2⟩ := Kinds.cons_ hu
    obtain ⟨c12, rfl⟩ := kind_addr k_v2
    obtain rfl := Kinds.nil_ hu_v2
    exact T_ref08_config_1_eq C X b10a b10l b10c i11 c12 w
  · intro l u w C hl hu
    obtain ⟨v0, l_v0, rfl, k_v0, hl_v0⟩ := Kinds.cons_ hl
    obtain ⟨b10a, b10l, b10c, rfl⟩ := kind_slice k_v0
    obtain ⟨v1, l_v1, rfl, k_v1, hl_v1⟩ := Kinds.cons_ hl_v0
    obtain ⟨i11, rfl⟩ := kind_int k_v1
    obtain rfl := Kinds.nil_ hl_v1
    obtain ⟨v2, l_v2, rfl, k_v2, hu_v2⟩ := Kinds.cons_ hu
    obtain ⟨c12, rfl⟩ := kind_addr k_v2
    obtain rfl := Kinds.nil_ hu_v2
    constructor
    · intro h X hX
      exact h (fun b10a b10l b10c i11 w => X [.slice b10a b10l b10c, .int .i64 i11] w) (fun b10a b10l b10c i11 w hb => hX [.slice b10a b10l b10c, .int .i64 i11] w ⟨rfl, rfl, trivial⟩ hb)
    · intro h X hX
      exact h (fun l w => match l with | [v0, v1] => X (pA v0) (pL v0) (pC v0) (pInt v1) w | _ => True) (fun l w hl hb => by
        obtain ⟨v0, l_v0, rfl, k_v0, hl_v0⟩ := Kinds.cons_ hl
        obtain ⟨b10a, b10l, b10c, rfl⟩ := kind_slice k_v0
        obtain ⟨v1, l_v1, rfl, k_v1, hl_v1⟩ := Kinds.cons_ hl_v0
        obtain ⟨i11, rfl⟩ := kind_int k_v1
        obtain rfl := Kinds.nil_ hl_v1
        exact hX b10a b10l b10c i11 w hb)

def T_ref08_config_2_body (X : Option Addr → Nat → Nat → Int → World → Prop) (b37a : Option Addr) (b37l : Nat) (b37c : Nat) (i38 : Int) (c39 : Addr) (w : World) (Kn : Option Addr → Nat → Nat → World → Prop) (Kp : List PanicEntry → World → Prop)  : Prop :=
  ∃ s40a : Option Addr, ∃ s40l : Nat, ∃ s40c : Nat, rd w (c39.add 1) (.slice s40a s40l s40c) ∧ if (decide ((i38 : Int) < ((s40l : Nat) : Int))) = true then (let w41 : World := w.drew
  ∃ s42a : Option Addr, ∃ s42l : Nat, ∃ s42c : Nat, rd w41 (c39.add 1) (.slice s42a s42l s42c) ∧ 0 ≤ (i38 : Int) ∧ (i38 : Int) < ((s42l : Nat) : Int) ∧ ∃ b43, s42a = some b43 ∧ ∃ s44 : ByteArray, rd w41 (b43.add ((i38 : Int).toNat * 3)) (.string s44) ∧ ∃ s45a : Option Addr, ∃ s45l : Nat, ∃ s45c : Nat, rd w41 (c39.add 1) (.slice s45a s45l s45c) ∧ 0 ≤ (i38 : Int) ∧ (i38 : Int) < ((s45l : Nat) : Int) ∧ ∃ b46, s45a = some b46 ∧ ∃ s47 : ByteArray, rd w41 ((b46.add ((i38 : Int).toNat * 3)).add 1) (.string s47) ∧ ∃ s48a : Option Addr, ∃ s48l : Nat, ∃ s48c : Nat, rd w41 (c39.add 1) (.slice s48a s48l s48c) ∧ 0 ≤ (i38 : Int) ∧ (i38 : Int) < ((s48l : Nat) : Int) ∧ ∃ b49, s48a = some b49 ∧ ∃ s50 : ByteArray, rd w41 ((b49.add ((i38 : Int).toNat * 3)).add 2) (.string s50) ∧ Calls Tryz.prog 124 #[.slice b37a b37l b37c, .string s44] w41 (ret (fun r51 w52 => ∃ s53a : Option Addr, ∃ s53l : Nat, ∃ s53c : Nat, r51 = .slice s53a s53l s53c ∧ (rd w52 ((b49.add ((i38 : Int).toNat * 3)).add 2) (.string s50) ∧ rd w52 (c39.add 1) (.slice s48a s48l s48c) ∧ rd w52 ((b46.add ((i38 : Int).toNat * 3)).add 1) (.string s47) ∧ rd w52 (c39.add 1) (.slice s45a s45l s45c) ∧ rd w52 (c39.add 1) (.slice s42a s42l s42c) ∧ True) ∧ Calls Tryz.prog 124 #[.slice s53a s53l s53c, .string s47] w52 (ret (fun r54 w55 => ∃ s56a : Option Addr, ∃ s56l : Nat, ∃ s56c : Nat, r54 = .slice s56a s56l s56c ∧ (rd w55 ((b49.add ((i38 : Int).toNat * 3)).add 2) (.string s50) ∧ rd w55 (c39.add 1) (.slice s48a s48l s48c) ∧ rd w55 (c39.add 1) (.slice s45a s45l s45c) ∧ rd w55 (c39.add 1) (.slice s42a s42l s42c) ∧ True) ∧ Calls Tryz.prog 124 #[.slice s56a s56l s56c, .string s50] w55 (ret (fun r57 w58 => ∃ s59a : Option Addr, ∃ s59l : Nat, ∃ s59c : Nat, r57 = .slice s59a s59l s59c ∧ (rd w58 (c39.add 1) (.slice s48a s48l s48c) ∧ rd w58 (c39.add 1) (.slice s45a s45l s45c) ∧ rd w58 (c39.add 1) (.slice s42a s42l s42c) ∧ True) ∧ X s59a s59l s59c (IntKind.wrap .i64 ((i38 : Int) + 1)) w58) Kp)) Kp)) Kp)) else (Kn b37a b37l b37c w)

def T_ref08_config_2 (b37a : Option Addr) (b37l : Nat) (b37c : Nat) (i38 : Int) (c39 : Addr) (w : World) (Kn : Option Addr → Nat → Nat → World → Prop) (Kp : List PanicEntry → World → Prop) : Prop :=
  ∀ X : Option Addr → Nat → Nat → Int → World → Prop, (∀ (b37a : Option Addr) (b37l : Nat) (b37c : Nat) (i38 : Int) (w : World), T_ref08_config_2_body X b37a b37l b37c i38 c39 w Kn Kp → X b37a b37l b37c i38 w) → X b37a b37l b37c i38 w

def T_ref08_config_2_outs : Exit → Option (List (Nat × Value)) := fun x => match x with | .normal => some [(0, .slice none 0 0)] | .panic _ => some [] | _ => none

def T_ref08_config_2_ks : Nat → Bool := ksOf [0, 6, 39, 40, 41, 42, 43, 44, 45, 46, 47, 48, 49, 50, 51, 52, 53, 54, 55, 56, 57, 58, 59, 60, 61, 62, 63, 64, 65, 66, 67]

def H_ref08_config_2 : Env → World → QT → Prop := unitHook 69 T_ref08_config_2_ks [(0, .slice none 0 0), (6, .int .i64 0), (3, .pointer (some ⟨0, 0, none⟩))] T_ref08_config_2_outs fun l w C => match l with | [v0, v1, v2] => T_ref08_config_2 (pA v0) (pL v0) (pC v0) (pInt v1) (pAddr v2) w (fun b61a b61l b61c w => C .normal [.slice b61a b61l b61c] w) (fun ch w => C (.panic ch) [] w) | _ => False

theorem T_ref08_config_2_hl : allP (hokL Tryz.prog (hookAt []) (at_ (bodyOf Tryz.f95) [1, 1, 1, 1, 0, 1, 0, 0]) 500) = (True) := by kernel_rfl
theorem T_ref08_config_2_hok : HOk Tryz.prog (hookAt []) (at_ (bodyOf Tryz.f95) [1, 1, 1, 1, 0, 1, 0, 0]) 500 := HOk_of _ _ (by rw [T_ref08_config_2_hl]; exact trivial)

theorem T_ref08_config_2_eq (C : Conts) (X : List Value → World → Prop) (b37a : Option Addr) (b37l : Nat) (b37c : Nat) (i38 : Int) (c39 : Addr) (w : World) : vcCode Tryz.prog (hookAt []) (at_ (bodyOf Tryz.f95) [1, 1, 1, 1, 0, 1, 0, 0]) 500 ⟨[(0, .slice b37a b37l b37c), (6, .int .i64 i38)] ++ [(3, .pointer (some c39))], 69, []⟩ w (seqQ (fun e w => takeAll e [(0, .slice none 0 0), (6, .int .i64 0)] fun l => X l w) (blockQ 2 (unitQ T_ref08_config_2_outs C))) = T_ref08_config_2_body (fun b37a b37l b37c i38 w => X [.slice b37a b37l b37c, .int .i64 i38] w) b37a b37l b37c i38 c39 w (fun b62a b62l b62c w => C .normal [.slice b62a b62l b62c] w) (fun ch w => C (.panic ch) [] w) := by kernel_rfl

theorem T_ref08_config_2_ok : UnitOk Tryz.prog H_ref08_config_2 (at_ (bodyOf Tryz.f95) [1, 1, 1, 1, 0, 1]) 125 := by
  have hc : at_ (bodyOf Tryz.f95) [1, 1, 1, 1, 0, 1] = .block 2 (.loop (at_ (bodyOf Tryz.f95) [1, 1, 1, 1, 0, 1, 0, 0])) := by kernel_rfl
  rw [hc]
  refine loop_unit_ok (carr := [(0, .slice none 0 0), (6, .int .i64 0)]) (fix := [(3, .pointer (some ⟨0, 0, none⟩))]) (ks := T_ref08_config_2_ks) (H := (hookAt [])) (B := fun C X l u w => match l, u with | [v0, v1], [v2] => T_ref08_config_2_body (fun b37a b37l b37c i38 w => X [.slice b37a b37l b37c, .int .i64 i38] w) (pA v0) (pL v0) (pC v0) (pInt v1) (pAddr v2) w (fun b63a b63l b63c w => C .normal [.slice b63a b63l b63c] w) (fun ch w => C (.panic ch) [] w) | _, _ => False) (by kernel_rfl) (by kernel_rfl) T_ref08_config_2_hok ?_ ?_
  · intro C X l u w hl hu
    obtain ⟨v0, l_v0, rfl, k_v0, hl_v0⟩ := Kinds.cons_ hl
    obtain ⟨b37a, b37l, b37c, rfl⟩ := kind_slice k_v0
    obtain ⟨v1, l_v1, rfl, k_v1, hl_v1⟩ := Kinds.cons_ hl_v0
    obtain ⟨i38, rfl⟩ := kind_int k_v1
    obtain rfl := Kinds.nil_ hl_v1
    obtain ⟨v2, l_v2, rfl, k_v2, hu_v2⟩ := Kinds.cons_ hu
    obtain ⟨c39, rfl⟩ := kind_addr k_v2
    obtain rfl := Kinds.nil_ hu_v2
    exact T_ref08_config_2_eq C X b37a b37l b37c i38 c39 w
  · intro l u w C hl hu
    obtain ⟨v0, l_v0, rfl, k_v0, hl_v0⟩ := Kinds.cons_ hl
    obtain ⟨b37a, b37l, b37c, rfl⟩ := kind_slice k_v0
    obtain ⟨v1, l_v1, rfl, k_v1, hl_v1⟩ := Kinds.cons_ hl_v0
    obtain ⟨i38, rfl⟩ := kind_int k_v1
    obtain rfl := Kinds.nil_ hl_v1
    obtain ⟨v2, l_v2, rfl, k_v2, hu_v2⟩ := Kinds.cons_ hu
    obtain ⟨c39, rfl⟩ := kind_addr k_v2
    obtain rfl := Kinds.nil_ hu_v2
    constructor
    · intro h X hX
      exact h (fun b37a b37l b37c i38 w => X [.slice b37a b37l b37c, .int .i64 i38] w) (fun b37a b37l b37c i38 w hb => hX [.slice b37a b37l b37c, .int .i64 i38] w ⟨rfl, rfl, trivial⟩ hb)
    · intro h X hX
      exact h (fun l w => match l with | [v0, v1] => X (pA v0) (pL v0) (pC v0) (pInt v1) w | _ => True) (fun l w hl hb => by
        obtain ⟨v0, l_v0, rfl, k_v0, hl_v0⟩ := Kinds.cons_ hl
        obtain ⟨b37a, b37l, b37c, rfl⟩ := kind_slice k_v0
        obtain ⟨v1, l_v1, rfl, k_v1, hl_v1⟩ := Kinds.cons_ hl_v0
        obtain ⟨i38, rfl⟩ := kind_int k_v1
        obtain rfl := Kinds.nil_ hl_v1
        exact hX b37a b37l b37c i38 w hb)

def T_ref08_config (b1a : Option Addr) (b1l : Nat) (b1c : Nat) (x2 : Int) (s3a : Option Addr) (s3l : Nat) (s3c : Nat) (s4a : Option Addr) (s4l : Nat) (s4c : Nat) (w : World) (R : Ending → World → Prop) : Prop :=
  let w5 : World := w.alloc (.cells #[.int .i64 x2, .slice s3a s3l s3c, .slice s4a s4l s4c] 30)
  ∃ s6a : Option Addr, ∃ s6l : Nat, ∃ s6c : Nat, rd w5 ((⟨w.heap.size, 0, none⟩ : Addr).add 2) (.slice s6a s6l s6c) ∧ Calls Tryz.prog 94 #[.slice b1a b1l b1c, .int .i64 ((s6l : Nat) : Int)] w5 (ret (fun r7 w8 => ∃ s9a : Option Addr, ∃ s9l : Nat, ∃ s9c : Nat, r7 = .slice s9a s9l s9c ∧ T_ref08_config_1 s9a s9l s9c 0 (⟨w.heap.size, 0, none⟩ : Addr) w8 (fun b31a b31l b31c w32 => ∃ s33a : Option Addr, ∃ s33l : Nat, ∃ s33c : Nat, rd w32 ((⟨w.heap.size, 0, none⟩ : Addr).add 1) (.slice s33a s33l s33c) ∧ Calls Tryz.prog 94 #[.slice b31a b31l b31c, .int .i64 ((s33l : Nat) : Int)] w32 (ret (fun r34 w35 => ∃ s36a : Option Addr, ∃ s36l : Nat, ∃ s36c : Nat, r34 = .slice s36a s36l s36c ∧ T_ref08_config_2 s36a s36l s36c 0 (⟨w.heap.size, 0, none⟩ : Addr) w35 (fun b64a b64l b64c w65 => R (.returned (.slice b64a b64l b64c)) w65) (pan R)) (pan R))) (pan R)) (pan R))

theorem T_ref08_config_hl : allP (hokL Tryz.prog (hookAt [(29, H_ref08_config_1), (125, H_ref08_config_2)]) (bodyOf Tryz.f95) 1) = (UnitOk Tryz.prog H_ref08_config_1 (at_ (bodyOf Tryz.f95) [1, 1, 0, 1]) 29 ∧ UnitOk Tryz.prog H_ref08_config_2 (at_ (bodyOf Tryz.f95) [1, 1, 1, 1, 0, 1]) 125 ∧ True) := by kernel_rfl

theorem T_ref08_config_eq (b1a : Option Addr) (b1l : Nat) (b1c : Nat) (x2 : Int) (s3a : Option Addr) (s3l : Nat) (s3c : Nat) (s4a : Option Addr) (s4l : Nat) (s4c : Nat) (w : World) (R : Ending → World → Prop) : vcCode Tryz.prog (hookAt [(29, H_ref08_config_1), (125, H_ref08_config_2)]) (bodyOf Tryz.f95) 1 ⟨argEnv [.slice b1a b1l b1c, .agg #[.int .i64 x2, .slice s3a s3l s3c, .slice s4a s4l s4c]] 0, Tryz.f95.ntmps, []⟩ w (finQ Tryz.prog Tryz.f95.results.toList R) = T_ref08_config b1a b1l b1c x2 s3a s3l s3c s4a s4l s4c w R := by kernel_rfl

theorem T_ref08_config_b : Tryz.f95.body = some (bodyOf Tryz.f95) := by kernel_rfl
theorem T_ref08_config_s : (quietSel (bodyOf Tryz.f95) && Nat.ble 2 Tryz.f95.ntmps) = true := by kernel_rfl

theorem C_ref08_config {b1a : Option Addr} {b1l : Nat} {b1c : Nat} {x2 : Int} {s3a : Option Addr} {s3l : Nat} {s3c : Nat} {s4a : Option Addr} {s4l : Nat} {s4c : Nat} {w : World} {R : Ending → World → Prop} (h : T_ref08_config b1a b1l b1c x2 s3a s3l s3c s4a s4l s4c w R) : Calls Tryz.prog 95 #[.slice b1a b1l b1c, .agg #[.int .i64 x2, .slice s3a s3l s3c, .slice s4a s4l s4c]] w R :=
  calls_of_text (args := [.slice b1a b1l b1c, .agg #[.int .i64 x2, .slice s3a s3l s3c, .slice s4a s4l s4c]]) mixed Tryz.func95 T_ref08_config_b T_ref08_config_s (HOk_of _ _ (by rw [T_ref08_config_hl]; exact ⟨T_ref08_config_1_ok, T_ref08_config_2_ok, trivial⟩)) (by rw [T_ref08_config_eq]; exact h)

/-! tollgate/tollgateref08.withPool -/
def T_ref08_withPool_1_body (X : Option Addr → Nat → Nat → Int → World → Prop) (out6a : Option Addr) (out6l : Nat) (out6c : Nat) (i7 : Int) (l8a : Option Addr) (l8l : Nat) (l8c : Nat) (p9 : Addr) (w : World) (Kn : Option Addr → Nat → Nat → World → Prop) (Kp : List PanicEntry → World → Prop)  : Prop :=
  if (decide ((i7 : Int) < ((l8l : Nat) : Int))) = true then (let w10 : World := w.drew
  0 ≤ (i7 : Int) ∧ (i7 : Int) < ((l8l : Nat) : Int) ∧ ∃ b11, l8a = some b11 ∧ ∃ s12 : ByteArray, rd w10 (b11.add ((i7 : Int).toNat * 2)) (.string s12) ∧ ∃ s13 : ByteArray, rd w10 p9 (.string s13) ∧ if (Op.bytesLess s12.toList s13.toList) = true then (0 ≤ (i7 : Int) ∧ (i7 : Int) < ((l8l : Nat) : Int) ∧ ∃ b14, l8a = some b14 ∧ ∃ s15 : ByteArray, ∃ s16a : Option Addr, ∃ s16l : Nat, ∃ s16c : Nat, rd w10 (b14.add ((i7 : Int).toNat * 2)) (.agg #[.string s15, .slice s16a s16l s16c]) ∧ let w17 : World := w10.alloc (.cells #[.string s15, .slice s16a s16l s16c] 34)
  runV Tryz.prog (Builtin.append_ #[28, 28] 28 #[.slice out6a out6l out6c, .slice (some (⟨w10.heap.size, 0, none⟩ : Addr)) 1 1]) w17 (fun r18 w19 => ∃ s20a : Option Addr, ∃ s20l : Nat, ∃ s20c : Nat, r18 = .slice s20a s20l s20c ∧ X s20a s20l s20c (IntKind.wrap .i64 ((i7 : Int) + 1)) w19) Kp) else (X out6a out6l out6c (IntKind.wrap .i64 ((i7 : Int) + 1)) w10)) else (Kn out6a out6l out6c w)

def T_ref08_withPool_1 (out6a : Option Addr) (out6l : Nat) (out6c : Nat) (i7 : Int) (l8a : Option Addr) (l8l : Nat) (l8c : Nat) (p9 : Addr) (w : World) (Kn : Option Addr → Nat → Nat → World → Prop) (Kp : List PanicEntry → World → Prop) : Prop :=
  ∀ X : Option Addr → Nat → Nat → Int → World → Prop, (∀ (out6a : Option Addr) (out6l : Nat) (out6c : Nat) (i7 : Int) (w : World), T_ref08_withPool_1_body X out6a out6l out6c i7 l8a l8l l8c p9 w Kn Kp → X out6a out6l out6c i7 w) → X out6a out6l out6c i7 w

def T_ref08_withPool_1_outs : Exit → Option (List (Nat × Value)) := fun x => match x with | .normal => some [(5, .slice none 0 0)] | .panic _ => some [] | _ => none

def T_ref08_withPool_1_ks : Nat → Bool := ksOf [5, 6, 9, 10, 11, 12, 13, 14, 15, 16, 17, 18, 19, 20, 21, 22, 23, 24, 25, 26, 27, 28, 29]

def H_ref08_withPool_1 : Env → World → QT → Prop := unitHook 56 T_ref08_withPool_1_ks [(5, .slice none 0 0), (6, .int .i64 0), (0, .slice none 0 0), (3, .pointer (some ⟨0, 0, none⟩))] T_ref08_withPool_1_outs fun l w C => match l with | [v0, v1, v2, v3] => T_ref08_withPool_1 (pA v0) (pL v0) (pC v0) (pInt v1) (pA v2) (pL v2) (pC v2) (pAddr v3) w (fun out22a out22l out22c w => C .normal [.slice out22a out22l out22c] w) (fun ch w => C (.panic ch) [] w) | _ => False

theorem T_ref08_withPool_1_hl : allP (hokL Tryz.prog (hookAt []) (at_ (bodyOf Tryz.f99) [1, 1, 0, 1, 0, 0]) 116) = (True) := by kernel_rfl
theorem T_ref08_withPool_1_hok : HOk Tryz.prog (hookAt []) (at_ (bodyOf Tryz.f99) [1, 1, 0, 1, 0, 0]) 116 := HOk_of _ _ (by rw [T_ref08_withPool_1_hl]; exact trivial)

theorem T_ref08_withPool_1_eq (C : Conts) (X : List Value → World → Prop) (out6a : Option Addr) (out6l : Nat) (out6c : Nat) (i7 : Int) (l8a : Option Addr) (l8l : Nat) (l8c : Nat) (p9 : Addr) (w : World) : vcCode Tryz.prog (hookAt []) (at_ (bodyOf Tryz.f99) [1, 1, 0, 1, 0, 0]) 116 ⟨[(5, .slice out6a out6l out6c), (6, .int .i64 i7)] ++ [(0, .slice l8a l8l l8c), (3, .pointer (some p9))], 56, []⟩ w (seqQ (fun e w => takeAll e [(5, .slice none 0 0), (6, .int .i64 0)] fun l => X l w) (blockQ 0 (unitQ T_ref08_withPool_1_outs C))) = T_ref08_withPool_1_body (fun out6a out6l out6c i7 w => X [.slice out6a out6l out6c, .int .i64 i7] w) out6a out6l out6c i7 l8a l8l l8c p9 w (fun out23a out23l out23c w => C .normal [.slice out23a out23l out23c] w) (fun ch w => C (.panic ch) [] w) := by kernel_rfl

theorem T_ref08_withPool_1_ok : UnitOk Tryz.prog H_ref08_withPool_1 (at_ (bodyOf Tryz.f99) [1, 1, 0, 1]) 29 := by
  have hc : at_ (bodyOf Tryz.f99) [1, 1, 0, 1] = .block 0 (.loop (at_ (bodyOf Tryz.f99) [1, 1, 0, 1, 0, 0])) := by kernel_rfl
  rw [hc]
  refine loop_unit_ok (carr := [(5, .slice none 0 0), (6, .int .i64 0)]) (fix := [(0, .slice none 0 0), (3, .pointer (some ⟨0, 0, none⟩))]) (ks := T_ref08_withPool_1_ks) (H := (hookAt [])) (B := fun C X l u w => match l, u with | [v0, v1], [v2, v3] => T_ref08_withPool_1_body (fun out6a out6l out6c i7 w => X [.slice out6a out6l out6c, .int .i64 i7] w) (pA v0) (pL v0) (pC v0) (pInt v1) (pA v2) (pL v2) (pC v2) (pAddr v3) w (fun out24a out24l out24c w => C .normal [.slice out24a out24l out24c] w) (fun ch w => C (.panic ch) [] w) | _, _ => False) (by kernel_rfl) (by kernel_rfl) T_ref08_withPool_1_hok ?_ ?_
  · intro C X l u w hl hu
    obtain ⟨v0, l_v0, rfl, k_v0, hl_v0⟩ := Kinds.cons_ hl
    obtain ⟨out6a, out6l, out6c, rfl⟩ := kind_slice k_v0
    obtain ⟨v1, l_v1, rfl, k_v1, hl_v1⟩ := Kinds.cons_ hl_v0
    obtain ⟨i7, rfl⟩ := kind_int k_v1
    obtain rfl := Kinds.nil_ hl_v1
    obtain ⟨v2, l_v2, rfl, k_v2, hu_v2⟩ := Kinds.cons_ hu
    obtain ⟨l8a, l8l, l8c, rfl⟩ := kind_slice k_v2
    obtain ⟨v3, l_v3, rfl, k_v3, hu_v3⟩ := Kinds.cons_ hu_v2
    obtain ⟨p9, rfl⟩ := kind_addr k_v3
    obtain rfl := Kinds.nil_ hu_v3
    exact T_ref08_withPool_1_eq C X out6a out6l out6c i7 l8a l8l l8c p9 w
  · intro l u w C hl hu
    obtain ⟨v0, l_v0, rfl, k_v0, hl_v0⟩ := Kinds.cons_ hl
    obtain ⟨out6a, out6l, out6c, rfl⟩ := kind_slice k_v0
    obtain ⟨v1, l_v1, rfl, k_v1, hl_v1⟩ := Kinds.cons_ hl_v0
    obtain ⟨i7, rfl⟩ := kind_int k_v1
    obtain rfl := Kinds.nil_ hl_v1
    obtain ⟨v2, l_v2, rfl, k_v2, hu_v2⟩ := Kinds.cons_ hu
    obtain ⟨l8a, l8l, l8c, rfl⟩ := kind_slice k_v2
    obtain ⟨v3, l_v3, rfl, k_v3, hu_v3⟩ := Kinds.cons_ hu_v2
    obtain ⟨p9, rfl⟩ := kind_addr k_v3
    obtain rfl := Kinds.nil_ hu_v3
    constructor
    · intro h X hX
      exact h (fun out6a out6l out6c i7 w => X [.slice out6a out6l out6c, .int .i64 i7] w) (fun out6a out6l out6c i7 w hb => hX [.slice out6a out6l out6c, .int .i64 i7] w ⟨rfl, rfl, trivial⟩ hb)
    · intro h X hX
      exact h (fun l w => match l with | [v0, v1] => X (pA v0) (pL v0) (pC v0) (pInt v1) w | _ => True) (fun l w hl hb => by
        obtain ⟨v0, l_v0, rfl, k_v0, hl_v0⟩ := Kinds.cons_ hl
        obtain ⟨out6a, out6l, out6c, rfl⟩ := kind_slice k_v0
        obtain ⟨v1, l_v1, rfl, k_v1, hl_v1⟩ := Kinds.cons_ hl_v0
        obtain ⟨i7, rfl⟩ := kind_int k_v1
        obtain rfl := Kinds.nil_ hl_v1
        exact hX out6a out6l out6c i7 w hb)

def T_ref08_withPool_2_body (X : Option Addr → Nat → Nat → Int → World → Prop) (out33a : Option Addr) (out33l : Nat) (out33c : Nat) (i34 : Int) (l35a : Option Addr) (l35l : Nat) (l35c : Nat) (p36 : Addr) (w : World) (Kn : Option Addr → Nat → Nat → World → Prop) (Kp : List PanicEntry → World → Prop)  : Prop :=
  if (decide ((i34 : Int) < ((l35l : Nat) : Int))) = true then (let w37 : World := w.drew
  0 ≤ (i34 : Int) ∧ (i34 : Int) < ((l35l : Nat) : Int) ∧ ∃ b38, l35a = some b38 ∧ ∃ s39 : ByteArray, rd w37 (b38.add ((i34 : Int).toNat * 2)) (.string s39) ∧ ∃ s40 : ByteArray, rd w37 p36 (.string s40) ∧ if (!(Op.bytesLess s39.toList s40.toList || s39.toList == s40.toList)) = true then (0 ≤ (i34 : Int) ∧ (i34 : Int) < ((l35l : Nat) : Int) ∧ ∃ b41, l35a = some b41 ∧ ∃ s42 : ByteArray, ∃ s43a : Option Addr, ∃ s43l : Nat, ∃ s43c : Nat, rd w37 (b41.add ((i34 : Int).toNat * 2)) (.agg #[.string s42, .slice s43a s43l s43c]) ∧ let w44 : World := w37.alloc (.cells #[.string s42, .slice s43a s43l s43c] 34)
  runV Tryz.prog (Builtin.append_ #[28, 28] 28 #[.slice out33a out33l out33c, .slice (some (⟨w37.heap.size, 0, none⟩ : Addr)) 1 1]) w44 (fun r45 w46 => ∃ s47a : Option Addr, ∃ s47l : Nat, ∃ s47c : Nat, r45 = .slice s47a s47l s47c ∧ X s47a s47l s47c (IntKind.wrap .i64 ((i34 : Int) + 1)) w46) Kp) else (X out33a out33l out33c (IntKind.wrap .i64 ((i34 : Int) + 1)) w37)) else (Kn out33a out33l out33c w)

def T_ref08_withPool_2 (out33a : Option Addr) (out33l : Nat) (out33c : Nat) (i34 : Int) (l35a : Option Addr) (l35l : Nat) (l35c : Nat) (p36 : Addr) (w : World) (Kn : Option Addr → Nat → Nat → World → Prop) (Kp : List PanicEntry → World → Prop) : Prop :=
  ∀ X : Option Addr → Nat → Nat → Int → World → Prop, (∀ (out33a : Option Addr) (out33l : Nat) (out33c : Nat) (i34 : Int) (w : World), T_ref08_withPool_2_body X out33a out33l out33c i34 l35a l35l l35c p36 w Kn Kp → X out33a out33l out33c i34 w) → X out33a out33l out33c i34 w

def T_ref08_withPool_2_outs : Exit → Option (List (Nat × Value)) := fun x => match x with | .normal => some [(5, .slice none 0 0)] | .panic _ => some [] | _ => none

def T_ref08_withPool_2_ks : Nat → Bool := ksOf [5, 7, 34, 35, 36, 37, 38, 39, 40, 41, 42, 43, 44, 45, 46, 47, 48, 49, 50, 51, 52, 53, 54]

def H_ref08_withPool_2 : Env → World → QT → Prop := unitHook 56 T_ref08_withPool_2_ks [(5, .slice none 0 0), (7, .int .i64 0), (0, .slice none 0 0), (3, .pointer (some ⟨0, 0, none⟩))] T_ref08_withPool_2_outs fun l w C => match l with | [v0, v1, v2, v3] => T_ref08_withPool_2 (pA v0) (pL v0) (pC v0) (pInt v1) (pA v2) (pL v2) (pC v2) (pAddr v3) w (fun out49a out49l out49c w => C .normal [.slice out49a out49l out49c] w) (fun ch w => C (.panic ch) [] w) | _ => False

theorem T_ref08_withPool_2_hl : allP (hokL Tryz.prog (hookAt []) (at_ (bodyOf Tryz.f99) [1, 1, 1, 1, 0, 1, 0, 0]) 500) = (True) := by kernel_rfl
theorem T_ref08_withPool_2_hok : HOk Tryz.prog (hookAt []) (at_ (bodyOf Tryz.f99) [1, 1, 1, 1, 0, 1, 0, 0]) 500 := HOk_of _ _ (by rw [T_ref08_withPool_2_hl]; exact trivial)

theorem T_ref08_withPool_2_eq (C : Conts) (X : List Value → World → Prop) (out33a : Option Addr) (out33l : Nat) (out33c : Nat) (i34 : Int) (l35a : Option Addr) (l35l : Nat) (l35c : Nat) (p36 : Addr) (w : World) : vcCode Tryz.prog (hookAt []) (at_ (bodyOf Tryz.f99) [1, 1, 1, 1, 0, 1, 0, 0]) 500 ⟨[(5, .slice out33a out33l out33c), (7, .int .i64 i34)] ++ [(0, .slice l35a l35l l35c), (3, .pointer (some p36))], 56, []⟩ w (seqQ (fun e w => takeAll e [(5, .slice none 0 0), (7, .int .i64 0)] fun l => X l w) (blockQ 2 (unitQ T_ref08_withPool_2_outs C))) = T_ref08_withPool_2_body (fun out33a out33l out33c i34 w => X [.slice out33a out33l out33c, .int .i64 i34] w) out33a out33l out33c i34 l35a l35l l35c p36 w (fun out50a out50l out50c w => C .normal [.slice out50a out50l out50c] w) (fun ch w => C (.panic ch) [] w) := by kernel_rfl

theorem T_ref08_withPool_2_ok : UnitOk Tryz.prog H_ref08_withPool_2 (at_ (bodyOf Tryz.f99) [1, 1, 1, 1, 0, 1]) 125 := by
  have hc : at_ (bodyOf Tryz.f99) [1, 1, 1, 1, 0, 1] = .block 2 (.loop (at_ (bodyOf Tryz.f99) [1, 1, 1, 1, 0, 1, 0, 0])) := by kernel_rfl
  rw [hc]
  refine loop_unit_ok (carr := [(5, .slice none 0 0), (7, .int .i64 0)]) (fix := [(0, .slice none 0 0), (3, .pointer (some ⟨0, 0, none⟩))]) (ks := T_ref08_withPool_2_ks) (H := (hookAt [])) (B := fun C X l u w => match l, u with | [v0, v1], [v2, v3] => T_ref08_withPool_2_body (fun out33a out33l out33c i34 w => X [.slice out33a out33l out33c, .int .i64 i34] w) (pA v0) (pL v0) (pC v0) (pInt v1) (pA v2) (pL v2) (pC v2) (pAddr v3) w (fun out51a out51l out51c w => C .normal [.slice out51a out51l out51c] w) (fun ch w => C (.panic ch) [] w) | _, _ => False) (by kernel_rfl) (by kernel_rfl) T_ref08_withPool_2_hok ?_ ?_
  · intro C X l u w hl hu
    obtain ⟨v0, l_v0, rfl, k_v0, hl_v0⟩ := Kinds.cons_ hl
    obtain ⟨out33a, out33l, out33c, rfl⟩ := kind_slice k_v0
    obtain ⟨v1, l_v1, rfl, k_v1, hl_v1⟩ := Kinds.cons_ hl_v0
    obtain ⟨i34, rfl⟩ := kind_int k_v1
    obtain rfl := Kinds.nil_ hl_v1
    obtain ⟨v2, l_v2, rfl, k_v2, hu_v2⟩ := Kinds.cons_ hu
    obtain ⟨l35a, l35l, l35c, rfl⟩ := kind_slice k_v2
    obtain ⟨v3, l_v3, rfl, k_v3, hu_v3⟩ := Kinds.cons_ hu_v2
    obtain ⟨p36, rfl⟩ := kind_addr k_v3
    obtain rfl := Kinds.nil_ hu_v3
    exact T_ref08_withPool_2_eq C X out33a out33l out33c i34 l35a l35l l35c p36 w
  · intro l u w C hl hu
    obtain ⟨v0, l_v0, rfl, k_v0, hl_v0⟩ := Kinds.cons_ hl
    obtain ⟨out33a, out33l, out33c, rfl⟩ := kind_slice k_v0
    obtain ⟨v1, l_v1, rfl, k_v1, hl_v1⟩ := Kinds.cons_ hl_v0
    obtain ⟨i34, rfl⟩ := kind_int k_v1
    obtain rfl := Kinds.nil_ hl_v1
    obtain ⟨v2, l_v2, rfl, k_v2, hu_v2⟩ := Kinds.cons_ hu
    obtain ⟨l35a, l35l, l35c, rfl⟩ := kind_slice k_v2
    obtain ⟨v3, l_v3, rfl, k_v3, hu_v3⟩ := Kinds.cons_ hu_v2
    obtain ⟨p36, rfl⟩ := kind_addr k_v3
    obtain rfl := Kinds.nil_ hu_v3
    constructor
    · intro h X hX
      exact h (fun out33a out33l out33c i34 w => X [.slice out33a out33l out33c, .int .i64 i34] w) (fun out33a out33l out33c i34 w hb => hX [.slice out33a out33l out33c, .int .i64 i34] w ⟨rfl, rfl, trivial⟩ hb)
    · intro h X hX
      exact h (fun l w => match l with | [v0, v1] => X (pA v0) (pL v0) (pC v0) (pInt v1) w | _ => True) (fun l w hl hb => by
        obtain ⟨v0, l_v0, rfl, k_v0, hl_v0⟩ := Kinds.cons_ hl
        obtain ⟨out33a, out33l, out33c, rfl⟩ := kind_slice k_v0
        obtain ⟨v1, l_v1, rfl, k_v1, hl_v1⟩ := Kinds.cons_ hl_v0
        obtain ⟨i34, rfl⟩ := kind_int k_v1
        obtain rfl := Kinds.nil_ hl_v1
        exact hX out33a out33l out33c i34 w hb)

def T_ref08_withPool (l1a : Option Addr) (l1l : Nat) (l1c : Nat) (s2 : ByteArray) (s3a : Option Addr) (s3l : Nat) (s3c : Nat) (w : World) (R : Ending → World → Prop) : Prop :=
  let w4 : World := w.alloc (.cells #[.string s2, .slice s3a s3l s3c] 34)
  let w5 : World := w4.alloc (.cells #[] 34)
  T_ref08_withPool_1 (some (⟨w4.heap.size, 0, none⟩ : Addr)) 0 0 0 l1a l1l l1c (⟨w.heap.size, 0, none⟩ : Addr) w5 (fun out25a out25l out25c w26 => ∃ s27 : ByteArray, ∃ s28a : Option Addr, ∃ s28l : Nat, ∃ s28c : Nat, rd w26 (⟨w.heap.size, 0, none⟩ : Addr) (.agg #[.string s27, .slice s28a s28l s28c]) ∧ let w29 : World := w26.alloc (.cells #[.string s27, .slice s28a s28l s28c] 34)
  runV Tryz.prog (Builtin.append_ #[28, 28] 28 #[.slice out25a out25l out25c, .slice (some (⟨w26.heap.size, 0, none⟩ : Addr)) 1 1]) w29 (fun r30 w31 => ∃ s32a : Option Addr, ∃ s32l : Nat, ∃ s32c : Nat, r30 = .slice s32a s32l s32c ∧ T_ref08_withPool_2 s32a s32l s32c 0 l1a l1l l1c (⟨w.heap.size, 0, none⟩ : Addr) w31 (fun out52a out52l out52c w53 => R (.returned (.slice out52a out52l out52c)) w53) (pan R)) (pan R)) (pan R)

theorem T_ref08_withPool_hl : allP (hokL Tryz.prog (hookAt [(29, H_ref08_withPool_1), (125, H_ref08_withPool_2)]) (bodyOf Tryz.f99) 1) = (UnitOk Tryz.prog H_ref08_withPool_1 (at_ (bodyOf Tryz.f99) [1, 1, 0, 1]) 29 ∧ UnitOk Tryz.prog H_ref08_withPool_2 (at_ (bodyOf Tryz.f99) [1, 1, 1, 1, 0, 1]) 125 ∧ True) := by kernel_rfl

theorem T_ref08_withPool_eq (l1a : Option Addr) (l1l : Nat) (l1c : Nat) (s2 : ByteArray) (s3a : Option Addr) (s3l : Nat) (s3c : Nat) (w : World) (R : Ending → World → Prop) : vcCode Tryz.prog (hookAt [(29, H_ref08_withPool_1), (125, H_ref08_withPool_2)]) (bodyOf Tryz.f99) 1 ⟨argEnv [.slice l1a l1l l1c, .agg #[.string s2, .slice s3a s3l s3c]] 0, Tryz.f99.ntmps, []⟩ w (finQ Tryz.prog Tryz.f99.results.toList R) = T_ref08_withPool l1a l1l l1c s2 s3a s3l s3c w R := by kernel_rfl

theorem T_ref08_withPool_b : Tryz.f99.body = some (bodyOf Tryz.f99) := by kernel_rfl
theorem T_ref08_withPool_s : (quietSel (bodyOf Tryz.f99) && Nat.ble 2 Tryz.f99.ntmps) = true := by kernel_rfl

theorem C_ref08_withPool {l1a : Option Addr} {l1l : Nat} {l1c : Nat} {s2 : ByteArray} {s3a : Option Addr} {s3l : Nat} {s3c : Nat} {w : World} {R : Ending → World → Prop} (h : T_ref08_withPool l1a l1l l1c s2 s3a s3l s3c w R) : Calls Tryz.prog 99 #[.slice l1a l1l l1c, .agg #[.string s2, .slice s3a s3l s3c]] w R :=
  calls_of_text (args := [.slice l1a l1l l1c, .agg #[.string s2, .slice s3a s3l s3c]]) mixed Tryz.func99 T_ref08_withPool_b T_ref08_withPool_s (HOk_of _ _ (by rw [T_ref08_withPool_hl]; exact ⟨T_ref08_withPool_1_ok, T_ref08_withPool_2_ok, trivial⟩)) (by rw [T_ref08_withPool_eq]; exact h)

/-! tollgate/tollgateref08.withRoute -/
def T_ref08_withRoute_1_body (X : Option Addr → Nat → Nat → Int → World → Prop) (out7a : Option Addr) (out7l : Nat) (out7c : Nat) (i8 : Int) (l9a : Option Addr) (l9l : Nat) (l9c : Nat) (p10 : Addr) (w : World) (Kn : Option Addr → Nat → Nat → World → Prop) (Kp : List PanicEntry → World → Prop)  : Prop :=
  if (decide ((i8 : Int) < ((l9l : Nat) : Int))) = true then (let w11 : World := w.drew
  0 ≤ (i8 : Int) ∧ (i8 : Int) < ((l9l : Nat) : Int) ∧ ∃ b12, l9a = some b12 ∧ ∃ s13 : ByteArray, ∃ s14 : ByteArray, ∃ s15 : ByteArray, rd w11 (b12.add ((i8 : Int).toNat * 3)) (.agg #[.string s13, .string s14, .string s15]) ∧ ∃ s16 : ByteArray, ∃ s17 : ByteArray, ∃ s18 : ByteArray, rd w11 p10 (.agg #[.string s16, .string s17, .string s18]) ∧ Calls Tryz.prog 107 #[.agg #[.string s13, .string s14, .string s15], .agg #[.string s16, .string s17, .string s18]] w11 (ret (fun r19 w20 => ∃ b21 : Bool, r19 = .bool b21 ∧ (True) ∧ if b21 = true then (0 ≤ (i8 : Int) ∧ (i8 : Int) < ((l9l : Nat) : Int) ∧ ∃ b22, l9a = some b22 ∧ ∃ s23 : ByteArray, ∃ s24 : ByteArray, ∃ s25 : ByteArray, rd w20 (b22.add ((i8 : Int).toNat * 3)) (.agg #[.string s23, .string s24, .string s25]) ∧ let w26 : World := w20.alloc (.cells #[.string s23, .string s24, .string s25] 36)
  runV Tryz.prog (Builtin.append_ #[27, 27] 27 #[.slice out7a out7l out7c, .slice (some (⟨w20.heap.size, 0, none⟩ : Addr)) 1 1]) w26 (fun r27 w28 => ∃ s29a : Option Addr, ∃ s29l : Nat, ∃ s29c : Nat, r27 = .slice s29a s29l s29c ∧ X s29a s29l s29c (IntKind.wrap .i64 ((i8 : Int) + 1)) w28) Kp) else (X out7a out7l out7c (IntKind.wrap .i64 ((i8 : Int) + 1)) w20)) Kp)) else (Kn out7a out7l out7c w)

def T_ref08_withRoute_1 (out7a : Option Addr) (out7l : Nat) (out7c : Nat) (i8 : Int) (l9a : Option Addr) (l9l : Nat) (l9c : Nat) (p10 : Addr) (w : World) (Kn : Option Addr → Nat → Nat → World → Prop) (Kp : List PanicEntry → World → Prop) : Prop :=
  ∀ X : Option Addr → Nat → Nat → Int → World → Prop, (∀ (out7a : Option Addr) (out7l : Nat) (out7c : Nat) (i8 : Int) (w : World), T_ref08_withRoute_1_body X out7a out7l out7c i8 l9a l9l l9c p10 w Kn Kp → X out7a out7l out7c i8 w) → X out7a out7l out7c i8 w

def T_ref08_withRoute_1_outs : Exit → Option (List (Nat × Value)) := fun x => match x with | .normal => some [(5, .slice none 0 0)] | .panic _ => some [] | _ => none

def T_ref08_withRoute_1_ks : Nat → Bool := ksOf [5, 6, 9, 10, 11, 12, 13, 14, 15, 16, 17, 18, 19, 20, 21, 22, 23, 24, 25, 26, 27]

def H_ref08_withRoute_1 : Env → World → QT → Prop := unitHook 52 T_ref08_withRoute_1_ks [(5, .slice none 0 0), (6, .int .i64 0), (0, .slice none 0 0), (3, .pointer (some ⟨0, 0, none⟩))] T_ref08_withRoute_1_outs fun l w C => match l with | [v0, v1, v2, v3] => T_ref08_withRoute_1 (pA v0) (pL v0) (pC v0) (pInt v1) (pA v2) (pL v2) (pC v2) (pAddr v3) w (fun out31a out31l out31c w => C .normal [.slice out31a out31l out31c] w) (fun ch w => C (.panic ch) [] w) | _ => False

theorem T_ref08_withRoute_1_hl : allP (hokL Tryz.prog (hookAt []) (at_ (bodyOf Tryz.f100) [1, 1, 0, 1, 0, 0]) 116) = (True) := by kernel_rfl
theorem T_ref08_withRoute_1_hok : HOk Tryz.prog (hookAt []) (at_ (bodyOf Tryz.f100) [1, 1, 0, 1, 0, 0]) 116 := HOk_of _ _ (by rw [T_ref08_withRoute_1_hl]; exact trivial)

theorem T_ref08_withRoute_1_eq (C : Conts) (X : List Value → World → Prop) (out7a : Option Addr) (out7l : Nat) (out7c : Nat) (i8 : Int) (l9a : Option Addr) (l9l : Nat) (l9c : Nat) (p10 : Addr) (w : World) : vcCode Tryz.prog (hookAt []) (at_ (bodyOf Tryz.f100) [1, 1, 0, 1, 0, 0]) 116 ⟨[(5, .slice out7a out7l out7c), (6, .int .i64 i8)] ++ [(0, .slice l9a l9l l9c), (3, .pointer (some p10))], 52, []⟩ w (seqQ (fun e w => takeAll e [(5, .slice none 0 0), (6, .int .i64 0)] fun l => X l w) (blockQ 0 (unitQ T_ref08_withRoute_1_outs C))) = T_ref08_withRoute_1_body (fun out7a out7l out7c i8 w => X [.slice out7a out7l out7c, .int .i64 i8] w) out7a out7l out7c i8 l9a l9l l9c p10 w (fun out32a out32l out32c w => C .normal [.slice out32a out32l out32c] w) (fun ch w => C (.panic ch) [] w) := by kernel_rfl

theorem T_ref08_withRoute_1_ok : UnitOk Tryz.prog H_ref08_withRoute_1 (at_ (bodyOf Tryz.f100) [1, 1, 0, 1]) 29 := by
  have hc : at_ (bodyOf Tryz.f100) [1, 1, 0, 1] = .block 0 (.loop (at_ (bodyOf Tryz.f100) [1, 1, 0, 1, 0, 0])) := by kernel_rfl
  rw [hc]
  refine loop_unit_ok (carr := [(5, .slice none 0 0), (6, .int .i64 0)]) (fix := [(0, .slice none 0 0), (3, .pointer (some ⟨0, 0, none⟩))]) (ks := T_ref08_withRoute_1_ks) (H := (hookAt [])) (B := fun C X l u w => match l, u with | [v0, v1], [v2, v3] => T_ref08_withRoute_1_body (fun out7a out7l out7c i8 w => X [.slice out7a out7l out7c, .int .i64 i8] w) (pA v0) (pL v0) (pC v0) (pInt v1) (pA v2) (pL v2) (pC v2) (pAddr v3) w (fun out33a out33l out33c w => C .normal [.slice out33a out33l out33c] w) (fun ch w => C (.panic ch) [] w) | _, _ => False) (by kernel_rfl) (by kernel_rfl) T_ref08_withRoute_1_hok ?_ ?_
  · intro C X l u w hl hu
    obtain ⟨v0, l_v0, rfl, k_v0, hl_v0⟩ := Kinds.cons_ hl
    obtain ⟨out7a, out7l, out7c, rfl⟩ := kind_slice k_v0
    obtain ⟨v1, l_v1, rfl, k_v1, hl_v1⟩ := Kinds.cons_ hl_v0
    obtain ⟨i8, rfl⟩ := kind_int k_v1
    obtain rfl := Kinds.nil_ hl_v1
    obtain ⟨v2, l_v2, rfl, k_v2, hu_v2⟩ := Kinds.cons_ hu
    obtain ⟨l9a, l9l, l9c, rfl⟩ := kind_slice k_v2
    obtain ⟨v3, l_v3, rfl, k_v3, hu_v3⟩ := Kinds.cons_ hu_v2
    obtain ⟨p10, rfl⟩ := kind_addr k_v3
    obtain rfl := Kinds.nil_ hu_v3
    exact T_ref08_withRoute_1_eq C X out7a out7l out7c i8 l9a l9l l9c p10 w
  · intro l u w C hl hu
    obtain ⟨v0, l_v0, rfl, k_v0, hl_v0⟩ := Kinds.cons_ hl
    obtain ⟨out7a, out7l, out7c, rfl⟩ := kind_slice k_v0
    obtain ⟨v1, l_v1, rfl, k_v1, hl_v1⟩ := Kinds.cons_ hl_v0
    obtain ⟨i8, rfl⟩ := kind_int k_v1
    obtain rfl := Kinds.nil_ hl_v1
    obtain ⟨v2, l_v2, rfl, k_v2, hu_v2⟩ := Kinds.cons_ hu
    obtain ⟨l9a, l9l, l9c, rfl⟩ := kind_slice k_v2
    obtain ⟨v3, l_v3, rfl, k_v3, hu_v3⟩ := Kinds.cons_ hu_v2
    obtain ⟨p10, rfl⟩ := kind_addr k_v3
    obtain rfl := Kinds.nil_ hu_v3
    constructor
    · intro h X hX
      exact h (fun out7a out7l out7c i8 w => X [.slice out7a out7l out7c, .int .i64 i8] w) (fun out7a out7l out7c i8 w hb => hX [.slice out7a out7l out7c, .int .i64 i8] w ⟨rfl, rfl, trivial⟩ hb)
    · intro h X hX
      exact h (fun l w => match l with | [v0, v1] => X (pA v0) (pL v0) (pC v0) (pInt v1) w | _ => True) (fun l w hl hb => by
        obtain ⟨v0, l_v0, rfl, k_v0, hl_v0⟩ := Kinds.cons_ hl
        obtain ⟨out7a, out7l, out7c, rfl⟩ := kind_slice k_v0
        obtain ⟨v1, l_v1, rfl, k_v1, hl_v1⟩ := Kinds.cons_ hl_v0
        obtain ⟨i8, rfl⟩ := kind_int k_v1
        obtain rfl := Kinds.nil_ hl_v1
        exact hX out7a out7l out7c i8 w hb)

def T_ref08_withRoute_2_body (X : Option Addr → Nat → Nat → Int → World → Prop) (out43a : Option Addr) (out43l : Nat) (out43c : Nat) (i44 : Int) (l45a : Option Addr) (l45l : Nat) (l45c : Nat) (p46 : Addr) (w : World) (Kn : Option Addr → Nat → Nat → World → Prop) (Kp : List PanicEntry → World → Prop)  : Prop :=
  if (decide ((i44 : Int) < ((l45l : Nat) : Int))) = true then (let w47 : World := w.drew
  ∃ s48 : ByteArray, ∃ s49 : ByteArray, ∃ s50 : ByteArray, rd w47 p46 (.agg #[.string s48, .string s49, .string s50]) ∧ 0 ≤ (i44 : Int) ∧ (i44 : Int) < ((l45l : Nat) : Int) ∧ ∃ b51, l45a = some b51 ∧ ∃ s52 : ByteArray, ∃ s53 : ByteArray, ∃ s54 : ByteArray, rd w47 (b51.add ((i44 : Int).toNat * 3)) (.agg #[.string s52, .string s53, .string s54]) ∧ Calls Tryz.prog 107 #[.agg #[.string s48, .string s49, .string s50], .agg #[.string s52, .string s53, .string s54]] w47 (ret (fun r55 w56 => ∃ b57 : Bool, r55 = .bool b57 ∧ (True) ∧ if b57 = true then (0 ≤ (i44 : Int) ∧ (i44 : Int) < ((l45l : Nat) : Int) ∧ ∃ b58, l45a = some b58 ∧ ∃ s59 : ByteArray, ∃ s60 : ByteArray, ∃ s61 : ByteArray, rd w56 (b58.add ((i44 : Int).toNat * 3)) (.agg #[.string s59, .string s60, .string s61]) ∧ let w62 : World := w56.alloc (.cells #[.string s59, .string s60, .string s61] 36)
  runV Tryz.prog (Builtin.append_ #[27, 27] 27 #[.slice out43a out43l out43c, .slice (some (⟨w56.heap.size, 0, none⟩ : Addr)) 1 1]) w62 (fun r63 w64 => ∃ s65a : Option Addr, ∃ s65l : Nat, ∃ s65c : Nat, r63 = .slice s65a s65l s65c ∧ X s65a s65l s65c (IntKind.wrap .i64 ((i44 : Int) + 1)) w64) Kp) else (X out43a out43l out43c (IntKind.wrap .i64 ((i44 : Int) + 1)) w56)) Kp)) else (Kn out43a out43l out43c w)

def T_ref08_withRoute_2 (out43a : Option Addr) (out43l : Nat) (out43c : Nat) (i44 : Int) (l45a : Option Addr) (l45l : Nat) (l45c : Nat) (p46 : Addr) (w : World) (Kn : Option Addr → Nat → Nat → World → Prop) (Kp : List PanicEntry → World → Prop) : Prop :=
  ∀ X : Option Addr → Nat → Nat → Int → World → Prop, (∀ (out43a : Option Addr) (out43l : Nat) (out43c : Nat) (i44 : Int) (w : World), T_ref08_withRoute_2_body X out43a out43l out43c i44 l45a l45l l45c p46 w Kn Kp → X out43a out43l out43c i44 w) → X out43a out43l out43c i44 w

def T_ref08_withRoute_2_outs : Exit → Option (List (Nat × Value)) := fun x => match x with | .normal => some [(5, .slice none 0 0)] | .panic _ => some [] | _ => none

def T_ref08_withRoute_2_ks : Nat → Bool := ksOf [5, 7, 32, 33, 34, 35, 36, 37, 38, 39, 40, 41, 42, 43, 44, 45, 46, 47, 48, 49, 50]

def H_ref08_withRoute_2 : Env → World → QT → Prop := unitHook 52 T_ref08_withRoute_2_ks [(5, .slice none 0 0), (7, .int .i64 0), (0, .slice none 0 0), (3, .pointer (some ⟨0, 0, none⟩))] T_ref08_withRoute_2_outs fun l w C => match l with | [v0, v1, v2, v3] => T_ref08_withRoute_2 (pA v0) (pL v0) (pC v0) (pInt v1) (pA v2) (pL v2) (pC v2) (pAddr v3) w (fun out67a out67l out67c w => C .normal [.slice out67a out67l out67c] w) (fun ch w => C (.panic ch) [] w) | _ => False

theorem T_ref08_withRoute_2_hl : allP (hokL Tryz.prog (hookAt []) (at_ (bodyOf Tryz.f100) [1, 1, 1, 1, 0, 1, 0, 0]) 500) = (True) := by kernel_rfl
theorem T_ref08_withRoute_2_hok : HOk Tryz.prog (hookAt []) (at_ (bodyOf Tryz.f100) [1, 1, 1, 1, 0, 1, 0, 0]) 500 := HOk_of _ _ (by rw [T_ref08_withRoute_2_hl]; exact trivial)

theorem T_ref08_withRoute_2_eq (C : Conts) (X : List Value → World → Prop) (out43a : Option Addr) (out43l : Nat) (out43c : Nat) (i44 : Int) (l45a : Option Addr) (l45l : Nat) (l45c : Nat) (p46 : Addr) (w : World) : vcCode Tryz.prog (hookAt []) (at_ (bodyOf Tryz.f100) [1, 1, 1, 1, 0, 1, 0, 0]) 500 ⟨[(5, .slice out43a out43l out43c), (7, .int .i64 i44)] ++ [(0, .slice l45a l45l l45c), (3, .pointer (some p46))], 52, []⟩ w (seqQ (fun e w => takeAll e [(5, .slice none 0 0), (7, .int .i64 0)] fun l => X l w) (blockQ 2 (unitQ T_ref08_withRoute_2_outs C))) = T_ref08_withRoute_2_body (fun out43a out43l out43c i44 w => X [.slice out43a out43l out43c, .int .i64 i44] w) out43a out43l out43c i44 l45a l45l l45c p46 w (fun out68a out68l out68c w => C .normal [.slice out68a out68l out68c] w) (fun ch w => C (.panic ch) [] w) := by kernel_rfl

theorem T_ref08_withRoute_2_ok : UnitOk Tryz.prog H_ref08_withRoute_2 (at_ (bodyOf Tryz.f100) [1, 1, 1, 1, 0, 1]) 125 := by
  have hc : at_ (bodyOf Tryz.f100) [1, 1, 1, 1, 0, 1] = .block 2 (.loop (at_ (bodyOf Tryz.f100) [1, 1, 1, 1, 0, 1, 0, 0])) := by kernel_rfl
  rw [hc]
  refine loop_unit_ok (carr := [(5, .slice none 0 0), (7, .int .i64 0)]) (fix := [(0, .slice none 0 0), (3, .pointer (some ⟨0, 0, none⟩))]) (ks := T_ref08_withRoute_2_ks) (H := (hookAt [])) (B := fun C X l u w => match l, u with | [v0, v1], [v2, v3] => T_ref08_withRoute_2_body (fun out43a out43l out43c i44 w => X [.slice out43a out43l out43c, .int .i64 i44] w) (pA v0) (pL v0) (pC v0) (pInt v1) (pA v2) (pL v2) (pC v2) (pAddr v3) w (fun out69a out69l out69c w => C .normal [.slice out69a out69l out69c] w) (fun ch w => C (.panic ch) [] w) | _, _ => False) (by kernel_rfl) (by kernel_rfl) T_ref08_withRoute_2_hok ?_ ?_
  · intro C X l u w hl hu
    obtain ⟨v0, l_v0, rfl, k_v0, hl_v0⟩ := Kinds.cons_ hl
    obtain ⟨out43a, out43l, out43c, rfl⟩ := kind_slice k_v0
    obtain ⟨v1, l_v1, rfl, k_v1, hl_v1⟩ := Kinds.cons_ hl_v0
    obtain ⟨i44, rfl⟩ := kind_int k_v1
    obtain rfl := Kinds.nil_ hl_v1
    obtain ⟨v2, l_v2, rfl, k_v2, hu_v2⟩ := Kinds.cons_ hu
    obtain ⟨l45a, l45l, l45c, rfl⟩ := kind_slice k_v2
    obtain ⟨v3, l_v3, rfl, k_v3, hu_v3⟩ := Kinds.cons_ hu_v2
    obtain ⟨p46, rfl⟩ := kind_addr k_v3
    obtain rfl := Kinds.nil_ hu_v3
    exact T_ref08_withRoute_2_eq C X out43a out43l out43c i44 l45a l45l l45c p46 w
  · intro l u w C hl hu
    obtain ⟨v0, l_v0, rfl, k_v0, hl_v0⟩ := Kinds.cons_ hl
    obtain ⟨out43a, out43l, out43c, rfl⟩ := kind_slice k_v0
    obtain ⟨v1, l_v1, rfl, k_v1, hl_v1⟩ := Kinds.cons_ hl_v0
    obtain ⟨i44, rfl⟩ := kind_int k_v1
    obtain rfl := Kinds.nil_ hl_v1
    obtain ⟨v2, l_v2, rfl, k_v2, hu_v2⟩ := Kinds.cons_ hu
    obtain ⟨l45a, l45l, l45c, rfl⟩ := kind_slice k_v2
    obtain ⟨v3, l_v3, rfl, k_v3, hu_v3⟩ := Kinds.cons_ hu_v2
    obtain ⟨p46, rfl⟩ := kind_addr k_v3
    obtain rfl := Kinds.nil_ hu_v3
    constructor
    · intro h X hX
      exact h (fun out43a out43l out43c i44 w => X [.slice out43a out43l out43c, .int .i64 i44] w) (fun out43a out43l out43c i44 w hb => hX [.slice out43a out43l out43c, .int .i64 i44] w ⟨rfl, rfl, trivial⟩ hb)
    · intro h X hX
      exact h (fun l w => match l with | [v0, v1] => X (pA v0) (pL v0) (pC v0) (pInt v1) w | _ => True) (fun l w hl hb => by
        obtain ⟨v0, l_v0, rfl, k_v0, hl_v0⟩ := Kinds.cons_ hl
        obtain ⟨out43a, out43l, out43c, rfl⟩ := kind_slice k_v0
        obtain ⟨v1, l_v1, rfl, k_v1, hl_v1⟩ := Kinds.cons_ hl_v0
        obtain ⟨i44, rfl⟩ := kind_int k_v1
        obtain rfl := Kinds.nil_ hl_v1
        exact hX out43a out43l out43c i44 w hb)

def T_ref08_withRoute (l1a : Option Addr) (l1l : Nat) (l1c : Nat) (s2 : ByteArray) (s3 : ByteArray) (s4 : ByteArray) (w : World) (R : Ending → World → Prop) : Prop :=
  let w5 : World := w.alloc (.cells #[.string s2, .string s3, .string s4] 36)
  let w6 : World := w5.alloc (.cells #[] 36)
  T_ref08_withRoute_1 (some (⟨w5.heap.size, 0, none⟩ : Addr)) 0 0 0 l1a l1l l1c (⟨w.heap.size, 0, none⟩ : Addr) w6 (fun out34a out34l out34c w35 => ∃ s36 : ByteArray, ∃ s37 : ByteArray, ∃ s38 : ByteArray, rd w35 (⟨w.heap.size, 0, none⟩ : Addr) (.agg #[.string s36, .string s37, .string s38]) ∧ let w39 : World := w35.alloc (.cells #[.string s36, .string s37, .string s38] 36)
  runV Tryz.prog (Builtin.append_ #[27, 27] 27 #[.slice out34a out34l out34c, .slice (some (⟨w35.heap.size, 0, none⟩ : Addr)) 1 1]) w39 (fun r40 w41 => ∃ s42a : Option Addr, ∃ s42l : Nat, ∃ s42c : Nat, r40 = .slice s42a s42l s42c ∧ T_ref08_withRoute_2 s42a s42l s42c 0 l1a l1l l1c (⟨w.heap.size, 0, none⟩ : Addr) w41 (fun out70a out70l out70c w71 => R (.returned (.slice out70a out70l out70c)) w71) (pan R)) (pan R)) (pan R)

theorem T_ref08_withRoute_hl : allP (hokL Tryz.prog (hookAt [(29, H_ref08_withRoute_1), (125, H_ref08_withRoute_2)]) (bodyOf Tryz.f100) 1) = (UnitOk Tryz.prog H_ref08_withRoute_1 (at_ (bodyOf Tryz.f100) [1, 1, 0, 1]) 29 ∧ UnitOk Tryz.prog H_ref08_withRoute_2 (at_ (bodyOf Tryz.f100) [1, 1, 1, 1, 0, 1]) 125 ∧ True) := by kernel_rfl

theorem T_ref08_withRoute_eq (l1a : Option Addr) (l1l : Nat) (l1c : Nat) (s2 : ByteArray) (s3 : ByteArray) (s4 : ByteArray) (w : World) (R : Ending → World → Prop) : vcCode Tryz.prog (hookAt [(29, H_ref08_withRoute_1), (125, H_ref08_withRoute_2)]) (bodyOf Tryz.f100) 1 ⟨argEnv [.slice l1a l1l l1c, .agg #[.string s2, .string s3, .string s4]] 0, Tryz.f100.ntmps, []⟩ w (finQ Tryz.prog Tryz.f100.results.toList R) = T_ref08_withRoute l1a l1l l1c s2 s3 s4 w R := by kernel_rfl

theorem T_ref08_withRoute_b : Tryz.f100.body = some (bodyOf Tryz.f100) := by kernel_rfl
theorem T_ref08_withRoute_s : (quietSel (bodyOf Tryz.f100) && Nat.ble 2 Tryz.f100.ntmps) = true := by kernel_rfl

theorem C_ref08_withRoute {l1a : Option Addr} {l1l : Nat} {l1c : Nat} {s2 : ByteArray} {s3 : ByteArray} {s4 : ByteArray} {w : World} {R : Ending → World → Prop} (h : T_ref08_withRoute l1a l1l l1c s2 s3 s4 w R) : Calls Tryz.prog 100 #[.slice l1a l1l l1c, .agg #[.string s2, .string s3, .string s4]] w R :=
  calls_of_text (args := [.slice l1a l1l l1c, .agg #[.string s2, .string s3, .string s4]]) mixed Tryz.func100 T_ref08_withRoute_b T_ref08_withRoute_s (HOk_of _ _ (by rw [T_ref08_withRoute_hl]; exact ⟨T_ref08_withRoute_1_ok, T_ref08_withRoute_2_ok, trivial⟩)) (by rw [T_ref08_withRoute_eq]; exact h)

end Go.Proofs.YtcpmfjclkdjfmaaGreat

/-
  The document's store: lists that rise; a configuration's bytes, lists with one at its place.
-/
namespace Go.Vc
open Go Go.Proofs Go.Proofs.YtcpmfjclkdjfmaaGreat
set_option maxRecDepth 100000
section
variable {E w : World} {L : List Asrt} {R : Ending → World → Prop} {F G : Fz} {s : Cm.Sm} {xs : Cm.Bs} {b ra pa : Sl}
theorem mem1 {A : Asrt} (hm : kn F ∈ L) : kn F ∈ A :: L := List.mem_cons_of_mem _ hm
theorem mem2 {A B : Asrt} (hm : kn F ∈ L) : kn F ∈ A :: B :: L := mem1 (mem1 hm)
theorem mem3 {A B C : Asrt} (hm : kn F ∈ L) : kn F ∈ A :: B :: C :: L := mem1 (mem2 hm)
theorem mem4 {A B C D : Asrt} (hm : kn F ∈ L) : kn F ∈ A :: B :: C :: D :: L := mem1 (mem3 hm)
set_option maxHeartbeats 1000000 in
theorem rconf_l1 {Kn : Option Addr → Nat → Nat → World → Prop} {Kp : List PanicEntry → World → Prop} {bc : Nat} {v : Int} {ps : List PlS} (hm : kn F ∈ L) (hp : ps.map (·.2) = s.pools) (S : Sz s) (r : RdF F pa.1 pa.2.1 2 (ps.flatMap pcV)) (t : ∀ x ∈ ps, RdF F x.1.1 x.1.2.1 2 (x.2.tg.flatMap tV))
    (h : St E (byA b xs :: blkL bc 30 (cfgL v ra pa) :: L) w) (hx : xs.length ≤ 1200000)
    (k : ∀ (w : World) (b : Sl), St E (byA b (xs ++ s.pools.flatMap Cm.plB) :: blkL bc 30 (cfgL v ra pa) :: L) w → Kn b.1 b.2.1 b.2.2 w) :
    T_ref08_config_1 b.1 b.2.1 b.2.2 0 ⟨bc, 0, none⟩ w Kn Kp := by
  have hbig : big = 140737488355328 := rfl
  have hpl : ps.length = s.pools.length := by rw [← hp]; simp
  have n1 := r.count pcV_len (by decide) h (mem2 hm)
  have hpn := S.pn
  unfold T_ref08_config_1
  intro X hX
  refine up_to s.pools.length (Q := fun j => ∀ (w : World) (b : Sl), St E (byA b (xs ++ (s.pools.take j).flatMap Cm.plB) :: blkL bc 30 (cfgL v ra pa) :: L) w → X b.1 b.2.1 b.2.2 (j : Int) w) ?_ w b (by simpa using h)
  intro j hj ih w b h
  refine hX _ _ _ _ _ ?_
  unfold T_ref08_config_1_body
  refine ⟨_, _, _, rd_fld h.f1.at_blk rfl rfl, ?_⟩
  rw [← n1, hpl]
  refine ite_d (fun hc => ?_) fun hc => ?_
  · have hjl : j < s.pools.length := by omega
    have hjp : j < ps.length := by omega
    intro w14
    have h14 : St E _ w14 := h.drew
    clear_value w14
    obtain ⟨ad, ha, hn, hs, _⟩ := pl_at (r.at h14 (mem2 hm)) hjp
    have e2 : ps[j].2 = s.pools[j] := by
      have : (ps.map (·.2))[j]'(by simpa using hjp) = s.pools[j] := by simp [hp]
      simpa using this
    have ht := t _ (List.getElem_mem hjp)
    rw [e2] at hn ht
    obtain ⟨hx3, hx4⟩ := S.pl _ (List.getElem_mem hjl)
    have hx5 := tgsMax_short hx4
    have hx6 := text_len s.pools[j].name
    have hx1 := pls_len S j
    refine ⟨_, _, _, rd_fld h14.f1.at_blk rfl rfl, by omega, by omega, ad, ha, _, by rw [Int.toNat_natCast]; exact hn, _, _, _, rd_fld h14.f1.at_blk rfl rfl, by omega, by omega, ad, ha, _, _, _, by rw [Int.toNat_natCast]; exact hs, ?_⟩
    refine Rtext_spec (x := s.pools[j].name) h14 (by simp only [List.length_append]; omega) fun w22 b22 h22 => ⟨_, _, _, rfl, ⟨?_, rd_fld h22.f1.at_blk rfl rfl, rd_fld h22.f1.at_blk rfl rfl, trivial⟩, ?_⟩
    · obtain ⟨ad', ha', _, hs', _⟩ := pl_at (r.at h22 (mem2 hm)) hjp
      rw [ha] at ha'
      injection ha' with ha'
      subst ha'
      rw [Int.toNat_natCast]; exact hs'
    · refine Rtargets_spec (q := ps[j].1) (mem1 hm) ht hx4.ok h22 (by simp only [List.length_append]; omega) fun w25 b25 h25 => ⟨_, _, _, rfl, ⟨rd_fld h25.f1.at_blk rfl rfl, rd_fld h25.f1.at_blk rfl rfl, trivial⟩, ?_⟩
      rw [succ_big (by omega)]
      refine ih hjl _ _ ?_
      rw [List.take_succ_eq_append_getElem hjl, List.flatMap_append]
      simpa [Cm.plB] using h25
  · rw [List.take_of_length_le (by omega)] at h
    exact k _ _ h
set_option maxHeartbeats 1000000 in
theorem rconf_l2 {Kn : Option Addr → Nat → Nat → World → Prop} {Kp : List PanicEntry → World → Prop} {bc : Nat} {v : Int} (hm : kn F ∈ L) (S : Sz s) (r : RdF F ra.1 ra.2.1 3 (s.routes.flatMap rcV))
    (h : St E (byA b xs :: blkL bc 30 (cfgL v ra pa) :: L) w) (hx : xs.length ≤ 1500000)
    (k : ∀ (w : World) (b : Sl), St E (byA b (xs ++ s.routes.flatMap Cm.rtB) :: blkL bc 30 (cfgL v ra pa) :: L) w → Kn b.1 b.2.1 b.2.2 w) :
    T_ref08_config_2 b.1 b.2.1 b.2.2 0 ⟨bc, 0, none⟩ w Kn Kp := by
  have hbig : big = 140737488355328 := rfl
  have n1 := r.count rcV_len (by decide) h (mem2 hm)
  have hrn := S.rn
  unfold T_ref08_config_2
  intro X hX
  refine up_to s.routes.length (Q := fun j => ∀ (w : World) (b : Sl), St E (byA b (xs ++ (s.routes.take j).flatMap Cm.rtB) :: blkL bc 30 (cfgL v ra pa) :: L) w → X b.1 b.2.1 b.2.2 (j : Int) w) ?_ w b (by simpa using h)
  intro j hj ih w b h
  refine hX _ _ _ _ _ ?_
  unfold T_ref08_config_2_body
  refine ⟨_, _, _, rd_fld h.f1.at_blk rfl rfl, ?_⟩
  rw [← n1]
  refine ite_d (fun hc => ?_) fun hc => ?_
  · have hjl : j < s.routes.length := by omega
    intro w14
    have h14 : St E _ w14 := h.drew
    clear_value w14
    obtain ⟨ad, ha, _, hk⟩ := rt_at (r.at h14 (mem2 hm)) hjl
    have rr : ∀ {w : World} {A B : Asrt}, St E (A :: B :: L) w → ∀ k v, (rcV s.routes[j])[k]? = some v → one v = true → rd w ((ad.add (j * 3)).add k) v := fun h k v h1 h2 => by
      obtain ⟨ad', ha', _, hk'⟩ := rt_at (r.at h (mem2 hm)) hjl
      rw [ha] at ha'
      injection ha' with ha'
      subst ha'
      exact hk' k v h1 h2
    obtain ⟨hx3, hx4, hx5⟩ := S.rt _ (List.getElem_mem hjl)
    have e1 := text_len s.routes[j].host
    have e2 := text_len s.routes[j].pfx
    have e3 := text_len s.routes[j].pool
    have hx1 := rts_len S j
    rw [Int.toNat_natCast]
    refine ⟨_, _, _, rd_fld h14.f1.at_blk rfl rfl, by omega, by omega, ad, ha, _, rr h14 0 _ rfl rfl, _, _, _, rd_fld h14.f1.at_blk rfl rfl, by omega, by omega, ad, ha, _, rr h14 1 _ rfl rfl, _, _, _, rd_fld h14.f1.at_blk rfl rfl, by omega, by omega, ad, ha, _, rr h14 2 _ rfl rfl, ?_⟩
    refine Rtext_spec (x := s.routes[j].host) h14 (by simp only [List.length_append]; omega) fun w22 b22 h22 => ⟨_, _, _, rfl, ⟨rr h22 2 _ rfl rfl, rd_fld h22.f1.at_blk rfl rfl, rr h22 1 _ rfl rfl, rd_fld h22.f1.at_blk rfl rfl, rd_fld h22.f1.at_blk rfl rfl, trivial⟩, ?_⟩
    refine Rtext_spec (x := s.routes[j].pfx) h22 (by simp only [List.length_append]; omega) fun w23 b23 h23 => ⟨_, _, _, rfl, ⟨rr h23 2 _ rfl rfl, rd_fld h23.f1.at_blk rfl rfl, rd_fld h23.f1.at_blk rfl rfl, rd_fld h23.f1.at_blk rfl rfl, trivial⟩, ?_⟩
    refine Rtext_spec (x := s.routes[j].pool) h23 (by simp only [List.length_append]; omega) fun w25 b25 h25 => ⟨_, _, _, rfl, ⟨rd_fld h25.f1.at_blk rfl rfl, rd_fld h25.f1.at_blk rfl rfl, rd_fld h25.f1.at_blk rfl rfl, trivial⟩, ?_⟩
    rw [succ_big (by omega)]
    refine ih hjl _ _ ?_
    rw [List.take_succ_eq_append_getElem hjl, List.flatMap_append]
    simpa [Cm.rtB] using h25
  · rw [List.take_of_length_le (by omega)] at h
    exact k _ _ h
/-- config: a configuration's bytes, behind others. -/
theorem Rconfig_spec {v : Int} (hm : kn F ∈ L) (S : Sz s) (c : cfgR F ra pa s.routes s.pools) (h : St E (byA b xs :: L) w) (hx : xs.length ≤ 1000000)
    (k : ∀ (w' : World) (b' : Sl), St E (byA b' (xs ++ Cm.confB s.pools s.routes) :: L) w' → R (.returned (.slice b'.1 b'.2.1 b'.2.2)) w') : Calls Tryz.prog 95 #[.slice b.1 b.2.1 b.2.2, cfgV v ra pa] w R := by
  have hbig : big = 140737488355328 := rfl
  obtain ⟨rr, ps, hps, rp, rt⟩ := c
  have hy1 := pls_len S s.pools.length
  rw [List.take_length] at hy1
  have hy2 := num_len s.pools.length
  have hy3 := num_len s.routes.length
  refine C_ref08_config ?_
  unfold T_ref08_config
  intro w5
  have h5 : St E (blkL w.heap.size 30 (cfgL v ra pa) :: byA b xs :: L) w5 := h.alloc _
  clear_value w5
  generalize w.heap.size = bc at *
  have n1 := rp.count pcV_len (by decide) h5 (mem2 hm)
  have n2 := rr.count rcV_len (by decide) h5 (mem2 hm)
  have hpl : ps.length = s.pools.length := by rw [← hps]; simp
  refine ⟨_, _, _, rd_fld h5.at_blk rfl rfl, ?_⟩
  rw [← n1, hpl]
  refine Rnum_spec h5.f1 (by omega) fun w8 b8 h8 => ⟨_, _, _, rfl, ?_⟩
  refine rconf_l1 hm hps S rp rt h8 (by simp only [List.length_append]; omega) fun w32 b32 h32 => ⟨_, _, _, rd_fld h32.f1.at_blk rfl rfl, ?_⟩
  rw [← n2]
  refine Rnum_spec h32 (by simp only [List.length_append]; omega) fun w35 b35 h35 => ⟨_, _, _, rfl, ?_⟩
  refine rconf_l2 hm S rr h35 (by simp only [List.length_append]; omega) fun w65 b65 h65 => k _ _ ?_
  have := h65.f1.drop
  simpa [Cm.confB] using this
/-- less. -/
theorem Rless_spec {x y : Cm.Rt} (h : St E L w) (k : ∀ w', St E L w' → R (.returned (.bool (Cm.rtLt x y))) w') :
    Calls Tryz.prog 107 #[.agg #[.string (bs x.host), .string (bs x.pfx), .string (bs x.pool)], .agg #[.string (bs y.host), .string (bs y.pfx), .string (bs y.pool)]] w R := by
  refine C_ref08_less ?_
  unfold T_ref08_less
  intro w7
  have h7 : St E (blkL w.heap.size 36 (rcV x) :: L) w7 := h.alloc _
  intro w8
  have h8 : St E (blkL w7.heap.size 36 (rcV y) :: blkL w.heap.size 36 (rcV x) :: L) w8 := h7.alloc _
  clear_value w8
  have e : ∀ a b : Cm.Bs, Op.bytesLess (bs a).toList (bs b).toList = decide (a < b) := fun a b => by rw [bs_toList, bs_toList, bytesLess_eq]
  refine ⟨_, rd_cell h8.f1.at_blk rfl rfl, _, rd_cell h8.at_blk rfl rfl, ?_⟩
  rw [e]
  refine ite_d (fun h1 => congB (k _ h8.drop.drop) (by simp [Cm.rtLt, h1])) fun h1 => ⟨_, rd_cell h8.f1.at_blk rfl rfl, _, rd_cell h8.at_blk rfl rfl, ?_⟩
  rw [str_beq]
  refine ite_d (fun h2 => ⟨_, rd_fld h8.f1.at_blk rfl rfl, _, rd_fld h8.at_blk rfl rfl, congB (k _ h8.drop.drop) ?_⟩) fun h2 => congB (k _ h8.drop.drop) (by simp [Cm.rtLt, h1, h2])
  rw [e]
  unfold Cm.rtLt
  rw [decide_eq_false h1, decide_eq_true h2, Bool.false_or, Bool.true_and]
theorem filter_step {α : Type} {p : α → Bool} {l : List α} {j : Nat} (hj : j < l.length) : (l.take (j + 1)).filter p = (l.take j).filter p ++ (if p l[j] = true then [l[j]] else []) := by
  rw [List.take_succ_eq_append_getElem hj, List.filter_append]
  congr 1
  split <;> simp [*]
def pcLt (x y : PlS) : Bool := decide (x.2.name < y.2.name)
set_option maxHeartbeats 1000000 in
/-- withPool. -/
theorem RwithPool_spec {q : Sl} {l : List PlS} {p : PlS} (hm : kn F ∈ L) (r : RdF F q.1 q.2.1 2 (l.flatMap pcV)) (hl : l.length ≤ 1000) (h : St E L w)
    (k : ∀ (w' : World) (q' : Sl), St E (plA q' (Cm.put pcLt l p) :: L) w' → R (.returned (.slice q'.1 q'.2.1 q'.2.2)) w') :
    Calls Tryz.prog 99 #[.slice q.1 q.2.1 q.2.2, .agg #[.string (bs p.2.name), .slice p.1.1 p.1.2.1 p.1.2.2]] w R := by
  have hbig : big = 140737488355328 := rfl
  have n1 := r.count pcV_len (by decide) h hm
  refine C_ref08_withPool ?_
  unfold T_ref08_withPool
  intro w4
  have h4 : St E (blkL w.heap.size 34 (pcV p) :: L) w4 := h.alloc _
  intro w5
  have h5 : St E (plA (some ⟨w4.heap.size, 0, none⟩, 0, 0) [] :: blkL w.heap.size 34 (pcV p) :: L) w5 := h4.pl_zero
  clear_value w5
  clear h4
  clear_value w4
  generalize w.heap.size = bp at *
  have e : ∀ a b : Cm.Bs, Op.bytesLess (bs a).toList (bs b).toList = decide (a < b) := fun a b => by rw [bs_toList, bs_toList, bytesLess_eq]
  unfold T_ref08_withPool_1
  intro X hX
  refine up_to l.length (Q := fun j => ∀ (w : World) (o : Sl), St E (plA o ((l.take j).filter fun x => pcLt x p) :: blkL bp 34 (pcV p) :: L) w → X o.1 o.2.1 o.2.2 (j : Int) w) ?_ w5 (some ⟨w4.heap.size, 0, none⟩, 0, 0) h5
  intro j hj ih w o h
  refine hX _ _ _ _ _ ?_
  unfold T_ref08_withPool_1_body
  rw [← n1]
  refine ite_d (fun hc => ?_) fun hc => ?_
  · have hjl : j < l.length := by omega
    intro w10
    have h10 : St E _ w10 := h.drew
    clear_value w10
    obtain ⟨ad, ha, hn, _, hg⟩ := pl_at (r.at h10 (mem2 hm)) hjl
    have hfl : ((l.take j).filter fun x => pcLt x p).length ≤ 1000 := Nat.le_trans (List.length_filter_le ..) (by simp; omega)
    rw [Int.toNat_natCast, succ_big (by omega)]
    refine ⟨by omega, by omega, ad, ha, _, hn, _, rd_cell h10.f1.at_blk rfl rfl, ?_⟩
    rw [e]
    refine ite_d (fun h1 => ⟨by omega, by omega, ad, ha, _, _, _, _, hg, ?_⟩) fun h1 => ?_
    · intro w17
      obtain ⟨o', w19, hr, h19⟩ := app_pl1 (x := l[j]) h10 (by omega)
      refine runV_ok hr ⟨_, _, _, rfl, ih hjl _ o' ?_⟩
      rw [filter_step hjl, if_pos (show pcLt l[j] p = true from decide_eq_true h1)]
      exact h19
    · refine ih hjl _ o ?_
      rw [filter_step hjl, if_neg (by unfold pcLt; simpa using h1), List.append_nil]
      exact h10
  · rw [List.take_of_length_le (by omega)] at h
    have hfl : (l.filter fun x => pcLt x p).length ≤ 1000 := Nat.le_trans (List.length_filter_le ..) hl
    refine ⟨_, _, _, _, rd_agg (xs := pcV p) h.f1.at_blk (by intro i u hu; rw [Nat.zero_add]; exact hu), ?_⟩
    intro w29
    obtain ⟨o', w31, hr, h31⟩ := app_pl1 (x := p) h (by omega)
    refine runV_ok hr ⟨_, _, _, rfl, ?_⟩
    unfold T_ref08_withPool_2
    intro X hX
    refine up_to l.length (Q := fun j => ∀ (w : World) (o : Sl), St E (plA o ((l.filter fun x => pcLt x p) ++ [p] ++ (l.take j).filter fun x => pcLt p x) :: blkL bp 34 (pcV p) :: L) w → X o.1 o.2.1 o.2.2 (j : Int) w) ?_ w31 o' (by simpa using h31)
    intro j hj ih w o h
    refine hX _ _ _ _ _ ?_
    unfold T_ref08_withPool_2_body
    refine ite_d (fun hc => ?_) fun hc => ?_
    · have hjl : j < l.length := by omega
      intro w10
      have h10 : St E _ w10 := h.drew
      clear_value w10
      obtain ⟨ad, ha, hn, _, hg⟩ := pl_at (r.at h10 (mem2 hm)) hjl
      have hfl2 : ((l.take j).filter fun x => pcLt p x).length ≤ 1000 := Nat.le_trans (List.length_filter_le ..) (by simp; omega)
      rw [Int.toNat_natCast, succ_big (by omega)]
      refine ⟨by omega, by omega, ad, ha, _, hn, _, rd_cell h10.f1.at_blk rfl rfl, ?_⟩
      have eg : (!(Op.bytesLess (bs l[j].2.name).toList (bs p.2.name).toList || (bs l[j].2.name).toList == (bs p.2.name).toList)) = decide (p.2.name < l[j].2.name) := by
        rw [e, str_beq, Bool.eq_iff_iff]
        simp only [Bool.not_eq_true', Bool.or_eq_false_iff, decide_eq_false_iff_not, decide_eq_true_eq]
        constructor
        · rintro ⟨h1, h2⟩
          rcases Cm.slt_tri l[j].2.name p.2.name with h3 | h3 | h3
          · exact absurd h3 h1
          · exact absurd h3 h2
          · exact h3
        · intro h1
          exact ⟨fun h2 => Cm.slt_irrefl _ (Cm.slt_trans h1 h2), fun h2 => by rw [h2] at h1; exact Cm.slt_irrefl _ h1⟩
      rw [eg]
      refine ite_d (fun h1 => ⟨by omega, by omega, ad, ha, _, _, _, _, hg, ?_⟩) fun h1 => ?_
      · intro w17
        obtain ⟨o', w19, hr, h19⟩ := app_pl1 (x := l[j]) h10 (by simp only [List.length_append, List.length_singleton]; omega)
        refine runV_ok hr ⟨_, _, _, rfl, ih hjl _ o' ?_⟩
        rw [filter_step hjl, if_pos (show pcLt p l[j] = true from decide_eq_true h1), ← List.append_assoc]
        exact h19
      · refine ih hjl _ o ?_
        rw [filter_step hjl, if_neg (by unfold pcLt; simpa using h1), List.append_nil]
        exact h10
    · rw [List.take_of_length_le (by omega)] at h
      refine k _ _ ?_
      have := h.f1.drop
      simpa [Cm.put] using this
set_option maxHeartbeats 1000000 in
/-- withRoute. -/
theorem RwithRoute_spec {q : Sl} {l : List Cm.Rt} {p : Cm.Rt} (hm : kn F ∈ L) (r : RdF F q.1 q.2.1 3 (l.flatMap rcV)) (hl : l.length ≤ 1000) (h : St E L w)
    (k : ∀ (w' : World) (q' : Sl), St E (rtA q' (Cm.put Cm.rtLt l p) :: L) w' → R (.returned (.slice q'.1 q'.2.1 q'.2.2)) w') :
    Calls Tryz.prog 100 #[.slice q.1 q.2.1 q.2.2, .agg #[.string (bs p.host), .string (bs p.pfx), .string (bs p.pool)]] w R := by
  have hbig : big = 140737488355328 := rfl
  have n1 := r.count rcV_len (by decide) h hm
  refine C_ref08_withRoute ?_
  unfold T_ref08_withRoute
  intro w4
  have h4 : St E (blkL w.heap.size 36 (rcV p) :: L) w4 := h.alloc _
  intro w5
  have h5 : St E (rtA (some ⟨w4.heap.size, 0, none⟩, 0, 0) [] :: blkL w.heap.size 36 (rcV p) :: L) w5 := h4.rt_zero
  clear_value w5
  clear h4
  clear_value w4
  generalize w.heap.size = bp at *
  unfold T_ref08_withRoute_1
  intro X hX
  refine up_to l.length (Q := fun j => ∀ (w : World) (o : Sl), St E (rtA o ((l.take j).filter fun x => Cm.rtLt x p) :: blkL bp 36 (rcV p) :: L) w → X o.1 o.2.1 o.2.2 (j : Int) w) ?_ w5 (some ⟨w4.heap.size, 0, none⟩, 0, 0) h5
  intro j hj ih w o h
  refine hX _ _ _ _ _ ?_
  unfold T_ref08_withRoute_1_body
  rw [← n1]
  refine ite_d (fun hc => ?_) fun hc => ?_
  · have hjl : j < l.length := by omega
    intro w10
    have h10 : St E _ w10 := h.drew
    clear_value w10
    obtain ⟨ad, ha, hg, _⟩ := rt_at (r.at h10 (mem2 hm)) hjl
    have hfl : ((l.take j).filter fun x => Cm.rtLt x p).length ≤ 1000 := Nat.le_trans (List.length_filter_le ..) (by simp; omega)
    rw [Int.toNat_natCast, succ_big (by omega)]
    refine ⟨by omega, by omega, ad, ha, _, _, _, hg, _, _, _, rd_agg (xs := rcV p) h10.f1.at_blk (by intro i u hu; rw [Nat.zero_add]; exact hu), ?_⟩
    refine Rless_spec (x := l[j]) (y := p) h10 fun w20 h20 => ⟨_, rfl, trivial, ?_⟩
    obtain ⟨ad2, ha2, hg2, _⟩ := rt_at (r.at h20 (mem2 hm)) hjl
    refine ite_b (fun h1 => ⟨by omega, by omega, ad2, ha2, _, _, _, hg2, ?_⟩) fun h1 => ?_
    · intro w17
      obtain ⟨o', w19, hr, h19⟩ := app_rt1 (x := l[j]) h20 (by omega)
      refine runV_ok hr ⟨_, _, _, rfl, ih hjl _ o' ?_⟩
      rw [filter_step hjl, if_pos h1]
      exact h19
    · refine ih hjl _ o ?_
      rw [filter_step hjl, if_neg (by simp [h1]), List.append_nil]
      exact h20
  · rw [List.take_of_length_le (by omega)] at h
    have hfl : (l.filter fun x => Cm.rtLt x p).length ≤ 1000 := Nat.le_trans (List.length_filter_le ..) hl
    refine ⟨_, _, _, rd_agg (xs := rcV p) h.f1.at_blk (by intro i u hu; rw [Nat.zero_add]; exact hu), ?_⟩
    intro w29
    obtain ⟨o', w31, hr, h31⟩ := app_rt1 (x := p) h (by omega)
    refine runV_ok hr ⟨_, _, _, rfl, ?_⟩
    unfold T_ref08_withRoute_2
    intro X hX
    refine up_to l.length (Q := fun j => ∀ (w : World) (o : Sl), St E (rtA o ((l.filter fun x => Cm.rtLt x p) ++ [p] ++ (l.take j).filter fun x => Cm.rtLt p x) :: blkL bp 36 (rcV p) :: L) w → X o.1 o.2.1 o.2.2 (j : Int) w) ?_ w31 o' (by simpa using h31)
    intro j hj ih w o h
    refine hX _ _ _ _ _ ?_
    unfold T_ref08_withRoute_2_body
    refine ite_d (fun hc => ?_) fun hc => ?_
    · have hjl : j < l.length := by omega
      intro w10
      have h10 : St E _ w10 := h.drew
      clear_value w10
      obtain ⟨ad, ha, hg, _⟩ := rt_at (r.at h10 (mem2 hm)) hjl
      have hfl2 : ((l.take j).filter fun x => Cm.rtLt p x).length ≤ 1000 := Nat.le_trans (List.length_filter_le ..) (by simp; omega)
      rw [Int.toNat_natCast, succ_big (by omega)]
      refine ⟨_, _, _, rd_agg (xs := rcV p) h10.f1.at_blk (by intro i u hu; rw [Nat.zero_add]; exact hu), by omega, by omega, ad, ha, _, _, _, hg, ?_⟩
      refine Rless_spec (x := p) (y := l[j]) h10 fun w20 h20 => ⟨_, rfl, trivial, ?_⟩
      obtain ⟨ad2, ha2, hg2, _⟩ := rt_at (r.at h20 (mem2 hm)) hjl
      refine ite_b (fun h1 => ⟨by omega, by omega, ad2, ha2, _, _, _, hg2, ?_⟩) fun h1 => ?_
      · intro w17
        obtain ⟨o', w19, hr, h19⟩ := app_rt1 (x := l[j]) h20 (by simp only [List.length_append, List.length_singleton]; omega)
        refine runV_ok hr ⟨_, _, _, rfl, ih hjl _ o' ?_⟩
        rw [filter_step hjl, if_pos h1, ← List.append_assoc]
        exact h19
      · refine ih hjl _ o ?_
        rw [filter_step hjl, if_neg (by simp [h1]), List.append_nil]
        exact h20
    · rw [List.take_of_length_le (by omega)] at h
      refine k _ _ ?_
      have := h.f1.drop
      simpa [Cm.put] using this
end
end Go.Vc

/-
  The document's store does a command that is right: as the lists say.
-/
namespace Go.Vc
open Go Go.Proofs Go.Proofs.YtcpmfjclkdjfmaaGreat
set_option maxRecDepth 100000
section
variable {E w : World} {L : List Asrt} {R : Ending → World → Prop} {F G : Fz} {s : Cm.Sm} {c : Cm.Cmd} {q ra pa : Sl} {v : Int}
abbrev raL (br bc ba : Nat) (v0 : Int) (r0 p0 : Sl) (c : Cm.Cmd) (q : Sl) (v : Int) (ra pa : Sl) (L : List Asrt) : List Asrt := blkL br 30 (cfgL v0 r0 p0) :: blkL bc 42 (cmdL c q) :: blkL ba 30 (cfgL v ra pa) :: L
theorem any_step {α : Type} {p : α → Bool} {l : List α} {j : Nat} (hj : j < l.length) : (l.take (j + 1)).any p = ((l.take j).any p || p l[j]) := by
  rw [List.take_succ_eq_append_getElem hj, List.any_append]; simp
set_option maxHeartbeats 1000000 in
theorem ract1_spec {Kn : Bool → Option Addr → Nat → Nat → World → Prop} {Kp : List PanicEntry → World → Prop} {br bc ba : Nat} {v0 : Int} {r0 p0 o : Sl} {ps : List PlS} (hm : kn F ∈ L) (r : RdF F pa.1 pa.2.1 2 (ps.flatMap pcV)) (hl : ps.length ≤ 1000)
    (h : St E (plA o [] :: raL br bc ba v0 r0 p0 c q v ra pa L) w)
    (k : ∀ (w : World) (o : Sl), St E (plA o (ps.filter fun x => !decide (x.2.name = c.pool)) :: raL br bc ba v0 r0 p0 c q v ra pa L) w → Kn (ps.any fun x => decide (x.2.name = c.pool)) o.1 o.2.1 o.2.2 w) :
    T_ref08_act_1 false o.1 o.2.1 o.2.2 0 ⟨ba, 0, none⟩ ⟨bc, 0, none⟩ w Kn Kp := by
  have hbig : big = 140737488355328 := rfl
  have n1 := r.count pcV_len (by decide) h (mem4 hm)
  unfold T_ref08_act_1
  intro X hX
  refine up_to ps.length (Q := fun j => ∀ (w : World) (o : Sl), St E (plA o ((ps.take j).filter fun x => !decide (x.2.name = c.pool)) :: raL br bc ba v0 r0 p0 c q v ra pa L) w → X ((ps.take j).any fun x => decide (x.2.name = c.pool)) o.1 o.2.1 o.2.2 (j : Int) w) ?_ w o (by simpa using h)
  intro j hj ih w o h
  refine hX _ _ _ _ _ _ ?_
  unfold T_ref08_act_1_body
  refine ⟨_, _, _, rd_fld h.f3.at_blk rfl rfl, ?_⟩
  rw [← n1]
  refine ite_d (fun hc => ?_) fun hc => ?_
  · have hjl : j < ps.length := by omega
    intro w10
    have h10 : St E _ w10 := h.drew
    clear_value w10
    obtain ⟨ad, ha, hn, _, hg⟩ := pl_at (r.at h10 (mem4 hm)) hjl
    have hfl : ((ps.take j).filter fun x => !decide (x.2.name = c.pool)).length ≤ 1000 := Nat.le_trans (List.length_filter_le ..) (by simp; omega)
    rw [Int.toNat_natCast, succ_big (by omega)]
    refine ⟨_, _, _, rd_fld h10.f3.at_blk rfl rfl, by omega, by omega, ad, ha, _, hn, _, rd_fld h10.f2.at_blk rfl rfl, ?_⟩
    rw [str_beq]
    have hs := any_step (p := fun x : PlS => decide (x.2.name = c.pool)) hjl
    refine ite_d (fun h1 => ?_) fun h1 => ⟨_, _, _, rd_fld h10.f3.at_blk rfl rfl, by omega, by omega, ad, ha, _, _, _, _, hg, ?_⟩
    · have := ih hjl w10 o (by rw [filter_step hjl, if_neg (by simp [h1]), List.append_nil]; exact h10)
      rw [hs] at this
      simpa [h1] using this
    · intro w17
      obtain ⟨o', w19, hr, h19⟩ := app_pl1 (x := ps[j]) h10 (by omega)
      refine runV_ok hr ⟨_, _, _, rfl, ?_⟩
      have := ih hjl w19 o' (by rw [filter_step hjl, if_pos (by simp [h1])]; exact h19)
      rw [hs] at this
      simpa [h1] using this
  · rw [List.take_of_length_le (by omega)] at h ⊢
    exact k _ _ h
set_option maxHeartbeats 2000000 in
theorem ract2_spec {Kn : Bool → Bool → Option Addr → Nat → Nat → World → Prop} {Kp : List PanicEntry → World → Prop} {A : Asrt} {br bc ba : Nat} {v0 : Int} {r0 p0 o : Sl} {rs : List Cm.Rt} (hm : kn F ∈ L) (r : RdF F ra.1 ra.2.1 3 (rs.flatMap rcV)) (hl : rs.length ≤ 1000)
    (h : St E (rtA o [] :: A :: raL br bc ba v0 r0 p0 c q v ra pa L) w)
    (k : ∀ (w : World) (o : Sl), St E (rtA o (rs.filter fun x => !Cm.isAt c.host c.pfx x) :: A :: raL br bc ba v0 r0 p0 c q v ra pa L) w → Kn (rs.any fun x => decide (x.pool = c.pool)) (rs.any (Cm.isAt c.host c.pfx)) o.1 o.2.1 o.2.2 w) :
    T_ref08_act_2 false false o.1 o.2.1 o.2.2 0 ⟨ba, 0, none⟩ ⟨bc, 0, none⟩ w Kn Kp := by
  have hbig : big = 140737488355328 := rfl
  have n1 := r.count rcV_len (by decide) h (mem1 (mem4 hm))
  unfold T_ref08_act_2
  intro X hX
  refine up_to rs.length (Q := fun j => ∀ (w : World) (o : Sl), St E (rtA o ((rs.take j).filter fun x => !Cm.isAt c.host c.pfx x) :: A :: raL br bc ba v0 r0 p0 c q v ra pa L) w → X ((rs.take j).any fun x => decide (x.pool = c.pool)) ((rs.take j).any (Cm.isAt c.host c.pfx)) o.1 o.2.1 o.2.2 (j : Int) w) ?_ w o (by simpa using h)
  intro j hj ih w o h
  refine hX _ _ _ _ _ _ _ ?_
  unfold T_ref08_act_2_body
  refine ⟨_, _, _, rd_fld h.f4.at_blk rfl rfl, ?_⟩
  rw [← n1]
  refine ite_d (fun hc => ?_) fun hc => ?_
  · have hjl : j < rs.length := by omega
    have hs := any_step (p := fun x : Cm.Rt => decide (x.pool = c.pool)) hjl
    have hs2 := any_step (p := Cm.isAt c.host c.pfx) hjl
    have hfl : ((rs.take j).filter fun x => !Cm.isAt c.host c.pfx x).length ≤ 1000 := Nat.le_trans (List.length_filter_le ..) (by simp; omega)
    have rest : ∀ w, St E (rtA o ((rs.take j).filter fun x => !Cm.isAt c.host c.pfx x) :: A :: raL br bc ba v0 r0 p0 c q v ra pa L) w → T_ref08_act_4 ⟨ba, 0, none⟩ ⟨bc, 0, none⟩ (j : Int) w (fun b83 w84 => if b83 = true then (X ((rs.take (j + 1)).any fun x => decide (x.pool = c.pool)) true o.1 o.2.1 o.2.2 (IntKind.wrap .i64 ((j : Int) + 1)) w84) else (∃ s85a : Option Addr, ∃ s85l : Nat, ∃ s85c : Nat, rd w84 ((⟨ba, 0, none⟩ : Addr).add 1) (.slice s85a s85l s85c) ∧ 0 ≤ (j : Int) ∧ (j : Int) < ((s85l : Nat) : Int) ∧ ∃ b86, s85a = some b86 ∧ ∃ s87 : ByteArray, ∃ s88 : ByteArray, ∃ s89 : ByteArray, rd w84 (b86.add ((j : Int).toNat * 3)) (.agg #[.string s87, .string s88, .string s89]) ∧ let w90 : World := w84.alloc (.cells #[.string s87, .string s88, .string s89] 36)
        runV Tryz.prog (Builtin.append_ #[27, 27] 27 #[.slice o.1 o.2.1 o.2.2, .slice (some (⟨w84.heap.size, 0, none⟩ : Addr)) 1 1]) w90 (fun r91 w92 => ∃ s93a : Option Addr, ∃ s93l : Nat, ∃ s93c : Nat, r91 = .slice s93a s93l s93c ∧ X ((rs.take (j + 1)).any fun x => decide (x.pool = c.pool)) ((rs.take j).any (Cm.isAt c.host c.pfx)) s93a s93l s93c (IntKind.wrap .i64 ((j : Int) + 1)) w92) Kp)) Kp := by
      intro w h
      have key : ∀ (w : World), St E (rtA o ((rs.take j).filter fun x => !Cm.isAt c.host c.pfx x) :: A :: raL br bc ba v0 r0 p0 c q v ra pa L) w → Cm.isAt c.host c.pfx rs[j] = false → (∃ s85a : Option Addr, ∃ s85l : Nat, ∃ s85c : Nat, rd w ((⟨ba, 0, none⟩ : Addr).add 1) (.slice s85a s85l s85c) ∧ 0 ≤ (j : Int) ∧ (j : Int) < ((s85l : Nat) : Int) ∧ ∃ b86, s85a = some b86 ∧ ∃ s87 : ByteArray, ∃ s88 : ByteArray, ∃ s89 : ByteArray, rd w (b86.add ((j : Int).toNat * 3)) (.agg #[.string s87, .string s88, .string s89]) ∧ let w90 : World := w.alloc (.cells #[.string s87, .string s88, .string s89] 36)
        runV Tryz.prog (Builtin.append_ #[27, 27] 27 #[.slice o.1 o.2.1 o.2.2, .slice (some (⟨w.heap.size, 0, none⟩ : Addr)) 1 1]) w90 (fun r91 w92 => ∃ s93a : Option Addr, ∃ s93l : Nat, ∃ s93c : Nat, r91 = .slice s93a s93l s93c ∧ X ((rs.take (j + 1)).any fun x => decide (x.pool = c.pool)) ((rs.take j).any (Cm.isAt c.host c.pfx)) s93a s93l s93c (IntKind.wrap .i64 ((j : Int) + 1)) w92) Kp) := by
        intro w h h1
        obtain ⟨ad, ha, hg, _⟩ := rt_at (r.at h (mem1 (mem4 hm))) hjl
        rw [Int.toNat_natCast, succ_big (by omega)]
        refine ⟨_, _, _, rd_fld h.f4.at_blk rfl rfl, by omega, by omega, ad, ha, _, _, _, hg, ?_⟩
        intro w17
        obtain ⟨o', w19, hr, h19⟩ := app_rt1 (x := rs[j]) h (by omega)
        refine runV_ok hr ⟨_, _, _, rfl, ?_⟩
        have := ih hjl w19 o' (by rw [filter_step hjl, if_pos (by simp [h1])]; exact h19)
        rw [hs2, h1, Bool.or_false] at this
        exact this
      unfold T_ref08_act_4
      intro w71
      have h71 : St E _ w71 := h.drew
      clear_value w71
      obtain ⟨ad, ha, _, hk⟩ := rt_at (r.at h71 (mem1 (mem4 hm))) hjl
      refine ⟨_, _, _, rd_fld h71.f4.at_blk rfl rfl, by omega, by omega, ad, ha, _, by rw [Int.toNat_natCast]; exact hk 0 _ rfl rfl, _, rd_fld h71.f3.at_blk rfl rfl, ?_⟩
      rw [str_beq]
      refine ite_d (fun h1 => ⟨_, _, _, rd_fld h71.f4.at_blk rfl rfl, by omega, by omega, ad, ha, _, by rw [Int.toNat_natCast]; exact hk 1 _ rfl rfl, _, rd_fld h71.f3.at_blk rfl rfl, ?_⟩) fun h1 => ite_b (fun hh => by cases hh) fun _ => key _ h71 (by simp [Cm.isAt, h1])
      rw [str_beq]
      refine ite_d (fun h2 => ?_) fun h2 => key _ h71 (by simp [Cm.isAt, h2])
      have hat : Cm.isAt c.host c.pfx rs[j] = true := by simp [Cm.isAt, h1, h2]
      rw [succ_big (by omega)]
      have := ih hjl w71 o (by rw [filter_step hjl, if_neg (by simp [hat]), List.append_nil]; exact h71)
      rw [hs2, hat, Bool.or_true] at this
      exact this
    unfold T_ref08_act_3
    intro w58
    have h58 : St E _ w58 := h.drew
    clear_value w58
    refine ite_b (fun hu => ?_) fun hu => ?_
    · have := rest w58 h58
      rw [hs, hu, Bool.true_or] at this
      exact this
    · obtain ⟨ad, ha, _, hk⟩ := rt_at (r.at h58 (mem1 (mem4 hm))) hjl
      refine ⟨_, _, _, rd_fld h58.f4.at_blk rfl rfl, by omega, by omega, ad, ha, _, by rw [Int.toNat_natCast]; exact hk 2 _ rfl rfl, _, rd_fld h58.f3.at_blk rfl rfl, ?_⟩
      rw [str_beq]
      have := rest w58 h58
      rw [hs, hu, Bool.false_or] at this
      exact this
  · rw [List.take_of_length_le (by omega)] at h ⊢
    exact k _ _ h
theorem put_map {l : List PlS} {p : PlS} : (Cm.put pcLt l p).map (·.2) = Cm.put Cm.plLt (l.map (·.2)) p.2 := by
  unfold Cm.put
  rw [List.map_append, List.map_cons, List.filter_map, List.filter_map]
  rfl
theorem but_map {l : List PlS} (hl : l.map (·.2) = s.pools) (n : Cm.Bs) : (l.filter fun x => !decide (x.2.name = n)).map (·.2) = Cm.butPool s n := by
  unfold Cm.butPool
  rw [← hl, List.filter_map]
  rfl
theorem there_map {l : List PlS} (hl : l.map (·.2) = s.pools) (n : Cm.Bs) : (l.any fun x => decide (x.2.name = n)) = Cm.there s n := by
  unfold Cm.there
  rw [← hl, List.any_map]
  rfl
theorem Sz.but (S : Sz s) (n : Cm.Bs) : Sz { s with pools := Cm.butPool s n } := { S with pl := fun p hp => S.pl p (List.mem_filter.1 hp).1, pr := Cm.filter_rises Cm.plOrd S.pr _, pn := Nat.le_trans (List.length_filter_le ..) S.pn }
theorem Sz.butR (S : Sz s) (h' p' : Cm.Bs) : Sz { s with routes := Cm.butRoute s h' p' } := { S with rt := fun p hp => S.rt p (List.mem_filter.1 hp).1, rr := Cm.filter_rises Cm.rtOrd S.rr _, rn := Nat.le_trans (List.length_filter_le ..) S.rn }
set_option maxHeartbeats 4000000 in
theorem ract5_spec {Kn : World → Prop} {Kr : Int → World → Prop} {Kp : List PanicEntry → World → Prop} {br bc ba bo : Nat} {po ro : Sl} {ps : List PlS} (I : Cm.Inv s) (hc : Cm.chk c = 0) (hr : RdF F q.1 q.2.1 2 (c.tg.flatMap tV))
    (hps : ps.map (·.2) = s.pools) (hra : RdF F ra.1 ra.2.1 3 (s.routes.flatMap rcV)) (hpa : RdF F pa.1 pa.2.1 2 (ps.flatMap pcV)) (ht : ∀ x ∈ ps, RdF F x.1.1 x.1.2.1 2 (x.2.tg.flatMap tV))
    (hpo : RdF F po.1 po.2.1 2 ((ps.filter fun x => !decide (x.2.name = c.pool)).flatMap pcV)) (hro : RdF F ro.1 ro.2.1 3 ((Cm.butRoute s c.host c.pfx).flatMap rcV))
    (h : St E (kn F :: blkL bo 30 (cfgL v ra pa) :: raL br bc ba 0 (none, 0, 0) (none, 0, 0) c q v ra pa L) w)
    (k1 : ∀ (G : Fz) (w' : World) (ra' pa' : Sl) (s' : Cm.Sm), Fz.le F G → Cm.act s c = Cm.fit s s' → Sz s' → cfgR G ra' pa' s'.routes s'.pools → St E (kn G :: blkL bo 30 (cfgL v ra' pa') :: raL br bc ba 0 (none, 0, 0) (none, 0, 0) c q v ra pa L) w' → Kn w')
    (k2 : ∀ (w' : World) (e : Int), Cm.act s c = (s, e) → St E (kn F :: blkL bo 30 (cfgL v ra pa) :: raL br bc ba v ra pa c q v ra pa L) w' → Kr e w') :
    T_ref08_act_5 ⟨ba, 0, none⟩ ⟨bc, 0, none⟩ ⟨br, 0, none⟩ (Cm.there s c.pool) (Cm.used s c.pool) po.1 po.2.1 po.2.2 (Cm.known s c.host c.pfx) ro.1 ro.2.1 ro.2.2 ⟨bo, 0, none⟩ c.act w Kn Kr Kp := by
  have ff := Cm.chk_fine hc
  have S := Sz.of I
  have npa := hpa.count pcV_len (by decide) h at0
  have nra := hra.count rcV_len (by decide) h at0
  have hpl : ps.length = s.pools.length := by rw [← hps]; simp
  have hpn := I.pn
  have hrn := I.rn
  -- back with an error: what was there, told
  have bad : ∀ {w : World} {e : Int}, Cm.act s c = (s, e) → St E (kn F :: blkL bo 30 (cfgL v ra pa) :: raL br bc ba 0 (none, 0, 0) (none, 0, 0) c q v ra pa L) w →
      (∃ x134 : Int, ∃ s135a : Option Addr, ∃ s135l : Nat, ∃ s135c : Nat, ∃ s136a : Option Addr, ∃ s136l : Nat, ∃ s136c : Nat, rd w ⟨ba, 0, none⟩ (.agg #[.int .i64 x134, .slice s135a s135l s135c, .slice s136a s136l s136c]) ∧ (.agg #[.int .i64 x134, .slice s135a s135l s135c, .slice s136a s136l s136c] : Value).cells.size = 3 ∧ wrOk w ⟨br, 0, none⟩ (.agg #[.int .i64 x134, .slice s135a s135l s135c, .slice s136a s136l s136c]) ∧ let w137 : World := wr w ⟨br, 0, none⟩ (.agg #[.int .i64 x134, .slice s135a s135l s135c, .slice s136a s136l s136c])
        Kr e w137) := fun he h => by
    refine ⟨_, _, _, _, _, _, _, rd_cfg h.f4, rfl, ok_cfg h.f2 rfl v ra pa, ?_⟩
    intro w137
    exact k2 _ _ he (St.sel (L := _ :: _ :: _ :: _ :: _ :: L) (St.wr_cfg h.f2 rfl v ra pa) 5 [1, 2, 0, 3, 4])
  unfold T_ref08_act_5
  refine ite_b (fun h1 => ?_) fun h1 => ite_b (fun h2 => ?_) fun h2 => ite_b (fun h3 => ?_) fun h3 => ?_
  · have h1 : c.act = 1 := by simpa using h1
    have lim : ∀ {K : Bool → World → Prop}, K (!Cm.there s c.pool && decide (32 ≤ s.pools.length)) w → T_ref08_act_6 ⟨ba, 0, none⟩ (Cm.there s c.pool) w K Kp := fun {K} kk => by
      unfold T_ref08_act_6
      refine ite_n (fun hb => ⟨_, _, _, rd_fld h.f4.at_blk rfl rfl, cong kk ?_⟩) (fun hb => cong kk (by simp [hb]))
      rw [← npa, hpl, hb, Bool.eq_iff_iff]; simp; omega
    refine lim (ite_b (fun hb => bad (by unfold Cm.act; rw [if_pos h1, if_pos hb]) h) fun hb => ?_)
    intro w138
    have h138 : St E _ w138 := h.drew
    clear_value w138
    refine ⟨_, rd_fld h138.f3.at_blk rfl rfl, _, _, _, rd_fld h138.f3.at_blk rfl rfl, ?_⟩
    intro w141
    have h141 : St E (tgA (some ⟨w138.heap.size, 0, none⟩, 0, 0) [] :: kn F :: blkL bo 30 (cfgL v ra pa) :: raL br bc ba 0 (none, 0, 0) (none, 0, 0) c q v ra pa L) w141 := St.ownS_mk (rest := []) (h138.alloc _) rfl (Nat.le_refl _) (Nat.zero_le _) rfl
    clear_value w141
    refine ⟨⟨rd_fld h141.f4.at_blk rfl rfl, rd_fld h141.f4.at_blk rfl rfl, trivial⟩, ?_⟩
    obtain ⟨q', w143, hr143, h143⟩ := app_t (c2 := q.2.2) h141 (hr.at h141 at1) (by have := (short_of ff.t).1; simp; omega)
    rw [List.nil_append] at h143
    refine runV_ok hr143 ⟨_, _, _, rfl, ⟨rd_fld h143.f4.at_blk rfl rfl, trivial⟩, ?_⟩
    obtain ⟨G1, hG1, h144, r144⟩ := h143.freezeT
    refine RwithPool_spec (p := (q', ⟨c.pool, c.tg⟩)) (L := kn G1 :: blkL bo 30 (cfgL v ra pa) :: raL br bc ba 0 (none, 0, 0) (none, 0, 0) c q v ra pa L) at0 (RdF.mono hpo hG1) (by have := List.length_filter_le (fun x : PlS => !decide (x.2.name = c.pool)) ps; omega) h144 fun w146 q2 h146 => ⟨_, _, _, rfl, trivial, rfl, wrOk_fld h146.f2.at_blk (by show 2 < 3; decide) rfl, ?_⟩
    intro w148
    obtain ⟨G2, hG2, h149, r149⟩ := St.freeze_pl h146
    have h150 := St.wr_fld (k := 2) (v := .slice q2.1 q2.2.1 q2.2.2) h149.f1 rfl
    refine ⟨trivial, k1 G2 _ ra q2 (putP s c.pool c.tg) (Fz.le_trans hG1 hG2) (by unfold Cm.act; rw [if_pos h1, if_neg (by simp [hb])]; rfl) (sz_putP I hc) ⟨RdF.mono hra (Fz.le_trans hG1 hG2), _, ?_, r149, fun x hx => ?_⟩ h150.f1⟩
    · rw [put_map, but_map hps]; rfl
    · have hx := (List.mem_append.1 hx)
      rcases hx with hx | hx
      · exact RdF.mono (ht x (List.mem_filter.1 (List.mem_filter.1 hx).1).1) (Fz.le_trans hG1 hG2)
      · rcases List.mem_cons.1 hx with rfl | hx
        · exact RdF.mono r144 hG2
        · exact RdF.mono (ht x (List.mem_filter.1 (List.mem_filter.1 hx).1).1) (Fz.le_trans hG1 hG2)
  · have h1 : c.act ≠ 1 := by simpa using h1
    have h2 : c.act = 2 := by simpa using h2
    refine ite_n (fun hth => bad (by unfold Cm.act; rw [if_neg h1, if_pos h2, if_pos (by simp [hth])]) h) fun hth => ite_b (fun hu => bad (by unfold Cm.act; rw [if_neg h1, if_pos h2, if_neg (by simp [hth]), if_pos hu]) h) fun hu => ?_
    refine ⟨rfl, wrOk_fld h.f1.at_blk (by show 2 < 3; decide) rfl, ?_⟩
    intro w157
    have h150 := St.wr_fld (k := 2) (v := .slice po.1 po.2.1 po.2.2) h.f1 rfl
    exact k1 F _ ra po { s with pools := Cm.butPool s c.pool } (Fz.le_refl F) (by unfold Cm.act; rw [if_neg h1, if_pos h2, if_neg (by simp [hth]), if_neg (by simp [hu])]) (S.but _) ⟨hra, _, but_map hps _, hpo, fun x hx => ht x (List.mem_filter.1 hx).1⟩ h150.f1
  · have h1 : c.act ≠ 1 := by simpa using h1
    have h2 : c.act ≠ 2 := by simpa using h2
    have h3 : c.act = 3 := by simpa using h3
    refine ite_n (fun hth => bad (by unfold Cm.act; rw [if_neg h1, if_neg h2, if_pos h3, if_pos (by simp [hth])]) h) fun hth => ?_
    have lim : ∀ {K : Bool → World → Prop}, K (!Cm.known s c.host c.pfx && decide (64 ≤ s.routes.length)) w → T_ref08_act_7 ⟨ba, 0, none⟩ (Cm.known s c.host c.pfx) w K Kp := fun {K} kk => by
      unfold T_ref08_act_7
      refine ite_n (fun hb => ⟨_, _, _, rd_fld h.f4.at_blk rfl rfl, cong kk ?_⟩) (fun hb => cong kk (by simp [hb]))
      rw [← nra, hb, Bool.eq_iff_iff]; simp; omega
    refine lim (ite_b (fun hb => bad (by unfold Cm.act; rw [if_neg h1, if_neg h2, if_pos h3, if_neg (by simp [hth]), if_pos hb]) h) fun hb => ?_)
    refine ⟨_, rd_fld h.f3.at_blk rfl rfl, _, rd_fld h.f3.at_blk rfl rfl, _, rd_fld h.f3.at_blk rfl rfl, ?_⟩
    refine RwithRoute_spec (p := ⟨c.host, c.pfx, c.pool⟩) (L := kn F :: blkL bo 30 (cfgL v ra pa) :: raL br bc ba 0 (none, 0, 0) (none, 0, 0) c q v ra pa L) at0 hro (by have : (Cm.butRoute s c.host c.pfx).length ≤ s.routes.length := List.length_filter_le ..; omega) h fun w146 q2 h146 => ⟨_, _, _, rfl, rfl, wrOk_fld h146.f2.at_blk (by show 1 < 3; decide) rfl, ?_⟩
    intro w148
    obtain ⟨G2, hG2, h149, r149⟩ := St.freeze_rt h146
    have h150 := St.wr_fld (k := 1) (v := .slice q2.1 q2.2.1 q2.2.2) h149.f1 rfl
    exact k1 G2 _ q2 pa (putR s ⟨c.host, c.pfx, c.pool⟩) hG2 (by unfold Cm.act; rw [if_neg h1, if_neg h2, if_pos h3, if_neg (by simp [hth]), if_neg (by simp [hb])]; rfl) (sz_putR I hc) ⟨r149, ps, hps, RdF.mono hpa hG2, fun x hx => RdF.mono (ht x hx) hG2⟩ h150.f1
  · have h1 : c.act ≠ 1 := by simpa using h1
    have h2 : c.act ≠ 2 := by simpa using h2
    have h3 : c.act ≠ 3 := by simpa using h3
    refine ite_n (fun hkn => bad (by unfold Cm.act; rw [if_neg h1, if_neg h2, if_neg h3, if_pos (by simp [hkn])]) h) fun hkn => ?_
    refine ⟨rfl, wrOk_fld h.f1.at_blk (by show 1 < 3; decide) rfl, ?_⟩
    intro w185
    have h150 := St.wr_fld (k := 1) (v := .slice ro.1 ro.2.1 ro.2.2) h.f1 rfl
    exact k1 F _ ro pa { s with routes := Cm.butRoute s c.host c.pfx } (Fz.le_refl F) (by unfold Cm.act; rw [if_neg h1, if_neg h2, if_neg h3, if_neg (by simp [hkn])]) (S.butR _ _) ⟨hro, ps, hps, hpa, ht⟩ h150.f1
set_option maxHeartbeats 4000000 in
/-- act. -/
theorem Ract_spec (I : Cm.Inv s) (hc : Cm.chk c = 0) (hr : RdF F q.1 q.2.1 2 (c.tg.flatMap tV)) (cf : cfgR F ra pa s.routes s.pools) (h : St E (kn F :: L) w)
    (k : ∀ (G : Fz) (w' : World) (ra' pa' : Sl), Fz.le F G → cfgR G ra' pa' (Cm.act s c).1.routes (Cm.act s c).1.pools → St E (kn G :: L) w' → R (.returned (.tuple #[cfgV v ra' pa', .int .i64 (Cm.act s c).2])) w') :
    Calls Tryz.prog 61 #[cfgV v ra pa, cmdV c q] w R := by
  have hpn := I.pn
  have hrn := I.rn
  have cf0 := cf
  obtain ⟨hra, ps, hps, hpa, ht⟩ := cf
  have hpl : ps.length = s.pools.length := by rw [← hps]; simp
  refine C_ref08_act ?_
  unfold T_ref08_act
  intro w12
  have h12 : St E (blkL w.heap.size 30 (cfgL v ra pa) :: kn F :: L) w12 := h.alloc _
  intro w13
  have h13 : St E (blkL w12.heap.size 42 (cmdL c q) :: blkL w.heap.size 30 (cfgL v ra pa) :: kn F :: L) w13 := h12.alloc _
  intro w14
  have h14 : St E (raL w13.heap.size w12.heap.size w.heap.size 0 (none, 0, 0) (none, 0, 0) c q v ra pa (kn F :: L)) w14 := h13.alloc _
  intro w15
  have h15 : St E (plA (some ⟨w14.heap.size, 0, none⟩, 0, 0) [] :: raL w13.heap.size w12.heap.size w.heap.size 0 (none, 0, 0) (none, 0, 0) c q v ra pa (kn F :: L)) w15 := h14.pl_zero
  clear_value w15
  clear h14 h13 h12
  clear_value w14 w13 w12
  generalize w13.heap.size = br at *
  generalize w12.heap.size = bc at *
  generalize w.heap.size = ba at *
  refine ract1_spec (o := (some ⟨w14.heap.size, 0, none⟩, 0, 0)) at0 hpa (by omega) h15 fun w45 po h45 => ?_
  rw [there_map hps]
  intro w46
  have h46 := h45.rt_zero
  refine ract2_spec (o := (some ⟨w45.heap.size, 0, none⟩, 0, 0)) at0 hra (by omega) h46 fun w109 ro h109 => ?_
  obtain ⟨G1, hG1, h110, r110⟩ := St.freeze_rt (St.sel h109 6 [0, 5, 1, 2, 3, 4])
  obtain ⟨G2, hG2, h111, r111⟩ := St.freeze_pl (St.sel (L := kn G1 :: plA po (ps.filter fun x => !decide (x.2.name = c.pool)) :: raL br bc ba 0 (none, 0, 0) (none, 0, 0) c q v ra pa L) h110 2 [1, 0])
  have hF2 := Fz.le_trans hG1 hG2
  have h111 : St E (kn G2 :: raL br bc ba 0 (none, 0, 0) (none, 0, 0) c q v ra pa L) w109 := h111
  refine ⟨_, _, _, _, _, _, _, rd_cfg h111.f3, ?_⟩
  intro w113
  have h113 := h111.alloc (.cells ⟨cfgL 0 (none, 0, 0) (none, 0, 0)⟩ 30)
  refine ⟨rfl, ok_cfg h113 rfl v ra pa, ?_⟩
  intro w114
  have h114 : St E (blkL w109.heap.size 30 (cfgL v ra pa) :: kn G2 :: raL br bc ba 0 (none, 0, 0) (none, 0, 0) c q v ra pa L) w114 := St.wr_cfg h113 rfl v ra pa
  clear_value w114
  clear h113
  clear_value w113
  generalize w109.heap.size = bo at *
  refine ⟨_, rd_cell h114.f3.at_blk rfl rfl, ?_⟩
  refine ract5_spec (ps := ps) I hc (RdF.mono hr hF2) hps (RdF.mono hra hF2) (RdF.mono hpa hF2) (fun x hx => RdF.mono (ht x hx) hF2) r111 (RdF.mono r110 hG2) h114.f1 (fun G w189 ra' pa' s' hG hact S' cf' h189 => ?_) fun w211 e hact h211 => ?_
  · refine ⟨_, _, _, _, _, _, _, rd_cfg h189.f1, ?_⟩
    refine Rconfig_spec (b := (none, 0, 0)) (xs := []) (L := kn G :: blkL bo 30 (cfgL v ra' pa') :: raL br bc ba 0 (none, 0, 0) (none, 0, 0) c q v ra pa L) at0 S' cf' h189.by_nil (by simp) fun w194 b' h194 => ⟨_, _, _, rfl, ?_⟩
    have hlen := h194.by_len
    rw [List.nil_append] at hlen h194
    have h195 := h194.drop
    refine ite_d (fun hgt => ?_) fun hgt => ?_
    · have e2 : Cm.act s c = (s, 6) := by rw [hact]; unfold Cm.fit; rw [if_pos (by omega)]
      rw [e2] at k
      refine ⟨_, _, _, _, _, _, _, rd_cfg h195.f4, rfl, ok_cfg h195.f2 rfl v ra pa, ?_⟩
      intro w199
      have h199 := St.wr_cfg h195.f2 rfl v ra pa
      refine ⟨_, _, _, _, _, _, _, rd_cfg h199, k G _ ra pa (Fz.le_trans hF2 hG) (cf0.mono (Fz.le_trans hF2 hG)) ?_⟩
      exact St.sel (L := _ :: kn G :: _ :: _ :: _ :: L) h199 5 [1]
    · have e2 : Cm.act s c = (s', 0) := by rw [hact]; unfold Cm.fit; rw [if_neg (by omega)]
      rw [e2] at k
      refine ⟨_, _, _, _, _, _, _, rd_cfg h195.f1, rfl, ok_cfg h195.f2 rfl v ra' pa', ?_⟩
      intro w206
      have h206 := St.wr_cfg h195.f2 rfl v ra' pa'
      refine ⟨_, _, _, _, _, _, _, rd_cfg h206, k G _ ra' pa' (Fz.le_trans hF2 hG) cf' ?_⟩
      exact St.sel (L := _ :: kn G :: _ :: _ :: _ :: L) h206 5 [1]
  · rw [hact] at k
    refine ⟨_, _, _, _, _, _, _, rd_cfg h211.f2, k G2 _ ra pa hF2 (cf0.mono hF2) ?_⟩
    exact St.sel (L := kn G2 :: _ :: _ :: _ :: _ :: L) h211 5 [0]
end
end Go.Vc

/-
  The document's store: what a client was told, and what it does with a command.
-/
namespace Go.Vc
open Go Go.Proofs Go.Proofs.YtcpmfjclkdjfmaaGreat
set_option maxRecDepth 100000
section
variable {E w : World} {L : List Asrt} {R : Ending → World → Prop} {F G : Fz} {s : Cm.Sm} {c : Cm.Cmd} {q : Sl} {r : Nat}
abbrev rfL (v : Int) (ra pa la : Sl) : List Value := [.int .i64 v, .slice ra.1 ra.2.1 ra.2.2, .slice pa.1 pa.2.1 pa.2.2, .slice la.1 la.2.1 la.2.2]
/-- The document's store at r is s; its lists are known for good. -/
def refA (F : Fz) (r : Nat) (s : Cm.Sm) : Asrt := fun h => ∃ x : Sl × Sl × Sl, cfgR F x.1 x.2.1 s.routes s.pools ∧ RdF F x.2.2.1 x.2.2.2.1 4 (s.l.flatMap lcV) ∧ blkL r 108 (rfL s.ver x.1 x.2.1 x.2.2) h
theorem St.rf_open (h : St E (refA F r s :: L) w) : ∃ ra pa la, cfgR F ra pa s.routes s.pools ∧ RdF F la.1 la.2.1 4 (s.l.flatMap lcV) ∧ St E (blkL r 108 (rfL s.ver ra pa la) :: L) w := by
  obtain ⟨en, x, ⟨h1, h2, d, rfl, ⟨y, ho1, ho2, hs⟩, hL⟩, hl⟩ := h
  exact ⟨_, _, _, ho1, ho2, en, _, ⟨h1, h2, d, rfl, hs, hL⟩, hl⟩
theorem St.rf_mk {ra pa la : Sl} (h1 : cfgR F ra pa s.routes s.pools) (h2 : RdF F la.1 la.2.1 4 (s.l.flatMap lcV)) (h : St E (blkL r 108 (rfL s.ver ra pa la) :: L) w) : St E (refA F r s :: L) w := h.mono fun _ hx => ⟨(ra, pa, la), h1, h2, hx⟩
theorem St.rf_mono (h : St E (refA F r s :: L) w) (k : Fz.le F G) : St E (refA G r s :: L) w := h.mono fun _ ⟨y, h1, h2, h3⟩ => ⟨y, h1.mono k, RdF.mono h2 k, h3⟩
theorem RNew_spec (F : Fz) (h : St E L w) (k : ∀ r w', St E (refA F r Cm.new :: L) w' → R (.returned (.pointer (some ⟨r, 0, none⟩))) w') : Calls Tryz.prog 36 #[] w R := by
  refine C_ref08_New ?_
  unfold T_ref08_New
  intro w1
  exact k _ _ (St.rf_mk (s := Cm.new) (ra := (none, 0, 0)) (pa := (none, 0, 0)) (la := (none, 0, 0)) (cfgR_nil F) (RdF.nil F none) (h.alloc _))
theorem la_at {xs : List Cm.Last} {a : Option Addr} {l : Nat} (h : RdS w a l 4 (xs.flatMap lcV)) {j : Nat} (hj : j < xs.length) : ∃ ad, a = some ad ∧ rd w (ad.add (j * 4)) (.agg #[.int .i64 xs[j].client, .int .i64 xs[j].seq, .int .i64 xs[j].e, .int .i64 xs[j].ver]) ∧ (∀ k v, (lcV xs[j])[k]? = some v → one v = true → rd w ((ad.add (j * 4)).add k) v) ∧ rd w ((ad.add (j * 4)).add 2) (.agg #[.int .i64 xs[j].e, .int .i64 xs[j].ver]) := by
  obtain ⟨ad, ha, h1, h2⟩ := h.elem (f := lcV) lcV_len (List.getElem?_eq_getElem hj) (by decide)
  refine ⟨ad, ha, h1, h2, ?_⟩
  have hl : 0 < l := by have := h.count lcV_len (by decide); omega
  have := h.rd_agg ha hl (o := j * 4 + 2) (vs := [.int .i64 xs[j].e, .int .i64 xs[j].ver]) fun i u hu => by
    match i, hu with
    | 0, hu => rw [Nat.add_zero, flat_get lcV_len xs j 2 xs[j] (List.getElem?_eq_getElem hj) (by decide)]; exact hu
    | 1, hu => rw [Nat.add_assoc, flat_get lcV_len xs j (2 + 1) xs[j] (List.getElem?_eq_getElem hj) (by decide)]; exact hu
    | n + 2, hu => simp at hu
  have e : (ad.add (j * 4)).add 2 = ad.add (j * 4 + 2) := by
    obtain ⟨ad', ha', hsp, _⟩ := h.cells hl
    rw [ha] at ha'
    injection ha' with ha'
    subst ha'
    obtain ⟨b, o, sp⟩ := ad
    simp only at hsp
    subst hsp
    rw [add_mk, add_mk, add_mk, Nat.add_assoc]
  rw [e]
  exact this
set_option maxHeartbeats 1000000 in
theorem RSeen_spec {n : Int} (hm : kn F ∈ L) (hb : s.l.length ≤ 1000) (h : St E (refA F r s :: L) w) (k : ∀ w', St E (refA F r s :: L) w' → R (.returned (.tuple #[.int .i64 (Cm.seenC s n).1, .agg #[.int .i64 (Cm.seenC s n).2.1, .int .i64 (Cm.seenC s n).2.2]])) w') :
    Calls Tryz.prog 55 #[.pointer (some ⟨r, 0, none⟩), .int .i64 n] w R := by
  have hbig : big = 140737488355328 := rfl
  obtain ⟨ra, pa, la, hcf, hl, h⟩ := h.rf_open
  refine C_ref08_Store_Seen ?_
  unfold T_ref08_Store_Seen
  intro w3
  have h3 := h.alloc (.cells #[.int .i64 0, .int .i64 0] 45)
  have h3 : St E (blkL w.heap.size 45 (rsL 0 0) :: blkL r 108 (rfL s.ver ra pa la) :: L) w3 := h3
  clear_value w3
  generalize w.heap.size = br at *
  have n1 := hl.count lcV_len (by decide) h3 (mem2 hm)
  unfold T_ref08_Store_Seen_1
  intro X hX
  refine up_to s.l.length (Q := fun j => ∀ w : World, (s.l.find? fun x => decide (x.client = n)) = ((s.l.drop j).find? fun x => decide (x.client = n)) → St E (blkL br 45 (rsL 0 0) :: blkL r 108 (rfL s.ver ra pa la) :: L) w → X (j : Int) w) ?_ w3 (by simp) h3
  intro j hj ih w hf h
  refine hX _ _ ?_
  unfold T_ref08_Store_Seen_1_body T_ref08_Store_Seen_2
  refine ite_n (fun _ => ⟨_, rfl, _, _, _, rd_fld h.f1.at_blk rfl rfl, ?_⟩) fun hh => by cases hh
  rw [← n1]
  refine ite_d (fun hc => ?_) fun hc => ?_
  · have hjl : j < s.l.length := by omega
    obtain ⟨ad, ha, _, hk, hg⟩ := la_at (hl.at h (mem2 hm)) hjl
    rw [Int.toNat_natCast]
    refine ⟨_, rfl, _, _, _, rd_fld h.f1.at_blk rfl rfl, by omega, by omega, ad, ha, _, hk 0 _ rfl rfl, ite_b (fun h1 => ?_) fun h1 => ?_⟩
    · have h1 : s.l[j].client = n := by simpa using h1
      intro w21
      have h21 : St E _ w21 := h.drew
      clear_value w21
      obtain ⟨ad2, ha2, _, hk2, hg2⟩ := la_at (hl.at h21 (mem2 hm)) hjl
      refine ⟨_, rfl, _, _, _, rd_fld h21.f1.at_blk rfl rfl, by omega, by omega, ad2, ha2, _, hk2 1 _ rfl rfl, _, rfl, _, _, _, rd_fld h21.f1.at_blk rfl rfl, by omega, by omega, ad2, ha2, _, _, hg2, rfl, ok_res h21 rfl _ _, ?_⟩
      intro w31
      have h31 := h21.wr_res rfl s.l[j].e s.l[j].ver
      have hs : Cm.seenC s n = (s.l[j].seq, s.l[j].e, s.l[j].ver) := by
        unfold Cm.seenC
        rw [hf, List.drop_eq_getElem_cons hjl, List.find?_cons_of_pos (by simpa using h1)]
      refine ⟨trivial, _, _, rd_res h31, ?_⟩
      rw [hs] at k
      exact k _ (St.rf_mk hcf hl h31.drop)
    · have h1 : s.l[j].client ≠ n := by simpa using h1
      rw [succ_big (by omega)]
      refine ih hjl _ ?_ h
      rw [hf, List.drop_eq_getElem_cons hjl, List.find?_cons_of_neg (by simpa using h1)]
  · have hs : Cm.seenC s n = (0, 0, 0) := by
      unfold Cm.seenC
      rw [hf, List.drop_eq_nil_of_le (by omega)]
      rfl
    rw [hs] at k
    refine ⟨rfl, ok_res h rfl 0 0, ?_⟩
    intro w37
    have h37 := h.wr_res rfl 0 0
    exact ⟨_, _, rd_res h37, k _ (St.rf_mk hcf hl h37.drop)⟩
set_option maxHeartbeats 2000000 in
/-- (*Store).note. -/
theorem Rnote_spec {x : Cm.Last} (hb : s.l.length ≤ 1000) (h : St E (refA F r s :: kn F :: L) w) (k : ∀ G w', Fz.le F G → St E (refA G r (Cm.note s x) :: kn G :: L) w' → R (.returned (.tuple #[])) w') :
    Calls Tryz.prog 62 #[.pointer (some ⟨r, 0, none⟩), .agg #[.int .i64 x.client, .int .i64 x.seq, .int .i64 x.e, .int .i64 x.ver]] w R := by
  have hbig : big = 140737488355328 := rfl
  obtain ⟨ra, pa, la, hc, hl, h⟩ := h.rf_open
  refine C_ref08_Store_note ?_
  unfold T_ref08_Store_note
  intro w4
  have h4 : St E (blkL w.heap.size 113 (lcV x) :: blkL r 108 (rfL s.ver ra pa la) :: kn F :: L) w4 := h.alloc _
  intro w5
  have h5 : St E (laA (some ⟨w4.heap.size, 0, none⟩, 0, 0) [] :: blkL w.heap.size 113 (lcV x) :: blkL r 108 (rfL s.ver ra pa la) :: kn F :: L) w5 := h4.la_zero
  clear_value w5
  clear h4
  clear_value w4
  generalize w.heap.size = bx at *
  have hm : ∀ {A B C : Asrt}, kn F ∈ A :: B :: C :: kn F :: L := at3
  have n1 := hl.count lcV_len (by decide) h5 hm
  unfold T_ref08_Store_note_1
  intro X hX
  refine up_to s.l.length (Q := fun j => ∀ (w : World) (o : Sl), St E (laA o ((s.l.take j).filter fun y => Cm.laLt y x) :: blkL bx 113 (lcV x) :: blkL r 108 (rfL s.ver ra pa la) :: kn F :: L) w → X o.1 o.2.1 o.2.2 (j : Int) w) ?_ w5 (some ⟨w4.heap.size, 0, none⟩, 0, 0) h5
  intro j hj ih w o h
  refine hX _ _ _ _ _ ?_
  unfold T_ref08_Store_note_1_body
  refine ⟨_, rfl, _, _, _, rd_fld h.f2.at_blk rfl rfl, ?_⟩
  rw [← n1]
  refine ite_d (fun hc => ?_) fun hc2 => ?_
  · have hjl : j < s.l.length := by omega
    intro w10
    have h10 : St E _ w10 := h.drew
    clear_value w10
    obtain ⟨ad, ha, hg, hk, _⟩ := la_at (hl.at h10 hm) hjl
    have hfl : ((s.l.take j).filter fun y => Cm.laLt y x).length ≤ 1000 := Nat.le_trans (List.length_filter_le ..) (by simp; omega)
    rw [Int.toNat_natCast, succ_big (by omega)]
    refine ⟨_, rfl, _, _, _, rd_fld h10.f2.at_blk rfl rfl, by omega, by omega, ad, ha, _, hk 0 _ rfl rfl, _, rd_cell h10.f1.at_blk rfl rfl, ?_⟩
    refine ite_d (fun h1 => ⟨_, rfl, _, _, _, rd_fld h10.f2.at_blk rfl rfl, by omega, by omega, ad, ha, _, _, _, _, hg, ?_⟩) fun h1 => ?_
    · intro w17
      obtain ⟨o', w19, hr, h19⟩ := app_la1 (x := s.l[j]) h10 (by omega)
      refine runV_ok hr ⟨_, _, _, rfl, ih hjl _ o' ?_⟩
      rw [filter_step hjl, if_pos (show Cm.laLt s.l[j] x = true from decide_eq_true h1)]
      exact h19
    · refine ih hjl _ o ?_
      rw [filter_step hjl, if_neg (by unfold Cm.laLt; simpa using h1), List.append_nil]
      exact h10
  · rw [List.take_of_length_le (by omega)] at h
    have hfl : (s.l.filter fun y => Cm.laLt y x).length ≤ 1000 := Nat.le_trans (List.length_filter_le ..) hb
    refine ⟨_, _, _, _, rd_agg (xs := lcV x) h.f1.at_blk (by intro i u hu; rw [Nat.zero_add]; exact hu), ?_⟩
    intro w29
    obtain ⟨o', w31, hr, h31⟩ := app_la1 (x := x) h (by omega)
    refine runV_ok hr ⟨_, _, _, rfl, ?_⟩
    unfold T_ref08_Store_note_2
    intro X hX
    refine up_to s.l.length (Q := fun j => ∀ (w : World) (o : Sl), St E (laA o ((s.l.filter fun y => Cm.laLt y x) ++ [x] ++ (s.l.take j).filter fun y => Cm.laLt x y) :: blkL bx 113 (lcV x) :: blkL r 108 (rfL s.ver ra pa la) :: kn F :: L) w → X o.1 o.2.1 o.2.2 (j : Int) w) ?_ w31 o' (by simpa using h31)
    intro j hj ih w o h
    refine hX _ _ _ _ _ ?_
    unfold T_ref08_Store_note_2_body
    refine ⟨_, rfl, _, _, _, rd_fld h.f2.at_blk rfl rfl, ?_⟩
    rw [← n1]
    refine ite_d (fun hc => ?_) fun hc3 => ?_
    · have hjl : j < s.l.length := by omega
      intro w10
      have h10 : St E _ w10 := h.drew
      clear_value w10
      obtain ⟨ad, ha, hg, hk, _⟩ := la_at (hl.at h10 hm) hjl
      have hfl2 : ((s.l.take j).filter fun y => Cm.laLt x y).length ≤ 1000 := Nat.le_trans (List.length_filter_le ..) (by simp; omega)
      rw [Int.toNat_natCast, succ_big (by omega)]
      refine ⟨_, rfl, _, _, _, rd_fld h10.f2.at_blk rfl rfl, by omega, by omega, ad, ha, _, hk 0 _ rfl rfl, _, rd_cell h10.f1.at_blk rfl rfl, ?_⟩
      refine ite_d (fun h1 => ⟨_, rfl, _, _, _, rd_fld h10.f2.at_blk rfl rfl, by omega, by omega, ad, ha, _, _, _, _, hg, ?_⟩) fun h1 => ?_
      · intro w17
        obtain ⟨o', w19, hr, h19⟩ := app_la1 (x := s.l[j]) h10 (by simp only [List.length_append, List.length_singleton]; omega)
        refine runV_ok hr ⟨_, _, _, rfl, ih hjl _ o' ?_⟩
        rw [filter_step hjl, if_pos (show Cm.laLt x s.l[j] = true from decide_eq_true h1), ← List.append_assoc]
        exact h19
      · refine ih hjl _ o ?_
        rw [filter_step hjl, if_neg (by unfold Cm.laLt; simpa using h1), List.append_nil]
        exact h10
    · rw [List.take_of_length_le (by omega)] at h
      obtain ⟨G, hG, h2, hr2⟩ := St.freeze_la (h.sel 4 [0, 3, 1, 2])
      have h3 := St.wr_fld (k := 3) (v := .slice o.1 o.2.1 o.2.2) (St.sel (L := kn G :: blkL bx 113 (lcV x) :: blkL r 108 (rfL s.ver ra pa la) :: L) h2 3 [2, 0]) rfl
      refine ⟨_, rfl, rfl, wrOk_fld h.f2.at_blk (by show 3 < 4; decide) rfl, ?_⟩
      intro w75
      refine k G _ hG (St.rf_mk (s := Cm.note s x) (ra := ra) (pa := pa) (la := o) (hc.mono hG) ?_ h3)
      have e : (Cm.note s x).l = (s.l.filter fun y => Cm.laLt y x) ++ [x] ++ s.l.filter fun y => Cm.laLt x y := by simp [Cm.note, Cm.put]
      rw [e]
      exact hr2
set_option maxHeartbeats 2000000 in
theorem rdo1_spec {br bc : Nat} {e v : Int} {Kn Kr : World → Prop} {Kp : List PanicEntry → World → Prop} (hm : kn F ∈ L) (hb : s.l.length ≤ 1000)
    (h : St E (doL br bc e v c q (refA F r s :: L)) w)
    (k1 : ¬ (0 < c.client ∧ c.seq = (Cm.seenC s c.client).1) → ¬ (0 < c.client ∧ c.seq < (Cm.seenC s c.client).1) → ∀ w', St E (doL br bc e v c q (refA F r s :: L)) w' → Kn w')
    (k2 : 0 < c.client ∧ c.seq = (Cm.seenC s c.client).1 → ∀ w', St E (doL br bc (Cm.seenC s c.client).2.1 (Cm.seenC s c.client).2.2 c q (refA F r s :: L)) w' → Kr w')
    (k3 : ¬ (0 < c.client ∧ c.seq = (Cm.seenC s c.client).1) → 0 < c.client ∧ c.seq < (Cm.seenC s c.client).1 → ∀ w', St E (doL br bc 12 s.ver c q (refA F r s :: L)) w' → Kr w') :
    T_ref08_Store_Do_1 (some ⟨r, 0, none⟩) ⟨bc, 0, none⟩ ⟨br, 0, none⟩ (decide (c.client > 0)) w Kn Kr Kp := by
  unfold T_ref08_Store_Do_1
  refine ite_b (fun hb1 => ?_) fun hb1 => k1 (fun hx => ?_) (fun hx => ?_) _ h
  · have hcc : 0 < c.client := of_decide_eq_true hb1
    refine ⟨_, rd_fld h.f1.at_blk rfl rfl, RSeen_spec (mem2 hm) hb (h.sel 3 [2, 0, 1]) fun w38 h38 => ⟨_, _, _, rfl, ?_⟩⟩
    generalize hq : Cm.seenC s c.client = sq at *
    have h38 : St E (doL br bc e v c q (refA F r s :: L)) w38 := St.sel (L := refA F r s :: blkL br 45 (rsL e v) :: blkL bc 42 (cmdL c q) :: L) h38 3 [1, 2, 0]
    intro w42
    have h42 := h38.alloc (.cells #[.int .i64 0, .int .i64 0] 45)
    refine ⟨rfl, ok_res h42 rfl sq.2.1 sq.2.2, ?_⟩
    intro w43
    have h43 : St E (blkL w38.heap.size 45 (rsL sq.2.1 sq.2.2) :: doL br bc e v c q (refA F r s :: L)) w43 := h42.wr_res rfl sq.2.1 sq.2.2
    clear h42
    clear_value w43 w42
    generalize w38.heap.size = b2 at *
    refine ⟨_, rd_fld h43.f2.at_blk rfl rfl, ite_b (fun h1 => ?_) fun h1 => ?_⟩
    · refine ⟨_, _, rd_res h43, rfl, ok_res h43.f1 rfl _ _, ?_⟩
      intro w47
      exact k2 ⟨hcc, by simpa using h1⟩ _ (h43.f1.wr_res rfl _ _).f1.drop
    · have hne : ¬ (0 < c.client ∧ c.seq = sq.1) := fun hx => by rw [hx.2] at h1; simp at h1
      refine ⟨_, rd_fld h43.f2.at_blk rfl rfl, ite_d (fun h2 => ?_) fun h2 => k1 hne (fun hx => h2 hx.2) _ h43.drop⟩
      obtain ⟨ra, pa, la, _, _, h44⟩ := h43.f3.rf_open
      refine ⟨_, rfl, _, rd_cell h44.at_blk rfl rfl, rfl, ok_res h43.f1 rfl _ _, ?_⟩
      intro w51
      exact k3 hne ⟨hcc, h2⟩ _ (h43.f1.wr_res rfl _ _).f1.drop
  · exact absurd hx.1 (of_decide_eq_false hb1)
  · exact absurd hx.1 (of_decide_eq_false hb1)
set_option maxHeartbeats 2000000 in
theorem rdo2_spec {br bc : Nat} {e v : Int} {Kn : Int → World → Prop} {Kp : List PanicEntry → World → Prop} (I : Cm.Inv s) (hc : Cm.chk c = 0) (hr : RdF F q.1 q.2.1 2 (c.tg.flatMap tV))
    (h : St E (doL br bc e v c q (refA F r s :: kn F :: L)) w)
    (k : ∀ G w', Fz.le F G → St E (doL br bc e v c q (refA G r (Cm.step s c).1 :: kn G :: L)) w' → Kn (Cm.step s c).2 w') :
    T_ref08_Store_Do_2 (some ⟨r, 0, none⟩) ⟨bc, 0, none⟩ w (fun b w => T_ref08_Store_Do_3 (some ⟨r, 0, none⟩) ⟨bc, 0, none⟩ b w Kn Kp) Kp := by
  have nf : ∀ {w : World} {er : Int}, Cm.step s c = (s, er) → St E (doL br bc e v c q (refA F r s :: kn F :: L)) w → Kn er w := fun hs h => by
    rw [hs] at k
    exact k F _ (Fz.le_refl F) h
  have go : ∀ {w : World} (b : Bool), (b = true ↔ (0 ≤ c.expect ∧ c.expect ≠ s.ver)) → St E (doL br bc e v c q (refA F r s :: kn F :: L)) w → T_ref08_Store_Do_3 (some ⟨r, 0, none⟩) ⟨bc, 0, none⟩ b w Kn Kp := fun {w} b hb h => by
    unfold T_ref08_Store_Do_3
    refine ite_b (fun h1 => nf (by unfold Cm.step; rw [if_pos (hb.1 h1)]) h) fun h1 => ?_
    have hne : ¬ (0 ≤ c.expect ∧ c.expect ≠ s.ver) := fun hx => by rw [hb.2 hx] at h1; cases h1
    obtain ⟨ra, pa, la, hcf, hla, h2⟩ := (h.f2).rf_open
    refine ⟨_, rfl, _, rd_cell h2.at_blk rfl rfl, ite_b (fun h3 => nf (by unfold Cm.step; rw [if_neg hne, if_pos (by simpa using h3)]) h) fun h3 => ?_⟩
    have hst : Cm.step s c = Cm.act s c := by unfold Cm.step; rw [if_neg hne, if_neg (by simpa using h3)]
    rw [hst] at k
    intro w70
    have h70 : St E (blkL r 108 (rfL s.ver ra pa la) :: blkL br 45 (rsL e v) :: blkL bc 42 (cmdL c q) :: kn F :: L) w70 := h2.drew
    clear_value w70
    refine ⟨_, rfl, _, _, _, _, _, _, _, rd_agg (xs := cfgL s.ver ra pa) h70.at_blk (by intro i u hu; rw [Nat.zero_add]; match i, hu with | 0, hu => exact hu | 1, hu => exact hu | 2, hu => exact hu | n + 3, hu => simp at hu), _, _, _, _, _, _, _, _, _, _, rd_cmd h70.f2, ?_⟩
    refine Ract_spec (L := blkL r 108 (rfL s.ver ra pa la) :: blkL br 45 (rsL e v) :: blkL bc 42 (cmdL c q) :: L) I hc hr hcf (h70.sel 4 [3, 0, 1, 2]) fun G w84 ra' pa' hG hcf' h84 => ⟨_, _, _, _, _, _, _, _, rfl, trivial, _, rfl, rfl, ?_, ?_⟩
    · exact wrOk_agg h84.f1.at_blk (xs := cfgL s.ver ra' pa') (by simp) (one_cfg _ _ _)
    · intro w90
      obtain ⟨_, hv, hll, _, _⟩ := Cm.act_keeps I hc
      have h90 := St.wr_agg (off := 0) (xs := cfgL s.ver ra' pa') h84.f1 (by simp)
      have h91 : St E (blkL r 108 (rfL (Cm.act s c).1.ver ra' pa' la) :: kn G :: blkL br 45 (rsL e v) :: blkL bc 42 (cmdL c q) :: L) w90 := by rw [hv]; exact h90
      refine ⟨trivial, k G _ hG ?_⟩
      have h92 : St E (refA G r (Cm.act s c).1 :: kn G :: blkL br 45 (rsL e v) :: blkL bc 42 (cmdL c q) :: L) w90 := St.rf_mk hcf' (by rw [hll]; exact RdF.mono hla hG) h91
      exact h92.sel 4 [2, 3, 0, 1]
  unfold T_ref08_Store_Do_2
  intro w55
  have h55 : St E _ w55 := h.drew
  clear_value w55
  refine ⟨_, rd_fld h55.f1.at_blk rfl rfl, ite_d (fun h1 => ?_) fun h1 => go false ⟨fun hh => (by cases hh), fun hx => absurd hx.1 h1⟩ h55⟩
  obtain ⟨ra, pa, la, hcf, hla, h2⟩ := (h55.f2).rf_open
  refine ⟨_, rd_fld h55.f1.at_blk rfl rfl, _, rfl, _, rd_cell h2.at_blk rfl rfl, go _ ?_ h55⟩
  rw [ne_dec]
  simp only [decide_eq_true_eq]
  exact ⟨fun hh => ⟨h1, hh⟩, fun hh => hh.2⟩
set_option maxHeartbeats 4000000 in
/-- (*Store).Do, in the document's words. -/
theorem RDo_spec (I : Cm.Inv s) (hr : RdF F q.1 q.2.1 2 (c.tg.flatMap tV)) (ho : okC c) (h : St E (refA F r s :: kn F :: L) w)
    (k : ∀ G w', Fz.le F G → St E (refA G r (Cm.doC s c).1 :: kn G :: L) w' → R (.returned (.agg #[.int .i64 (Cm.doC s c).2.1, .int .i64 (Cm.doC s c).2.2])) w') : Calls Tryz.prog 29 #[.pointer (some ⟨r, 0, none⟩), cmdV c q] w R := by
  have hln := I.ln
  refine C_ref08_Store_Do ?_
  unfold T_ref08_Store_Do
  intro w10
  have h10 : St E (blkL w.heap.size 42 (cmdL c q) :: refA F r s :: kn F :: L) w10 := h.alloc _
  intro w11
  have h11 : St E (doL w10.heap.size w.heap.size 0 0 c q (refA F r s :: kn F :: L)) w11 := h10.alloc _
  clear_value w11
  clear h10
  clear_value w10
  generalize w10.heap.size = br at *
  generalize w.heap.size = bc at *
  have done : ∀ {w : World} {e v : Int} {s' : Cm.Sm} {G : Fz}, Fz.le F G → Cm.doC s c = (s', e, v) → St E (doL br bc e v c q (refA G r s' :: kn G :: L)) w →
      ∃ x136 : Int, ∃ x137 : Int, rd w ⟨br, 0, none⟩ (.agg #[.int .i64 x136, .int .i64 x137]) ∧ R (.returned (.agg #[.int .i64 x136, .int .i64 x137])) w := fun hFG hd h => by
    rw [hd] at k
    exact ⟨_, _, rd_res h, k _ _ hFG h.drop.drop⟩
  refine ite_some ⟨_, _, _, _, _, _, _, _, _, _, rd_cmd h11.f1, RCheck_spec (mem2 at1) h11 hr ho fun w24 h24 => ⟨_, rfl, ite_b (fun h1 => ?_) fun h1 => ?_⟩⟩
  · have h1 : Cm.chk c ≠ 0 := by simpa using h1
    obtain ⟨ra, pa, la, _, _, h25⟩ := h24.f2.rf_open
    refine ⟨_, rfl, _, rd_cell h25.at_blk rfl rfl, rfl, ok_res h24 rfl _ _, ?_⟩
    intro w28
    exact done (Fz.le_refl F) (by unfold Cm.doC; rw [if_pos h1]) (h24.wr_res rfl _ _)
  · have hc : Cm.chk c = 0 := by simpa using h1
    refine ⟨_, rd_fld h24.f1.at_blk rfl rfl, rdo1_spec (L := kn F :: L) at0 (by omega) h24 (fun n1 n2 w74 h74 => ?_) (fun y1 w74 h74 => ?_) (fun n1 y2 w74 h74 => ?_)⟩
    · refine rdo2_spec I hc hr h74 fun G w107 hFG h107 => ?_
      have hd : Cm.doC s c = (if 0 < c.client then Cm.note { (Cm.step s c).1 with ver := Cm.vers (Cm.step s c) } ⟨c.client, c.seq, (Cm.step s c).2, Cm.vers (Cm.step s c)⟩ else { (Cm.step s c).1 with ver := Cm.vers (Cm.step s c) }, (Cm.step s c).2, Cm.vers (Cm.step s c)) := by
        unfold Cm.doC; rw [if_neg (by simpa using hc), if_neg n1, if_neg n2]
      obtain ⟨J, hv, hl, _, _, hz⟩ := Cm.step_keeps I hc
      generalize hst : Cm.step s c = st at *
      obtain ⟨s', er⟩ := st
      simp only at *
      obtain ⟨ra, pa, la, hcf, hla, h108⟩ := (h107.f2).rf_open
      have fin : ∀ {w : World}, St E (refA G r { s' with ver := Cm.vers (s', er) } :: kn G :: doL br bc 0 0 c q L) w → (∃ a103, some (⟨r, 0, none⟩ : Addr) = some a103 ∧ ∃ x104 : Int, rd w a103 (.int .i64 x104) ∧ let w105 : World := w.alloc (.cells #[.int .i64 0, .int .i64 0] 45)
          (.agg #[.int .i64 er, .int .i64 x104] : Value).cells.size = 2 ∧ wrOk w105 (⟨w.heap.size, 0, none⟩ : Addr) (.agg #[.int .i64 er, .int .i64 x104]) ∧ let w106 : World := wr w105 (⟨w.heap.size, 0, none⟩ : Addr) (.agg #[.int .i64 er, .int .i64 x104])
          ∃ x107 : Int, rd w106 ((⟨bc, 0, none⟩ : Addr).add 1) (.int .i64 x107) ∧ if (decide ((x107 : Int) > 0)) = true then (∃ x108 : Int, rd w106 ((⟨bc, 0, none⟩ : Addr).add 1) (.int .i64 x108) ∧ ∃ x109 : Int, rd w106 ((⟨bc, 0, none⟩ : Addr).add 2) (.int .i64 x109) ∧ ∃ x110 : Int, ∃ x111 : Int, rd w106 (⟨w.heap.size, 0, none⟩ : Addr) (.agg #[.int .i64 x110, .int .i64 x111]) ∧ Calls Tryz.prog 62 #[.pointer (some (⟨r, 0, none⟩ : Addr)), .agg #[.int .i64 x108, .int .i64 x109, .int .i64 x110, .int .i64 x111]] w106 (ret (fun r112 w113 => r112 = .tuple #[] ∧ ∃ x114 : Int, ∃ x115 : Int, rd w113 (⟨w.heap.size, 0, none⟩ : Addr) (.agg #[.int .i64 x114, .int .i64 x115]) ∧ (.agg #[.int .i64 x114, .int .i64 x115] : Value).cells.size = 2 ∧ wrOk w113 (⟨br, 0, none⟩ : Addr) (.agg #[.int .i64 x114, .int .i64 x115]) ∧ let w116 : World := wr w113 (⟨br, 0, none⟩ : Addr) (.agg #[.int .i64 x114, .int .i64 x115])
          ∃ x117 : Int, ∃ x118 : Int, rd w116 (⟨br, 0, none⟩ : Addr) (.agg #[.int .i64 x117, .int .i64 x118]) ∧ R (.returned (.agg #[.int .i64 x117, .int .i64 x118])) w116) (pan R))) else (∃ x119 : Int, ∃ x120 : Int, rd w106 (⟨w.heap.size, 0, none⟩ : Addr) (.agg #[.int .i64 x119, .int .i64 x120]) ∧ (.agg #[.int .i64 x119, .int .i64 x120] : Value).cells.size = 2 ∧ wrOk w106 (⟨br, 0, none⟩ : Addr) (.agg #[.int .i64 x119, .int .i64 x120]) ∧ let w121 : World := wr w106 (⟨br, 0, none⟩ : Addr) (.agg #[.int .i64 x119, .int .i64 x120])
          ∃ x122 : Int, ∃ x123 : Int, rd w121 (⟨br, 0, none⟩ : Addr) (.agg #[.int .i64 x122, .int .i64 x123]) ∧ R (.returned (.agg #[.int .i64 x122, .int .i64 x123])) w121)) := fun {w} h => by
        obtain ⟨ra, pa, la, _, _, hv0⟩ := h.rf_open
        refine ⟨_, rfl, _, rd_cell hv0.at_blk rfl rfl, ?_⟩
        clear hv0
        intro w117
        have h117 := h.alloc (.cells #[.int .i64 0, .int .i64 0] 45)
        refine ⟨rfl, ok_res h117 rfl er (Cm.vers (s', er)), ?_⟩
        intro w118
        have h118 : St E (blkL w.heap.size 45 (rsL er (Cm.vers (s', er))) :: refA G r { s' with ver := Cm.vers (s', er) } :: kn G :: doL br bc 0 0 c q L) w118 := h117.wr_res rfl _ _
        clear_value w118
        clear h117
        clear_value w117
        generalize w.heap.size = b2 at *
        refine ⟨_, rd_fld h118.f4.at_blk rfl rfl, ite_d (fun hcc => ?_) fun hcc => ?_⟩
        · refine ⟨_, rd_fld h118.f4.at_blk rfl rfl, _, rd_fld h118.f4.at_blk rfl rfl, _, _, rd_res h118, ?_⟩
          have hlen : { s' with ver := Cm.vers (s', er) : Cm.Sm }.l.length ≤ 1000 := by have := J.ln; show s'.l.length ≤ 1000; omega
          refine Rnote_spec (x := ⟨c.client, c.seq, er, Cm.vers (s', er)⟩) (L := blkL b2 45 (rsL er (Cm.vers (s', er))) :: doL br bc 0 0 c q L) hlen (h118.sel 3 [1, 2, 0]) fun G2 w113 hG2 h113 => ⟨rfl, ?_⟩
          refine ⟨_, _, rd_res h113.f2, rfl, ok_res h113.f3 rfl _ _, ?_⟩
          intro w116
          have h116 := h113.f3.wr_res rfl er (Cm.vers (s', er))
          refine done (Fz.le_trans hFG hG2) hd ?_
          rw [if_pos hcc]
          exact St.sel (L := _ :: _ :: _ :: _ :: _ :: L) h116 5 [0, 4, 1, 2]
        · refine ⟨_, _, rd_res h118, rfl, ok_res h118.f3 rfl _ _, ?_⟩
          intro w121
          have h121 := h118.f3.wr_res rfl er (Cm.vers (s', er))
          refine done hFG hd ?_
          rw [if_neg hcc]
          exact St.sel (L := _ :: _ :: _ :: _ :: _ :: L) h121 5 [0, 4, 2, 3]
      have arr : ∀ {w : World} {v : Int}, v = Cm.vers (s', er) → St E (blkL r 108 (rfL v ra pa la) :: blkL br 45 (rsL 0 0) :: blkL bc 42 (cmdL c q) :: kn G :: L) w → St E (refA G r { s' with ver := Cm.vers (s', er) } :: kn G :: doL br bc 0 0 c q L) w := fun hv h => by
        subst hv
        exact St.sel (L := refA G r { s' with ver := Cm.vers (s', er) } :: _ :: _ :: kn G :: L) (St.rf_mk (s := { s' with ver := Cm.vers (s', er) }) hcf hla h) 4 [0, 3, 1, 2]
      unfold T_ref08_Store_Do_4
      refine ite_b (fun h0 => ?_) fun h0 => ?_
      · have h0 : er = 0 := by simpa using h0
        have hver : Cm.vers (s', er) = s'.ver + 1 := by unfold Cm.vers; rw [if_pos h0]
        have hw : IntKind.wrap .i64 (s'.ver + 1) = s'.ver + 1 := by
          have := hz h0
          have := J.v0
          exact wrap_id (by omega) (by omega)
        refine ⟨_, rfl, _, rd_cell h108.at_blk rfl rfl, _, rfl, rfl, wrOk_cell h108.at_blk (by simp) rfl, ?_⟩
        intro w113
        have := h108.wr_cell (off := 0) (v := .int .i64 (IntKind.wrap .i64 (s'.ver + 1))) rfl
        rw [show (rfL s'.ver ra pa la).set 0 (.int .i64 (IntKind.wrap .i64 (s'.ver + 1))) = rfL (s'.ver + 1) ra pa la from by rw [hw]; rfl] at this
        exact fin (arr hver.symm this)
      · have h0 : er ≠ 0 := by simpa using h0
        have hver : Cm.vers (s', er) = s'.ver := by unfold Cm.vers; rw [if_neg h0]
        exact fin (arr hver.symm h108)
    · exact done (Fz.le_refl F) (by unfold Cm.doC; rw [if_neg (by simpa using hc), if_pos y1]) h74
    · exact done (Fz.le_refl F) (by unfold Cm.doC; rw [if_neg (by simpa using hc), if_neg n1, if_pos y2]) h74
end
end Go.Vc

/-
  Commands that came in: what stands in them.
-/
namespace Go.Vc
open Go Go.Proofs Go.Proofs.YtcpmfjclkdjfmaaGreat
set_option maxRecDepth 100000
section
variable {H : Type} {enc : TypeId × Value → H} {W : World}
theorem trod_float0 {t : TypeId} {fk : FloatKind} (ht : Tryz.prog.underlying t = some (.float fk)) {fuel : Nat} {cs : List Value} {x : DataW H × List MemPlace} (h : DataW.trod enc Tryz.prog W 0 (fun _ => true) true fuel t cs = some x) : ∃ b, cs = [.float fk b] ∧ x = (.lit (.float fk b), []) ∧ (Lit.float fk b).wf = true := by
  cases fuel with
  | zero => simp [DataW.trod] at h
  | succ n =>
    unfold DataW.trod at h
    rw [ht] at h
    split at h <;> simp_all
theorem trod_float {t : TypeId} (ht : Tryz.prog.underlying t = some (.float .f64)) {fuel : Nat} {cs : List Value} {x : DataW H × List MemPlace} (h : DataW.trod enc Tryz.prog W 0 (fun _ => true) true fuel t cs = some x) : ∃ b, cs = [.float .f64 b] ∧ b < two64 := by
  obtain ⟨b, h1, _, h2⟩ := trod_float0 ht h
  exact ⟨b, h1, of_decide_eq_true h2⟩
theorem sl_of {t e : TypeId} (ht : Tryz.prog.underlying t = some (.slice e)) {fuel : Nat} {v : Value} {x : DataW H × List MemPlace} (h : DataW.trod enc Tryz.prog W 0 (fun _ => true) true fuel t [v] = some x) : ∃ a l c, v = .slice a l c ∧ l ≤ c := by
  rcases DataW.trod_slice ht h with ⟨hcs, _⟩ | ⟨ad, len, cap, _, _, _, _, hcs, _, _, hl, _⟩
  · simp at hcs; exact ⟨_, _, _, hcs, Nat.le_refl _⟩
  · simp at hcs; exact ⟨_, _, _, hcs, hl⟩
/-- Targets that came in. -/
theorem open_tgs {a : Option Addr} {l c : Nat} {fuel : Nat} {x : DataW H × List MemPlace} (h : DataW.trod enc Tryz.prog W 0 (fun _ => true) true fuel 32 [.slice a l c] = some x) :
    ∃ tg : List Cm.Tgt, RdS W a l 2 (tg.flatMap tV) ∧ okTs tg := by
  obtain ⟨tg, h1, h2, h3⟩ := open_elems (β := Cm.Tgt) (f := tV) okT tV_len (by decide) Tryz.underlying32 (by kernel_rfl) (fun n cs x hx => by
    obtain ⟨xs, m, _, _, hcl, hxl, hfs⟩ := DataW.trod_struct Tryz.underlying64 hx
    rw [show Tryz.prog.cellsOf 64 = 2 by kernel_rfl] at hcl
    have hxl2 : xs.length = 2 := hxl
    have cs_ : Tryz.prog.cellsOf 9 = 1 := by kernel_rfl
    have cf : Tryz.prog.cellsOf 62 = 1 := by kernel_rfl
    match cs, hcl with
    | [v0, v1], _ =>
      have f0 := hfs 0 _ rfl
      have f1 := hfs 1 _ rfl
      simp only [List.getElem_toArray, List.getElem_cons_zero, List.getElem_cons_succ, cs_, cf, List.drop_zero, List.drop_succ_cons, List.take_succ_cons, List.take_zero] at f0 f1
      rw [List.getElem?_eq_getElem (by omega)] at f0 f1
      obtain ⟨s0, e0, _, w0⟩ := DataW.trod_string Tryz.underlying9 f0
      obtain ⟨b1, e1, w1⟩ := trod_float Tryz.underlying62 f1
      simp at e0 e1
      subst e0 e1
      refine ⟨⟨s0.data.toList, b1⟩, by unfold tV; dsimp only; rw [bs_of], ?_, w1⟩
      have : s0.data.toList.length = s0.size := Array.length_toList
      show s0.data.toList.length ≤ huge
      rw [this]; exact w0) h
  refine ⟨tg, h1, ?_, h3⟩
  have := h1.count tV_len (by decide)
  rw [this]; exact h2
/-- A command that came in. -/
theorem open_cmd {fuel : Nat} {cs : List Value} {x : DataW H × List MemPlace} (hx : DataW.trod enc Tryz.prog W 0 (fun _ => true) true fuel 42 cs = some x) :
    ∃ d : Cm.Cmd × Sl, cs = cmdL d.1 d.2 ∧ okC d.1 ∧ RdS W d.2.1 d.2.2.1 2 (d.1.tg.flatMap tV) := by
  obtain ⟨xs, m, _, _, hcl, hxl, hfs⟩ := DataW.trod_struct Tryz.underlying42 hx
  rw [show Tryz.prog.cellsOf 42 = 8 by kernel_rfl] at hcl
  have hxl8 : xs.length = 8 := hxl
  have c1 : Tryz.prog.cellsOf 9 = 1 := by kernel_rfl
  have c2 : Tryz.prog.cellsOf 3 = 1 := by kernel_rfl
  have c3 : Tryz.prog.cellsOf 40 = 1 := by kernel_rfl
  have c4 : Tryz.prog.cellsOf 32 = 1 := by kernel_rfl
  match cs, hcl with
  | [v0, v1, v2, v3, v4, v5, v6, v7], _ =>
    have f0 := hfs 0 _ rfl
    have f1 := hfs 1 _ rfl
    have f2 := hfs 2 _ rfl
    have f3 := hfs 3 _ rfl
    have f4 := hfs 4 _ rfl
    have f5 := hfs 5 _ rfl
    have f6 := hfs 6 _ rfl
    have f7 := hfs 7 _ rfl
    simp only [List.getElem_toArray, List.getElem_cons_zero, List.getElem_cons_succ, c1, c2, c3, c4, List.drop_zero, List.drop_succ_cons, List.take_succ_cons, List.take_zero] at f0 f1 f2 f3 f4 f5 f6 f7
    rw [List.getElem?_eq_getElem (by omega)] at f0 f1 f2 f3 f4 f5 f6 f7
    obtain ⟨k0, e0, _⟩ := DataW.trod_int Tryz.underlying40 f0
    obtain ⟨k1, e1, _⟩ := DataW.trod_int Tryz.underlying3 f1
    obtain ⟨k2, e2, _⟩ := DataW.trod_int Tryz.underlying3 f2
    obtain ⟨k3, e3, _⟩ := DataW.trod_int Tryz.underlying3 f3
    obtain ⟨s4, e4, _, w4⟩ := DataW.trod_string Tryz.underlying9 f4
    obtain ⟨s5, e5, _, w5⟩ := DataW.trod_string Tryz.underlying9 f5
    obtain ⟨s6, e6, _, w6⟩ := DataW.trod_string Tryz.underlying9 f6
    obtain ⟨a7, l7, c7, rfl, _⟩ := sl_of Tryz.underlying32 f7
    obtain ⟨tg, h7, o7⟩ := open_tgs f7
    simp at e0 e1 e2 e3 e4 e5 e6
    subst e0 e1 e2 e3 e4 e5 e6
    have len : ∀ s : ByteArray, s.data.toList.length = s.size := fun s => Array.length_toList
    exact ⟨(⟨k0, k1, k2, k3, s4.data.toList, s5.data.toList, s6.data.toList, tg⟩, (a7, l7, c7)), by unfold cmdL; dsimp only; rw [bs_of, bs_of, bs_of], ⟨by show s4.data.toList.length ≤ huge; rw [len]; exact w4, by show s5.data.toList.length ≤ huge; rw [len]; exact w5, by show s6.data.toList.length ≤ huge; rw [len]; exact w6, o7⟩, h7⟩
theorem cmdL_len (d : Cm.Cmd × Sl) : (cmdL d.1 d.2).length = 8 := rfl
/-- Commands that came in. -/
def CmdsR (F : Fz) (a : Option Addr) (l : Nat) (ds : List (Cm.Cmd × Sl)) : Prop := RdF F a l 8 (ds.flatMap fun d => cmdL d.1 d.2) ∧ ∀ d ∈ ds, okC d.1 ∧ RdF F d.2.1 d.2.2.1 2 (d.1.tg.flatMap tV)
theorem open_cmds {a : Option Addr} {l c : Nat} {d : DataW H} {ps : List MemPlace} (h : DataW.Trod enc Tryz.prog W 0 (fun _ => true) true 22 (.slice a l c) d ps) : ∃ ds, CmdsR (fun b => W.heap[b]?) a l ds ∧ l ≤ maxLen := by
  obtain ⟨fuel, hf⟩ := h
  obtain ⟨ds, h1, h2, h3⟩ := open_elems (β := Cm.Cmd × Sl) (f := fun d => cmdL d.1 d.2) (fun d => okC d.1 ∧ RdS W d.2.1 d.2.2.1 2 (d.1.tg.flatMap tV)) cmdL_len (by decide) Tryz.underlying22 (by kernel_rfl) (fun n cs x hx => by
    obtain ⟨d, e, h1, h2⟩ := open_cmd hx
    exact ⟨d, e, h1, h2⟩) hf
  exact ⟨ds, ⟨RdF.of_world h1, fun d hd => ⟨(h3 d hd).1, RdF.of_world (h3 d hd).2⟩⟩, h2⟩
end
end Go.Vc

/-
  What the functions' code comes to; printed by a program of this claim's own.
-/
namespace Go.Proofs.YtcpmfjclkdjfmaaGreat
open Go Go.Vc
set_option maxRecDepth 100000
set_option linter.unusedVariables false

/-! tollgate/tollgatelaw08.play -/
def T_law08_play_2 (l12a : Option Addr) (l12l : Nat) (l12c : Nat) (i13 : Int) (w : World) (Kn : Bool → World → Prop) (Kp : List PanicEntry → World → Prop) : Prop :=
  if (decide ((i13 : Int) < ((l12l : Nat) : Int))) = true then (Kn (decide ((i13 : Int) < 150)) w) else (Kn false w)

def T_law08_play_2_outs : Exit → Option (List (Nat × Value)) := fun x => match x with | .normal => some [(17, .bool false)] | .panic _ => some [] | _ => none

def T_law08_play_2_ks : Nat → Bool := ksOf [10, 11, 12, 13, 14, 15, 16, 17]

def H_law08_play_2 : Env → World → QT → Prop := unitHook 44 T_law08_play_2_ks [(0, .slice none 0 0), (7, .int .i64 0)] T_law08_play_2_outs fun l w C => match l with | [v0, v1] => T_law08_play_2 (pA v0) (pL v0) (pC v0) (pInt v1) w (fun b15 w => C .normal [.bool b15] w) (fun ch w => C (.panic ch) [] w) | _ => False

theorem T_law08_play_2_hl : allP (hokL Tryz.prog (hookAt []) (at_ (bodyOf Tryz.f13) [1, 1, 0, 1, 0, 0, 0, 0]) 464) = (True) := by kernel_rfl
theorem T_law08_play_2_hok : HOk Tryz.prog (hookAt []) (at_ (bodyOf Tryz.f13) [1, 1, 0, 1, 0, 0, 0, 0]) 464 := HOk_of _ _ (by rw [T_law08_play_2_hl]; exact trivial)

theorem T_law08_play_2_eq (C : Conts) (l12a : Option Addr) (l12l : Nat) (l12c : Nat) (i13 : Int) (w : World) : vcCode Tryz.prog (hookAt []) (at_ (bodyOf Tryz.f13) [1, 1, 0, 1, 0, 0, 0, 0]) 464 ⟨[(0, .slice l12a l12l l12c), (7, .int .i64 i13)], 44, []⟩ w (unitQ T_law08_play_2_outs C) = T_law08_play_2 l12a l12l l12c i13 w (fun b16 w => C .normal [.bool b16] w) (fun ch w => C (.panic ch) [] w) := by kernel_rfl

theorem T_law08_play_2_ok : UnitOk Tryz.prog H_law08_play_2 (at_ (bodyOf Tryz.f13) [1, 1, 0, 1, 0, 0, 0, 0]) 464 := unit_ok (H := (hookAt [])) (by kernel_rfl) T_law08_play_2_hok fun l w C hk => by
    obtain ⟨v0, l_v0, rfl, k_v0, hk_v0⟩ := Kinds.cons_ hk
    obtain ⟨l12a, l12l, l12c, rfl⟩ := kind_slice k_v0
    obtain ⟨v1, l_v1, rfl, k_v1, hk_v1⟩ := Kinds.cons_ hk_v0
    obtain ⟨i13, rfl⟩ := kind_int k_v1
    obtain rfl := Kinds.nil_ hk_v1
    exact T_law08_play_2_eq C l12a l12l l12c i13 w

def T_law08_play_3 (l19a : Option Addr) (l19l : Nat) (l19c : Nat) (s20 : Option Addr) (r21 : Option Addr) (i22 : Int) (w : World) (Kn : Bool → World → Prop) (Kp : List PanicEntry → World → Prop) : Prop :=
  let w23 : World := w.drew
  0 ≤ (i22 : Int) ∧ (i22 : Int) < ((l19l : Nat) : Int) ∧ ∃ b24, l19a = some b24 ∧ ∃ x25 : Int, ∃ x26 : Int, ∃ x27 : Int, ∃ x28 : Int, ∃ s29 : ByteArray, ∃ s30 : ByteArray, ∃ s31 : ByteArray, ∃ s32a : Option Addr, ∃ s32l : Nat, ∃ s32c : Nat, rd w23 (b24.add ((i22 : Int).toNat * 8)) (.agg #[.int .i64 x25, .int .i64 x26, .int .i64 x27, .int .i64 x28, .string s29, .string s30, .string s31, .slice s32a s32l s32c]) ∧ Calls Tryz.prog 16 #[.agg #[.int .i64 x25, .int .i64 x26, .int .i64 x27, .int .i64 x28, .string s29, .string s30, .string s31, .slice s32a s32l s32c]] w23 (ret (fun r33 w34 => ∃ b35 : Bool, r33 = .bool b35 ∧ (True) ∧ if b35 = true then (0 ≤ (i22 : Int) ∧ (i22 : Int) < ((l19l : Nat) : Int) ∧ ∃ b36, l19a = some b36 ∧ ∃ x37 : Int, ∃ x38 : Int, ∃ x39 : Int, ∃ x40 : Int, ∃ s41 : ByteArray, ∃ s42 : ByteArray, ∃ s43 : ByteArray, ∃ s44a : Option Addr, ∃ s44l : Nat, ∃ s44c : Nat, rd w34 (b36.add ((i22 : Int).toNat * 8)) (.agg #[.int .i64 x37, .int .i64 x38, .int .i64 x39, .int .i64 x40, .string s41, .string s42, .string s43, .slice s44a s44l s44c]) ∧ 0 ≤ (i22 : Int) ∧ (i22 : Int) < ((l19l : Nat) : Int) ∧ ∃ b45, l19a = some b45 ∧ ∃ x46 : Int, ∃ x47 : Int, ∃ x48 : Int, ∃ x49 : Int, ∃ s50 : ByteArray, ∃ s51 : ByteArray, ∃ s52 : ByteArray, ∃ s53a : Option Addr, ∃ s53l : Nat, ∃ s53c : Nat, rd w34 (b45.add ((i22 : Int).toNat * 8)) (.agg #[.int .i64 x46, .int .i64 x47, .int .i64 x48, .int .i64 x49, .string s50, .string s51, .string s52, .slice s53a s53l s53c]) ∧ Calls Tryz.prog 17 #[.pointer s20, .agg #[.int .i64 x37, .int .i64 x38, .int .i64 x39, .int .i64 x40, .string s41, .string s42, .string s43, .slice s44a s44l s44c]] w34 (ret (fun r54 w55 => ∃ x56 : Int, ∃ x57 : Int, r54 = .agg #[.int .i64 x56, .int .i64 x57] ∧ (rd w55 (b45.add ((i22 : Int).toNat * 8)) (.agg #[.int .i64 x46, .int .i64 x47, .int .i64 x48, .int .i64 x49, .string s50, .string s51, .string s52, .slice s53a s53l s53c]) ∧ True) ∧ Calls Tryz.prog 29 #[.pointer r21, .agg #[.int .i64 x46, .int .i64 x47, .int .i64 x48, .int .i64 x49, .string s50, .string s51, .string s52, .slice s53a s53l s53c]] w55 (ret (fun r58 w59 => ∃ x60 : Int, ∃ x61 : Int, r58 = .agg #[.int .i64 x60, .int .i64 x61] ∧ (True) ∧ runV Tryz.prog (do eqGuard .neq 45 (.tmp 31) (.tmp 37) (.agg #[.int .i64 x56, .int .i64 x57]) (.agg #[.int .i64 x60, .int .i64 x61]); binOp .neq 45 (.agg #[.int .i64 x56, .int .i64 x57]) (.agg #[.int .i64 x60, .int .i64 x61])) w59 (fun r62 w63 => ∃ b64 : Bool, r62 = .bool b64 ∧ (True) ∧ Kn b64 w63) Kp) Kp)) Kp)) else ((True) ∧ (True) ∧ (True) ∧ Kn false w34)) Kp)

def T_law08_play_3_outs : Exit → Option (List (Nat × Value)) := fun x => match x with | .normal => some [(39, .bool false)] | .panic _ => some [] | _ => none

def T_law08_play_3_ks : Nat → Bool := ksOf [20, 21, 22, 23, 24, 25, 26, 27, 28, 29, 30, 31, 32, 33, 34, 35, 36, 37, 38, 39]

def H_law08_play_3 : Env → World → QT → Prop := unitHook 44 T_law08_play_3_ks [(0, .slice none 0 0), (5, .pointer none), (6, .pointer none), (7, .int .i64 0)] T_law08_play_3_outs fun l w C => match l with | [v0, v1, v2, v3] => T_law08_play_3 (pA v0) (pL v0) (pC v0) (pPtr v1) (pPtr v2) (pInt v3) w (fun b66 w => C .normal [.bool b66] w) (fun ch w => C (.panic ch) [] w) | _ => False

theorem T_law08_play_3_hl : allP (hokL Tryz.prog (hookAt []) (at_ (bodyOf Tryz.f13) [1, 1, 0, 1, 0, 0, 1, 0, 0, 0]) 1864) = (True) := by kernel_rfl
theorem T_law08_play_3_hok : HOk Tryz.prog (hookAt []) (at_ (bodyOf Tryz.f13) [1, 1, 0, 1, 0, 0, 1, 0, 0, 0]) 1864 := HOk_of _ _ (by rw [T_law08_play_3_hl]; exact trivial)

theorem T_law08_play_3_eq (C : Conts) (l19a : Option Addr) (l19l : Nat) (l19c : Nat) (s20 : Option Addr) (r21 : Option Addr) (i22 : Int) (w : World) : vcCode Tryz.prog (hookAt []) (at_ (bodyOf Tryz.f13) [1, 1, 0, 1, 0, 0, 1, 0, 0, 0]) 1864 ⟨[(0, .slice l19a l19l l19c), (5, .pointer s20), (6, .pointer r21), (7, .int .i64 i22)], 44, []⟩ w (unitQ T_law08_play_3_outs C) = T_law08_play_3 l19a l19l l19c s20 r21 i22 w (fun b67 w => C .normal [.bool b67] w) (fun ch w => C (.panic ch) [] w) := by kernel_rfl

theorem T_law08_play_3_ok : UnitOk Tryz.prog H_law08_play_3 (at_ (bodyOf Tryz.f13) [1, 1, 0, 1, 0, 0, 1, 0, 0, 0]) 1864 := unit_ok (H := (hookAt [])) (by kernel_rfl) T_law08_play_3_hok fun l w C hk => by
    obtain ⟨v0, l_v0, rfl, k_v0, hk_v0⟩ := Kinds.cons_ hk
    obtain ⟨l19a, l19l, l19c, rfl⟩ := kind_slice k_v0
    obtain ⟨v1, l_v1, rfl, k_v1, hk_v1⟩ := Kinds.cons_ hk_v0
    obtain ⟨s20, rfl⟩ := kind_pointer k_v1
    obtain ⟨v2, l_v2, rfl, k_v2, hk_v2⟩ := Kinds.cons_ hk_v1
    obtain ⟨r21, rfl⟩ := kind_pointer k_v2
    obtain ⟨v3, l_v3, rfl, k_v3, hk_v3⟩ := Kinds.cons_ hk_v2
    obtain ⟨i22, rfl⟩ := kind_int k_v3
    obtain rfl := Kinds.nil_ hk_v3
    exact T_law08_play_3_eq C l19a l19l l19c s20 r21 i22 w

def T_law08_play_1_body (X : Int → World → Prop) (i8 : Int) (l9a : Option Addr) (l9l : Nat) (l9c : Nat) (s10 : Option Addr) (r11 : Option Addr) (w : World) (Kn : World → Prop) (Kr : Option Addr → Option Addr → Bool → World → Prop) (Kp : List PanicEntry → World → Prop)  : Prop :=
  T_law08_play_2 l9a l9l l9c i8 w (fun b17 w18 => if b17 = true then (T_law08_play_3 l9a l9l l9c s10 r11 i8 w18 (fun b68 w69 => if b68 = true then (Kr s10 r11 false w69) else (X (IntKind.wrap .i64 ((i8 : Int) + 1)) w69)) Kp) else (Kn  w18)) Kp

def T_law08_play_1 (i8 : Int) (l9a : Option Addr) (l9l : Nat) (l9c : Nat) (s10 : Option Addr) (r11 : Option Addr) (w : World) (Kn : World → Prop) (Kr : Option Addr → Option Addr → Bool → World → Prop) (Kp : List PanicEntry → World → Prop) : Prop :=
  ∀ X : Int → World → Prop, (∀ (i8 : Int) (w : World), T_law08_play_1_body X i8 l9a l9l l9c s10 r11 w Kn Kr Kp → X i8 w) → X i8 w

def T_law08_play_1_outs : Exit → Option (List (Nat × Value)) := fun x => match x with | .normal => some [] | .ret => some [(2, .pointer none), (3, .pointer none), (4, .bool false)] | .panic _ => some [] | _ => none

def T_law08_play_1_ks : Nat → Bool := ksOf [2, 3, 4, 7, 10, 11, 12, 13, 14, 15, 16, 17, 18, 19, 20, 21, 22, 23, 24, 25, 26, 27, 28, 29, 30, 31, 32, 33, 34, 35, 36, 37, 38, 39, 40, 41]

def H_law08_play_1 : Env → World → QT → Prop := unitHook 44 T_law08_play_1_ks [(7, .int .i64 0), (0, .slice none 0 0), (5, .pointer none), (6, .pointer none)] T_law08_play_1_outs fun l w C => match l with | [v0, v1, v2, v3] => T_law08_play_1 (pInt v0) (pA v1) (pL v1) (pC v1) (pPtr v2) (pPtr v3) w (fun w => C .normal [] w) (fun p73 p74 b75 w => C .ret [.pointer p73, .pointer p74, .bool b75] w) (fun ch w => C (.panic ch) [] w) | _ => False

theorem T_law08_play_1_hl : allP (hokL Tryz.prog (hookAt [(464, H_law08_play_2), (1864, H_law08_play_3)]) (at_ (bodyOf Tryz.f13) [1, 1, 0, 1, 0, 0]) 116) = (UnitOk Tryz.prog H_law08_play_2 (at_ (bodyOf Tryz.f13) [1, 1, 0, 1, 0, 0, 0, 0]) 464 ∧ UnitOk Tryz.prog H_law08_play_3 (at_ (bodyOf Tryz.f13) [1, 1, 0, 1, 0, 0, 1, 0, 0, 0]) 1864 ∧ True) := by kernel_rfl
theorem T_law08_play_1_hok : HOk Tryz.prog (hookAt [(464, H_law08_play_2), (1864, H_law08_play_3)]) (at_ (bodyOf Tryz.f13) [1, 1, 0, 1, 0, 0]) 116 := HOk_of _ _ (by rw [T_law08_play_1_hl]; exact ⟨T_law08_play_2_ok, T_law08_play_3_ok, trivial⟩)

theorem T_law08_play_1_eq (C : Conts) (X : List Value → World → Prop) (i8 : Int) (l9a : Option Addr) (l9l : Nat) (l9c : Nat) (s10 : Option Addr) (r11 : Option Addr) (w : World) : vcCode Tryz.prog (hookAt [(464, H_law08_play_2), (1864, H_law08_play_3)]) (at_ (bodyOf Tryz.f13) [1, 1, 0, 1, 0, 0]) 116 ⟨[(7, .int .i64 i8)] ++ [(0, .slice l9a l9l l9c), (5, .pointer s10), (6, .pointer r11)], 44, []⟩ w (seqQ (fun e w => takeAll e [(7, .int .i64 0)] fun l => X l w) (blockQ 0 (unitQ T_law08_play_1_outs C))) = T_law08_play_1_body (fun i8 w => X [.int .i64 i8] w) i8 l9a l9l l9c s10 r11 w (fun w => C .normal [] w) (fun p76 p77 b78 w => C .ret [.pointer p76, .pointer p77, .bool b78] w) (fun ch w => C (.panic ch) [] w) := by kernel_rfl

theorem T_law08_play_1_ok : UnitOk Tryz.prog H_law08_play_1 (at_ (bodyOf Tryz.f13) [1, 1, 0, 1]) 29 := by
  have hc : at_ (bodyOf Tryz.f13) [1, 1, 0, 1] = .block 0 (.loop (at_ (bodyOf Tryz.f13) [1, 1, 0, 1, 0, 0])) := by kernel_rfl
  rw [hc]
  refine loop_unit_ok (carr := [(7, .int .i64 0)]) (fix := [(0, .slice none 0 0), (5, .pointer none), (6, .pointer none)]) (ks := T_law08_play_1_ks) (H := (hookAt [(464, H_law08_play_2), (1864, H_law08_play_3)])) (B := fun C X l u w => match l, u with | [v0], [v1, v2, v3] => T_law08_play_1_body (fun i8 w => X [.int .i64 i8] w) (pInt v0) (pA v1) (pL v1) (pC v1) (pPtr v2) (pPtr v3) w (fun w => C .normal [] w) (fun p79 p80 b81 w => C .ret [.pointer p79, .pointer p80, .bool b81] w) (fun ch w => C (.panic ch) [] w) | _, _ => False) (by kernel_rfl) (by kernel_rfl) T_law08_play_1_hok ?_ ?_
  · intro C X l u w hl hu
    obtain ⟨v0, l_v0, rfl, k_v0, hl_v0⟩ := Kinds.cons_ hl
    obtain ⟨i8, rfl⟩ := kind_int k_v0
    obtain rfl := Kinds.nil_ hl_v0
    obtain ⟨v1, l_v1, rfl, k_v1, hu_v1⟩ := Kinds.cons_ hu
    obtain ⟨l9a, l9l, l9c, rfl⟩ := kind_slice k_v1
    obtain ⟨v2, l_v2, rfl, k_v2, hu_v2⟩ := Kinds.cons_ hu_v1
    obtain ⟨s10, rfl⟩ := kind_pointer k_v2
    obtain ⟨v3, l_v3, rfl, k_v3, hu_v3⟩ := Kinds.cons_ hu_v2
    obtain ⟨r11, rfl⟩ := kind_pointer k_v3
    obtain rfl := Kinds.nil_ hu_v3
    exact T_law08_play_1_eq C X i8 l9a l9l l9c s10 r11 w
  · intro l u w C hl hu
    obtain ⟨v0, l_v0, rfl, k_v0, hl_v0⟩ := Kinds.cons_ hl
    obtain ⟨i8, rfl⟩ := kind_int k_v0
    obtain rfl := Kinds.nil_ hl_v0
    obtain ⟨v1, l_v1, rfl, k_v1, hu_v1⟩ := Kinds.cons_ hu
    obtain ⟨l9a, l9l, l9c, rfl⟩ := kind_slice k_v1
    obtain ⟨v2, l_v2, rfl, k_v2, hu_v2⟩ := Kinds.cons_ hu_v1
    obtain ⟨s10, rfl⟩ := kind_pointer k_v2
    obtain ⟨v3, l_v3, rfl, k_v3, hu_v3⟩ := Kinds.cons_ hu_v2
    obtain ⟨r11, rfl⟩ := kind_pointer k_v3
    obtain rfl := Kinds.nil_ hu_v3
    constructor
    · intro h X hX
      exact h (fun i8 w => X [.int .i64 i8] w) (fun i8 w hb => hX [.int .i64 i8] w ⟨rfl, trivial⟩ hb)
    · intro h X hX
      exact h (fun l w => match l with | [v0] => X (pInt v0) w | _ => True) (fun l w hl hb => by
        obtain ⟨v0, l_v0, rfl, k_v0, hl_v0⟩ := Kinds.cons_ hl
        obtain ⟨i8, rfl⟩ := kind_int k_v0
        obtain rfl := Kinds.nil_ hl_v0
        exact hX i8 w hb)

def T_law08_play (l1a : Option Addr) (l1l : Nat) (l1c : Nat) (w : World) (R : Ending → World → Prop) : Prop :=
  Calls Tryz.prog 35 #[] w (ret (fun r2 w3 => ∃ p4 : Option Addr, r2 = .pointer p4 ∧ Calls Tryz.prog 36 #[] w3 (ret (fun r5 w6 => ∃ p7 : Option Addr, r5 = .pointer p7 ∧ T_law08_play_1 0 l1a l1l l1c p4 p7 w6 (fun w82 => R (.returned (.tuple #[.pointer p4, .pointer p7, .bool true])) w82) (fun p83 p84 b85 w86 => R (.returned (.tuple #[.pointer p83, .pointer p84, .bool b85])) w86) (pan R)) (pan R))) (pan R))

theorem T_law08_play_hl : allP (hokL Tryz.prog (hookAt [(29, H_law08_play_1)]) (bodyOf Tryz.f13) 1) = (UnitOk Tryz.prog H_law08_play_1 (at_ (bodyOf Tryz.f13) [1, 1, 0, 1]) 29 ∧ True) := by kernel_rfl

theorem T_law08_play_eq (l1a : Option Addr) (l1l : Nat) (l1c : Nat) (w : World) (R : Ending → World → Prop) : vcCode Tryz.prog (hookAt [(29, H_law08_play_1)]) (bodyOf Tryz.f13) 1 ⟨argEnv [.slice l1a l1l l1c] 0, Tryz.f13.ntmps, []⟩ w (finQ Tryz.prog Tryz.f13.results.toList R) = T_law08_play l1a l1l l1c w R := by kernel_rfl

theorem T_law08_play_b : Tryz.f13.body = some (bodyOf Tryz.f13) := by kernel_rfl
theorem T_law08_play_s : (quietSel (bodyOf Tryz.f13) && Nat.ble 1 Tryz.f13.ntmps) = true := by kernel_rfl

theorem C_law08_play {l1a : Option Addr} {l1l : Nat} {l1c : Nat} {w : World} {R : Ending → World → Prop} (h : T_law08_play l1a l1l l1c w R) : Calls Tryz.prog 13 #[.slice l1a l1l l1c] w R :=
  calls_of_text (args := [.slice l1a l1l l1c]) mixed Tryz.func13 T_law08_play_b T_law08_play_s (HOk_of _ _ (by rw [T_law08_play_hl]; exact ⟨T_law08_play_1_ok, trivial⟩)) (by rw [T_law08_play_eq]; exact h)

end Go.Proofs.YtcpmfjclkdjfmaaGreat

/-
  Commands on both stores: whatever they are, both come to the same.
-/
namespace Go.Vc
open Go Go.Proofs Go.Proofs.YtcpmfjclkdjfmaaGreat
set_option maxRecDepth 100000
section
variable {E w : World} {L : List Asrt} {R : Ending → World → Prop} {F G : Fz} {s : Cm.Sm} {c : Cm.Cmd} {q : Sl} {p r : Nat}
def shortC (c : Cm.Cmd) (q : Sl) : Bool := decide (q.2.1 ≤ 100) && (decide (c.host.length ≤ 1000) && (decide (c.pfx.length ≤ 1000) && decide (c.pool.length ≤ 1000)))
theorem short_spec (h : St E L w) (k : ∀ w', St E L w' → R (.returned (.bool (shortC c q))) w') : Calls Tryz.prog 16 #[cmdV c q] w R := by
  refine C_law08_short ?_
  unfold T_law08_short
  intro w9
  have h9 : St E (blkL w.heap.size 42 (cmdL c q) :: L) w9 := h.alloc _
  have e : ∀ s : Cm.Bs, decide (((bs s).size : Int) ≤ 1000) = decide (s.length ≤ 1000) := fun s => by rw [bs_size, Bool.eq_iff_iff]; simp; omega
  have e0 : decide ((q.2.1 : Int) ≤ 100) = decide (q.2.1 ≤ 100) := by rw [Bool.eq_iff_iff]; simp; omega
  refine ⟨_, _, _, rd_fld h9.at_blk rfl rfl, ?_⟩
  rw [e0]
  refine ite_b (fun h1 => ⟨_, rd_fld h9.at_blk rfl rfl, ?_⟩) fun h1 => congB (k _ h9.drop) (by unfold shortC; rw [h1, Bool.false_and])
  rw [e]
  refine ite_b (fun h2 => ⟨_, rd_fld h9.at_blk rfl rfl, ?_⟩) fun h2 => congB (k _ h9.drop) (by unfold shortC; rw [h1, h2, Bool.true_and, Bool.false_and])
  rw [e]
  refine ite_b (fun h3 => ⟨_, rd_fld h9.at_blk rfl rfl, ?_⟩) fun h3 => congB (k _ h9.drop) (by unfold shortC; rw [h1, h2, h3, Bool.true_and, Bool.true_and, Bool.false_and])
  rw [e]
  exact congB (k _ h9.drop) (by unfold shortC; rw [h1, h2, h3, Bool.true_and, Bool.true_and, Bool.true_and])
theorem cmd_at {ds : List (Cm.Cmd × Sl)} {a : Option Addr} {l : Nat} (h : RdS w a l 8 (ds.flatMap fun d => cmdL d.1 d.2)) {j : Nat} (hj : j < ds.length) : ∃ ad, a = some ad ∧ rd w (ad.add (j * 8)) (cmdV ds[j].1 ds[j].2) := by
  obtain ⟨ad, ha, h1, _⟩ := h.elem (f := fun d : Cm.Cmd × Sl => cmdL d.1 d.2) cmdL_len (List.getElem?_eq_getElem hj) (by decide)
  exact ⟨ad, ha, h1⟩
theorem CmdsR.mono {a : Option Addr} {l : Nat} {ds : List (Cm.Cmd × Sl)} (h : CmdsR F a l ds) (k : Fz.le F G) : CmdsR G a l ds := ⟨RdF.mono h.1 k, fun d hd => ⟨(h.2 d hd).1, RdF.mono (h.2 d hd).2 k⟩⟩
set_option maxHeartbeats 2000000 in
/-- play: both stores, at the same state. -/
theorem play_spec {a : Option Addr} {l cc : Nat} {ds : List (Cm.Cmd × Sl)} (hd : CmdsR F a l ds) (h : St E (kn F :: L) w)
    (k : ∀ (G : Fz) (p r : Nat) (s : Cm.Sm) (w' : World), Fz.le F G → Cm.Inv s → St E (stA G p s :: refA G r s :: kn G :: L) w' → R (.returned (.tuple #[.pointer (some ⟨p, 0, none⟩), .pointer (some ⟨r, 0, none⟩), .bool true])) w') :
    Calls Tryz.prog 13 #[.slice a l cc] w R := by
  refine C_law08_play ?_
  unfold T_law08_play
  refine New_spec F h fun p w3 h3 => ⟨_, rfl, RNew_spec F h3 fun r w6 h6 => ⟨_, rfl, ?_⟩⟩
  have n1 := hd.1.count cmdL_len (by decide) h6 at2
  unfold T_law08_play_1
  intro X hX
  refine up_to (min l 150) (Q := fun j => ∀ (w : World) (G : Fz) (s : Cm.Sm), Fz.le F G → Cm.Inv s → St E (stA G p s :: refA G r s :: kn G :: L) w → X (j : Int) w) ?_ w6 F Cm.new (Fz.le_refl F) Cm.Inv.new (h6.f1)
  intro j hj ih w G s hG I h
  refine hX _ _ ?_
  unfold T_law08_play_1_body T_law08_play_2
  refine ite_d (fun h1 => ?_) fun h1 => ite_b (fun hh => by cases hh) fun _ => k G p r s _ hG I h
  refine ite_b (fun h2 => ?_) fun h2 => k G p r s _ hG I h
  have h2 : (j : Int) < 150 := of_decide_eq_true h2
  have hjl : j < ds.length := by omega
  obtain ⟨hok, hrd⟩ := hd.2 _ (List.getElem_mem hjl)
  unfold T_law08_play_3
  intro w23
  have h23 : St E _ w23 := h.drew
  clear_value w23
  obtain ⟨ad, ha, hc⟩ := cmd_at ((RdF.mono hd.1 hG).at h23 at2) hjl
  rw [Int.toNat_natCast, succ_big (by unfold big; omega)]
  refine ⟨by omega, by omega, ad, ha, _, _, _, _, _, _, _, _, _, _, hc, short_spec h23 fun w34 h34 => ⟨_, rfl, trivial, ite_b (fun hs => ?_) fun hs => ⟨trivial, trivial, trivial, ite_b (fun hh => by cases hh) fun _ => ih (by omega) _ G s hG I h34⟩⟩⟩
  obtain ⟨ad2, ha2, hc2⟩ := cmd_at ((RdF.mono hd.1 hG).at h34 at2) hjl
  rw [ha] at ha2
  injection ha2 with ha2
  subst ha2
  refine ⟨by omega, by omega, ad, ha, _, _, _, _, _, _, _, _, _, _, hc2, by omega, by omega, ad, ha, _, _, _, _, _, _, _, _, _, _, hc2, ?_⟩
  refine Do_spec (c := ds[j].1) (q := ds[j].2) (L := refA G r s :: L) I (RdF.mono hrd hG) hok (h34.sel 3 [0, 2, 1]) fun G1 w55 hG1 h55 => ⟨_, _, rfl, ⟨?_, trivial⟩, ?_⟩
  · obtain ⟨ad3, ha3, hc3⟩ := cmd_at ((RdF.mono hd.1 (Fz.le_trans hG hG1)).at h55 at1) hjl
    rw [ha] at ha3
    injection ha3 with ha3
    subst ha3
    exact hc3
  · refine RDo_spec (c := ds[j].1) (q := ds[j].2) (L := stA G1 p (Cm.doC s ds[j].1).1 :: L) I (RdF.mono hrd (Fz.le_trans hG hG1)) hok (St.rf_mono (h55.sel 3 [2, 1, 0]) hG1) fun G2 w59 hG2 h59 => ⟨_, _, rfl, trivial, ?_⟩
    refine runV_ok (res_ne _ _ _ _ _ _) ?_
    refine ⟨_, rfl, trivial, ?_⟩
    refine ite_b (fun hh => ?_) fun _ => ?_
    · simp at hh
    refine ih (by omega) _ G2 (Cm.doC s ds[j].1).1 (Fz.le_trans hG (Fz.le_trans hG1 hG2)) (Cm.doC_keeps I ds[j].1) ?_
    exact St.st_mono (h59.sel 3 [2, 0, 1]) hG2
end
end Go.Vc

/-
  Config, and what it tells stays as it is.
-/
namespace Go.Vc
open Go Go.Proofs Go.Proofs.YtcpmfjclkdjfmaaGreat Go.RowKit
set_option maxRecDepth 100000
section
variable {E w : World} {L : List Asrt} {R : Ending → World → Prop} {F G : Fz} {s : Cm.Sm} {p : Nat}
/-- Config, and what it tells stays as it is. -/
theorem Config_kn (S : Sz s) (h : St E (stA F p s :: kn F :: L) w) (k : ∀ (G : Fz) (w' : World) (ra pa : Sl), Fz.le F G → cfgR G ra pa s.routes s.pools → St E (stA G p s :: kn G :: L) w' → R (.returned (cfgV s.ver ra pa)) w') :
    Calls Tryz.prog 14 #[.pointer (some ⟨p, 0, none⟩)] w R := by
  refine Config_spec (L := kn F :: L) at0 S h fun w' ra pa xs hxs h' => ?_
  obtain ⟨G, hG, h2, hc⟩ := St.cfg_freeze hxs (h'.sel 5 [0, 1, 2, 4, 3])
  have h3 : St E (kn G :: stA F p s :: L) w' := h2
  exact k G w' ra pa hG hc (h3.f1.st_mono hG)
end
end Go.Vc

/-
  What the functions' code comes to; printed by a program of this claim's own.
-/
namespace Go.Proofs.YtcpmfjclkdjfmaaGreat
open Go Go.Vc
set_option maxRecDepth 100000
set_option linter.unusedVariables false

/-! tollgate/tollgatelaw08.ConfDoes -/
end Go.Proofs.YtcpmfjclkdjfmaaGreat
