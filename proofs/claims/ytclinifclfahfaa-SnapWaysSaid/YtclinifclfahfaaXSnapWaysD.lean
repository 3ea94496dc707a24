/-
  Texts of this claim's own, laid into one: Ge, SnapNm, SnapPc, SnapOf, SnapFi, SnapFs, SnapSv, SnapLd, SnapLv, SnapIn, SnapRa, SnapGt, GTurned, SnapRf, GWays, SnapRh.
-/
import Derived.Test.YtclinifclfahfaaProg
import Derived.KernelRfl
import Derived.Laws.IdiomStrings
import Derived.Shelf.SlSortCmp.NoneTotal
import Derived.SizedLaws
import Derived.Test.YtclinifclfahfaaXSnapWaysA
import Derived.Test.YtclinifclfahfaaXSnapWaysB
import Derived.Test.YtclinifclfahfaaXSnapWaysC
set_option linter.all false
/-
  What the functions' code comes to; printed by a program of this claim's own.
-/
namespace Go.Proofs.Ytclinifclfahfaa
open Go Go.Vc
set_option maxRecDepth 100000
set_option linter.unusedVariables false

/-! tollgate/snap.name -/
def T_snap_name_1_body (X : Int → ByteArray → World → Prop) (n2 : Int) (s3 : ByteArray) (w : World) (Kn : ByteArray → World → Prop) (Kp : List PanicEntry → World → Prop)  : Prop :=
  if (decide ((n2 : Int) > 0)) = true then (runV Try.prog (convert 21 9 (.int .i32 (IntKind.wrap .i32 (IntKind.wrap .i64 ((48 : Int) + (Int.tmod n2 10)))))) w (fun r4 w5 => ∃ s6 : ByteArray, r4 = .string s6 ∧ runV Try.prog (do eqGuard .add 9 (.tmp 12) (.tmp 13) (.string s6) (.string s3); binOp .add 9 (.string s6) (.string s3)) w5 (fun r7 w8 => ∃ s9 : ByteArray, r7 = .string s9 ∧ X (IntKind.wrap .i64 (Int.tdiv n2 10)) s9 w8) Kp) Kp) else (Kn s3 w)

def T_snap_name_1 (n2 : Int) (s3 : ByteArray) (w : World) (Kn : ByteArray → World → Prop) (Kp : List PanicEntry → World → Prop) : Prop :=
  ∀ X : Int → ByteArray → World → Prop, (∀ (n2 : Int) (s3 : ByteArray) (w : World), T_snap_name_1_body X n2 s3 w Kn Kp → X n2 s3 w) → X n2 s3 w

def T_snap_name_1_outs : Exit → Option (List (Nat × Value)) := fun x => match x with | .normal => some [(3, .string default)] | .panic _ => some [] | _ => none

def T_snap_name_1_ks : Nat → Bool := ksOf [0, 3, 4, 5, 6, 7, 8, 9, 10, 11, 12, 13, 14]

def H_snap_name_1 : Env → World → QT → Prop := unitHook 17 T_snap_name_1_ks [(0, .int .i64 0), (3, .string default)] T_snap_name_1_outs fun l w C => match l with | [v0, v1] => T_snap_name_1 (pInt v0) (pStr v1) w (fun s11 w => C .normal [.string s11] w) (fun ch w => C (.panic ch) [] w) | _ => False

theorem T_snap_name_1_hl : allP (hokL Try.prog (hookAt []) (at_ (bodyOf Try.f39) [1, 1, 0, 0, 0]) 56) = (True) := by kernel_rfl
theorem T_snap_name_1_hok : HOk Try.prog (hookAt []) (at_ (bodyOf Try.f39) [1, 1, 0, 0, 0]) 56 := HOk_of _ _ (by rw [T_snap_name_1_hl]; exact trivial)

theorem T_snap_name_1_eq (C : Conts) (X : List Value → World → Prop) (n2 : Int) (s3 : ByteArray) (w : World) : vcCode Try.prog (hookAt []) (at_ (bodyOf Try.f39) [1, 1, 0, 0, 0]) 56 ⟨[(0, .int .i64 n2), (3, .string s3)] ++ [], 17, []⟩ w (seqQ (fun e w => takeAll e [(0, .int .i64 0), (3, .string default)] fun l => X l w) (blockQ 0 (unitQ T_snap_name_1_outs C))) = T_snap_name_1_body (fun n2 s3 w => X [.int .i64 n2, .string s3] w) n2 s3 w (fun s12 w => C .normal [.string s12] w) (fun ch w => C (.panic ch) [] w) := by kernel_rfl

theorem T_snap_name_1_ok : UnitOk Try.prog H_snap_name_1 (at_ (bodyOf Try.f39) [1, 1, 0]) 14 := by
  have hc : at_ (bodyOf Try.f39) [1, 1, 0] = .block 0 (.loop (at_ (bodyOf Try.f39) [1, 1, 0, 0, 0])) := by kernel_rfl
  rw [hc]
  refine loop_unit_ok (carr := [(0, .int .i64 0), (3, .string default)]) (fix := []) (ks := T_snap_name_1_ks) (H := (hookAt [])) (B := fun C X l u w => match l, u with | [v0, v1], [] => T_snap_name_1_body (fun n2 s3 w => X [.int .i64 n2, .string s3] w) (pInt v0) (pStr v1) w (fun s13 w => C .normal [.string s13] w) (fun ch w => C (.panic ch) [] w) | _, _ => False) (by kernel_rfl) (by kernel_rfl) T_snap_name_1_hok ?_ ?_
  · intro C X l u w hl hu
    obtain ⟨v0, l_v0, rfl, k_v0, hl_v0⟩ := Kinds.cons_ hl
    obtain ⟨n2, rfl⟩ := kind_int k_v0
    obtain ⟨v1, l_v1, rfl, k_v1, hl_v1⟩ := Kinds.cons_ hl_v0
    obtain ⟨s3, rfl⟩ := kind_string k_v1
    obtain rfl := Kinds.nil_ hl_v1
    obtain rfl := Kinds.nil_ hu
    exact T_snap_name_1_eq C X n2 s3 w
  · intro l u w C hl hu
    obtain ⟨v0, l_v0, rfl, k_v0, hl_v0⟩ := Kinds.cons_ hl
    obtain ⟨n2, rfl⟩ := kind_int k_v0
    obtain ⟨v1, l_v1, rfl, k_v1, hl_v1⟩ := Kinds.cons_ hl_v0
    obtain ⟨s3, rfl⟩ := kind_string k_v1
    obtain rfl := Kinds.nil_ hl_v1
    obtain rfl := Kinds.nil_ hu
    constructor
    · intro h X hX
      exact h (fun n2 s3 w => X [.int .i64 n2, .string s3] w) (fun n2 s3 w hb => hX [.int .i64 n2, .string s3] w ⟨rfl, rfl, trivial⟩ hb)
    · intro h X hX
      exact h (fun l w => match l with | [v0, v1] => X (pInt v0) (pStr v1) w | _ => True) (fun l w hl hb => by
        obtain ⟨v0, l_v0, rfl, k_v0, hl_v0⟩ := Kinds.cons_ hl
        obtain ⟨n2, rfl⟩ := kind_int k_v0
        obtain ⟨v1, l_v1, rfl, k_v1, hl_v1⟩ := Kinds.cons_ hl_v0
        obtain ⟨s3, rfl⟩ := kind_string k_v1
        obtain rfl := Kinds.nil_ hl_v1
        exact hX n2 s3 w hb)

def T_snap_name (n1 : Int) (w : World) (R : Ending → World → Prop) : Prop :=
  T_snap_name_1 n1 (ByteArray.mk #[]) w (fun s14 w15 => runV Try.prog (do eqGuard .add 9 (.const (.string (ByteArray.mk #[115, 110, 97, 112, 45]))) (.tmp 15) (.string (ByteArray.mk #[115, 110, 97, 112, 45])) (.string s14); binOp .add 9 (.string (ByteArray.mk #[115, 110, 97, 112, 45])) (.string s14)) w15 (fun r16 w17 => ∃ s18 : ByteArray, r16 = .string s18 ∧ R (.returned (.string s18)) w17) (pan R)) (pan R)

theorem T_snap_name_hl : allP (hokL Try.prog (hookAt [(14, H_snap_name_1)]) (bodyOf Try.f39) 1) = (UnitOk Try.prog H_snap_name_1 (at_ (bodyOf Try.f39) [1, 1, 0]) 14 ∧ True) := by kernel_rfl

theorem T_snap_name_eq (n1 : Int) (w : World) (R : Ending → World → Prop) : vcCode Try.prog (hookAt [(14, H_snap_name_1)]) (bodyOf Try.f39) 1 ⟨argEnv [.int .i64 n1] 0, Try.f39.ntmps, []⟩ w (finQ Try.prog Try.f39.results.toList R) = T_snap_name n1 w R := by kernel_rfl

theorem T_snap_name_b : Try.f39.body = some (bodyOf Try.f39) := by kernel_rfl
theorem T_snap_name_s : (quietSel (bodyOf Try.f39) && Nat.ble 1 Try.f39.ntmps) = true := by kernel_rfl

theorem C_snap_name {n1 : Int} {w : World} {R : Ending → World → Prop} (h : T_snap_name n1 w R) : Calls Try.prog 39 #[.int .i64 n1] w R :=
  calls_of_text (args := [.int .i64 n1]) mixed Try.func39 T_snap_name_b T_snap_name_s (HOk_of _ _ (by rw [T_snap_name_hl]; exact ⟨T_snap_name_1_ok, trivial⟩)) (by rw [T_snap_name_eq]; exact h)

/-! tollgate/snap.files$1 -/
def T_snap_files_c1 (s1 : ByteArray) (x2 : Int) (s3 : ByteArray) (x4 : Int) (w : World) (R : Ending → World → Prop) : Prop :=
  let w5 : World := w.alloc (.cells #[.string s1, .int .i64 x2] 86)
  let w6 : World := w5.alloc (.cells #[.string s3, .int .i64 x4] 86)
  ∃ x7 : Int, rd w6 ((⟨w5.heap.size, 0, none⟩ : Addr).add 1) (.int .i64 x7) ∧ ∃ x8 : Int, rd w6 ((⟨w.heap.size, 0, none⟩ : Addr).add 1) (.int .i64 x8) ∧ R (.returned (.int .i64 (IntKind.wrap .i64 ((x7 : Int) - x8)))) w6

theorem T_snap_files_c1_hl : allP (hokL Try.prog (hookAt []) (bodyOf Try.f65) 1) = (True) := by kernel_rfl

theorem T_snap_files_c1_eq (s1 : ByteArray) (x2 : Int) (s3 : ByteArray) (x4 : Int) (w : World) (R : Ending → World → Prop) : vcCode Try.prog (hookAt []) (bodyOf Try.f65) 1 ⟨argEnv [.agg #[.string s1, .int .i64 x2], .agg #[.string s3, .int .i64 x4]] 0, Try.f65.ntmps, []⟩ w (finQ Try.prog Try.f65.results.toList R) = T_snap_files_c1 s1 x2 s3 x4 w R := by kernel_rfl

theorem T_snap_files_c1_b : Try.f65.body = some (bodyOf Try.f65) := by kernel_rfl
theorem T_snap_files_c1_s : (quietSel (bodyOf Try.f65) && Nat.ble 2 Try.f65.ntmps) = true := by kernel_rfl

theorem C_snap_files_c1 {s1 : ByteArray} {x2 : Int} {s3 : ByteArray} {x4 : Int} {w : World} {R : Ending → World → Prop} (h : T_snap_files_c1 s1 x2 s3 x4 w R) : Calls Try.prog 65 #[.agg #[.string s1, .int .i64 x2], .agg #[.string s3, .int .i64 x4]] w R :=
  calls_of_text (args := [.agg #[.string s1, .int .i64 x2], .agg #[.string s3, .int .i64 x4]]) mixed Try.func65 T_snap_files_c1_b T_snap_files_c1_s (HOk_of _ _ (by rw [T_snap_files_c1_hl]; exact trivial)) (by rw [T_snap_files_c1_eq]; exact h)

/-! tollgate/snap.files -/
def T_snap_files_3 (s13 : ByteArray) (w : World) (Kn : Bool → World → Prop) (Kp : List PanicEntry → World → Prop) : Prop :=
  if (decide (((s13.size : Nat) : Int) < 6)) = true then (Kn true w) else (if (decide (((s13.size : Nat) : Int) > 18)) = true then (Kn true w) else (0 ≤ (5 : Int) ∧ (5 : Int) ≤ ((s13.size : Nat) : Int) ∧ Kn (!((s13.extract 0 ((5 : Int).toNat)).toList == (ByteArray.mk #[115, 110, 97, 112, 45]).toList)) w))

def T_snap_files_3_outs : Exit → Option (List (Nat × Value)) := fun x => match x with | .normal => some [(29, .bool false)] | .panic _ => some [] | _ => none

def T_snap_files_3_ks : Nat → Bool := ksOf [17, 18, 19, 20, 21, 22, 23, 24, 25, 26, 27, 28, 29]

def H_snap_files_3 : Env → World → QT → Prop := unitHook 72 T_snap_files_3_ks [(5, .string default)] T_snap_files_3_outs fun l w C => match l with | [v0] => T_snap_files_3 (pStr v0) w (fun b15 w => C .normal [.bool b15] w) (fun ch w => C (.panic ch) [] w) | _ => False

theorem T_snap_files_3_hl : allP (hokL Try.prog (hookAt []) (at_ (turnB 0 900001 900002 (bodyOf Try.f40)) [1, 1, 0, 0, 0, 0, 0, 1, 0, 0, 1, 1, 0, 0, 1, 0, 0]) 229988) = (True) := by kernel_rfl
theorem T_snap_files_3_hok : HOk Try.prog (hookAt []) (at_ (turnB 0 900001 900002 (bodyOf Try.f40)) [1, 1, 0, 0, 0, 0, 0, 1, 0, 0, 1, 1, 0, 0, 1, 0, 0]) 229988 := HOk_of _ _ (by rw [T_snap_files_3_hl]; exact trivial)

theorem T_snap_files_3_eq (C : Conts) (s13 : ByteArray) (w : World) : vcCode Try.prog (hookAt []) (at_ (turnB 0 900001 900002 (bodyOf Try.f40)) [1, 1, 0, 0, 0, 0, 0, 1, 0, 0, 1, 1, 0, 0, 1, 0, 0]) 229988 ⟨[(5, .string s13)], 72, []⟩ w (unitQ T_snap_files_3_outs C) = T_snap_files_3 s13 w (fun b16 w => C .normal [.bool b16] w) (fun ch w => C (.panic ch) [] w) := by kernel_rfl

theorem T_snap_files_3_ok : UnitOk Try.prog H_snap_files_3 (at_ (turnB 0 900001 900002 (bodyOf Try.f40)) [1, 1, 0, 0, 0, 0, 0, 1, 0, 0, 1, 1, 0, 0, 1, 0, 0]) 229988 := unit_ok (H := (hookAt [])) (by kernel_rfl) T_snap_files_3_hok fun l w C hk => by
    obtain ⟨v0, l_v0, rfl, k_v0, hk_v0⟩ := Kinds.cons_ hk
    obtain ⟨s13, rfl⟩ := kind_string k_v0
    obtain rfl := Kinds.nil_ hk_v0
    exact T_snap_files_3_eq C s13 w

def T_snap_files_5 (c28 : Int) (w : World) (Kn : Bool → World → Prop) (Kp : List PanicEntry → World → Prop) : Prop :=
  if (decide ((c28 : Int) < 48)) = true then (Kn true w) else (Kn (decide ((c28 : Int) > 57)) w)

def T_snap_files_5_outs : Exit → Option (List (Nat × Value)) := fun x => match x with | .normal => some [(43, .bool false)] | .panic _ => some [] | _ => none

def T_snap_files_5_ks : Nat → Bool := ksOf [38, 39, 40, 41, 42, 43]

def H_snap_files_5 : Env → World → QT → Prop := unitHook 72 T_snap_files_5_ks [(8, .int .u8 0)] T_snap_files_5_outs fun l w C => match l with | [v0] => T_snap_files_5 (pInt v0) w (fun b30 w => C .normal [.bool b30] w) (fun ch w => C (.panic ch) [] w) | _ => False

theorem T_snap_files_5_hl : allP (hokL Try.prog (hookAt []) (at_ (turnB 0 900001 900002 (bodyOf Try.f40)) [1, 1, 0, 0, 0, 0, 0, 1, 0, 0, 1, 1, 0, 0, 1, 1, 1, 0, 1, 0, 0, 1, 1, 0, 0, 1, 0, 0]) 471022180) = (True) := by kernel_rfl
theorem T_snap_files_5_hok : HOk Try.prog (hookAt []) (at_ (turnB 0 900001 900002 (bodyOf Try.f40)) [1, 1, 0, 0, 0, 0, 0, 1, 0, 0, 1, 1, 0, 0, 1, 1, 1, 0, 1, 0, 0, 1, 1, 0, 0, 1, 0, 0]) 471022180 := HOk_of _ _ (by rw [T_snap_files_5_hl]; exact trivial)

theorem T_snap_files_5_eq (C : Conts) (c28 : Int) (w : World) : vcCode Try.prog (hookAt []) (at_ (turnB 0 900001 900002 (bodyOf Try.f40)) [1, 1, 0, 0, 0, 0, 0, 1, 0, 0, 1, 1, 0, 0, 1, 1, 1, 0, 1, 0, 0, 1, 1, 0, 0, 1, 0, 0]) 471022180 ⟨[(8, .int .u8 c28)], 72, []⟩ w (unitQ T_snap_files_5_outs C) = T_snap_files_5 c28 w (fun b31 w => C .normal [.bool b31] w) (fun ch w => C (.panic ch) [] w) := by kernel_rfl

theorem T_snap_files_5_ok : UnitOk Try.prog H_snap_files_5 (at_ (turnB 0 900001 900002 (bodyOf Try.f40)) [1, 1, 0, 0, 0, 0, 0, 1, 0, 0, 1, 1, 0, 0, 1, 1, 1, 0, 1, 0, 0, 1, 1, 0, 0, 1, 0, 0]) 471022180 := unit_ok (H := (hookAt [])) (by kernel_rfl) T_snap_files_5_hok fun l w C hk => by
    obtain ⟨v0, l_v0, rfl, k_v0, hk_v0⟩ := Kinds.cons_ hk
    obtain ⟨c28, rfl⟩ := kind_int k_v0
    obtain rfl := Kinds.nil_ hk_v0
    exact T_snap_files_5_eq C c28 w

def T_snap_files_4_body (X : Int → Int → World → Prop) (n22 : Int) (x23 : Int) (s24a : Option Addr) (s24l : Nat) (s24c : Nat) (x25 : Int) (w : World) (Ke1 : World → Prop) (Kn : Int → World → Prop) (Kp : List PanicEntry → World → Prop)  : Prop :=
  if (decide ((x23 : Int) < x25)) = true then (0 ≤ (x23 : Int) ∧ (x23 : Int) < ((s24l : Nat) : Int) ∧ ∃ b26, s24a = some b26 ∧ ∃ x27 : Int, rd w (b26.add ((x23 : Int).toNat * 1)) (.int .u8 x27) ∧ T_snap_files_5 x27 w (fun b32 w33 => if b32 = true then (Ke1  w33) else (X (IntKind.wrap .i64 ((IntKind.wrap .i64 ((10 : Int) * n22) : Int) + (IntKind.wrap .i64 (IntKind.wrap .u8 ((x27 : Int) - 48))))) (IntKind.wrap .i64 ((x23 : Int) + 1)) w33)) Kp) else (Kn n22 w)

def T_snap_files_4 (n22 : Int) (x23 : Int) (s24a : Option Addr) (s24l : Nat) (s24c : Nat) (x25 : Int) (w : World) (Ke1 : World → Prop) (Kn : Int → World → Prop) (Kp : List PanicEntry → World → Prop) : Prop :=
  ∀ X : Int → Int → World → Prop, (∀ (n22 : Int) (x23 : Int) (w : World), T_snap_files_4_body X n22 x23 s24a s24l s24c x25 w Ke1 Kn Kp → X n22 x23 w) → X n22 x23 w

def T_snap_files_4_outs : Exit → Option (List (Nat × Value)) := fun x => match x with | .normal => some [(6, .int .i64 0)] | .panic _ => some [] | .exit i => cond (Nat.beq i 1) (some []) (none) | _ => none

def T_snap_files_4_ks : Nat → Bool := ksOf [6, 8, 34, 35, 36, 37, 38, 39, 40, 41, 42, 43, 44, 45, 46, 47, 48, 49, 50]

def H_snap_files_4 : Env → World → QT → Prop := unitHook 72 T_snap_files_4_ks [(6, .int .i64 0), (34, .int .i64 0), (32, .slice none 0 0), (33, .int .i64 0)] T_snap_files_4_outs fun l w C => match l with | [v0, v1, v2, v3] => T_snap_files_4 (pInt v0) (pInt v1) (pA v2) (pL v2) (pC v2) (pInt v3) w (fun w => C (.exit 1) [] w) (fun n35 w => C .normal [.int .i64 n35] w) (fun ch w => C (.panic ch) [] w) | _ => False

theorem T_snap_files_4_hl : allP (hokL Try.prog (hookAt [(471022180, H_snap_files_5)]) (at_ (turnB 0 900001 900002 (bodyOf Try.f40)) [1, 1, 0, 0, 0, 0, 0, 1, 0, 0, 1, 1, 0, 0, 1, 1, 1, 0, 1, 0, 0]) 3679860) = (UnitOk Try.prog H_snap_files_5 (at_ (turnB 0 900001 900002 (bodyOf Try.f40)) [1, 1, 0, 0, 0, 0, 0, 1, 0, 0, 1, 1, 0, 0, 1, 1, 1, 0, 1, 0, 0, 1, 1, 0, 0, 1, 0, 0]) 471022180 ∧ True) := by kernel_rfl
theorem T_snap_files_4_hok : HOk Try.prog (hookAt [(471022180, H_snap_files_5)]) (at_ (turnB 0 900001 900002 (bodyOf Try.f40)) [1, 1, 0, 0, 0, 0, 0, 1, 0, 0, 1, 1, 0, 0, 1, 1, 1, 0, 1, 0, 0]) 3679860 := HOk_of _ _ (by rw [T_snap_files_4_hl]; exact ⟨T_snap_files_5_ok, trivial⟩)

theorem T_snap_files_4_eq (C : Conts) (X : List Value → World → Prop) (n22 : Int) (x23 : Int) (s24a : Option Addr) (s24l : Nat) (s24c : Nat) (x25 : Int) (w : World) : vcCode Try.prog (hookAt [(471022180, H_snap_files_5)]) (at_ (turnB 0 900001 900002 (bodyOf Try.f40)) [1, 1, 0, 0, 0, 0, 0, 1, 0, 0, 1, 1, 0, 0, 1, 1, 1, 0, 1, 0, 0]) 3679860 ⟨[(6, .int .i64 n22), (34, .int .i64 x23)] ++ [(32, .slice s24a s24l s24c), (33, .int .i64 x25)], 72, []⟩ w (seqQ (fun e w => takeAll e [(6, .int .i64 0), (34, .int .i64 0)] fun l => X l w) (blockQ 2 (unitQ T_snap_files_4_outs C))) = T_snap_files_4_body (fun n22 x23 w => X [.int .i64 n22, .int .i64 x23] w) n22 x23 s24a s24l s24c x25 w (fun w => C (.exit 1) [] w) (fun n36 w => C .normal [.int .i64 n36] w) (fun ch w => C (.panic ch) [] w) := by kernel_rfl

theorem T_snap_files_4_ok : UnitOk Try.prog H_snap_files_4 (at_ (turnB 0 900001 900002 (bodyOf Try.f40)) [1, 1, 0, 0, 0, 0, 0, 1, 0, 0, 1, 1, 0, 0, 1, 1, 1, 0, 1]) 919965 := by
  have hc : at_ (turnB 0 900001 900002 (bodyOf Try.f40)) [1, 1, 0, 0, 0, 0, 0, 1, 0, 0, 1, 1, 0, 0, 1, 1, 1, 0, 1] = .block 2 (.loop (at_ (turnB 0 900001 900002 (bodyOf Try.f40)) [1, 1, 0, 0, 0, 0, 0, 1, 0, 0, 1, 1, 0, 0, 1, 1, 1, 0, 1, 0, 0])) := by kernel_rfl
  rw [hc]
  refine loop_unit_ok (carr := [(6, .int .i64 0), (34, .int .i64 0)]) (fix := [(32, .slice none 0 0), (33, .int .i64 0)]) (ks := T_snap_files_4_ks) (H := (hookAt [(471022180, H_snap_files_5)])) (B := fun C X l u w => match l, u with | [v0, v1], [v2, v3] => T_snap_files_4_body (fun n22 x23 w => X [.int .i64 n22, .int .i64 x23] w) (pInt v0) (pInt v1) (pA v2) (pL v2) (pC v2) (pInt v3) w (fun w => C (.exit 1) [] w) (fun n37 w => C .normal [.int .i64 n37] w) (fun ch w => C (.panic ch) [] w) | _, _ => False) (by kernel_rfl) (by kernel_rfl) T_snap_files_4_hok ?_ ?_
  · intro C X l u w hl hu
    obtain ⟨v0, l_v0, rfl, k_v0, hl_v0⟩ := Kinds.cons_ hl
    obtain ⟨n22, rfl⟩ := kind_int k_v0
    obtain ⟨v1, l_v1, rfl, k_v1, hl_v1⟩ := Kinds.cons_ hl_v0
    obtain ⟨x23, rfl⟩ := kind_int k_v1
    obtain rfl := Kinds.nil_ hl_v1
    obtain ⟨v2, l_v2, rfl, k_v2, hu_v2⟩ := Kinds.cons_ hu
    obtain ⟨s24a, s24l, s24c, rfl⟩ := kind_slice k_v2
    obtain ⟨v3, l_v3, rfl, k_v3, hu_v3⟩ := Kinds.cons_ hu_v2
    obtain ⟨x25, rfl⟩ := kind_int k_v3
    obtain rfl := Kinds.nil_ hu_v3
    exact T_snap_files_4_eq C X n22 x23 s24a s24l s24c x25 w
  · intro l u w C hl hu
    obtain ⟨v0, l_v0, rfl, k_v0, hl_v0⟩ := Kinds.cons_ hl
    obtain ⟨n22, rfl⟩ := kind_int k_v0
    obtain ⟨v1, l_v1, rfl, k_v1, hl_v1⟩ := Kinds.cons_ hl_v0
    obtain ⟨x23, rfl⟩ := kind_int k_v1
    obtain rfl := Kinds.nil_ hl_v1
    obtain ⟨v2, l_v2, rfl, k_v2, hu_v2⟩ := Kinds.cons_ hu
    obtain ⟨s24a, s24l, s24c, rfl⟩ := kind_slice k_v2
    obtain ⟨v3, l_v3, rfl, k_v3, hu_v3⟩ := Kinds.cons_ hu_v2
    obtain ⟨x25, rfl⟩ := kind_int k_v3
    obtain rfl := Kinds.nil_ hu_v3
    constructor
    · intro h X hX
      exact h (fun n22 x23 w => X [.int .i64 n22, .int .i64 x23] w) (fun n22 x23 w hb => hX [.int .i64 n22, .int .i64 x23] w ⟨rfl, rfl, trivial⟩ hb)
    · intro h X hX
      exact h (fun l w => match l with | [v0, v1] => X (pInt v0) (pInt v1) w | _ => True) (fun l w hl hb => by
        obtain ⟨v0, l_v0, rfl, k_v0, hl_v0⟩ := Kinds.cons_ hl
        obtain ⟨n22, rfl⟩ := kind_int k_v0
        obtain ⟨v1, l_v1, rfl, k_v1, hl_v1⟩ := Kinds.cons_ hl_v0
        obtain ⟨x23, rfl⟩ := kind_int k_v1
        obtain rfl := Kinds.nil_ hl_v1
        exact hX n22 x23 w hb)

def T_snap_files_2_body (X : Option Addr → Nat → Nat → Int → World → Prop) (out7a : Option Addr) (out7l : Nat) (out7c : Nat) (x8 : Int) (s9a : Option Addr) (s9l : Nat) (s9c : Nat) (x10 : Int) (w : World) (Kn : Option Addr → Nat → Nat → World → Prop) (Kp : List PanicEntry → World → Prop)  : Prop :=
  if (decide ((x8 : Int) < x10)) = true then (0 ≤ (x8 : Int) ∧ (x8 : Int) < ((s9l : Nat) : Int) ∧ ∃ b11, s9a = some b11 ∧ ∃ s12 : ByteArray, rd w (b11.add ((x8 : Int).toNat * 1)) (.string s12) ∧ T_snap_files_3 s12 w (fun b17 w18 => if b17 = true then (X out7a out7l out7c (IntKind.wrap .i64 ((x8 : Int) + 1)) w18) else (0 ≤ (5 : Int) ∧ (5 : Int) ≤ ((s12.size : Nat) : Int) ∧ runV Try.prog (convert 9 27 (.string (s12.extract ((5 : Int).toNat) s12.size))) w18 (fun r19 w20 => ∃ s21a : Option Addr, ∃ s21l : Nat, ∃ s21c : Nat, r19 = .slice s21a s21l s21c ∧ T_snap_files_4 0 0 s21a s21l s21c ((s21l : Nat) : Int) w20 (fun w38 => X out7a out7l out7c (IntKind.wrap .i64 ((x8 : Int) + 1)) w38) (fun n39 w40 => let w41 : World := w40.alloc (.cells #[.string (ByteArray.mk #[]), .int .i64 0] 86)
  (.agg #[.string s12, .int .i64 n39] : Value).cells.size = 2 ∧ wrOk w41 (⟨w40.heap.size, 0, none⟩ : Addr) (.agg #[.string s12, .int .i64 n39]) ∧ let w42 : World := wr w41 (⟨w40.heap.size, 0, none⟩ : Addr) (.agg #[.string s12, .int .i64 n39])
  let w43 : World := w42.drew
  if (decide ((n39 : Int) ≤ 1099511627776)) = true then (∃ s44 : ByteArray, ∃ x45 : Int, rd w43 (⟨w40.heap.size, 0, none⟩ : Addr) (.agg #[.string s44, .int .i64 x45]) ∧ Calls Try.prog 39 #[.int .i64 n39] w43 (ret (fun r46 w47 => ∃ s48 : ByteArray, r46 = .string s48 ∧ (rd w47 (⟨w40.heap.size, 0, none⟩ : Addr) (.agg #[.string s44, .int .i64 x45]) ∧ True) ∧ runV Try.prog (do eqGuard .eql 86 (.tmp 57) (.tmp 61) (.agg #[.string s44, .int .i64 x45]) (.agg #[.string s48, .int .i64 n39]); binOp .eql 86 (.agg #[.string s44, .int .i64 x45]) (.agg #[.string s48, .int .i64 n39])) w47 (fun r49 w50 => ∃ b51 : Bool, r49 = .bool b51 ∧ (True) ∧ if b51 = true then (∃ s52 : ByteArray, ∃ x53 : Int, rd w50 (⟨w40.heap.size, 0, none⟩ : Addr) (.agg #[.string s52, .int .i64 x53]) ∧ let w54 : World := w50.alloc (.cells #[.string s52, .int .i64 x53] 86)
  runV Try.prog (Builtin.append_ #[83, 83] 83 #[.slice out7a out7l out7c, .slice (some (⟨w50.heap.size, 0, none⟩ : Addr)) 1 1]) w54 (fun r55 w56 => ∃ s57a : Option Addr, ∃ s57l : Nat, ∃ s57c : Nat, r55 = .slice s57a s57l s57c ∧ X s57a s57l s57c (IntKind.wrap .i64 ((x8 : Int) + 1)) w56) Kp) else (X out7a out7l out7c (IntKind.wrap .i64 ((x8 : Int) + 1)) w50)) Kp) Kp)) else ((True) ∧ (True) ∧ X out7a out7l out7c (IntKind.wrap .i64 ((x8 : Int) + 1)) w43)) Kp) Kp)) Kp) else (Kn out7a out7l out7c w)

def T_snap_files_2 (out7a : Option Addr) (out7l : Nat) (out7c : Nat) (x8 : Int) (s9a : Option Addr) (s9l : Nat) (s9c : Nat) (x10 : Int) (w : World) (Kn : Option Addr → Nat → Nat → World → Prop) (Kp : List PanicEntry → World → Prop) : Prop :=
  ∀ X : Option Addr → Nat → Nat → Int → World → Prop, (∀ (out7a : Option Addr) (out7l : Nat) (out7c : Nat) (x8 : Int) (w : World), T_snap_files_2_body X out7a out7l out7c x8 s9a s9l s9c x10 w Kn Kp → X out7a out7l out7c x8 w) → X out7a out7l out7c x8 w

def T_snap_files_2_outs : Exit → Option (List (Nat × Value)) := fun x => match x with | .normal => some [(3, .slice none 0 0)] | .panic _ => some [] | _ => none

def T_snap_files_2_ks : Nat → Bool := ksOf [3, 5, 6, 8, 9, 13, 14, 15, 16, 17, 18, 19, 20, 21, 22, 23, 24, 25, 26, 27, 28, 29, 30, 31, 32, 33, 34, 35, 36, 37, 38, 39, 40, 41, 42, 43, 44, 45, 46, 47, 48, 49, 50, 51, 52, 53, 54, 55, 56, 57, 58, 59, 60, 61, 62, 63, 64, 65, 66, 67, 68]

def H_snap_files_2 : Env → World → QT → Prop := unitHook 72 T_snap_files_2_ks [(3, .slice none 0 0), (13, .int .i64 0), (11, .slice none 0 0), (12, .int .i64 0)] T_snap_files_2_outs fun l w C => match l with | [v0, v1, v2, v3] => T_snap_files_2 (pA v0) (pL v0) (pC v0) (pInt v1) (pA v2) (pL v2) (pC v2) (pInt v3) w (fun out59a out59l out59c w => C .normal [.slice out59a out59l out59c] w) (fun ch w => C (.panic ch) [] w) | _ => False

theorem T_snap_files_2_hl : allP (hokL Try.prog (hookAt [(229988, H_snap_files_3), (919965, H_snap_files_4)]) (at_ (turnB 0 900001 900002 (bodyOf Try.f40)) [1, 1, 0, 0, 0, 0, 0, 1, 0, 0]) 1796) = (UnitOk Try.prog H_snap_files_3 (at_ (turnB 0 900001 900002 (bodyOf Try.f40)) [1, 1, 0, 0, 0, 0, 0, 1, 0, 0, 1, 1, 0, 0, 1, 0, 0]) 229988 ∧ UnitOk Try.prog H_snap_files_4 (at_ (turnB 0 900001 900002 (bodyOf Try.f40)) [1, 1, 0, 0, 0, 0, 0, 1, 0, 0, 1, 1, 0, 0, 1, 1, 1, 0, 1]) 919965 ∧ True) := by kernel_rfl
theorem T_snap_files_2_hok : HOk Try.prog (hookAt [(229988, H_snap_files_3), (919965, H_snap_files_4)]) (at_ (turnB 0 900001 900002 (bodyOf Try.f40)) [1, 1, 0, 0, 0, 0, 0, 1, 0, 0]) 1796 := HOk_of _ _ (by rw [T_snap_files_2_hl]; exact ⟨T_snap_files_3_ok, T_snap_files_4_ok, trivial⟩)

theorem T_snap_files_2_eq (C : Conts) (X : List Value → World → Prop) (out7a : Option Addr) (out7l : Nat) (out7c : Nat) (x8 : Int) (s9a : Option Addr) (s9l : Nat) (s9c : Nat) (x10 : Int) (w : World) : vcCode Try.prog (hookAt [(229988, H_snap_files_3), (919965, H_snap_files_4)]) (at_ (turnB 0 900001 900002 (bodyOf Try.f40)) [1, 1, 0, 0, 0, 0, 0, 1, 0, 0]) 1796 ⟨[(3, .slice out7a out7l out7c), (13, .int .i64 x8)] ++ [(11, .slice s9a s9l s9c), (12, .int .i64 x10)], 72, []⟩ w (seqQ (fun e w => takeAll e [(3, .slice none 0 0), (13, .int .i64 0)] fun l => X l w) (blockQ 0 (unitQ T_snap_files_2_outs C))) = T_snap_files_2_body (fun out7a out7l out7c x8 w => X [.slice out7a out7l out7c, .int .i64 x8] w) out7a out7l out7c x8 s9a s9l s9c x10 w (fun out60a out60l out60c w => C .normal [.slice out60a out60l out60c] w) (fun ch w => C (.panic ch) [] w) := by kernel_rfl

theorem T_snap_files_2_ok : UnitOk Try.prog H_snap_files_2 (at_ (turnB 0 900001 900002 (bodyOf Try.f40)) [1, 1, 0, 0, 0, 0, 0, 1]) 449 := by
  have hc : at_ (turnB 0 900001 900002 (bodyOf Try.f40)) [1, 1, 0, 0, 0, 0, 0, 1] = .block 0 (.loop (at_ (turnB 0 900001 900002 (bodyOf Try.f40)) [1, 1, 0, 0, 0, 0, 0, 1, 0, 0])) := by kernel_rfl
  rw [hc]
  refine loop_unit_ok (carr := [(3, .slice none 0 0), (13, .int .i64 0)]) (fix := [(11, .slice none 0 0), (12, .int .i64 0)]) (ks := T_snap_files_2_ks) (H := (hookAt [(229988, H_snap_files_3), (919965, H_snap_files_4)])) (B := fun C X l u w => match l, u with | [v0, v1], [v2, v3] => T_snap_files_2_body (fun out7a out7l out7c x8 w => X [.slice out7a out7l out7c, .int .i64 x8] w) (pA v0) (pL v0) (pC v0) (pInt v1) (pA v2) (pL v2) (pC v2) (pInt v3) w (fun out61a out61l out61c w => C .normal [.slice out61a out61l out61c] w) (fun ch w => C (.panic ch) [] w) | _, _ => False) (by kernel_rfl) (by kernel_rfl) T_snap_files_2_hok ?_ ?_
  · intro C X l u w hl hu
    obtain ⟨v0, l_v0, rfl, k_v0, hl_v0⟩ := Kinds.cons_ hl
    obtain ⟨out7a, out7l, out7c, rfl⟩ := kind_slice k_v0
    obtain ⟨v1, l_v1, rfl, k_v1, hl_v1⟩ := Kinds.cons_ hl_v0
    obtain ⟨x8, rfl⟩ := kind_int k_v1
    obtain rfl := Kinds.nil_ hl_v1
    obtain ⟨v2, l_v2, rfl, k_v2, hu_v2⟩ := Kinds.cons_ hu
    obtain ⟨s9a, s9l, s9c, rfl⟩ := kind_slice k_v2
    obtain ⟨v3, l_v3, rfl, k_v3, hu_v3⟩ := Kinds.cons_ hu_v2
    obtain ⟨x10, rfl⟩ := kind_int k_v3
    obtain rfl := Kinds.nil_ hu_v3
    exact T_snap_files_2_eq C X out7a out7l out7c x8 s9a s9l s9c x10 w
  · intro l u w C hl hu
    obtain ⟨v0, l_v0, rfl, k_v0, hl_v0⟩ := Kinds.cons_ hl
    obtain ⟨out7a, out7l, out7c, rfl⟩ := kind_slice k_v0
    obtain ⟨v1, l_v1, rfl, k_v1, hl_v1⟩ := Kinds.cons_ hl_v0
    obtain ⟨x8, rfl⟩ := kind_int k_v1
    obtain rfl := Kinds.nil_ hl_v1
    obtain ⟨v2, l_v2, rfl, k_v2, hu_v2⟩ := Kinds.cons_ hu
    obtain ⟨s9a, s9l, s9c, rfl⟩ := kind_slice k_v2
    obtain ⟨v3, l_v3, rfl, k_v3, hu_v3⟩ := Kinds.cons_ hu_v2
    obtain ⟨x10, rfl⟩ := kind_int k_v3
    obtain rfl := Kinds.nil_ hu_v3
    constructor
    · intro h X hX
      exact h (fun out7a out7l out7c x8 w => X [.slice out7a out7l out7c, .int .i64 x8] w) (fun out7a out7l out7c x8 w hb => hX [.slice out7a out7l out7c, .int .i64 x8] w ⟨rfl, rfl, trivial⟩ hb)
    · intro h X hX
      exact h (fun l w => match l with | [v0, v1] => X (pA v0) (pL v0) (pC v0) (pInt v1) w | _ => True) (fun l w hl hb => by
        obtain ⟨v0, l_v0, rfl, k_v0, hl_v0⟩ := Kinds.cons_ hl
        obtain ⟨out7a, out7l, out7c, rfl⟩ := kind_slice k_v0
        obtain ⟨v1, l_v1, rfl, k_v1, hl_v1⟩ := Kinds.cons_ hl_v0
        obtain ⟨x8, rfl⟩ := kind_int k_v1
        obtain rfl := Kinds.nil_ hl_v1
        exact hX out7a out7l out7c x8 w hb)

def T_snap_files_1_body (X : Option Addr → Nat → Nat → World → Prop) (out2a : Option Addr) (out2l : Nat) (out2c : Nat) (d3 : Option Addr) (w : World) (Kr : Option Addr → Nat → Nat → World → Prop) (Kp : List PanicEntry → World → Prop)  : Prop :=
  Calls Try.prog 20 #[.pointer d3] w (ret (fun r4 w5 => ∃ s6a : Option Addr, ∃ s6l : Nat, ∃ s6c : Nat, r4 = .slice s6a s6l s6c ∧ T_snap_files_2 out2a out2l out2c 0 s6a s6l s6c ((s6l : Nat) : Int) w5 (fun out62a out62l out62c w63 => Calls Try.prog 64 #[.slice out62a out62l out62c, .func (.func 65) #[] #[]] w63 (ret (fun r64 w65 => r64 = .tuple #[] ∧ Kr out62a out62l out62c w65) Kp)) Kp) Kp)

def T_snap_files_1 (out2a : Option Addr) (out2l : Nat) (out2c : Nat) (d3 : Option Addr) (w : World) (Kr : Option Addr → Nat → Nat → World → Prop) (Kp : List PanicEntry → World → Prop) : Prop :=
  ∀ X : Option Addr → Nat → Nat → World → Prop, (∀ (out2a : Option Addr) (out2l : Nat) (out2c : Nat) (w : World), T_snap_files_1_body X out2a out2l out2c d3 w Kr Kp → X out2a out2l out2c w) → X out2a out2l out2c w

def T_snap_files_1_outs : Exit → Option (List (Nat × Value)) := fun x => match x with | .ret => some [(2, .slice none 0 0)] | .panic _ => some [] | _ => none

def T_snap_files_1_ks : Nat → Bool := ksOf [2, 3, 5, 6, 8, 9, 10, 11, 12, 13, 14, 15, 16, 17, 18, 19, 20, 21, 22, 23, 24, 25, 26, 27, 28, 29, 30, 31, 32, 33, 34, 35, 36, 37, 38, 39, 40, 41, 42, 43, 44, 45, 46, 47, 48, 49, 50, 51, 52, 53, 54, 55, 56, 57, 58, 59, 60, 61, 62, 63, 64, 65, 66, 67, 68, 69, 70, 71]

def H_snap_files_1 : Env → World → QT → Prop := unitHook 72 T_snap_files_1_ks [(3, .slice none 0 0), (0, .pointer none)] T_snap_files_1_outs fun l w C => match l with | [v0, v1] => T_snap_files_1 (pA v0) (pL v0) (pC v0) (pPtr v1) w (fun s67a s67l s67c w => C .ret [.slice s67a s67l s67c] w) (fun ch w => C (.panic ch) [] w) | _ => False

theorem T_snap_files_1_hl : allP (hokL Try.prog (hookAt [(449, H_snap_files_2)]) (at_ (turnB 0 900001 900002 (bodyOf Try.f40)) [1, 1, 0, 0]) 28) = (UnitOk Try.prog H_snap_files_2 (at_ (turnB 0 900001 900002 (bodyOf Try.f40)) [1, 1, 0, 0, 0, 0, 0, 1]) 449 ∧ True) := by kernel_rfl
theorem T_snap_files_1_hok : HOk Try.prog (hookAt [(449, H_snap_files_2)]) (at_ (turnB 0 900001 900002 (bodyOf Try.f40)) [1, 1, 0, 0]) 28 := HOk_of _ _ (by rw [T_snap_files_1_hl]; exact ⟨T_snap_files_2_ok, trivial⟩)

theorem T_snap_files_1_eq (C : Conts) (X : List Value → World → Prop) (out2a : Option Addr) (out2l : Nat) (out2c : Nat) (d3 : Option Addr) (w : World) : vcCode Try.prog (hookAt [(449, H_snap_files_2)]) (at_ (turnB 0 900001 900002 (bodyOf Try.f40)) [1, 1, 0, 0]) 28 ⟨[(3, .slice out2a out2l out2c)] ++ [(0, .pointer d3)], 72, []⟩ w (seqQ (fun e w => takeAll e [(3, .slice none 0 0)] fun l => X l w) (blockQ 900002 (unitQ T_snap_files_1_outs C))) = T_snap_files_1_body (fun out2a out2l out2c w => X [.slice out2a out2l out2c] w) out2a out2l out2c d3 w (fun s68a s68l s68c w => C .ret [.slice s68a s68l s68c] w) (fun ch w => C (.panic ch) [] w) := by kernel_rfl

theorem T_snap_files_1_ok : UnitOk Try.prog H_snap_files_1 (at_ (turnB 0 900001 900002 (bodyOf Try.f40)) [1, 1]) 7 := by
  have hc : at_ (turnB 0 900001 900002 (bodyOf Try.f40)) [1, 1] = .block 900002 (.loop (at_ (turnB 0 900001 900002 (bodyOf Try.f40)) [1, 1, 0, 0])) := by kernel_rfl
  rw [hc]
  refine loop_unit_ok (carr := [(3, .slice none 0 0)]) (fix := [(0, .pointer none)]) (ks := T_snap_files_1_ks) (H := (hookAt [(449, H_snap_files_2)])) (B := fun C X l u w => match l, u with | [v0], [v1] => T_snap_files_1_body (fun out2a out2l out2c w => X [.slice out2a out2l out2c] w) (pA v0) (pL v0) (pC v0) (pPtr v1) w (fun s69a s69l s69c w => C .ret [.slice s69a s69l s69c] w) (fun ch w => C (.panic ch) [] w) | _, _ => False) (by kernel_rfl) (by kernel_rfl) T_snap_files_1_hok ?_ ?_
  · intro C X l u w hl hu
    obtain ⟨v0, l_v0, rfl, k_v0, hl_v0⟩ := Kinds.cons_ hl
    obtain ⟨out2a, out2l, out2c, rfl⟩ := kind_slice k_v0
    obtain rfl := Kinds.nil_ hl_v0
    obtain ⟨v1, l_v1, rfl, k_v1, hu_v1⟩ := Kinds.cons_ hu
    obtain ⟨d3, rfl⟩ := kind_pointer k_v1
    obtain rfl := Kinds.nil_ hu_v1
    exact T_snap_files_1_eq C X out2a out2l out2c d3 w
  · intro l u w C hl hu
    obtain ⟨v0, l_v0, rfl, k_v0, hl_v0⟩ := Kinds.cons_ hl
    obtain ⟨out2a, out2l, out2c, rfl⟩ := kind_slice k_v0
    obtain rfl := Kinds.nil_ hl_v0
    obtain ⟨v1, l_v1, rfl, k_v1, hu_v1⟩ := Kinds.cons_ hu
    obtain ⟨d3, rfl⟩ := kind_pointer k_v1
    obtain rfl := Kinds.nil_ hu_v1
    constructor
    · intro h X hX
      exact h (fun out2a out2l out2c w => X [.slice out2a out2l out2c] w) (fun out2a out2l out2c w hb => hX [.slice out2a out2l out2c] w ⟨rfl, trivial⟩ hb)
    · intro h X hX
      exact h (fun l w => match l with | [v0] => X (pA v0) (pL v0) (pC v0) w | _ => True) (fun l w hl hb => by
        obtain ⟨v0, l_v0, rfl, k_v0, hl_v0⟩ := Kinds.cons_ hl
        obtain ⟨out2a, out2l, out2c, rfl⟩ := kind_slice k_v0
        obtain rfl := Kinds.nil_ hl_v0
        exact hX out2a out2l out2c w hb)

def T_snap_files (d1 : Option Addr) (w : World) (R : Ending → World → Prop) : Prop :=
  T_snap_files_1 none 0 0 d1 w (fun s70a s70l s70c w71 => R (.returned (.slice s70a s70l s70c)) w71) (pan R)

theorem T_snap_files_hl : allP (hokL Try.prog (hookAt [(7, H_snap_files_1)]) (turnB 0 900001 900002 (bodyOf Try.f40)) 1) = (UnitOk Try.prog H_snap_files_1 (at_ (turnB 0 900001 900002 (bodyOf Try.f40)) [1, 1]) 7 ∧ True) := by kernel_rfl

theorem T_snap_files_eq (d1 : Option Addr) (w : World) (R : Ending → World → Prop) : vcCode Try.prog (hookAt [(7, H_snap_files_1)]) (turnB 0 900001 900002 (bodyOf Try.f40)) 1 ⟨argEnv [.pointer d1] 0, Try.f40.ntmps, []⟩ w (finQ Try.prog Try.f40.results.toList R) = T_snap_files d1 w R := by kernel_rfl

theorem T_snap_files_b : Try.f40.body = some (.seq (rOf (bodyOf Try.f40)) (.scope (cOf (bodyOf Try.f40)))) := by kernel_rfl
theorem T_snap_files_f : findLabel (cOf (bodyOf Try.f40)) 0 = some (.seq .skip ((lapOf 0 (cOf (bodyOf Try.f40))).getD .skip)) := by kernel_rfl
theorem T_snap_files_l : lapOf 0 (cOf (bodyOf Try.f40)) = some ((lapOf 0 (cOf (bodyOf Try.f40))).getD .skip) := by kernel_rfl

theorem T_snap_files_s : ((quietSel (rOf (bodyOf Try.f40)) && quietSel (cOf (bodyOf Try.f40)) && quietSel ((lapOf 0 (cOf (bodyOf Try.f40))).getD .skip)) && (freshC 900001 ((lapOf 0 (cOf (bodyOf Try.f40))).getD .skip) && noExit 900001 ((lapOf 0 (cOf (bodyOf Try.f40))).getD .skip) && noExit 900002 ((lapOf 0 (cOf (bodyOf Try.f40))).getD .skip)) && Nat.ble 1 Try.f40.ntmps) = true := by kernel_rfl

theorem C_snap_files {d1 : Option Addr} {w : World} {R : Ending → World → Prop} (h : T_snap_files d1 w R) : Calls Try.prog 40 #[.pointer d1] w R :=
  calls_of_scope (args := [.pointer d1]) mixed Try.func40 T_snap_files_b T_snap_files_f T_snap_files_l T_snap_files_s (HOk_of _ _ (show allP (hokL Try.prog (hookAt [(7, H_snap_files_1)]) (turnB 0 900001 900002 (bodyOf Try.f40)) 1) from by rw [T_snap_files_hl]; exact ⟨T_snap_files_1_ok, trivial⟩)) (show vcCode Try.prog (hookAt [(7, H_snap_files_1)]) (turnB 0 900001 900002 (bodyOf Try.f40)) 1 ⟨argEnv [.pointer d1] 0, Try.f40.ntmps, []⟩ w (finQ Try.prog Try.f40.results.toList R) from by rw [T_snap_files_eq]; exact h)

/-! tollgate/snap.Save -/
def T_snap_Save_1 (d23 : Option Addr) (s24 : Addr) (e25 : Int) (b26 : Bool) (w : World) (Kn : Int → World → Prop) (Kp : List PanicEntry → World → Prop) : Prop :=
  if b26 = true then (Calls Try.prog 19 #[.pointer d23, .string (ByteArray.mk #[115, 110, 97, 112, 46, 116, 109, 112])] w (ret (fun r27 w28 => ∃ x29 : Int, r27 = .int .i64 x29 ∧ ∃ x30 : Int, rd w28 s24 (.int .i64 x30) ∧ Calls Try.prog 39 #[.int .i64 x30] w28 (ret (fun r31 w32 => ∃ s33 : ByteArray, r31 = .string s33 ∧ Calls Try.prog 21 #[.pointer d23, .string (ByteArray.mk #[115, 110, 97, 112, 46, 116, 109, 112]), .string s33] w32 (ret (fun r34 w35 => ∃ x36 : Int, r34 = .int .i64 x36 ∧ Kn x36 w35) Kp)) Kp)) Kp)) else (Kn e25 w)

def T_snap_Save_1_outs : Exit → Option (List (Nat × Value)) := fun x => match x with | .normal => some [(6, .int .i64 0)] | .panic _ => some [] | _ => none

def T_snap_Save_1_ks : Nat → Bool := ksOf [6, 26, 27, 28, 29, 30, 31, 32, 33]

def H_snap_Save_1 : Env → World → QT → Prop := unitHook 57 T_snap_Save_1_ks [(0, .pointer none), (3, .pointer (some ⟨0, 0, none⟩)), (6, .int .i64 0), (25, .bool false)] T_snap_Save_1_outs fun l w C => match l with | [v0, v1, v2, v3] => T_snap_Save_1 (pPtr v0) (pAddr v1) (pInt v2) (pBool v3) w (fun e38 w => C .normal [.int .i64 e38] w) (fun ch w => C (.panic ch) [] w) | _ => False

theorem T_snap_Save_1_hl : allP (hokL Try.prog (hookAt []) (at_ (bodyOf Try.f17) [1, 1, 1, 1, 1, 0, 1, 1]) 507) = (True) := by kernel_rfl
theorem T_snap_Save_1_hok : HOk Try.prog (hookAt []) (at_ (bodyOf Try.f17) [1, 1, 1, 1, 1, 0, 1, 1]) 507 := HOk_of _ _ (by rw [T_snap_Save_1_hl]; exact trivial)

theorem T_snap_Save_1_eq (C : Conts) (d23 : Option Addr) (s24 : Addr) (e25 : Int) (b26 : Bool) (w : World) : vcCode Try.prog (hookAt []) (at_ (bodyOf Try.f17) [1, 1, 1, 1, 1, 0, 1, 1]) 507 ⟨[(0, .pointer d23), (3, .pointer (some s24)), (6, .int .i64 e25), (25, .bool b26)], 57, []⟩ w (unitQ T_snap_Save_1_outs C) = T_snap_Save_1 d23 s24 e25 b26 w (fun e39 w => C .normal [.int .i64 e39] w) (fun ch w => C (.panic ch) [] w) := by kernel_rfl

theorem T_snap_Save_1_ok : UnitOk Try.prog H_snap_Save_1 (at_ (bodyOf Try.f17) [1, 1, 1, 1, 1, 0, 1, 1]) 507 := unit_ok (H := (hookAt [])) (by kernel_rfl) T_snap_Save_1_hok fun l w C hk => by
    obtain ⟨v0, l_v0, rfl, k_v0, hk_v0⟩ := Kinds.cons_ hk
    obtain ⟨d23, rfl⟩ := kind_pointer k_v0
    obtain ⟨v1, l_v1, rfl, k_v1, hk_v1⟩ := Kinds.cons_ hk_v0
    obtain ⟨s24, rfl⟩ := kind_addr k_v1
    obtain ⟨v2, l_v2, rfl, k_v2, hk_v2⟩ := Kinds.cons_ hk_v1
    obtain ⟨e25, rfl⟩ := kind_int k_v2
    obtain ⟨v3, l_v3, rfl, k_v3, hk_v3⟩ := Kinds.cons_ hk_v2
    obtain ⟨b26, rfl⟩ := kind_bool k_v3
    obtain rfl := Kinds.nil_ hk_v3
    exact T_snap_Save_1_eq C d23 s24 e25 b26 w

def T_snap_Save_2_body (X : Int → World → Prop) (x48 : Int) (d49 : Option Addr) (s50 : Addr) (s51a : Option Addr) (s51l : Nat) (s51c : Nat) (x52 : Int) (w : World) (Kn : World → Prop) (Kp : List PanicEntry → World → Prop)  : Prop :=
  if (decide ((x48 : Int) < x52)) = true then (0 ≤ (x48 : Int) ∧ (x48 : Int) < ((s51l : Nat) : Int) ∧ ∃ b53, s51a = some b53 ∧ ∃ s54 : ByteArray, ∃ x55 : Int, rd w (b53.add ((x48 : Int).toNat * 2)) (.agg #[.string s54, .int .i64 x55]) ∧ let w56 : World := w.alloc (.cells #[.string (ByteArray.mk #[]), .int .i64 0] 86)
  (.agg #[.string s54, .int .i64 x55] : Value).cells.size = 2 ∧ wrOk w56 (⟨w.heap.size, 0, none⟩ : Addr) (.agg #[.string s54, .int .i64 x55]) ∧ let w57 : World := wr w56 (⟨w.heap.size, 0, none⟩ : Addr) (.agg #[.string s54, .int .i64 x55])
  ∃ x58 : Int, rd w57 ((⟨w.heap.size, 0, none⟩ : Addr).add 1) (.int .i64 x58) ∧ ∃ x59 : Int, rd w57 s50 (.int .i64 x59) ∧ if (decide ((x58 : Int) < x59)) = true then (∃ s60 : ByteArray, rd w57 (⟨w.heap.size, 0, none⟩ : Addr) (.string s60) ∧ Calls Try.prog 38 #[.pointer d49, .string s60] w57 (ret (fun r61 w62 => ∃ x63 : Int, r61 = .int .i64 x63 ∧ X (IntKind.wrap .i64 ((x48 : Int) + 1)) w62) Kp)) else (X (IntKind.wrap .i64 ((x48 : Int) + 1)) w57)) else (Kn  w)

def T_snap_Save_2 (x48 : Int) (d49 : Option Addr) (s50 : Addr) (s51a : Option Addr) (s51l : Nat) (s51c : Nat) (x52 : Int) (w : World) (Kn : World → Prop) (Kp : List PanicEntry → World → Prop) : Prop :=
  ∀ X : Int → World → Prop, (∀ (x48 : Int) (w : World), T_snap_Save_2_body X x48 d49 s50 s51a s51l s51c x52 w Kn Kp → X x48 w) → X x48 w

def T_snap_Save_2_outs : Exit → Option (List (Nat × Value)) := fun x => match x with | .normal => some [] | .panic _ => some [] | _ => none

def T_snap_Save_2_ks : Nat → Bool := ksOf [8, 42, 43, 44, 45, 46, 47, 48, 49, 50, 51, 52, 53, 54, 55, 56]

def H_snap_Save_2 : Env → World → QT → Prop := unitHook 57 T_snap_Save_2_ks [(42, .int .i64 0), (0, .pointer none), (3, .pointer (some ⟨0, 0, none⟩)), (40, .slice none 0 0), (41, .int .i64 0)] T_snap_Save_2_outs fun l w C => match l with | [v0, v1, v2, v3, v4] => T_snap_Save_2 (pInt v0) (pPtr v1) (pAddr v2) (pA v3) (pL v3) (pC v3) (pInt v4) w (fun w => C .normal [] w) (fun ch w => C (.panic ch) [] w) | _ => False

theorem T_snap_Save_2_hl : allP (hokL Try.prog (hookAt []) (at_ (bodyOf Try.f17) [1, 1, 1, 1, 1, 1, 1, 0, 1, 0, 0]) 4084) = (True) := by kernel_rfl
theorem T_snap_Save_2_hok : HOk Try.prog (hookAt []) (at_ (bodyOf Try.f17) [1, 1, 1, 1, 1, 1, 1, 0, 1, 0, 0]) 4084 := HOk_of _ _ (by rw [T_snap_Save_2_hl]; exact trivial)

theorem T_snap_Save_2_eq (C : Conts) (X : List Value → World → Prop) (x48 : Int) (d49 : Option Addr) (s50 : Addr) (s51a : Option Addr) (s51l : Nat) (s51c : Nat) (x52 : Int) (w : World) : vcCode Try.prog (hookAt []) (at_ (bodyOf Try.f17) [1, 1, 1, 1, 1, 1, 1, 0, 1, 0, 0]) 4084 ⟨[(42, .int .i64 x48)] ++ [(0, .pointer d49), (3, .pointer (some s50)), (40, .slice s51a s51l s51c), (41, .int .i64 x52)], 57, []⟩ w (seqQ (fun e w => takeAll e [(42, .int .i64 0)] fun l => X l w) (blockQ 0 (unitQ T_snap_Save_2_outs C))) = T_snap_Save_2_body (fun x48 w => X [.int .i64 x48] w) x48 d49 s50 s51a s51l s51c x52 w (fun w => C .normal [] w) (fun ch w => C (.panic ch) [] w) := by kernel_rfl

theorem T_snap_Save_2_ok : UnitOk Try.prog H_snap_Save_2 (at_ (bodyOf Try.f17) [1, 1, 1, 1, 1, 1, 1, 0, 1]) 1021 := by
  have hc : at_ (bodyOf Try.f17) [1, 1, 1, 1, 1, 1, 1, 0, 1] = .block 0 (.loop (at_ (bodyOf Try.f17) [1, 1, 1, 1, 1, 1, 1, 0, 1, 0, 0])) := by kernel_rfl
  rw [hc]
  refine loop_unit_ok (carr := [(42, .int .i64 0)]) (fix := [(0, .pointer none), (3, .pointer (some ⟨0, 0, none⟩)), (40, .slice none 0 0), (41, .int .i64 0)]) (ks := T_snap_Save_2_ks) (H := (hookAt [])) (B := fun C X l u w => match l, u with | [v0], [v1, v2, v3, v4] => T_snap_Save_2_body (fun x48 w => X [.int .i64 x48] w) (pInt v0) (pPtr v1) (pAddr v2) (pA v3) (pL v3) (pC v3) (pInt v4) w (fun w => C .normal [] w) (fun ch w => C (.panic ch) [] w) | _, _ => False) (by kernel_rfl) (by kernel_rfl) T_snap_Save_2_hok ?_ ?_
  · intro C X l u w hl hu
    obtain ⟨v0, l_v0, rfl, k_v0, hl_v0⟩ := Kinds.cons_ hl
    obtain ⟨x48, rfl⟩ := kind_int k_v0
    obtain rfl := Kinds.nil_ hl_v0
    obtain ⟨v1, l_v1, rfl, k_v1, hu_v1⟩ := Kinds.cons_ hu
    obtain ⟨d49, rfl⟩ := kind_pointer k_v1
    obtain ⟨v2, l_v2, rfl, k_v2, hu_v2⟩ := Kinds.cons_ hu_v1
    obtain ⟨s50, rfl⟩ := kind_addr k_v2
    obtain ⟨v3, l_v3, rfl, k_v3, hu_v3⟩ := Kinds.cons_ hu_v2
    obtain ⟨s51a, s51l, s51c, rfl⟩ := kind_slice k_v3
    obtain ⟨v4, l_v4, rfl, k_v4, hu_v4⟩ := Kinds.cons_ hu_v3
    obtain ⟨x52, rfl⟩ := kind_int k_v4
    obtain rfl := Kinds.nil_ hu_v4
    exact T_snap_Save_2_eq C X x48 d49 s50 s51a s51l s51c x52 w
  · intro l u w C hl hu
    obtain ⟨v0, l_v0, rfl, k_v0, hl_v0⟩ := Kinds.cons_ hl
    obtain ⟨x48, rfl⟩ := kind_int k_v0
    obtain rfl := Kinds.nil_ hl_v0
    obtain ⟨v1, l_v1, rfl, k_v1, hu_v1⟩ := Kinds.cons_ hu
    obtain ⟨d49, rfl⟩ := kind_pointer k_v1
    obtain ⟨v2, l_v2, rfl, k_v2, hu_v2⟩ := Kinds.cons_ hu_v1
    obtain ⟨s50, rfl⟩ := kind_addr k_v2
    obtain ⟨v3, l_v3, rfl, k_v3, hu_v3⟩ := Kinds.cons_ hu_v2
    obtain ⟨s51a, s51l, s51c, rfl⟩ := kind_slice k_v3
    obtain ⟨v4, l_v4, rfl, k_v4, hu_v4⟩ := Kinds.cons_ hu_v3
    obtain ⟨x52, rfl⟩ := kind_int k_v4
    obtain rfl := Kinds.nil_ hu_v4
    constructor
    · intro h X hX
      exact h (fun x48 w => X [.int .i64 x48] w) (fun x48 w hb => hX [.int .i64 x48] w ⟨rfl, trivial⟩ hb)
    · intro h X hX
      exact h (fun l w => match l with | [v0] => X (pInt v0) w | _ => True) (fun l w hl hb => by
        obtain ⟨v0, l_v0, rfl, k_v0, hl_v0⟩ := Kinds.cons_ hl
        obtain ⟨x48, rfl⟩ := kind_int k_v0
        obtain rfl := Kinds.nil_ hl_v0
        exact hX x48 w hb)

def T_snap_Save (d1 : Option Addr) (x2 : Int) (x3 : Int) (s4a : Option Addr) (s4l : Nat) (s4c : Nat) (s5a : Option Addr) (s5l : Nat) (s5c : Nat) (s6a : Option Addr) (s6l : Nat) (s6c : Nat) (w : World) (R : Ending → World → Prop) : Prop :=
  let w7 : World := w.alloc (.cells #[.int .i64 x2, .int .i64 x3, .slice s4a s4l s4c, .slice s5a s5l s5c, .slice s6a s6l s6c] 29)
  if d1.isNone = true then (R (.returned (.int .i64 1)) w7) else (∃ x8 : Int, ∃ x9 : Int, ∃ s10a : Option Addr, ∃ s10l : Nat, ∃ s10c : Nat, ∃ s11a : Option Addr, ∃ s11l : Nat, ∃ s11c : Nat, ∃ s12a : Option Addr, ∃ s12l : Nat, ∃ s12c : Nat, rd w7 (⟨w.heap.size, 0, none⟩ : Addr) (.agg #[.int .i64 x8, .int .i64 x9, .slice s10a s10l s10c, .slice s11a s11l s11c, .slice s12a s12l s12c]) ∧ Calls Try.prog 9 #[.agg #[.int .i64 x8, .int .i64 x9, .slice s10a s10l s10c, .slice s11a s11l s11c, .slice s12a s12l s12c]] w7 (ret (fun r13 w14 => ∃ s15a : Option Addr, ∃ s15l : Nat, ∃ s15c : Nat, ∃ x16 : Int, r13 = .tuple #[.slice s15a s15l s15c, .int .i64 x16] ∧ if ((x16 : Int) != 0) = true then (R (.returned (.int .i64 x16)) w14) else (Calls Try.prog 38 #[.pointer d1, .string (ByteArray.mk #[115, 110, 97, 112, 46, 116, 109, 112])] w14 (ret (fun r17 w18 => ∃ x19 : Int, r17 = .int .i64 x19 ∧ Calls Try.prog 18 #[.pointer d1, .string (ByteArray.mk #[115, 110, 97, 112, 46, 116, 109, 112]), .int .i64 0, .slice s15a s15l s15c] w18 (ret (fun r20 w21 => ∃ x22 : Int, r20 = .int .i64 x22 ∧ T_snap_Save_1 d1 (⟨w.heap.size, 0, none⟩ : Addr) x22 ((x22 : Int) == 0) w21 (fun e40 w41 => if ((e40 : Int) != 0) = true then (Calls Try.prog 38 #[.pointer d1, .string (ByteArray.mk #[115, 110, 97, 112, 46, 116, 109, 112])] w41 (ret (fun r42 w43 => ∃ x44 : Int, r42 = .int .i64 x44 ∧ R (.returned (.int .i64 e40)) w43) (pan R))) else (Calls Try.prog 40 #[.pointer d1] w41 (ret (fun r45 w46 => ∃ s47a : Option Addr, ∃ s47l : Nat, ∃ s47c : Nat, r45 = .slice s47a s47l s47c ∧ T_snap_Save_2 0 d1 (⟨w.heap.size, 0, none⟩ : Addr) s47a s47l s47c ((s47l : Nat) : Int) w46 (fun w64 => R (.returned (.int .i64 0)) w64) (pan R)) (pan R)))) (pan R)) (pan R))) (pan R)))) (pan R)))

theorem T_snap_Save_hl : allP (hokL Try.prog (hookAt [(507, H_snap_Save_1), (1021, H_snap_Save_2)]) (bodyOf Try.f17) 1) = (UnitOk Try.prog H_snap_Save_1 (at_ (bodyOf Try.f17) [1, 1, 1, 1, 1, 0, 1, 1]) 507 ∧ UnitOk Try.prog H_snap_Save_2 (at_ (bodyOf Try.f17) [1, 1, 1, 1, 1, 1, 1, 0, 1]) 1021 ∧ True) := by kernel_rfl

theorem T_snap_Save_eq (d1 : Option Addr) (x2 : Int) (x3 : Int) (s4a : Option Addr) (s4l : Nat) (s4c : Nat) (s5a : Option Addr) (s5l : Nat) (s5c : Nat) (s6a : Option Addr) (s6l : Nat) (s6c : Nat) (w : World) (R : Ending → World → Prop) : vcCode Try.prog (hookAt [(507, H_snap_Save_1), (1021, H_snap_Save_2)]) (bodyOf Try.f17) 1 ⟨argEnv [.pointer d1, .agg #[.int .i64 x2, .int .i64 x3, .slice s4a s4l s4c, .slice s5a s5l s5c, .slice s6a s6l s6c]] 0, Try.f17.ntmps, []⟩ w (finQ Try.prog Try.f17.results.toList R) = T_snap_Save d1 x2 x3 s4a s4l s4c s5a s5l s5c s6a s6l s6c w R := by kernel_rfl

theorem T_snap_Save_b : Try.f17.body = some (bodyOf Try.f17) := by kernel_rfl
theorem T_snap_Save_s : (quietSel (bodyOf Try.f17) && Nat.ble 2 Try.f17.ntmps) = true := by kernel_rfl

theorem C_snap_Save {d1 : Option Addr} {x2 : Int} {x3 : Int} {s4a : Option Addr} {s4l : Nat} {s4c : Nat} {s5a : Option Addr} {s5l : Nat} {s5c : Nat} {s6a : Option Addr} {s6l : Nat} {s6c : Nat} {w : World} {R : Ending → World → Prop} (h : T_snap_Save d1 x2 x3 s4a s4l s4c s5a s5l s5c s6a s6l s6c w R) : Calls Try.prog 17 #[.pointer d1, .agg #[.int .i64 x2, .int .i64 x3, .slice s4a s4l s4c, .slice s5a s5l s5c, .slice s6a s6l s6c]] w R :=
  calls_of_text (args := [.pointer d1, .agg #[.int .i64 x2, .int .i64 x3, .slice s4a s4l s4c, .slice s5a s5l s5c, .slice s6a s6l s6c]]) mixed Try.func17 T_snap_Save_b T_snap_Save_s (HOk_of _ _ (by rw [T_snap_Save_hl]; exact ⟨T_snap_Save_1_ok, T_snap_Save_2_ok, trivial⟩)) (by rw [T_snap_Save_eq]; exact h)

/-! tollgate/snap.Load -/
def T_snap_Load_1_body (X : Int → World → Prop) (x12 : Int) (d13 : Option Addr) (a14 : Addr) (s15a : Option Addr) (s15l : Nat) (s15c : Nat) (x16 : Int) (w : World) (Kn : World → Prop) (Kr : Int → World → Prop) (Kp : List PanicEntry → World → Prop)  : Prop :=
  if (decide ((x12 : Int) < x16)) = true then (0 ≤ (x12 : Int) ∧ (x12 : Int) < ((s15l : Nat) : Int) ∧ ∃ b17, s15a = some b17 ∧ ∃ s18 : ByteArray, ∃ x19 : Int, rd w (b17.add ((x12 : Int).toNat * 2)) (.agg #[.string s18, .int .i64 x19]) ∧ let w20 : World := w.alloc (.cells #[.string (ByteArray.mk #[]), .int .i64 0] 86)
  (.agg #[.string s18, .int .i64 x19] : Value).cells.size = 2 ∧ wrOk w20 (⟨w.heap.size, 0, none⟩ : Addr) (.agg #[.string s18, .int .i64 x19]) ∧ let w21 : World := wr w20 (⟨w.heap.size, 0, none⟩ : Addr) (.agg #[.string s18, .int .i64 x19])
  ∃ s22 : ByteArray, rd w21 (⟨w.heap.size, 0, none⟩ : Addr) (.string s22) ∧ Calls Try.prog 51 #[.pointer d13, .string s22] w21 (ret (fun r23 w24 => ∃ s25a : Option Addr, ∃ s25l : Nat, ∃ s25c : Nat, ∃ x26 : Int, r23 = .tuple #[.slice s25a s25l s25c, .int .i64 x26] ∧ Calls Try.prog 10 #[.slice s25a s25l s25c] w24 (ret (fun r27 w28 => ∃ x29 : Int, ∃ x30 : Int, ∃ s31a : Option Addr, ∃ s31l : Nat, ∃ s31c : Nat, ∃ s32a : Option Addr, ∃ s32l : Nat, ∃ s32c : Nat, ∃ s33a : Option Addr, ∃ s33l : Nat, ∃ s33c : Nat, ∃ x34 : Int, r27 = .tuple #[.agg #[.int .i64 x29, .int .i64 x30, .slice s31a s31l s31c, .slice s32a s32l s32c, .slice s33a s33l s33c], .int .i64 x34] ∧ let w35 : World := w28.alloc (.cells #[.int .i64 0, .int .i64 0, .slice none 0 0, .slice none 0 0, .slice none 0 0] 29)
  (.agg #[.int .i64 x29, .int .i64 x30, .slice s31a s31l s31c, .slice s32a s32l s32c, .slice s33a s33l s33c] : Value).cells.size = 5 ∧ wrOk w35 (⟨w28.heap.size, 0, none⟩ : Addr) (.agg #[.int .i64 x29, .int .i64 x30, .slice s31a s31l s31c, .slice s32a s32l s32c, .slice s33a s33l s33c]) ∧ let w36 : World := wr w35 (⟨w28.heap.size, 0, none⟩ : Addr) (.agg #[.int .i64 x29, .int .i64 x30, .slice s31a s31l s31c, .slice s32a s32l s32c, .slice s33a s33l s33c])
  if ((x34 : Int) == 0) = true then (∃ x37 : Int, rd w36 (⟨w28.heap.size, 0, none⟩ : Addr) (.int .i64 x37) ∧ ∃ x38 : Int, rd w36 ((⟨w.heap.size, 0, none⟩ : Addr).add 1) (.int .i64 x38) ∧ if ((x37 : Int) == x38) = true then (∃ x39 : Int, ∃ x40 : Int, ∃ s41a : Option Addr, ∃ s41l : Nat, ∃ s41c : Nat, ∃ s42a : Option Addr, ∃ s42l : Nat, ∃ s42c : Nat, ∃ s43a : Option Addr, ∃ s43l : Nat, ∃ s43c : Nat, rd w36 (⟨w28.heap.size, 0, none⟩ : Addr) (.agg #[.int .i64 x39, .int .i64 x40, .slice s41a s41l s41c, .slice s42a s42l s42c, .slice s43a s43l s43c]) ∧ (.agg #[.int .i64 x39, .int .i64 x40, .slice s41a s41l s41c, .slice s42a s42l s42c, .slice s43a s43l s43c] : Value).cells.size = 5 ∧ wrOk w36 a14 (.agg #[.int .i64 x39, .int .i64 x40, .slice s41a s41l s41c, .slice s42a s42l s42c, .slice s43a s43l s43c]) ∧ let w44 : World := wr w36 a14 (.agg #[.int .i64 x39, .int .i64 x40, .slice s41a s41l s41c, .slice s42a s42l s42c, .slice s43a s43l s43c])
  Kr 0 w44) else (X (IntKind.wrap .i64 ((x12 : Int) + 1)) w36)) else (X (IntKind.wrap .i64 ((x12 : Int) + 1)) w36)) Kp)) Kp)) else (Kn  w)

def T_snap_Load_1 (x12 : Int) (d13 : Option Addr) (a14 : Addr) (s15a : Option Addr) (s15l : Nat) (s15c : Nat) (x16 : Int) (w : World) (Kn : World → Prop) (Kr : Int → World → Prop) (Kp : List PanicEntry → World → Prop) : Prop :=
  ∀ X : Int → World → Prop, (∀ (x12 : Int) (w : World), T_snap_Load_1_body X x12 d13 a14 s15a s15l s15c x16 w Kn Kr Kp → X x12 w) → X x12 w

def T_snap_Load_1_outs : Exit → Option (List (Nat × Value)) := fun x => match x with | .normal => some [] | .ret => some [(3, .int .i64 0)] | .panic _ => some [] | _ => none

def T_snap_Load_1_ks : Nat → Bool := ksOf [3, 5, 6, 7, 8, 9, 16, 17, 18, 19, 20, 21, 22, 23, 24, 25, 26, 27, 28, 29, 30, 31, 32, 33, 34, 35, 36, 37, 38, 39, 40, 41, 42, 43]

def H_snap_Load_1 : Env → World → QT → Prop := unitHook 45 T_snap_Load_1_ks [(16, .int .i64 0), (0, .pointer none), (2, .pointer (some ⟨0, 0, none⟩)), (14, .slice none 0 0), (15, .int .i64 0)] T_snap_Load_1_outs fun l w C => match l with | [v0, v1, v2, v3, v4] => T_snap_Load_1 (pInt v0) (pPtr v1) (pAddr v2) (pA v3) (pL v3) (pC v3) (pInt v4) w (fun w => C .normal [] w) (fun x46 w => C .ret [.int .i64 x46] w) (fun ch w => C (.panic ch) [] w) | _ => False

theorem T_snap_Load_1_hl : allP (hokL Try.prog (hookAt []) (at_ (bodyOf Try.f23) [1, 1, 0, 1, 0, 0]) 116) = (True) := by kernel_rfl
theorem T_snap_Load_1_hok : HOk Try.prog (hookAt []) (at_ (bodyOf Try.f23) [1, 1, 0, 1, 0, 0]) 116 := HOk_of _ _ (by rw [T_snap_Load_1_hl]; exact trivial)

theorem T_snap_Load_1_eq (C : Conts) (X : List Value → World → Prop) (x12 : Int) (d13 : Option Addr) (a14 : Addr) (s15a : Option Addr) (s15l : Nat) (s15c : Nat) (x16 : Int) (w : World) : vcCode Try.prog (hookAt []) (at_ (bodyOf Try.f23) [1, 1, 0, 1, 0, 0]) 116 ⟨[(16, .int .i64 x12)] ++ [(0, .pointer d13), (2, .pointer (some a14)), (14, .slice s15a s15l s15c), (15, .int .i64 x16)], 45, []⟩ w (seqQ (fun e w => takeAll e [(16, .int .i64 0)] fun l => X l w) (blockQ 0 (unitQ T_snap_Load_1_outs C))) = T_snap_Load_1_body (fun x12 w => X [.int .i64 x12] w) x12 d13 a14 s15a s15l s15c x16 w (fun w => C .normal [] w) (fun x47 w => C .ret [.int .i64 x47] w) (fun ch w => C (.panic ch) [] w) := by kernel_rfl

theorem T_snap_Load_1_ok : UnitOk Try.prog H_snap_Load_1 (at_ (bodyOf Try.f23) [1, 1, 0, 1]) 29 := by
  have hc : at_ (bodyOf Try.f23) [1, 1, 0, 1] = .block 0 (.loop (at_ (bodyOf Try.f23) [1, 1, 0, 1, 0, 0])) := by kernel_rfl
  rw [hc]
  refine loop_unit_ok (carr := [(16, .int .i64 0)]) (fix := [(0, .pointer none), (2, .pointer (some ⟨0, 0, none⟩)), (14, .slice none 0 0), (15, .int .i64 0)]) (ks := T_snap_Load_1_ks) (H := (hookAt [])) (B := fun C X l u w => match l, u with | [v0], [v1, v2, v3, v4] => T_snap_Load_1_body (fun x12 w => X [.int .i64 x12] w) (pInt v0) (pPtr v1) (pAddr v2) (pA v3) (pL v3) (pC v3) (pInt v4) w (fun w => C .normal [] w) (fun x48 w => C .ret [.int .i64 x48] w) (fun ch w => C (.panic ch) [] w) | _, _ => False) (by kernel_rfl) (by kernel_rfl) T_snap_Load_1_hok ?_ ?_
  · intro C X l u w hl hu
    obtain ⟨v0, l_v0, rfl, k_v0, hl_v0⟩ := Kinds.cons_ hl
    obtain ⟨x12, rfl⟩ := kind_int k_v0
    obtain rfl := Kinds.nil_ hl_v0
    obtain ⟨v1, l_v1, rfl, k_v1, hu_v1⟩ := Kinds.cons_ hu
    obtain ⟨d13, rfl⟩ := kind_pointer k_v1
    obtain ⟨v2, l_v2, rfl, k_v2, hu_v2⟩ := Kinds.cons_ hu_v1
    obtain ⟨a14, rfl⟩ := kind_addr k_v2
    obtain ⟨v3, l_v3, rfl, k_v3, hu_v3⟩ := Kinds.cons_ hu_v2
    obtain ⟨s15a, s15l, s15c, rfl⟩ := kind_slice k_v3
    obtain ⟨v4, l_v4, rfl, k_v4, hu_v4⟩ := Kinds.cons_ hu_v3
    obtain ⟨x16, rfl⟩ := kind_int k_v4
    obtain rfl := Kinds.nil_ hu_v4
    exact T_snap_Load_1_eq C X x12 d13 a14 s15a s15l s15c x16 w
  · intro l u w C hl hu
    obtain ⟨v0, l_v0, rfl, k_v0, hl_v0⟩ := Kinds.cons_ hl
    obtain ⟨x12, rfl⟩ := kind_int k_v0
    obtain rfl := Kinds.nil_ hl_v0
    obtain ⟨v1, l_v1, rfl, k_v1, hu_v1⟩ := Kinds.cons_ hu
    obtain ⟨d13, rfl⟩ := kind_pointer k_v1
    obtain ⟨v2, l_v2, rfl, k_v2, hu_v2⟩ := Kinds.cons_ hu_v1
    obtain ⟨a14, rfl⟩ := kind_addr k_v2
    obtain ⟨v3, l_v3, rfl, k_v3, hu_v3⟩ := Kinds.cons_ hu_v2
    obtain ⟨s15a, s15l, s15c, rfl⟩ := kind_slice k_v3
    obtain ⟨v4, l_v4, rfl, k_v4, hu_v4⟩ := Kinds.cons_ hu_v3
    obtain ⟨x16, rfl⟩ := kind_int k_v4
    obtain rfl := Kinds.nil_ hu_v4
    constructor
    · intro h X hX
      exact h (fun x12 w => X [.int .i64 x12] w) (fun x12 w hb => hX [.int .i64 x12] w ⟨rfl, trivial⟩ hb)
    · intro h X hX
      exact h (fun l w => match l with | [v0] => X (pInt v0) w | _ => True) (fun l w hl hb => by
        obtain ⟨v0, l_v0, rfl, k_v0, hl_v0⟩ := Kinds.cons_ hl
        obtain ⟨x12, rfl⟩ := kind_int k_v0
        obtain rfl := Kinds.nil_ hl_v0
        exact hX x12 w hb)

def T_snap_Load (d1 : Option Addr) (w : World) (R : Ending → World → Prop) : Prop :=
  let w2 : World := w.alloc (.cells #[.int .i64 0, .int .i64 0, .slice none 0 0, .slice none 0 0, .slice none 0 0] 29)
  if d1.isNone = true then ((.agg #[.int .i64 0, .int .i64 0, .slice none 0 0, .slice none 0 0, .slice none 0 0] : Value).cells.size = 5 ∧ wrOk w2 (⟨w.heap.size, 0, none⟩ : Addr) (.agg #[.int .i64 0, .int .i64 0, .slice none 0 0, .slice none 0 0, .slice none 0 0]) ∧ let w3 : World := wr w2 (⟨w.heap.size, 0, none⟩ : Addr) (.agg #[.int .i64 0, .int .i64 0, .slice none 0 0, .slice none 0 0, .slice none 0 0])
  ∃ x4 : Int, ∃ x5 : Int, ∃ s6a : Option Addr, ∃ s6l : Nat, ∃ s6c : Nat, ∃ s7a : Option Addr, ∃ s7l : Nat, ∃ s7c : Nat, ∃ s8a : Option Addr, ∃ s8l : Nat, ∃ s8c : Nat, rd w3 (⟨w.heap.size, 0, none⟩ : Addr) (.agg #[.int .i64 x4, .int .i64 x5, .slice s6a s6l s6c, .slice s7a s7l s7c, .slice s8a s8l s8c]) ∧ R (.returned (.tuple #[.agg #[.int .i64 x4, .int .i64 x5, .slice s6a s6l s6c, .slice s7a s7l s7c, .slice s8a s8l s8c], .int .i64 1])) w3) else (Calls Try.prog 40 #[.pointer d1] w2 (ret (fun r9 w10 => ∃ s11a : Option Addr, ∃ s11l : Nat, ∃ s11c : Nat, r9 = .slice s11a s11l s11c ∧ T_snap_Load_1 0 d1 (⟨w.heap.size, 0, none⟩ : Addr) s11a s11l s11c ((s11l : Nat) : Int) w10 (fun w49 => (.agg #[.int .i64 0, .int .i64 0, .slice none 0 0, .slice none 0 0, .slice none 0 0] : Value).cells.size = 5 ∧ wrOk w49 (⟨w.heap.size, 0, none⟩ : Addr) (.agg #[.int .i64 0, .int .i64 0, .slice none 0 0, .slice none 0 0, .slice none 0 0]) ∧ let w50 : World := wr w49 (⟨w.heap.size, 0, none⟩ : Addr) (.agg #[.int .i64 0, .int .i64 0, .slice none 0 0, .slice none 0 0, .slice none 0 0])
  ∃ x51 : Int, ∃ x52 : Int, ∃ s53a : Option Addr, ∃ s53l : Nat, ∃ s53c : Nat, ∃ s54a : Option Addr, ∃ s54l : Nat, ∃ s54c : Nat, ∃ s55a : Option Addr, ∃ s55l : Nat, ∃ s55c : Nat, rd w50 (⟨w.heap.size, 0, none⟩ : Addr) (.agg #[.int .i64 x51, .int .i64 x52, .slice s53a s53l s53c, .slice s54a s54l s54c, .slice s55a s55l s55c]) ∧ R (.returned (.tuple #[.agg #[.int .i64 x51, .int .i64 x52, .slice s53a s53l s53c, .slice s54a s54l s54c, .slice s55a s55l s55c], .int .i64 8])) w50) (fun x56 w57 => ∃ x58 : Int, ∃ x59 : Int, ∃ s60a : Option Addr, ∃ s60l : Nat, ∃ s60c : Nat, ∃ s61a : Option Addr, ∃ s61l : Nat, ∃ s61c : Nat, ∃ s62a : Option Addr, ∃ s62l : Nat, ∃ s62c : Nat, rd w57 (⟨w.heap.size, 0, none⟩ : Addr) (.agg #[.int .i64 x58, .int .i64 x59, .slice s60a s60l s60c, .slice s61a s61l s61c, .slice s62a s62l s62c]) ∧ R (.returned (.tuple #[.agg #[.int .i64 x58, .int .i64 x59, .slice s60a s60l s60c, .slice s61a s61l s61c, .slice s62a s62l s62c], .int .i64 x56])) w57) (pan R)) (pan R)))

theorem T_snap_Load_hl : allP (hokL Try.prog (hookAt [(29, H_snap_Load_1)]) (bodyOf Try.f23) 1) = (UnitOk Try.prog H_snap_Load_1 (at_ (bodyOf Try.f23) [1, 1, 0, 1]) 29 ∧ True) := by kernel_rfl

theorem T_snap_Load_eq (d1 : Option Addr) (w : World) (R : Ending → World → Prop) : vcCode Try.prog (hookAt [(29, H_snap_Load_1)]) (bodyOf Try.f23) 1 ⟨argEnv [.pointer d1] 0, Try.f23.ntmps, []⟩ w (finQ Try.prog Try.f23.results.toList R) = T_snap_Load d1 w R := by kernel_rfl

theorem T_snap_Load_b : Try.f23.body = some (bodyOf Try.f23) := by kernel_rfl
theorem T_snap_Load_s : (quietSel (bodyOf Try.f23) && Nat.ble 1 Try.f23.ntmps) = true := by kernel_rfl

theorem C_snap_Load {d1 : Option Addr} {w : World} {R : Ending → World → Prop} (h : T_snap_Load d1 w R) : Calls Try.prog 23 #[.pointer d1] w R :=
  calls_of_text (args := [.pointer d1]) mixed Try.func23 T_snap_Load_b T_snap_Load_s (HOk_of _ _ (by rw [T_snap_Load_hl]; exact ⟨T_snap_Load_1_ok, trivial⟩)) (by rw [T_snap_Load_eq]; exact h)

/-! tollgate/snap.Pieces -/
def T_snap_Pieces_1_body (X : Option Addr → Nat → Nat → Int → World → Prop) (out14a : Option Addr) (out14l : Nat) (out14c : Nat) (at15 : Int) (b16a : Option Addr) (b16l : Nat) (b16c : Nat) (size17 : Int) (w : World) (Kn : Option Addr → Nat → Nat → World → Prop) (Kp : List PanicEntry → World → Prop)  : Prop :=
  if (decide ((at15 : Int) < ((b16l : Nat) : Int))) = true then (let w18 : World := w.drew
  0 ≤ (IntKind.wrap .i64 ((at15 : Int) + (if (IntKind.wrap .i64 (((b16l : Nat) : Int) - at15)) < size17 then (IntKind.wrap .i64 (((b16l : Nat) : Int) - at15)) else size17)) : Int) ∧ (IntKind.wrap .i64 ((at15 : Int) + (if (IntKind.wrap .i64 (((b16l : Nat) : Int) - at15)) < size17 then (IntKind.wrap .i64 (((b16l : Nat) : Int) - at15)) else size17)) : Int) ≤ ((b16c : Nat) : Int) ∧ 0 ≤ (at15 : Int) ∧ (at15 : Int) ≤ (((IntKind.wrap .i64 ((at15 : Int) + (if (IntKind.wrap .i64 (((b16l : Nat) : Int) - at15)) < size17 then (IntKind.wrap .i64 (((b16l : Nat) : Int) - at15)) else size17)) : Int).toNat : Nat) : Int) ∧ Calls Try.prog 29 #[.slice none 0 0, .int .i64 ((b16l : Nat) : Int)] w18 (ret (fun r19 w20 => ∃ s21a : Option Addr, ∃ s21l : Nat, ∃ s21c : Nat, r19 = .slice s21a s21l s21c ∧ (True) ∧ Calls Try.prog 29 #[.slice s21a s21l s21c, .int .i64 at15] w20 (ret (fun r22 w23 => ∃ s24a : Option Addr, ∃ s24l : Nat, ∃ s24c : Nat, r22 = .slice s24a s24l s24c ∧ (True) ∧ runV Try.prog (Builtin.append_ #[27, 27] 27 #[.slice s24a s24l s24c, .slice (if b16c = ((at15 : Int).toNat) then b16a else b16a.map (fun x => x.add (((at15 : Int).toNat) * 1))) (((IntKind.wrap .i64 ((at15 : Int) + (if (IntKind.wrap .i64 (((b16l : Nat) : Int) - at15)) < size17 then (IntKind.wrap .i64 (((b16l : Nat) : Int) - at15)) else size17)) : Int).toNat) - ((at15 : Int).toNat)) (b16c - ((at15 : Int).toNat))]) w23 (fun r25 w26 => ∃ s27a : Option Addr, ∃ s27l : Nat, ∃ s27c : Nat, r25 = .slice s27a s27l s27c ∧ (True) ∧ let w28 : World := w26.alloc (.cells #[.slice s27a s27l s27c] 27)
  (True) ∧ runV Try.prog (Builtin.append_ #[40, 40] 40 #[.slice out14a out14l out14c, .slice (some (⟨w26.heap.size, 0, none⟩ : Addr)) 1 1]) w28 (fun r29 w30 => ∃ s31a : Option Addr, ∃ s31l : Nat, ∃ s31c : Nat, r29 = .slice s31a s31l s31c ∧ (True) ∧ X s31a s31l s31c (IntKind.wrap .i64 ((at15 : Int) + (if (IntKind.wrap .i64 (((b16l : Nat) : Int) - at15)) < size17 then (IntKind.wrap .i64 (((b16l : Nat) : Int) - at15)) else size17))) w30) Kp) Kp) Kp)) Kp)) else (Kn out14a out14l out14c w)

def T_snap_Pieces_1 (out14a : Option Addr) (out14l : Nat) (out14c : Nat) (at15 : Int) (b16a : Option Addr) (b16l : Nat) (b16c : Nat) (size17 : Int) (w : World) (Kn : Option Addr → Nat → Nat → World → Prop) (Kp : List PanicEntry → World → Prop) : Prop :=
  ∀ X : Option Addr → Nat → Nat → Int → World → Prop, (∀ (out14a : Option Addr) (out14l : Nat) (out14c : Nat) (at15 : Int) (w : World), T_snap_Pieces_1_body X out14a out14l out14c at15 b16a b16l b16c size17 w Kn Kp → X out14a out14l out14c at15 w) → X out14a out14l out14c at15 w

def T_snap_Pieces_1_outs : Exit → Option (List (Nat × Value)) := fun x => match x with | .normal => some [(6, .slice none 0 0)] | .panic _ => some [] | _ => none

def T_snap_Pieces_1_ks : Nat → Bool := ksOf [6, 7, 31, 32, 33, 34, 35, 36, 37, 38, 39, 40, 41, 42, 43, 44, 45, 46, 47, 48, 49, 50, 51, 52, 53, 54, 55, 56, 57, 58, 59, 60, 61, 62]

def H_snap_Pieces_1 : Env → World → QT → Prop := unitHook 64 T_snap_Pieces_1_ks [(6, .slice none 0 0), (7, .int .i64 0), (0, .slice none 0 0), (1, .int .i64 0)] T_snap_Pieces_1_outs fun l w C => match l with | [v0, v1, v2, v3] => T_snap_Pieces_1 (pA v0) (pL v0) (pC v0) (pInt v1) (pA v2) (pL v2) (pC v2) (pInt v3) w (fun out33a out33l out33c w => C .normal [.slice out33a out33l out33c] w) (fun ch w => C (.panic ch) [] w) | _ => False

theorem T_snap_Pieces_1_hl : allP (hokL Try.prog (hookAt []) (at_ (bodyOf Try.f13) [1, 1, 1, 0, 1, 0, 0]) 244) = (True) := by kernel_rfl
theorem T_snap_Pieces_1_hok : HOk Try.prog (hookAt []) (at_ (bodyOf Try.f13) [1, 1, 1, 0, 1, 0, 0]) 244 := HOk_of _ _ (by rw [T_snap_Pieces_1_hl]; exact trivial)

theorem T_snap_Pieces_1_eq (C : Conts) (X : List Value → World → Prop) (out14a : Option Addr) (out14l : Nat) (out14c : Nat) (at15 : Int) (b16a : Option Addr) (b16l : Nat) (b16c : Nat) (size17 : Int) (w : World) : vcCode Try.prog (hookAt []) (at_ (bodyOf Try.f13) [1, 1, 1, 0, 1, 0, 0]) 244 ⟨[(6, .slice out14a out14l out14c), (7, .int .i64 at15)] ++ [(0, .slice b16a b16l b16c), (1, .int .i64 size17)], 64, []⟩ w (seqQ (fun e w => takeAll e [(6, .slice none 0 0), (7, .int .i64 0)] fun l => X l w) (blockQ 1 (unitQ T_snap_Pieces_1_outs C))) = T_snap_Pieces_1_body (fun out14a out14l out14c at15 w => X [.slice out14a out14l out14c, .int .i64 at15] w) out14a out14l out14c at15 b16a b16l b16c size17 w (fun out34a out34l out34c w => C .normal [.slice out34a out34l out34c] w) (fun ch w => C (.panic ch) [] w) := by kernel_rfl

theorem T_snap_Pieces_1_ok : UnitOk Try.prog H_snap_Pieces_1 (at_ (bodyOf Try.f13) [1, 1, 1, 0, 1]) 61 := by
  have hc : at_ (bodyOf Try.f13) [1, 1, 1, 0, 1] = .block 1 (.loop (at_ (bodyOf Try.f13) [1, 1, 1, 0, 1, 0, 0])) := by kernel_rfl
  rw [hc]
  refine loop_unit_ok (carr := [(6, .slice none 0 0), (7, .int .i64 0)]) (fix := [(0, .slice none 0 0), (1, .int .i64 0)]) (ks := T_snap_Pieces_1_ks) (H := (hookAt [])) (B := fun C X l u w => match l, u with | [v0, v1], [v2, v3] => T_snap_Pieces_1_body (fun out14a out14l out14c at15 w => X [.slice out14a out14l out14c, .int .i64 at15] w) (pA v0) (pL v0) (pC v0) (pInt v1) (pA v2) (pL v2) (pC v2) (pInt v3) w (fun out35a out35l out35c w => C .normal [.slice out35a out35l out35c] w) (fun ch w => C (.panic ch) [] w) | _, _ => False) (by kernel_rfl) (by kernel_rfl) T_snap_Pieces_1_hok ?_ ?_
  · intro C X l u w hl hu
    obtain ⟨v0, l_v0, rfl, k_v0, hl_v0⟩ := Kinds.cons_ hl
    obtain ⟨out14a, out14l, out14c, rfl⟩ := kind_slice k_v0
    obtain ⟨v1, l_v1, rfl, k_v1, hl_v1⟩ := Kinds.cons_ hl_v0
    obtain ⟨at15, rfl⟩ := kind_int k_v1
    obtain rfl := Kinds.nil_ hl_v1
    obtain ⟨v2, l_v2, rfl, k_v2, hu_v2⟩ := Kinds.cons_ hu
    obtain ⟨b16a, b16l, b16c, rfl⟩ := kind_slice k_v2
    obtain ⟨v3, l_v3, rfl, k_v3, hu_v3⟩ := Kinds.cons_ hu_v2
    obtain ⟨size17, rfl⟩ := kind_int k_v3
    obtain rfl := Kinds.nil_ hu_v3
    exact T_snap_Pieces_1_eq C X out14a out14l out14c at15 b16a b16l b16c size17 w
  · intro l u w C hl hu
    obtain ⟨v0, l_v0, rfl, k_v0, hl_v0⟩ := Kinds.cons_ hl
    obtain ⟨out14a, out14l, out14c, rfl⟩ := kind_slice k_v0
    obtain ⟨v1, l_v1, rfl, k_v1, hl_v1⟩ := Kinds.cons_ hl_v0
    obtain ⟨at15, rfl⟩ := kind_int k_v1
    obtain rfl := Kinds.nil_ hl_v1
    obtain ⟨v2, l_v2, rfl, k_v2, hu_v2⟩ := Kinds.cons_ hu
    obtain ⟨b16a, b16l, b16c, rfl⟩ := kind_slice k_v2
    obtain ⟨v3, l_v3, rfl, k_v3, hu_v3⟩ := Kinds.cons_ hu_v2
    obtain ⟨size17, rfl⟩ := kind_int k_v3
    obtain rfl := Kinds.nil_ hu_v3
    constructor
    · intro h X hX
      exact h (fun out14a out14l out14c at15 w => X [.slice out14a out14l out14c, .int .i64 at15] w) (fun out14a out14l out14c at15 w hb => hX [.slice out14a out14l out14c, .int .i64 at15] w ⟨rfl, rfl, trivial⟩ hb)
    · intro h X hX
      exact h (fun l w => match l with | [v0, v1] => X (pA v0) (pL v0) (pC v0) (pInt v1) w | _ => True) (fun l w hl hb => by
        obtain ⟨v0, l_v0, rfl, k_v0, hl_v0⟩ := Kinds.cons_ hl
        obtain ⟨out14a, out14l, out14c, rfl⟩ := kind_slice k_v0
        obtain ⟨v1, l_v1, rfl, k_v1, hl_v1⟩ := Kinds.cons_ hl_v0
        obtain ⟨at15, rfl⟩ := kind_int k_v1
        obtain rfl := Kinds.nil_ hl_v1
        exact hX out14a out14l out14c at15 w hb)

def T_snap_Pieces (b1a : Option Addr) (b1l : Nat) (b1c : Nat) (size2 : Int) (w : World) (R : Ending → World → Prop) : Prop :=
  if (decide ((size2 : Int) < 1)) = true then (R (.returned (.tuple #[.slice none 0 0, .int .i64 2])) w) else (if (decide (((b1l : Nat) : Int) > 32768)) = true then (R (.returned (.tuple #[.slice none 0 0, .int .i64 6])) w) else (let w3 : World := w.drew
  0 ≤ (if ((b1l : Nat) : Int) < size2 then ((b1l : Nat) : Int) else size2 : Int) ∧ (if ((b1l : Nat) : Int) < size2 then ((b1l : Nat) : Int) else size2 : Int) ≤ ((b1c : Nat) : Int) ∧ Calls Try.prog 29 #[.slice none 0 0, .int .i64 ((b1l : Nat) : Int)] w3 (ret (fun r4 w5 => ∃ s6a : Option Addr, ∃ s6l : Nat, ∃ s6c : Nat, r4 = .slice s6a s6l s6c ∧ (True) ∧ Calls Try.prog 29 #[.slice s6a s6l s6c, .int .i64 0] w5 (ret (fun r7 w8 => ∃ s9a : Option Addr, ∃ s9l : Nat, ∃ s9c : Nat, r7 = .slice s9a s9l s9c ∧ (True) ∧ runV Try.prog (Builtin.append_ #[27, 27] 27 #[.slice s9a s9l s9c, .slice (if b1c = 0 then b1a else b1a.map (fun x => x.add (0 * 1))) (((if ((b1l : Nat) : Int) < size2 then ((b1l : Nat) : Int) else size2 : Int).toNat) - 0) (b1c - 0)]) w8 (fun r10 w11 => ∃ s12a : Option Addr, ∃ s12l : Nat, ∃ s12c : Nat, r10 = .slice s12a s12l s12c ∧ (True) ∧ let w13 : World := w11.alloc (.cells #[.slice s12a s12l s12c] 27)
  (True) ∧ T_snap_Pieces_1 (some (⟨w11.heap.size, 0, none⟩ : Addr)) 1 1 (if ((b1l : Nat) : Int) < size2 then ((b1l : Nat) : Int) else size2) b1a b1l b1c size2 w13 (fun out36a out36l out36c w37 => R (.returned (.tuple #[.slice out36a out36l out36c, .int .i64 0])) w37) (pan R)) (pan R)) (pan R))) (pan R))))

theorem T_snap_Pieces_hl : allP (hokL Try.prog (hookAt [(61, H_snap_Pieces_1)]) (bodyOf Try.f13) 1) = (UnitOk Try.prog H_snap_Pieces_1 (at_ (bodyOf Try.f13) [1, 1, 1, 0, 1]) 61 ∧ True) := by kernel_rfl

theorem T_snap_Pieces_eq (b1a : Option Addr) (b1l : Nat) (b1c : Nat) (size2 : Int) (w : World) (R : Ending → World → Prop) : vcCode Try.prog (hookAt [(61, H_snap_Pieces_1)]) (bodyOf Try.f13) 1 ⟨argEnv [.slice b1a b1l b1c, .int .i64 size2] 0, Try.f13.ntmps, []⟩ w (finQ Try.prog Try.f13.results.toList R) = T_snap_Pieces b1a b1l b1c size2 w R := by kernel_rfl

theorem T_snap_Pieces_b : Try.f13.body = some (bodyOf Try.f13) := by kernel_rfl
theorem T_snap_Pieces_s : (quietSel (bodyOf Try.f13) && Nat.ble 2 Try.f13.ntmps) = true := by kernel_rfl

theorem C_snap_Pieces {b1a : Option Addr} {b1l : Nat} {b1c : Nat} {size2 : Int} {w : World} {R : Ending → World → Prop} (h : T_snap_Pieces b1a b1l b1c size2 w R) : Calls Try.prog 13 #[.slice b1a b1l b1c, .int .i64 size2] w R :=
  calls_of_text (args := [.slice b1a b1l b1c, .int .i64 size2]) mixed Try.func13 T_snap_Pieces_b T_snap_Pieces_s (HOk_of _ _ (by rw [T_snap_Pieces_hl]; exact ⟨T_snap_Pieces_1_ok, trivial⟩)) (by rw [T_snap_Pieces_eq]; exact h)

/-! tollgate/snap.NewGather -/
def T_snap_NewGather  (w : World) (R : Ending → World → Prop) : Prop :=
  let w1 : World := w.alloc (.cells #[.bool false, .int .i64 0, .slice none 0 0] 107)
  R (.returned (.pointer (some (⟨w.heap.size, 0, none⟩ : Addr)))) w1

theorem T_snap_NewGather_hl : allP (hokL Try.prog (hookAt []) (bodyOf Try.f25) 1) = (True) := by kernel_rfl

theorem T_snap_NewGather_eq  (w : World) (R : Ending → World → Prop) : vcCode Try.prog (hookAt []) (bodyOf Try.f25) 1 ⟨argEnv [] 0, Try.f25.ntmps, []⟩ w (finQ Try.prog Try.f25.results.toList R) = T_snap_NewGather  w R := by kernel_rfl

theorem T_snap_NewGather_b : Try.f25.body = some (bodyOf Try.f25) := by kernel_rfl
theorem T_snap_NewGather_s : (quietSel (bodyOf Try.f25) && Nat.ble 0 Try.f25.ntmps) = true := by kernel_rfl

theorem C_snap_NewGather  {w : World} {R : Ending → World → Prop} (h : T_snap_NewGather  w R) : Calls Try.prog 25 #[] w R :=
  calls_of_text (args := []) mixed Try.func25 T_snap_NewGather_b T_snap_NewGather_s (HOk_of _ _ (by rw [T_snap_NewGather_hl]; exact trivial)) (by rw [T_snap_NewGather_eq]; exact h)

/-! (*tollgate/snap.Gather).Add -/
def T_snap_Gather_Add_2 (total34 : Int) (place35 : Int) (in36a : Option Addr) (in36l : Nat) (in36c : Nat) (w : World) (Kn : Bool → World → Prop) (Kp : List PanicEntry → World → Prop) : Prop :=
  if (decide ((place35 : Int) > total34)) = true then (Kn true w) else (if (decide (((in36l : Nat) : Int) > (IntKind.wrap .i64 ((total34 : Int) - place35)))) = true then (Kn true w) else (if (((in36l : Nat) : Int) == 0) = true then (Kn (decide ((total34 : Int) > 0)) w) else (Kn false w)))

def T_snap_Gather_Add_2_outs : Exit → Option (List (Nat × Value)) := fun x => match x with | .normal => some [(46, .bool false)] | .panic _ => some [] | _ => none

def T_snap_Gather_Add_2_ks : Nat → Bool := ksOf [46, 47, 48, 49, 50, 51, 52, 53, 54, 55, 56, 57, 58, 59, 60, 61, 62, 63, 64, 65, 66]

def H_snap_Gather_Add_2 : Env → World → QT → Prop := unitHook 136 T_snap_Gather_Add_2_ks [(7, .int .i64 0), (10, .int .i64 0), (11, .slice none 0 0)] T_snap_Gather_Add_2_outs fun l w C => match l with | [v0, v1, v2] => T_snap_Gather_Add_2 (pInt v0) (pInt v1) (pA v2) (pL v2) (pC v2) w (fun b38 w => C .normal [.bool b38] w) (fun ch w => C (.panic ch) [] w) | _ => False

theorem T_snap_Gather_Add_2_hl : allP (hokL Try.prog (hookAt []) (at_ (bodyOf Try.f26) [1, 1, 1, 1, 1, 1, 0, 0, 1, 1, 1, 1, 0]) 16286) = (True) := by kernel_rfl
theorem T_snap_Gather_Add_2_hok : HOk Try.prog (hookAt []) (at_ (bodyOf Try.f26) [1, 1, 1, 1, 1, 1, 0, 0, 1, 1, 1, 1, 0]) 16286 := HOk_of _ _ (by rw [T_snap_Gather_Add_2_hl]; exact trivial)

theorem T_snap_Gather_Add_2_eq (C : Conts) (total34 : Int) (place35 : Int) (in36a : Option Addr) (in36l : Nat) (in36c : Nat) (w : World) : vcCode Try.prog (hookAt []) (at_ (bodyOf Try.f26) [1, 1, 1, 1, 1, 1, 0, 0, 1, 1, 1, 1, 0]) 16286 ⟨[(7, .int .i64 total34), (10, .int .i64 place35), (11, .slice in36a in36l in36c)], 136, []⟩ w (unitQ T_snap_Gather_Add_2_outs C) = T_snap_Gather_Add_2 total34 place35 in36a in36l in36c w (fun b39 w => C .normal [.bool b39] w) (fun ch w => C (.panic ch) [] w) := by kernel_rfl

theorem T_snap_Gather_Add_2_ok : UnitOk Try.prog H_snap_Gather_Add_2 (at_ (bodyOf Try.f26) [1, 1, 1, 1, 1, 1, 0, 0, 1, 1, 1, 1, 0]) 16286 := unit_ok (H := (hookAt [])) (by kernel_rfl) T_snap_Gather_Add_2_hok fun l w C hk => by
    obtain ⟨v0, l_v0, rfl, k_v0, hk_v0⟩ := Kinds.cons_ hk
    obtain ⟨total34, rfl⟩ := kind_int k_v0
    obtain ⟨v1, l_v1, rfl, k_v1, hk_v1⟩ := Kinds.cons_ hk_v0
    obtain ⟨place35, rfl⟩ := kind_int k_v1
    obtain ⟨v2, l_v2, rfl, k_v2, hk_v2⟩ := Kinds.cons_ hk_v1
    obtain ⟨in36a, in36l, in36c, rfl⟩ := kind_slice k_v2
    obtain rfl := Kinds.nil_ hk_v2
    exact T_snap_Gather_Add_2_eq C total34 place35 in36a in36l in36c w

def T_snap_Gather_Add_3 (g43 : Option Addr) (total44 : Int) (place45 : Int) (w : World) (Kn : Bool → World → Prop) (Kp : List PanicEntry → World → Prop) : Prop :=
  if (decide ((place45 : Int) > 0)) = true then (∃ a46, g43 = some a46 ∧ ∃ b47 : Bool, rd w a46 (.bool b47) ∧ if (!b47) = true then (Kn true w) else (∃ a48, g43 = some a48 ∧ ∃ x49 : Int, rd w (a48.add 1) (.int .i64 x49) ∧ if ((x49 : Int) != total44) = true then (Kn true w) else (∃ a50, g43 = some a50 ∧ ∃ s51a : Option Addr, ∃ s51l : Nat, ∃ s51c : Nat, rd w (a50.add 2) (.slice s51a s51l s51c) ∧ Kn (((s51l : Nat) : Int) != place45) w))) else (Kn false w)

def T_snap_Gather_Add_3_outs : Exit → Option (List (Nat × Value)) := fun x => match x with | .normal => some [(68, .bool false)] | .panic _ => some [] | _ => none

def T_snap_Gather_Add_3_ks : Nat → Bool := ksOf [68, 69, 70, 71, 72, 73, 74, 75, 76, 77, 78, 79, 80, 81, 82, 83, 84, 85, 86, 87, 88, 89, 90, 91, 92, 93, 94]

def H_snap_Gather_Add_3 : Env → World → QT → Prop := unitHook 136 T_snap_Gather_Add_3_ks [(0, .pointer none), (7, .int .i64 0), (10, .int .i64 0)] T_snap_Gather_Add_3_outs fun l w C => match l with | [v0, v1, v2] => T_snap_Gather_Add_3 (pPtr v0) (pInt v1) (pInt v2) w (fun b53 w => C .normal [.bool b53] w) (fun ch w => C (.panic ch) [] w) | _ => False

theorem T_snap_Gather_Add_3_hl : allP (hokL Try.prog (hookAt []) (at_ (bodyOf Try.f26) [1, 1, 1, 1, 1, 1, 0, 0, 1, 1, 1, 1, 1, 1, 0]) 65150) = (True) := by kernel_rfl
theorem T_snap_Gather_Add_3_hok : HOk Try.prog (hookAt []) (at_ (bodyOf Try.f26) [1, 1, 1, 1, 1, 1, 0, 0, 1, 1, 1, 1, 1, 1, 0]) 65150 := HOk_of _ _ (by rw [T_snap_Gather_Add_3_hl]; exact trivial)

theorem T_snap_Gather_Add_3_eq (C : Conts) (g43 : Option Addr) (total44 : Int) (place45 : Int) (w : World) : vcCode Try.prog (hookAt []) (at_ (bodyOf Try.f26) [1, 1, 1, 1, 1, 1, 0, 0, 1, 1, 1, 1, 1, 1, 0]) 65150 ⟨[(0, .pointer g43), (7, .int .i64 total44), (10, .int .i64 place45)], 136, []⟩ w (unitQ T_snap_Gather_Add_3_outs C) = T_snap_Gather_Add_3 g43 total44 place45 w (fun b54 w => C .normal [.bool b54] w) (fun ch w => C (.panic ch) [] w) := by kernel_rfl

theorem T_snap_Gather_Add_3_ok : UnitOk Try.prog H_snap_Gather_Add_3 (at_ (bodyOf Try.f26) [1, 1, 1, 1, 1, 1, 0, 0, 1, 1, 1, 1, 1, 1, 0]) 65150 := unit_ok (H := (hookAt [])) (by kernel_rfl) T_snap_Gather_Add_3_hok fun l w C hk => by
    obtain ⟨v0, l_v0, rfl, k_v0, hk_v0⟩ := Kinds.cons_ hk
    obtain ⟨g43, rfl⟩ := kind_pointer k_v0
    obtain ⟨v1, l_v1, rfl, k_v1, hk_v1⟩ := Kinds.cons_ hk_v0
    obtain ⟨total44, rfl⟩ := kind_int k_v1
    obtain ⟨v2, l_v2, rfl, k_v2, hk_v2⟩ := Kinds.cons_ hk_v1
    obtain ⟨place45, rfl⟩ := kind_int k_v2
    obtain rfl := Kinds.nil_ hk_v2
    exact T_snap_Gather_Add_3_eq C g43 total44 place45 w

def T_snap_Gather_Add_1 (g26 : Option Addr) (a27 : Addr) (total28 : Int) (e29 : Int) (place30 : Int) (in31a : Option Addr) (in31l : Nat) (in31c : Nat) (w : World) (Kn : World → Prop) (Kr : Bool → Int → World → Prop) (Kp : List PanicEntry → World → Prop) : Prop :=
  if ((e29 : Int) != 0) = true then ((.agg #[.int .i64 0, .int .i64 0, .slice none 0 0, .slice none 0 0, .slice none 0 0] : Value).cells.size = 5 ∧ wrOk w a27 (.agg #[.int .i64 0, .int .i64 0, .slice none 0 0, .slice none 0 0, .slice none 0 0]) ∧ let w32 : World := wr w a27 (.agg #[.int .i64 0, .int .i64 0, .slice none 0 0, .slice none 0 0, .slice none 0 0])
  Kr false e29 w32) else (if (decide ((total28 : Int) > 32768)) = true then ((.agg #[.int .i64 0, .int .i64 0, .slice none 0 0, .slice none 0 0, .slice none 0 0] : Value).cells.size = 5 ∧ wrOk w a27 (.agg #[.int .i64 0, .int .i64 0, .slice none 0 0, .slice none 0 0, .slice none 0 0]) ∧ let w33 : World := wr w a27 (.agg #[.int .i64 0, .int .i64 0, .slice none 0 0, .slice none 0 0, .slice none 0 0])
  Kr false 6 w33) else (T_snap_Gather_Add_2 total28 place30 in31a in31l in31c w (fun b40 w41 => if b40 = true then ((.agg #[.int .i64 0, .int .i64 0, .slice none 0 0, .slice none 0 0, .slice none 0 0] : Value).cells.size = 5 ∧ wrOk w41 a27 (.agg #[.int .i64 0, .int .i64 0, .slice none 0 0, .slice none 0 0, .slice none 0 0]) ∧ let w42 : World := wr w41 a27 (.agg #[.int .i64 0, .int .i64 0, .slice none 0 0, .slice none 0 0, .slice none 0 0])
  Kr false 4 w42) else (T_snap_Gather_Add_3 g26 total28 place30 w41 (fun b55 w56 => if b55 = true then ((.agg #[.int .i64 0, .int .i64 0, .slice none 0 0, .slice none 0 0, .slice none 0 0] : Value).cells.size = 5 ∧ wrOk w56 a27 (.agg #[.int .i64 0, .int .i64 0, .slice none 0 0, .slice none 0 0, .slice none 0 0]) ∧ let w57 : World := wr w56 a27 (.agg #[.int .i64 0, .int .i64 0, .slice none 0 0, .slice none 0 0, .slice none 0 0])
  Kr false 12 w57) else (if ((place30 : Int) == 0) = true then (∃ a58, g26 = some a58 ∧ (.agg #[.bool true, .int .i64 total28, .slice none 0 0] : Value).cells.size = 3 ∧ wrOk w56 a58 (.agg #[.bool true, .int .i64 total28, .slice none 0 0]) ∧ let w59 : World := wr w56 a58 (.agg #[.bool true, .int .i64 total28, .slice none 0 0])
  Kn  w59) else (Kn  w56))) Kp)) Kp))

def T_snap_Gather_Add_1_outs : Exit → Option (List (Nat × Value)) := fun x => match x with | .normal => some [] | .ret => some [(5, .bool false), (6, .int .i64 0)] | .panic _ => some [] | _ => none

def T_snap_Gather_Add_1_ks : Nat → Bool := ksOf [5, 6, 37, 38, 39, 40, 41, 42, 43, 44, 45, 46, 47, 48, 49, 50, 51, 52, 53, 54, 55, 56, 57, 58, 59, 60, 61, 62, 63, 64, 65, 66, 67, 68, 69, 70, 71, 72, 73, 74, 75, 76, 77, 78, 79, 80, 81, 82, 83, 84, 85, 86, 87, 88, 89, 90, 91, 92, 93, 94, 95, 96, 97, 98, 99, 100, 101, 102]

def H_snap_Gather_Add_1 : Env → World → QT → Prop := unitHook 136 T_snap_Gather_Add_1_ks [(0, .pointer none), (4, .pointer (some ⟨0, 0, none⟩)), (7, .int .i64 0), (9, .int .i64 0), (10, .int .i64 0), (11, .slice none 0 0)] T_snap_Gather_Add_1_outs fun l w C => match l with | [v0, v1, v2, v3, v4, v5] => T_snap_Gather_Add_1 (pPtr v0) (pAddr v1) (pInt v2) (pInt v3) (pInt v4) (pA v5) (pL v5) (pC v5) w (fun w => C .normal [] w) (fun b62 x63 w => C .ret [.bool b62, .int .i64 x63] w) (fun ch w => C (.panic ch) [] w) | _ => False

theorem T_snap_Gather_Add_1_hl : allP (hokL Try.prog (hookAt [(16286, H_snap_Gather_Add_2), (65150, H_snap_Gather_Add_3)]) (at_ (bodyOf Try.f26) [1, 1, 1, 1, 1, 1, 0]) 254) = (UnitOk Try.prog H_snap_Gather_Add_2 (at_ (bodyOf Try.f26) [1, 1, 1, 1, 1, 1, 0, 0, 1, 1, 1, 1, 0]) 16286 ∧ UnitOk Try.prog H_snap_Gather_Add_3 (at_ (bodyOf Try.f26) [1, 1, 1, 1, 1, 1, 0, 0, 1, 1, 1, 1, 1, 1, 0]) 65150 ∧ True) := by kernel_rfl
theorem T_snap_Gather_Add_1_hok : HOk Try.prog (hookAt [(16286, H_snap_Gather_Add_2), (65150, H_snap_Gather_Add_3)]) (at_ (bodyOf Try.f26) [1, 1, 1, 1, 1, 1, 0]) 254 := HOk_of _ _ (by rw [T_snap_Gather_Add_1_hl]; exact ⟨T_snap_Gather_Add_2_ok, T_snap_Gather_Add_3_ok, trivial⟩)

theorem T_snap_Gather_Add_1_eq (C : Conts) (g26 : Option Addr) (a27 : Addr) (total28 : Int) (e29 : Int) (place30 : Int) (in31a : Option Addr) (in31l : Nat) (in31c : Nat) (w : World) : vcCode Try.prog (hookAt [(16286, H_snap_Gather_Add_2), (65150, H_snap_Gather_Add_3)]) (at_ (bodyOf Try.f26) [1, 1, 1, 1, 1, 1, 0]) 254 ⟨[(0, .pointer g26), (4, .pointer (some a27)), (7, .int .i64 total28), (9, .int .i64 e29), (10, .int .i64 place30), (11, .slice in31a in31l in31c)], 136, []⟩ w (unitQ T_snap_Gather_Add_1_outs C) = T_snap_Gather_Add_1 g26 a27 total28 e29 place30 in31a in31l in31c w (fun w => C .normal [] w) (fun b64 x65 w => C .ret [.bool b64, .int .i64 x65] w) (fun ch w => C (.panic ch) [] w) := by kernel_rfl

theorem T_snap_Gather_Add_1_ok : UnitOk Try.prog H_snap_Gather_Add_1 (at_ (bodyOf Try.f26) [1, 1, 1, 1, 1, 1, 0]) 254 := unit_ok (H := (hookAt [(16286, H_snap_Gather_Add_2), (65150, H_snap_Gather_Add_3)])) (by kernel_rfl) T_snap_Gather_Add_1_hok fun l w C hk => by
    obtain ⟨v0, l_v0, rfl, k_v0, hk_v0⟩ := Kinds.cons_ hk
    obtain ⟨g26, rfl⟩ := kind_pointer k_v0
    obtain ⟨v1, l_v1, rfl, k_v1, hk_v1⟩ := Kinds.cons_ hk_v0
    obtain ⟨a27, rfl⟩ := kind_addr k_v1
    obtain ⟨v2, l_v2, rfl, k_v2, hk_v2⟩ := Kinds.cons_ hk_v1
    obtain ⟨total28, rfl⟩ := kind_int k_v2
    obtain ⟨v3, l_v3, rfl, k_v3, hk_v3⟩ := Kinds.cons_ hk_v2
    obtain ⟨e29, rfl⟩ := kind_int k_v3
    obtain ⟨v4, l_v4, rfl, k_v4, hk_v4⟩ := Kinds.cons_ hk_v3
    obtain ⟨place30, rfl⟩ := kind_int k_v4
    obtain ⟨v5, l_v5, rfl, k_v5, hk_v5⟩ := Kinds.cons_ hk_v4
    obtain ⟨in31a, in31l, in31c, rfl⟩ := kind_slice k_v5
    obtain rfl := Kinds.nil_ hk_v5
    exact T_snap_Gather_Add_1_eq C g26 a27 total28 e29 place30 in31a in31l in31c w

def T_snap_Gather_Add (g1 : Option Addr) (piece2a : Option Addr) (piece2l : Nat) (piece2c : Nat) (w : World) (R : Ending → World → Prop) : Prop :=
  let w3 : World := w.alloc (.cells #[.int .i64 0, .int .i64 0, .slice none 0 0, .slice none 0 0, .slice none 0 0] 29)
  if g1.isNone = true then ((.agg #[.int .i64 0, .int .i64 0, .slice none 0 0, .slice none 0 0, .slice none 0 0] : Value).cells.size = 5 ∧ wrOk w3 (⟨w.heap.size, 0, none⟩ : Addr) (.agg #[.int .i64 0, .int .i64 0, .slice none 0 0, .slice none 0 0, .slice none 0 0]) ∧ let w4 : World := wr w3 (⟨w.heap.size, 0, none⟩ : Addr) (.agg #[.int .i64 0, .int .i64 0, .slice none 0 0, .slice none 0 0, .slice none 0 0])
  ∃ x5 : Int, ∃ x6 : Int, ∃ s7a : Option Addr, ∃ s7l : Nat, ∃ s7c : Nat, ∃ s8a : Option Addr, ∃ s8l : Nat, ∃ s8c : Nat, ∃ s9a : Option Addr, ∃ s9l : Nat, ∃ s9c : Nat, rd w4 (⟨w.heap.size, 0, none⟩ : Addr) (.agg #[.int .i64 x5, .int .i64 x6, .slice s7a s7l s7c, .slice s8a s8l s8c, .slice s9a s9l s9c]) ∧ R (.returned (.tuple #[.agg #[.int .i64 x5, .int .i64 x6, .slice s7a s7l s7c, .slice s8a s8l s8c, .slice s9a s9l s9c], .bool false, .int .i64 1])) w4) else (Calls Try.prog 52 #[.slice piece2a piece2l piece2c, .int .i64 0] w3 (ret (fun r10 w11 => ∃ x12 : Int, ∃ x13 : Int, ∃ x14 : Int, r10 = .tuple #[.int .i64 x12, .int .i64 x13, .int .i64 x14] ∧ if ((x14 : Int) != 0) = true then ((.agg #[.int .i64 0, .int .i64 0, .slice none 0 0, .slice none 0 0, .slice none 0 0] : Value).cells.size = 5 ∧ wrOk w11 (⟨w.heap.size, 0, none⟩ : Addr) (.agg #[.int .i64 0, .int .i64 0, .slice none 0 0, .slice none 0 0, .slice none 0 0]) ∧ let w15 : World := wr w11 (⟨w.heap.size, 0, none⟩ : Addr) (.agg #[.int .i64 0, .int .i64 0, .slice none 0 0, .slice none 0 0, .slice none 0 0])
  ∃ x16 : Int, ∃ x17 : Int, ∃ s18a : Option Addr, ∃ s18l : Nat, ∃ s18c : Nat, ∃ s19a : Option Addr, ∃ s19l : Nat, ∃ s19c : Nat, ∃ s20a : Option Addr, ∃ s20l : Nat, ∃ s20c : Nat, rd w15 (⟨w.heap.size, 0, none⟩ : Addr) (.agg #[.int .i64 x16, .int .i64 x17, .slice s18a s18l s18c, .slice s19a s19l s19c, .slice s20a s20l s20c]) ∧ R (.returned (.tuple #[.agg #[.int .i64 x16, .int .i64 x17, .slice s18a s18l s18c, .slice s19a s19l s19c, .slice s20a s20l s20c], .bool false, .int .i64 x14])) w15) else (Calls Try.prog 52 #[.slice piece2a piece2l piece2c, .int .i64 x13] w11 (ret (fun r21 w22 => ∃ x23 : Int, ∃ x24 : Int, ∃ x25 : Int, r21 = .tuple #[.int .i64 x23, .int .i64 x24, .int .i64 x25] ∧ 0 ≤ (x24 : Int) ∧ (x24 : Int) ≤ ((piece2l : Nat) : Int) ∧ T_snap_Gather_Add_1 g1 (⟨w.heap.size, 0, none⟩ : Addr) x12 x25 x23 (if piece2c = ((x24 : Int).toNat) then piece2a else piece2a.map (fun x => x.add (((x24 : Int).toNat) * 1))) (piece2l - ((x24 : Int).toNat)) (piece2c - ((x24 : Int).toNat)) w22 (fun w66 => ∃ a67, g1 = some a67 ∧ ∃ s68a : Option Addr, ∃ s68l : Nat, ∃ s68c : Nat, rd w66 (a67.add 2) (.slice s68a s68l s68c) ∧ runV Try.prog (Builtin.append_ #[27, 27] 27 #[.slice s68a s68l s68c, .slice (if piece2c = ((x24 : Int).toNat) then piece2a else piece2a.map (fun x => x.add (((x24 : Int).toNat) * 1))) (piece2l - ((x24 : Int).toNat)) (piece2c - ((x24 : Int).toNat))]) w66 (fun r69 w70 => ∃ s71a : Option Addr, ∃ s71l : Nat, ∃ s71c : Nat, r69 = .slice s71a s71l s71c ∧ ∃ a72, g1 = some a72 ∧ (.slice s71a s71l s71c : Value).cells.size = 1 ∧ wrOk w70 (a72.add 2) (.slice s71a s71l s71c) ∧ let w73 : World := wr w70 (a72.add 2) (.slice s71a s71l s71c)
  ∃ a74, g1 = some a74 ∧ ∃ s75a : Option Addr, ∃ s75l : Nat, ∃ s75c : Nat, rd w73 (a74.add 2) (.slice s75a s75l s75c) ∧ if (decide (((s75l : Nat) : Int) < x12)) = true then ((.agg #[.int .i64 0, .int .i64 0, .slice none 0 0, .slice none 0 0, .slice none 0 0] : Value).cells.size = 5 ∧ wrOk w73 (⟨w.heap.size, 0, none⟩ : Addr) (.agg #[.int .i64 0, .int .i64 0, .slice none 0 0, .slice none 0 0, .slice none 0 0]) ∧ let w76 : World := wr w73 (⟨w.heap.size, 0, none⟩ : Addr) (.agg #[.int .i64 0, .int .i64 0, .slice none 0 0, .slice none 0 0, .slice none 0 0])
  ∃ x77 : Int, ∃ x78 : Int, ∃ s79a : Option Addr, ∃ s79l : Nat, ∃ s79c : Nat, ∃ s80a : Option Addr, ∃ s80l : Nat, ∃ s80c : Nat, ∃ s81a : Option Addr, ∃ s81l : Nat, ∃ s81c : Nat, rd w76 (⟨w.heap.size, 0, none⟩ : Addr) (.agg #[.int .i64 x77, .int .i64 x78, .slice s79a s79l s79c, .slice s80a s80l s80c, .slice s81a s81l s81c]) ∧ R (.returned (.tuple #[.agg #[.int .i64 x77, .int .i64 x78, .slice s79a s79l s79c, .slice s80a s80l s80c, .slice s81a s81l s81c], .bool false, .int .i64 0])) w76) else (∃ a82, g1 = some a82 ∧ ∃ s83a : Option Addr, ∃ s83l : Nat, ∃ s83c : Nat, rd w73 (a82.add 2) (.slice s83a s83l s83c) ∧ ∃ a84, g1 = some a84 ∧ (.agg #[.bool false, .int .i64 0, .slice none 0 0] : Value).cells.size = 3 ∧ wrOk w73 a84 (.agg #[.bool false, .int .i64 0, .slice none 0 0]) ∧ let w85 : World := wr w73 a84 (.agg #[.bool false, .int .i64 0, .slice none 0 0])
  Calls Try.prog 10 #[.slice s83a s83l s83c] w85 (ret (fun r86 w87 => ∃ x88 : Int, ∃ x89 : Int, ∃ s90a : Option Addr, ∃ s90l : Nat, ∃ s90c : Nat, ∃ s91a : Option Addr, ∃ s91l : Nat, ∃ s91c : Nat, ∃ s92a : Option Addr, ∃ s92l : Nat, ∃ s92c : Nat, ∃ x93 : Int, r86 = .tuple #[.agg #[.int .i64 x88, .int .i64 x89, .slice s90a s90l s90c, .slice s91a s91l s91c, .slice s92a s92l s92c], .int .i64 x93] ∧ let w94 : World := w87.alloc (.cells #[.int .i64 0, .int .i64 0, .slice none 0 0, .slice none 0 0, .slice none 0 0] 29)
  (.agg #[.int .i64 x88, .int .i64 x89, .slice s90a s90l s90c, .slice s91a s91l s91c, .slice s92a s92l s92c] : Value).cells.size = 5 ∧ wrOk w94 (⟨w87.heap.size, 0, none⟩ : Addr) (.agg #[.int .i64 x88, .int .i64 x89, .slice s90a s90l s90c, .slice s91a s91l s91c, .slice s92a s92l s92c]) ∧ let w95 : World := wr w94 (⟨w87.heap.size, 0, none⟩ : Addr) (.agg #[.int .i64 x88, .int .i64 x89, .slice s90a s90l s90c, .slice s91a s91l s91c, .slice s92a s92l s92c])
  ∃ x96 : Int, ∃ x97 : Int, ∃ s98a : Option Addr, ∃ s98l : Nat, ∃ s98c : Nat, ∃ s99a : Option Addr, ∃ s99l : Nat, ∃ s99c : Nat, ∃ s100a : Option Addr, ∃ s100l : Nat, ∃ s100c : Nat, rd w95 (⟨w87.heap.size, 0, none⟩ : Addr) (.agg #[.int .i64 x96, .int .i64 x97, .slice s98a s98l s98c, .slice s99a s99l s99c, .slice s100a s100l s100c]) ∧ (.agg #[.int .i64 x96, .int .i64 x97, .slice s98a s98l s98c, .slice s99a s99l s99c, .slice s100a s100l s100c] : Value).cells.size = 5 ∧ wrOk w95 (⟨w.heap.size, 0, none⟩ : Addr) (.agg #[.int .i64 x96, .int .i64 x97, .slice s98a s98l s98c, .slice s99a s99l s99c, .slice s100a s100l s100c]) ∧ let w101 : World := wr w95 (⟨w.heap.size, 0, none⟩ : Addr) (.agg #[.int .i64 x96, .int .i64 x97, .slice s98a s98l s98c, .slice s99a s99l s99c, .slice s100a s100l s100c])
  ∃ x102 : Int, ∃ x103 : Int, ∃ s104a : Option Addr, ∃ s104l : Nat, ∃ s104c : Nat, ∃ s105a : Option Addr, ∃ s105l : Nat, ∃ s105c : Nat, ∃ s106a : Option Addr, ∃ s106l : Nat, ∃ s106c : Nat, rd w101 (⟨w.heap.size, 0, none⟩ : Addr) (.agg #[.int .i64 x102, .int .i64 x103, .slice s104a s104l s104c, .slice s105a s105l s105c, .slice s106a s106l s106c]) ∧ R (.returned (.tuple #[.agg #[.int .i64 x102, .int .i64 x103, .slice s104a s104l s104c, .slice s105a s105l s105c, .slice s106a s106l s106c], .bool ((x93 : Int) == 0), .int .i64 x93])) w101) (pan R)))) (pan R)) (fun b107 x108 w109 => ∃ x110 : Int, ∃ x111 : Int, ∃ s112a : Option Addr, ∃ s112l : Nat, ∃ s112c : Nat, ∃ s113a : Option Addr, ∃ s113l : Nat, ∃ s113c : Nat, ∃ s114a : Option Addr, ∃ s114l : Nat, ∃ s114c : Nat, rd w109 (⟨w.heap.size, 0, none⟩ : Addr) (.agg #[.int .i64 x110, .int .i64 x111, .slice s112a s112l s112c, .slice s113a s113l s113c, .slice s114a s114l s114c]) ∧ R (.returned (.tuple #[.agg #[.int .i64 x110, .int .i64 x111, .slice s112a s112l s112c, .slice s113a s113l s113c, .slice s114a s114l s114c], .bool b107, .int .i64 x108])) w109) (pan R)) (pan R)))) (pan R)))

theorem T_snap_Gather_Add_hl : allP (hokL Try.prog (hookAt [(254, H_snap_Gather_Add_1)]) (bodyOf Try.f26) 1) = (UnitOk Try.prog H_snap_Gather_Add_1 (at_ (bodyOf Try.f26) [1, 1, 1, 1, 1, 1, 0]) 254 ∧ True) := by kernel_rfl

theorem T_snap_Gather_Add_eq (g1 : Option Addr) (piece2a : Option Addr) (piece2l : Nat) (piece2c : Nat) (w : World) (R : Ending → World → Prop) : vcCode Try.prog (hookAt [(254, H_snap_Gather_Add_1)]) (bodyOf Try.f26) 1 ⟨argEnv [.pointer g1, .slice piece2a piece2l piece2c] 0, Try.f26.ntmps, []⟩ w (finQ Try.prog Try.f26.results.toList R) = T_snap_Gather_Add g1 piece2a piece2l piece2c w R := by kernel_rfl

theorem T_snap_Gather_Add_b : Try.f26.body = some (bodyOf Try.f26) := by kernel_rfl
theorem T_snap_Gather_Add_s : (quietSel (bodyOf Try.f26) && Nat.ble 2 Try.f26.ntmps) = true := by kernel_rfl

theorem C_snap_Gather_Add {g1 : Option Addr} {piece2a : Option Addr} {piece2l : Nat} {piece2c : Nat} {w : World} {R : Ending → World → Prop} (h : T_snap_Gather_Add g1 piece2a piece2l piece2c w R) : Calls Try.prog 26 #[.pointer g1, .slice piece2a piece2l piece2c] w R :=
  calls_of_text (args := [.pointer g1, .slice piece2a piece2l piece2c]) mixed Try.func26 T_snap_Gather_Add_b T_snap_Gather_Add_s (HOk_of _ _ (by rw [T_snap_Gather_Add_hl]; exact ⟨T_snap_Gather_Add_1_ok, trivial⟩)) (by rw [T_snap_Gather_Add_eq]; exact h)

/-! (*tollgate/snap.Gather).Len -/
def T_snap_Gather_Len (g1 : Option Addr) (w : World) (R : Ending → World → Prop) : Prop :=
  if g1.isNone = true then (R (.returned (.int .i64 0)) w) else (∃ a2, g1 = some a2 ∧ ∃ s3a : Option Addr, ∃ s3l : Nat, ∃ s3c : Nat, rd w (a2.add 2) (.slice s3a s3l s3c) ∧ R (.returned (.int .i64 ((s3l : Nat) : Int))) w)

theorem T_snap_Gather_Len_hl : allP (hokL Try.prog (hookAt []) (bodyOf Try.f27) 1) = (True) := by kernel_rfl

theorem T_snap_Gather_Len_eq (g1 : Option Addr) (w : World) (R : Ending → World → Prop) : vcCode Try.prog (hookAt []) (bodyOf Try.f27) 1 ⟨argEnv [.pointer g1] 0, Try.f27.ntmps, []⟩ w (finQ Try.prog Try.f27.results.toList R) = T_snap_Gather_Len g1 w R := by kernel_rfl

theorem T_snap_Gather_Len_b : Try.f27.body = some (bodyOf Try.f27) := by kernel_rfl
theorem T_snap_Gather_Len_s : (quietSel (bodyOf Try.f27) && Nat.ble 1 Try.f27.ntmps) = true := by kernel_rfl

theorem C_snap_Gather_Len {g1 : Option Addr} {w : World} {R : Ending → World → Prop} (h : T_snap_Gather_Len g1 w R) : Calls Try.prog 27 #[.pointer g1] w R :=
  calls_of_text (args := [.pointer g1]) mixed Try.func27 T_snap_Gather_Len_b T_snap_Gather_Len_s (HOk_of _ _ (by rw [T_snap_Gather_Len_hl]; exact trivial)) (by rw [T_snap_Gather_Len_eq]; exact h)

/-! tollgate/tollgateref05.SameTexts -/
def T_ref05_SameTexts_1_body (X : Int → World → Prop) (i3 : Int) (a4a : Option Addr) (a4l : Nat) (a4c : Nat) (b5a : Option Addr) (b5l : Nat) (b5c : Nat) (w : World) (Kn : World → Prop) (Kr : Bool → World → Prop) (Kp : List PanicEntry → World → Prop)  : Prop :=
  if (decide ((i3 : Int) < ((a4l : Nat) : Int))) = true then (let w6 : World := w.drew
  0 ≤ (i3 : Int) ∧ (i3 : Int) < ((a4l : Nat) : Int) ∧ ∃ b7, a4a = some b7 ∧ ∃ s8 : ByteArray, rd w6 (b7.add ((i3 : Int).toNat * 1)) (.string s8) ∧ 0 ≤ (i3 : Int) ∧ (i3 : Int) < ((b5l : Nat) : Int) ∧ ∃ b9, b5a = some b9 ∧ ∃ s10 : ByteArray, rd w6 (b9.add ((i3 : Int).toNat * 1)) (.string s10) ∧ if (!(s8.toList == s10.toList)) = true then (Kr false w6) else (X (IntKind.wrap .i64 ((i3 : Int) + 1)) w6)) else (Kn  w)

def T_ref05_SameTexts_1 (i3 : Int) (a4a : Option Addr) (a4l : Nat) (a4c : Nat) (b5a : Option Addr) (b5l : Nat) (b5c : Nat) (w : World) (Kn : World → Prop) (Kr : Bool → World → Prop) (Kp : List PanicEntry → World → Prop) : Prop :=
  ∀ X : Int → World → Prop, (∀ (i3 : Int) (w : World), T_ref05_SameTexts_1_body X i3 a4a a4l a4c b5a b5l b5c w Kn Kr Kp → X i3 w) → X i3 w

def T_ref05_SameTexts_1_outs : Exit → Option (List (Nat × Value)) := fun x => match x with | .normal => some [] | .ret => some [(4, .bool false)] | .panic _ => some [] | _ => none

def T_ref05_SameTexts_1_ks : Nat → Bool := ksOf [4, 5, 11, 12, 13, 14, 15, 16, 17, 18, 19, 20, 21, 22, 23, 24, 25]

def H_ref05_SameTexts_1 : Env → World → QT → Prop := unitHook 26 T_ref05_SameTexts_1_ks [(5, .int .i64 0), (0, .slice none 0 0), (1, .slice none 0 0)] T_ref05_SameTexts_1_outs fun l w C => match l with | [v0, v1, v2] => T_ref05_SameTexts_1 (pInt v0) (pA v1) (pL v1) (pC v1) (pA v2) (pL v2) (pC v2) w (fun w => C .normal [] w) (fun b12 w => C .ret [.bool b12] w) (fun ch w => C (.panic ch) [] w) | _ => False

theorem T_ref05_SameTexts_1_hl : allP (hokL Try.prog (hookAt []) (at_ (bodyOf Try.f36) [1, 1, 0, 1, 0, 0]) 116) = (True) := by kernel_rfl
theorem T_ref05_SameTexts_1_hok : HOk Try.prog (hookAt []) (at_ (bodyOf Try.f36) [1, 1, 0, 1, 0, 0]) 116 := HOk_of _ _ (by rw [T_ref05_SameTexts_1_hl]; exact trivial)

theorem T_ref05_SameTexts_1_eq (C : Conts) (X : List Value → World → Prop) (i3 : Int) (a4a : Option Addr) (a4l : Nat) (a4c : Nat) (b5a : Option Addr) (b5l : Nat) (b5c : Nat) (w : World) : vcCode Try.prog (hookAt []) (at_ (bodyOf Try.f36) [1, 1, 0, 1, 0, 0]) 116 ⟨[(5, .int .i64 i3)] ++ [(0, .slice a4a a4l a4c), (1, .slice b5a b5l b5c)], 26, []⟩ w (seqQ (fun e w => takeAll e [(5, .int .i64 0)] fun l => X l w) (blockQ 0 (unitQ T_ref05_SameTexts_1_outs C))) = T_ref05_SameTexts_1_body (fun i3 w => X [.int .i64 i3] w) i3 a4a a4l a4c b5a b5l b5c w (fun w => C .normal [] w) (fun b13 w => C .ret [.bool b13] w) (fun ch w => C (.panic ch) [] w) := by kernel_rfl

theorem T_ref05_SameTexts_1_ok : UnitOk Try.prog H_ref05_SameTexts_1 (at_ (bodyOf Try.f36) [1, 1, 0, 1]) 29 := by
  have hc : at_ (bodyOf Try.f36) [1, 1, 0, 1] = .block 0 (.loop (at_ (bodyOf Try.f36) [1, 1, 0, 1, 0, 0])) := by kernel_rfl
  rw [hc]
  refine loop_unit_ok (carr := [(5, .int .i64 0)]) (fix := [(0, .slice none 0 0), (1, .slice none 0 0)]) (ks := T_ref05_SameTexts_1_ks) (H := (hookAt [])) (B := fun C X l u w => match l, u with | [v0], [v1, v2] => T_ref05_SameTexts_1_body (fun i3 w => X [.int .i64 i3] w) (pInt v0) (pA v1) (pL v1) (pC v1) (pA v2) (pL v2) (pC v2) w (fun w => C .normal [] w) (fun b14 w => C .ret [.bool b14] w) (fun ch w => C (.panic ch) [] w) | _, _ => False) (by kernel_rfl) (by kernel_rfl) T_ref05_SameTexts_1_hok ?_ ?_
  · intro C X l u w hl hu
    obtain ⟨v0, l_v0, rfl, k_v0, hl_v0⟩ := Kinds.cons_ hl
    obtain ⟨i3, rfl⟩ := kind_int k_v0
    obtain rfl := Kinds.nil_ hl_v0
    obtain ⟨v1, l_v1, rfl, k_v1, hu_v1⟩ := Kinds.cons_ hu
    obtain ⟨a4a, a4l, a4c, rfl⟩ := kind_slice k_v1
    obtain ⟨v2, l_v2, rfl, k_v2, hu_v2⟩ := Kinds.cons_ hu_v1
    obtain ⟨b5a, b5l, b5c, rfl⟩ := kind_slice k_v2
    obtain rfl := Kinds.nil_ hu_v2
    exact T_ref05_SameTexts_1_eq C X i3 a4a a4l a4c b5a b5l b5c w
  · intro l u w C hl hu
    obtain ⟨v0, l_v0, rfl, k_v0, hl_v0⟩ := Kinds.cons_ hl
    obtain ⟨i3, rfl⟩ := kind_int k_v0
    obtain rfl := Kinds.nil_ hl_v0
    obtain ⟨v1, l_v1, rfl, k_v1, hu_v1⟩ := Kinds.cons_ hu
    obtain ⟨a4a, a4l, a4c, rfl⟩ := kind_slice k_v1
    obtain ⟨v2, l_v2, rfl, k_v2, hu_v2⟩ := Kinds.cons_ hu_v1
    obtain ⟨b5a, b5l, b5c, rfl⟩ := kind_slice k_v2
    obtain rfl := Kinds.nil_ hu_v2
    constructor
    · intro h X hX
      exact h (fun i3 w => X [.int .i64 i3] w) (fun i3 w hb => hX [.int .i64 i3] w ⟨rfl, trivial⟩ hb)
    · intro h X hX
      exact h (fun l w => match l with | [v0] => X (pInt v0) w | _ => True) (fun l w hl hb => by
        obtain ⟨v0, l_v0, rfl, k_v0, hl_v0⟩ := Kinds.cons_ hl
        obtain ⟨i3, rfl⟩ := kind_int k_v0
        obtain rfl := Kinds.nil_ hl_v0
        exact hX i3 w hb)

def T_ref05_SameTexts (a1a : Option Addr) (a1l : Nat) (a1c : Nat) (b2a : Option Addr) (b2l : Nat) (b2c : Nat) (w : World) (R : Ending → World → Prop) : Prop :=
  if (((a1l : Nat) : Int) != ((b2l : Nat) : Int)) = true then (R (.returned (.bool false)) w) else (T_ref05_SameTexts_1 0 a1a a1l a1c b2a b2l b2c w (fun w15 => R (.returned (.bool true)) w15) (fun b16 w17 => R (.returned (.bool b16)) w17) (pan R))

theorem T_ref05_SameTexts_hl : allP (hokL Try.prog (hookAt [(29, H_ref05_SameTexts_1)]) (bodyOf Try.f36) 1) = (UnitOk Try.prog H_ref05_SameTexts_1 (at_ (bodyOf Try.f36) [1, 1, 0, 1]) 29 ∧ True) := by kernel_rfl

theorem T_ref05_SameTexts_eq (a1a : Option Addr) (a1l : Nat) (a1c : Nat) (b2a : Option Addr) (b2l : Nat) (b2c : Nat) (w : World) (R : Ending → World → Prop) : vcCode Try.prog (hookAt [(29, H_ref05_SameTexts_1)]) (bodyOf Try.f36) 1 ⟨argEnv [.slice a1a a1l a1c, .slice b2a b2l b2c] 0, Try.f36.ntmps, []⟩ w (finQ Try.prog Try.f36.results.toList R) = T_ref05_SameTexts a1a a1l a1c b2a b2l b2c w R := by kernel_rfl

theorem T_ref05_SameTexts_b : Try.f36.body = some (bodyOf Try.f36) := by kernel_rfl
theorem T_ref05_SameTexts_s : (quietSel (bodyOf Try.f36) && Nat.ble 2 Try.f36.ntmps) = true := by kernel_rfl

theorem C_ref05_SameTexts {a1a : Option Addr} {a1l : Nat} {a1c : Nat} {b2a : Option Addr} {b2l : Nat} {b2c : Nat} {w : World} {R : Ending → World → Prop} (h : T_ref05_SameTexts a1a a1l a1c b2a b2l b2c w R) : Calls Try.prog 36 #[.slice a1a a1l a1c, .slice b2a b2l b2c] w R :=
  calls_of_text (args := [.slice a1a a1l a1c, .slice b2a b2l b2c]) mixed Try.func36 T_ref05_SameTexts_b T_ref05_SameTexts_s (HOk_of _ _ (by rw [T_ref05_SameTexts_hl]; exact ⟨T_ref05_SameTexts_1_ok, trivial⟩)) (by rw [T_ref05_SameTexts_eq]; exact h)

/-! tollgate/tollgatelaw07.live -/
def T_law07_live  (w : World) (R : Ending → World → Prop) : Prop :=
  Calls Try.prog 16 #[.int .i64 1000] w (ret (fun r1 w2 => ∃ p3 : Option Addr, r1 = .pointer p3 ∧ Calls Try.prog 24 #[.int .i64 3] w2 (ret (fun r4 w5 => ∃ x6 : Int, ∃ x7 : Int, ∃ s8a : Option Addr, ∃ s8l : Nat, ∃ s8c : Nat, ∃ s9a : Option Addr, ∃ s9l : Nat, ∃ s9c : Nat, ∃ s10a : Option Addr, ∃ s10l : Nat, ∃ s10c : Nat, r4 = .agg #[.int .i64 x6, .int .i64 x7, .slice s8a s8l s8c, .slice s9a s9l s9c, .slice s10a s10l s10c] ∧ Calls Try.prog 17 #[.pointer p3, .agg #[.int .i64 x6, .int .i64 x7, .slice s8a s8l s8c, .slice s9a s9l s9c, .slice s10a s10l s10c]] w5 (ret (fun r11 w12 => ∃ x13 : Int, r11 = .int .i64 x13 ∧ Calls Try.prog 24 #[.int .i64 12] w12 (ret (fun r14 w15 => ∃ x16 : Int, ∃ x17 : Int, ∃ s18a : Option Addr, ∃ s18l : Nat, ∃ s18c : Nat, ∃ s19a : Option Addr, ∃ s19l : Nat, ∃ s19c : Nat, ∃ s20a : Option Addr, ∃ s20l : Nat, ∃ s20c : Nat, r14 = .agg #[.int .i64 x16, .int .i64 x17, .slice s18a s18l s18c, .slice s19a s19l s19c, .slice s20a s20l s20c] ∧ Calls Try.prog 17 #[.pointer p3, .agg #[.int .i64 x16, .int .i64 x17, .slice s18a s18l s18c, .slice s19a s19l s19c, .slice s20a s20l s20c]] w15 (ret (fun r21 w22 => ∃ x23 : Int, r21 = .int .i64 x23 ∧ Calls Try.prog 23 #[.pointer p3] w22 (ret (fun r24 w25 => ∃ x26 : Int, ∃ x27 : Int, ∃ s28a : Option Addr, ∃ s28l : Nat, ∃ s28c : Nat, ∃ s29a : Option Addr, ∃ s29l : Nat, ∃ s29c : Nat, ∃ s30a : Option Addr, ∃ s30l : Nat, ∃ s30c : Nat, ∃ x31 : Int, r24 = .tuple #[.agg #[.int .i64 x26, .int .i64 x27, .slice s28a s28l s28c, .slice s29a s29l s29c, .slice s30a s30l s30c], .int .i64 x31] ∧ let w32 : World := w25.alloc (.cells #[.int .i64 0, .int .i64 0, .slice none 0 0, .slice none 0 0, .slice none 0 0] 29)
  (.agg #[.int .i64 x26, .int .i64 x27, .slice s28a s28l s28c, .slice s29a s29l s29c, .slice s30a s30l s30c] : Value).cells.size = 5 ∧ wrOk w32 (⟨w25.heap.size, 0, none⟩ : Addr) (.agg #[.int .i64 x26, .int .i64 x27, .slice s28a s28l s28c, .slice s29a s29l s29c, .slice s30a s30l s30c]) ∧ let w33 : World := wr w32 (⟨w25.heap.size, 0, none⟩ : Addr) (.agg #[.int .i64 x26, .int .i64 x27, .slice s28a s28l s28c, .slice s29a s29l s29c, .slice s30a s30l s30c])
  let w34 : World := w33.alloc (.cells #[.int .u8 97, .int .u8 98, .int .u8 99] 5)
  runV Try.prog (convert 27 27 (.slice (some (⟨w33.heap.size, 0, none⟩ : Addr)) 3 3)) w34 (fun r35 w36 => ∃ s37a : Option Addr, ∃ s37l : Nat, ∃ s37c : Nat, r35 = .slice s37a s37l s37c ∧ Calls Try.prog 13 #[.slice s37a s37l s37c, .int .i64 2] w36 (ret (fun r38 w39 => ∃ s40a : Option Addr, ∃ s40l : Nat, ∃ s40c : Nat, ∃ x41 : Int, r38 = .tuple #[.slice s40a s40l s40c, .int .i64 x41] ∧ if ((x13 : Int) == 0) = true then (if ((x23 : Int) == 0) = true then (if ((x31 : Int) == 0) = true then (∃ x42 : Int, rd w39 (⟨w25.heap.size, 0, none⟩ : Addr) (.int .i64 x42) ∧ if ((x42 : Int) == 12) = true then (Calls Try.prog 20 #[.pointer p3] w39 (ret (fun r43 w44 => ∃ s45a : Option Addr, ∃ s45l : Nat, ∃ s45c : Nat, r43 = .slice s45a s45l s45c ∧ let w46 : World := w44.alloc (.cells #[.string (ByteArray.mk #[115, 110, 97, 112, 45, 49, 50])] 9)
  Calls Try.prog 36 #[.slice s45a s45l s45c, .slice (some (⟨w44.heap.size, 0, none⟩ : Addr)) 1 1] w46 (ret (fun r47 w48 => ∃ b49 : Bool, r47 = .bool b49 ∧ if b49 = true then (if ((x41 : Int) == 0) = true then (if (((s40l : Nat) : Int) == 2) = true then (0 ≤ (1 : Int) ∧ (1 : Int) < ((s40l : Nat) : Int) ∧ ∃ b50, s40a = some b50 ∧ ∃ s51a : Option Addr, ∃ s51l : Nat, ∃ s51c : Nat, rd w48 (b50.add ((1 : Int).toNat * 1)) (.slice s51a s51l s51c) ∧ runV Try.prog (convert 27 9 (.slice s51a s51l s51c)) w48 (fun r52 w53 => ∃ s54 : ByteArray, r52 = .string s54 ∧ R (.returned (.bool (s54.toList == (ByteArray.mk #[3, 2, 99]).toList))) w53) (pan R)) else (R (.returned (.bool false)) w48)) else (R (.returned (.bool false)) w48)) else (R (.returned (.bool false)) w48)) (pan R))) (pan R))) else (R (.returned (.bool false)) w39)) else (R (.returned (.bool false)) w39)) else (R (.returned (.bool false)) w39)) else (R (.returned (.bool false)) w39)) (pan R))) (pan R)) (pan R))) (pan R))) (pan R))) (pan R))) (pan R))) (pan R))

theorem T_law07_live_hl : allP (hokL Try.prog (hookAt []) (bodyOf Try.f12) 1) = (True) := by kernel_rfl

theorem T_law07_live_eq  (w : World) (R : Ending → World → Prop) : vcCode Try.prog (hookAt []) (bodyOf Try.f12) 1 ⟨argEnv [] 0, Try.f12.ntmps, []⟩ w (finQ Try.prog Try.f12.results.toList R) = T_law07_live  w R := by kernel_rfl

theorem T_law07_live_b : Try.f12.body = some (bodyOf Try.f12) := by kernel_rfl
theorem T_law07_live_s : (quietSel (bodyOf Try.f12) && Nat.ble 0 Try.f12.ntmps) = true := by kernel_rfl

theorem C_law07_live  {w : World} {R : Ending → World → Prop} (h : T_law07_live  w R) : Calls Try.prog 12 #[] w R :=
  calls_of_text (args := []) mixed Try.func12 T_law07_live_b T_law07_live_s (HOk_of _ _ (by rw [T_law07_live_hl]; exact trivial)) (by rw [T_law07_live_eq]; exact h)

end Go.Proofs.Ytclinifclfahfaa

/-
  The name of a snapshot's file; the bytes of a text.
-/
namespace Go.Vc
open Go Go.Proofs Go.Proofs.Ytclinifclfahfaa
set_option maxRecDepth 100000
section
variable {E w : World} {L : List Asrt} {R : Ending → World → Prop}
theorem rune_str {c : Nat} (hc : c < 128) (w : World) : (convert 21 9 (.int .i32 (c : Int))).run Try.prog w = .ok (.string (bs [UInt8.ofNat c])) w := by
  have h1 : Try.prog.underlying 21 = some (.int .i32) := by kernel_rfl
  have h2 : Try.prog.underlying 9 = some .string := by kernel_rfl
  have hv : Utf8.valid (c : Int) = true := by
    unfold Utf8.valid
    simp; omega
  have he : Utf8.encode (c : Int) = bs [UInt8.ofNat c] := by
    unfold Utf8.encode
    rw [if_pos hv, Int.toNat_natCast]
    simp only
    rw [if_pos (by omega)]
    rfl
  simp [convert, run_underlying_ h1, run_underlying_ h2, Conv.intToString, he]
theorem add_str (x y : Operand) (a b : Cm.Bs) (h : a.length + b.length ≤ 1000000000) (w : World) : (do eqGuard .add 9 x y (.string (bs a)) (.string (bs b)); binOp .add 9 (.string (bs a)) (.string (bs b)) : Sem Value).run Try.prog w = .ok (.string (bs (a ++ b))) w := by
  have e : (bs a ++ bs b : ByteArray) = bs (a ++ b) := by
    apply ByteArray.ext
    simp [bs]
  have hs : ¬ ((((bs a).size + (bs b).size : Nat) : Int) > IntKind.i64.max) := by
    have h1 : (bs a).size = a.length := rfl
    have h2 : (bs b).size = b.length := rfl
    rw [h1, h2]
    have : IntKind.i64.max = 9223372036854775807 := by decide
    omega
  have hb : (binOp .add 9 (.string (bs a)) (.string (bs b))).run Try.prog w = .ok (.string (bs (a ++ b))) w := by
    show (Op.stringOp .add (bs a) (bs b)).run Try.prog w = _
    unfold Op.stringOp
    simp only
    rw [if_neg hs, e]
    rfl
  exact hb
theorem name1_spec : ∀ (f n : Nat) (s : Cm.Bs) (X : Int → ByteArray → World → Prop) (w : World) (Kn : ByteArray → World → Prop) (Kp : List PanicEntry → World → Prop),
    (∀ (n2 : Int) (s3 : ByteArray) (w : World), T_snap_name_1_body X n2 s3 w Kn Kp → X n2 s3 w) → n < 10 ^ f → n ≤ 1099511627776 → f + s.length ≤ 1000 → Kn (bs (Sn.digs f n ++ s)) w → X (n : Int) (bs s) w
  | 0, n, s, X, w, Kn, Kp, hX, hn, hb, hl, k => by
    have : n = 0 := by simpa using hn
    subst this
    refine hX _ _ _ ?_
    unfold T_snap_name_1_body
    exact ite_d (fun hh => absurd hh (by decide)) fun _ => k
  | f + 1, n, s, X, w, Kn, Kp, hX, hn, hb, hl, k => by
    refine hX _ _ _ ?_
    unfold T_snap_name_1_body
    unfold Sn.digs at k
    refine ite_d (fun hh => ?_) fun hh => ?_
    · have h0 : n ≠ 0 := by omega
      rw [if_neg h0, List.append_assoc] at k
      have hn63 : n < 10 ^ (f + 1) := hn
      have e1 : IntKind.wrap .i32 (IntKind.wrap .i64 ((48 : Int) + (Int.tmod (n : Int) 10))) = ((48 + n % 10 : Nat) : Int) := by
        have e : Int.tmod (n : Int) 10 = ((n % 10 : Nat) : Int) := by
          rw [Int.tmod_eq_emod_of_nonneg (by omega)]; omega
        rw [e]
        have h9 : n % 10 < 10 := Nat.mod_lt _ (by decide)
        generalize n % 10 = r at *
        rw [show (48 : Int) + (r : Int) = ((48 + r : Nat) : Int) by omega]
        rw [wrap_id (by omega) (by omega)]
        unfold IntKind.wrap
        have : (IntKind.i32).bits = 32 := rfl
        simp [IntKind.bits, IntKind.signed]
        omega
      rw [e1]
      refine runV_ok (rune_str (by omega) w) ⟨_, rfl, runV_ok (add_str _ _ [UInt8.ofNat (48 + n % 10)] s (by simp; omega) w) ⟨_, rfl, ?_⟩⟩
      have e2 : IntKind.wrap .i64 (Int.tdiv (n : Int) 10) = ((n / 10 : Nat) : Int) := by
        have e : Int.tdiv (n : Int) 10 = ((n / 10 : Nat) : Int) := by
          rw [Int.tdiv_eq_ediv_of_nonneg (by omega)]; omega
        rw [e]
        exact wrap_id (by omega) (by omega)
      rw [e2]
      exact name1_spec f (n / 10) _ X w Kn Kp hX (by rw [Nat.pow_succ] at hn; omega) (by omega) (by simp; omega) k
    · have h0 : n = 0 := by omega
      rw [if_pos h0] at k
      exact k
theorem Name_spec {n : Nat} (hn : n ≤ 1099511627776) (k : R (.returned (.string (bs (Sn.nameOf n)))) w) : Calls Try.prog 39 #[.int .i64 (n : Int)] w R := by
  refine C_snap_name ?_
  unfold T_snap_name T_snap_name_1
  intro X hX
  refine name1_spec 14 n [] X w _ _ hX (by omega) hn (by decide) ?_
  rw [List.append_nil]
  have hl := (Sn.dec_ok hn).2.1
  exact runV_ok (add_str _ _ Sn.pre (Sn.dec n) (by simp [Sn.pre]; omega) w) ⟨_, rfl, k⟩
theorem bytes_of_str (h : St E L w) (n : Cm.Bs) : ∃ a c w', (convert 9 27 (.string (bs n))).run Try.prog w = .ok (.slice (some a) n.length c) w' ∧ St E (roS (some a) n.length 1 (bytesV n) :: L) w' := by
  refine ⟨_, _, _, run_bytes_of_string w 9 27 5 (bs n) (by kernel_rfl) (by kernel_rfl) (by kernel_rfl), ?_⟩
  generalize hg : grownCap w (bs n).size 0 5 = cp
  have h2 := h.drew.alloc (.cells (bytesRow (bs n) cp) 5 ((bytesRow (bs n) cp).size, (bytesRow (bs n) cp).size + 1))
  refine h2.mono fun x hx => ⟨by simp [bytesV], .inr ⟨_, 0, (bytesRow (bs n) cp).toList, _, _, true, rfl, hx, fun i u hu => ?_⟩⟩
  have e : (bytesRow (bs n) cp).toList = bytesV n ++ List.replicate (cp - (bs n).size) (.int .u8 0) := by
    simp [bytesRow, bs, bytesV]
  rw [e, Nat.zero_add, List.getElem?_append_left]
  · exact hu
  · exact (List.getElem?_eq_some_iff.1 hu).1
end
end Go.Vc

/-
  Pieces of bytes.
-/
namespace Go.Vc
open Go Go.Proofs Go.Proofs.Ytclinifclfahfaa
set_option maxRecDepth 100000
section
variable {E w : World} {L : List Asrt} {R : Ending → World → Prop} {F G : Fz} {q s o : Sl} {b : Cm.Bs} {qs : List Sl} {rs : List Cm.Bs}
def celR (q : Sl) : List Value := [.slice q.1 q.2.1 q.2.2]
def rowA (o : Sl) (qs : List Sl) : Asrt := ownS o.1 o.2.1 o.2.2 27 1 (qs.flatMap celR)
theorem celR_len (q : Sl) : (celR q).length = 1 := rfl
theorem celR_one (l : List Sl) : ∀ u ∈ l.flatMap celR, one u = true := by
  intro u hu
  obtain ⟨c, _, hc⟩ := List.mem_flatMap.1 hu
  simp [celR] at hc
  subst hc; rfl
theorem St.row_count (h : St E (rowA o qs :: L) w) : qs.length = o.2.1 := h.rdS_own.count celR_len (by decide)
theorem St.row_one (h : St E L w) (q : Sl) : St E (rowA (some ⟨w.heap.size, 0, none⟩, 1, 1) [q] :: L) (w.alloc (.cells ⟨celR q⟩ 27)) :=
  (St.ownS_mk (xs := celR q) (rest := []) (l := 1) (c := 1) (sz := 1) (by rw [List.append_nil]; exact h.alloc _) rfl (Nat.le_refl _) (by decide) rfl :)
theorem app_row (h : St E (rowA o qs :: L) w) (q : Sl) (hb : qs.length + 1 ≤ 1000000) :
    ∃ (o' : Sl) (w' : World), (Builtin.append_ #[40, 40] 40 #[.slice o.1 o.2.1 o.2.2, .slice (some ⟨w.heap.size, 0, none⟩) 1 1]).run Try.prog (w.alloc (.cells ⟨celR q⟩ 27)) = .ok (.slice o'.1 o'.2.1 o'.2.2) w' ∧ St E (rowA o' (qs ++ [q]) :: L) w' := by
  have h2 : St E (rowA (some ⟨w.heap.size, 0, none⟩, 1, 1) [q] :: rowA o qs :: L) (w.alloc (.cells ⟨celR q⟩ 27)) := h.row_one q
  have hro : RdS (w.alloc (.cells ⟨celR q⟩ 27)) (some ⟨w.heap.size, 0, none⟩) 1 1 ([q].flatMap celR) := St.rdS_own h2
  have hl : qs.length = o.2.1 := h.row_count
  obtain ⟨a', c', w', hr, hs⟩ := append_own (P := Try.prog) (t := 40) (ty := 40) (e := 27) (i := Try.t27) (z := .slice none 0 0) (by kernel_rfl) (by kernel_rfl) (by kernel_rfl) (by kernel_rfl) (by decide) (c2 := 1) h2.f1 hro (celR_one [q])
    (by have : Try.t27.bytes = 24 := by kernel_rfl
        rw [this]; omega) (by unfold maxLen; omega)
  rw [show Try.t27.size = 1 from by kernel_rfl, ← List.flatMap_append] at hs
  exact ⟨(a', o.2.1 + 1, c'), w', hr, hs.f1.drop⟩
inductive Rows (G : Fz) : List Sl → List Cm.Bs → Prop
  | nil : Rows G [] []
  | snoc {qs : List Sl} {rs : List Cm.Bs} {q : Sl} {b : Cm.Bs} : Rows G qs rs → Src G q b → Rows G (qs ++ [q]) (rs ++ [b])
theorem Rows.mono (h : Rows F qs rs) (k : Fz.le F G) : Rows G qs rs := by
  induction h with
  | nil => exact .nil
  | snoc _ h2 ih => exact .snoc ih (h2.mono k)
theorem Rows.len (h : Rows F qs rs) : qs.length = rs.length := by
  induction h with
  | nil => rfl
  | snoc _ _ ih => simp [ih]
theorem Rows.get (h : Rows F qs rs) {i : Nat} {q : Sl} {b : Cm.Bs} (h1 : qs[i]? = some q) (h2 : rs[i]? = some b) : Src F q b := by
  induction h with
  | nil => simp at h1
  | snoc hr hs ih =>
    have hl := hr.len
    rename_i qs' rs' q' b'
    rcases Nat.lt_trichotomy i qs'.length with hi | hi | hi
    · rw [List.getElem?_append_left hi] at h1
      rw [List.getElem?_append_left (by omega)] at h2
      exact ih h1 h2
    · subst hi
      rw [List.getElem?_append_right (by omega)] at h1
      rw [List.getElem?_append_right (by omega), hl] at h2
      simp at h1 h2
      subst h1 h2
      exact hs
    · rw [List.getElem?_eq_none (by simp; omega)] at h1
      cases h1
theorem pGo_end (b : Cm.Bs) (size : Nat) : ∀ (f x : Nat), b.length ≤ x → Sn.piecesGo b size f x = []
  | 0, _, _ => rfl
  | f + 1, x, h => by unfold Sn.piecesGo; rw [if_pos h]
theorem pGo_step {size f x : Nat} (hx : x < b.length) (hf : b.length - x ≤ f) : Sn.piecesGo b size f x = Sn.piece b x size :: Sn.piecesGo b size (f - 1) (min (x + size) b.length) := by
  cases f with
  | zero => omega
  | succ f =>
    conv => lhs; unfold Sn.piecesGo
    rw [if_neg (by omega), Nat.add_sub_cancel]
    congr 1
    rcases Nat.le_total (x + size) b.length with h | h
    · rw [Nat.min_eq_left h]
    · rw [Nat.min_eq_right h, pGo_end b size f _ h, pGo_end b size f _ (Nat.le_refl _)]
theorem piece_min (x size n : Nat) (h : n = min size (b.length - x)) : Sn.piece b x size = (Cm.num b.length ++ Cm.num x) ++ (b.drop x).take n := by
  unfold Sn.piece
  rw [List.append_assoc, h]
  congr 2
  have e2 : (b.drop x).take (b.length - x) = b.drop x := List.take_of_length_le (by simp)
  rw [← List.take_take, e2]
/-- One piece. -/
theorem piece_one {x n : Nat} {KK : Option Addr → Nat → Nat → World → Prop} {Kp : List PanicEntry → World → Prop} (hs : Src F q b) (hb : b.length ≤ 32768) (hx : x + n ≤ b.length) (h : St E (kn F :: L) w)
    (k : ∀ (G : Fz) (w' : World) (p : Sl), Fz.le F G → Src G p ((Cm.num b.length ++ Cm.num x) ++ (b.drop x).take n) → St E (kn G :: L) w' → KK p.1 p.2.1 p.2.2 w') :
    Calls Try.prog 29 #[.slice none 0 0, .int .i64 ((q.2.1 : Nat) : Int)] w (ret (fun r19 w20 => ∃ s21a : Option Addr, ∃ s21l : Nat, ∃ s21c : Nat, r19 = .slice s21a s21l s21c ∧ (True) ∧ Calls Try.prog 29 #[.slice s21a s21l s21c, .int .i64 (x : Int)] w20 (ret (fun r22 w23 => ∃ s24a : Option Addr, ∃ s24l : Nat, ∃ s24c : Nat, r22 = .slice s24a s24l s24c ∧ (True) ∧ runV Try.prog (Builtin.append_ #[27, 27] 27 #[.slice s24a s24l s24c, .slice (midS q x n).1 (midS q x n).2.1 (midS q x n).2.2]) w23 (fun r25 w26 => ∃ s27a : Option Addr, ∃ s27l : Nat, ∃ s27c : Nat, r25 = .slice s27a s27l s27c ∧ (True) ∧ KK s27a s27l s27c w26) Kp) Kp)) Kp) := by
  have hl := hs.len
  rw [← hl]
  have n6 := fun x => Sn.numLen x
  have hbig : big = 140737488355328 := rfl
  refine Snum_spec (p := (none, 0, 0)) (xs := []) (by decide) h.by_nil fun w1 p1 h1 => ⟨_, _, _, rfl, trivial, ?_⟩
  rw [List.nil_append] at h1
  refine Snum_spec (p := p1) (xs := Cm.num b.length) (by have := n6 b.length; omega) h1 fun w2 p2 h2 => ⟨_, _, _, rfl, trivial, ?_⟩
  have hm := hs.mid hx
  have hml : ((b.drop x).take n).length ≤ 32768 := by rw [List.length_take, List.length_drop]; omega
  have hxl := n6 b.length
  have hyl := n6 x
  obtain ⟨p3, w3, hr, h3⟩ := app_b (c2 := (midS q x n).2.2) h2 (hm.rd.at h2 (by simp)) (by rw [List.length_append]; omega)
  refine runV_ok hr ⟨_, _, _, rfl, trivial, ?_⟩
  obtain ⟨G, hG, h4, hs4⟩ := St.srcB2 h3 (by rw [List.length_append, List.length_append]; omega)
  exact k G w3 p3 hG hs4 h4
def piecesR (b : Cm.Bs) (size : Int) : List Cm.Bs := if Sn.piecesE b size = 0 then Sn.pieces b size.toNat else []
set_option maxHeartbeats 1000000 in
theorem Pieces_spec {size : Int} (hs : Src F q b) (h64 : size ≤ 9223372036854775807) (h : St E (kn F :: L) w)
    (k : ∀ (G : Fz) (w' : World) (o : Sl) (qs : List Sl), Fz.le F G → Rows G qs (piecesR b size) → St E (rowA o qs :: kn G :: L) w' → R (.returned (.tuple #[.slice o.1 o.2.1 o.2.2, .int .i64 (Sn.piecesE b size)])) w') :
    Calls Try.prog 13 #[.slice q.1 q.2.1 q.2.2, .int .i64 size] w R := by
  have hl := hs.len
  have hc := hs.cap
  refine C_snap_Pieces ?_
  unfold T_snap_Pieces
  refine ite_d (fun hh => ?_) fun hh => ?_
  · have e : Sn.piecesE b size = 2 := by unfold Sn.piecesE; rw [if_pos hh]
    have := k F w nilS [] (Fz.le_refl F) (by unfold piecesR; rw [e, if_neg (by decide)]; exact .nil) h.ownS_nil
    rw [e] at this
    exact this
  refine ite_d (fun h2 => ?_) fun h2 => ?_
  · have e : Sn.piecesE b size = 6 := by unfold Sn.piecesE; rw [if_neg hh, if_pos (by omega)]
    have := k F w nilS [] (Fz.le_refl F) (by unfold piecesR; rw [e, if_neg (by decide)]; exact .nil) h.ownS_nil
    rw [e] at this
    exact this
  have e : Sn.piecesE b size = 0 := by unfold Sn.piecesE; rw [if_neg hh, if_neg (by omega)]
  have eR : piecesR b size = Sn.piece b 0 size.toNat :: Sn.piecesGo b size.toNat b.length size.toNat := by unfold piecesR; rw [e, if_pos rfl]; rfl
  rw [eR, e] at k
  obtain ⟨sz, rfl⟩ : ∃ sz : Nat, size = (sz : Int) := ⟨size.toNat, by omega⟩
  rw [Int.toNat_natCast] at k
  have hsz : 1 ≤ sz := by omega
  have emin : (if ((q.2.1 : Nat) : Int) < (sz : Int) then ((q.2.1 : Nat) : Int) else (sz : Int)) = ((min sz b.length : Nat) : Int) := by split <;> omega
  intro w3
  have h3 : St E (kn F :: L) w3 := h.drew
  clear_value w3
  rw [emin]
  refine ⟨by omega, by omega, ?_⟩
  rw [Int.toNat_natCast]
  have e0 : (if q.2.2 = 0 then q.1 else q.1.map (fun x => x.add (0 * 1))) = (midS q 0 (min sz b.length)).1 := rfl
  have e1 : min sz b.length - 0 = (midS q 0 (min sz b.length)).2.1 := by unfold midS; simp only; omega
  rw [e1]
  refine piece_one (x := 0) (n := min sz b.length) hs (by omega) (by omega) h3 fun G1 w11 p hG1 hp h11 => ?_
  intro w13
  have h13 : St E (rowA (some ⟨w11.heap.size, 0, none⟩, 1, 1) [p] :: kn G1 :: L) w13 := h11.row_one p
  clear_value w13
  generalize w11.heap.size = bo at *
  refine ⟨trivial, ?_⟩
  rw [← piece_min 0 sz (min sz b.length) (by omega)] at hp
  unfold T_snap_Pieces_1
  intro X hX
  have hgo : ∀ (f x : Nat) (w : World) (G : Fz) (o : Sl) (qs : List Sl) (rs : List Cm.Bs), x ≤ b.length → b.length - x ≤ f → 1 ≤ qs.length → qs.length ≤ 1 + x → Fz.le F G → Rows G qs rs → rs ++ Sn.piecesGo b sz f x = Sn.piece b 0 sz :: Sn.piecesGo b sz b.length sz →
      St E (rowA o qs :: kn G :: L) w → X o.1 o.2.1 o.2.2 (x : Int) w := by
    intro f
    induction f with
    | zero =>
      intro x w G o qs rs hx hf h1 hq hG hr he h
      refine hX _ _ _ _ _ ?_
      unfold T_snap_Pieces_1_body
      refine ite_d (fun hh => absurd hh (by omega)) fun _ => ?_
      rw [show Sn.piecesGo b sz 0 x = [] from rfl, List.append_nil] at he
      exact k G w o qs hG (he ▸ hr) h
    | succ f ih =>
      intro x w G o qs rs hx hf h1 hq hG hr he h
      refine hX _ _ _ _ _ ?_
      unfold T_snap_Pieces_1_body
      refine ite_d (fun hh => ?_) fun hh => ?_
      · have hxb : x < b.length := by omega
        have em : (IntKind.wrap .i64 ((x : Int) + (if (IntKind.wrap .i64 (((q.2.1 : Nat) : Int) - (x : Int))) < (sz : Int) then (IntKind.wrap .i64 (((q.2.1 : Nat) : Int) - (x : Int))) else (sz : Int)))) = ((x + min sz (b.length - x) : Nat) : Int) := by
          rw [wrap_id (x := ((q.2.1 : Nat) : Int) - (x : Int)) (by omega) (by omega)]
          split
          · rw [wrap_id (by omega) (by omega)]; omega
          · rw [wrap_id (by omega) (by omega)]; omega
        rw [em]
        intro w18
        have h18 : St E (kn G :: rowA o qs :: L) w18 := h.drew.f1
        clear_value w18
        refine ⟨by omega, by omega, by omega, by rw [Int.toNat_natCast]; omega, ?_⟩
        simp -zeta only [Int.toNat_natCast]
        refine piece_one (x := x) (n := min sz (b.length - x)) (hs.mono hG) (by omega) (by omega) h18 fun G2 w26 p hG2 hp h26 => ?_
        rw [← piece_min x sz _ rfl] at hp
        intro w28
        obtain ⟨o', w30, hr30, h30⟩ := app_row h26.f1 p (by omega)
        refine ⟨trivial, runV_ok hr30 ⟨_, _, _, rfl, trivial, ?_⟩⟩
        have e2 := pGo_step (size := sz) (f := f + 1) hxb hf
        rw [e2, Nat.add_sub_cancel] at he
        have e3 : x + min sz (b.length - x) = min (x + sz) b.length := by omega
        rw [e3]
        refine ih (min (x + sz) b.length) w30 G2 o' (qs ++ [p]) (rs ++ [Sn.piece b x sz]) (by omega) (by omega) (by simp) (by simp; omega) (Fz.le_trans hG hG2) (.snoc (hr.mono hG2) hp) ?_ h30
        rw [List.append_assoc]
        exact he
      · have hxe : b.length ≤ x := by omega
        rw [pGo_end b sz _ _ hxe, List.append_nil] at he
        exact k G w o qs hG (he ▸ hr) h
  refine hgo b.length (min sz b.length) w13 G1 (some ⟨bo, 0, none⟩, 1, 1) [p] [Sn.piece b 0 sz] (by omega) (by omega) (Nat.le_refl _) (by simp) hG1 (.snoc .nil hp) ?_ h13
  rw [List.singleton_append]
  congr 1
  rcases Nat.le_total sz b.length with h | h
  · rw [Nat.min_eq_left h]
  · rw [Nat.min_eq_right h, pGo_end b sz _ _ h, pGo_end b sz _ _ (Nat.le_refl _)]
end
end Go.Vc

/-
  A small snapshot of an index; texts that are the same.
-/
namespace Go.Vc
open Go Go.Proofs Go.Proofs.Ytclinifclfahfaa
set_option maxRecDepth 100000
section
variable {E w : World} {L : List Asrt} {R : Ending → World → Prop} {F G : Fz} {q p s o : Sl} {b : Cm.Bs}
/-- '[]byte("..")': the block is marked, and stays as it is. -/
theorem conv_lit {b l c : Nat} {ys : Cm.Bs} (h : St E (blkL b 5 (bytesV ys) :: kn F :: L) w) (hl : ys.length = l) (hc : l ≤ c) (hb : l ≤ 1000) :
    ∃ G w', (convert 27 27 (.slice (some ⟨b, 0, none⟩) l c)).run Try.prog w = .ok (.slice (some ⟨b, 0, none⟩) l c) w' ∧ Fz.le F G ∧ Src G (some ⟨b, 0, none⟩, l, c) ys ∧ St E (kn G :: L) w' := by
  have hb0 := h.at_blk
  have hlt : b < w.heap.size := (Array.getElem?_eq_some_iff.1 hb0).1
  have ht : Try.prog.underlying 27 = some (.slice 5) := by kernel_rfl
  have he : Try.prog.underlying 5 = some (.int .u8) := by kernel_rfl
  have h2 : St E (blk b (.cells ⟨bytesV ys⟩ 5 ((bytesV ys).length, (bytesV ys).length + 1)) :: kn F :: L) (w.freeze ⟨b, (bytesV ys).length, none⟩ 1) := by
    refine h.upd ⟨rfl, rfl, rfl⟩ ?_ fun c hc _ => ?_
    · simp [World.freeze, Array.getElem?_modify, hb0]
    · unfold World.freeze
      rw [if_neg (by omega)]
      show (w.heap.modify b _)[c]? = _
      rw [Array.getElem?_modify, if_neg (Ne.symm hc)]
  obtain ⟨hle, h3⟩ := h2.learn
  refine ⟨_, w.freeze ⟨b, (bytesV ys).length, none⟩ 1, ?_, hle, ⟨fun w' hw => ⟨by simp [bytesV, hl], .inr ⟨b, 0, rfl, fun i u hu => ?_⟩⟩, hl, hc, by omega⟩, h3⟩
  · simp [convert, run_underlying_ ht, run_underlying_ he, markStringish, shape, Sem.run, World.shape?, hb0]
  · have hb := hw b (.cells ⟨bytesV ys⟩ 5 ((bytesV ys).length, (bytesV ys).length + 1)) (by simp [Fz.put])
    rw [Nat.zero_add, cell_of hb]
    exact hu
def ofS (i : Int) : Sn.Snp := ⟨i, 1, ⟨[1], []⟩, [120]⟩
theorem Of_spec {i : Int} (h : St E (kn F :: L) w) (k : ∀ (G : Fz) (w' : World) (v l d : Sl), Fz.le F G → snpR G v l d (ofS i) → St E (kn G :: L) w' → R (.returned (snpV i 1 v l d)) w') : Calls Try.prog 24 #[.int .i64 i] w R := by
  refine C_law07_of ?_
  unfold T_law07_of
  intro w2 w3 w4
  have h3 : St E (inA (some ⟨w2.heap.size, 0, none⟩, 1, 1) [1] :: blkL w.heap.size 29 z5 :: kn F :: L) w3 := (h.alloc (.cells ⟨z5⟩ 29)).in_one 1
  have h4 : St E (blkL w3.heap.size 5 (bytesV [120]) :: kn F :: inA (some ⟨w2.heap.size, 0, none⟩, 1, 1) [1] :: blkL w.heap.size 29 z5 :: L) w4 := (h3.alloc (.cells ⟨bytesV [120]⟩ 5)).sel 4 [0, 3, 1, 2] (by simp)
  clear_value w4
  generalize w3.heap.size = b3 at *
  generalize w2.heap.size = b2 at *
  generalize w.heap.size = b1 at *
  obtain ⟨G, w6, hr, hG, hs, h6⟩ := conv_lit (l := 1) (c := 1) h4 rfl (Nat.le_refl 1) (by decide)
  refine runV_ok hr ⟨_, _, _, rfl, rfl, ?_⟩
  have h7 : St E (inA (some ⟨b2, 0, none⟩, 1, 1) [1] :: kn G :: blkL b1 29 z5 :: L) w6 := h6.f1
  obtain ⟨G2, hG2, h8, hv⟩ := St.freezeS h7
  have h9 : St E (blkL b1 29 z5 :: kn G2 :: L) w6 := h8.f1
  refine ⟨ok_snp h9 rfl i 1 (some ⟨b2, 0, none⟩, 1, 1) nilS (some ⟨b3, 0, none⟩, 1, 1), ?_⟩
  intro w8
  have h10 : St E (blkL b1 29 (snpL i 1 (some ⟨b2, 0, none⟩, 1, 1) nilS (some ⟨b3, 0, none⟩, 1, 1)) :: kn G2 :: L) w8 := h9.wr_snp rfl _ _ _ _ _
  clear_value w8
  exact ⟨_, _, _, _, _, _, _, _, _, _, _, rd_snp h10, k G2 w8 _ _ _ (Fz.le_trans hG hG2) ⟨⟨hv, RdF.nil G2 none⟩, hs.mono hG2⟩ h10.drop⟩
theorem one_at {a : Option Addr} {l j : Nat} {α : Type} {f : α → Value} {qs : List α} (hf : ∀ q, one (f q) = true) (h : RdS w a l 1 (qs.flatMap fun q => [f q])) (hj : j < qs.length) : ∃ ad, a = some ad ∧ rd w (ad.add (j * 1)) (f qs[j]) := by
  obtain ⟨ad, ha, _, hk⟩ := h.elem (f := fun q => [f q]) (fun _ => rfl) (List.getElem?_eq_getElem hj) (by decide)
  refine ⟨ad, ha, ?_⟩
  have := hk 0 _ rfl (hf _)
  have e : (ad.add (j * 1)).add 0 = ad.add (j * 1) := rfl
  rwa [e] at this
theorem SameTexts_spec {xs ys : List Cm.Bs} {a c : Sl} (ha : a.2.1 = xs.length) (hc : c.2.1 = ys.length) (hm : xs.length ≤ 1000000) (sa : Sees E L a.1 a.2.1 1 (xs.flatMap celS)) (sc : Sees E L c.1 c.2.1 1 (ys.flatMap celS)) (h : St E L w)
    (k : ∀ w', St E L w' → R (.returned (.bool (decide (xs = ys)))) w') : Calls Try.prog 36 #[.slice a.1 a.2.1 a.2.2, .slice c.1 c.2.1 c.2.2] w R := by
  refine C_ref05_SameTexts ?_
  unfold T_ref05_SameTexts
  rw [ha, hc]
  refine ite_b (fun hh => ?_) fun hh => ?_
  · have hne : xs.length ≠ ys.length := by
      have : ¬ ((xs.length : Int) = (ys.length : Int)) := by simpa using hh
      omega
    have := k w h
    rw [decide_eq_false (fun e => hne (congrArg List.length e))] at this
    exact this
  have heq : xs.length = ys.length := by
    have : ((xs.length : Int) = (ys.length : Int)) := by simpa using hh
    omega
  unfold T_ref05_SameTexts_1
  intro X hX
  refine up_to xs.length (Q := fun j => ∀ (w : World), xs.take j = ys.take j → St E L w → X (j : Int) w) ?_ w rfl h
  intro j hj ih w he h
  refine hX _ _ ?_
  unfold T_ref05_SameTexts_1_body
  refine ite_d (fun hl => ?_) fun hl => ?_
  · have hjl : j < xs.length := by omega
    intro w6
    have h6 : St E L w6 := h.drew
    clear_value w6
    have hjl2 : j < ys.length := by omega
    obtain ⟨a1, hae, hard⟩ := one_at (f := encN) (fun _ => rfl) (sa w6 h6) hjl
    obtain ⟨c1, hce, hcrd⟩ := one_at (f := encN) (fun _ => rfl) (sc w6 h6) hjl2
    refine ⟨by omega, by omega, a1, hae, _, hard, by omega, by omega, c1, hce, _, hcrd, ?_⟩
    show ite ((!((bs xs[j]).toList == (bs ys[j]).toList)) = true) _ _
    rw [bs_beq]
    refine ite_b (fun hb => ?_) fun hb => ?_
    · have hne : xs[j] ≠ ys[j] := by simpa using hb
      have := k w6 h6
      rw [decide_eq_false (fun e => hne (by subst e; rfl))] at this
      exact this
    · have heq2 : xs[j] = ys[j] := by simpa using hb
      rw [succ_big (by unfold big; omega)]
      refine ih hjl w6 ?_ h6
      rw [List.take_succ_eq_append_getElem hjl, List.take_succ_eq_append_getElem hjl2, he, heq2]
  · have : j = xs.length := by omega
    subst this
    have := k w h
    rw [List.take_length, heq, List.take_length] at he
    rw [decide_eq_true he] at this
    exact this
end
end Go.Vc

/-
  The files of snapshots among a disk's names: the loop.
-/
namespace Go.Vc
open Go Go.Proofs Go.Proofs.Ytclinifclfahfaa
set_option maxRecDepth 100000
abbrev Ix := {n : Nat // n ≤ 1099511627776}
instance : Inhabited Ix := ⟨⟨0, Nat.zero_le _⟩⟩
def celX (x : Ix) : List Value := [encN (Sn.nameOf x.1), .int .i64 (x.1 : Int)]
theorem celX_len (x : Ix) : (celX x).length = 2 := rfl
theorem celX_one (l : List Ix) : ∀ u ∈ l.flatMap celX, one u = true := by
  intro u hu
  obtain ⟨c, _, hc⟩ := List.mem_flatMap.1 hu
  simp [celX] at hc
  rcases hc with rfl | rfl <;> rfl
section
variable {P : Program} {t : TypeId} {w : World}
theorem equal_strint {f0 f1 : Field} (hu : P.underlying t = some (.struct #[f0, f1])) (h0 : P.underlying f0.type = some .string) (h1 : P.underlying f1.type = some (.int .i64))
    (hn0 : f0.name ≠ "_") (hn1 : f1.name ≠ "_") (ho0 : f0.offset = 0) (ho1 : f1.offset = 1) (hst : P.stoodInHeld t = false) (a1 b1 : ByteArray) (a2 b2 : Int) :
    (Op.equal t (.agg #[.string a1, .int .i64 a2]) (.agg #[.string b1, .int .i64 b2])).run P w = .ok (decide (a1 = b1) && decide (a2 = b2)) w := by
  have e0 : ∀ x y : ByteArray, (Op.equalIn 9999 f0.type (.string x) (.string y)).run P w = .ok (x == y) w := fun x y => equalIn_string (P := P) h0 x y 9998 w
  have e1 : ∀ x y : Int, (Op.equalIn 9999 f1.type (.int .i64 x) (.int .i64 y)).run P w = .ok (x == y) w := fun x y => equalIn_int (P := P) h1 x y 9998 w
  have hag : aggT P f0.type = false := by simp [aggT, h0]
  have hag1 : aggT P f1.type = false := by simp [aggT, h1]
  have hp0 : ∀ x y : Value, (part f0.type #[x, y] f0.offset).run P w = .ok x w := fun x y => by simp [part, run_isAgg h0, hag, ho0]
  have hp1 : ∀ x y : Value, (part f1.type #[x, y] f1.offset).run P w = .ok y w := fun x y => by simp [part, run_isAgg h1, hag1, ho1]
  show (Op.equalIn (9999 + 1) t _ _).run P w = _
  unfold Op.equalIn
  simp only [Sem.run_bind, run_underlying_ hu, Result.andThen_ok, program, Sem.run, hst]
  by_cases ha : a1 = b1
  · by_cases hb : a2 = b2
    · simp [hn0, hn1, hp0, hp1, e0, e1, ha, hb, bytes_beq]
    · simp [hn0, hn1, hp0, hp1, e0, e1, ha, hb, bytes_beq]
  · simp [hn0, hp0, e0, ha, bytes_beq]
end
section
variable {E w : World} {L : List Asrt} {R : Ending → World → Prop} {F G : Fz} {q p s o : Sl} {b : Cm.Bs}
theorem file_eq (x y : Operand) (a c : Cm.Bs) (b d : Int) (w : World) : (do eqGuard .eql 86 x y (.agg #[.string (bs a), .int .i64 b]) (.agg #[.string (bs c), .int .i64 d]); binOp .eql 86 (.agg #[.string (bs a), .int .i64 b]) (.agg #[.string (bs c), .int .i64 d]) : Sem Value).run Try.prog w = .ok (.bool (decide (a = c) && decide (b = d))) w := by
  have h := run_eq_agg (P := Try.prog) (t := 86) (w := w) (x := x) (y := y) (a := #[.string (bs a), .int .i64 b]) (b := #[.string (bs c), .int .i64 d]) (by kernel_rfl)
    (equal_strint (f0 := ⟨ "name", 9, 0, false, "", "tollgate/snap", 0⟩) (f1 := ⟨ "index", 3, 1, false, "", "tollgate/snap", 16⟩) (by kernel_rfl) (by kernel_rfl) (by kernel_rfl) (by decide) (by decide) rfl rfl (by kernel_rfl) (bs a) (bs c) b d)
  have e : decide (bs a = bs c) = decide (a = c) := decide_eq_decide.2 ⟨bs_inj, congrArg bs⟩
  rw [e] at h
  exact h
theorem bs_extract (s : Cm.Bs) (a b : Nat) : (bs s).extract a b = bs ((s.take b).drop a) := by
  apply ByteArray.ext
  simp [bs, List.drop_take]
theorem files3 {s : Cm.Bs} {K : Bool → World → Prop} {Kp : List PanicEntry → World → Prop} (k : K (!(decide (6 ≤ s.length ∧ s.length ≤ 18) && decide (s.take 5 = Sn.pre))) w) : T_snap_files_3 (bs s) w K Kp := by
  unfold T_snap_files_3
  have hz : (bs s).size = s.length := rfl
  rw [hz]
  refine ite_d (fun hh => ?_) fun hh => ite_d (fun h2 => ?_) fun h2 => ?_
  · rw [decide_eq_false (by omega)] at k; exact k
  · rw [decide_eq_false (by omega)] at k; exact k
  · rw [decide_eq_true (by omega), Bool.true_and] at k
    refine ⟨by omega, by omega, ?_⟩
    have e : (bs s).extract 0 ((5 : Int).toNat) = bs (s.take 5) := bs_extract s 0 5
    rw [e]
    have e2 : ((bs (s.take 5)).toList == (bs Sn.pre).toList) = decide (s.take 5 = Sn.pre) := bs_beq _ _
    have e3 : ByteArray.mk #[115, 110, 97, 112, 45] = bs Sn.pre := rfl
    rw [e3, e2]
    exact k
theorem val_take {ds : Cm.Bs} {j : Nat} (h : j < ds.length) : Sn.val (ds.take (j + 1)) = 10 * Sn.val (ds.take j) + (ds[j].toNat - 48) := by
  rw [List.take_succ_eq_append_getElem h, Sn.val_snoc]
theorem val_small {ds : Cm.Bs} (ha : ds.all Sn.isDig = true) (hl : ds.length ≤ 13) : Sn.val ds < 10 ^ 13 := by
  have h := Sn.val_lt ds ha 0
  have : 10 ^ ds.length ≤ 10 ^ 13 := Nat.pow_le_pow_right (by decide) hl
  unfold Sn.val
  omega
theorem files4 {ds : Cm.Bs} {a : Option Addr} {c : Nat} {Ke : World → Prop} {Kn : Int → World → Prop} {Kp : List PanicEntry → World → Prop} (hl : ds.length ≤ 13) (hr : RdS w a ds.length 1 (bytesV ds))
    (kN : ds.all Sn.isDig = true → Kn (Sn.val ds : Int) w) (kE : ds.all Sn.isDig = false → Ke w) : T_snap_files_4 0 0 a ds.length c ((ds.length : Nat) : Int) w Ke Kn Kp := by
  unfold T_snap_files_4
  intro X hX
  refine up_to ds.length (Q := fun j => (ds.take j).all Sn.isDig = true → X (Sn.val (ds.take j) : Int) (j : Int) w) ?_ rfl
  intro j hj ih ha
  refine hX _ _ _ ?_
  unfold T_snap_files_4_body
  refine ite_d (fun hh => ?_) fun hh => ?_
  · have hjl : j < ds.length := by omega
    obtain ⟨ad, hae, hrd⟩ := one_at (f := fun x : UInt8 => Value.int .u8 (x.toNat : Int)) (qs := ds) (fun _ => rfl) (by rw [← List.map_eq_flatMap]; exact hr) hjl
    refine ⟨by omega, by omega, ad, hae, _, hrd, ?_⟩
    unfold T_snap_files_5
    have hc : ds[j].toNat < 256 := ds[j].toNat_lt
    have hv := val_take hjl
    have hall : (ds.take (j + 1)).all Sn.isDig = ((ds.take j).all Sn.isDig && Sn.isDig ds[j]) := by
      rw [List.take_succ_eq_append_getElem hjl, List.all_append]; simp
    have bad : Sn.isDig ds[j] = false → Ke w := fun hb => kE (by
      cases hA : ds.all Sn.isDig with
      | false => rfl
      | true => rw [List.all_eq_true] at hA; rw [hA _ (List.getElem_mem hjl)] at hb; cases hb)
    refine ite_d (fun h1 => ?_) fun h1 => ?_
    · refine ite_b (fun _ => bad ?_) fun hb => by cases hb
      unfold Sn.isDig; exact decide_eq_false (by omega)
    refine ite_d (fun h2 => bad ?_) fun h2 => ?_
    · unfold Sn.isDig; exact decide_eq_false (by omega)
    have hd : Sn.isDig ds[j] = true := by unfold Sn.isDig; exact decide_eq_true (by omega)
    have hsm := val_small ha (by rw [List.length_take]; omega)
    have hA2 : (ds.take (j + 1)).all Sn.isDig = true := by rw [hall, ha, hd]; rfl
    have e1 : IntKind.wrap .u8 (((ds[j].toNat : Nat) : Int) - 48) = ((ds[j].toNat - 48 : Nat) : Int) := by
      unfold IntKind.wrap
      simp [IntKind.signed, IntKind.bits]
      omega
    rw [e1, wrap_id (x := ((ds[j].toNat - 48 : Nat) : Int)) (by omega) (by omega), wrap_id (x := 10 * ((Sn.val (ds.take j) : Nat) : Int)) (by omega) (by omega), wrap_id (by omega) (by omega), succ_big (by unfold big; omega)]
    have := ih hjl hA2
    rw [hv] at this
    have e2 : ((10 * Sn.val (ds.take j) + (ds[j].toNat - 48) : Nat) : Int) = 10 * ((Sn.val (ds.take j) : Nat) : Int) + ((ds[j].toNat - 48 : Nat) : Int) := by omega
    rw [e2] at this
    exact this
  · have : j = ds.length := by omega
    subst this
    rw [List.take_length] at ha ⊢
    exact kN ha
theorem app_fi {xs : List Ix} (h : St E (ownS o.1 o.2.1 o.2.2 86 2 (xs.flatMap celX) :: L) w) (x : Ix) (hb : xs.length + 1 ≤ 1000000) :
    ∃ (o' : Sl) (w' : World), (Builtin.append_ #[83, 83] 83 #[.slice o.1 o.2.1 o.2.2, .slice (some ⟨w.heap.size, 0, none⟩) 1 1]).run Try.prog (w.alloc (.cells ⟨celX x⟩ 86)) = .ok (.slice o'.1 o'.2.1 o'.2.2) w' ∧ St E (ownS o'.1 o'.2.1 o'.2.2 86 2 ((xs ++ [x]).flatMap celX) :: L) w' := by
  have h2 : St E (ownS (some ⟨w.heap.size, 0, none⟩) 1 1 86 2 ([x].flatMap celX) :: ownS o.1 o.2.1 o.2.2 86 2 (xs.flatMap celX) :: L) (w.alloc (.cells ⟨celX x⟩ 86)) :=
    (St.ownS_mk (xs := celX x) (rest := []) (l := 1) (c := 1) (sz := 2) (by rw [List.append_nil]; exact h.alloc _) rfl (Nat.le_refl _) (by decide) rfl :)
  have hro : RdS (w.alloc (.cells ⟨celX x⟩ 86)) (some ⟨w.heap.size, 0, none⟩) 1 2 ([x].flatMap celX) := St.rdS_own h2
  have hl : xs.length = o.2.1 := h.rdS_own.count celX_len (by decide)
  obtain ⟨a', c', w', hr, hs⟩ := append_own (P := Try.prog) (t := 83) (ty := 83) (e := 86) (i := Try.t86) (z := .agg #[.string ⟨#[]⟩, .int .i64 0]) (by kernel_rfl) (by kernel_rfl) (by kernel_rfl) (by kernel_rfl) (by decide) (c2 := 1) h2.f1 hro (celX_one [x])
    (by have : Try.t86.bytes = 24 := by kernel_rfl
        rw [this]; omega) (by unfold maxLen; omega)
  rw [show Try.t86.size = 2 from by kernel_rfl, ← List.flatMap_append] at hs
  exact ⟨(a', o.2.1 + 1, c'), w', hr, hs.f1.drop⟩
def numsN (ns : List Cm.Bs) : List Nat := (ns.map Sn.numbered).filter fun k => decide (0 < k)
theorem numsN_succ {ns : List Cm.Bs} {j : Nat} (h : j < ns.length) : numsN (ns.take (j + 1)) = numsN (ns.take j) ++ (if 0 < Sn.numbered ns[j] then [Sn.numbered ns[j]] else []) := by
  unfold numsN
  rw [List.take_succ_eq_append_getElem h, List.map_append, List.filter_append]
  congr 1
  by_cases h0 : 0 < Sn.numbered ns[j]
  · rw [if_pos h0]; simp [h0]
  · rw [if_neg h0]; simp [h0]
set_option maxHeartbeats 2000000 in
theorem files_loop {ns : List Cm.Bs} {s : Sl} {L : List Asrt} {K : Option Addr → Nat → Nat → World → Prop} {Kp : List PanicEntry → World → Prop} (hn : ns.length ≤ 1000) (hl : s.2.1 = ns.length) (h : St E (ownS s.1 s.2.1 s.2.2 9 1 (ns.flatMap fun x => [encN x]) :: L) w)
    (k : ∀ (w' : World) (o : Sl) (xs : List Ix), xs.map (·.1) = numsN ns → St E (ownS o.1 o.2.1 o.2.2 86 2 (xs.flatMap celX) :: L) w' → K o.1 o.2.1 o.2.2 w') : T_snap_files_2 none 0 0 0 s.1 s.2.1 s.2.2 ((s.2.1 : Nat) : Int) w K Kp := by
  unfold T_snap_files_2
  intro X hX
  refine up_to ns.length (Q := fun j => ∀ (w : World) (o : Sl) (xs : List Ix), xs.map (·.1) = numsN (ns.take j) → St E (ownS o.1 o.2.1 o.2.2 86 2 (xs.flatMap celX) :: ownS s.1 s.2.1 s.2.2 9 1 (ns.flatMap fun x => [encN x]) :: L) w → X o.1 o.2.1 o.2.2 (j : Int) w) ?_ w nilS [] rfl h.ownS_nil
  intro j hj ih w o xs hxs h
  refine hX _ _ _ _ _ ?_
  unfold T_snap_files_2_body
  rw [hl]
  refine ite_d (fun hh => ?_) fun hh => ?_
  · have hjl : j < ns.length := by omega
    obtain ⟨ad, hae, hrd⟩ := one_at (f := encN) (fun _ => rfl) h.f1.rdS_own hjl
    refine ⟨by omega, by omega, ad, hae, _, hrd, ?_⟩
    have ihj := ih hjl
    rw [numsN_succ hjl] at ihj
    have hxl : xs.length ≤ 1000 := by
      have h1 : xs.length = (numsN (ns.take j)).length := by rw [← hxs, List.length_map]
      have h2 : (numsN (ns.take j)).length ≤ (ns.take j).length := by unfold numsN; exact Nat.le_trans (List.length_filter_le ..) (by simp)
      rw [List.length_take] at h2
      omega
    generalize hnj : ns[j] = nm at *
    clear ih hX hrd
    have next : ∀ {w : World}, Sn.numbered nm = 0 → St E (ownS o.1 o.2.1 o.2.2 86 2 (xs.flatMap celX) :: ownS s.1 s.2.1 s.2.2 9 1 (ns.flatMap fun x => [encN x]) :: L) w → X o.1 o.2.1 o.2.2 (IntKind.wrap .i64 ((j : Int) + 1)) w := fun hz h => by
      rw [succ_big (by unfold big; omega)]
      exact ihj _ o xs (by rw [hz, if_neg (by decide), List.append_nil]; exact hxs) h
    refine files3 (ite_b (fun hb => next ?_ h) fun hb => ?_)
    · unfold Sn.numbered Sn.shaped
      rw [if_neg]
      rintro ⟨h1, _⟩
      rw [Bool.and_eq_true, Bool.and_eq_true] at h1
      rw [h1.1, h1.2.1] at hb
      cases hb
    have hb' : (decide (6 ≤ nm.length ∧ nm.length ≤ 18) && decide (nm.take 5 = Sn.pre)) = true := by simpa using hb
    rw [Bool.and_eq_true] at hb'
    have hlen := of_decide_eq_true hb'.1
    have hsz : (bs nm).size = nm.length := rfl
    refine ⟨by omega, by rw [hsz]; omega, ?_⟩
    have e5 : (bs nm).extract ((5 : Int).toNat) (bs nm).size = bs (nm.drop 5) := by
      have := bs_extract nm 5 nm.length
      rw [List.take_length] at this
      exact this
    rw [e5]
    have hdl : (nm.drop 5).length = nm.length - 5 := List.length_drop
    obtain ⟨a4, c4, w20, hr20, h20⟩ := bytes_of_str h (nm.drop 5)
    refine runV_ok hr20 ⟨_, _, _, rfl, ?_⟩
    have hshape : Sn.shaped nm = (nm.drop 5).all Sn.isDig := by unfold Sn.shaped; rw [hb'.1, hb'.2]; rfl
    refine files4 (by omega) h20.rdS (fun hall => ?_) fun hall => ?_
    · have hv := val_small hall (by omega)
      have hnum : Sn.numbered nm = if Sn.val (nm.drop 5) ≤ 1099511627776 ∧ Sn.dec (Sn.val (nm.drop 5)) = nm.drop 5 then Sn.val (nm.drop 5) else 0 := by
        unfold Sn.numbered
        rw [hshape, hall]
        simp
      generalize Sn.val (nm.drop 5) = v at *
      intro w41
      have h41 : St E (blkL w20.heap.size 86 [.string ⟨#[]⟩, .int .i64 0] :: ownS o.1 o.2.1 o.2.2 86 2 (xs.flatMap celX) :: ownS s.1 s.2.1 s.2.2 9 1 (ns.flatMap fun x => [encN x]) :: L) w41 := h20.drop.alloc (.cells ⟨[.string ⟨#[]⟩, .int .i64 0]⟩ 86)
      clear_value w41
      generalize w20.heap.size = bf at *
      refine ⟨rfl, wrOk_agg (off := 0) (xs := [encN nm, .int .i64 (v : Int)]) h41.at_blk (by show 2 ≤ 2; decide) (by intro u hu; simp at hu; rcases hu with rfl | rfl <;> rfl), ?_⟩
      intro w42 w43
      have h43 : St E (blkL bf 86 [encN nm, .int .i64 (v : Int)] :: ownS o.1 o.2.1 o.2.2 86 2 (xs.flatMap celX) :: ownS s.1 s.2.1 s.2.2 9 1 (ns.flatMap fun x => [encN x]) :: L) w43 := (h41.wr_agg0 (xs := [encN nm, .int .i64 (v : Int)]) rfl).drew
      clear_value w43
      have rdF : rd w43 ⟨bf, 0, none⟩ (.agg #[encN nm, .int .i64 (v : Int)]) := rd_agg (xs := [encN nm, .int .i64 (v : Int)]) h43.at_blk (by intro i u hu; rw [Nat.zero_add]; exact hu)
      refine ite_d (fun hm => ?_) fun hm => ?_
      · have hm' : v ≤ 1099511627776 := by omega
        refine ⟨_, _, rdF, Name_spec hm' ⟨_, rfl, ⟨rdF, trivial⟩, runV_ok (file_eq _ _ nm (Sn.nameOf v) (v : Int) (v : Int) w43) ⟨_, rfl, trivial, ?_⟩⟩⟩
        have hnv : nm = Sn.nameOf v ↔ Sn.dec v = nm.drop 5 := by
          constructor
          · intro e; rw [e]; rfl
          · intro e
            unfold Sn.nameOf
            rw [e, ← of_decide_eq_true hb'.2, List.take_append_drop]
        refine ite_b (fun he => ?_) fun he => ?_
        · have he' : nm = Sn.nameOf v := by simpa using he
          have hd := hnv.1 he'
          rw [if_pos ⟨hm', hd⟩] at hnum
          have hv0 : 0 < v := by
            rcases Nat.eq_zero_or_pos v with h0 | h0
            · subst h0
              have : (nm.drop 5) = [] := hd.symm
              rw [List.drop_eq_nil_iff] at this
              omega
            · exact h0
          refine ⟨_, _, rdF, ?_⟩
          intro w54
          have hxe : celX ⟨v, hm'⟩ = [encN nm, .int .i64 (v : Int)] := by unfold celX; rw [he']
          obtain ⟨o', w56, hr56, h56⟩ := app_fi h43.drop ⟨v, hm'⟩ (by omega)
          rw [hxe] at hr56
          refine runV_ok hr56 ⟨_, _, _, rfl, ?_⟩
          rw [succ_big (by unfold big; omega)]
          refine ihj w56 o' (xs ++ [⟨v, hm'⟩]) ?_ h56
          rw [hnum, if_pos hv0, List.map_append, hxs]
          rfl
        · refine next ?_ h43.drop
          rw [hnum, if_neg]
          rintro ⟨_, hd⟩
          have := hnv.2 hd
          rw [decide_eq_true this] at he
          simp at he
      · refine ⟨trivial, trivial, next ?_ h43.drop⟩
        rw [hnum, if_neg]
        rintro ⟨h1, _⟩
        omega
    · refine next ?_ h20.drop
      unfold Sn.numbered
      rw [hshape, hall, if_neg (by simp)]
  · have : j = ns.length := by omega
    subst this
    rw [List.take_length] at hxs
    exact k w o xs hxs (h.sel 2 [0] (by simp))
end
end Go.Vc

/-
  The files of snapshots in their order: the library's sort at them.
-/
namespace Go.Vc
open Go Go.Proofs Go.Proofs.Ytclinifclfahfaa Go.RowKit Go.Sort Go.Shelf
set_option maxRecDepth 100000
def cmpX (x y : Ix) : Int := (y.1 : Int) - (x.1 : Int)
theorem cmpX_lt (x y : Ix) : ltOf cmpX x y = decide (y.1 < x.1) := by
  simp only [ltOf, cmpX]
  exact decide_eq_decide.2 ⟨fun h => by omega, fun h => by omega⟩
theorem swoX : SWO (ltOf cmpX) where
  irrefl x := by rw [cmpX_lt]; simp
  trans x y z h k := by
    rw [cmpX_lt] at *
    have h := of_decide_eq_true h
    have k := of_decide_eq_true k
    exact decide_eq_true (by omega)
  ntrans x y z h k := by
    rw [cmpX_lt] at *
    have h := of_decide_eq_false h
    have k := of_decide_eq_false k
    exact decide_eq_false (by omega)
theorem totX (x y : Ix) (h : ltOf cmpX x y = false) (k : ltOf cmpX y x = false) : x = y := by
  rw [cmpX_lt] at *
  have h := of_decide_eq_false h
  have k := of_decide_eq_false k
  exact Subtype.ext (by omega)
theorem uniq_ix {ss ks : List Ix} (hp : ks.Perm ss) (hk : ks.Pairwise fun a b => b.1 < a.1) : (ss.mergeSort fun x y => !(ltOf cmpX) y x) = ks :=
  sort_uniq (fun a b c h1 h2 => by
      simp only [cmpX_lt, Bool.not_eq_true', decide_eq_false_iff_not] at *
      omega)
    (fun a b => by
      simp only [cmpX_lt]
      by_cases h : a.1 < b.1
      · have : ¬ b.1 < a.1 := by omega
        simp [this]
      · simp [h])
    (fun a b h1 h2 => totX a b (by simpa using h2) (by simpa using h1)) hp
    (hk.imp fun {a b} h => by
      simp only [cmpX_lt, Bool.not_eq_true', decide_eq_false_iff_not]
      omega)
/-- The numbers in their order. -/
def downs (l : List Ix) : List Ix := l.mergeSort fun x y => !(ltOf cmpX) y x
theorem downs_up {l : List Ix} (h : l.Nodup) : (downs l).Pairwise fun a b => b.1 < a.1 := by
  have h1 := List.pairwise_mergeSort (le := fun x y => !(ltOf cmpX) y x) (fun a b c h1 h2 => by
      simp only [cmpX_lt, Bool.not_eq_true', decide_eq_false_iff_not] at *
      omega)
    (fun a b => by
      simp only [cmpX_lt]
      by_cases h : a.1 < b.1
      · have : ¬ b.1 < a.1 := by omega
        simp [this]
      · simp [h]) l
  have h2 : (downs l).Nodup := (List.mergeSort_perm l _).nodup_iff.2 h
  refine (h1.and h2).imp fun {a b} h => ?_
  have h3 := h.1
  simp only [cmpX_lt, Bool.not_eq_true', decide_eq_false_iff_not] at h3
  have : a.1 ≠ b.1 := fun e => h.2 (Subtype.ext e)
  omega
theorem downs_perm (l : List Ix) : (downs l).Perm l := List.mergeSort_perm _ _
section
variable {E w : World} {L : List Asrt} {R : Ending → World → Prop}
theorem grow_two (W : World) (o1 o2 : Obj) : ((W.alloc o1).alloc o2) = grow (W.drewN 0) #[o1, o2] := by
  rw [alloc_eq_grow, alloc_eq_grow]
  show grow (grow W #[o1]) #[o2] = grow W #[o1, o2]
  rw [grow_grow]
  rfl
theorem cmpX_lays (blk off size : Nat) (w : World) : CmpLays Try.prog 65 #[] celX 2 cmpX blk off size w := by
  intro m os dk _ x y
  generalize sortWorldK celX 2 w blk off m dk os = W
  have e : (#[.agg (celX x).toArray, .agg (celX y).toArray] ++ #[] : Array Value) = #[.agg #[encN (Sn.nameOf x.1), .int .i64 (x.1 : Int)], .agg #[encN (Sn.nameOf y.1), .int .i64 (y.1 : Int)]] := by simp [celX]
  rw [e]
  refine C_snap_files_c1 ?_
  unfold T_snap_files_c1
  intro w5 w6
  have h5 := (St.start_kn W).alloc (.cells #[encN (Sn.nameOf x.1), .int .i64 (x.1 : Int)] 86)
  have h6 := h5.alloc (.cells #[encN (Sn.nameOf y.1), .int .i64 (y.1 : Int)] 86)
  have hx := x.2
  have hy := y.2
  refine ⟨_, rd_fld h6.at_blk rfl rfl, _, rd_fld h6.f1.at_blk rfl rfl, ?_⟩
  rw [wrap_id (by omega) (by omega)]
  exact ⟨rfl, 0, _, grow_two W _ _⟩
theorem SortX_spec {a : Option Addr} {c : Nat} {ss ks : List Ix} (h : St E (ownS a ss.length c 86 2 (ss.flatMap celX) :: L) w) (hN : ss.length ≤ 1000) (hp : ks.Perm ss) (hk : ks.Pairwise fun a b => b.1 < a.1)
    (k : ∀ w', St E (ownS a ks.length c 86 2 (ks.flatMap celX) :: L) w' → R (.returned (.tuple #[])) w') : Calls Try.prog 64 #[.slice a ss.length c, .func (.func 65) #[] #[]] w R := by
  have hl := hp.length_eq
  obtain ⟨_, hlc, hcm⟩ := h.ownS_facts
  rcases h.ownS_open with ⟨rfl, h0, rfl, hx⟩ | ⟨g, rest, rfl, hr, h2⟩
  · have hs : ss = [] := List.eq_nil_of_length_eq_zero h0
    subst hs
    have hk0 : ks = [] := List.eq_nil_of_length_eq_zero hl
    subst hk0
    refine (AnyF.slices_SortFunc_none Try.sortP none 0 _ w).mono ?_
    rintro e w' ⟨rfl, rfl⟩
    exact k _ h
  · have hfl : flatK celX 2 ss.toArray = (ss.flatMap celX).toArray := flatK_eq celX 2 (fun _ => rfl) (by decide) ss
    have hH : HoldsK celX 2 w g 0 ss.toArray := by
      unfold HoldsK
      rw [hfl]
      refine holds_row (enc := id) (rest := rest) (e := 86) ?_
      rw [List.map_id]
      exact h2.at_blk
    refine (AnyQ.slices_SortFunc_total Try.sortP 2 (run_isAgg (P := Try.prog) (t := 86) rfl) (fun w => by kernel_rfl) celX (fun _ => rfl) (fun x v hv => by simp [celX] at hv; rcases hv with rfl | rfl <;> rfl) cmpX swoX 65 #[] g 0 c ss.toArray w
      (enters_of Try.func65 (by kernel_rfl) rfl) (cmpX_lays g 0 _ w) hH (Array.getElem?_eq_some_iff.1 h2.at_blk).1 (by simp; omega) totX).mono ?_
    rintro e w' ⟨rfl, n, os, rfl⟩
    rw [uniq_ix hp hk]
    unfold sortWorldK putRowK
    rw [flatK_eq celX 2 (fun _ => rfl) (by decide) ks]
    refine k _ (St.ownS_mk (rest := rest) ?_ (flat_len (f := celX) (fun _ => rfl) ks) (by omega) hcm (by rw [hl]; exact hr))
    have := h2.sorted_row (enc := id) (ts := ks.flatMap celX) (m := n) (os := os) (by rw [flat_len (sz := 2) (fun _ => rfl), flat_len (sz := 2) (fun _ => rfl), hl])
    rwa [List.map_id] at this
theorem Files_spec {F : Fz} {dp c : Nat} {d : Dk.Ds} (I : Dk.Inv d) (h : St E (diskA F c dp d :: L) w)
    (k : ∀ (w' : World) (o : Sl) (ks : List Ix), (ks.map (·.1)).Perm (Sn.nums d.l) → ks.Pairwise (fun a b => b.1 < a.1) → o.2.1 = ks.length → St E (ownS o.1 o.2.1 o.2.2 86 2 (ks.flatMap celX) :: diskA F c dp d :: L) w' → R (.returned (.slice o.1 o.2.1 o.2.2)) w') :
    Calls Try.prog 40 #[.pointer (some ⟨dp, 0, none⟩)] w R := by
  have hlen : (namesOf d).length ≤ 16 := by unfold namesOf; rw [List.length_map]; exact I.n
  refine C_snap_files ?_
  unfold T_snap_files T_snap_files_1
  intro X hX
  refine hX _ _ _ _ ?_
  unfold T_snap_files_1_body
  refine DNames_spec I h fun w5 s6 hl6 h5 => ⟨_, _, _, rfl, ?_⟩
  refine files_loop (ns := namesOf d) (by omega) hl6 h5 fun w63 o xs hxs h63 => ?_
  have hnums : numsN (namesOf d) = Sn.nums d.l := by unfold numsN namesOf Sn.nums; rw [List.map_map]; rfl
  have hnd : xs.Nodup := by
    have h1 : (xs.map (·.1)).Nodup := by rw [hxs, hnums]; exact Sn.nums_nodup (Sn.names_ne I)
    exact (List.pairwise_map.1 h1).imp fun hne e => hne (congrArg _ e)
  have hol : o.2.1 = xs.length := (h63.rdS_own.count celX_len (by decide)).symm
  have hxl : xs.length ≤ 16 := by
    have h1 : xs.length = (numsN (namesOf d)).length := by rw [← hxs, List.length_map]
    have h2 : (numsN (namesOf d)).length ≤ (namesOf d).length := by unfold numsN; exact Nat.le_trans (List.length_filter_le ..) (by simp)
    omega
  rw [hol] at h63 ⊢
  refine SortX_spec (ks := downs xs) h63 (by omega) (downs_perm xs) (downs_up hnd) fun w65 h65 => ⟨rfl, ?_⟩
  have e : xs.length = (downs xs).length := (downs_perm xs).length_eq.symm
  rw [e]
  exact k w65 (o.1, (downs xs).length, o.2.2) (downs xs) (by
    rw [← hnums, ← hxs]
    exact (downs_perm xs).map _) (downs_up hnd) rfl h65
end
end Go.Vc

/-
  A snapshot is saved.
-/
namespace Go.Vc
open Go Go.Proofs Go.Proofs.Ytclinifclfahfaa
set_option maxRecDepth 100000
section
variable {E w : World} {L : List Asrt} {R : Ending → World → Prop} {F G : Fz} {q p o : Sl} {b : Cm.Bs} {dp c : Nat} {d : Dk.Ds}
theorem St.dk_c {c2 : Nat} (h : St E (diskA F c dp d :: L) w) (k : c ≤ c2) : St E (diskA F c2 dp d :: L) w :=
  h.mono fun _ ⟨bm, m, fs, ok, hs⟩ => ⟨bm, m, fs, ⟨ok.l, ok.m, ok.ok, fun x hx => Nat.le_trans (ok.few x hx) k⟩, hs⟩
theorem tmp_lit : (.string (ByteArray.mk #[115, 110, 97, 112, 46, 116, 109, 112]) : Value) = .string (bs Sn.tmp) := rfl
theorem putB_le (s : Sn.Snp) : (Sn.putB s).length ≤ 100000 := by
  by_cases h : Sn.putE s = 0
  · have := (Sn.body_len h).1
    unfold Sn.putB
    rw [if_pos h, Sn.frame_len]
    omega
  · unfold Sn.putB
    rw [if_neg h]
    exact Nat.zero_le _
theorem putE_ok {s : Sn.Snp} (h : Sn.putE s = 0) : ∃ i : Nat, s.idx = (i : Int) ∧ 0 < i ∧ i ≤ 1099511627776 := by
  unfold Sn.putE at h
  split at h
  · cases h
  · rename_i hb
    have hb : Sn.badS s = false := by simpa using hb
    unfold Sn.badS at hb
    simp only [Bool.or_eq_false_iff, decide_eq_false_iff_not] at hb
    exact ⟨s.idx.toNat, by omega, by omega, by omega⟩
theorem save_loop {v l dd : Sl} {s : Sn.Snp} {ks : List Ix} {b7 i : Nat} {K : World → Prop} {Kp : List PanicEntry → World → Prop} {fin : Dk.Ds} (hi : s.idx = (i : Int)) (hks : ks.length ≤ 1000) (hol : o.2.1 = ks.length) (I : Dk.Inv d) (hfin : Sn.remAll i (ks.map (·.1)) d = fin)
    (h : St E (blkL b7 29 (snpL s.idx s.term v l dd) :: ownS o.1 o.2.1 o.2.2 86 2 (ks.flatMap celX) :: diskA F c dp d :: kn F :: L) w) (k : ∀ w', St E (diskA F c dp fin :: kn F :: L) w' → K w') :
    T_snap_Save_2 0 (some ⟨dp, 0, none⟩) ⟨b7, 0, none⟩ o.1 o.2.1 o.2.2 ((o.2.1 : Nat) : Int) w K Kp := by
  unfold T_snap_Save_2
  intro X hX
  refine up_to ks.length (Q := fun j => ∀ (w : World) (dj : Dk.Ds), Dk.Inv dj → Sn.remAll i ((ks.drop j).map (·.1)) dj = fin → St E (blkL b7 29 (snpL s.idx s.term v l dd) :: ownS o.1 o.2.1 o.2.2 86 2 (ks.flatMap celX) :: diskA F c dp dj :: kn F :: L) w → X (j : Int) w) ?_ w d I hfin h
  intro j hj ih w dj I hfin h
  refine hX _ _ ?_
  unfold T_snap_Save_2_body
  rw [hol]
  refine ite_d (fun hh => ?_) fun hh => ?_
  · have hjl : j < ks.length := by omega
    obtain ⟨ad, hae, hrd, _⟩ := (h.f1.rdS_own).elem (f := celX) celX_len (List.getElem?_eq_getElem hjl) (by decide)
    rw [List.drop_eq_getElem_cons hjl, List.map_cons] at hfin
    unfold Sn.remAll at hfin
    refine ⟨by omega, by omega, ad, hae, _, _, hrd, ?_⟩
    have ihj := ih hjl
    have hx2 := ks[j].2
    generalize ks[j] = x at *
    intro w56
    have h56 : St E (blkL w.heap.size 86 [.string ⟨#[]⟩, .int .i64 0] :: blkL b7 29 (snpL s.idx s.term v l dd) :: ownS o.1 o.2.1 o.2.2 86 2 (ks.flatMap celX) :: diskA F c dp dj :: kn F :: L) w56 := h.alloc (.cells ⟨[.string ⟨#[]⟩, .int .i64 0]⟩ 86)
    clear_value w56
    generalize w.heap.size = bf at *
    refine ⟨rfl, wrOk_agg (off := 0) (xs := celX x) h56.at_blk (by show 2 ≤ 2; decide) (by intro u hu; exact celX_one [x] u (by simpa using hu)), ?_⟩
    intro w57
    have h57 : St E (blkL bf 86 (celX x) :: blkL b7 29 (snpL s.idx s.term v l dd) :: ownS o.1 o.2.1 o.2.2 86 2 (ks.flatMap celX) :: diskA F c dp dj :: kn F :: L) w57 := h56.wr_agg0 (xs := celX x) rfl
    clear_value w57
    refine ⟨_, rd_fld h57.at_blk rfl rfl, _, rd_cell h57.f1.at_blk rfl rfl, ?_⟩
    rw [hi]
    rw [succ_big (by unfold big; omega)]
    refine ite_d (fun hlt => ?_) fun hlt => ?_
    · rw [if_pos (by omega)] at hfin
      refine ⟨_, rd_cell h57.at_blk rfl rfl, ?_⟩
      have h58 : St E (diskA F c dp dj :: kn F :: blkL b7 29 (snpL s.idx s.term v l dd) :: ownS o.1 o.2.1 o.2.2 86 2 (ks.flatMap celX) :: L) w57 := h57.sel 5 [3, 4, 1, 2] (by simp)
      refine DRemove_spec (n := Sn.nameOf x.1) I h58 fun w62 h62 => ⟨_, rfl, ?_⟩
      exact ihj w62 _ (I.remove _) hfin (h62.sel 4 [2, 3, 0, 1] (by simp))
    · rw [if_neg (by omega)] at hfin
      exact ihj w57 dj I hfin (h57.sel 5 [1, 2, 3, 4] (by simp))
  · have : j = ks.length := by omega
    subst this
    rw [List.drop_length] at hfin
    have hfin : dj = fin := hfin
    subst hfin
    exact k w (h.sel 4 [2, 3] (by simp))
theorem save_1 {v l dd : Sl} {s : Sn.Snp} {i b7 : Nat} {W : Dk.Ds × Int} {K : Int → World → Prop} {Kp : List PanicEntry → World → Prop} (hi : s.idx = (i : Int)) (hi1 : i ≤ 1099511627776) (I : Dk.Inv W.1)
    (h : St E (diskA F c dp W.1 :: kn F :: blkL b7 29 (snpL s.idx s.term v l dd) :: L) w)
    (k : ∀ (G : Fz) (w' : World) (r : Dk.Ds × Int), Fz.le F G → r = (if W.2 = 0 then Dk.rename (Dk.sync W.1 Sn.tmp).1 Sn.tmp (Sn.nameOf i) else W) → Dk.Inv r.1 → St E (diskA G c dp r.1 :: kn G :: blkL b7 29 (snpL s.idx s.term v l dd) :: L) w' → K r.2 w') :
    T_snap_Save_1 (some ⟨dp, 0, none⟩) ⟨b7, 0, none⟩ W.2 (W.2 == 0) w K Kp := by
  unfold T_snap_Save_1
  rw [tmp_lit]
  refine ite_b (fun hz => ?_) fun hz => ?_
  · have hz : W.2 = 0 := by simpa using hz
    rw [if_pos hz] at k
    refine DSync_spec (n := Sn.tmp) I h fun G w28 hG h28 => ⟨_, rfl, ?_⟩
    refine ⟨_, rd_cell h28.f2.at_blk rfl rfl, ?_⟩
    rw [hi]
    refine Name_spec hi1 ⟨_, rfl, ?_⟩
    have I3 := I.sync Sn.tmp
    generalize (Dk.sync W.1 Sn.tmp).1 = d3 at *
    exact DRename_spec (a := Sn.tmp) (b := Sn.nameOf i) I3 h28 fun w35 h35 => ⟨_, rfl, k G w35 _ hG rfl (I3.rename _ _) h35⟩
  · have hz : W.2 ≠ 0 := by simpa using hz
    rw [if_neg hz] at k
    exact k F w W (Fz.le_refl F) rfl I h
set_option maxHeartbeats 1000000 in
theorem Save_spec {v l dd : Sl} {s : Sn.Snp} (I : Dk.Inv d) (hc : c + 1 ≤ 1000000) (r : snpR F v l dd s) (z1 : s.mem.v.length ≤ huge) (z2 : s.mem.l.length ≤ huge) (h : St E (diskA F c dp d :: kn F :: L) w)
    (k : ∀ (G : Fz) (w' : World), Fz.le F G → St E (diskA G (c + 1) dp (Sn.save d s).1 :: kn G :: L) w' → R (.returned (.int .i64 (Sn.save d s).2)) w') :
    Calls Try.prog 17 #[.pointer (some ⟨dp, 0, none⟩), snpV s.idx s.term v l dd] w R := by
  refine C_snap_Save ?_
  unfold T_snap_Save
  intro w7
  have h7 : St E (blkL w.heap.size 29 (snpL s.idx s.term v l dd) :: diskA F c dp d :: kn F :: L) w7 := h.alloc (.cells ⟨snpL s.idx s.term v l dd⟩ 29)
  clear_value w7
  generalize w.heap.size = b7 at *
  refine ite_b (fun hh => by simp at hh) fun _ => ?_
  refine ⟨_, _, _, _, _, _, _, _, _, _, _, rd_snp h7, ?_⟩
  have hp := putB_le s
  refine SPut_spec (by simp) r z1 z2 h7 fun w14 p h14 => ⟨_, _, _, _, rfl, ?_⟩
  refine ite_b (fun he => ?_) fun he => ?_
  · have he' : Sn.putE s ≠ 0 := by simpa using he
    have e : Sn.save d s = (d, Sn.putE s) := by unfold Sn.save; rw [if_pos he']
    rw [e] at k
    have h15 : St E (diskA F c dp d :: kn F :: L) w14 := h14.sel 4 [2, 3] (by simp)
    exact k F w14 (Fz.le_refl F) (h15.dk_c (Nat.le_succ c))
  have he' : Sn.putE s = 0 := by simpa using he
  obtain ⟨i, hi, hi0, hi1⟩ := putE_ok he'
  have hs : Sn.save d s = (
    let d1 := (Dk.remove d Sn.tmp).1
    let w := Dk.write d1 Sn.tmp 0 (Sn.putB s)
    if w.2 ≠ 0 then ((Dk.remove w.1 Sn.tmp).1, w.2)
    else
      let d3 := (Dk.sync w.1 Sn.tmp).1
      let r := Dk.rename d3 Sn.tmp (Sn.nameOf i)
      if r.2 ≠ 0 then ((Dk.remove r.1 Sn.tmp).1, r.2)
      else ({ r.1 with l := r.1.l.filter fun f => !Sn.older i f }, 0)) := by
    unfold Sn.save
    rw [if_neg (by rw [he']; decide), hi]
    rfl
  rw [hs] at k
  simp only at k
  clear hs
  have h16 : St E (byA p (Sn.putB s) :: kn F :: diskA F c dp d :: blkL b7 29 (snpL s.idx s.term v l dd) :: L) w14 := h14.sel 4 [0, 3, 2, 1] (by simp)
  obtain ⟨G, hG, h17, hsrc⟩ := St.srcB2 h16 (by omega)
  have h18 : St E (diskA G c dp d :: kn G :: blkL b7 29 (snpL s.idx s.term v l dd) :: L) w14 := St.dk_mono h17.f1 hG
  rw [tmp_lit]
  have I1 := I.remove Sn.tmp
  refine DRemove_spec (n := Sn.tmp) I h18 fun w18 h19 => ⟨_, rfl, ?_⟩
  generalize (Dk.remove d Sn.tmp).1 = d1 at *
  refine DWrite_spec (n := Sn.tmp) (i := 0) I1 hsrc (by omega) hc h19 fun G2 w21 hG2 h21 => ⟨_, rfl, ?_⟩
  have I2 := I1.write Sn.tmp 0 (Sn.putB s)
  generalize Dk.write d1 Sn.tmp 0 (Sn.putB s) = W at *
  have hGG := Fz.le_trans hG hG2
  refine save_1 hi hi1 I2 h21 fun G3 w41 r hG3 hr I4 h41 => ?_
  have hGGG := Fz.le_trans hGG hG3
  have hW : W.2 ≠ 0 → r = W := fun h => by rw [hr, if_neg h]
  have hO : W.2 = 0 → r = Dk.rename (Dk.sync W.1 Sn.tmp).1 Sn.tmp (Sn.nameOf i) := fun h => by rw [hr, if_pos h]
  clear hr
  refine ite_b (fun h40 => ?_) fun h40 => ?_
  · have h40 : r.2 ≠ 0 := by simpa using h40
    refine DRemove_spec (n := Sn.tmp) I4 h41 fun w43 h43 => ⟨_, rfl, ?_⟩
    have h44 : St E (diskA G3 (c + 1) dp (Dk.remove r.1 Sn.tmp).1 :: kn G3 :: L) w43 := h43.sel 3 [0, 1] (by simp)
    by_cases hw : W.2 = 0
    · rw [if_neg (by simpa using hw), ← hO hw, if_pos h40] at k
      exact k G3 w43 hGGG h44
    · rw [if_pos hw, ← hW hw] at k
      exact k G3 w43 hGGG h44
  · have h40 : r.2 = 0 := by simpa using h40
    have hw : W.2 = 0 := Decidable.byContradiction fun hw => by rw [hW hw] at h40; exact hw h40
    rw [if_neg (by simpa using hw), ← hO hw, if_neg (by simpa using h40)] at k
    refine Files_spec I4 h41 fun w46 o ks hks hdn hol h46 => ⟨_, _, _, rfl, ?_⟩
    have hkl : ks.length ≤ 1000 := by
      have h1 : ks.length = (Sn.nums r.1.l).length := by rw [← hks.length_eq, List.length_map]
      have h2 : (Sn.nums r.1.l).length ≤ r.1.l.length := by unfold Sn.nums; exact Nat.le_trans (List.length_filter_le ..) (by simp)
      have h3 := I4.n
      omega
    refine save_loop (i := i) hi hkl hol I4 (Sn.remAll_save hks) (h46.sel 4 [3, 0, 1, 2] (by simp)) fun w' h' => ?_
    exact k G3 w' hGGG h'
end
end Go.Vc

/-
  The newest snapshot that is whole.
-/
namespace Go.Vc
open Go Go.Proofs Go.Proofs.Ytclinifclfahfaa
set_option maxRecDepth 100000
section
variable {E w : World} {L : List Asrt} {R : Ending → World → Prop} {F G : Fz} {q p o : Sl} {b : Cm.Bs} {dp c : Nat} {d : Dk.Ds}
theorem pick_inv {d : Dk.Ds} {k : Nat} {r : List Nat} : Sn.pick d (k :: r) = match Sn.getS (Dk.read d (Sn.nameOf k)).1 with
    | .ok s => if s.idx = (k : Int) then (s, 0) else Sn.pick d r
    | .error _ => Sn.pick d r := rfl
theorem read_le (I : Dk.Inv d) (n : Cm.Bs) : (Dk.read d n).1.length ≤ 262144 := by
  unfold Dk.read
  split
  · exact Nat.zero_le _
  · rename_i f hf
    exact (Dk.okU_len (I.u f (Dk.find_some hf).1)).2
set_option maxHeartbeats 1000000 in
/-- What a Load tells. -/
theorem load_loop {ks : List Ix} {ba : Nat} {Kn : World → Prop} {Kr : Int → World → Prop} {Kp : List PanicEntry → World → Prop} {fin : Sn.Snp × Int} (hks : ks.length ≤ 1000) (hol : o.2.1 = ks.length) (I : Dk.Inv d) (hfin : Sn.pick d (ks.map (·.1)) = fin)
    (h : St E (blkL ba 29 z5 :: ownS o.1 o.2.1 o.2.2 86 2 (ks.flatMap celX) :: diskA F c dp d :: kn F :: L) w)
    (kN : ∀ (G : Fz) (w' : World), Fz.le F G → fin = (Sn.none, 8) → St E (blkL ba 29 z5 :: diskA G c dp d :: kn G :: L) w' → Kn w')
    (kR : ∀ (G : Fz) (w' : World) (v l dd : Sl) (s : Sn.Snp), Fz.le F G → fin = (s, 0) → snpR G v l dd s → St E (blkL ba 29 (snpL s.idx s.term v l dd) :: diskA G c dp d :: kn G :: L) w' → Kr 0 w') :
    T_snap_Load_1 0 (some ⟨dp, 0, none⟩) ⟨ba, 0, none⟩ o.1 o.2.1 o.2.2 ((o.2.1 : Nat) : Int) w Kn Kr Kp := by
  unfold T_snap_Load_1
  intro X hX
  refine up_to ks.length (Q := fun j => ∀ (w : World) (F1 : Fz), Fz.le F F1 → Sn.pick d ((ks.drop j).map (·.1)) = fin → St E (blkL ba 29 z5 :: ownS o.1 o.2.1 o.2.2 86 2 (ks.flatMap celX) :: diskA F1 c dp d :: kn F1 :: L) w → X (j : Int) w) ?_ w F (Fz.le_refl F) hfin h
  intro j hj ih w F1 hF1 hfin h
  refine hX _ _ ?_
  unfold T_snap_Load_1_body
  rw [hol]
  refine ite_d (fun hh => ?_) fun hh => ?_
  · have hjl : j < ks.length := by omega
    obtain ⟨ad, hae, hrd, _⟩ := (h.f1.rdS_own).elem (f := celX) celX_len (List.getElem?_eq_getElem hjl) (by decide)
    rw [List.drop_eq_getElem_cons hjl, List.map_cons, pick_inv] at hfin
    refine ⟨by omega, by omega, ad, hae, _, _, hrd, ?_⟩
    have ihj := ih hjl
    have hx2 := ks[j].2
    generalize ks[j] = x at *
    intro w20
    have h20 : St E (blkL w.heap.size 86 [.string ⟨#[]⟩, .int .i64 0] :: blkL ba 29 z5 :: ownS o.1 o.2.1 o.2.2 86 2 (ks.flatMap celX) :: diskA F1 c dp d :: kn F1 :: L) w20 := h.alloc (.cells ⟨[.string ⟨#[]⟩, .int .i64 0]⟩ 86)
    clear_value w20
    generalize w.heap.size = bf at *
    refine ⟨rfl, wrOk_agg (off := 0) (xs := celX x) h20.at_blk (by show 2 ≤ 2; decide) (by intro u hu; exact celX_one [x] u (by simpa using hu)), ?_⟩
    intro w21
    have h21 : St E (blkL bf 86 (celX x) :: blkL ba 29 z5 :: ownS o.1 o.2.1 o.2.2 86 2 (ks.flatMap celX) :: diskA F1 c dp d :: kn F1 :: L) w21 := h20.wr_agg0 (xs := celX x) rfl
    clear_value w21
    refine ⟨_, rd_cell h21.at_blk rfl rfl, ?_⟩
    have h22 : St E (diskA F1 c dp d :: kn F1 :: blkL bf 86 (celX x) :: blkL ba 29 z5 :: ownS o.1 o.2.1 o.2.2 86 2 (ks.flatMap celX) :: L) w21 := h21.sel 5 [3, 4, 0, 1, 2] (by simp)
    have hrl := read_le I (Sn.nameOf x.1)
    refine DRead_spec (n := Sn.nameOf x.1) I h22 fun w24 o24 h24 => ⟨_, _, _, _, rfl, ?_⟩
    generalize (Dk.read d (Sn.nameOf x.1)).1 = bb at *
    have h25 : St E (byA o24 bb :: kn F1 :: diskA F1 c dp d :: blkL bf 86 (celX x) :: blkL ba 29 z5 :: ownS o.1 o.2.1 o.2.2 86 2 (ks.flatMap celX) :: L) w24 := h24.sel 6 [0, 2, 1, 3, 4, 5] (by simp)
    obtain ⟨F2, hF2, h26, hsrc⟩ := St.srcB2 h25 (by omega)
    refine SGet_spec hsrc (by unfold big; omega) h26 (fun w28 e hge he h28 => ⟨_, _, _, _, _, _, _, _, _, _, _, _, rfl, ?_⟩) fun F3 w28 v l dd s hF3 hge hs h28 => ⟨_, _, _, _, _, _, _, _, _, _, _, _, rfl, ?_⟩
    · rw [hge] at hfin
      intro w35
      have h35 : St E (blkL w28.heap.size 29 z5 :: kn F2 :: diskA F1 c dp d :: blkL bf 86 (celX x) :: blkL ba 29 z5 :: ownS o.1 o.2.1 o.2.2 86 2 (ks.flatMap celX) :: L) w35 := h28.alloc (.cells ⟨z5⟩ 29)
      clear_value w35
      generalize w28.heap.size = b35 at *
      refine ⟨rfl, ok_snp h35 rfl 0 0 nilS nilS nilS, ?_⟩
      intro w36
      have h36 := h35.wr_snp rfl 0 0 nilS nilS nilS
      have h36 : St E (blkL b35 29 z5 :: kn F2 :: diskA F1 c dp d :: blkL bf 86 (celX x) :: blkL ba 29 z5 :: ownS o.1 o.2.1 o.2.2 86 2 (ks.flatMap celX) :: L) w36 := h36
      clear_value w36
      refine ite_b (fun hz => absurd (by simpa using hz) he) fun _ => ?_
      rw [succ_big (by unfold big; omega)]
      have h37 : St E (diskA F1 c dp d :: blkL ba 29 z5 :: ownS o.1 o.2.1 o.2.2 86 2 (ks.flatMap celX) :: kn F2 :: L) w36 := h36.sel 6 [2, 4, 5, 1] (by simp)
      exact ihj w36 F2 (Fz.le_trans hF1 hF2) hfin ((St.dk_mono h37 hF2).sel 4 [1, 2, 0, 3] (by simp))
    · rw [hge] at hfin
      simp only at hfin
      intro w35
      have h35 : St E (blkL w28.heap.size 29 z5 :: kn F3 :: diskA F1 c dp d :: blkL bf 86 (celX x) :: blkL ba 29 z5 :: ownS o.1 o.2.1 o.2.2 86 2 (ks.flatMap celX) :: L) w35 := h28.alloc (.cells ⟨z5⟩ 29)
      clear_value w35
      generalize w28.heap.size = b35 at *
      refine ⟨rfl, ok_snp h35 rfl s.idx s.term v l dd, ?_⟩
      intro w36
      have h36 := h35.wr_snp rfl s.idx s.term v l dd
      have h36 : St E (blkL b35 29 (snpL s.idx s.term v l dd) :: kn F3 :: diskA F1 c dp d :: blkL bf 86 (celX x) :: blkL ba 29 z5 :: ownS o.1 o.2.1 o.2.2 86 2 (ks.flatMap celX) :: L) w36 := h36
      clear_value w36
      have hF13 := Fz.le_trans hF2 hF3
      refine ite_b (fun _ => ?_) fun hz => by simp at hz
      refine ⟨_, rd_cell h36.at_blk rfl rfl, _, rd_fld h36.f3.at_blk rfl rfl, ite_b (fun hi => ?_) fun hi => ?_⟩
      · have hi : s.idx = (x.1 : Int) := by simpa using hi
        rw [if_pos hi] at hfin
        have h37 : St E (blkL ba 29 z5 :: blkL b35 29 (snpL s.idx s.term v l dd) :: kn F3 :: diskA F1 c dp d :: L) w36 := h36.sel 6 [4, 0, 1, 2] (by simp)
        refine ⟨_, _, _, _, _, _, _, _, _, _, _, rd_snp h36, rfl, ok_snp h37 rfl s.idx s.term v l dd, ?_⟩
        intro w44
        have h44 : St E (blkL ba 29 (snpL s.idx s.term v l dd) :: blkL b35 29 (snpL s.idx s.term v l dd) :: kn F3 :: diskA F1 c dp d :: L) w44 := h37.wr_snp rfl s.idx s.term v l dd
        clear_value w44
        have h45 : St E (diskA F1 c dp d :: kn F3 :: blkL ba 29 (snpL s.idx s.term v l dd) :: L) w44 := h44.sel 4 [3, 2, 0] (by simp)
        exact kR F3 w44 v l dd s (Fz.le_trans hF1 hF13) hfin.symm hs ((St.dk_mono h45 hF13).sel 3 [2, 0, 1] (by simp))
      · have hi : s.idx ≠ (x.1 : Int) := by simpa using hi
        rw [if_neg hi] at hfin
        rw [succ_big (by unfold big; omega)]
        have h37 : St E (diskA F1 c dp d :: blkL ba 29 z5 :: ownS o.1 o.2.1 o.2.2 86 2 (ks.flatMap celX) :: kn F3 :: L) w36 := h36.sel 6 [2, 4, 5, 1] (by simp)
        exact ihj w36 F3 (Fz.le_trans hF1 hF13) hfin ((St.dk_mono h37 hF13).sel 4 [1, 2, 0, 3] (by simp))
  · have : j = ks.length := by omega
    subst this
    rw [List.drop_length] at hfin
    exact kN F1 w hF1 hfin.symm (h.sel 4 [0, 2, 3] (by simp))
theorem Load_spec (I : Dk.Inv d) (h : St E (diskA F c dp d :: kn F :: L) w)
    (k : ∀ (G : Fz) (w' : World) (v l dd : Sl), Fz.le F G → snpR G v l dd (Sn.load d).1 → St E (diskA G c dp d :: kn G :: L) w' → R (.returned (.tuple #[snpV (Sn.load d).1.idx (Sn.load d).1.term v l dd, .int .i64 (Sn.load d).2])) w') :
    Calls Try.prog 23 #[.pointer (some ⟨dp, 0, none⟩)] w R := by
  refine C_snap_Load ?_
  unfold T_snap_Load
  intro w2
  have h2 : St E (diskA F c dp d :: kn F :: blkL w.heap.size 29 z5 :: L) w2 := (h.alloc (.cells ⟨z5⟩ 29)).sel 3 [1, 2, 0] (by simp)
  clear_value w2
  generalize w.heap.size = ba at *
  refine ite_b (fun hh => by simp at hh) fun _ => ?_
  refine Files_spec I h2 fun w10 o ks hks hdn hol h10 => ⟨_, _, _, rfl, ?_⟩
  have hkl : ks.length ≤ 1000 := by
    have h1 : ks.length = (Sn.nums d.l).length := by rw [← hks.length_eq, List.length_map]
    have h2 : (Sn.nums d.l).length ≤ d.l.length := by unfold Sn.nums; exact Nat.le_trans (List.length_filter_le ..) (by simp)
    have h3 := I.n
    omega
  have hp := Sn.load_pick I hks (List.pairwise_map.2 hdn)
  refine load_loop hkl hol I hp (h10.sel 4 [3, 0, 1, 2] (by simp)) (fun G w49 hG hn h49 => ?_) fun G w57 v l dd s hG hn hs h57 => ?_
  · rw [hn] at k
    refine ⟨rfl, ok_snp h49 rfl 0 0 nilS nilS nilS, ?_⟩
    intro w50
    have h50 : St E (blkL ba 29 z5 :: diskA G c dp d :: kn G :: L) w50 := h49.wr_snp rfl 0 0 nilS nilS nilS
    clear_value w50
    exact ⟨_, _, _, _, _, _, _, _, _, _, _, rd_snp h50, k G w50 nilS nilS nilS hG ⟨⟨RdF.nil G none, RdF.nil G none⟩, ⟨RdF.nil G none, rfl, Nat.le_refl _, by decide⟩⟩ h50.drop⟩
  · rw [hn] at k
    exact ⟨_, _, _, _, _, _, _, _, _, _, _, rd_snp h57, k G w57 v l dd hG hs h57.drop⟩
end
end Go.Vc

/-
  What must be whatever is asked: live.
-/
namespace Go.Vc
open Go Go.Proofs Go.Proofs.Ytclinifclfahfaa
set_option maxRecDepth 100000
def lv1 : Dk.Ds := (Sn.save (Dk.newD 1000) (ofS 3)).1
def lv2 : Dk.Ds := (Sn.save lv1 (ofS 12)).1
theorem lv_1 : Sn.save (Dk.newD 1000) (ofS 3) = (lv1, 0) := by kernel_rfl
theorem lv_2 : Sn.save lv1 (ofS 12) = (lv2, 0) := by kernel_rfl
theorem lv_3 : Sn.load lv2 = (ofS 12, 0) := by kernel_rfl
theorem lv_4 : namesOf lv2 = [Sn.nameOf 12] := by kernel_rfl
theorem lv_5 : piecesR [97, 98, 99] 2 = [[3, 0, 97, 98], [3, 2, 99]] := by kernel_rfl
theorem lv_6 : Sn.piecesE [97, 98, 99] 2 = 0 := by kernel_rfl
theorem lvI0 : Dk.Inv (Dk.newD 1000) := Dk.Inv.new 1000
theorem Sn.save_inv {d : Dk.Ds} (I : Dk.Inv d) (s : Sn.Snp) : Dk.Inv (Sn.save d s).1 := by
  unfold Sn.save
  split
  · exact I
  · simp only
    split
    · exact ((I.remove _).write _ _ _).remove _
    · split
      · exact ((((I.remove _).write _ _ _).sync _).rename _ _).remove _
      · exact ((((I.remove _).write _ _ _).sync _).rename _ _).filter _
section
variable {E w : World} {L : List Asrt} {R : Ending → World → Prop} {F G : Fz} {q p o : Sl} {b : Cm.Bs} {dp c : Nat} {d : Dk.Ds}
theorem Of_spec2 {i : Int} {s : Sn.Snp} (hs : ofS i = s) (h : St E (kn F :: L) w) (k : ∀ (G : Fz) (w' : World) (v l d : Sl), Fz.le F G → snpR G v l d s → St E (kn G :: L) w' → R (.returned (snpV s.idx s.term v l d)) w') : Calls Try.prog 24 #[.int .i64 i] w R := by
  subst hs
  exact Of_spec h k
theorem DNew_spec2 {room : Int} (hd : Dk.newD room = d) (h : St E L w) (k : ∀ (w' : World) (dp : Nat), St E (diskA F 0 dp d :: L) w' → R (.returned (.pointer (some ⟨dp, 0, none⟩))) w') : Calls Try.prog 16 #[.int .i64 room] w R := by
  subst hd
  exact DNew_spec h k
theorem Save_spec2 {v l dd : Sl} {s : Sn.Snp} {d2 : Dk.Ds} {e : Int} (he : Sn.save d s = (d2, e)) (I : Dk.Inv d) (hc : c + 1 ≤ 1000000) (r : snpR F v l dd s) (z1 : s.mem.v.length ≤ huge) (z2 : s.mem.l.length ≤ huge) (h : St E (diskA F c dp d :: kn F :: L) w)
    (k : ∀ (G : Fz) (w' : World), Fz.le F G → Dk.Inv d2 → St E (diskA G (c + 1) dp d2 :: kn G :: L) w' → R (.returned (.int .i64 e)) w') :
    Calls Try.prog 17 #[.pointer (some ⟨dp, 0, none⟩), snpV s.idx s.term v l dd] w R := by
  have I2 := Sn.save_inv I s
  rw [he] at I2
  refine Save_spec I hc r z1 z2 h fun G w' hG h' => ?_
  rw [he] at h' ⊢
  exact k G w' hG I2 h'
theorem Load_spec2 {s : Sn.Snp} {e : Int} (he : Sn.load d = (s, e)) (I : Dk.Inv d) (h : St E (diskA F c dp d :: kn F :: L) w)
    (k : ∀ (G : Fz) (w' : World) (v l dd : Sl), Fz.le F G → snpR G v l dd s → St E (diskA G c dp d :: kn G :: L) w' → R (.returned (.tuple #[snpV s.idx s.term v l dd, .int .i64 e])) w') :
    Calls Try.prog 23 #[.pointer (some ⟨dp, 0, none⟩)] w R := by
  refine Load_spec I h fun G w' v l dd hG hs h' => ?_
  rw [he] at hs ⊢
  exact k G w' v l dd hG hs h'
theorem Names_spec2 {ns : List Cm.Bs} (hn : namesOf d = ns) (I : Dk.Inv d) (h : St E (diskA F c dp d :: L) w)
    (k : ∀ (w' : World) (o : Sl), o.2.1 = ns.length → St E (ownS o.1 o.2.1 o.2.2 9 1 (ns.flatMap celS) :: diskA F c dp d :: L) w' → R (.returned (.slice o.1 o.2.1 o.2.2)) w') :
    Calls Try.prog 20 #[.pointer (some ⟨dp, 0, none⟩)] w R := by
  subst hn
  exact DNames_spec I h k
theorem Pieces_spec2 {size e : Int} {rs : List Cm.Bs} (hr : piecesR b size = rs) (he : Sn.piecesE b size = e) (hs : Src F q b) (h64 : size ≤ 9223372036854775807) (h : St E (kn F :: L) w)
    (k : ∀ (G : Fz) (w' : World) (o : Sl) (qs : List Sl), Fz.le F G → Rows G qs rs → St E (rowA o qs :: kn G :: L) w' → R (.returned (.tuple #[.slice o.1 o.2.1 o.2.2, .int .i64 e])) w') :
    Calls Try.prog 13 #[.slice q.1 q.2.1 q.2.2, .int .i64 size] w R := by
  subst hr he
  exact Pieces_spec hs h64 h k
set_option maxHeartbeats 400000 in
theorem live_gen {d0 d1 d2 : Dk.Ds} {s3 s12 : Sn.Snp} {n12 : Cm.Bs} (hd0 : Dk.newD 1000 = d0) (I0 : Dk.Inv d0) (hs3 : ofS 3 = s3) (hs12 : ofS 12 = s12) (m3 : s3.mem.v.length ≤ huge ∧ s3.mem.l.length ≤ huge) (m12 : s12.mem.v.length ≤ huge ∧ s12.mem.l.length ≤ huge) (hx : s12.idx = 12) (e1 : Sn.save d0 s3 = (d1, 0)) (e2 : Sn.save d1 s12 = (d2, 0)) (e3 : Sn.load d2 = (s12, 0)) (e4 : namesOf d2 = [n12]) (hn : encN n12 = .string (ByteArray.mk #[115, 110, 97, 112, 45, 49, 50])) (e5 : piecesR [97, 98, 99] 2 = [[3, 0, 97, 98], [3, 2, 99]]) (e6 : Sn.piecesE [97, 98, 99] 2 = 0)
    (h : St E (kn F :: L) w) (k : ∀ (G : Fz) (w' : World), Fz.le F G → St E (kn G :: L) w' → R (.returned (.bool true)) w') : Calls Try.prog 12 #[] w R := by
  refine C_law07_live ?_
  unfold T_law07_live
  refine DNew_spec2 (F := F) hd0 h fun w2 dp h2 => ⟨_, rfl, ?_⟩
  refine Of_spec2 hs3 h2.f1 fun G1 w5 v1 l1 dd1 hG1 r1 h5 => ⟨_, _, _, _, _, _, _, _, _, _, _, rfl, ?_⟩
  have h6 : St E (diskA G1 0 dp d0 :: kn G1 :: L) w5 := St.dk_mono h5.f1 hG1
  refine Save_spec2 e1 I0 (by decide) r1 m3.1 m3.2 h6 fun G2 w12 hG2 I1 h12 => ⟨_, rfl, ?_⟩
  refine Of_spec2 hs12 h12.f1 fun G3 w15 v2 l2 dd2 hG3 r2 h15 => ⟨_, _, _, _, _, _, _, _, _, _, _, rfl, ?_⟩
  have h16 := St.dk_mono h15.f1 hG3
  refine Save_spec2 e2 I1 (by decide) r2 m12.1 m12.2 h16 fun G4 w22 hG4 I2 h22 => ⟨_, rfl, ?_⟩
  refine Load_spec2 e3 I2 h22 fun G5 w25 v3 l3 d3 hG5 r3 h25 => ⟨_, _, _, _, _, _, _, _, _, _, _, _, rfl, ?_⟩
  intro w32
  have h32 : St E (blkL w25.heap.size 29 z5 :: kn G5 :: diskA G5 (0 + 1 + 1) dp d2 :: L) w32 := (h25.f1).alloc (.cells ⟨z5⟩ 29)
  clear_value w32
  generalize w25.heap.size = b32 at *
  refine ⟨rfl, ok_snp h32 rfl s12.idx s12.term v3 l3 d3, ?_⟩
  intro w33 w34
  have h33 : St E (blkL b32 29 (snpL s12.idx s12.term v3 l3 d3) :: kn G5 :: diskA G5 (0 + 1 + 1) dp d2 :: L) w33 := h32.wr_snp rfl s12.idx s12.term v3 l3 d3
  have h34 : St E (blkL w33.heap.size 5 (bytesV [97, 98, 99]) :: kn G5 :: blkL b32 29 (snpL s12.idx s12.term v3 l3 d3) :: diskA G5 (0 + 1 + 1) dp d2 :: L) w34 := ((h33.alloc (.cells ⟨bytesV [97, 98, 99]⟩ 5))).sel 4 [0, 2, 1, 3] (by simp)
  clear_value w34
  generalize w33.heap.size = b34 at *
  obtain ⟨G6, w36, hr, hG6, hs6, h36⟩ := conv_lit (l := 3) (c := 3) h34 rfl (Nat.le_refl 3) (by decide)
  refine runV_ok hr ⟨_, _, _, rfl, ?_⟩
  have hq := fun (R : Ending → World → Prop) => @Pieces_spec2 E w36 _ R G6 (some ⟨b34, 0, none⟩, 3, 3) [97, 98, 99] 2 0 _ e5 e6 hs6 (by decide) h36
  refine hq _ fun G7 w39 o qs hG7 hrows h39 => ?_
  refine ⟨_, _, _, _, rfl, ?_⟩
  refine ite_b (fun _ => ?_) fun hh => by simp at hh
  refine ite_b (fun _ => ?_) fun hh => by simp at hh
  refine ite_b (fun _ => ?_) fun hh => by simp at hh
  refine ⟨_, rd_cell h39.f2.at_blk rfl rfl, ite_b (fun _ => ?_) fun hh => by rw [hx] at hh; simp at hh⟩
  have h40 : St E (diskA G5 (0 + 1 + 1) dp d2 :: rowA o qs :: kn G7 :: L) w39 := h39.sel 4 [3, 0, 1] (by simp)
  refine Names_spec2 e4 I2 h40 fun w44 s45 hl45 h44 => ⟨_, _, _, rfl, ?_⟩
  rw [← hn]
  intro w46
  have h46 : St E (blkL w44.heap.size 9 [encN n12] :: ownS s45.1 s45.2.1 s45.2.2 9 1 ([n12].flatMap celS) :: diskA G5 (0 + 1 + 1) dp d2 :: rowA o qs :: kn G7 :: L) w46 := h44.alloc (.cells ⟨[encN n12]⟩ 9)
  clear_value w46
  generalize w44.heap.size = b46 at *
  refine SameTexts_spec (xs := [n12]) (ys := [n12]) (a := s45) (c := (some ⟨b46, 0, none⟩, 1, 1)) hl45 rfl (by show 1 ≤ 1000000; decide) (fun w h => h.f1.rdS_own) (fun w h => ?_) h46 fun w48 h48 => ⟨_, rfl, ?_⟩
  · have hb := h.at_blk
    exact ⟨rfl, .inr ⟨b46, 0, rfl, fun i u hu => by rw [Nat.zero_add, cell_of hb]; exact hu⟩⟩
  refine ite_b (fun _ => ?_) fun hh => by simp at hh
  refine ite_b (fun _ => ?_) fun hh => by simp at hh
  have hql : qs.length = 2 := hrows.len
  have h49 : St E (rowA o qs :: kn G7 :: L) w48 := h48.sel 5 [3, 4] (by simp)
  have hol : o.2.1 = 2 := by rw [← h49.row_count, hql]
  rw [hol]
  refine ite_b (fun _ => ?_) fun hh => by simp at hh
  obtain ⟨ad, hae, hrd⟩ := one_at (f := fun q : Sl => Value.slice q.1 q.2.1 q.2.2) (fun _ => rfl) (h49.rdS_own :) (show 1 < qs.length by omega)
  have hsrc := hrows.get (i := 1) (List.getElem?_eq_getElem (by omega)) rfl
  refine ⟨by decide, by decide, ad, hae, _, _, _, hrd, ?_⟩
  refine runV_ok (conv_srcT hsrc (by simp) h49) ⟨_, rfl, ?_⟩
  have e : ((bs [3, 2, 99]).toList == (ByteArray.mk #[3, 2, 99]).toList) = true := bs_beq [3, 2, 99] [3, 2, 99] ▸ rfl
  rw [e]
  exact k G7 w48 (Fz.le_trans hG1 (Fz.le_trans hG2 (Fz.le_trans hG3 (Fz.le_trans hG4 (Fz.le_trans hG5 (Fz.le_trans hG6 hG7)))))) (h49.drop)
theorem live_spec (h : St E (kn F :: L) w) (k : ∀ (G : Fz) (w' : World), Fz.le F G → St E (kn G :: L) w' → R (.returned (.bool true)) w') : Calls Try.prog 12 #[] w R :=
  live_gen rfl lvI0 rfl rfl (by decide) (by decide) rfl (d1 := lv1) (d2 := lv2) lv_1 lv_2 lv_3 lv_4 rfl lv_5 lv_6 h k
end
end Go.Vc

/-
  What came in: bytes, numbers, snapshots; and how much they take.
-/
namespace Go.Vc
open Go Go.Proofs Go.Proofs.Ytclinifclfahfaa Go.RowKit
set_option maxRecDepth 100000
section
variable {H : Type} {enc : TypeId × Value → H} {W : World} {P : Program}
theorem slice_capS {t e : TypeId} {a : Option Addr} {l c : Nat} {fuel : Nat} {x : DataW H × List MemPlace} (ht : P.underlying t = some (.slice e)) (h : DataW.trod enc P W 0 (fun _ => true) true fuel t [.slice a l c] = some x) : l ≤ c ∧ ∀ N, (∀ n ∈ DataW.weights P t x.1, n ≤ N) → l * P.bytesOf e ≤ N := by
  rcases DataW.trod_slice ht h with ⟨hcs, _⟩ | ⟨ad, len, cap, elems, rest, n, _, hcs, hx, _, hl, _, hlen, _⟩
  · simp at hcs
    obtain ⟨rfl, rfl, rfl⟩ := hcs
    exact ⟨Nat.le_refl _, fun N _ => by simp⟩
  · simp at hcs
    obtain ⟨rfl, rfl, rfl⟩ := hcs
    refine ⟨hl, fun N hN => ?_⟩
    have := hN ((elems.length + rest.length) * P.bytesOf e) (by rw [hx]; simp [DataW.weights, ht])
    have h2 : l * P.bytesOf e ≤ (elems.length + rest.length) * P.bytesOf e := Nat.mul_le_mul_right _ (by omega)
    omega
section
variable {t e : TypeId} {a : Option Addr} {l c sz : Nat}
end
theorem sliceV {t e : TypeId} (ht : P.underlying t = some (.slice e)) {fuel : Nat} {v : Value} {x : DataW H × List MemPlace} (h : DataW.trod enc P W 0 (fun _ => true) true fuel t [v] = some x) : ∃ a l c, v = .slice a l c := by
  rcases DataW.trod_slice ht h with ⟨hcs, _⟩ | ⟨ad, len, cap, _, _, _, _, hcs, _⟩
  · simp at hcs; exact ⟨_, _, _, hcs⟩
  · simp at hcs; exact ⟨_, _, _, hcs⟩
end
section
variable {H : Type} {enc : TypeId × Value → H} {W : World}
def F0 (W : World) : Fz := fun b => W.heap[b]?
/-- Bytes that came in. -/
theorem bytesF {a : Option Addr} {l c : Nat} {fuel : Nat} {x : DataW H × List MemPlace} (hm : DataW.trod enc Try.prog W 0 (fun _ => true) true fuel 27 [.slice a l c] = some x) : ∃ b, Src (F0 W) (a, l, c) b ∧ ∀ N, (∀ n ∈ DataW.weights Try.prog 27 x.1, n ≤ N) → b.length ≤ N := by
  obtain ⟨b, hr, hl⟩ := open_bytes Try.underlying27 Try.underlying5 (by kernel_rfl) hm
  have hn : b.length = l := by have := hr.1; simpa using this
  obtain ⟨hc, hw⟩ := slice_capS Try.underlying27 hm
  refine ⟨b, ⟨RdF.of_world hr, hn, hc, by rw [hn]; exact hl⟩, fun N hN => ?_⟩
  have := hw N hN
  rw [show Try.prog.bytesOf 5 = 1 by kernel_rfl] at this
  omega
/-- Numbers that came in. -/
theorem intsF {a : Option Addr} {l c : Nat} {fuel : Nat} {x : DataW H × List MemPlace} (hm : DataW.trod enc Try.prog W 0 (fun _ => true) true fuel 24 [.slice a l c] = some x) : ∃ b : List Int, RdF (F0 W) a l 1 (intV b) ∧ b.length = l ∧ l ≤ maxLen ∧ (∀ i ∈ b, -9223372036854775808 ≤ i ∧ i ≤ 9223372036854775807) ∧ ∀ N, (∀ n ∈ DataW.weights Try.prog 24 x.1, n ≤ N) → b.length * 8 ≤ N := by
  obtain ⟨b, hr, hl, hg⟩ := open_elems (β := Int) (f := fun i => [.int .i64 i]) (fun i => -9223372036854775808 ≤ i ∧ i ≤ 9223372036854775807) (fun _ => rfl) (by decide) Try.underlying24 (by kernel_rfl) (fun n cs x hx => by
    obtain ⟨k, rfl, _, hw⟩ := DataW.trod_int Try.underlying3 hx
    simp [Lit.wf, IntKind.min, IntKind.max, IntKind.signed, IntKind.bits] at hw
    exact ⟨k, rfl, by omega⟩) hm
  have hn : b.length = l := by have := hr.count (f := fun i : Int => [Value.int .i64 i]) (fun _ => rfl) (by decide); exact this
  rw [← List.map_eq_flatMap] at hr
  obtain ⟨hc, hw⟩ := slice_capS Try.underlying24 hm
  refine ⟨b, RdF.of_world hr, hn, hl, hg, fun N hN => ?_⟩
  have := hw N hN
  rw [show Try.prog.bytesOf 3 = 8 by kernel_rfl] at this
  omega
/-- The bounds of a snapshot that came in. -/
def snpZ (N : Nat) (s : Sn.Snp) : Prop := s.mem.v.length * 8 ≤ N ∧ s.mem.l.length * 8 ≤ N ∧ s.data.length ≤ N
def snpH (s : Sn.Snp) : Prop := s.mem.v.length ≤ huge ∧ s.mem.l.length ≤ huge
theorem open_snap {cs : List Value} {fuel : Nat} {x : DataW H × List MemPlace} (hx : DataW.trod enc Try.prog W 0 (fun _ => true) true fuel 29 cs = some x) :
    ∃ (s : Sn.Snp) (v l d : Sl), cs = snpL s.idx s.term v l d ∧ snpR (F0 W) v l d s ∧ snpH s ∧ ∀ N, (∀ n ∈ DataW.weights Try.prog 29 x.1, n ≤ N) → snpZ N s := by
  obtain ⟨xs, m, _, hxe, hcl, hxl, hfs⟩ := DataW.trod_struct Try.underlying29 hx
  rw [show Try.prog.cellsOf 29 = 5 by kernel_rfl] at hcl
  have hxl3 : xs.length = 3 := hxl
  have c1 : Try.prog.cellsOf 23 = 2 := by kernel_rfl
  have c2 : Try.prog.cellsOf 26 = 2 := by kernel_rfl
  have c3 : Try.prog.cellsOf 27 = 1 := by kernel_rfl
  have c4 : Try.prog.cellsOf 3 = 1 := by kernel_rfl
  have c5 : Try.prog.cellsOf 24 = 1 := by kernel_rfl
  match cs, hcl with
  | [v0, v1, v2, v3, v4], _ =>
    have f0 := hfs 0 _ rfl
    have f1 := hfs 1 _ rfl
    have f2 := hfs 2 _ rfl
    simp only [List.getElem_toArray, List.getElem_cons_zero, List.getElem_cons_succ, c1, c2, c3, List.drop_zero, List.drop_succ_cons, List.take_succ_cons, List.take_zero] at f0 f1 f2
    rw [List.getElem?_eq_getElem (by omega)] at f0 f1 f2
    obtain ⟨ys, m1, _, hye, _, hyl, hgs⟩ := DataW.trod_struct Try.underlying23 f0
    obtain ⟨zs, m2, _, hze, _, hzl, hhs⟩ := DataW.trod_struct Try.underlying26 f1
    have hyl2 : ys.length = 2 := hyl
    have hzl2 : zs.length = 2 := hzl
    have g0 := hgs 0 _ rfl
    have g1 := hgs 1 _ rfl
    have h0 := hhs 0 _ rfl
    have h1 := hhs 1 _ rfl
    simp only [List.getElem_toArray, List.getElem_cons_zero, List.getElem_cons_succ, c4, c5, List.drop_zero, List.drop_succ_cons, List.take_succ_cons, List.take_zero] at g0 g1 h0 h1
    rw [List.getElem?_eq_getElem (by omega)] at g0 g1 h0 h1
    obtain ⟨k0, e0, _⟩ := DataW.trod_int Try.underlying3 g0
    obtain ⟨k1, e1, _⟩ := DataW.trod_int Try.underlying3 g1
    obtain ⟨a2, l2, q2, rfl⟩ := sliceV Try.underlying24 h0
    obtain ⟨a3, l3, q3, rfl⟩ := sliceV Try.underlying24 h1
    obtain ⟨a4, l4, q4, rfl⟩ := sliceV Try.underlying27 f2
    obtain ⟨bv, rv, nv, mv, _, wv⟩ := intsF h0
    obtain ⟨bl, rl, nl, ml, _, wl⟩ := intsF h1
    obtain ⟨bd, rd, wd⟩ := bytesF f2
    simp at e0 e1
    subst e0 e1
    have hml : maxLen = huge := rfl
    refine ⟨⟨k0, k1, ⟨bv, bl⟩, bd⟩, (a2, l2, q2), (a3, l3, q3), (a4, l4, q4), rfl, ⟨⟨rv, rl⟩, rd⟩, ⟨by show bv.length ≤ huge; omega, by show bl.length ≤ huge; omega⟩, fun N hN => ?_⟩
    have hN' : ∀ n ∈ DataW.weightsEach Try.prog [23, 26, 27] (xs.map (·.1)), n ≤ N := fun n hn => hN n (by
      rw [hxe]
      unfold DataW.weights
      rw [Try.underlying29]
      exact hn)
    have hN1 : ∀ n ∈ DataW.weights Try.prog 26 (xs[1].1), n ≤ N := fun n hn => hN' n (DataW.weights_mem_each (j := 1) rfl (by rw [List.getElem?_map, List.getElem?_eq_getElem (by omega)]; rfl) n hn)
    have hN2 : ∀ n ∈ DataW.weights Try.prog 27 (xs[2].1), n ≤ N := fun n hn => hN' n (DataW.weights_mem_each (j := 2) rfl (by rw [List.getElem?_map, List.getElem?_eq_getElem (by omega)]; rfl) n hn)
    have hM : ∀ n ∈ DataW.weightsEach Try.prog [24, 24] (zs.map (·.1)), n ≤ N := fun n hn => hN1 n (by
      rw [hze]
      unfold DataW.weights
      rw [Try.underlying26]
      exact hn)
    exact ⟨wv N fun n hn => hM n (DataW.weights_mem_each (j := 0) rfl (by rw [List.getElem?_map, List.getElem?_eq_getElem (by omega)]; rfl) n hn), wl N fun n hn => hM n (DataW.weights_mem_each (j := 1) rfl (by rw [List.getElem?_map, List.getElem?_eq_getElem (by omega)]; rfl) n hn), wd N hN2⟩
end
end Go.Vc

/-
  Get, told at once for right and wrong bytes; its sizes.
-/
namespace Go.Vc
open Go Go.Proofs Go.Proofs.Ytclinifclfahfaa
set_option maxRecDepth 100000
section
variable {E w : World} {L : List Asrt} {R : Ending → World → Prop} {F G : Fz} {q p o : Sl} {b : Cm.Bs}
theorem right_small {m : Sn.Mem} (h : Sn.rightM m = true) : m.v.length ≤ 9 ∧ m.l.length ≤ 9 := by
  unfold Sn.rightM at h
  simp only [Bool.and_eq_true] at h
  exact ⟨Sn.upI_len h.1.2.1, Sn.upI_len h.1.2.2⟩
theorem none_R (G : Fz) : snpR G nilS nilS nilS Sn.none := ⟨⟨RdF.nil G Option.none, RdF.nil G Option.none⟩, ⟨RdF.nil G Option.none, rfl, Nat.le_refl _, by decide⟩⟩
end
end Go.Vc

/-
  Pieces that come are gathered: snap.Gather.
-/
namespace Go.Vc
open Go Go.Proofs Go.Proofs.Ytclinifclfahfaa
set_option maxRecDepth 100000
section
variable {E w : World} {L : List Asrt} {R : Ending → World → Prop} {F G : Fz} {q p s o : Sl} {b : Cm.Bs} {g : Sn.Gt} {gp : Nat}
/-- Bytes that can be read whatever lies ahead of L. -/
structure SrcW (E : World) (L : List Asrt) (q : Sl) (b : Cm.Bs) : Prop where
  rd : ∀ (M : List Asrt) (w : World), St E (M ++ L) w → RdS w q.1 q.2.1 1 (bytesV b)
  len : b.length = q.2.1
  cap : q.2.1 ≤ q.2.2
  big : b.length ≤ 9223372036854775807
theorem Src.srcW (hs : Src F q b) : SrcW E (kn F :: L) q b := ⟨fun M w h => hs.rd.at h (by simp), hs.len, hs.cap, hs.big⟩
theorem SrcW.own {A : Asrt} (hl : b.length = q.2.1) (hc : q.2.1 ≤ q.2.2) (hb : b.length ≤ 9223372036854775807) : SrcW E (A :: byA q b :: L) q b :=
  ⟨fun M w h => (h.perm ((List.perm_middle (l₁ := M ++ [A])).trans (List.Perm.refl _) |> fun p => by simpa using p) : St E (byA q b :: (M ++ [A] ++ L)) w).rdS_own, hl, hc, hb⟩
theorem SrcW.tail (hs : SrcW E L q b) {n : Nat} (h : n ≤ b.length) : SrcW E L (tailS q n) (b.drop n) := by
  have hl := hs.len
  have hc := hs.cap
  refine ⟨fun M w hw => ?_, by rw [List.length_drop, hl]; rfl, by unfold tailS; simp only; omega, by have := hs.big; rw [List.length_drop]; omega⟩
  have := (hs.rd M w hw).sub (lo := n) (hi := q.2.1) (by omega) (Nat.le_refl _) q.2.2 hc
  have e : ((bytesV b).drop (n * 1)).take ((q.2.1 - n) * 1) = bytesV (b.drop n) := by
    rw [List.take_of_length_le (by simp [bytesV_len]; omega), Nat.mul_one]
    exact List.map_drop.symm
  rw [e] at this
  exact this
theorem TakeNumberW_spec {at_ : Nat} {M : List Asrt} (hs : SrcW E L q b) (h : St E (M ++ L) w) (ha : at_ ≤ b.length)
    (k : ∀ w', St E (M ++ L) w' → R (.returned (.tuple #[.int .i64 (tkR b.length (Cm.takeGo 0 0 (b.drop at_))).1, .int .i64 (tkR b.length (Cm.takeGo 0 0 (b.drop at_))).2.1, .int .i64 (tkR b.length (Cm.takeGo 0 0 (b.drop at_))).2.2])) w') :
    Calls Try.prog 52 #[.slice q.1 q.2.1 q.2.2, .int .i64 (at_ : Int)] w R :=
  TakeNumber_spec (E := w) (L := [kn fun b => w.heap[b]?]) (F := fun b => w.heap[b]?) ⟨RdF.of_world (hs.rd M w h), hs.len, hs.cap, hs.big⟩ (by simp) (St.start_kn w) ha fun w' h' =>
    k w' (h.same h'.1 fun c hc => by rw [h'.knows c _ (Array.getElem?_eq_getElem hc)]; exact (Array.getElem?_eq_getElem hc).symm)
def gtV (g : Sn.Gt) (q : Sl) : List Value := [.bool g.begun, .int .i64 (g.total : Int), .slice q.1 q.2.1 q.2.2]
theorem NewGather_spec (h : St E L w) (k : ∀ (w' : World) (gp : Nat), St E (blkL gp 107 (gtV Sn.gt0 nilS) :: byA nilS [] :: L) w' → R (.returned (.pointer (some ⟨gp, 0, none⟩))) w') : Calls Try.prog 25 #[] w R := by
  refine C_snap_NewGather ?_
  unfold T_snap_NewGather
  intro w1
  exact k _ _ (h.by_nil.alloc (.cells ⟨gtV Sn.gt0 nilS⟩ 107))
theorem GLen_spec (h : St E (blkL gp 107 (gtV g q) :: byA q g.b :: L) w) (k : R (.returned (.int .i64 (g.b.length : Int))) w) : Calls Try.prog 27 #[.pointer (some ⟨gp, 0, none⟩)] w R := by
  have hl := h.f1.by_len2
  refine C_snap_Gather_Len ?_
  unfold T_snap_Gather_Len
  refine ite_b (fun hh => by simp at hh) fun _ => ⟨_, rfl, _, _, _, rd_fld h.at_blk rfl rfl, ?_⟩
  rw [← hl]
  exact k
theorem add_e {g : Sn.Gt} {b : Cm.Bs} {e : Int} (h : Sn.tk b = .error e) : Sn.add g b = (g, Sn.none, false, e) := by unfold Sn.add; rw [h]
theorem add_e2 {g : Sn.Gt} {b r : Cm.Bs} {t : Nat} {e : Int} (h : Sn.tk b = .ok (t, r)) (h2 : Sn.tk r = .error e) : Sn.add g b = (g, Sn.none, false, e) := by unfold Sn.add; rw [h]; simp only; rw [h2]
theorem add_in {g : Sn.Gt} {b r r2 : Cm.Bs} {t pl : Nat} (h : Sn.tk b = .ok (t, r)) (h2 : Sn.tk r = .ok (pl, r2)) : Sn.add g b = Sn.addIn g t pl r2 := by unfold Sn.add; rw [h]; simp only; rw [h2]
abbrev GtS (br gp : Nat) (c : List Value) (g : Sn.Gt) (q : Sl) (F : Fz) (L : List Asrt) : List Asrt := blkL br 29 c :: blkL gp 107 (gtV g q) :: byA q g.b :: kn F :: L
set_option maxHeartbeats 2000000 in
theorem AddW_spec (hs : SrcW E (kn F :: L) p b) (hb : b.length ≤ big) (hg : g.b.length ≤ 1000000000) (h : St E (blkL gp 107 (gtV g q) :: byA q g.b :: kn F :: L) w)
    (kZ : ∀ (G : Fz) (w' : World) (q' : Sl) (g' : Sn.Gt) (e : Int), Fz.le F G → Sn.add g b = (g', Sn.none, false, e) → St E (blkL gp 107 (gtV g' q') :: byA q' g'.b :: kn G :: L) w' → R (.returned (.tuple #[snpV 0 0 nilS nilS nilS, .bool false, .int .i64 e])) w')
    (kO : ∀ (G : Fz) (w' : World) (v l d : Sl) (s : Sn.Snp), Fz.le F G → Sn.add g b = (Sn.gt0, s, true, 0) → snpR G v l d s → St E (blkL gp 107 (gtV Sn.gt0 nilS) :: byA nilS [] :: kn G :: L) w' → R (.returned (.tuple #[snpV s.idx s.term v l d, .bool true, .int .i64 0])) w') :
    Calls Try.prog 26 #[.pointer (some ⟨gp, 0, none⟩), .slice p.1 p.2.1 p.2.2] w R := by
  have hbig : big = 140737488355328 := rfl
  have hpl := hs.len
  refine C_snap_Gather_Add ?_
  unfold T_snap_Gather_Add
  intro w3
  have h3 : St E (GtS w.heap.size gp z5 g q F L) w3 := h.alloc (.cells ⟨z5⟩ 29)
  clear_value w3
  generalize w.heap.size = br at *
  refine ite_b (fun hh => by simp at hh) fun _ => ?_
  have fin : ∀ (G : Fz) (w : World) (c : List Value) (q' : Sl) (g' : Sn.Gt) (e : Int), c.length = 5 → Fz.le F G → Sn.add g b = (g', Sn.none, false, e) → St E (GtS br gp c g' q' G L) w →
      (.agg #[.int .i64 0, .int .i64 0, .slice none 0 0, .slice none 0 0, .slice none 0 0] : Value).cells.size = 5 ∧ wrOk w ⟨br, 0, none⟩ (snpV 0 0 nilS nilS nilS) ∧
      ∃ (x y : Int) (s1a : Option Addr) (s1l s1c : Nat) (s2a : Option Addr) (s2l s2c : Nat) (s3a : Option Addr) (s3l s3c : Nat), rd (wr w ⟨br, 0, none⟩ (snpV 0 0 nilS nilS nilS)) ⟨br, 0, none⟩ (.agg #[.int .i64 x, .int .i64 y, .slice s1a s1l s1c, .slice s2a s2l s2c, .slice s3a s3l s3c]) ∧
      R (.returned (.tuple #[.agg #[.int .i64 x, .int .i64 y, .slice s1a s1l s1c, .slice s2a s2l s2c, .slice s3a s3l s3c], .bool false, .int .i64 e])) (wr w ⟨br, 0, none⟩ (snpV 0 0 nilS nilS nilS)) := fun G w c q' g' e hc hG ha h =>
    ⟨rfl, ok_snp h hc _ _ _ _ _, _, _, _, _, _, _, _, _, _, _, _, rd_snp (h.wr_snp hc 0 0 nilS nilS nilS), kZ G _ q' g' e hG ha (h.wr_snp hc 0 0 nilS nilS nilS).drop⟩
  refine TakeNumberW_spec (M := [_, _, _]) (at_ := 0) hs h3 (Nat.zero_le _) fun w11 h11 => ⟨_, _, _, rfl, ?_⟩
  rcases tk_cases b (Nat.zero_le _) with ⟨e, g1, ge, g2⟩ | ⟨n, m, g1, gm, gl, gn, g2⟩
  · rw [g2]
    rw [List.drop_zero] at g1
    exact ite_b (fun _ => fin F w11 z5 q g e rfl (Fz.le_refl F) (add_e g1) h11) fun hh => absurd (by simpa using hh) ge
  rw [g2]
  rw [List.drop_zero] at g1
  refine ite_b (fun hh => by simp at hh) fun _ => ?_
  refine TakeNumberW_spec (M := [_, _, _]) (at_ := m) hs h11 gl fun w22 h22 => ⟨_, _, _, rfl, ?_⟩
  unfold T_snap_Gather_Add_1
  rcases tk_cases b gl with ⟨e, k1, ge, k2⟩ | ⟨n2, m2, k1, km, kl, kn2, k2⟩
  · rw [k2]
    refine ⟨Int.le_refl 0, by show (0 : Int) ≤ _; omega, ite_b (fun _ => fin F w22 z5 q g e rfl (Fz.le_refl F) (add_e2 g1 k1) h22) fun hh => absurd (by simpa using hh) ge⟩
  rw [k2]
  have hadd := add_in (g := g) g1 k1
  have hil : (b.drop m2).length = p.2.1 - m2 := by rw [List.length_drop]; omega
  have hin := hs.tail kl
  refine ⟨by show (0 : Int) ≤ (m2 : Int); omega, by show (m2 : Int) ≤ _; omega, ite_b (fun hh => by simp at hh) fun _ => ?_⟩
  unfold Sn.addIn at hadd
  refine ite_d (fun hh => ?_) fun hh => ?_
  · rw [if_pos (by omega)] at hadd
    exact fin F w22 z5 q g 6 rfl (Fz.le_refl F) hadd h22
  rw [if_neg (by omega)] at hadd
  dsimp -zeta only
  rw [Int.toNat_natCast]
  have two : ∀ (K : Bool → World → Prop) (Kp : List PanicEntry → World → Prop), K (decide (n < n2 ∨ n - n2 < (b.drop m2).length ∨ ((b.drop m2).length = 0 ∧ 0 < n))) w22 → T_snap_Gather_Add_2 (n : Int) (n2 : Int) (tailS p m2).1 (p.2.1 - m2) (p.2.2 - m2) w22 K Kp := by
    intro K Kp hk
    unfold T_snap_Gather_Add_2
    rw [← hil]
    by_cases c1 : n < n2
    · rw [decide_eq_true (.inl c1)] at hk
      exact ite_d (fun _ => hk) fun hh => absurd (by omega : (n2 : Int) > (n : Int)) hh
    · refine ite_d (fun hh => absurd hh (by omega)) fun _ => ?_
      rw [wrap_id (by omega) (by omega)]
      by_cases c2 : n - n2 < (b.drop m2).length
      · rw [decide_eq_true (.inr (.inl c2))] at hk
        exact ite_d (fun _ => hk) fun hh => absurd (by omega) hh
      · refine ite_d (fun hh => absurd hh (by omega)) fun _ => ?_
        by_cases c3 : (b.drop m2).length = 0
        · have c3' : ((((b.drop m2).length : Nat) : Int) == 0) = true := by rw [c3]; rfl
          refine ite_b (fun _ => ?_) fun hh => by rw [c3'] at hh; cases hh
          by_cases c4 : 0 < n
          · rw [decide_eq_true (.inr (.inr ⟨c3, c4⟩))] at hk
            rw [decide_eq_true (by omega)]; exact hk
          · rw [decide_eq_false (by omega)] at hk
            rw [decide_eq_false (by omega)]; exact hk
        · have c3' : ((((b.drop m2).length : Nat) : Int) == 0) = false := by rw [beq_eq_false_iff_ne]; omega
          refine ite_b (fun hh => by rw [c3'] at hh; cases hh) fun _ => ?_
          rw [decide_eq_false (by omega)] at hk
          exact hk
  refine two _ _ (ite_d (fun hc => ?_) fun hc => ?_)
  · rw [if_pos hc] at hadd
    exact fin F w22 z5 q g 4 rfl (Fz.le_refl F) hadd h22
  rw [if_neg hc] at hadd
  have hql : g.b.length = q.2.1 := h22.f2.by_len2
  have three : ∀ (K : Bool → World → Prop) (Kp : List PanicEntry → World → Prop), K (decide (0 < n2 ∧ (g.begun = false ∨ g.total ≠ n ∨ g.b.length ≠ n2))) w22 → T_snap_Gather_Add_3 (some ⟨gp, 0, none⟩) (n : Int) (n2 : Int) w22 K Kp := by
    intro K Kp hk
    unfold T_snap_Gather_Add_3
    refine ite_d (fun hh => ?_) fun hh => ?_
    · refine ⟨_, rfl, _, rd_cell h22.f1.at_blk rfl rfl, ?_⟩
      by_cases c1 : g.begun = false
      · rw [decide_eq_true ⟨by omega, .inl c1⟩] at hk
        exact ite_b (fun _ => hk) fun hh => by simp [c1] at hh
      · have c1' : g.begun = true := by simpa using c1
        refine ite_b (fun hh => by simp [c1'] at hh) fun _ => ⟨_, rfl, _, rd_fld h22.f1.at_blk rfl rfl, ?_⟩
        by_cases c2 : g.total = n
        · refine ite_b (fun hh => by simp [c2] at hh) fun _ => ⟨_, rfl, _, _, _, rd_fld h22.f1.at_blk rfl rfl, ?_⟩
          rw [← hql]
          by_cases c3 : g.b.length = n2
          · rw [decide_eq_false (by intro ⟨_, h⟩; rcases h with h | h | h; exact c1 h; exact h c2; exact h c3)] at hk
            simpa [c3] using hk
          · rw [decide_eq_true ⟨by omega, .inr (.inr c3)⟩] at hk
            have : ((g.b.length : Int) != (n2 : Int)) = true := by simp; omega
            rw [this]; exact hk
        · rw [decide_eq_true ⟨by omega, .inr (.inl c2)⟩] at hk
          exact ite_b (fun _ => hk) fun hh => by simp at hh; omega
    · rw [decide_eq_false (by omega)] at hk
      exact hk
  refine three _ _ (ite_d (fun hc3 => ?_) fun hc3 => ?_)
  · rw [if_pos hc3] at hadd
    exact fin F w22 z5 q g 12 rfl (Fz.le_refl F) hadd h22
  rw [if_neg hc3] at hadd
  simp only at hadd
  have hP1 : n2 = 0 → wrOk w22 ⟨gp, 0, none⟩ (.agg ⟨gtV ⟨true, n, []⟩ nilS⟩) ∧ ∃ (q1 : Sl) (b1 : Cm.Bs), b1 = (if n2 = 0 then [] else g.b) ∧ St E (GtS br gp z5 ⟨true, n, b1⟩ q1 F L) (wr w22 ⟨gp, 0, none⟩ (.agg ⟨gtV ⟨true, n, []⟩ nilS⟩)) := fun hz => by
    have h23 : St E (blkL gp 107 (gtV g q) :: blkL br 29 z5 :: kn F :: L) w22 := h22.sel 4 [1, 0, 3] (by simp)
    refine ⟨wrOk_agg (off := 0) (xs := gtV ⟨true, n, []⟩ nilS) h23.at_blk (by show 3 ≤ 3; decide) (by intro u hu; simp [gtV] at hu; rcases hu with rfl | rfl | rfl <;> rfl), nilS, [], by rw [if_pos hz], ?_⟩
    have h24 : St E (blkL gp 107 (gtV ⟨true, n, []⟩ nilS) :: blkL br 29 z5 :: kn F :: L) (wr w22 ⟨gp, 0, none⟩ (.agg ⟨gtV ⟨true, n, []⟩ nilS⟩)) := h23.wr_agg0 (xs := gtV ⟨true, n, []⟩ nilS) rfl
    exact (h24.by_nil).sel 4 [2, 1, 0, 3] (by simp)
  have hP2 : n2 ≠ 0 → ∃ (q1 : Sl) (b1 : Cm.Bs), b1 = (if n2 = 0 then [] else g.b) ∧ St E (GtS br gp z5 ⟨true, n, b1⟩ q1 F L) w22 := fun hz => by
    have hgt : g = ⟨true, n, g.b⟩ := by
      have h1 : ¬ (g.begun = false ∨ g.total ≠ n ∨ g.b.length ≠ n2) := fun hh => hc3 ⟨by omega, hh⟩
      have h2 : g.begun = true := by
        cases hx : g.begun with
        | true => rfl
        | false => exact absurd (.inl hx) h1
      have h3 : g.total = n := Decidable.byContradiction fun hx => h1 (.inr (.inl hx))
      rw [← h2, ← h3]
    refine ⟨q, g.b, by rw [if_neg hz], ?_⟩
    rw [← hgt]
    exact h22
  refine ite_b (fun hz => ⟨_, rfl, rfl, (hP1 (by simpa using hz)).1, ?_⟩) fun hz => ?_
  case' refine_1 =>
    intro w59
    obtain ⟨q1, b1, hb1, h66⟩ : ∃ (q1 : Sl) (b1 : Cm.Bs), b1 = (if n2 = 0 then [] else g.b) ∧ St E (GtS br gp z5 ⟨true, n, b1⟩ q1 F L) w59 := (hP1 (by simpa using hz)).2
    clear_value w59
  case' refine_2 =>
    obtain ⟨q1, b1, hb1, h66⟩ := hP2 (by simpa using hz)
  all_goals
    have hb1l : b1.length ≤ 1000000000 := by rw [hb1]; split; exact Nat.zero_le _; exact hg
    rw [← hb1] at hadd
    refine ⟨_, rfl, _, _, _, rd_fld h66.f1.at_blk rfl rfl, ?_⟩
    have h67 : St E (byA q1 b1 :: blkL br 29 z5 :: blkL gp 107 (gtV ⟨true, n, b1⟩ q1) :: kn F :: L) _ := h66.f2
    obtain ⟨q2, w70, hr, h70⟩ := app_b (c2 := (tailS p m2).2.2) h67 (hin.rd [_, _, _] _ h67) (by omega)
    refine runV_ok hr ⟨_, _, _, rfl, _, rfl, rfl, ?_⟩
    have h71 : St E (blkL gp 107 (gtV ⟨true, n, b1⟩ q1) :: blkL br 29 z5 :: byA q2 (b1 ++ b.drop m2) :: kn F :: L) w70 := h70.sel 4 [2, 1, 0, 3] (by simp)
    refine ⟨wrOk_fld (k := 2) h71.at_blk (by show 2 < 3; decide) rfl, ?_⟩
    intro w73
    have h73 : St E (blkL gp 107 (gtV ⟨true, n, b1 ++ b.drop m2⟩ q2) :: blkL br 29 z5 :: byA q2 (b1 ++ b.drop m2) :: kn F :: L) w73 := h71.wr_fld (k := 2) rfl
    clear_value w73
    have hq2 : (b1 ++ b.drop m2).length = q2.2.1 := h73.f2.by_len2
    refine ⟨_, rfl, _, _, _, rd_fld h73.at_blk rfl rfl, ite_d (fun hl => ?_) fun hl => ?_⟩
    · rw [if_pos (by omega)] at hadd
      exact fin F w73 z5 q2 _ 0 rfl (Fz.le_refl F) hadd h73.f1
    · rw [if_neg (by omega)] at hadd
      refine ⟨_, rfl, _, _, _, rd_fld h73.at_blk rfl rfl, _, rfl, rfl, wrOk_agg (off := 0) (xs := gtV Sn.gt0 nilS) h73.at_blk (by show 3 ≤ 3; decide) (by intro u hu; simp [gtV] at hu; rcases hu with rfl | rfl | rfl <;> rfl), ?_⟩
      intro w85
      have h85 : St E (blkL gp 107 (gtV Sn.gt0 nilS) :: blkL br 29 z5 :: byA q2 (b1 ++ b.drop m2) :: kn F :: L) w85 := h73.wr_agg0 (xs := gtV Sn.gt0 nilS) rfl
      clear_value w85
      have h86 : St E (byA q2 (b1 ++ b.drop m2) :: kn F :: blkL gp 107 (gtV Sn.gt0 nilS) :: blkL br 29 z5 :: L) w85 := h85.sel 4 [2, 3, 0, 1] (by simp)
      have hall : (b1 ++ b.drop m2).length ≤ big := by rw [List.length_append]; omega
      obtain ⟨G, hG, h87, hs87⟩ := St.srcB2 h86 (by omega)
      refine SGet_spec hs87 hall h87 (fun w87 e hge he h88 => ⟨_, _, _, _, _, _, _, _, _, _, _, _, rfl, ?_⟩) fun G2 w87 v l d sp hG2 hge hsp h88 => ⟨_, _, _, _, _, _, _, _, _, _, _, _, rfl, ?_⟩
      · rw [hge] at hadd
        intro w94
        have h94 : St E (blkL w87.heap.size 29 z5 :: kn G :: blkL gp 107 (gtV Sn.gt0 nilS) :: blkL br 29 z5 :: L) w94 := h88.alloc (.cells ⟨z5⟩ 29)
        clear_value w94
        generalize w87.heap.size = b94 at *
        refine ⟨rfl, ok_snp h94 rfl _ _ _ _ _, ?_⟩
        intro w95
        have h95 : St E (blkL b94 29 z5 :: kn G :: blkL gp 107 (gtV Sn.gt0 nilS) :: blkL br 29 z5 :: L) w95 := h94.wr_snp rfl 0 0 nilS nilS nilS
        clear_value w95
        have h96 : St E (blkL br 29 z5 :: blkL b94 29 z5 :: kn G :: blkL gp 107 (gtV Sn.gt0 nilS) :: L) w95 := h95.f3
        refine ⟨_, _, _, _, _, _, _, _, _, _, _, rd_snp h95, rfl, ok_snp h96 rfl _ _ _ _ _, ?_⟩
        intro w101
        have h101 : St E (blkL br 29 z5 :: blkL b94 29 z5 :: kn G :: blkL gp 107 (gtV Sn.gt0 nilS) :: L) w101 := h96.wr_snp rfl 0 0 nilS nilS nilS
        clear_value w101
        refine ⟨_, _, _, _, _, _, _, _, _, _, _, rd_snp h101, ?_⟩
        have e0 : (e == 0) = false := by simpa using he
        rw [e0]
        have h102 : St E (blkL gp 107 (gtV Sn.gt0 nilS) :: kn G :: L) w101 := h101.sel 4 [3, 2] (by simp)
        exact kZ G w101 nilS Sn.gt0 e hG hadd (h102.by_nil.f1)
      · rw [hge] at hadd
        intro w94
        have h94 : St E (blkL w87.heap.size 29 z5 :: kn G2 :: blkL gp 107 (gtV Sn.gt0 nilS) :: blkL br 29 z5 :: L) w94 := h88.alloc (.cells ⟨z5⟩ 29)
        clear_value w94
        generalize w87.heap.size = b94 at *
        refine ⟨rfl, ok_snp h94 rfl _ _ _ _ _, ?_⟩
        intro w95
        have h95 : St E (blkL b94 29 (snpL sp.idx sp.term v l d) :: kn G2 :: blkL gp 107 (gtV Sn.gt0 nilS) :: blkL br 29 z5 :: L) w95 := h94.wr_snp rfl _ _ _ _ _
        clear_value w95
        have h96 : St E (blkL br 29 z5 :: blkL b94 29 (snpL sp.idx sp.term v l d) :: kn G2 :: blkL gp 107 (gtV Sn.gt0 nilS) :: L) w95 := h95.f3
        refine ⟨_, _, _, _, _, _, _, _, _, _, _, rd_snp h95, rfl, ok_snp h96 rfl _ _ _ _ _, ?_⟩
        intro w101
        have h101 : St E (blkL br 29 (snpL sp.idx sp.term v l d) :: blkL b94 29 (snpL sp.idx sp.term v l d) :: kn G2 :: blkL gp 107 (gtV Sn.gt0 nilS) :: L) w101 := h96.wr_snp rfl _ _ _ _ _
        clear_value w101
        refine ⟨_, _, _, _, _, _, _, _, _, _, _, rd_snp h101, ?_⟩
        have h102 : St E (blkL gp 107 (gtV Sn.gt0 nilS) :: kn G2 :: L) w101 := h101.sel 4 [3, 2] (by simp)
        exact kO G2 w101 v l d sp (Fz.le_trans hG hG2) hadd hsp (h102.by_nil.f1)
theorem Add_spec (hs : Src F p b) (hb : b.length ≤ big) (hg : g.b.length ≤ 1000000000) (h : St E (blkL gp 107 (gtV g q) :: byA q g.b :: kn F :: L) w)
    (kZ : ∀ (G : Fz) (w' : World) (q' : Sl) (g' : Sn.Gt) (e : Int), Fz.le F G → Sn.add g b = (g', Sn.none, false, e) → St E (blkL gp 107 (gtV g' q') :: byA q' g'.b :: kn G :: L) w' → R (.returned (.tuple #[snpV 0 0 nilS nilS nilS, .bool false, .int .i64 e])) w')
    (kO : ∀ (G : Fz) (w' : World) (v l d : Sl) (s : Sn.Snp), Fz.le F G → Sn.add g b = (Sn.gt0, s, true, 0) → snpR G v l d s → St E (blkL gp 107 (gtV Sn.gt0 nilS) :: byA nilS [] :: kn G :: L) w' → R (.returned (.tuple #[snpV s.idx s.term v l d, .bool true, .int .i64 0])) w') :
    Calls Try.prog 26 #[.pointer (some ⟨gp, 0, none⟩), .slice p.1 p.2.1 p.2.2] w R := AddW_spec hs.srcW hb hg h kZ kO
end
end Go.Vc

/-
  What the functions' code comes to; printed by a program of this claim's own.
-/
namespace Go.Proofs.Ytclinifclfahfaa
open Go Go.Vc
set_option maxRecDepth 100000
set_option linter.unusedVariables false

/-! tollgate/tollgatelaw07.SnapTurned -/
end Go.Proofs.Ytclinifclfahfaa

/-
  The law SnapTurned.
-/
namespace Go.Vc
open Go Go.Proofs Go.Proofs.Ytclinifclfahfaa
set_option maxRecDepth 100000
section
variable {E w : World} {L : List Asrt} {R : Ending → World → Prop} {F G : Fz} {q p o own : Sl} {b : Cm.Bs}
theorem run_rem (t : TypeId) (x y : Operand) {a b : Nat} (hb : b ≠ 0) (w : World) : (do eqGuard .rem t x y (.int .u64 (a : Int)) (.int .u64 (b : Int)); binOp .rem t (.int .u64 (a : Int)) (.int .u64 (b : Int)) : Sem Value).run Try.prog w = .ok (.int .u64 ((a % b : Nat) : Int)) w := by
  have e : Int.tmod (a : Int) (b : Int) = ((a % b : Nat) : Int) := by
    rw [Int.tmod_eq_emod_of_nonneg (by omega)]; omega
  have h0 : ¬ ((b : Int) = 0) := by omega
  simp [eqGuard, binOp, Op.intDiv, hb, e]
def bitN (n : Nat) : UInt8 := UInt8.ofNat (2 ^ n)
end
end Go.Vc

/-
  What the functions' code comes to; printed by a program of this claim's own.
-/
namespace Go.Proofs.Ytclinifclfahfaa
open Go Go.Vc
set_option maxRecDepth 100000
set_option linter.unusedVariables false

/-! tollgate/tollgatelaw07.SnapWays -/
def T_law07_SnapWays_1 (s18 : Addr) (e19 : Int) (w : World) (Kn : Bool → World → Prop) (Kp : List PanicEntry → World → Prop) : Prop :=
  if ((e19 : Int) != 0) = true then (Kn true w) else (∃ s20a : Option Addr, ∃ s20l : Nat, ∃ s20c : Nat, rd w (s18.add 4) (.slice s20a s20l s20c) ∧ Kn (decide (((s20l : Nat) : Int) > 3000)) w)

def T_law07_SnapWays_1_outs : Exit → Option (List (Nat × Value)) := fun x => match x with | .normal => some [(34, .bool false)] | .panic _ => some [] | _ => none

def T_law07_SnapWays_1_ks : Nat → Bool := ksOf [27, 28, 29, 30, 31, 32, 33, 34]

def H_law07_SnapWays_1 : Env → World → QT → Prop := unitHook 138 T_law07_SnapWays_1_ks [(3, .pointer (some ⟨0, 0, none⟩)), (8, .int .i64 0)] T_law07_SnapWays_1_outs fun l w C => match l with | [v0, v1] => T_law07_SnapWays_1 (pAddr v0) (pInt v1) w (fun b22 w => C .normal [.bool b22] w) (fun ch w => C (.panic ch) [] w) | _ => False

theorem T_law07_SnapWays_1_hl : allP (hokL Try.prog (hookAt []) (at_ (bodyOf Try.f8) [1, 1, 0, 0]) 28) = (True) := by kernel_rfl
theorem T_law07_SnapWays_1_hok : HOk Try.prog (hookAt []) (at_ (bodyOf Try.f8) [1, 1, 0, 0]) 28 := HOk_of _ _ (by rw [T_law07_SnapWays_1_hl]; exact trivial)

theorem T_law07_SnapWays_1_eq (C : Conts) (s18 : Addr) (e19 : Int) (w : World) : vcCode Try.prog (hookAt []) (at_ (bodyOf Try.f8) [1, 1, 0, 0]) 28 ⟨[(3, .pointer (some s18)), (8, .int .i64 e19)], 138, []⟩ w (unitQ T_law07_SnapWays_1_outs C) = T_law07_SnapWays_1 s18 e19 w (fun b23 w => C .normal [.bool b23] w) (fun ch w => C (.panic ch) [] w) := by kernel_rfl

theorem T_law07_SnapWays_1_ok : UnitOk Try.prog H_law07_SnapWays_1 (at_ (bodyOf Try.f8) [1, 1, 0, 0]) 28 := unit_ok (H := (hookAt [])) (by kernel_rfl) T_law07_SnapWays_1_hok fun l w C hk => by
    obtain ⟨v0, l_v0, rfl, k_v0, hk_v0⟩ := Kinds.cons_ hk
    obtain ⟨s18, rfl⟩ := kind_addr k_v0
    obtain ⟨v1, l_v1, rfl, k_v1, hk_v1⟩ := Kinds.cons_ hk_v0
    obtain ⟨e19, rfl⟩ := kind_int k_v1
    obtain rfl := Kinds.nil_ hk_v1
    exact T_law07_SnapWays_1_eq C s18 e19 w

def T_law07_SnapWays_2 (l33a : Option Addr) (l33l : Nat) (l33c : Nat) (f34 : Int) (w : World) (Kn : Bool → World → Prop) (Kp : List PanicEntry → World → Prop) : Prop :=
  if ((f34 : Int) != 0) = true then (Kn true w) else (Kn (((l33l : Nat) : Int) == 0) w)

def T_law07_SnapWays_2_outs : Exit → Option (List (Nat × Value)) := fun x => match x with | .normal => some [(53, .bool false)] | .panic _ => some [] | _ => none

def T_law07_SnapWays_2_ks : Nat → Bool := ksOf [47, 48, 49, 50, 51, 52, 53]

def H_law07_SnapWays_2 : Env → World → QT → Prop := unitHook 138 T_law07_SnapWays_2_ks [(10, .slice none 0 0), (11, .int .i64 0)] T_law07_SnapWays_2_outs fun l w C => match l with | [v0, v1] => T_law07_SnapWays_2 (pA v0) (pL v0) (pC v0) (pInt v1) w (fun b36 w => C .normal [.bool b36] w) (fun ch w => C (.panic ch) [] w) | _ => False

theorem T_law07_SnapWays_2_hl : allP (hokL Try.prog (hookAt []) (at_ (bodyOf Try.f8) [1, 1, 1, 1, 1, 0, 0]) 252) = (True) := by kernel_rfl
theorem T_law07_SnapWays_2_hok : HOk Try.prog (hookAt []) (at_ (bodyOf Try.f8) [1, 1, 1, 1, 1, 0, 0]) 252 := HOk_of _ _ (by rw [T_law07_SnapWays_2_hl]; exact trivial)

theorem T_law07_SnapWays_2_eq (C : Conts) (l33a : Option Addr) (l33l : Nat) (l33c : Nat) (f34 : Int) (w : World) : vcCode Try.prog (hookAt []) (at_ (bodyOf Try.f8) [1, 1, 1, 1, 1, 0, 0]) 252 ⟨[(10, .slice l33a l33l l33c), (11, .int .i64 f34)], 138, []⟩ w (unitQ T_law07_SnapWays_2_outs C) = T_law07_SnapWays_2 l33a l33l l33c f34 w (fun b37 w => C .normal [.bool b37] w) (fun ch w => C (.panic ch) [] w) := by kernel_rfl

theorem T_law07_SnapWays_2_ok : UnitOk Try.prog H_law07_SnapWays_2 (at_ (bodyOf Try.f8) [1, 1, 1, 1, 1, 0, 0]) 252 := unit_ok (H := (hookAt [])) (by kernel_rfl) T_law07_SnapWays_2_hok fun l w C hk => by
    obtain ⟨v0, l_v0, rfl, k_v0, hk_v0⟩ := Kinds.cons_ hk
    obtain ⟨l33a, l33l, l33c, rfl⟩ := kind_slice k_v0
    obtain ⟨v1, l_v1, rfl, k_v1, hk_v1⟩ := Kinds.cons_ hk_v0
    obtain ⟨f34, rfl⟩ := kind_int k_v1
    obtain rfl := Kinds.nil_ hk_v1
    exact T_law07_SnapWays_2_eq C l33a l33l l33c f34 w

def T_law07_SnapWays_4 (s64 : Addr) (l65a : Option Addr) (l65l : Nat) (l65c : Nat) (i66 : Int) (t67 : Addr) (done68 : Bool) (e69 : Int) (w : World) (Kn : Bool → World → Prop) (Kp : List PanicEntry → World → Prop) : Prop :=
  if ((e69 : Int) != 0) = true then (Kn true w) else (if (!(done68 == ((i66 : Int) == (IntKind.wrap .i64 (((l65l : Nat) : Int) - 1))))) = true then (Kn true w) else (if done68 = true then (∃ x70 : Int, ∃ x71 : Int, ∃ s72a : Option Addr, ∃ s72l : Nat, ∃ s72c : Nat, ∃ s73a : Option Addr, ∃ s73l : Nat, ∃ s73c : Nat, ∃ s74a : Option Addr, ∃ s74l : Nat, ∃ s74c : Nat, rd w s64 (.agg #[.int .i64 x70, .int .i64 x71, .slice s72a s72l s72c, .slice s73a s73l s73c, .slice s74a s74l s74c]) ∧ ∃ x75 : Int, ∃ x76 : Int, ∃ s77a : Option Addr, ∃ s77l : Nat, ∃ s77c : Nat, ∃ s78a : Option Addr, ∃ s78l : Nat, ∃ s78c : Nat, ∃ s79a : Option Addr, ∃ s79l : Nat, ∃ s79c : Nat, rd w t67 (.agg #[.int .i64 x75, .int .i64 x76, .slice s77a s77l s77c, .slice s78a s78l s78c, .slice s79a s79l s79c]) ∧ Calls Try.prog 11 #[.agg #[.int .i64 x70, .int .i64 x71, .slice s72a s72l s72c, .slice s73a s73l s73c, .slice s74a s74l s74c], .agg #[.int .i64 x75, .int .i64 x76, .slice s77a s77l s77c, .slice s78a s78l s78c, .slice s79a s79l s79c]] w (ret (fun r80 w81 => ∃ b82 : Bool, r80 = .bool b82 ∧ Kn (!b82) w81) Kp)) else (Kn false w)))

def T_law07_SnapWays_4_outs : Exit → Option (List (Nat × Value)) := fun x => match x with | .normal => some [(97, .bool false)] | .panic _ => some [] | _ => none

def T_law07_SnapWays_4_ks : Nat → Bool := ksOf [78, 79, 80, 81, 82, 83, 84, 85, 86, 87, 88, 89, 90, 91, 92, 93, 94, 95, 96, 97]

def H_law07_SnapWays_4 : Env → World → QT → Prop := unitHook 138 T_law07_SnapWays_4_ks [(3, .pointer (some ⟨0, 0, none⟩)), (10, .slice none 0 0), (14, .int .i64 0), (15, .pointer (some ⟨0, 0, none⟩)), (16, .bool false), (17, .int .i64 0)] T_law07_SnapWays_4_outs fun l w C => match l with | [v0, v1, v2, v3, v4, v5] => T_law07_SnapWays_4 (pAddr v0) (pA v1) (pL v1) (pC v1) (pInt v2) (pAddr v3) (pBool v4) (pInt v5) w (fun b84 w => C .normal [.bool b84] w) (fun ch w => C (.panic ch) [] w) | _ => False

theorem T_law07_SnapWays_4_hl : allP (hokL Try.prog (hookAt []) (at_ (bodyOf Try.f8) [1, 1, 1, 1, 1, 1, 1, 1, 0, 1, 0, 0, 1, 0, 0, 1, 0, 0]) 523556) = (True) := by kernel_rfl
theorem T_law07_SnapWays_4_hok : HOk Try.prog (hookAt []) (at_ (bodyOf Try.f8) [1, 1, 1, 1, 1, 1, 1, 1, 0, 1, 0, 0, 1, 0, 0, 1, 0, 0]) 523556 := HOk_of _ _ (by rw [T_law07_SnapWays_4_hl]; exact trivial)

theorem T_law07_SnapWays_4_eq (C : Conts) (s64 : Addr) (l65a : Option Addr) (l65l : Nat) (l65c : Nat) (i66 : Int) (t67 : Addr) (done68 : Bool) (e69 : Int) (w : World) : vcCode Try.prog (hookAt []) (at_ (bodyOf Try.f8) [1, 1, 1, 1, 1, 1, 1, 1, 0, 1, 0, 0, 1, 0, 0, 1, 0, 0]) 523556 ⟨[(3, .pointer (some s64)), (10, .slice l65a l65l l65c), (14, .int .i64 i66), (15, .pointer (some t67)), (16, .bool done68), (17, .int .i64 e69)], 138, []⟩ w (unitQ T_law07_SnapWays_4_outs C) = T_law07_SnapWays_4 s64 l65a l65l l65c i66 t67 done68 e69 w (fun b85 w => C .normal [.bool b85] w) (fun ch w => C (.panic ch) [] w) := by kernel_rfl

theorem T_law07_SnapWays_4_ok : UnitOk Try.prog H_law07_SnapWays_4 (at_ (bodyOf Try.f8) [1, 1, 1, 1, 1, 1, 1, 1, 0, 1, 0, 0, 1, 0, 0, 1, 0, 0]) 523556 := unit_ok (H := (hookAt [])) (by kernel_rfl) T_law07_SnapWays_4_hok fun l w C hk => by
    obtain ⟨v0, l_v0, rfl, k_v0, hk_v0⟩ := Kinds.cons_ hk
    obtain ⟨s64, rfl⟩ := kind_addr k_v0
    obtain ⟨v1, l_v1, rfl, k_v1, hk_v1⟩ := Kinds.cons_ hk_v0
    obtain ⟨l65a, l65l, l65c, rfl⟩ := kind_slice k_v1
    obtain ⟨v2, l_v2, rfl, k_v2, hk_v2⟩ := Kinds.cons_ hk_v1
    obtain ⟨i66, rfl⟩ := kind_int k_v2
    obtain ⟨v3, l_v3, rfl, k_v3, hk_v3⟩ := Kinds.cons_ hk_v2
    obtain ⟨t67, rfl⟩ := kind_addr k_v3
    obtain ⟨v4, l_v4, rfl, k_v4, hk_v4⟩ := Kinds.cons_ hk_v3
    obtain ⟨done68, rfl⟩ := kind_bool k_v4
    obtain ⟨v5, l_v5, rfl, k_v5, hk_v5⟩ := Kinds.cons_ hk_v4
    obtain ⟨e69, rfl⟩ := kind_int k_v5
    obtain rfl := Kinds.nil_ hk_v5
    exact T_law07_SnapWays_4_eq C s64 l65a l65l l65c i66 t67 done68 e69 w

def T_law07_SnapWays_5 (k88 : Int) (i89 : Int) (done90 : Bool) (w : World) (Kn : Bool → World → Prop) (Kp : List PanicEntry → World → Prop) : Prop :=
  if done90 = true then (Kn true w) else (if ((k88 : Int) == 0) = true then (Kn true w) else (Kn ((k88 : Int) == (IntKind.wrap .i64 ((i89 : Int) + 1))) w))

def T_law07_SnapWays_5_outs : Exit → Option (List (Nat × Value)) := fun x => match x with | .normal => some [(108, .bool false)] | .panic _ => some [] | _ => none

def T_law07_SnapWays_5_ks : Nat → Bool := ksOf [98, 99, 100, 101, 102, 103, 104, 105, 106, 107, 108]

def H_law07_SnapWays_5 : Env → World → QT → Prop := unitHook 138 T_law07_SnapWays_5_ks [(13, .int .i64 0), (14, .int .i64 0), (16, .bool false)] T_law07_SnapWays_5_outs fun l w C => match l with | [v0, v1, v2] => T_law07_SnapWays_5 (pInt v0) (pInt v1) (pBool v2) w (fun b92 w => C .normal [.bool b92] w) (fun ch w => C (.panic ch) [] w) | _ => False

theorem T_law07_SnapWays_5_hl : allP (hokL Try.prog (hookAt []) (at_ (bodyOf Try.f8) [1, 1, 1, 1, 1, 1, 1, 1, 0, 1, 0, 0, 1, 0, 0, 1, 1, 0, 0]) 1047116) = (True) := by kernel_rfl
theorem T_law07_SnapWays_5_hok : HOk Try.prog (hookAt []) (at_ (bodyOf Try.f8) [1, 1, 1, 1, 1, 1, 1, 1, 0, 1, 0, 0, 1, 0, 0, 1, 1, 0, 0]) 1047116 := HOk_of _ _ (by rw [T_law07_SnapWays_5_hl]; exact trivial)

theorem T_law07_SnapWays_5_eq (C : Conts) (k88 : Int) (i89 : Int) (done90 : Bool) (w : World) : vcCode Try.prog (hookAt []) (at_ (bodyOf Try.f8) [1, 1, 1, 1, 1, 1, 1, 1, 0, 1, 0, 0, 1, 0, 0, 1, 1, 0, 0]) 1047116 ⟨[(13, .int .i64 k88), (14, .int .i64 i89), (16, .bool done90)], 138, []⟩ w (unitQ T_law07_SnapWays_5_outs C) = T_law07_SnapWays_5 k88 i89 done90 w (fun b93 w => C .normal [.bool b93] w) (fun ch w => C (.panic ch) [] w) := by kernel_rfl

theorem T_law07_SnapWays_5_ok : UnitOk Try.prog H_law07_SnapWays_5 (at_ (bodyOf Try.f8) [1, 1, 1, 1, 1, 1, 1, 1, 0, 1, 0, 0, 1, 0, 0, 1, 1, 0, 0]) 1047116 := unit_ok (H := (hookAt [])) (by kernel_rfl) T_law07_SnapWays_5_hok fun l w C hk => by
    obtain ⟨v0, l_v0, rfl, k_v0, hk_v0⟩ := Kinds.cons_ hk
    obtain ⟨k88, rfl⟩ := kind_int k_v0
    obtain ⟨v1, l_v1, rfl, k_v1, hk_v1⟩ := Kinds.cons_ hk_v0
    obtain ⟨i89, rfl⟩ := kind_int k_v1
    obtain ⟨v2, l_v2, rfl, k_v2, hk_v2⟩ := Kinds.cons_ hk_v1
    obtain ⟨done90, rfl⟩ := kind_bool k_v2
    obtain rfl := Kinds.nil_ hk_v2
    exact T_law07_SnapWays_5_eq C k88 i89 done90 w

def T_law07_SnapWays_3_body (X : Int → World → Prop) (i46 : Int) (s47 : Addr) (l48a : Option Addr) (l48l : Nat) (l48c : Nat) (g49 : Option Addr) (k50 : Int) (w : World) (Kn : World → Prop) (Kr : Bool → World → Prop) (Kp : List PanicEntry → World → Prop)  : Prop :=
  if (decide ((i46 : Int) < ((l48l : Nat) : Int))) = true then (0 ≤ (i46 : Int) ∧ (i46 : Int) < ((l48l : Nat) : Int) ∧ ∃ b51, l48a = some b51 ∧ ∃ s52a : Option Addr, ∃ s52l : Nat, ∃ s52c : Nat, rd w (b51.add ((i46 : Int).toNat * 1)) (.slice s52a s52l s52c) ∧ Calls Try.prog 26 #[.pointer g49, .slice s52a s52l s52c] w (ret (fun r53 w54 => ∃ x55 : Int, ∃ x56 : Int, ∃ s57a : Option Addr, ∃ s57l : Nat, ∃ s57c : Nat, ∃ s58a : Option Addr, ∃ s58l : Nat, ∃ s58c : Nat, ∃ s59a : Option Addr, ∃ s59l : Nat, ∃ s59c : Nat, ∃ b60 : Bool, ∃ x61 : Int, r53 = .tuple #[.agg #[.int .i64 x55, .int .i64 x56, .slice s57a s57l s57c, .slice s58a s58l s58c, .slice s59a s59l s59c], .bool b60, .int .i64 x61] ∧ let w62 : World := w54.alloc (.cells #[.int .i64 0, .int .i64 0, .slice none 0 0, .slice none 0 0, .slice none 0 0] 29)
  (.agg #[.int .i64 x55, .int .i64 x56, .slice s57a s57l s57c, .slice s58a s58l s58c, .slice s59a s59l s59c] : Value).cells.size = 5 ∧ wrOk w62 (⟨w54.heap.size, 0, none⟩ : Addr) (.agg #[.int .i64 x55, .int .i64 x56, .slice s57a s57l s57c, .slice s58a s58l s58c, .slice s59a s59l s59c]) ∧ let w63 : World := wr w62 (⟨w54.heap.size, 0, none⟩ : Addr) (.agg #[.int .i64 x55, .int .i64 x56, .slice s57a s57l s57c, .slice s58a s58l s58c, .slice s59a s59l s59c])
  T_law07_SnapWays_4 s47 l48a l48l l48c i46 (⟨w54.heap.size, 0, none⟩ : Addr) b60 x61 w63 (fun b86 w87 => if b86 = true then (Kr false w87) else (T_law07_SnapWays_5 k50 i46 b60 w87 (fun b94 w95 => if b94 = true then (X (IntKind.wrap .i64 ((i46 : Int) + 1)) w95) else (Calls Try.prog 27 #[.pointer g49] w95 (ret (fun r96 w97 => ∃ x98 : Int, r96 = .int .i64 x98 ∧ 0 ≤ (k50 : Int) ∧ (k50 : Int) < ((l48l : Nat) : Int) ∧ ∃ b99, l48a = some b99 ∧ ∃ s100a : Option Addr, ∃ s100l : Nat, ∃ s100c : Nat, rd w97 (b99.add ((k50 : Int).toNat * 1)) (.slice s100a s100l s100c) ∧ Calls Try.prog 26 #[.pointer g49, .slice s100a s100l s100c] w97 (ret (fun r101 w102 => ∃ x103 : Int, ∃ x104 : Int, ∃ s105a : Option Addr, ∃ s105l : Nat, ∃ s105c : Nat, ∃ s106a : Option Addr, ∃ s106l : Nat, ∃ s106c : Nat, ∃ s107a : Option Addr, ∃ s107l : Nat, ∃ s107c : Nat, ∃ b108 : Bool, ∃ x109 : Int, r101 = .tuple #[.agg #[.int .i64 x103, .int .i64 x104, .slice s105a s105l s105c, .slice s106a s106l s106c, .slice s107a s107l s107c], .bool b108, .int .i64 x109] ∧ let w110 : World := w102.alloc (.cells #[.int .i64 0, .int .i64 0, .slice none 0 0, .slice none 0 0, .slice none 0 0] 29)
  (.agg #[.int .i64 x103, .int .i64 x104, .slice s105a s105l s105c, .slice s106a s106l s106c, .slice s107a s107l s107c] : Value).cells.size = 5 ∧ wrOk w110 (⟨w102.heap.size, 0, none⟩ : Addr) (.agg #[.int .i64 x103, .int .i64 x104, .slice s105a s105l s105c, .slice s106a s106l s106c, .slice s107a s107l s107c]) ∧ let w111 : World := wr w110 (⟨w102.heap.size, 0, none⟩ : Addr) (.agg #[.int .i64 x103, .int .i64 x104, .slice s105a s105l s105c, .slice s106a s106l s106c, .slice s107a s107l s107c])
  if b108 = true then (Kr false w111) else (if ((x109 : Int) != 12) = true then (Kr false w111) else (Calls Try.prog 27 #[.pointer g49] w111 (ret (fun r112 w113 => ∃ x114 : Int, r112 = .int .i64 x114 ∧ if ((x114 : Int) != x98) = true then (Kr false w113) else (X (IntKind.wrap .i64 ((i46 : Int) + 1)) w113)) Kp)))) Kp)) Kp))) Kp)) Kp) Kp)) else (Kn  w)

def T_law07_SnapWays_3 (i46 : Int) (s47 : Addr) (l48a : Option Addr) (l48l : Nat) (l48c : Nat) (g49 : Option Addr) (k50 : Int) (w : World) (Kn : World → Prop) (Kr : Bool → World → Prop) (Kp : List PanicEntry → World → Prop) : Prop :=
  ∀ X : Int → World → Prop, (∀ (i46 : Int) (w : World), T_law07_SnapWays_3_body X i46 s47 l48a l48l l48c g49 k50 w Kn Kr Kp → X i46 w) → X i46 w

def T_law07_SnapWays_3_outs : Exit → Option (List (Nat × Value)) := fun x => match x with | .normal => some [] | .ret => some [(6, .bool false)] | .panic _ => some [] | _ => none

def T_law07_SnapWays_3_ks : Nat → Bool := ksOf [6, 14, 15, 16, 17, 18, 19, 20, 21, 62, 63, 64, 65, 66, 67, 68, 69, 70, 71, 72, 73, 74, 75, 76, 77, 78, 79, 80, 81, 82, 83, 84, 85, 86, 87, 88, 89, 90, 91, 92, 93, 94, 95, 96, 97, 98, 99, 100, 101, 102, 103, 104, 105, 106, 107, 108, 109, 110, 111, 112, 113, 114, 115, 116, 117, 118, 119, 120, 121, 122, 123, 124, 125, 126, 127, 128, 129, 130, 131]

def H_law07_SnapWays_3 : Env → World → QT → Prop := unitHook 138 T_law07_SnapWays_3_ks [(14, .int .i64 0), (3, .pointer (some ⟨0, 0, none⟩)), (10, .slice none 0 0), (12, .pointer none), (13, .int .i64 0)] T_law07_SnapWays_3_outs fun l w C => match l with | [v0, v1, v2, v3, v4] => T_law07_SnapWays_3 (pInt v0) (pAddr v1) (pA v2) (pL v2) (pC v2) (pPtr v3) (pInt v4) w (fun w => C .normal [] w) (fun b116 w => C .ret [.bool b116] w) (fun ch w => C (.panic ch) [] w) | _ => False

theorem T_law07_SnapWays_3_hl : allP (hokL Try.prog (hookAt [(523556, H_law07_SnapWays_4), (1047116, H_law07_SnapWays_5)]) (at_ (bodyOf Try.f8) [1, 1, 1, 1, 1, 1, 1, 1, 0, 1, 0, 0]) 8180) = (UnitOk Try.prog H_law07_SnapWays_4 (at_ (bodyOf Try.f8) [1, 1, 1, 1, 1, 1, 1, 1, 0, 1, 0, 0, 1, 0, 0, 1, 0, 0]) 523556 ∧ UnitOk Try.prog H_law07_SnapWays_5 (at_ (bodyOf Try.f8) [1, 1, 1, 1, 1, 1, 1, 1, 0, 1, 0, 0, 1, 0, 0, 1, 1, 0, 0]) 1047116 ∧ True) := by kernel_rfl
theorem T_law07_SnapWays_3_hok : HOk Try.prog (hookAt [(523556, H_law07_SnapWays_4), (1047116, H_law07_SnapWays_5)]) (at_ (bodyOf Try.f8) [1, 1, 1, 1, 1, 1, 1, 1, 0, 1, 0, 0]) 8180 := HOk_of _ _ (by rw [T_law07_SnapWays_3_hl]; exact ⟨T_law07_SnapWays_4_ok, T_law07_SnapWays_5_ok, trivial⟩)

theorem T_law07_SnapWays_3_eq (C : Conts) (X : List Value → World → Prop) (i46 : Int) (s47 : Addr) (l48a : Option Addr) (l48l : Nat) (l48c : Nat) (g49 : Option Addr) (k50 : Int) (w : World) : vcCode Try.prog (hookAt [(523556, H_law07_SnapWays_4), (1047116, H_law07_SnapWays_5)]) (at_ (bodyOf Try.f8) [1, 1, 1, 1, 1, 1, 1, 1, 0, 1, 0, 0]) 8180 ⟨[(14, .int .i64 i46)] ++ [(3, .pointer (some s47)), (10, .slice l48a l48l l48c), (12, .pointer g49), (13, .int .i64 k50)], 138, []⟩ w (seqQ (fun e w => takeAll e [(14, .int .i64 0)] fun l => X l w) (blockQ 0 (unitQ T_law07_SnapWays_3_outs C))) = T_law07_SnapWays_3_body (fun i46 w => X [.int .i64 i46] w) i46 s47 l48a l48l l48c g49 k50 w (fun w => C .normal [] w) (fun b117 w => C .ret [.bool b117] w) (fun ch w => C (.panic ch) [] w) := by kernel_rfl

theorem T_law07_SnapWays_3_ok : UnitOk Try.prog H_law07_SnapWays_3 (at_ (bodyOf Try.f8) [1, 1, 1, 1, 1, 1, 1, 1, 0, 1]) 2045 := by
  have hc : at_ (bodyOf Try.f8) [1, 1, 1, 1, 1, 1, 1, 1, 0, 1] = .block 0 (.loop (at_ (bodyOf Try.f8) [1, 1, 1, 1, 1, 1, 1, 1, 0, 1, 0, 0])) := by kernel_rfl
  rw [hc]
  refine loop_unit_ok (carr := [(14, .int .i64 0)]) (fix := [(3, .pointer (some ⟨0, 0, none⟩)), (10, .slice none 0 0), (12, .pointer none), (13, .int .i64 0)]) (ks := T_law07_SnapWays_3_ks) (H := (hookAt [(523556, H_law07_SnapWays_4), (1047116, H_law07_SnapWays_5)])) (B := fun C X l u w => match l, u with | [v0], [v1, v2, v3, v4] => T_law07_SnapWays_3_body (fun i46 w => X [.int .i64 i46] w) (pInt v0) (pAddr v1) (pA v2) (pL v2) (pC v2) (pPtr v3) (pInt v4) w (fun w => C .normal [] w) (fun b118 w => C .ret [.bool b118] w) (fun ch w => C (.panic ch) [] w) | _, _ => False) (by kernel_rfl) (by kernel_rfl) T_law07_SnapWays_3_hok ?_ ?_
  · intro C X l u w hl hu
    obtain ⟨v0, l_v0, rfl, k_v0, hl_v0⟩ := Kinds.cons_ hl
    obtain ⟨i46, rfl⟩ := kind_int k_v0
    obtain rfl := Kinds.nil_ hl_v0
    obtain ⟨v1, l_v1, rfl, k_v1, hu_v1⟩ := Kinds.cons_ hu
    obtain ⟨s47, rfl⟩ := kind_addr k_v1
    obtain ⟨v2, l_v2, rfl, k_v2, hu_v2⟩ := Kinds.cons_ hu_v1
    obtain ⟨l48a, l48l, l48c, rfl⟩ := kind_slice k_v2
    obtain ⟨v3, l_v3, rfl, k_v3, hu_v3⟩ := Kinds.cons_ hu_v2
    obtain ⟨g49, rfl⟩ := kind_pointer k_v3
    obtain ⟨v4, l_v4, rfl, k_v4, hu_v4⟩ := Kinds.cons_ hu_v3
    obtain ⟨k50, rfl⟩ := kind_int k_v4
    obtain rfl := Kinds.nil_ hu_v4
    exact T_law07_SnapWays_3_eq C X i46 s47 l48a l48l l48c g49 k50 w
  · intro l u w C hl hu
    obtain ⟨v0, l_v0, rfl, k_v0, hl_v0⟩ := Kinds.cons_ hl
    obtain ⟨i46, rfl⟩ := kind_int k_v0
    obtain rfl := Kinds.nil_ hl_v0
    obtain ⟨v1, l_v1, rfl, k_v1, hu_v1⟩ := Kinds.cons_ hu
    obtain ⟨s47, rfl⟩ := kind_addr k_v1
    obtain ⟨v2, l_v2, rfl, k_v2, hu_v2⟩ := Kinds.cons_ hu_v1
    obtain ⟨l48a, l48l, l48c, rfl⟩ := kind_slice k_v2
    obtain ⟨v3, l_v3, rfl, k_v3, hu_v3⟩ := Kinds.cons_ hu_v2
    obtain ⟨g49, rfl⟩ := kind_pointer k_v3
    obtain ⟨v4, l_v4, rfl, k_v4, hu_v4⟩ := Kinds.cons_ hu_v3
    obtain ⟨k50, rfl⟩ := kind_int k_v4
    obtain rfl := Kinds.nil_ hu_v4
    constructor
    · intro h X hX
      exact h (fun i46 w => X [.int .i64 i46] w) (fun i46 w hb => hX [.int .i64 i46] w ⟨rfl, trivial⟩ hb)
    · intro h X hX
      exact h (fun l w => match l with | [v0] => X (pInt v0) w | _ => True) (fun l w hl hb => by
        obtain ⟨v0, l_v0, rfl, k_v0, hl_v0⟩ := Kinds.cons_ hl
        obtain ⟨i46, rfl⟩ := kind_int k_v0
        obtain rfl := Kinds.nil_ hl_v0
        exact hX i46 w hb)

def T_law07_SnapWays (x1 : Int) (x2 : Int) (s3a : Option Addr) (s3l : Nat) (s3c : Nat) (s4a : Option Addr) (s4l : Nat) (s4c : Nat) (s5a : Option Addr) (s5l : Nat) (s5c : Nat) (size6 : Int) (again7 : Int) (w : World) (R : Ending → World → Prop) : Prop :=
  let w8 : World := w.alloc (.cells #[.int .i64 x1, .int .i64 x2, .slice s3a s3l s3c, .slice s4a s4l s4c, .slice s5a s5l s5c] 29)
  ∃ x9 : Int, ∃ x10 : Int, ∃ s11a : Option Addr, ∃ s11l : Nat, ∃ s11c : Nat, ∃ s12a : Option Addr, ∃ s12l : Nat, ∃ s12c : Nat, ∃ s13a : Option Addr, ∃ s13l : Nat, ∃ s13c : Nat, rd w8 (⟨w.heap.size, 0, none⟩ : Addr) (.agg #[.int .i64 x9, .int .i64 x10, .slice s11a s11l s11c, .slice s12a s12l s12c, .slice s13a s13l s13c]) ∧ Calls Try.prog 9 #[.agg #[.int .i64 x9, .int .i64 x10, .slice s11a s11l s11c, .slice s12a s12l s12c, .slice s13a s13l s13c]] w8 (ret (fun r14 w15 => ∃ s16a : Option Addr, ∃ s16l : Nat, ∃ s16c : Nat, ∃ x17 : Int, r14 = .tuple #[.slice s16a s16l s16c, .int .i64 x17] ∧ T_law07_SnapWays_1 (⟨w.heap.size, 0, none⟩ : Addr) x17 w15 (fun b24 w25 => if b24 = true then (Calls Try.prog 12 #[] w25 (ret (fun r26 w27 => ∃ b28 : Bool, r26 = .bool b28 ∧ R (.returned (.bool b28)) w27) (pan R))) else (Calls Try.prog 13 #[.slice s16a s16l s16c, .int .i64 (IntKind.wrap .i64 ((1 : Int) + (IntKind.wrap .i64 (Int.tmod (IntKind.wrap .u64 size6) 200))))] w25 (ret (fun r29 w30 => ∃ s31a : Option Addr, ∃ s31l : Nat, ∃ s31c : Nat, ∃ x32 : Int, r29 = .tuple #[.slice s31a s31l s31c, .int .i64 x32] ∧ T_law07_SnapWays_2 s31a s31l s31c x32 w30 (fun b38 w39 => if b38 = true then (R (.returned (.bool false)) w39) else (Calls Try.prog 25 #[] w39 (ret (fun r40 w41 => ∃ p42 : Option Addr, r40 = .pointer p42 ∧ runV Try.prog (do eqGuard .rem 38 (.tmp 56) (.tmp 59) (.int .u64 (IntKind.wrap .u64 again7)) (.int .u64 (IntKind.wrap .u64 ((s31l : Nat) : Int))); binOp .rem 38 (.int .u64 (IntKind.wrap .u64 again7)) (.int .u64 (IntKind.wrap .u64 ((s31l : Nat) : Int)))) w41 (fun r43 w44 => ∃ x45 : Int, r43 = .int .u64 x45 ∧ T_law07_SnapWays_3 0 (⟨w.heap.size, 0, none⟩ : Addr) s31a s31l s31c p42 (IntKind.wrap .i64 x45) w44 (fun w119 => Calls Try.prog 12 #[] w119 (ret (fun r120 w121 => ∃ b122 : Bool, r120 = .bool b122 ∧ if b122 = true then (Calls Try.prog 27 #[.pointer p42] w121 (ret (fun r123 w124 => ∃ x125 : Int, r123 = .int .i64 x125 ∧ R (.returned (.bool ((x125 : Int) == 0))) w124) (pan R))) else (R (.returned (.bool false)) w121)) (pan R))) (fun b126 w127 => R (.returned (.bool b126)) w127) (pan R)) (pan R)) (pan R)))) (pan R)) (pan R)))) (pan R)) (pan R))

theorem T_law07_SnapWays_hl : allP (hokL Try.prog (hookAt [(28, H_law07_SnapWays_1), (252, H_law07_SnapWays_2), (2045, H_law07_SnapWays_3)]) (bodyOf Try.f8) 1) = (UnitOk Try.prog H_law07_SnapWays_1 (at_ (bodyOf Try.f8) [1, 1, 0, 0]) 28 ∧ UnitOk Try.prog H_law07_SnapWays_2 (at_ (bodyOf Try.f8) [1, 1, 1, 1, 1, 0, 0]) 252 ∧ UnitOk Try.prog H_law07_SnapWays_3 (at_ (bodyOf Try.f8) [1, 1, 1, 1, 1, 1, 1, 1, 0, 1]) 2045 ∧ True) := by kernel_rfl

theorem T_law07_SnapWays_eq (x1 : Int) (x2 : Int) (s3a : Option Addr) (s3l : Nat) (s3c : Nat) (s4a : Option Addr) (s4l : Nat) (s4c : Nat) (s5a : Option Addr) (s5l : Nat) (s5c : Nat) (size6 : Int) (again7 : Int) (w : World) (R : Ending → World → Prop) : vcCode Try.prog (hookAt [(28, H_law07_SnapWays_1), (252, H_law07_SnapWays_2), (2045, H_law07_SnapWays_3)]) (bodyOf Try.f8) 1 ⟨argEnv [.agg #[.int .i64 x1, .int .i64 x2, .slice s3a s3l s3c, .slice s4a s4l s4c, .slice s5a s5l s5c], .int .i64 size6, .int .i64 again7] 0, Try.f8.ntmps, []⟩ w (finQ Try.prog Try.f8.results.toList R) = T_law07_SnapWays x1 x2 s3a s3l s3c s4a s4l s4c s5a s5l s5c size6 again7 w R := by kernel_rfl

theorem T_law07_SnapWays_b : Try.f8.body = some (bodyOf Try.f8) := by kernel_rfl
theorem T_law07_SnapWays_s : (quietSel (bodyOf Try.f8) && Nat.ble 3 Try.f8.ntmps) = true := by kernel_rfl

theorem C_law07_SnapWays {x1 : Int} {x2 : Int} {s3a : Option Addr} {s3l : Nat} {s3c : Nat} {s4a : Option Addr} {s4l : Nat} {s4c : Nat} {s5a : Option Addr} {s5l : Nat} {s5c : Nat} {size6 : Int} {again7 : Int} {w : World} {R : Ending → World → Prop} (h : T_law07_SnapWays x1 x2 s3a s3l s3c s4a s4l s4c s5a s5l s5c size6 again7 w R) : Calls Try.prog 8 #[.agg #[.int .i64 x1, .int .i64 x2, .slice s3a s3l s3c, .slice s4a s4l s4c, .slice s5a s5l s5c], .int .i64 size6, .int .i64 again7] w R :=
  calls_of_text (args := [.agg #[.int .i64 x1, .int .i64 x2, .slice s3a s3l s3c, .slice s4a s4l s4c, .slice s5a s5l s5c], .int .i64 size6, .int .i64 again7]) mixed Try.func8 T_law07_SnapWays_b T_law07_SnapWays_s (HOk_of _ _ (by rw [T_law07_SnapWays_hl]; exact ⟨T_law07_SnapWays_1_ok, T_law07_SnapWays_2_ok, T_law07_SnapWays_3_ok, trivial⟩)) (by rw [T_law07_SnapWays_eq]; exact h)

end Go.Proofs.Ytclinifclfahfaa

/-
  The law SnapWays.
-/
namespace Go.Vc
open Go Go.Proofs Go.Proofs.Ytclinifclfahfaa
set_option maxRecDepth 100000
section
variable {E w : World} {L : List Asrt} {R : Ending → World → Prop} {F G : Fz} {q p o : Sl} {b : Cm.Bs} {g : Sn.Gt} {gp : Nat} {qs : List Sl}
theorem AddV_spec (hs : Src F p b) (hb : b.length ≤ big) (hg : g.b.length ≤ 1000000000) (h : St E (blkL gp 107 (gtV g q) :: byA q g.b :: kn F :: L) w)
    (k : ∀ (G : Fz) (w' : World) (q' v l d : Sl), Fz.le F G → snpR G v l d (Sn.add g b).2.1 → St E (blkL gp 107 (gtV (Sn.add g b).1 q') :: byA q' (Sn.add g b).1.b :: kn G :: L) w' → R (.returned (.tuple #[snpV (Sn.add g b).2.1.idx (Sn.add g b).2.1.term v l d, .bool (Sn.add g b).2.2.1, .int .i64 (Sn.add g b).2.2.2])) w') :
    Calls Try.prog 26 #[.pointer (some ⟨gp, 0, none⟩), .slice p.1 p.2.1 p.2.2] w R :=
  Add_spec hs hb hg h (fun G w' q' g' e hG ha h' => by rw [ha] at k; exact k G w' q' nilS nilS nilS hG (none_R G) h') fun G w' v l d s hG ha hr h' => by rw [ha] at k; exact k G w' nilS v l d hG hr h'
theorem AddX_spec {g' : Sn.Gt} {sn : Sn.Snp} {dn : Bool} {e : Int} (ha : Sn.add g b = (g', sn, dn, e)) (hs : Src F p b) (hb : b.length ≤ big) (hg : g.b.length ≤ 1000000000) (h : St E (blkL gp 107 (gtV g q) :: byA q g.b :: kn F :: L) w)
    (k : ∀ (G : Fz) (w' : World) (q' v l d : Sl), Fz.le F G → snpR G v l d sn → St E (blkL gp 107 (gtV g' q') :: byA q' g'.b :: kn G :: L) w' → R (.returned (.tuple #[snpV sn.idx sn.term v l d, .bool dn, .int .i64 e])) w') :
    Calls Try.prog 26 #[.pointer (some ⟨gp, 0, none⟩), .slice p.1 p.2.1 p.2.2] w R :=
  AddV_spec hs hb hg h fun G w' q' v l d hG hr h' => by rw [ha] at hr h' ⊢; exact k G w' q' v l d hG hr h'
theorem ways1 {s : Sn.Snp} {v l d : Sl} {b1 : Nat} {e : Int} {K : Bool → World → Prop} {Kp : List PanicEntry → World → Prop} (hl : s.data.length = d.2.1) (h : St E (blkL b1 29 (snpL s.idx s.term v l d) :: L) w) (k : K (!decide (e = 0 ∧ s.data.length ≤ 3000)) w) : T_law07_SnapWays_1 ⟨b1, 0, none⟩ e w K Kp := by
  unfold T_law07_SnapWays_1
  refine ite_b (fun he => ?_) fun he => ⟨_, _, _, rd_fld h.at_blk rfl rfl, ?_⟩
  · have he : e ≠ 0 := by simpa using he
    rw [decide_eq_false (fun hh => he hh.1)] at k
    exact k
  · have he : e = 0 := by simpa using he
    rw [← hl]
    by_cases h3 : s.data.length ≤ 3000
    · rw [decide_eq_true ⟨he, h3⟩] at k
      rw [decide_eq_false (by omega)]; exact k
    · rw [decide_eq_false (fun hh => h3 hh.2)] at k
      rw [decide_eq_true (by omega)]; exact k
theorem ways4 {s t : Sn.Snp} {v l d v2 l2 d2 : Sl} {b1 b2 i n : Nat} {dn : Bool} {K : Bool → World → Prop} {Kp : List PanicEntry → World → Prop} (hh : snpH s) (r : snpR F v l d s) (r2 : snpR F v2 l2 d2 t) (hm : kn F ∈ L) (hl : o.2.1 = n) (hn : n ≤ 1000000) (hi : i < n) (hdn : dn = decide (i + 1 = n)) (hst : dn = true → t = s)
    (h1 : blkL b1 29 (snpL s.idx s.term v l d) ∈ L) (h2 : blkL b2 29 (snpL t.idx t.term v2 l2 d2) ∈ L) (h : St E L w) (k : ∀ w', St E L w' → K false w') : T_law07_SnapWays_4 ⟨b1, 0, none⟩ o.1 o.2.1 o.2.2 (i : Int) ⟨b2, 0, none⟩ dn 0 w K Kp := by
  unfold T_law07_SnapWays_4
  refine ite_b (fun he => by simp at he) fun _ => ?_
  rw [hl, wrap_id (by omega) (by omega)]
  have e : ((i : Int) == (n : Int) - 1) = decide (i + 1 = n) := by
    by_cases hc : i + 1 = n
    · rw [decide_eq_true hc]; simp; omega
    · rw [decide_eq_false hc]; simp; omega
  rw [e, hdn]
  refine ite_b (fun he => by simp at he) fun _ => ite_b (fun hd => ?_) fun _ => k w h
  have ht := hst (hdn.trans hd)
  subst ht
  have front : ∀ {A : Asrt}, A ∈ L → ∃ M, St E (A :: M) w := fun {A} hA => by
    obtain ⟨l1, l2, hl⟩ := List.append_of_mem hA
    exact ⟨l1 ++ l2, h.perm (by rw [hl]; exact List.perm_middle)⟩
  obtain ⟨M1, g1⟩ := front h1
  obtain ⟨M2, g2⟩ := front h2
  refine ⟨_, _, _, _, _, _, _, _, _, _, _, rd_snp g1, _, _, _, _, _, _, _, _, _, _, _, rd_snp g2, ?_⟩
  refine SSame_spec hm r r2 hh.1 hh.2 h fun w' h' => ⟨_, rfl, ?_⟩
  simpa using k w' h'
theorem ways5 {kk i : Nat} {dn : Bool} {K : Bool → World → Prop} {Kp : List PanicEntry → World → Prop} (hi : i ≤ 1000000) (k : K (dn || decide (kk = 0) || decide (kk = i + 1)) w) : T_law07_SnapWays_5 (kk : Int) (i : Int) dn w K Kp := by
  unfold T_law07_SnapWays_5
  refine ite_b (fun hd => ?_) fun hd => ?_
  · rw [hd, Bool.true_or, Bool.true_or] at k; exact k
  rw [hd, Bool.false_or] at k
  refine ite_b (fun h0 => ?_) fun h0 => ?_
  · have h0 : kk = 0 := by have : (kk : Int) = 0 := by simpa using h0
                           omega
    rw [decide_eq_true h0, Bool.true_or] at k; exact k
  · have h0 : kk ≠ 0 := by have : ¬ ((kk : Int) = 0) := by simpa using h0
                           omega
    rw [decide_eq_false h0, Bool.false_or] at k
    rw [succ_big (by unfold big; omega)]
    have e : ((kk : Int) == ((i + 1 : Nat) : Int)) = decide (kk = i + 1) := by
      by_cases hc : kk = i + 1
      · rw [decide_eq_true hc]; simp; omega
      · rw [decide_eq_false hc]; simp; omega
    rw [e]; exact k
theorem pGo_few (b : Cm.Bs) (sz : Nat) : ∀ (f x : Nat), (Sn.piecesGo b sz f x).length ≤ f
  | 0, _ => Nat.le_refl _
  | f + 1, x => by
    unfold Sn.piecesGo
    split
    · exact Nat.zero_le _
    · have := pGo_few b sz f (x + sz)
      rw [List.length_cons]; omega
theorem pieces_fewW (b : Cm.Bs) (sz : Nat) : (Sn.pieces b sz).length ≤ b.length + 1 := by
  have := pGo_few b sz b.length sz
  unfold Sn.pieces
  rw [List.length_cons]; omega
theorem piece_small (b : Cm.Bs) (x n : Nat) : (Sn.piece b x n).length ≤ b.length + 12 := by
  have := Sn.numLen b.length
  have := Sn.numLen x
  unfold Sn.piece
  rw [List.length_append, List.length_append, List.length_take, List.length_drop]
  omega
theorem pGo_small (b : Cm.Bs) (sz : Nat) : ∀ (f x : Nat), ∀ y ∈ Sn.piecesGo b sz f x, y.length ≤ b.length + 12
  | 0, _, _, h => by cases h
  | f + 1, x, y, h => by
    unfold Sn.piecesGo at h
    split at h
    · cases h
    · rcases List.mem_cons.1 h with rfl | h
      · exact piece_small b x sz
      · exact pGo_small b sz f _ y h
theorem pieces_small {b : Cm.Bs} (hb : b.length ≤ 32768) (sz : Nat) : ∀ y ∈ Sn.pieces b sz, y.length ≤ 40000 := fun y h => by
  unfold Sn.pieces at h
  rcases List.mem_cons.1 h with rfl | h
  · have := piece_small b 0 sz; omega
  · have := pGo_small b sz _ _ y h; omega
def gAt (b : Cm.Bs) (n m i : Nat) : Sn.Gt := if i = m then Sn.gt0 else Sn.gotTo b n i
theorem gAt_zero {b : Cm.Bs} {n m : Nat} (hm : 0 < m) : gAt b n m 0 = Sn.gt0 := by
  unfold gAt
  rw [if_neg (by omega)]
  simp [Sn.gotTo, Sn.gt0]
theorem gAt_len (b : Cm.Bs) (n m i : Nat) : (gAt b n m i).b.length ≤ b.length := by
  unfold gAt
  split
  · exact Nat.zero_le _
  · show (b.take _).length ≤ _
    rw [List.length_take]; omega
set_option maxHeartbeats 4000000 in
theorem ways_walk {s : Sn.Snp} {v l d : Sl} {size again : Int} (r : snpR F v l d s) (hh : snpH s) (h : St E (kn F :: L) w) (k : ∀ G w', Fz.le F G → St E (kn G :: L) w' → R (.returned (.bool true)) w') : Calls Try.prog 8 #[snpV s.idx s.term v l d, .int .i64 size, .int .i64 again] w R := by
  have hbig : big = 140737488355328 := rfl
  refine C_law07_SnapWays ?_
  unfold T_law07_SnapWays
  intro w7
  have h7 : St E (kn F :: blkL w.heap.size 29 (snpL s.idx s.term v l d) :: L) w7 := (h.alloc (.cells ⟨snpL s.idx s.term v l d⟩ 29)).f1
  clear_value w7
  generalize w.heap.size = b1 at *
  refine ⟨_, _, _, _, _, _, _, _, _, _, _, rd_snp h7.f1, ?_⟩
  refine SPut_spec (F := F) (by simp) r hh.1 hh.2 h7 fun w14 p1 h14 => ⟨_, _, _, _, rfl, ?_⟩
  refine ways1 r.data.len h14.f2 ?_
  refine ite_b (fun hc => ?_) fun hc => ?_
  · exact live_spec h14.f1 fun G w' hG h' => ⟨_, rfl, k G w' hG (h'.sel 3 [0] (by simp))⟩
  obtain ⟨he, h3⟩ : Sn.putE s = 0 ∧ s.data.length ≤ 3000 := by simpa using hc
  have hbl := Sn.body_len he
  have hml := Sn.memB_len hbl.2.2.1
  have hsm := right_small hbl.2.2.1
  have hpl : (Sn.putB s).length ≤ 32768 := by
    unfold Sn.putB
    rw [if_pos he, Sn.frame_len]
    have g1 := Sn.numLen s.idx; have g2 := Sn.numLen s.term; have g3 := Sn.numLen (Sn.memB s.mem).length; have g4 := Sn.numLen s.data.length
    unfold Sn.body
    simp only [List.length_append]
    omega
  obtain ⟨G, hG, h15, hs⟩ := St.srcB2 h14 (by omega)
  obtain ⟨n, hn, hn0, hn2⟩ : ∃ n : Nat, (IntKind.wrap .i64 ((1 : Int) + (IntKind.wrap .i64 (Int.tmod (IntKind.wrap .u64 size) 200)))) = (n : Int) ∧ 0 < n ∧ n ≤ 200 := by
    have h0 : 0 ≤ IntKind.wrap .u64 size := by
      unfold IntKind.wrap
      simp [IntKind.signed, IntKind.bits]
      omega
    rw [Int.tmod_eq_emod_of_nonneg h0, wrap_id (x := IntKind.wrap .u64 size % 200) (by omega) (by omega), wrap_id (by omega) (by omega)]
    exact ⟨(1 + IntKind.wrap .u64 size % 200).toNat, by omega, by omega, by omega⟩
  rw [hn]
  have eE : Sn.piecesE (Sn.putB s) (n : Int) = 0 := by unfold Sn.piecesE; rw [if_neg (by omega), if_neg (by omega)]
  have eR : piecesR (Sn.putB s) (n : Int) = Sn.pieces (Sn.putB s) n := by unfold piecesR; rw [if_pos eE, Int.toNat_natCast]
  refine Pieces_spec2 eR eE hs (by omega) h15 fun G2 w30 o qs hG2 hrows h30 => ⟨_, _, _, _, rfl, ?_⟩
  have hcount := h30.row_count
  have hrl := hrows.len
  have hpos : 0 < (Sn.pieces (Sn.putB s) n).length := (Sn.pieces_len hn0 0).2 (.inl rfl)
  have hfew := pieces_fewW (Sn.putB s) n
  have hpb : ∀ x ∈ Sn.pieces (Sn.putB s) n, x.length ≤ 40000 := pieces_small hpl n
  have step := fun (i : Nat) (hi : i < (Sn.pieces (Sn.putB s) n).length) => Sn.ways_step he hpl hn0 hi
  have again2 := fun (i k : Nat) (hi : i + 1 < (Sn.pieces (Sn.putB s) n).length) (hk : k < (Sn.pieces (Sn.putB s) n).length) => Sn.ways_again (b := Sn.putB s) hpl hn0 hi hk
  unfold T_law07_SnapWays_2
  refine ite_b (fun hz => by simp at hz) fun _ => ite_b (fun hz => ?_) fun _ => ?_
  · exfalso
    have : ((o.2.1 : Nat) : Int) = 0 := by simpa using hz
    omega
  refine NewGather_spec h30 fun w41 gp h41 => ⟨_, rfl, ?_⟩
  obtain ⟨u, hu⟩ : ∃ u : Nat, IntKind.wrap .u64 again = (u : Int) := by
    refine ⟨(IntKind.wrap .u64 again).toNat, ?_⟩
    have : 0 ≤ IntKind.wrap .u64 again := by
      unfold IntKind.wrap
      simp [IntKind.signed, IntKind.bits]
      omega
    omega
  have hdiv : IntKind.wrap .u64 ((o.2.1 : Nat) : Int) = (((Sn.pieces (Sn.putB s) n).length : Nat) : Int) := by
    rw [show o.2.1 = (Sn.pieces (Sn.putB s) n).length by omega]
    unfold IntKind.wrap
    simp [IntKind.signed, IntKind.bits]
    omega
  rw [hu, hdiv]
  refine runV_ok (run_rem _ _ _ (by omega) w41) ⟨_, rfl, ?_⟩
  have hk := Nat.mod_lt u hpos
  generalize u % (Sn.pieces (Sn.putB s) n).length = kk at *
  rw [wrap_id (x := (kk : Int)) (by omega) (by omega)]
  have hgl := gAt_len (Sn.putB s) n (Sn.pieces (Sn.putB s) n).length
  have hg0 := gAt_zero (b := Sn.putB s) (n := n) hpos
  generalize hbs : Sn.putB s = b at *
  generalize hps : Sn.pieces b n = ps at *
  obtain ⟨m, hm⟩ : ∃ m, ps.length = m := ⟨_, rfl⟩
  rw [hm] at hgl hg0 hk hpos hfew
  unfold T_law07_SnapWays_3
  intro X hX
  have hcm : o.2.1 = m := by omega
  refine up_to m (Q := fun i => ∀ (w : World) (G3 : Fz) (q : Sl), Fz.le G2 G3 → St E (blkL gp 107 (gtV (gAt b n m i) q) :: byA q (gAt b n m i).b :: kn G3 :: rowA o qs :: blkL b1 29 (snpL s.idx s.term v l d) :: L) w → X (i : Int) w) ?_ w41 G2 nilS (Fz.le_refl G2) (by rw [hg0]; exact h41.sel 5 [0, 1, 3, 2, 4] (by simp))
  intro i hi ih w G3 q hG3 h
  refine hX _ _ ?_
  unfold T_law07_SnapWays_3_body
  rw [hcm]
  have hGG := Fz.le_trans hG (Fz.le_trans hG2 hG3)
  refine ite_d (fun hlt => ?_) fun hlt => ?_
  · have him : i < m := by omega
    have rdrow : ∀ (j : Nat) (hj : j < m) {w : World} {M : List Asrt}, St E (rowA o qs :: M) w → ∃ ad, o.1 = some ad ∧ rd w (ad.add (j * 1)) (.slice (qs[j]'(by omega)).1 (qs[j]'(by omega)).2.1 (qs[j]'(by omega)).2.2) := fun j hj {w M} h =>
      one_at (f := fun q : Sl => Value.slice q.1 q.2.1 q.2.2) (fun _ => rfl) (h.rdS_own :) (by omega)
    have srow : ∀ (j : Nat) (hj : j < m), Src G2 (qs[j]'(by omega)) (ps[j]'(by omega)) := fun j hj => hrows.get (i := j) (List.getElem?_eq_getElem (by omega)) (List.getElem?_eq_getElem (by omega))
    obtain ⟨ad, hae, hrd⟩ := rdrow i him (h.f3)
    refine ⟨by omega, by omega, ad, hae, _, _, _, hrd, ?_⟩
    have sti := step i (by omega)
    have hgi : gAt b n m i = Sn.gotTo b n i := by unfold gAt; rw [if_neg (by omega)]
    have hpi := hpb (ps[i]'(by omega)) (List.getElem_mem _)
    have hgli := hgl i
    -- what the piece does
    have key : ∃ (g' : Sn.Gt) (sn : Sn.Snp) (dn : Bool), Sn.add (gAt b n m i) (ps[i]'(by omega)) = (g', sn, dn, 0) ∧ dn = decide (i + 1 = m) ∧ (dn = true → sn = s) ∧ g' = gAt b n m (i + 1) := by
      rw [hgi, sti]
      by_cases hlast : i + 1 = m
      · rw [if_pos (by omega)]
        exact ⟨_, _, _, rfl, by rw [decide_eq_true hlast], fun _ => rfl, by unfold gAt; rw [if_pos hlast]⟩
      · rw [if_neg (by omega)]
        exact ⟨_, _, _, rfl, by rw [decide_eq_false hlast], fun h => (by cases h), by unfold gAt; rw [if_neg hlast]⟩
    obtain ⟨g', sn, dn, ha, hdn, hsn, hg'⟩ := key
    refine AddX_spec ha ((srow i him).mono hG3) (by omega) (by omega) h fun G4 w54 q4 v4 l4 d4 hG4 r4 h54 => ⟨_, _, _, _, _, _, _, _, _, _, _, _, _, rfl, ?_⟩
    subst hg'
    intro w62
    have h62 : St E (blkL w54.heap.size 29 z5 :: blkL gp 107 (gtV (gAt b n m (i + 1)) q4) :: byA q4 (gAt b n m (i + 1)).b :: kn G4 :: rowA o qs :: blkL b1 29 (snpL s.idx s.term v l d) :: L) w62 := h54.alloc (.cells ⟨z5⟩ 29)
    clear_value w62
    generalize w54.heap.size = b2 at *
    refine ⟨rfl, ok_snp h62 rfl sn.idx sn.term v4 l4 d4, ?_⟩
    intro w63
    have h63 : St E (blkL b2 29 (snpL sn.idx sn.term v4 l4 d4) :: blkL gp 107 (gtV (gAt b n m (i + 1)) q4) :: byA q4 (gAt b n m (i + 1)).b :: kn G4 :: rowA o qs :: blkL b1 29 (snpL s.idx s.term v l d) :: L) w63 := h62.wr_snp rfl sn.idx sn.term v4 l4 d4
    clear_value w63
    have hG34 := Fz.le_trans hG3 hG4
    rw [← hcm]
    refine ways4 (F := G4) (n := m) (b1 := b1) (b2 := b2) hh (r.mono (Fz.le_trans hGG hG4)) r4 (by simp) hcm (by omega) him hdn hsn (by simp) (by simp) h63 fun w87 h87 => ?_
    refine ite_b (fun hb => by cases hb) fun _ => ?_
    refine ways5 (by omega) ?_
    have h88 : St E (blkL gp 107 (gtV (gAt b n m (i + 1)) q4) :: byA q4 (gAt b n m (i + 1)).b :: kn G4 :: rowA o qs :: blkL b1 29 (snpL s.idx s.term v l d) :: L) w87 := h87.drop
    refine ite_b (fun hb => ?_) fun hb => ?_
    · rw [succ_big (by omega)]
      exact ih him w87 G4 q4 hG34 h88
    rw [Bool.or_eq_false_iff, Bool.or_eq_false_iff] at hb
    have hnl : i + 1 ≠ m := by have := hb.1.1; rw [hdn] at this; exact of_decide_eq_false this
    have hk0 : kk ≠ 0 := of_decide_eq_false hb.1.2
    have hki : kk ≠ i + 1 := of_decide_eq_false hb.2
    refine GLen_spec h88 ⟨_, rfl, ?_⟩
    obtain ⟨ad2, hae2, hrd2⟩ := rdrow kk (by omega) (h88.f3)
    refine ⟨by omega, by omega, ad2, hae2, _, _, _, hrd2, ?_⟩
    have ag := again2 i kk (by omega) (by omega) hk0 hki
    have hg1 : gAt b n m (i + 1) = Sn.gotTo b n (i + 1) := by unfold gAt; rw [if_neg hnl]
    rw [← hg1] at ag
    have hpk := hpb (ps[kk]'(by omega)) (List.getElem_mem _)
    have hgli1 := hgl (i + 1)
    refine AddX_spec ag ((srow kk (by omega)).mono hG34) (by omega) (by omega) h88 fun G5 w102 q5 v5 l5 d5 hG5 r5 h102 => ⟨_, _, _, _, _, _, _, _, _, _, _, _, _, rfl, ?_⟩
    intro w110
    have h110 : St E (blkL w102.heap.size 29 z5 :: blkL gp 107 (gtV (gAt b n m (i + 1)) q5) :: byA q5 (gAt b n m (i + 1)).b :: kn G5 :: rowA o qs :: blkL b1 29 (snpL s.idx s.term v l d) :: L) w110 := h102.alloc (.cells ⟨z5⟩ 29)
    clear_value w110
    generalize w102.heap.size = b3 at *
    refine ⟨rfl, ok_snp h110 rfl 0 0 v5 l5 d5, ?_⟩
    intro w111
    have h111 : St E (blkL gp 107 (gtV (gAt b n m (i + 1)) q5) :: byA q5 (gAt b n m (i + 1)).b :: kn G5 :: rowA o qs :: blkL b1 29 (snpL s.idx s.term v l d) :: L) w111 := (h110.wr_snp rfl 0 0 v5 l5 d5).drop
    clear_value w111
    refine ite_b (fun hb => by cases hb) fun _ => ite_b (fun hb => by simp at hb) fun _ => ?_
    refine GLen_spec h111 ⟨_, rfl, ite_b (fun hb => by simp at hb) fun _ => ?_⟩
    rw [succ_big (by omega)]
    exact ih him w111 G5 q5 (Fz.le_trans hG34 hG5) h111
  · have him : i = m := by omega
    subst him
    have hge : gAt b n i i = Sn.gt0 := by unfold gAt; rw [if_pos rfl]
    rw [hge] at h
    refine live_spec (h.f2) fun G4 w121 hG4 h121 => ⟨_, rfl, ite_b (fun _ => ?_) fun hh => by cases hh⟩
    have h122 : St E (blkL gp 107 (gtV Sn.gt0 q) :: byA q Sn.gt0.b :: kn G4 :: rowA o qs :: blkL b1 29 (snpL s.idx s.term v l d) :: L) w121 := h121.b2
    refine GLen_spec h122 ⟨_, rfl, ?_⟩
    exact congB (k G4 w121 (Fz.le_trans hGG hG4) (h122.sel 5 [2] (by simp))) (by simp [Sn.gt0])
theorem ways_law {H : Type} {enc : TypeId × Value → H} {W : World} {cs : Array Value} {size again : Int} {d : DataW H} {ps : List MemPlace} (h : DataW.Trod enc Try.prog W 0 (fun _ => true) true 29 (.agg cs) d ps) :
    Calls Try.prog 8 #[.agg cs, .int .i64 size, .int .i64 again] W fun e w' => e = .returned (.bool true) ∧ RowKit.Below W.heap.size W w' := by
  obtain ⟨m, hm⟩ := h
  have hm : DataW.trod enc Try.prog W 0 (fun _ => true) true m 29 cs.toList = some (d, ps) := hm
  obtain ⟨s, v, l, dd, e, r, hh, _⟩ := open_snap hm
  have e2 : (.agg cs : Value) = snpV s.idx s.term v l dd := by unfold snpV; rw [← e]
  rw [e2]
  exact ways_walk r hh (St.start_kn W) fun G w' hG h' => ⟨rfl, h'.below_kn hG⟩
end
end Go.Vc
