/-
  What the functions' code comes to; printed by a program of this claim's own.
-/
import Derived.Test.YtcpmfjclkdjfmaaGreatProg
import Derived.KernelRfl
import Derived.Test.YtcpmfjclkdjfmaaGreatGi
namespace Go.Proofs.YtcpmfjclkdjfmaaGreat
open Go Go.Vc
set_option maxRecDepth 100000
set_option linter.unusedVariables false

/-! tollgate/tollgatelaw08.ConfExpects -/
def T_law08_ConfExpects_1 (version8 : Int) (ok9 : Bool) (w : World) (Kn : Bool → World → Prop) (Kp : List PanicEntry → World → Prop) : Prop :=
  if (!ok9) = true then (Kn true w) else (if (decide ((version8 : Int) < 0)) = true then (Kn true w) else (Kn (decide ((version8 : Int) ≥ 1099511627776)) w))

def T_law08_ConfExpects_1_outs : Exit → Option (List (Nat × Value)) := fun x => match x with | .normal => some [(27, .bool false)] | .panic _ => some [] | _ => none

def T_law08_ConfExpects_1_ks : Nat → Bool := ksOf [18, 19, 20, 21, 22, 23, 24, 25, 26, 27]

def H_law08_ConfExpects_1 : Env → World → QT → Prop := unitHook 80 T_law08_ConfExpects_1_ks [(1, .int .i64 0), (7, .bool false)] T_law08_ConfExpects_1_outs fun l w C => match l with | [v0, v1] => T_law08_ConfExpects_1 (pInt v0) (pBool v1) w (fun b11 w => C .normal [.bool b11] w) (fun ch w => C (.panic ch) [] w) | _ => False

theorem T_law08_ConfExpects_1_hl : allP (hokL Tryz.prog (hookAt []) (at_ (bodyOf Tryz.f6) [1, 1, 0, 0]) 28) = (True) := by kernel_rfl
theorem T_law08_ConfExpects_1_hok : HOk Tryz.prog (hookAt []) (at_ (bodyOf Tryz.f6) [1, 1, 0, 0]) 28 := HOk_of _ _ (by rw [T_law08_ConfExpects_1_hl]; exact trivial)

theorem T_law08_ConfExpects_1_eq (C : Conts) (version8 : Int) (ok9 : Bool) (w : World) : vcCode Tryz.prog (hookAt []) (at_ (bodyOf Tryz.f6) [1, 1, 0, 0]) 28 ⟨[(1, .int .i64 version8), (7, .bool ok9)], 80, []⟩ w (unitQ T_law08_ConfExpects_1_outs C) = T_law08_ConfExpects_1 version8 ok9 w (fun b12 w => C .normal [.bool b12] w) (fun ch w => C (.panic ch) [] w) := by kernel_rfl

theorem T_law08_ConfExpects_1_ok : UnitOk Tryz.prog H_law08_ConfExpects_1 (at_ (bodyOf Tryz.f6) [1, 1, 0, 0]) 28 := unit_ok (H := (hookAt [])) (by kernel_rfl) T_law08_ConfExpects_1_hok fun l w C hk => by
    obtain ⟨v0, l_v0, rfl, k_v0, hk_v0⟩ := Kinds.cons_ hk
    obtain ⟨version8, rfl⟩ := kind_int k_v0
    obtain ⟨v1, l_v1, rfl, k_v1, hk_v1⟩ := Kinds.cons_ hk_v0
    obtain ⟨ok9, rfl⟩ := kind_bool k_v1
    obtain rfl := Kinds.nil_ hk_v1
    exact T_law08_ConfExpects_1_eq C version8 ok9 w

def T_law08_ConfExpects_2 (ok15 : Bool) (w : World) (Kn : Bool → World → Prop) (Kp : List PanicEntry → World → Prop) : Prop :=
  if ok15 = true then (Calls Tryz.prog 15 #[] w (ret (fun r16 w17 => ∃ b18 : Bool, r16 = .bool b18 ∧ Kn b18 w17) Kp)) else (Kn false w)

def T_law08_ConfExpects_2_outs : Exit → Option (List (Nat × Value)) := fun x => match x with | .normal => some [(4, .bool false)] | .panic _ => some [] | _ => none

def T_law08_ConfExpects_2_ks : Nat → Bool := ksOf [4, 28, 29, 30, 31]

def H_law08_ConfExpects_2 : Env → World → QT → Prop := unitHook 80 T_law08_ConfExpects_2_ks [(7, .bool false)] T_law08_ConfExpects_2_outs fun l w C => match l with | [v0] => T_law08_ConfExpects_2 (pBool v0) w (fun b20 w => C .normal [.bool b20] w) (fun ch w => C (.panic ch) [] w) | _ => False

theorem T_law08_ConfExpects_2_hl : allP (hokL Tryz.prog (hookAt []) (at_ (bodyOf Tryz.f6) [1, 1, 0, 1, 0, 0]) 116) = (True) := by kernel_rfl
theorem T_law08_ConfExpects_2_hok : HOk Tryz.prog (hookAt []) (at_ (bodyOf Tryz.f6) [1, 1, 0, 1, 0, 0]) 116 := HOk_of _ _ (by rw [T_law08_ConfExpects_2_hl]; exact trivial)

theorem T_law08_ConfExpects_2_eq (C : Conts) (ok15 : Bool) (w : World) : vcCode Tryz.prog (hookAt []) (at_ (bodyOf Tryz.f6) [1, 1, 0, 1, 0, 0]) 116 ⟨[(7, .bool ok15)], 80, []⟩ w (unitQ T_law08_ConfExpects_2_outs C) = T_law08_ConfExpects_2 ok15 w (fun b21 w => C .normal [.bool b21] w) (fun ch w => C (.panic ch) [] w) := by kernel_rfl

theorem T_law08_ConfExpects_2_ok : UnitOk Tryz.prog H_law08_ConfExpects_2 (at_ (bodyOf Tryz.f6) [1, 1, 0, 1, 0, 0]) 116 := unit_ok (H := (hookAt [])) (by kernel_rfl) T_law08_ConfExpects_2_hok fun l w C hk => by
    obtain ⟨v0, l_v0, rfl, k_v0, hk_v0⟩ := Kinds.cons_ hk
    obtain ⟨ok15, rfl⟩ := kind_bool k_v0
    obtain rfl := Kinds.nil_ hk_v0
    exact T_law08_ConfExpects_2_eq C ok15 w

def T_law08_ConfExpects_3 (s44 : Option Addr) (was45 : Addr) (w : World) (Kn : Bool → World → Prop) (Kp : List PanicEntry → World → Prop) : Prop :=
  ∃ s46a : Option Addr, ∃ s46l : Nat, ∃ s46c : Nat, rd w (was45.add 2) (.slice s46a s46l s46c) ∧ if (decide (((s46l : Nat) : Int) ≥ 32)) = true then (Kn true w) else (Calls Tryz.prog 25 #[.pointer s44] w (ret (fun r47 w48 => ∃ s49a : Option Addr, ∃ s49l : Nat, ∃ s49c : Nat, r47 = .slice s49a s49l s49c ∧ Kn (decide (((s49l : Nat) : Int) > 11900)) w48) Kp))

def T_law08_ConfExpects_3_outs : Exit → Option (List (Nat × Value)) := fun x => match x with | .normal => some [(10, .bool false)] | .panic _ => some [] | _ => none

def T_law08_ConfExpects_3_ks : Nat → Bool := ksOf [10, 37, 38, 39, 40, 41, 42, 43, 44, 45, 46]

def H_law08_ConfExpects_3 : Env → World → QT → Prop := unitHook 80 T_law08_ConfExpects_3_ks [(5, .pointer none), (8, .pointer (some ⟨0, 0, none⟩))] T_law08_ConfExpects_3_outs fun l w C => match l with | [v0, v1] => T_law08_ConfExpects_3 (pPtr v0) (pAddr v1) w (fun full51 w => C .normal [.bool full51] w) (fun ch w => C (.panic ch) [] w) | _ => False

theorem T_law08_ConfExpects_3_hl : allP (hokL Tryz.prog (hookAt []) (at_ (bodyOf Tryz.f6) [1, 1, 1, 1, 1, 1, 0]) 254) = (True) := by kernel_rfl
theorem T_law08_ConfExpects_3_hok : HOk Tryz.prog (hookAt []) (at_ (bodyOf Tryz.f6) [1, 1, 1, 1, 1, 1, 0]) 254 := HOk_of _ _ (by rw [T_law08_ConfExpects_3_hl]; exact trivial)

theorem T_law08_ConfExpects_3_eq (C : Conts) (s44 : Option Addr) (was45 : Addr) (w : World) : vcCode Tryz.prog (hookAt []) (at_ (bodyOf Tryz.f6) [1, 1, 1, 1, 1, 1, 0]) 254 ⟨[(5, .pointer s44), (8, .pointer (some was45))], 80, []⟩ w (unitQ T_law08_ConfExpects_3_outs C) = T_law08_ConfExpects_3 s44 was45 w (fun full52 w => C .normal [.bool full52] w) (fun ch w => C (.panic ch) [] w) := by kernel_rfl

theorem T_law08_ConfExpects_3_ok : UnitOk Tryz.prog H_law08_ConfExpects_3 (at_ (bodyOf Tryz.f6) [1, 1, 1, 1, 1, 1, 0]) 254 := unit_ok (H := (hookAt [])) (by kernel_rfl) T_law08_ConfExpects_3_hok fun l w C hk => by
    obtain ⟨v0, l_v0, rfl, k_v0, hk_v0⟩ := Kinds.cons_ hk
    obtain ⟨s44, rfl⟩ := kind_pointer k_v0
    obtain ⟨v1, l_v1, rfl, k_v1, hk_v1⟩ := Kinds.cons_ hk_v0
    obtain ⟨was45, rfl⟩ := kind_addr k_v1
    obtain rfl := Kinds.nil_ hk_v1
    exact T_law08_ConfExpects_3_eq C s44 was45 w

def T_law08_ConfExpects_4 (s70 : Option Addr) (was71 : Addr) (r72 : Addr) (w : World) (Kn : Bool → World → Prop) (Kp : List PanicEntry → World → Prop) : Prop :=
  let w73 : World := w.drew
  Calls Tryz.prog 15 #[] w73 (ret (fun r74 w75 => ∃ b76 : Bool, r74 = .bool b76 ∧ (True) ∧ if b76 = true then (∃ x77 : Int, ∃ x78 : Int, rd w75 r72 (.agg #[.int .i64 x77, .int .i64 x78]) ∧ ∃ x79 : Int, rd w75 was71 (.int .i64 x79) ∧ runV Tryz.prog (do eqGuard .eql 45 (.tmp 56) (.tmp 59) (.agg #[.int .i64 x77, .int .i64 x78]) (.agg #[.int .i64 12, .int .i64 x79]); binOp .eql 45 (.agg #[.int .i64 x77, .int .i64 x78]) (.agg #[.int .i64 12, .int .i64 x79])) w75 (fun r80 w81 => ∃ b82 : Bool, r80 = .bool b82 ∧ (True) ∧ if b82 = true then (∃ x83 : Int, ∃ s84a : Option Addr, ∃ s84l : Nat, ∃ s84c : Nat, ∃ s85a : Option Addr, ∃ s85l : Nat, ∃ s85c : Nat, rd w81 was71 (.agg #[.int .i64 x83, .slice s84a s84l s84c, .slice s85a s85l s85c]) ∧ Calls Tryz.prog 14 #[.pointer s70] w81 (ret (fun r86 w87 => ∃ x88 : Int, ∃ s89a : Option Addr, ∃ s89l : Nat, ∃ s89c : Nat, ∃ s90a : Option Addr, ∃ s90l : Nat, ∃ s90c : Nat, r86 = .agg #[.int .i64 x88, .slice s89a s89l s89c, .slice s90a s90l s90c] ∧ (rd w87 was71 (.agg #[.int .i64 x83, .slice s84a s84l s84c, .slice s85a s85l s85c]) ∧ True) ∧ Calls Tryz.prog 20 #[.agg #[.int .i64 x88, .slice s89a s89l s89c, .slice s90a s90l s90c], .agg #[.int .i64 x83, .slice s84a s84l s84c, .slice s85a s85l s85c]] w87 (ret (fun r91 w92 => ∃ b93 : Bool, r91 = .bool b93 ∧ (True) ∧ Kn b93 w92) Kp)) Kp)) else ((True) ∧ (True) ∧ Kn false w81)) Kp) else ((True) ∧ (True) ∧ (True) ∧ Kn false w75)) Kp)

def T_law08_ConfExpects_4_outs : Exit → Option (List (Nat × Value)) := fun x => match x with | .normal => some [(4, .bool false)] | .panic _ => some [] | _ => none

def T_law08_ConfExpects_4_ks : Nat → Bool := ksOf [4, 54, 55, 56, 57, 58, 59, 60, 61, 62, 63, 64, 65, 66, 67]

def H_law08_ConfExpects_4 : Env → World → QT → Prop := unitHook 80 T_law08_ConfExpects_4_ks [(5, .pointer none), (8, .pointer (some ⟨0, 0, none⟩)), (11, .pointer (some ⟨0, 0, none⟩))] T_law08_ConfExpects_4_outs fun l w C => match l with | [v0, v1, v2] => T_law08_ConfExpects_4 (pPtr v0) (pAddr v1) (pAddr v2) w (fun b95 w => C .normal [.bool b95] w) (fun ch w => C (.panic ch) [] w) | _ => False

theorem T_law08_ConfExpects_4_hl : allP (hokL Tryz.prog (hookAt []) (at_ (bodyOf Tryz.f6) [1, 1, 1, 1, 1, 1, 1, 1, 0, 1, 0, 0]) 8180) = (True) := by kernel_rfl
theorem T_law08_ConfExpects_4_hok : HOk Tryz.prog (hookAt []) (at_ (bodyOf Tryz.f6) [1, 1, 1, 1, 1, 1, 1, 1, 0, 1, 0, 0]) 8180 := HOk_of _ _ (by rw [T_law08_ConfExpects_4_hl]; exact trivial)

theorem T_law08_ConfExpects_4_eq (C : Conts) (s70 : Option Addr) (was71 : Addr) (r72 : Addr) (w : World) : vcCode Tryz.prog (hookAt []) (at_ (bodyOf Tryz.f6) [1, 1, 1, 1, 1, 1, 1, 1, 0, 1, 0, 0]) 8180 ⟨[(5, .pointer s70), (8, .pointer (some was71)), (11, .pointer (some r72))], 80, []⟩ w (unitQ T_law08_ConfExpects_4_outs C) = T_law08_ConfExpects_4 s70 was71 r72 w (fun b96 w => C .normal [.bool b96] w) (fun ch w => C (.panic ch) [] w) := by kernel_rfl

theorem T_law08_ConfExpects_4_ok : UnitOk Tryz.prog H_law08_ConfExpects_4 (at_ (bodyOf Tryz.f6) [1, 1, 1, 1, 1, 1, 1, 1, 0, 1, 0, 0]) 8180 := unit_ok (H := (hookAt [])) (by kernel_rfl) T_law08_ConfExpects_4_hok fun l w C hk => by
    obtain ⟨v0, l_v0, rfl, k_v0, hk_v0⟩ := Kinds.cons_ hk
    obtain ⟨s70, rfl⟩ := kind_pointer k_v0
    obtain ⟨v1, l_v1, rfl, k_v1, hk_v1⟩ := Kinds.cons_ hk_v0
    obtain ⟨was71, rfl⟩ := kind_addr k_v1
    obtain ⟨v2, l_v2, rfl, k_v2, hk_v2⟩ := Kinds.cons_ hk_v1
    obtain ⟨r72, rfl⟩ := kind_addr k_v2
    obtain rfl := Kinds.nil_ hk_v2
    exact T_law08_ConfExpects_4_eq C s70 was71 r72 w

def T_law08_ConfExpects (l1a : Option Addr) (l1l : Nat) (l1c : Nat) (version2 : Int) (w : World) (R : Ending → World → Prop) : Prop :=
  Calls Tryz.prog 13 #[.slice l1a l1l l1c] w (ret (fun r3 w4 => ∃ p5 : Option Addr, ∃ p6 : Option Addr, ∃ b7 : Bool, r3 = .tuple #[.pointer p5, .pointer p6, .bool b7] ∧ T_law08_ConfExpects_1 version2 b7 w4 (fun b13 w14 => if b13 = true then (T_law08_ConfExpects_2 b7 w14 (fun b22 w23 => R (.returned (.bool b22)) w23) (pan R)) else (Calls Tryz.prog 14 #[.pointer p5] w14 (ret (fun r24 w25 => ∃ x26 : Int, ∃ s27a : Option Addr, ∃ s27l : Nat, ∃ s27c : Nat, ∃ s28a : Option Addr, ∃ s28l : Nat, ∃ s28c : Nat, r24 = .agg #[.int .i64 x26, .slice s27a s27l s27c, .slice s28a s28l s28c] ∧ let w29 : World := w25.alloc (.cells #[.int .i64 0, .slice none 0 0, .slice none 0 0] 30)
  (.agg #[.int .i64 x26, .slice s27a s27l s27c, .slice s28a s28l s28c] : Value).cells.size = 3 ∧ wrOk w29 (⟨w25.heap.size, 0, none⟩ : Addr) (.agg #[.int .i64 x26, .slice s27a s27l s27c, .slice s28a s28l s28c]) ∧ let w30 : World := wr w29 (⟨w25.heap.size, 0, none⟩ : Addr) (.agg #[.int .i64 x26, .slice s27a s27l s27c, .slice s28a s28l s28c])
  Calls Tryz.prog 18 #[.string (ByteArray.mk #[122, 122])] w30 (ret (fun r31 w32 => ∃ x33 : Int, ∃ x34 : Int, ∃ x35 : Int, ∃ x36 : Int, ∃ s37 : ByteArray, ∃ s38 : ByteArray, ∃ s39 : ByteArray, ∃ s40a : Option Addr, ∃ s40l : Nat, ∃ s40c : Nat, r31 = .agg #[.int .i64 x33, .int .i64 x34, .int .i64 x35, .int .i64 x36, .string s37, .string s38, .string s39, .slice s40a s40l s40c] ∧ let w41 : World := w32.alloc (.cells #[.int .i64 0, .int .i64 0, .int .i64 0, .int .i64 0, .string (ByteArray.mk #[]), .string (ByteArray.mk #[]), .string (ByteArray.mk #[]), .slice none 0 0] 42)
  (.agg #[.int .i64 x33, .int .i64 x34, .int .i64 x35, .int .i64 x36, .string s37, .string s38, .string s39, .slice s40a s40l s40c] : Value).cells.size = 8 ∧ wrOk w41 (⟨w32.heap.size, 0, none⟩ : Addr) (.agg #[.int .i64 x33, .int .i64 x34, .int .i64 x35, .int .i64 x36, .string s37, .string s38, .string s39, .slice s40a s40l s40c]) ∧ let w42 : World := wr w41 (⟨w32.heap.size, 0, none⟩ : Addr) (.agg #[.int .i64 x33, .int .i64 x34, .int .i64 x35, .int .i64 x36, .string s37, .string s38, .string s39, .slice s40a s40l s40c])
  (.int .i64 version2 : Value).cells.size = 1 ∧ wrOk w42 ((⟨w32.heap.size, 0, none⟩ : Addr).add 3) (.int .i64 version2) ∧ let w43 : World := wr w42 ((⟨w32.heap.size, 0, none⟩ : Addr).add 3) (.int .i64 version2)
  T_law08_ConfExpects_3 p5 (⟨w25.heap.size, 0, none⟩ : Addr) w43 (fun full53 w54 => ∃ x55 : Int, ∃ x56 : Int, ∃ x57 : Int, ∃ x58 : Int, ∃ s59 : ByteArray, ∃ s60 : ByteArray, ∃ s61 : ByteArray, ∃ s62a : Option Addr, ∃ s62l : Nat, ∃ s62c : Nat, rd w54 (⟨w32.heap.size, 0, none⟩ : Addr) (.agg #[.int .i64 x55, .int .i64 x56, .int .i64 x57, .int .i64 x58, .string s59, .string s60, .string s61, .slice s62a s62l s62c]) ∧ Calls Tryz.prog 17 #[.pointer p5, .agg #[.int .i64 x55, .int .i64 x56, .int .i64 x57, .int .i64 x58, .string s59, .string s60, .string s61, .slice s62a s62l s62c]] w54 (ret (fun r63 w64 => ∃ x65 : Int, ∃ x66 : Int, r63 = .agg #[.int .i64 x65, .int .i64 x66] ∧ let w67 : World := w64.alloc (.cells #[.int .i64 0, .int .i64 0] 45)
  (.agg #[.int .i64 x65, .int .i64 x66] : Value).cells.size = 2 ∧ wrOk w67 (⟨w64.heap.size, 0, none⟩ : Addr) (.agg #[.int .i64 x65, .int .i64 x66]) ∧ let w68 : World := wr w67 (⟨w64.heap.size, 0, none⟩ : Addr) (.agg #[.int .i64 x65, .int .i64 x66])
  ∃ x69 : Int, rd w68 (⟨w25.heap.size, 0, none⟩ : Addr) (.int .i64 x69) ∧ if ((version2 : Int) != x69) = true then (T_law08_ConfExpects_4 p5 (⟨w25.heap.size, 0, none⟩ : Addr) (⟨w64.heap.size, 0, none⟩ : Addr) w68 (fun b97 w98 => R (.returned (.bool b97)) w98) (pan R)) else (Calls Tryz.prog 15 #[] w68 (ret (fun r99 w100 => ∃ b101 : Bool, r99 = .bool b101 ∧ if b101 = true then (if full53 = true then (R (.returned (.bool true)) w100) else (∃ x102 : Int, ∃ x103 : Int, rd w100 (⟨w64.heap.size, 0, none⟩ : Addr) (.agg #[.int .i64 x102, .int .i64 x103]) ∧ ∃ x104 : Int, rd w100 (⟨w25.heap.size, 0, none⟩ : Addr) (.int .i64 x104) ∧ runV Tryz.prog (do eqGuard .eql 45 (.tmp 72) (.tmp 76) (.agg #[.int .i64 x102, .int .i64 x103]) (.agg #[.int .i64 0, .int .i64 (IntKind.wrap .i64 ((x104 : Int) + 1))]); binOp .eql 45 (.agg #[.int .i64 x102, .int .i64 x103]) (.agg #[.int .i64 0, .int .i64 (IntKind.wrap .i64 ((x104 : Int) + 1))])) w100 (fun r105 w106 => ∃ b107 : Bool, r105 = .bool b107 ∧ R (.returned (.bool b107)) w106) (pan R))) else (R (.returned (.bool false)) w100)) (pan R)))) (pan R))) (pan R)) (pan R))) (pan R)))) (pan R)) (pan R))

theorem T_law08_ConfExpects_hl : allP (hokL Tryz.prog (hookAt [(28, H_law08_ConfExpects_1), (116, H_law08_ConfExpects_2), (254, H_law08_ConfExpects_3), (8180, H_law08_ConfExpects_4)]) (bodyOf Tryz.f6) 1) = (UnitOk Tryz.prog H_law08_ConfExpects_1 (at_ (bodyOf Tryz.f6) [1, 1, 0, 0]) 28 ∧ UnitOk Tryz.prog H_law08_ConfExpects_2 (at_ (bodyOf Tryz.f6) [1, 1, 0, 1, 0, 0]) 116 ∧ UnitOk Tryz.prog H_law08_ConfExpects_3 (at_ (bodyOf Tryz.f6) [1, 1, 1, 1, 1, 1, 0]) 254 ∧ UnitOk Tryz.prog H_law08_ConfExpects_4 (at_ (bodyOf Tryz.f6) [1, 1, 1, 1, 1, 1, 1, 1, 0, 1, 0, 0]) 8180 ∧ True) := by kernel_rfl

theorem T_law08_ConfExpects_eq (l1a : Option Addr) (l1l : Nat) (l1c : Nat) (version2 : Int) (w : World) (R : Ending → World → Prop) : vcCode Tryz.prog (hookAt [(28, H_law08_ConfExpects_1), (116, H_law08_ConfExpects_2), (254, H_law08_ConfExpects_3), (8180, H_law08_ConfExpects_4)]) (bodyOf Tryz.f6) 1 ⟨argEnv [.slice l1a l1l l1c, .int .i64 version2] 0, Tryz.f6.ntmps, []⟩ w (finQ Tryz.prog Tryz.f6.results.toList R) = T_law08_ConfExpects l1a l1l l1c version2 w R := by kernel_rfl

theorem T_law08_ConfExpects_b : Tryz.f6.body = some (bodyOf Tryz.f6) := by kernel_rfl
theorem T_law08_ConfExpects_s : (quietSel (bodyOf Tryz.f6) && Nat.ble 2 Tryz.f6.ntmps) = true := by kernel_rfl

theorem C_law08_ConfExpects {l1a : Option Addr} {l1l : Nat} {l1c : Nat} {version2 : Int} {w : World} {R : Ending → World → Prop} (h : T_law08_ConfExpects l1a l1l l1c version2 w R) : Calls Tryz.prog 6 #[.slice l1a l1l l1c, .int .i64 version2] w R :=
  calls_of_text (args := [.slice l1a l1l l1c, .int .i64 version2]) mixed Tryz.func6 T_law08_ConfExpects_b T_law08_ConfExpects_s (HOk_of _ _ (by rw [T_law08_ConfExpects_hl]; exact ⟨T_law08_ConfExpects_1_ok, T_law08_ConfExpects_2_ok, T_law08_ConfExpects_3_ok, T_law08_ConfExpects_4_ok, trivial⟩)) (by rw [T_law08_ConfExpects_eq]; exact h)

end Go.Proofs.YtcpmfjclkdjfmaaGreat
