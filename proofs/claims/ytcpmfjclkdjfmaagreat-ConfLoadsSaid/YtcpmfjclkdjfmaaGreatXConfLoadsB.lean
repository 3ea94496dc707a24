/-
  Texts of this claim's own, laid into one: Ga, Gb.
-/
import Derived.Test.YtcpmfjclkdjfmaaGreatProg
import Derived.KernelRfl
import Derived.Test.YtcpmfjclkdjfmaaGreatXConfLoadsA
set_option linter.all false
/-
  What the functions' code comes to; printed by a program of this claim's own.
-/
namespace Go.Proofs.YtcpmfjclkdjfmaaGreat
open Go Go.Vc
set_option maxRecDepth 100000
set_option linter.unusedVariables false
theorem mixed : Tryz.prog.follows .mixedOrders = true := by kernel_rfl

/-! tollgate/tollgatelaw08.short -/
/-! tollgate/tollgatelaw08.pool -/
def T_law08_pool (name1 : ByteArray) (w : World) (R : Ending → World → Prop) : Prop :=
  let w2 : World := w.alloc (.cells #[.int .i64 0, .int .i64 0, .int .i64 0, .int .i64 0, .string (ByteArray.mk #[]), .string (ByteArray.mk #[]), .string (ByteArray.mk #[]), .slice none 0 0] 42)
  let w3 : World := w2.alloc (.cells #[.string (ByteArray.mk #[116]), .float .f64 4607182418800017408] 64)
  (.agg #[.int .i64 1, .int .i64 0, .int .i64 0, .int .i64 (-1), .string (ByteArray.mk #[]), .string (ByteArray.mk #[]), .string name1, .slice (some (⟨w2.heap.size, 0, none⟩ : Addr)) 1 1] : Value).cells.size = 8 ∧ wrOk w3 (⟨w.heap.size, 0, none⟩ : Addr) (.agg #[.int .i64 1, .int .i64 0, .int .i64 0, .int .i64 (-1), .string (ByteArray.mk #[]), .string (ByteArray.mk #[]), .string name1, .slice (some (⟨w2.heap.size, 0, none⟩ : Addr)) 1 1]) ∧ let w4 : World := wr w3 (⟨w.heap.size, 0, none⟩ : Addr) (.agg #[.int .i64 1, .int .i64 0, .int .i64 0, .int .i64 (-1), .string (ByteArray.mk #[]), .string (ByteArray.mk #[]), .string name1, .slice (some (⟨w2.heap.size, 0, none⟩ : Addr)) 1 1])
  ∃ x5 : Int, ∃ x6 : Int, ∃ x7 : Int, ∃ x8 : Int, ∃ s9 : ByteArray, ∃ s10 : ByteArray, ∃ s11 : ByteArray, ∃ s12a : Option Addr, ∃ s12l : Nat, ∃ s12c : Nat, rd w4 (⟨w.heap.size, 0, none⟩ : Addr) (.agg #[.int .i64 x5, .int .i64 x6, .int .i64 x7, .int .i64 x8, .string s9, .string s10, .string s11, .slice s12a s12l s12c]) ∧ R (.returned (.agg #[.int .i64 x5, .int .i64 x6, .int .i64 x7, .int .i64 x8, .string s9, .string s10, .string s11, .slice s12a s12l s12c])) w4

theorem T_law08_pool_hl : allP (hokL Tryz.prog (hookAt []) (bodyOf Tryz.f18) 1) = (True) := by kernel_rfl

theorem T_law08_pool_eq (name1 : ByteArray) (w : World) (R : Ending → World → Prop) : vcCode Tryz.prog (hookAt []) (bodyOf Tryz.f18) 1 ⟨argEnv [.string name1] 0, Tryz.f18.ntmps, []⟩ w (finQ Tryz.prog Tryz.f18.results.toList R) = T_law08_pool name1 w R := by kernel_rfl

theorem T_law08_pool_b : Tryz.f18.body = some (bodyOf Tryz.f18) := by kernel_rfl
theorem T_law08_pool_s : (quietSel (bodyOf Tryz.f18) && Nat.ble 1 Tryz.f18.ntmps) = true := by kernel_rfl

theorem C_law08_pool {name1 : ByteArray} {w : World} {R : Ending → World → Prop} (h : T_law08_pool name1 w R) : Calls Tryz.prog 18 #[.string name1] w R :=
  calls_of_text (args := [.string name1]) mixed Tryz.func18 T_law08_pool_b T_law08_pool_s (HOk_of _ _ (by rw [T_law08_pool_hl]; exact trivial)) (by rw [T_law08_pool_eq]; exact h)

/-! tollgate/tollgatelaw08.route -/
def T_law08_route (host1 : ByteArray) (prefix2 : ByteArray) (to3 : ByteArray) (w : World) (R : Ending → World → Prop) : Prop :=
  let w4 : World := w.alloc (.cells #[.int .i64 0, .int .i64 0, .int .i64 0, .int .i64 0, .string (ByteArray.mk #[]), .string (ByteArray.mk #[]), .string (ByteArray.mk #[]), .slice none 0 0] 42)
  (.agg #[.int .i64 3, .int .i64 0, .int .i64 0, .int .i64 (-1), .string host1, .string prefix2, .string to3, .slice none 0 0] : Value).cells.size = 8 ∧ wrOk w4 (⟨w.heap.size, 0, none⟩ : Addr) (.agg #[.int .i64 3, .int .i64 0, .int .i64 0, .int .i64 (-1), .string host1, .string prefix2, .string to3, .slice none 0 0]) ∧ let w5 : World := wr w4 (⟨w.heap.size, 0, none⟩ : Addr) (.agg #[.int .i64 3, .int .i64 0, .int .i64 0, .int .i64 (-1), .string host1, .string prefix2, .string to3, .slice none 0 0])
  ∃ x6 : Int, ∃ x7 : Int, ∃ x8 : Int, ∃ x9 : Int, ∃ s10 : ByteArray, ∃ s11 : ByteArray, ∃ s12 : ByteArray, ∃ s13a : Option Addr, ∃ s13l : Nat, ∃ s13c : Nat, rd w5 (⟨w.heap.size, 0, none⟩ : Addr) (.agg #[.int .i64 x6, .int .i64 x7, .int .i64 x8, .int .i64 x9, .string s10, .string s11, .string s12, .slice s13a s13l s13c]) ∧ R (.returned (.agg #[.int .i64 x6, .int .i64 x7, .int .i64 x8, .int .i64 x9, .string s10, .string s11, .string s12, .slice s13a s13l s13c])) w5

theorem T_law08_route_hl : allP (hokL Tryz.prog (hookAt []) (bodyOf Tryz.f19) 1) = (True) := by kernel_rfl

theorem T_law08_route_eq (host1 : ByteArray) (prefix2 : ByteArray) (to3 : ByteArray) (w : World) (R : Ending → World → Prop) : vcCode Tryz.prog (hookAt []) (bodyOf Tryz.f19) 1 ⟨argEnv [.string host1, .string prefix2, .string to3] 0, Tryz.f19.ntmps, []⟩ w (finQ Tryz.prog Tryz.f19.results.toList R) = T_law08_route host1 prefix2 to3 w R := by kernel_rfl

theorem T_law08_route_b : Tryz.f19.body = some (bodyOf Tryz.f19) := by kernel_rfl
theorem T_law08_route_s : (quietSel (bodyOf Tryz.f19) && Nat.ble 3 Tryz.f19.ntmps) = true := by kernel_rfl

theorem C_law08_route {host1 : ByteArray} {prefix2 : ByteArray} {to3 : ByteArray} {w : World} {R : Ending → World → Prop} (h : T_law08_route host1 prefix2 to3 w R) : Calls Tryz.prog 19 #[.string host1, .string prefix2, .string to3] w R :=
  calls_of_text (args := [.string host1, .string prefix2, .string to3]) mixed Tryz.func19 T_law08_route_b T_law08_route_s (HOk_of _ _ (by rw [T_law08_route_hl]; exact trivial)) (by rw [T_law08_route_eq]; exact h)

/-! tollgate/tollgateref08.SameConfig -/
def T_ref08_SameConfig_1 (a9 : Addr) (b10 : Addr) (w : World) (Kn : Bool → World → Prop) (Kp : List PanicEntry → World → Prop) : Prop :=
  ∃ x11 : Int, rd w a9 (.int .i64 x11) ∧ ∃ x12 : Int, rd w b10 (.int .i64 x12) ∧ if ((x11 : Int) != x12) = true then (Kn true w) else (∃ s13a : Option Addr, ∃ s13l : Nat, ∃ s13c : Nat, rd w (a9.add 2) (.slice s13a s13l s13c) ∧ ∃ s14a : Option Addr, ∃ s14l : Nat, ∃ s14c : Nat, rd w (b10.add 2) (.slice s14a s14l s14c) ∧ if (((s13l : Nat) : Int) != ((s14l : Nat) : Int)) = true then (Kn true w) else (∃ s15a : Option Addr, ∃ s15l : Nat, ∃ s15c : Nat, rd w (a9.add 1) (.slice s15a s15l s15c) ∧ ∃ s16a : Option Addr, ∃ s16l : Nat, ∃ s16c : Nat, rd w (b10.add 1) (.slice s16a s16l s16c) ∧ Kn (((s15l : Nat) : Int) != ((s16l : Nat) : Int)) w))

def T_ref08_SameConfig_1_outs : Exit → Option (List (Nat × Value)) := fun x => match x with | .normal => some [(29, .bool false)] | .panic _ => some [] | _ => none

def T_ref08_SameConfig_1_ks : Nat → Bool := ksOf [7, 8, 9, 10, 11, 12, 13, 14, 15, 16, 17, 18, 19, 20, 21, 22, 23, 24, 25, 26, 27, 28, 29]

def H_ref08_SameConfig_1 : Env → World → QT → Prop := unitHook 84 T_ref08_SameConfig_1_ks [(2, .pointer (some ⟨0, 0, none⟩)), (3, .pointer (some ⟨0, 0, none⟩))] T_ref08_SameConfig_1_outs fun l w C => match l with | [v0, v1] => T_ref08_SameConfig_1 (pAddr v0) (pAddr v1) w (fun b18 w => C .normal [.bool b18] w) (fun ch w => C (.panic ch) [] w) | _ => False

theorem T_ref08_SameConfig_1_hl : allP (hokL Tryz.prog (hookAt []) (at_ (bodyOf Tryz.f20) [1, 0, 0]) 12) = (True) := by kernel_rfl
theorem T_ref08_SameConfig_1_hok : HOk Tryz.prog (hookAt []) (at_ (bodyOf Tryz.f20) [1, 0, 0]) 12 := HOk_of _ _ (by rw [T_ref08_SameConfig_1_hl]; exact trivial)

theorem T_ref08_SameConfig_1_eq (C : Conts) (a9 : Addr) (b10 : Addr) (w : World) : vcCode Tryz.prog (hookAt []) (at_ (bodyOf Tryz.f20) [1, 0, 0]) 12 ⟨[(2, .pointer (some a9)), (3, .pointer (some b10))], 84, []⟩ w (unitQ T_ref08_SameConfig_1_outs C) = T_ref08_SameConfig_1 a9 b10 w (fun b19 w => C .normal [.bool b19] w) (fun ch w => C (.panic ch) [] w) := by kernel_rfl

theorem T_ref08_SameConfig_1_ok : UnitOk Tryz.prog H_ref08_SameConfig_1 (at_ (bodyOf Tryz.f20) [1, 0, 0]) 12 := unit_ok (H := (hookAt [])) (by kernel_rfl) T_ref08_SameConfig_1_hok fun l w C hk => by
    obtain ⟨v0, l_v0, rfl, k_v0, hk_v0⟩ := Kinds.cons_ hk
    obtain ⟨a9, rfl⟩ := kind_addr k_v0
    obtain ⟨v1, l_v1, rfl, k_v1, hk_v1⟩ := Kinds.cons_ hk_v0
    obtain ⟨b10, rfl⟩ := kind_addr k_v1
    obtain rfl := Kinds.nil_ hk_v1
    exact T_ref08_SameConfig_1_eq C a9 b10 w

def T_ref08_SameConfig_2_body (X : Int → World → Prop) (i22 : Int) (a23 : Addr) (b24 : Addr) (w : World) (Kn : World → Prop) (Kr : Bool → World → Prop) (Kp : List PanicEntry → World → Prop)  : Prop :=
  ∃ s25a : Option Addr, ∃ s25l : Nat, ∃ s25c : Nat, rd w (a23.add 2) (.slice s25a s25l s25c) ∧ if (decide ((i22 : Int) < ((s25l : Nat) : Int))) = true then (let w26 : World := w.drew
  ∃ s27a : Option Addr, ∃ s27l : Nat, ∃ s27c : Nat, rd w26 (a23.add 2) (.slice s27a s27l s27c) ∧ 0 ≤ (i22 : Int) ∧ (i22 : Int) < ((s27l : Nat) : Int) ∧ ∃ b28, s27a = some b28 ∧ ∃ s29 : ByteArray, rd w26 (b28.add ((i22 : Int).toNat * 2)) (.string s29) ∧ ∃ s30a : Option Addr, ∃ s30l : Nat, ∃ s30c : Nat, rd w26 (b24.add 2) (.slice s30a s30l s30c) ∧ 0 ≤ (i22 : Int) ∧ (i22 : Int) < ((s30l : Nat) : Int) ∧ ∃ b31, s30a = some b31 ∧ ∃ s32 : ByteArray, rd w26 (b31.add ((i22 : Int).toNat * 2)) (.string s32) ∧ if (!(s29.toList == s32.toList)) = true then ((rd w26 (b24.add 2) (.slice s30a s30l s30c) ∧ rd w26 (a23.add 2) (.slice s27a s27l s27c) ∧ True) ∧ Kr false w26) else (∃ s33a : Option Addr, ∃ s33l : Nat, ∃ s33c : Nat, rd w26 (a23.add 2) (.slice s33a s33l s33c) ∧ 0 ≤ (i22 : Int) ∧ (i22 : Int) < ((s33l : Nat) : Int) ∧ ∃ b34, s33a = some b34 ∧ ∃ s35a : Option Addr, ∃ s35l : Nat, ∃ s35c : Nat, rd w26 ((b34.add ((i22 : Int).toNat * 2)).add 1) (.slice s35a s35l s35c) ∧ ∃ s36a : Option Addr, ∃ s36l : Nat, ∃ s36c : Nat, rd w26 (b24.add 2) (.slice s36a s36l s36c) ∧ 0 ≤ (i22 : Int) ∧ (i22 : Int) < ((s36l : Nat) : Int) ∧ ∃ b37, s36a = some b37 ∧ ∃ s38a : Option Addr, ∃ s38l : Nat, ∃ s38c : Nat, rd w26 ((b37.add ((i22 : Int).toNat * 2)).add 1) (.slice s38a s38l s38c) ∧ Calls Tryz.prog 42 #[.slice s35a s35l s35c, .slice s38a s38l s38c] w26 (ret (fun r39 w40 => ∃ b41 : Bool, r39 = .bool b41 ∧ (rd w40 (b24.add 2) (.slice s36a s36l s36c) ∧ rd w40 (a23.add 2) (.slice s33a s33l s33c) ∧ rd w40 (b24.add 2) (.slice s30a s30l s30c) ∧ rd w40 (a23.add 2) (.slice s27a s27l s27c) ∧ True) ∧ if (!b41) = true then (Kr false w40) else (X (IntKind.wrap .i64 ((i22 : Int) + 1)) w40)) Kp))) else (Kn  w)

def T_ref08_SameConfig_2 (i22 : Int) (a23 : Addr) (b24 : Addr) (w : World) (Kn : World → Prop) (Kr : Bool → World → Prop) (Kp : List PanicEntry → World → Prop) : Prop :=
  ∀ X : Int → World → Prop, (∀ (i22 : Int) (w : World), T_ref08_SameConfig_2_body X i22 a23 b24 w Kn Kr Kp → X i22 w) → X i22 w

def T_ref08_SameConfig_2_outs : Exit → Option (List (Nat × Value)) := fun x => match x with | .normal => some [] | .ret => some [(4, .bool false)] | .panic _ => some [] | _ => none

def T_ref08_SameConfig_2_ks : Nat → Bool := ksOf [4, 5, 30, 31, 32, 33, 34, 35, 36, 37, 38, 39, 40, 41, 42, 43, 44, 45, 46, 47, 48, 49, 50, 51, 52, 53, 54, 55, 56, 57, 58, 59, 60, 61, 62, 63, 64, 65]

def H_ref08_SameConfig_2 : Env → World → QT → Prop := unitHook 84 T_ref08_SameConfig_2_ks [(5, .int .i64 0), (2, .pointer (some ⟨0, 0, none⟩)), (3, .pointer (some ⟨0, 0, none⟩))] T_ref08_SameConfig_2_outs fun l w C => match l with | [v0, v1, v2] => T_ref08_SameConfig_2 (pInt v0) (pAddr v1) (pAddr v2) w (fun w => C .normal [] w) (fun b43 w => C .ret [.bool b43] w) (fun ch w => C (.panic ch) [] w) | _ => False

theorem T_ref08_SameConfig_2_hl : allP (hokL Tryz.prog (hookAt []) (at_ (bodyOf Tryz.f20) [1, 1, 0, 1, 0, 0]) 116) = (True) := by kernel_rfl
theorem T_ref08_SameConfig_2_hok : HOk Tryz.prog (hookAt []) (at_ (bodyOf Tryz.f20) [1, 1, 0, 1, 0, 0]) 116 := HOk_of _ _ (by rw [T_ref08_SameConfig_2_hl]; exact trivial)

theorem T_ref08_SameConfig_2_eq (C : Conts) (X : List Value → World → Prop) (i22 : Int) (a23 : Addr) (b24 : Addr) (w : World) : vcCode Tryz.prog (hookAt []) (at_ (bodyOf Tryz.f20) [1, 1, 0, 1, 0, 0]) 116 ⟨[(5, .int .i64 i22)] ++ [(2, .pointer (some a23)), (3, .pointer (some b24))], 84, []⟩ w (seqQ (fun e w => takeAll e [(5, .int .i64 0)] fun l => X l w) (blockQ 0 (unitQ T_ref08_SameConfig_2_outs C))) = T_ref08_SameConfig_2_body (fun i22 w => X [.int .i64 i22] w) i22 a23 b24 w (fun w => C .normal [] w) (fun b44 w => C .ret [.bool b44] w) (fun ch w => C (.panic ch) [] w) := by kernel_rfl

theorem T_ref08_SameConfig_2_ok : UnitOk Tryz.prog H_ref08_SameConfig_2 (at_ (bodyOf Tryz.f20) [1, 1, 0, 1]) 29 := by
  have hc : at_ (bodyOf Tryz.f20) [1, 1, 0, 1] = .block 0 (.loop (at_ (bodyOf Tryz.f20) [1, 1, 0, 1, 0, 0])) := by kernel_rfl
  rw [hc]
  refine loop_unit_ok (carr := [(5, .int .i64 0)]) (fix := [(2, .pointer (some ⟨0, 0, none⟩)), (3, .pointer (some ⟨0, 0, none⟩))]) (ks := T_ref08_SameConfig_2_ks) (H := (hookAt [])) (B := fun C X l u w => match l, u with | [v0], [v1, v2] => T_ref08_SameConfig_2_body (fun i22 w => X [.int .i64 i22] w) (pInt v0) (pAddr v1) (pAddr v2) w (fun w => C .normal [] w) (fun b45 w => C .ret [.bool b45] w) (fun ch w => C (.panic ch) [] w) | _, _ => False) (by kernel_rfl) (by kernel_rfl) T_ref08_SameConfig_2_hok ?_ ?_
  · intro C X l u w hl hu
    obtain ⟨v0, l_v0, rfl, k_v0, hl_v0⟩ := Kinds.cons_ hl
    obtain ⟨i22, rfl⟩ := kind_int k_v0
    obtain rfl := Kinds.nil_ hl_v0
    obtain ⟨v1, l_v1, rfl, k_v1, hu_v1⟩ := Kinds.cons_ hu
    obtain ⟨a23, rfl⟩ := kind_addr k_v1
    obtain ⟨v2, l_v2, rfl, k_v2, hu_v2⟩ := Kinds.cons_ hu_v1
    obtain ⟨b24, rfl⟩ := kind_addr k_v2
    obtain rfl := Kinds.nil_ hu_v2
    exact T_ref08_SameConfig_2_eq C X i22 a23 b24 w
  · intro l u w C hl hu
    obtain ⟨v0, l_v0, rfl, k_v0, hl_v0⟩ := Kinds.cons_ hl
    obtain ⟨i22, rfl⟩ := kind_int k_v0
    obtain rfl := Kinds.nil_ hl_v0
    obtain ⟨v1, l_v1, rfl, k_v1, hu_v1⟩ := Kinds.cons_ hu
    obtain ⟨a23, rfl⟩ := kind_addr k_v1
    obtain ⟨v2, l_v2, rfl, k_v2, hu_v2⟩ := Kinds.cons_ hu_v1
    obtain ⟨b24, rfl⟩ := kind_addr k_v2
    obtain rfl := Kinds.nil_ hu_v2
    constructor
    · intro h X hX
      exact h (fun i22 w => X [.int .i64 i22] w) (fun i22 w hb => hX [.int .i64 i22] w ⟨rfl, trivial⟩ hb)
    · intro h X hX
      exact h (fun l w => match l with | [v0] => X (pInt v0) w | _ => True) (fun l w hl hb => by
        obtain ⟨v0, l_v0, rfl, k_v0, hl_v0⟩ := Kinds.cons_ hl
        obtain ⟨i22, rfl⟩ := kind_int k_v0
        obtain rfl := Kinds.nil_ hl_v0
        exact hX i22 w hb)

def T_ref08_SameConfig_3_body (X : Int → World → Prop) (i47 : Int) (a48 : Addr) (b49 : Addr) (w : World) (Kn : World → Prop) (Kr : Bool → World → Prop) (Kp : List PanicEntry → World → Prop)  : Prop :=
  ∃ s50a : Option Addr, ∃ s50l : Nat, ∃ s50c : Nat, rd w (a48.add 1) (.slice s50a s50l s50c) ∧ if (decide ((i47 : Int) < ((s50l : Nat) : Int))) = true then (let w51 : World := w.drew
  ∃ s52a : Option Addr, ∃ s52l : Nat, ∃ s52c : Nat, rd w51 (a48.add 1) (.slice s52a s52l s52c) ∧ 0 ≤ (i47 : Int) ∧ (i47 : Int) < ((s52l : Nat) : Int) ∧ ∃ b53, s52a = some b53 ∧ ∃ s54 : ByteArray, ∃ s55 : ByteArray, ∃ s56 : ByteArray, rd w51 (b53.add ((i47 : Int).toNat * 3)) (.agg #[.string s54, .string s55, .string s56]) ∧ ∃ s57a : Option Addr, ∃ s57l : Nat, ∃ s57c : Nat, rd w51 (b49.add 1) (.slice s57a s57l s57c) ∧ 0 ≤ (i47 : Int) ∧ (i47 : Int) < ((s57l : Nat) : Int) ∧ ∃ b58, s57a = some b58 ∧ ∃ s59 : ByteArray, ∃ s60 : ByteArray, ∃ s61 : ByteArray, rd w51 (b58.add ((i47 : Int).toNat * 3)) (.agg #[.string s59, .string s60, .string s61]) ∧ runV Tryz.prog (do eqGuard .neq 36 (.tmp 77) (.tmp 82) (.agg #[.string s54, .string s55, .string s56]) (.agg #[.string s59, .string s60, .string s61]); binOp .neq 36 (.agg #[.string s54, .string s55, .string s56]) (.agg #[.string s59, .string s60, .string s61])) w51 (fun r62 w63 => ∃ b64 : Bool, r62 = .bool b64 ∧ (True) ∧ if b64 = true then (Kr false w63) else (X (IntKind.wrap .i64 ((i47 : Int) + 1)) w63)) Kp) else (Kn  w)

def T_ref08_SameConfig_3 (i47 : Int) (a48 : Addr) (b49 : Addr) (w : World) (Kn : World → Prop) (Kr : Bool → World → Prop) (Kp : List PanicEntry → World → Prop) : Prop :=
  ∀ X : Int → World → Prop, (∀ (i47 : Int) (w : World), T_ref08_SameConfig_3_body X i47 a48 b49 w Kn Kr Kp → X i47 w) → X i47 w

def T_ref08_SameConfig_3_outs : Exit → Option (List (Nat × Value)) := fun x => match x with | .normal => some [] | .ret => some [(4, .bool false)] | .panic _ => some [] | _ => none

def T_ref08_SameConfig_3_ks : Nat → Bool := ksOf [4, 6, 66, 67, 68, 69, 70, 71, 72, 73, 74, 75, 76, 77, 78, 79, 80, 81, 82, 83]

def H_ref08_SameConfig_3 : Env → World → QT → Prop := unitHook 84 T_ref08_SameConfig_3_ks [(6, .int .i64 0), (2, .pointer (some ⟨0, 0, none⟩)), (3, .pointer (some ⟨0, 0, none⟩))] T_ref08_SameConfig_3_outs fun l w C => match l with | [v0, v1, v2] => T_ref08_SameConfig_3 (pInt v0) (pAddr v1) (pAddr v2) w (fun w => C .normal [] w) (fun b66 w => C .ret [.bool b66] w) (fun ch w => C (.panic ch) [] w) | _ => False

theorem T_ref08_SameConfig_3_hl : allP (hokL Tryz.prog (hookAt []) (at_ (bodyOf Tryz.f20) [1, 1, 1, 0, 1, 0, 0]) 244) = (True) := by kernel_rfl
theorem T_ref08_SameConfig_3_hok : HOk Tryz.prog (hookAt []) (at_ (bodyOf Tryz.f20) [1, 1, 1, 0, 1, 0, 0]) 244 := HOk_of _ _ (by rw [T_ref08_SameConfig_3_hl]; exact trivial)

theorem T_ref08_SameConfig_3_eq (C : Conts) (X : List Value → World → Prop) (i47 : Int) (a48 : Addr) (b49 : Addr) (w : World) : vcCode Tryz.prog (hookAt []) (at_ (bodyOf Tryz.f20) [1, 1, 1, 0, 1, 0, 0]) 244 ⟨[(6, .int .i64 i47)] ++ [(2, .pointer (some a48)), (3, .pointer (some b49))], 84, []⟩ w (seqQ (fun e w => takeAll e [(6, .int .i64 0)] fun l => X l w) (blockQ 2 (unitQ T_ref08_SameConfig_3_outs C))) = T_ref08_SameConfig_3_body (fun i47 w => X [.int .i64 i47] w) i47 a48 b49 w (fun w => C .normal [] w) (fun b67 w => C .ret [.bool b67] w) (fun ch w => C (.panic ch) [] w) := by kernel_rfl

theorem T_ref08_SameConfig_3_ok : UnitOk Tryz.prog H_ref08_SameConfig_3 (at_ (bodyOf Tryz.f20) [1, 1, 1, 0, 1]) 61 := by
  have hc : at_ (bodyOf Tryz.f20) [1, 1, 1, 0, 1] = .block 2 (.loop (at_ (bodyOf Tryz.f20) [1, 1, 1, 0, 1, 0, 0])) := by kernel_rfl
  rw [hc]
  refine loop_unit_ok (carr := [(6, .int .i64 0)]) (fix := [(2, .pointer (some ⟨0, 0, none⟩)), (3, .pointer (some ⟨0, 0, none⟩))]) (ks := T_ref08_SameConfig_3_ks) (H := (hookAt [])) (B := fun C X l u w => match l, u with | [v0], [v1, v2] => T_ref08_SameConfig_3_body (fun i47 w => X [.int .i64 i47] w) (pInt v0) (pAddr v1) (pAddr v2) w (fun w => C .normal [] w) (fun b68 w => C .ret [.bool b68] w) (fun ch w => C (.panic ch) [] w) | _, _ => False) (by kernel_rfl) (by kernel_rfl) T_ref08_SameConfig_3_hok ?_ ?_
  · intro C X l u w hl hu
    obtain ⟨v0, l_v0, rfl, k_v0, hl_v0⟩ := Kinds.cons_ hl
    obtain ⟨i47, rfl⟩ := kind_int k_v0
    obtain rfl := Kinds.nil_ hl_v0
    obtain ⟨v1, l_v1, rfl, k_v1, hu_v1⟩ := Kinds.cons_ hu
    obtain ⟨a48, rfl⟩ := kind_addr k_v1
    obtain ⟨v2, l_v2, rfl, k_v2, hu_v2⟩ := Kinds.cons_ hu_v1
    obtain ⟨b49, rfl⟩ := kind_addr k_v2
    obtain rfl := Kinds.nil_ hu_v2
    exact T_ref08_SameConfig_3_eq C X i47 a48 b49 w
  · intro l u w C hl hu
    obtain ⟨v0, l_v0, rfl, k_v0, hl_v0⟩ := Kinds.cons_ hl
    obtain ⟨i47, rfl⟩ := kind_int k_v0
    obtain rfl := Kinds.nil_ hl_v0
    obtain ⟨v1, l_v1, rfl, k_v1, hu_v1⟩ := Kinds.cons_ hu
    obtain ⟨a48, rfl⟩ := kind_addr k_v1
    obtain ⟨v2, l_v2, rfl, k_v2, hu_v2⟩ := Kinds.cons_ hu_v1
    obtain ⟨b49, rfl⟩ := kind_addr k_v2
    obtain rfl := Kinds.nil_ hu_v2
    constructor
    · intro h X hX
      exact h (fun i47 w => X [.int .i64 i47] w) (fun i47 w hb => hX [.int .i64 i47] w ⟨rfl, trivial⟩ hb)
    · intro h X hX
      exact h (fun l w => match l with | [v0] => X (pInt v0) w | _ => True) (fun l w hl hb => by
        obtain ⟨v0, l_v0, rfl, k_v0, hl_v0⟩ := Kinds.cons_ hl
        obtain ⟨i47, rfl⟩ := kind_int k_v0
        obtain rfl := Kinds.nil_ hl_v0
        exact hX i47 w hb)

def T_ref08_SameConfig (x1 : Int) (s2a : Option Addr) (s2l : Nat) (s2c : Nat) (s3a : Option Addr) (s3l : Nat) (s3c : Nat) (x4 : Int) (s5a : Option Addr) (s5l : Nat) (s5c : Nat) (s6a : Option Addr) (s6l : Nat) (s6c : Nat) (w : World) (R : Ending → World → Prop) : Prop :=
  let w7 : World := w.alloc (.cells #[.int .i64 x1, .slice s2a s2l s2c, .slice s3a s3l s3c] 30)
  let w8 : World := w7.alloc (.cells #[.int .i64 x4, .slice s5a s5l s5c, .slice s6a s6l s6c] 30)
  T_ref08_SameConfig_1 (⟨w.heap.size, 0, none⟩ : Addr) (⟨w7.heap.size, 0, none⟩ : Addr) w8 (fun b20 w21 => if b20 = true then (R (.returned (.bool false)) w21) else (T_ref08_SameConfig_2 0 (⟨w.heap.size, 0, none⟩ : Addr) (⟨w7.heap.size, 0, none⟩ : Addr) w21 (fun w46 => T_ref08_SameConfig_3 0 (⟨w.heap.size, 0, none⟩ : Addr) (⟨w7.heap.size, 0, none⟩ : Addr) w46 (fun w69 => R (.returned (.bool true)) w69) (fun b70 w71 => R (.returned (.bool b70)) w71) (pan R)) (fun b72 w73 => R (.returned (.bool b72)) w73) (pan R))) (pan R)

theorem T_ref08_SameConfig_hl : allP (hokL Tryz.prog (hookAt [(12, H_ref08_SameConfig_1), (29, H_ref08_SameConfig_2), (61, H_ref08_SameConfig_3)]) (bodyOf Tryz.f20) 1) = (UnitOk Tryz.prog H_ref08_SameConfig_1 (at_ (bodyOf Tryz.f20) [1, 0, 0]) 12 ∧ UnitOk Tryz.prog H_ref08_SameConfig_2 (at_ (bodyOf Tryz.f20) [1, 1, 0, 1]) 29 ∧ UnitOk Tryz.prog H_ref08_SameConfig_3 (at_ (bodyOf Tryz.f20) [1, 1, 1, 0, 1]) 61 ∧ True) := by kernel_rfl

theorem T_ref08_SameConfig_eq (x1 : Int) (s2a : Option Addr) (s2l : Nat) (s2c : Nat) (s3a : Option Addr) (s3l : Nat) (s3c : Nat) (x4 : Int) (s5a : Option Addr) (s5l : Nat) (s5c : Nat) (s6a : Option Addr) (s6l : Nat) (s6c : Nat) (w : World) (R : Ending → World → Prop) : vcCode Tryz.prog (hookAt [(12, H_ref08_SameConfig_1), (29, H_ref08_SameConfig_2), (61, H_ref08_SameConfig_3)]) (bodyOf Tryz.f20) 1 ⟨argEnv [.agg #[.int .i64 x1, .slice s2a s2l s2c, .slice s3a s3l s3c], .agg #[.int .i64 x4, .slice s5a s5l s5c, .slice s6a s6l s6c]] 0, Tryz.f20.ntmps, []⟩ w (finQ Tryz.prog Tryz.f20.results.toList R) = T_ref08_SameConfig x1 s2a s2l s2c s3a s3l s3c x4 s5a s5l s5c s6a s6l s6c w R := by kernel_rfl

theorem T_ref08_SameConfig_b : Tryz.f20.body = some (bodyOf Tryz.f20) := by kernel_rfl
theorem T_ref08_SameConfig_s : (quietSel (bodyOf Tryz.f20) && Nat.ble 2 Tryz.f20.ntmps) = true := by kernel_rfl

theorem C_ref08_SameConfig {x1 : Int} {s2a : Option Addr} {s2l : Nat} {s2c : Nat} {s3a : Option Addr} {s3l : Nat} {s3c : Nat} {x4 : Int} {s5a : Option Addr} {s5l : Nat} {s5c : Nat} {s6a : Option Addr} {s6l : Nat} {s6c : Nat} {w : World} {R : Ending → World → Prop} (h : T_ref08_SameConfig x1 s2a s2l s2c s3a s3l s3c x4 s5a s5l s5c s6a s6l s6c w R) : Calls Tryz.prog 20 #[.agg #[.int .i64 x1, .slice s2a s2l s2c, .slice s3a s3l s3c], .agg #[.int .i64 x4, .slice s5a s5l s5c, .slice s6a s6l s6c]] w R :=
  calls_of_text (args := [.agg #[.int .i64 x1, .slice s2a s2l s2c, .slice s3a s3l s3c], .agg #[.int .i64 x4, .slice s5a s5l s5c, .slice s6a s6l s6c]]) mixed Tryz.func20 T_ref08_SameConfig_b T_ref08_SameConfig_s (HOk_of _ _ (by rw [T_ref08_SameConfig_hl]; exact ⟨T_ref08_SameConfig_1_ok, T_ref08_SameConfig_2_ok, T_ref08_SameConfig_3_ok, trivial⟩)) (by rw [T_ref08_SameConfig_eq]; exact h)

/-! tollgate/tollgateref08.Host -/
def T_ref08_Host_1 (s2 : ByteArray) (w : World) (Kn : Bool → World → Prop) (Kp : List PanicEntry → World → Prop) : Prop :=
  if (decide (((s2.size : Nat) : Int) < 1)) = true then (Kn true w) else (if (decide (((s2.size : Nat) : Int) > 64)) = true then (Kn true w) else (Calls Tryz.prog 43 #[.string s2, .bool true] w (ret (fun r3 w4 => ∃ b5 : Bool, r3 = .bool b5 ∧ if (!b5) = true then (Kn true w4) else (0 ≤ (0 : Int) ∧ ∃ c6, s2[(0 : Int).toNat]? = some c6 ∧ if (((c6.toNat : Nat) : Int) == 46) = true then (Kn true w4) else (0 ≤ (IntKind.wrap .i64 (((s2.size : Nat) : Int) - 1) : Int) ∧ ∃ c7, s2[(IntKind.wrap .i64 (((s2.size : Nat) : Int) - 1) : Int).toNat]? = some c7 ∧ Kn (((c7.toNat : Nat) : Int) == 46) w4))) Kp)))

def T_ref08_Host_1_outs : Exit → Option (List (Nat × Value)) := fun x => match x with | .normal => some [(29, .bool false)] | .panic _ => some [] | _ => none

def T_ref08_Host_1_ks : Nat → Bool := ksOf [4, 5, 6, 7, 8, 9, 10, 11, 12, 13, 14, 15, 16, 17, 18, 19, 20, 21, 22, 23, 24, 25, 26, 27, 28, 29]

def H_ref08_Host_1 : Env → World → QT → Prop := unitHook 47 T_ref08_Host_1_ks [(0, .string default)] T_ref08_Host_1_outs fun l w C => match l with | [v0] => T_ref08_Host_1 (pStr v0) w (fun b9 w => C .normal [.bool b9] w) (fun ch w => C (.panic ch) [] w) | _ => False

theorem T_ref08_Host_1_hl : allP (hokL Tryz.prog (hookAt []) (at_ (bodyOf Tryz.f21) [1, 0, 0]) 12) = (True) := by kernel_rfl
theorem T_ref08_Host_1_hok : HOk Tryz.prog (hookAt []) (at_ (bodyOf Tryz.f21) [1, 0, 0]) 12 := HOk_of _ _ (by rw [T_ref08_Host_1_hl]; exact trivial)

theorem T_ref08_Host_1_eq (C : Conts) (s2 : ByteArray) (w : World) : vcCode Tryz.prog (hookAt []) (at_ (bodyOf Tryz.f21) [1, 0, 0]) 12 ⟨[(0, .string s2)], 47, []⟩ w (unitQ T_ref08_Host_1_outs C) = T_ref08_Host_1 s2 w (fun b10 w => C .normal [.bool b10] w) (fun ch w => C (.panic ch) [] w) := by kernel_rfl

theorem T_ref08_Host_1_ok : UnitOk Tryz.prog H_ref08_Host_1 (at_ (bodyOf Tryz.f21) [1, 0, 0]) 12 := unit_ok (H := (hookAt [])) (by kernel_rfl) T_ref08_Host_1_hok fun l w C hk => by
    obtain ⟨v0, l_v0, rfl, k_v0, hk_v0⟩ := Kinds.cons_ hk
    obtain ⟨s2, rfl⟩ := kind_string k_v0
    obtain rfl := Kinds.nil_ hk_v0
    exact T_ref08_Host_1_eq C s2 w

def T_ref08_Host_2_body (X : Int → World → Prop) (i13 : Int) (s14 : ByteArray) (w : World) (Kn : World → Prop) (Kr : Bool → World → Prop) (Kp : List PanicEntry → World → Prop)  : Prop :=
  if (decide ((i13 : Int) < ((s14.size : Nat) : Int))) = true then (0 ≤ (i13 : Int) ∧ ∃ c15, s14[(i13 : Int).toNat]? = some c15 ∧ if (((c15.toNat : Nat) : Int) == 46) = true then (0 ≤ (IntKind.wrap .i64 ((i13 : Int) - 1) : Int) ∧ ∃ c16, s14[(IntKind.wrap .i64 ((i13 : Int) - 1) : Int).toNat]? = some c16 ∧ if (((c16.toNat : Nat) : Int) == 46) = true then (Kr false w) else (X (IntKind.wrap .i64 ((i13 : Int) + 1)) w)) else (X (IntKind.wrap .i64 ((i13 : Int) + 1)) w)) else (Kn  w)

def T_ref08_Host_2 (i13 : Int) (s14 : ByteArray) (w : World) (Kn : World → Prop) (Kr : Bool → World → Prop) (Kp : List PanicEntry → World → Prop) : Prop :=
  ∀ X : Int → World → Prop, (∀ (i13 : Int) (w : World), T_ref08_Host_2_body X i13 s14 w Kn Kr Kp → X i13 w) → X i13 w

def T_ref08_Host_2_outs : Exit → Option (List (Nat × Value)) := fun x => match x with | .normal => some [] | .ret => some [(2, .bool false)] | .panic _ => some [] | _ => none

def T_ref08_Host_2_ks : Nat → Bool := ksOf [2, 3, 30, 31, 32, 33, 34, 35, 36, 37, 38, 39, 40, 41, 42, 43, 44, 45, 46]

def H_ref08_Host_2 : Env → World → QT → Prop := unitHook 47 T_ref08_Host_2_ks [(3, .int .i64 0), (0, .string default)] T_ref08_Host_2_outs fun l w C => match l with | [v0, v1] => T_ref08_Host_2 (pInt v0) (pStr v1) w (fun w => C .normal [] w) (fun b18 w => C .ret [.bool b18] w) (fun ch w => C (.panic ch) [] w) | _ => False

theorem T_ref08_Host_2_hl : allP (hokL Tryz.prog (hookAt []) (at_ (bodyOf Tryz.f21) [1, 1, 0, 1, 0, 0]) 116) = (True) := by kernel_rfl
theorem T_ref08_Host_2_hok : HOk Tryz.prog (hookAt []) (at_ (bodyOf Tryz.f21) [1, 1, 0, 1, 0, 0]) 116 := HOk_of _ _ (by rw [T_ref08_Host_2_hl]; exact trivial)

theorem T_ref08_Host_2_eq (C : Conts) (X : List Value → World → Prop) (i13 : Int) (s14 : ByteArray) (w : World) : vcCode Tryz.prog (hookAt []) (at_ (bodyOf Tryz.f21) [1, 1, 0, 1, 0, 0]) 116 ⟨[(3, .int .i64 i13)] ++ [(0, .string s14)], 47, []⟩ w (seqQ (fun e w => takeAll e [(3, .int .i64 0)] fun l => X l w) (blockQ 0 (unitQ T_ref08_Host_2_outs C))) = T_ref08_Host_2_body (fun i13 w => X [.int .i64 i13] w) i13 s14 w (fun w => C .normal [] w) (fun b19 w => C .ret [.bool b19] w) (fun ch w => C (.panic ch) [] w) := by kernel_rfl

theorem T_ref08_Host_2_ok : UnitOk Tryz.prog H_ref08_Host_2 (at_ (bodyOf Tryz.f21) [1, 1, 0, 1]) 29 := by
  have hc : at_ (bodyOf Tryz.f21) [1, 1, 0, 1] = .block 0 (.loop (at_ (bodyOf Tryz.f21) [1, 1, 0, 1, 0, 0])) := by kernel_rfl
  rw [hc]
  refine loop_unit_ok (carr := [(3, .int .i64 0)]) (fix := [(0, .string default)]) (ks := T_ref08_Host_2_ks) (H := (hookAt [])) (B := fun C X l u w => match l, u with | [v0], [v1] => T_ref08_Host_2_body (fun i13 w => X [.int .i64 i13] w) (pInt v0) (pStr v1) w (fun w => C .normal [] w) (fun b20 w => C .ret [.bool b20] w) (fun ch w => C (.panic ch) [] w) | _, _ => False) (by kernel_rfl) (by kernel_rfl) T_ref08_Host_2_hok ?_ ?_
  · intro C X l u w hl hu
    obtain ⟨v0, l_v0, rfl, k_v0, hl_v0⟩ := Kinds.cons_ hl
    obtain ⟨i13, rfl⟩ := kind_int k_v0
    obtain rfl := Kinds.nil_ hl_v0
    obtain ⟨v1, l_v1, rfl, k_v1, hu_v1⟩ := Kinds.cons_ hu
    obtain ⟨s14, rfl⟩ := kind_string k_v1
    obtain rfl := Kinds.nil_ hu_v1
    exact T_ref08_Host_2_eq C X i13 s14 w
  · intro l u w C hl hu
    obtain ⟨v0, l_v0, rfl, k_v0, hl_v0⟩ := Kinds.cons_ hl
    obtain ⟨i13, rfl⟩ := kind_int k_v0
    obtain rfl := Kinds.nil_ hl_v0
    obtain ⟨v1, l_v1, rfl, k_v1, hu_v1⟩ := Kinds.cons_ hu
    obtain ⟨s14, rfl⟩ := kind_string k_v1
    obtain rfl := Kinds.nil_ hu_v1
    constructor
    · intro h X hX
      exact h (fun i13 w => X [.int .i64 i13] w) (fun i13 w hb => hX [.int .i64 i13] w ⟨rfl, trivial⟩ hb)
    · intro h X hX
      exact h (fun l w => match l with | [v0] => X (pInt v0) w | _ => True) (fun l w hl hb => by
        obtain ⟨v0, l_v0, rfl, k_v0, hl_v0⟩ := Kinds.cons_ hl
        obtain ⟨i13, rfl⟩ := kind_int k_v0
        obtain rfl := Kinds.nil_ hl_v0
        exact hX i13 w hb)

def T_ref08_Host (s1 : ByteArray) (w : World) (R : Ending → World → Prop) : Prop :=
  T_ref08_Host_1 s1 w (fun b11 w12 => if b11 = true then (R (.returned (.bool false)) w12) else (T_ref08_Host_2 1 s1 w12 (fun w21 => R (.returned (.bool true)) w21) (fun b22 w23 => R (.returned (.bool b22)) w23) (pan R))) (pan R)

theorem T_ref08_Host_hl : allP (hokL Tryz.prog (hookAt [(12, H_ref08_Host_1), (29, H_ref08_Host_2)]) (bodyOf Tryz.f21) 1) = (UnitOk Tryz.prog H_ref08_Host_1 (at_ (bodyOf Tryz.f21) [1, 0, 0]) 12 ∧ UnitOk Tryz.prog H_ref08_Host_2 (at_ (bodyOf Tryz.f21) [1, 1, 0, 1]) 29 ∧ True) := by kernel_rfl

theorem T_ref08_Host_eq (s1 : ByteArray) (w : World) (R : Ending → World → Prop) : vcCode Tryz.prog (hookAt [(12, H_ref08_Host_1), (29, H_ref08_Host_2)]) (bodyOf Tryz.f21) 1 ⟨argEnv [.string s1] 0, Tryz.f21.ntmps, []⟩ w (finQ Tryz.prog Tryz.f21.results.toList R) = T_ref08_Host s1 w R := by kernel_rfl

theorem T_ref08_Host_b : Tryz.f21.body = some (bodyOf Tryz.f21) := by kernel_rfl
theorem T_ref08_Host_s : (quietSel (bodyOf Tryz.f21) && Nat.ble 1 Tryz.f21.ntmps) = true := by kernel_rfl

theorem C_ref08_Host {s1 : ByteArray} {w : World} {R : Ending → World → Prop} (h : T_ref08_Host s1 w R) : Calls Tryz.prog 21 #[.string s1] w R :=
  calls_of_text (args := [.string s1]) mixed Tryz.func21 T_ref08_Host_b T_ref08_Host_s (HOk_of _ _ (by rw [T_ref08_Host_hl]; exact ⟨T_ref08_Host_1_ok, T_ref08_Host_2_ok, trivial⟩)) (by rw [T_ref08_Host_eq]; exact h)

/-! tollgate/tollgateref08.Prefix -/
def T_ref08_Prefix_1_body (X : Int → World → Prop) (i2 : Int) (s3 : ByteArray) (w : World) (Kn : World → Prop) (Kr : Bool → World → Prop) (Kp : List PanicEntry → World → Prop)  : Prop :=
  if (decide ((i2 : Int) < ((s3.size : Nat) : Int))) = true then (0 ≤ (i2 : Int) ∧ ∃ c4, s3[(i2 : Int).toNat]? = some c4 ∧ if (((c4.toNat : Nat) : Int) == 63) = true then (Kr false w) else (0 ≤ (i2 : Int) ∧ ∃ c5, s3[(i2 : Int).toNat]? = some c5 ∧ if (((c5.toNat : Nat) : Int) == 35) = true then (Kr false w) else (X (IntKind.wrap .i64 ((i2 : Int) + 1)) w))) else (Kn  w)

def T_ref08_Prefix_1 (i2 : Int) (s3 : ByteArray) (w : World) (Kn : World → Prop) (Kr : Bool → World → Prop) (Kp : List PanicEntry → World → Prop) : Prop :=
  ∀ X : Int → World → Prop, (∀ (i2 : Int) (w : World), T_ref08_Prefix_1_body X i2 s3 w Kn Kr Kp → X i2 w) → X i2 w

def T_ref08_Prefix_1_outs : Exit → Option (List (Nat × Value)) := fun x => match x with | .normal => some [] | .ret => some [(2, .bool false)] | .panic _ => some [] | _ => none

def T_ref08_Prefix_1_ks : Nat → Bool := ksOf [2, 3, 4, 5, 6, 7, 8, 9, 10, 11, 12, 13, 14, 15, 16, 17, 18, 19]

def H_ref08_Prefix_1 : Env → World → QT → Prop := unitHook 37 T_ref08_Prefix_1_ks [(3, .int .i64 0), (0, .string default)] T_ref08_Prefix_1_outs fun l w C => match l with | [v0, v1] => T_ref08_Prefix_1 (pInt v0) (pStr v1) w (fun w => C .normal [] w) (fun b7 w => C .ret [.bool b7] w) (fun ch w => C (.panic ch) [] w) | _ => False

theorem T_ref08_Prefix_1_hl : allP (hokL Tryz.prog (hookAt []) (at_ (bodyOf Tryz.f22) [1, 0, 1, 0, 0]) 52) = (True) := by kernel_rfl
theorem T_ref08_Prefix_1_hok : HOk Tryz.prog (hookAt []) (at_ (bodyOf Tryz.f22) [1, 0, 1, 0, 0]) 52 := HOk_of _ _ (by rw [T_ref08_Prefix_1_hl]; exact trivial)

theorem T_ref08_Prefix_1_eq (C : Conts) (X : List Value → World → Prop) (i2 : Int) (s3 : ByteArray) (w : World) : vcCode Tryz.prog (hookAt []) (at_ (bodyOf Tryz.f22) [1, 0, 1, 0, 0]) 52 ⟨[(3, .int .i64 i2)] ++ [(0, .string s3)], 37, []⟩ w (seqQ (fun e w => takeAll e [(3, .int .i64 0)] fun l => X l w) (blockQ 0 (unitQ T_ref08_Prefix_1_outs C))) = T_ref08_Prefix_1_body (fun i2 w => X [.int .i64 i2] w) i2 s3 w (fun w => C .normal [] w) (fun b8 w => C .ret [.bool b8] w) (fun ch w => C (.panic ch) [] w) := by kernel_rfl

theorem T_ref08_Prefix_1_ok : UnitOk Tryz.prog H_ref08_Prefix_1 (at_ (bodyOf Tryz.f22) [1, 0, 1]) 13 := by
  have hc : at_ (bodyOf Tryz.f22) [1, 0, 1] = .block 0 (.loop (at_ (bodyOf Tryz.f22) [1, 0, 1, 0, 0])) := by kernel_rfl
  rw [hc]
  refine loop_unit_ok (carr := [(3, .int .i64 0)]) (fix := [(0, .string default)]) (ks := T_ref08_Prefix_1_ks) (H := (hookAt [])) (B := fun C X l u w => match l, u with | [v0], [v1] => T_ref08_Prefix_1_body (fun i2 w => X [.int .i64 i2] w) (pInt v0) (pStr v1) w (fun w => C .normal [] w) (fun b9 w => C .ret [.bool b9] w) (fun ch w => C (.panic ch) [] w) | _, _ => False) (by kernel_rfl) (by kernel_rfl) T_ref08_Prefix_1_hok ?_ ?_
  · intro C X l u w hl hu
    obtain ⟨v0, l_v0, rfl, k_v0, hl_v0⟩ := Kinds.cons_ hl
    obtain ⟨i2, rfl⟩ := kind_int k_v0
    obtain rfl := Kinds.nil_ hl_v0
    obtain ⟨v1, l_v1, rfl, k_v1, hu_v1⟩ := Kinds.cons_ hu
    obtain ⟨s3, rfl⟩ := kind_string k_v1
    obtain rfl := Kinds.nil_ hu_v1
    exact T_ref08_Prefix_1_eq C X i2 s3 w
  · intro l u w C hl hu
    obtain ⟨v0, l_v0, rfl, k_v0, hl_v0⟩ := Kinds.cons_ hl
    obtain ⟨i2, rfl⟩ := kind_int k_v0
    obtain rfl := Kinds.nil_ hl_v0
    obtain ⟨v1, l_v1, rfl, k_v1, hu_v1⟩ := Kinds.cons_ hu
    obtain ⟨s3, rfl⟩ := kind_string k_v1
    obtain rfl := Kinds.nil_ hu_v1
    constructor
    · intro h X hX
      exact h (fun i2 w => X [.int .i64 i2] w) (fun i2 w hb => hX [.int .i64 i2] w ⟨rfl, trivial⟩ hb)
    · intro h X hX
      exact h (fun l w => match l with | [v0] => X (pInt v0) w | _ => True) (fun l w hl hb => by
        obtain ⟨v0, l_v0, rfl, k_v0, hl_v0⟩ := Kinds.cons_ hl
        obtain ⟨i2, rfl⟩ := kind_int k_v0
        obtain rfl := Kinds.nil_ hl_v0
        exact hX i2 w hb)

def T_ref08_Prefix (s1 : ByteArray) (w : World) (R : Ending → World → Prop) : Prop :=
  T_ref08_Prefix_1 0 s1 w (fun w10 => if (decide (((s1.size : Nat) : Int) ≥ 1)) = true then (if (decide (((s1.size : Nat) : Int) ≤ 128)) = true then (0 ≤ (0 : Int) ∧ ∃ c11, s1[(0 : Int).toNat]? = some c11 ∧ if (((c11.toNat : Nat) : Int) == 47) = true then (Calls Tryz.prog 44 #[.string s1] w10 (ret (fun r12 w13 => ∃ b14 : Bool, r12 = .bool b14 ∧ R (.returned (.bool b14)) w13) (pan R))) else (R (.returned (.bool false)) w10)) else (R (.returned (.bool false)) w10)) else (R (.returned (.bool false)) w10)) (fun b15 w16 => R (.returned (.bool b15)) w16) (pan R)

theorem T_ref08_Prefix_hl : allP (hokL Tryz.prog (hookAt [(13, H_ref08_Prefix_1)]) (bodyOf Tryz.f22) 1) = (UnitOk Tryz.prog H_ref08_Prefix_1 (at_ (bodyOf Tryz.f22) [1, 0, 1]) 13 ∧ True) := by kernel_rfl

theorem T_ref08_Prefix_eq (s1 : ByteArray) (w : World) (R : Ending → World → Prop) : vcCode Tryz.prog (hookAt [(13, H_ref08_Prefix_1)]) (bodyOf Tryz.f22) 1 ⟨argEnv [.string s1] 0, Tryz.f22.ntmps, []⟩ w (finQ Tryz.prog Tryz.f22.results.toList R) = T_ref08_Prefix s1 w R := by kernel_rfl

theorem T_ref08_Prefix_b : Tryz.f22.body = some (bodyOf Tryz.f22) := by kernel_rfl
theorem T_ref08_Prefix_s : (quietSel (bodyOf Tryz.f22) && Nat.ble 1 Tryz.f22.ntmps) = true := by kernel_rfl

theorem C_ref08_Prefix {s1 : ByteArray} {w : World} {R : Ending → World → Prop} (h : T_ref08_Prefix s1 w R) : Calls Tryz.prog 22 #[.string s1] w R :=
  calls_of_text (args := [.string s1]) mixed Tryz.func22 T_ref08_Prefix_b T_ref08_Prefix_s (HOk_of _ _ (by rw [T_ref08_Prefix_hl]; exact ⟨T_ref08_Prefix_1_ok, trivial⟩)) (by rw [T_ref08_Prefix_eq]; exact h)

/-! tollgate/conf.Check -/
def T_conf_Check_1 (c10 : Addr) (w : World) (Kn : Bool → World → Prop) (Kp : List PanicEntry → World → Prop) : Prop :=
  ∃ x11 : Int, rd w c10 (.int .i64 x11) ∧ if ((x11 : Int) == 1) = true then (Kn true w) else (∃ x12 : Int, rd w c10 (.int .i64 x12) ∧ if ((x12 : Int) == 2) = true then (Kn true w) else (∃ x13 : Int, rd w c10 (.int .i64 x13) ∧ Kn ((x13 : Int) == 3) w))

def T_conf_Check_1_outs : Exit → Option (List (Nat × Value)) := fun x => match x with | .normal => some [(3, .bool false)] | .panic _ => some [] | _ => none

def T_conf_Check_1_ks : Nat → Bool := ksOf [3, 6, 7, 8, 9, 10, 11, 12, 13, 14, 15, 16, 17, 18]

def H_conf_Check_1 : Env → World → QT → Prop := unitHook 118 T_conf_Check_1_ks [(1, .pointer (some ⟨0, 0, none⟩))] T_conf_Check_1_outs fun l w C => match l with | [v0] => T_conf_Check_1 (pAddr v0) w (fun pool15 w => C .normal [.bool pool15] w) (fun ch w => C (.panic ch) [] w) | _ => False

theorem T_conf_Check_1_hl : allP (hokL Tryz.prog (hookAt []) (at_ (bodyOf Tryz.f23) [1, 0]) 6) = (True) := by kernel_rfl
theorem T_conf_Check_1_hok : HOk Tryz.prog (hookAt []) (at_ (bodyOf Tryz.f23) [1, 0]) 6 := HOk_of _ _ (by rw [T_conf_Check_1_hl]; exact trivial)

theorem T_conf_Check_1_eq (C : Conts) (c10 : Addr) (w : World) : vcCode Tryz.prog (hookAt []) (at_ (bodyOf Tryz.f23) [1, 0]) 6 ⟨[(1, .pointer (some c10))], 118, []⟩ w (unitQ T_conf_Check_1_outs C) = T_conf_Check_1 c10 w (fun pool16 w => C .normal [.bool pool16] w) (fun ch w => C (.panic ch) [] w) := by kernel_rfl

theorem T_conf_Check_1_ok : UnitOk Tryz.prog H_conf_Check_1 (at_ (bodyOf Tryz.f23) [1, 0]) 6 := unit_ok (H := (hookAt [])) (by kernel_rfl) T_conf_Check_1_hok fun l w C hk => by
    obtain ⟨v0, l_v0, rfl, k_v0, hk_v0⟩ := Kinds.cons_ hk
    obtain ⟨c10, rfl⟩ := kind_addr k_v0
    obtain rfl := Kinds.nil_ hk_v0
    exact T_conf_Check_1_eq C c10 w

def T_conf_Check_2 (c19 : Addr) (w : World) (Kn : Bool → World → Prop) (Kp : List PanicEntry → World → Prop) : Prop :=
  ∃ x20 : Int, rd w c19 (.int .i64 x20) ∧ if ((x20 : Int) == 3) = true then (Kn true w) else (∃ x21 : Int, rd w c19 (.int .i64 x21) ∧ Kn ((x21 : Int) == 4) w)

def T_conf_Check_2_outs : Exit → Option (List (Nat × Value)) := fun x => match x with | .normal => some [(4, .bool false)] | .panic _ => some [] | _ => none

def T_conf_Check_2_ks : Nat → Bool := ksOf [4, 19, 20, 21, 22, 23, 24, 25, 26]

def H_conf_Check_2 : Env → World → QT → Prop := unitHook 118 T_conf_Check_2_ks [(1, .pointer (some ⟨0, 0, none⟩))] T_conf_Check_2_outs fun l w C => match l with | [v0] => T_conf_Check_2 (pAddr v0) w (fun route23 w => C .normal [.bool route23] w) (fun ch w => C (.panic ch) [] w) | _ => False

theorem T_conf_Check_2_hl : allP (hokL Tryz.prog (hookAt []) (at_ (bodyOf Tryz.f23) [1, 1, 0]) 14) = (True) := by kernel_rfl
theorem T_conf_Check_2_hok : HOk Tryz.prog (hookAt []) (at_ (bodyOf Tryz.f23) [1, 1, 0]) 14 := HOk_of _ _ (by rw [T_conf_Check_2_hl]; exact trivial)

theorem T_conf_Check_2_eq (C : Conts) (c19 : Addr) (w : World) : vcCode Tryz.prog (hookAt []) (at_ (bodyOf Tryz.f23) [1, 1, 0]) 14 ⟨[(1, .pointer (some c19))], 118, []⟩ w (unitQ T_conf_Check_2_outs C) = T_conf_Check_2 c19 w (fun route24 w => C .normal [.bool route24] w) (fun ch w => C (.panic ch) [] w) := by kernel_rfl

theorem T_conf_Check_2_ok : UnitOk Tryz.prog H_conf_Check_2 (at_ (bodyOf Tryz.f23) [1, 1, 0]) 14 := unit_ok (H := (hookAt [])) (by kernel_rfl) T_conf_Check_2_hok fun l w C hk => by
    obtain ⟨v0, l_v0, rfl, k_v0, hk_v0⟩ := Kinds.cons_ hk
    obtain ⟨c19, rfl⟩ := kind_addr k_v0
    obtain rfl := Kinds.nil_ hk_v0
    exact T_conf_Check_2_eq C c19 w

def T_conf_Check_3 (c29 : Addr) (seq30 : Bool) (b31 : Bool) (w : World) (Kn : Bool → World → Prop) (Kp : List PanicEntry → World → Prop) : Prop :=
  if b31 = true then (∃ x32 : Int, rd w (c29.add 2) (.int .i64 x32) ∧ if (decide ((x32 : Int) ≥ 1)) = true then (∃ x33 : Int, rd w (c29.add 2) (.int .i64 x33) ∧ Kn (decide ((x33 : Int) ≤ 1099511627776)) w) else (Kn false w)) else (Kn seq30 w)

def T_conf_Check_3_outs : Exit → Option (List (Nat × Value)) := fun x => match x with | .normal => some [(5, .bool false)] | .panic _ => some [] | _ => none

def T_conf_Check_3_ks : Nat → Bool := ksOf [5, 33, 34, 35, 36, 37, 38, 39, 40]

def H_conf_Check_3 : Env → World → QT → Prop := unitHook 118 T_conf_Check_3_ks [(1, .pointer (some ⟨0, 0, none⟩)), (5, .bool false), (32, .bool false)] T_conf_Check_3_outs fun l w C => match l with | [v0, v1, v2] => T_conf_Check_3 (pAddr v0) (pBool v1) (pBool v2) w (fun seq35 w => C .normal [.bool seq35] w) (fun ch w => C (.panic ch) [] w) | _ => False

theorem T_conf_Check_3_hl : allP (hokL Tryz.prog (hookAt []) (at_ (bodyOf Tryz.f23) [1, 1, 1, 1, 0, 1]) 125) = (True) := by kernel_rfl
theorem T_conf_Check_3_hok : HOk Tryz.prog (hookAt []) (at_ (bodyOf Tryz.f23) [1, 1, 1, 1, 0, 1]) 125 := HOk_of _ _ (by rw [T_conf_Check_3_hl]; exact trivial)

theorem T_conf_Check_3_eq (C : Conts) (c29 : Addr) (seq30 : Bool) (b31 : Bool) (w : World) : vcCode Tryz.prog (hookAt []) (at_ (bodyOf Tryz.f23) [1, 1, 1, 1, 0, 1]) 125 ⟨[(1, .pointer (some c29)), (5, .bool seq30), (32, .bool b31)], 118, []⟩ w (unitQ T_conf_Check_3_outs C) = T_conf_Check_3 c29 seq30 b31 w (fun seq36 w => C .normal [.bool seq36] w) (fun ch w => C (.panic ch) [] w) := by kernel_rfl

theorem T_conf_Check_3_ok : UnitOk Tryz.prog H_conf_Check_3 (at_ (bodyOf Tryz.f23) [1, 1, 1, 1, 0, 1]) 125 := unit_ok (H := (hookAt [])) (by kernel_rfl) T_conf_Check_3_hok fun l w C hk => by
    obtain ⟨v0, l_v0, rfl, k_v0, hk_v0⟩ := Kinds.cons_ hk
    obtain ⟨c29, rfl⟩ := kind_addr k_v0
    obtain ⟨v1, l_v1, rfl, k_v1, hk_v1⟩ := Kinds.cons_ hk_v0
    obtain ⟨seq30, rfl⟩ := kind_bool k_v1
    obtain ⟨v2, l_v2, rfl, k_v2, hk_v2⟩ := Kinds.cons_ hk_v1
    obtain ⟨b31, rfl⟩ := kind_bool k_v2
    obtain rfl := Kinds.nil_ hk_v2
    exact T_conf_Check_3_eq C c29 seq30 b31 w

def T_conf_Check_4 (pool39 : Bool) (route40 : Bool) (w : World) (Kn : Bool → World → Prop) (Kp : List PanicEntry → World → Prop) : Prop :=
  if (!pool39) = true then (Kn (!route40) w) else (Kn false w)

def T_conf_Check_4_outs : Exit → Option (List (Nat × Value)) := fun x => match x with | .normal => some [(41, .bool false)] | .panic _ => some [] | _ => none

def T_conf_Check_4_ks : Nat → Bool := ksOf [41, 42, 43, 44, 45, 46, 47]

def H_conf_Check_4 : Env → World → QT → Prop := unitHook 118 T_conf_Check_4_ks [(3, .bool false), (4, .bool false)] T_conf_Check_4_outs fun l w C => match l with | [v0, v1] => T_conf_Check_4 (pBool v0) (pBool v1) w (fun b42 w => C .normal [.bool b42] w) (fun ch w => C (.panic ch) [] w) | _ => False

theorem T_conf_Check_4_hl : allP (hokL Tryz.prog (hookAt []) (at_ (bodyOf Tryz.f23) [1, 1, 1, 1, 1, 0, 0, 0, 0]) 1008) = (True) := by kernel_rfl
theorem T_conf_Check_4_hok : HOk Tryz.prog (hookAt []) (at_ (bodyOf Tryz.f23) [1, 1, 1, 1, 1, 0, 0, 0, 0]) 1008 := HOk_of _ _ (by rw [T_conf_Check_4_hl]; exact trivial)

theorem T_conf_Check_4_eq (C : Conts) (pool39 : Bool) (route40 : Bool) (w : World) : vcCode Tryz.prog (hookAt []) (at_ (bodyOf Tryz.f23) [1, 1, 1, 1, 1, 0, 0, 0, 0]) 1008 ⟨[(3, .bool pool39), (4, .bool route40)], 118, []⟩ w (unitQ T_conf_Check_4_outs C) = T_conf_Check_4 pool39 route40 w (fun b43 w => C .normal [.bool b43] w) (fun ch w => C (.panic ch) [] w) := by kernel_rfl

theorem T_conf_Check_4_ok : UnitOk Tryz.prog H_conf_Check_4 (at_ (bodyOf Tryz.f23) [1, 1, 1, 1, 1, 0, 0, 0, 0]) 1008 := unit_ok (H := (hookAt [])) (by kernel_rfl) T_conf_Check_4_hok fun l w C hk => by
    obtain ⟨v0, l_v0, rfl, k_v0, hk_v0⟩ := Kinds.cons_ hk
    obtain ⟨pool39, rfl⟩ := kind_bool k_v0
    obtain ⟨v1, l_v1, rfl, k_v1, hk_v1⟩ := Kinds.cons_ hk_v0
    obtain ⟨route40, rfl⟩ := kind_bool k_v1
    obtain rfl := Kinds.nil_ hk_v1
    exact T_conf_Check_4_eq C pool39 route40 w

def T_conf_Check_6 (c51 : Addr) (w : World) (Kn : Bool → World → Prop) (Kp : List PanicEntry → World → Prop) : Prop :=
  ∃ x52 : Int, rd w (c51.add 1) (.int .i64 x52) ∧ if (decide ((x52 : Int) < 0)) = true then (Kn true w) else (∃ x53 : Int, rd w (c51.add 1) (.int .i64 x53) ∧ Kn (decide ((x53 : Int) > 32)) w)

def T_conf_Check_6_outs : Exit → Option (List (Nat × Value)) := fun x => match x with | .normal => some [(41, .bool false)] | .panic _ => some [] | _ => none

def T_conf_Check_6_ks : Nat → Bool := ksOf [41, 48, 49, 50, 51, 52, 53, 54, 55]

def H_conf_Check_6 : Env → World → QT → Prop := unitHook 118 T_conf_Check_6_ks [(1, .pointer (some ⟨0, 0, none⟩))] T_conf_Check_6_outs fun l w C => match l with | [v0] => T_conf_Check_6 (pAddr v0) w (fun b55 w => C .normal [.bool b55] w) (fun ch w => C (.panic ch) [] w) | _ => False

theorem T_conf_Check_6_hl : allP (hokL Tryz.prog (hookAt []) (at_ (bodyOf Tryz.f23) [1, 1, 1, 1, 1, 0, 0, 0, 1, 1, 0]) 4038) = (True) := by kernel_rfl
theorem T_conf_Check_6_hok : HOk Tryz.prog (hookAt []) (at_ (bodyOf Tryz.f23) [1, 1, 1, 1, 1, 0, 0, 0, 1, 1, 0]) 4038 := HOk_of _ _ (by rw [T_conf_Check_6_hl]; exact trivial)

theorem T_conf_Check_6_eq (C : Conts) (c51 : Addr) (w : World) : vcCode Tryz.prog (hookAt []) (at_ (bodyOf Tryz.f23) [1, 1, 1, 1, 1, 0, 0, 0, 1, 1, 0]) 4038 ⟨[(1, .pointer (some c51))], 118, []⟩ w (unitQ T_conf_Check_6_outs C) = T_conf_Check_6 c51 w (fun b56 w => C .normal [.bool b56] w) (fun ch w => C (.panic ch) [] w) := by kernel_rfl

theorem T_conf_Check_6_ok : UnitOk Tryz.prog H_conf_Check_6 (at_ (bodyOf Tryz.f23) [1, 1, 1, 1, 1, 0, 0, 0, 1, 1, 0]) 4038 := unit_ok (H := (hookAt [])) (by kernel_rfl) T_conf_Check_6_hok fun l w C hk => by
    obtain ⟨v0, l_v0, rfl, k_v0, hk_v0⟩ := Kinds.cons_ hk
    obtain ⟨c51, rfl⟩ := kind_addr k_v0
    obtain rfl := Kinds.nil_ hk_v0
    exact T_conf_Check_6_eq C c51 w

def T_conf_Check_7 (c59 : Addr) (w : World) (Kn : Bool → World → Prop) (Kp : List PanicEntry → World → Prop) : Prop :=
  ∃ x60 : Int, rd w (c59.add 3) (.int .i64 x60) ∧ if (decide ((x60 : Int) < (-1))) = true then (Kn true w) else (∃ x61 : Int, rd w (c59.add 3) (.int .i64 x61) ∧ Kn (decide ((x61 : Int) ≥ 1099511627776)) w)

def T_conf_Check_7_outs : Exit → Option (List (Nat × Value)) := fun x => match x with | .normal => some [(41, .bool false)] | .panic _ => some [] | _ => none

def T_conf_Check_7_ks : Nat → Bool := ksOf [41, 58, 59, 60, 61, 62, 63, 64, 65]

def H_conf_Check_7 : Env → World → QT → Prop := unitHook 118 T_conf_Check_7_ks [(1, .pointer (some ⟨0, 0, none⟩))] T_conf_Check_7_outs fun l w C => match l with | [v0] => T_conf_Check_7 (pAddr v0) w (fun b63 w => C .normal [.bool b63] w) (fun ch w => C (.panic ch) [] w) | _ => False

theorem T_conf_Check_7_hl : allP (hokL Tryz.prog (hookAt []) (at_ (bodyOf Tryz.f23) [1, 1, 1, 1, 1, 0, 0, 0, 1, 1, 1, 1, 1, 1, 0]) 64638) = (True) := by kernel_rfl
theorem T_conf_Check_7_hok : HOk Tryz.prog (hookAt []) (at_ (bodyOf Tryz.f23) [1, 1, 1, 1, 1, 0, 0, 0, 1, 1, 1, 1, 1, 1, 0]) 64638 := HOk_of _ _ (by rw [T_conf_Check_7_hl]; exact trivial)

theorem T_conf_Check_7_eq (C : Conts) (c59 : Addr) (w : World) : vcCode Tryz.prog (hookAt []) (at_ (bodyOf Tryz.f23) [1, 1, 1, 1, 1, 0, 0, 0, 1, 1, 1, 1, 1, 1, 0]) 64638 ⟨[(1, .pointer (some c59))], 118, []⟩ w (unitQ T_conf_Check_7_outs C) = T_conf_Check_7 c59 w (fun b64 w => C .normal [.bool b64] w) (fun ch w => C (.panic ch) [] w) := by kernel_rfl

theorem T_conf_Check_7_ok : UnitOk Tryz.prog H_conf_Check_7 (at_ (bodyOf Tryz.f23) [1, 1, 1, 1, 1, 0, 0, 0, 1, 1, 1, 1, 1, 1, 0]) 64638 := unit_ok (H := (hookAt [])) (by kernel_rfl) T_conf_Check_7_hok fun l w C hk => by
    obtain ⟨v0, l_v0, rfl, k_v0, hk_v0⟩ := Kinds.cons_ hk
    obtain ⟨c59, rfl⟩ := kind_addr k_v0
    obtain rfl := Kinds.nil_ hk_v0
    exact T_conf_Check_7_eq C c59 w

def T_conf_Check_8 (c67 : Addr) (pool68 : Bool) (w : World) (Kn : Bool → World → Prop) (Kp : List PanicEntry → World → Prop) : Prop :=
  if (!pool68) = true then (∃ s69 : ByteArray, rd w (c67.add 6) (.string s69) ∧ Kn (!(s69.toList == (ByteArray.mk #[]).toList)) w) else (Kn false w)

def T_conf_Check_8_outs : Exit → Option (List (Nat × Value)) := fun x => match x with | .normal => some [(41, .bool false)] | .panic _ => some [] | _ => none

def T_conf_Check_8_ks : Nat → Bool := ksOf [41, 66, 67, 68, 69, 70, 71, 72]

def H_conf_Check_8 : Env → World → QT → Prop := unitHook 118 T_conf_Check_8_ks [(1, .pointer (some ⟨0, 0, none⟩)), (3, .bool false)] T_conf_Check_8_outs fun l w C => match l with | [v0, v1] => T_conf_Check_8 (pAddr v0) (pBool v1) w (fun b71 w => C .normal [.bool b71] w) (fun ch w => C (.panic ch) [] w) | _ => False

theorem T_conf_Check_8_hl : allP (hokL Tryz.prog (hookAt []) (at_ (bodyOf Tryz.f23) [1, 1, 1, 1, 1, 0, 0, 0, 1, 1, 1, 1, 1, 1, 1, 1, 0]) 258558) = (True) := by kernel_rfl
theorem T_conf_Check_8_hok : HOk Tryz.prog (hookAt []) (at_ (bodyOf Tryz.f23) [1, 1, 1, 1, 1, 0, 0, 0, 1, 1, 1, 1, 1, 1, 1, 1, 0]) 258558 := HOk_of _ _ (by rw [T_conf_Check_8_hl]; exact trivial)

theorem T_conf_Check_8_eq (C : Conts) (c67 : Addr) (pool68 : Bool) (w : World) : vcCode Tryz.prog (hookAt []) (at_ (bodyOf Tryz.f23) [1, 1, 1, 1, 1, 0, 0, 0, 1, 1, 1, 1, 1, 1, 1, 1, 0]) 258558 ⟨[(1, .pointer (some c67)), (3, .bool pool68)], 118, []⟩ w (unitQ T_conf_Check_8_outs C) = T_conf_Check_8 c67 pool68 w (fun b72 w => C .normal [.bool b72] w) (fun ch w => C (.panic ch) [] w) := by kernel_rfl

theorem T_conf_Check_8_ok : UnitOk Tryz.prog H_conf_Check_8 (at_ (bodyOf Tryz.f23) [1, 1, 1, 1, 1, 0, 0, 0, 1, 1, 1, 1, 1, 1, 1, 1, 0]) 258558 := unit_ok (H := (hookAt [])) (by kernel_rfl) T_conf_Check_8_hok fun l w C hk => by
    obtain ⟨v0, l_v0, rfl, k_v0, hk_v0⟩ := Kinds.cons_ hk
    obtain ⟨c67, rfl⟩ := kind_addr k_v0
    obtain ⟨v1, l_v1, rfl, k_v1, hk_v1⟩ := Kinds.cons_ hk_v0
    obtain ⟨pool68, rfl⟩ := kind_bool k_v1
    obtain rfl := Kinds.nil_ hk_v1
    exact T_conf_Check_8_eq C c67 pool68 w

def T_conf_Check_9 (c75 : Addr) (route76 : Bool) (w : World) (Kn : Bool → World → Prop) (Kp : List PanicEntry → World → Prop) : Prop :=
  if (!route76) = true then (∃ s77 : ByteArray, rd w (c75.add 4) (.string s77) ∧ if (!(s77.toList == (ByteArray.mk #[]).toList)) = true then (Kn true w) else (∃ s78 : ByteArray, rd w (c75.add 5) (.string s78) ∧ Kn (!(s78.toList == (ByteArray.mk #[]).toList)) w)) else (Kn false w)

def T_conf_Check_9_outs : Exit → Option (List (Nat × Value)) := fun x => match x with | .normal => some [(41, .bool false)] | .panic _ => some [] | _ => none

def T_conf_Check_9_ks : Nat → Bool := ksOf [41, 73, 74, 75, 76, 77, 78, 79, 80, 81, 82, 83, 84]

def H_conf_Check_9 : Env → World → QT → Prop := unitHook 118 T_conf_Check_9_ks [(1, .pointer (some ⟨0, 0, none⟩)), (4, .bool false)] T_conf_Check_9_outs fun l w C => match l with | [v0, v1] => T_conf_Check_9 (pAddr v0) (pBool v1) w (fun b80 w => C .normal [.bool b80] w) (fun ch w => C (.panic ch) [] w) | _ => False

theorem T_conf_Check_9_hl : allP (hokL Tryz.prog (hookAt []) (at_ (bodyOf Tryz.f23) [1, 1, 1, 1, 1, 0, 0, 0, 1, 1, 1, 1, 1, 1, 1, 1, 1, 1, 0]) 1034238) = (True) := by kernel_rfl
theorem T_conf_Check_9_hok : HOk Tryz.prog (hookAt []) (at_ (bodyOf Tryz.f23) [1, 1, 1, 1, 1, 0, 0, 0, 1, 1, 1, 1, 1, 1, 1, 1, 1, 1, 0]) 1034238 := HOk_of _ _ (by rw [T_conf_Check_9_hl]; exact trivial)

theorem T_conf_Check_9_eq (C : Conts) (c75 : Addr) (route76 : Bool) (w : World) : vcCode Tryz.prog (hookAt []) (at_ (bodyOf Tryz.f23) [1, 1, 1, 1, 1, 0, 0, 0, 1, 1, 1, 1, 1, 1, 1, 1, 1, 1, 0]) 1034238 ⟨[(1, .pointer (some c75)), (4, .bool route76)], 118, []⟩ w (unitQ T_conf_Check_9_outs C) = T_conf_Check_9 c75 route76 w (fun b81 w => C .normal [.bool b81] w) (fun ch w => C (.panic ch) [] w) := by kernel_rfl

theorem T_conf_Check_9_ok : UnitOk Tryz.prog H_conf_Check_9 (at_ (bodyOf Tryz.f23) [1, 1, 1, 1, 1, 0, 0, 0, 1, 1, 1, 1, 1, 1, 1, 1, 1, 1, 0]) 1034238 := unit_ok (H := (hookAt [])) (by kernel_rfl) T_conf_Check_9_hok fun l w C hk => by
    obtain ⟨v0, l_v0, rfl, k_v0, hk_v0⟩ := Kinds.cons_ hk
    obtain ⟨c75, rfl⟩ := kind_addr k_v0
    obtain ⟨v1, l_v1, rfl, k_v1, hk_v1⟩ := Kinds.cons_ hk_v0
    obtain ⟨route76, rfl⟩ := kind_bool k_v1
    obtain rfl := Kinds.nil_ hk_v1
    exact T_conf_Check_9_eq C c75 route76 w

def T_conf_Check_5 (c46 : Addr) (pool47 : Bool) (route48 : Bool) (seq49 : Bool) (b50 : Bool) (w : World) (Kn : Bool → World → Prop) (Kp : List PanicEntry → World → Prop) : Prop :=
  if b50 = true then (Kn b50 w) else (T_conf_Check_6 c46 w (fun b57 w58 => if b57 = true then (Kn b57 w58) else (if (!seq49) = true then (Kn (!seq49) w58) else (T_conf_Check_7 c46 w58 (fun b65 w66 => if b65 = true then (Kn b65 w66) else (T_conf_Check_8 c46 pool47 w66 (fun b73 w74 => if b73 = true then (Kn b73 w74) else (T_conf_Check_9 c46 route48 w74 (fun b82 w83 => if b82 = true then (Kn b82 w83) else (∃ x84 : Int, rd w83 c46 (.int .i64 x84) ∧ if ((x84 : Int) != 1) = true then (∃ s85a : Option Addr, ∃ s85l : Nat, ∃ s85c : Nat, rd w83 (c46.add 7) (.slice s85a s85l s85c) ∧ Kn (decide (((s85l : Nat) : Int) > 0)) w83) else (Kn false w83))) Kp)) Kp)) Kp))) Kp)

def T_conf_Check_5_outs : Exit → Option (List (Nat × Value)) := fun x => match x with | .normal => some [(41, .bool false)] | .panic _ => some [] | _ => none

def T_conf_Check_5_ks : Nat → Bool := ksOf [41, 48, 49, 50, 51, 52, 53, 54, 55, 56, 57, 58, 59, 60, 61, 62, 63, 64, 65, 66, 67, 68, 69, 70, 71, 72, 73, 74, 75, 76, 77, 78, 79, 80, 81, 82, 83, 84, 85, 86, 87, 88, 89, 90, 91, 92, 93]

def H_conf_Check_5 : Env → World → QT → Prop := unitHook 118 T_conf_Check_5_ks [(1, .pointer (some ⟨0, 0, none⟩)), (3, .bool false), (4, .bool false), (5, .bool false), (41, .bool false)] T_conf_Check_5_outs fun l w C => match l with | [v0, v1, v2, v3, v4] => T_conf_Check_5 (pAddr v0) (pBool v1) (pBool v2) (pBool v3) (pBool v4) w (fun b87 w => C .normal [.bool b87] w) (fun ch w => C (.panic ch) [] w) | _ => False

theorem T_conf_Check_5_hl : allP (hokL Tryz.prog (hookAt [(4038, H_conf_Check_6), (64638, H_conf_Check_7), (258558, H_conf_Check_8), (1034238, H_conf_Check_9)]) (at_ (bodyOf Tryz.f23) [1, 1, 1, 1, 1, 0, 0, 0, 1]) 1009) = (UnitOk Tryz.prog H_conf_Check_6 (at_ (bodyOf Tryz.f23) [1, 1, 1, 1, 1, 0, 0, 0, 1, 1, 0]) 4038 ∧ UnitOk Tryz.prog H_conf_Check_7 (at_ (bodyOf Tryz.f23) [1, 1, 1, 1, 1, 0, 0, 0, 1, 1, 1, 1, 1, 1, 0]) 64638 ∧ UnitOk Tryz.prog H_conf_Check_8 (at_ (bodyOf Tryz.f23) [1, 1, 1, 1, 1, 0, 0, 0, 1, 1, 1, 1, 1, 1, 1, 1, 0]) 258558 ∧ UnitOk Tryz.prog H_conf_Check_9 (at_ (bodyOf Tryz.f23) [1, 1, 1, 1, 1, 0, 0, 0, 1, 1, 1, 1, 1, 1, 1, 1, 1, 1, 0]) 1034238 ∧ True) := by kernel_rfl
theorem T_conf_Check_5_hok : HOk Tryz.prog (hookAt [(4038, H_conf_Check_6), (64638, H_conf_Check_7), (258558, H_conf_Check_8), (1034238, H_conf_Check_9)]) (at_ (bodyOf Tryz.f23) [1, 1, 1, 1, 1, 0, 0, 0, 1]) 1009 := HOk_of _ _ (by rw [T_conf_Check_5_hl]; exact ⟨T_conf_Check_6_ok, T_conf_Check_7_ok, T_conf_Check_8_ok, T_conf_Check_9_ok, trivial⟩)

theorem T_conf_Check_5_eq (C : Conts) (c46 : Addr) (pool47 : Bool) (route48 : Bool) (seq49 : Bool) (b50 : Bool) (w : World) : vcCode Tryz.prog (hookAt [(4038, H_conf_Check_6), (64638, H_conf_Check_7), (258558, H_conf_Check_8), (1034238, H_conf_Check_9)]) (at_ (bodyOf Tryz.f23) [1, 1, 1, 1, 1, 0, 0, 0, 1]) 1009 ⟨[(1, .pointer (some c46)), (3, .bool pool47), (4, .bool route48), (5, .bool seq49), (41, .bool b50)], 118, []⟩ w (unitQ T_conf_Check_5_outs C) = T_conf_Check_5 c46 pool47 route48 seq49 b50 w (fun b88 w => C .normal [.bool b88] w) (fun ch w => C (.panic ch) [] w) := by kernel_rfl

theorem T_conf_Check_5_ok : UnitOk Tryz.prog H_conf_Check_5 (at_ (bodyOf Tryz.f23) [1, 1, 1, 1, 1, 0, 0, 0, 1]) 1009 := unit_ok (H := (hookAt [(4038, H_conf_Check_6), (64638, H_conf_Check_7), (258558, H_conf_Check_8), (1034238, H_conf_Check_9)])) (by kernel_rfl) T_conf_Check_5_hok fun l w C hk => by
    obtain ⟨v0, l_v0, rfl, k_v0, hk_v0⟩ := Kinds.cons_ hk
    obtain ⟨c46, rfl⟩ := kind_addr k_v0
    obtain ⟨v1, l_v1, rfl, k_v1, hk_v1⟩ := Kinds.cons_ hk_v0
    obtain ⟨pool47, rfl⟩ := kind_bool k_v1
    obtain ⟨v2, l_v2, rfl, k_v2, hk_v2⟩ := Kinds.cons_ hk_v1
    obtain ⟨route48, rfl⟩ := kind_bool k_v2
    obtain ⟨v3, l_v3, rfl, k_v3, hk_v3⟩ := Kinds.cons_ hk_v2
    obtain ⟨seq49, rfl⟩ := kind_bool k_v3
    obtain ⟨v4, l_v4, rfl, k_v4, hk_v4⟩ := Kinds.cons_ hk_v3
    obtain ⟨b50, rfl⟩ := kind_bool k_v4
    obtain rfl := Kinds.nil_ hk_v4
    exact T_conf_Check_5_eq C c46 pool47 route48 seq49 b50 w

def T_conf_Check_10 (c91 : Addr) (pool92 : Bool) (w : World) (Kn : Bool → World → Prop) (Kp : List PanicEntry → World → Prop) : Prop :=
  if pool92 = true then (∃ s93 : ByteArray, rd w (c91.add 6) (.string s93) ∧ Calls Tryz.prog 45 #[.string s93] w (ret (fun r94 w95 => ∃ b96 : Bool, r94 = .bool b96 ∧ Kn (!b96) w95) Kp)) else (Kn false w)

def T_conf_Check_10_outs : Exit → Option (List (Nat × Value)) := fun x => match x with | .normal => some [(94, .bool false)] | .panic _ => some [] | _ => none

def T_conf_Check_10_ks : Nat → Bool := ksOf [94, 95, 96, 97, 98, 99, 100, 101]

def H_conf_Check_10 : Env → World → QT → Prop := unitHook 118 T_conf_Check_10_ks [(1, .pointer (some ⟨0, 0, none⟩)), (3, .bool false)] T_conf_Check_10_outs fun l w C => match l with | [v0, v1] => T_conf_Check_10 (pAddr v0) (pBool v1) w (fun b98 w => C .normal [.bool b98] w) (fun ch w => C (.panic ch) [] w) | _ => False

theorem T_conf_Check_10_hl : allP (hokL Tryz.prog (hookAt []) (at_ (bodyOf Tryz.f23) [1, 1, 1, 1, 1, 0, 0, 1, 1, 0, 0]) 4044) = (True) := by kernel_rfl
theorem T_conf_Check_10_hok : HOk Tryz.prog (hookAt []) (at_ (bodyOf Tryz.f23) [1, 1, 1, 1, 1, 0, 0, 1, 1, 0, 0]) 4044 := HOk_of _ _ (by rw [T_conf_Check_10_hl]; exact trivial)

theorem T_conf_Check_10_eq (C : Conts) (c91 : Addr) (pool92 : Bool) (w : World) : vcCode Tryz.prog (hookAt []) (at_ (bodyOf Tryz.f23) [1, 1, 1, 1, 1, 0, 0, 1, 1, 0, 0]) 4044 ⟨[(1, .pointer (some c91)), (3, .bool pool92)], 118, []⟩ w (unitQ T_conf_Check_10_outs C) = T_conf_Check_10 c91 pool92 w (fun b99 w => C .normal [.bool b99] w) (fun ch w => C (.panic ch) [] w) := by kernel_rfl

theorem T_conf_Check_10_ok : UnitOk Tryz.prog H_conf_Check_10 (at_ (bodyOf Tryz.f23) [1, 1, 1, 1, 1, 0, 0, 1, 1, 0, 0]) 4044 := unit_ok (H := (hookAt [])) (by kernel_rfl) T_conf_Check_10_hok fun l w C hk => by
    obtain ⟨v0, l_v0, rfl, k_v0, hk_v0⟩ := Kinds.cons_ hk
    obtain ⟨c91, rfl⟩ := kind_addr k_v0
    obtain ⟨v1, l_v1, rfl, k_v1, hk_v1⟩ := Kinds.cons_ hk_v0
    obtain ⟨pool92, rfl⟩ := kind_bool k_v1
    obtain rfl := Kinds.nil_ hk_v1
    exact T_conf_Check_10_eq C c91 pool92 w

def T_conf_Check (x1 : Int) (x2 : Int) (x3 : Int) (x4 : Int) (s5 : ByteArray) (s6 : ByteArray) (s7 : ByteArray) (s8a : Option Addr) (s8l : Nat) (s8c : Nat) (w : World) (R : Ending → World → Prop) : Prop :=
  let w9 : World := w.alloc (.cells #[.int .i64 x1, .int .i64 x2, .int .i64 x3, .int .i64 x4, .string s5, .string s6, .string s7, .slice s8a s8l s8c] 42)
  T_conf_Check_1 (⟨w.heap.size, 0, none⟩ : Addr) w9 (fun pool17 w18 => T_conf_Check_2 (⟨w.heap.size, 0, none⟩ : Addr) w18 (fun route25 w26 => ∃ x27 : Int, rd w26 ((⟨w.heap.size, 0, none⟩ : Addr).add 2) (.int .i64 x27) ∧ ∃ x28 : Int, rd w26 ((⟨w.heap.size, 0, none⟩ : Addr).add 1) (.int .i64 x28) ∧ T_conf_Check_3 (⟨w.heap.size, 0, none⟩ : Addr) ((x27 : Int) == 0) ((x28 : Int) != 0) w26 (fun seq37 w38 => T_conf_Check_4 pool17 route25 w38 (fun b44 w45 => T_conf_Check_5 (⟨w.heap.size, 0, none⟩ : Addr) pool17 route25 seq37 b44 w45 (fun b89 w90 => if b89 = true then (R (.returned (.int .i64 2)) w90) else (T_conf_Check_10 (⟨w.heap.size, 0, none⟩ : Addr) pool17 w90 (fun b100 w101 => if b100 = true then (if b100 = true then (R (.returned (.int .i64 14)) w101) else (∃ s102a : Option Addr, ∃ s102l : Nat, ∃ s102c : Nat, rd w101 ((⟨w.heap.size, 0, none⟩ : Addr).add 7) (.slice s102a s102l s102c) ∧ Calls Tryz.prog 48 #[.slice s102a s102l s102c] w101 (ret (fun r103 w104 => ∃ x105 : Int, r103 = .int .i64 x105 ∧ R (.returned (.int .i64 x105)) w104) (pan R)))) else (if route25 = true then (∃ s106 : ByteArray, rd w101 ((⟨w.heap.size, 0, none⟩ : Addr).add 4) (.string s106) ∧ Calls Tryz.prog 46 #[.string s106] w101 (ret (fun r107 w108 => ∃ b109 : Bool, r107 = .bool b109 ∧ if (!b109) = true then (R (.returned (.int .i64 14)) w108) else (∃ s110 : ByteArray, rd w108 ((⟨w.heap.size, 0, none⟩ : Addr).add 5) (.string s110) ∧ Calls Tryz.prog 47 #[.string s110] w108 (ret (fun r111 w112 => ∃ b113 : Bool, r111 = .bool b113 ∧ if (!b113) = true then (R (.returned (.int .i64 14)) w112) else (∃ s114a : Option Addr, ∃ s114l : Nat, ∃ s114c : Nat, rd w112 ((⟨w.heap.size, 0, none⟩ : Addr).add 7) (.slice s114a s114l s114c) ∧ Calls Tryz.prog 48 #[.slice s114a s114l s114c] w112 (ret (fun r115 w116 => ∃ x117 : Int, r115 = .int .i64 x117 ∧ R (.returned (.int .i64 x117)) w116) (pan R)))) (pan R)))) (pan R))) else (∃ s118a : Option Addr, ∃ s118l : Nat, ∃ s118c : Nat, rd w101 ((⟨w.heap.size, 0, none⟩ : Addr).add 7) (.slice s118a s118l s118c) ∧ Calls Tryz.prog 48 #[.slice s118a s118l s118c] w101 (ret (fun r119 w120 => ∃ x121 : Int, r119 = .int .i64 x121 ∧ R (.returned (.int .i64 x121)) w120) (pan R))))) (pan R))) (pan R)) (pan R)) (pan R)) (pan R)) (pan R)

theorem T_conf_Check_hl : allP (hokL Tryz.prog (hookAt [(6, H_conf_Check_1), (14, H_conf_Check_2), (125, H_conf_Check_3), (1008, H_conf_Check_4), (1009, H_conf_Check_5), (4044, H_conf_Check_10)]) (bodyOf Tryz.f23) 1) = (UnitOk Tryz.prog H_conf_Check_1 (at_ (bodyOf Tryz.f23) [1, 0]) 6 ∧ UnitOk Tryz.prog H_conf_Check_2 (at_ (bodyOf Tryz.f23) [1, 1, 0]) 14 ∧ UnitOk Tryz.prog H_conf_Check_3 (at_ (bodyOf Tryz.f23) [1, 1, 1, 1, 0, 1]) 125 ∧ UnitOk Tryz.prog H_conf_Check_4 (at_ (bodyOf Tryz.f23) [1, 1, 1, 1, 1, 0, 0, 0, 0]) 1008 ∧ UnitOk Tryz.prog H_conf_Check_5 (at_ (bodyOf Tryz.f23) [1, 1, 1, 1, 1, 0, 0, 0, 1]) 1009 ∧ UnitOk Tryz.prog H_conf_Check_10 (at_ (bodyOf Tryz.f23) [1, 1, 1, 1, 1, 0, 0, 1, 1, 0, 0]) 4044 ∧ True) := by kernel_rfl

theorem T_conf_Check_eq (x1 : Int) (x2 : Int) (x3 : Int) (x4 : Int) (s5 : ByteArray) (s6 : ByteArray) (s7 : ByteArray) (s8a : Option Addr) (s8l : Nat) (s8c : Nat) (w : World) (R : Ending → World → Prop) : vcCode Tryz.prog (hookAt [(6, H_conf_Check_1), (14, H_conf_Check_2), (125, H_conf_Check_3), (1008, H_conf_Check_4), (1009, H_conf_Check_5), (4044, H_conf_Check_10)]) (bodyOf Tryz.f23) 1 ⟨argEnv [.agg #[.int .i64 x1, .int .i64 x2, .int .i64 x3, .int .i64 x4, .string s5, .string s6, .string s7, .slice s8a s8l s8c]] 0, Tryz.f23.ntmps, []⟩ w (finQ Tryz.prog Tryz.f23.results.toList R) = T_conf_Check x1 x2 x3 x4 s5 s6 s7 s8a s8l s8c w R := by kernel_rfl

theorem T_conf_Check_b : Tryz.f23.body = some (bodyOf Tryz.f23) := by kernel_rfl
theorem T_conf_Check_s : (quietSel (bodyOf Tryz.f23) && Nat.ble 1 Tryz.f23.ntmps) = true := by kernel_rfl

theorem C_conf_Check {x1 : Int} {x2 : Int} {x3 : Int} {x4 : Int} {s5 : ByteArray} {s6 : ByteArray} {s7 : ByteArray} {s8a : Option Addr} {s8l : Nat} {s8c : Nat} {w : World} {R : Ending → World → Prop} (h : T_conf_Check x1 x2 x3 x4 s5 s6 s7 s8a s8l s8c w R) : Calls Tryz.prog 23 #[.agg #[.int .i64 x1, .int .i64 x2, .int .i64 x3, .int .i64 x4, .string s5, .string s6, .string s7, .slice s8a s8l s8c]] w R :=
  calls_of_text (args := [.agg #[.int .i64 x1, .int .i64 x2, .int .i64 x3, .int .i64 x4, .string s5, .string s6, .string s7, .slice s8a s8l s8c]]) mixed Tryz.func23 T_conf_Check_b T_conf_Check_s (HOk_of _ _ (by rw [T_conf_Check_hl]; exact ⟨T_conf_Check_1_ok, T_conf_Check_2_ok, T_conf_Check_3_ok, T_conf_Check_4_ok, T_conf_Check_5_ok, T_conf_Check_10_ok, trivial⟩)) (by rw [T_conf_Check_eq]; exact h)

/-! tollgate/tollgateref08.SameCommand -/
/-! tollgate/tollgateref08.SameTargets -/
def T_ref08_SameTargets_1_body (X : Int → World → Prop) (i3 : Int) (a4a : Option Addr) (a4l : Nat) (a4c : Nat) (b5a : Option Addr) (b5l : Nat) (b5c : Nat) (w : World) (Kn : World → Prop) (Kr : Bool → World → Prop) (Kp : List PanicEntry → World → Prop)  : Prop :=
  if (decide ((i3 : Int) < ((a4l : Nat) : Int))) = true then (let w6 : World := w.drew
  0 ≤ (i3 : Int) ∧ (i3 : Int) < ((a4l : Nat) : Int) ∧ ∃ b7, a4a = some b7 ∧ ∃ s8 : ByteArray, rd w6 (b7.add ((i3 : Int).toNat * 2)) (.string s8) ∧ 0 ≤ (i3 : Int) ∧ (i3 : Int) < ((b5l : Nat) : Int) ∧ ∃ b9, b5a = some b9 ∧ ∃ s10 : ByteArray, rd w6 (b9.add ((i3 : Int).toNat * 2)) (.string s10) ∧ if (!(s8.toList == s10.toList)) = true then ((True) ∧ (True) ∧ Kr false w6) else (0 ≤ (i3 : Int) ∧ (i3 : Int) < ((a4l : Nat) : Int) ∧ ∃ b11, a4a = some b11 ∧ ∃ f12 : Nat, rd w6 ((b11.add ((i3 : Int).toNat * 2)).add 1) (.float .f64 f12) ∧ 0 ≤ (i3 : Int) ∧ (i3 : Int) < ((b5l : Nat) : Int) ∧ ∃ b13, b5a = some b13 ∧ ∃ f14 : Nat, rd w6 ((b13.add ((i3 : Int).toNat * 2)).add 1) (.float .f64 f14) ∧ runV Tryz.prog (callFunc 81 #[.float .f64 f12]) w6 (nxv (fun r15 w16 => ∃ x17 : Int, r15 = .int .u64 x17 ∧ (rd w16 ((b13.add ((i3 : Int).toNat * 2)).add 1) (.float .f64 f14) ∧ True) ∧ runV Tryz.prog (callFunc 81 #[.float .f64 f14]) w16 (nxv (fun r18 w19 => ∃ x20 : Int, r18 = .int .u64 x20 ∧ (True) ∧ if ((x17 : Int) != x20) = true then (Kr false w19) else (X (IntKind.wrap .i64 ((i3 : Int) + 1)) w19))) Kp)) Kp)) else (Kn  w)

def T_ref08_SameTargets_1 (i3 : Int) (a4a : Option Addr) (a4l : Nat) (a4c : Nat) (b5a : Option Addr) (b5l : Nat) (b5c : Nat) (w : World) (Kn : World → Prop) (Kr : Bool → World → Prop) (Kp : List PanicEntry → World → Prop) : Prop :=
  ∀ X : Int → World → Prop, (∀ (i3 : Int) (w : World), T_ref08_SameTargets_1_body X i3 a4a a4l a4c b5a b5l b5c w Kn Kr Kp → X i3 w) → X i3 w

def T_ref08_SameTargets_1_outs : Exit → Option (List (Nat × Value)) := fun x => match x with | .normal => some [] | .ret => some [(4, .bool false)] | .panic _ => some [] | _ => none

def T_ref08_SameTargets_1_ks : Nat → Bool := ksOf [4, 5, 11, 12, 13, 14, 15, 16, 17, 18, 19, 20, 21, 22, 23, 24, 25, 26, 27, 28, 29, 30, 31, 32, 33, 34, 35, 36, 37, 38, 39, 40, 41, 42]

def H_ref08_SameTargets_1 : Env → World → QT → Prop := unitHook 43 T_ref08_SameTargets_1_ks [(5, .int .i64 0), (0, .slice none 0 0), (1, .slice none 0 0)] T_ref08_SameTargets_1_outs fun l w C => match l with | [v0, v1, v2] => T_ref08_SameTargets_1 (pInt v0) (pA v1) (pL v1) (pC v1) (pA v2) (pL v2) (pC v2) w (fun w => C .normal [] w) (fun b22 w => C .ret [.bool b22] w) (fun ch w => C (.panic ch) [] w) | _ => False

theorem T_ref08_SameTargets_1_hl : allP (hokL Tryz.prog (hookAt []) (at_ (bodyOf Tryz.f42) [1, 1, 0, 1, 0, 0]) 116) = (True) := by kernel_rfl
theorem T_ref08_SameTargets_1_hok : HOk Tryz.prog (hookAt []) (at_ (bodyOf Tryz.f42) [1, 1, 0, 1, 0, 0]) 116 := HOk_of _ _ (by rw [T_ref08_SameTargets_1_hl]; exact trivial)

theorem T_ref08_SameTargets_1_eq (C : Conts) (X : List Value → World → Prop) (i3 : Int) (a4a : Option Addr) (a4l : Nat) (a4c : Nat) (b5a : Option Addr) (b5l : Nat) (b5c : Nat) (w : World) : vcCode Tryz.prog (hookAt []) (at_ (bodyOf Tryz.f42) [1, 1, 0, 1, 0, 0]) 116 ⟨[(5, .int .i64 i3)] ++ [(0, .slice a4a a4l a4c), (1, .slice b5a b5l b5c)], 43, []⟩ w (seqQ (fun e w => takeAll e [(5, .int .i64 0)] fun l => X l w) (blockQ 0 (unitQ T_ref08_SameTargets_1_outs C))) = T_ref08_SameTargets_1_body (fun i3 w => X [.int .i64 i3] w) i3 a4a a4l a4c b5a b5l b5c w (fun w => C .normal [] w) (fun b23 w => C .ret [.bool b23] w) (fun ch w => C (.panic ch) [] w) := by kernel_rfl

theorem T_ref08_SameTargets_1_ok : UnitOk Tryz.prog H_ref08_SameTargets_1 (at_ (bodyOf Tryz.f42) [1, 1, 0, 1]) 29 := by
  have hc : at_ (bodyOf Tryz.f42) [1, 1, 0, 1] = .block 0 (.loop (at_ (bodyOf Tryz.f42) [1, 1, 0, 1, 0, 0])) := by kernel_rfl
  rw [hc]
  refine loop_unit_ok (carr := [(5, .int .i64 0)]) (fix := [(0, .slice none 0 0), (1, .slice none 0 0)]) (ks := T_ref08_SameTargets_1_ks) (H := (hookAt [])) (B := fun C X l u w => match l, u with | [v0], [v1, v2] => T_ref08_SameTargets_1_body (fun i3 w => X [.int .i64 i3] w) (pInt v0) (pA v1) (pL v1) (pC v1) (pA v2) (pL v2) (pC v2) w (fun w => C .normal [] w) (fun b24 w => C .ret [.bool b24] w) (fun ch w => C (.panic ch) [] w) | _, _ => False) (by kernel_rfl) (by kernel_rfl) T_ref08_SameTargets_1_hok ?_ ?_
  · intro C X l u w hl hu
    obtain ⟨v0, l_v0, rfl, k_v0, hl_v0⟩ := Kinds.cons_ hl
    obtain ⟨i3, rfl⟩ := kind_int k_v0
    obtain rfl := Kinds.nil_ hl_v0
    obtain ⟨v1, l_v1, rfl, k_v1, hu_v1⟩ := Kinds.cons_ hu
    obtain ⟨a4a, a4l, a4c, rfl⟩ := kind_slice k_v1
    obtain ⟨v2, l_v2, rfl, k_v2, hu_v2⟩ := Kinds.cons_ hu_v1
    obtain ⟨b5a, b5l, b5c, rfl⟩ := kind_slice k_v2
    obtain rfl := Kinds.nil_ hu_v2
    exact T_ref08_SameTargets_1_eq C X i3 a4a a4l a4c b5a b5l b5c w
  · intro l u w C hl hu
    obtain ⟨v0, l_v0, rfl, k_v0, hl_v0⟩ := Kinds.cons_ hl
    obtain ⟨i3, rfl⟩ := kind_int k_v0
    obtain rfl := Kinds.nil_ hl_v0
    obtain ⟨v1, l_v1, rfl, k_v1, hu_v1⟩ := Kinds.cons_ hu
    obtain ⟨a4a, a4l, a4c, rfl⟩ := kind_slice k_v1
    obtain ⟨v2, l_v2, rfl, k_v2, hu_v2⟩ := Kinds.cons_ hu_v1
    obtain ⟨b5a, b5l, b5c, rfl⟩ := kind_slice k_v2
    obtain rfl := Kinds.nil_ hu_v2
    constructor
    · intro h X hX
      exact h (fun i3 w => X [.int .i64 i3] w) (fun i3 w hb => hX [.int .i64 i3] w ⟨rfl, trivial⟩ hb)
    · intro h X hX
      exact h (fun l w => match l with | [v0] => X (pInt v0) w | _ => True) (fun l w hl hb => by
        obtain ⟨v0, l_v0, rfl, k_v0, hl_v0⟩ := Kinds.cons_ hl
        obtain ⟨i3, rfl⟩ := kind_int k_v0
        obtain rfl := Kinds.nil_ hl_v0
        exact hX i3 w hb)

def T_ref08_SameTargets (a1a : Option Addr) (a1l : Nat) (a1c : Nat) (b2a : Option Addr) (b2l : Nat) (b2c : Nat) (w : World) (R : Ending → World → Prop) : Prop :=
  if (((a1l : Nat) : Int) != ((b2l : Nat) : Int)) = true then (R (.returned (.bool false)) w) else (T_ref08_SameTargets_1 0 a1a a1l a1c b2a b2l b2c w (fun w25 => R (.returned (.bool true)) w25) (fun b26 w27 => R (.returned (.bool b26)) w27) (pan R))

theorem T_ref08_SameTargets_hl : allP (hokL Tryz.prog (hookAt [(29, H_ref08_SameTargets_1)]) (bodyOf Tryz.f42) 1) = (UnitOk Tryz.prog H_ref08_SameTargets_1 (at_ (bodyOf Tryz.f42) [1, 1, 0, 1]) 29 ∧ True) := by kernel_rfl

theorem T_ref08_SameTargets_eq (a1a : Option Addr) (a1l : Nat) (a1c : Nat) (b2a : Option Addr) (b2l : Nat) (b2c : Nat) (w : World) (R : Ending → World → Prop) : vcCode Tryz.prog (hookAt [(29, H_ref08_SameTargets_1)]) (bodyOf Tryz.f42) 1 ⟨argEnv [.slice a1a a1l a1c, .slice b2a b2l b2c] 0, Tryz.f42.ntmps, []⟩ w (finQ Tryz.prog Tryz.f42.results.toList R) = T_ref08_SameTargets a1a a1l a1c b2a b2l b2c w R := by kernel_rfl

theorem T_ref08_SameTargets_b : Tryz.f42.body = some (bodyOf Tryz.f42) := by kernel_rfl
theorem T_ref08_SameTargets_s : (quietSel (bodyOf Tryz.f42) && Nat.ble 2 Tryz.f42.ntmps) = true := by kernel_rfl

theorem C_ref08_SameTargets {a1a : Option Addr} {a1l : Nat} {a1c : Nat} {b2a : Option Addr} {b2l : Nat} {b2c : Nat} {w : World} {R : Ending → World → Prop} (h : T_ref08_SameTargets a1a a1l a1c b2a b2l b2c w R) : Calls Tryz.prog 42 #[.slice a1a a1l a1c, .slice b2a b2l b2c] w R :=
  calls_of_text (args := [.slice a1a a1l a1c, .slice b2a b2l b2c]) mixed Tryz.func42 T_ref08_SameTargets_b T_ref08_SameTargets_s (HOk_of _ _ (by rw [T_ref08_SameTargets_hl]; exact ⟨T_ref08_SameTargets_1_ok, trivial⟩)) (by rw [T_ref08_SameTargets_eq]; exact h)

/-! tollgate/tollgateref08.letters -/
def T_ref08_letters_1_body (X : Int → World → Prop) (i3 : Int) (s4 : ByteArray) (point5 : Bool) (w : World) (Kn : World → Prop) (Kr : Bool → World → Prop) (Kp : List PanicEntry → World → Prop)  : Prop :=
  if (decide ((i3 : Int) < ((s4.size : Nat) : Int))) = true then (0 ≤ (i3 : Int) ∧ ∃ c6, s4[(i3 : Int).toNat]? = some c6 ∧ if (decide (((c6.toNat : Nat) : Int) ≥ 97)) = true then (if (decide (((c6.toNat : Nat) : Int) ≤ 122)) = true then (X (IntKind.wrap .i64 ((i3 : Int) + 1)) w) else (if (decide (((c6.toNat : Nat) : Int) ≥ 48)) = true then (if (decide (((c6.toNat : Nat) : Int) ≤ 57)) = true then (X (IntKind.wrap .i64 ((i3 : Int) + 1)) w) else (if (((c6.toNat : Nat) : Int) == 45) = true then (X (IntKind.wrap .i64 ((i3 : Int) + 1)) w) else (if point5 = true then (if (!(((c6.toNat : Nat) : Int) == 46)) = true then (Kr false w) else (X (IntKind.wrap .i64 ((i3 : Int) + 1)) w)) else (Kr false w)))) else (if (((c6.toNat : Nat) : Int) == 45) = true then (X (IntKind.wrap .i64 ((i3 : Int) + 1)) w) else (if point5 = true then (if (!(((c6.toNat : Nat) : Int) == 46)) = true then (Kr false w) else (X (IntKind.wrap .i64 ((i3 : Int) + 1)) w)) else (Kr false w))))) else (if (decide (((c6.toNat : Nat) : Int) ≥ 48)) = true then (if (decide (((c6.toNat : Nat) : Int) ≤ 57)) = true then (X (IntKind.wrap .i64 ((i3 : Int) + 1)) w) else (if (((c6.toNat : Nat) : Int) == 45) = true then (X (IntKind.wrap .i64 ((i3 : Int) + 1)) w) else (if point5 = true then (if (!(((c6.toNat : Nat) : Int) == 46)) = true then (Kr false w) else (X (IntKind.wrap .i64 ((i3 : Int) + 1)) w)) else (Kr false w)))) else (if (((c6.toNat : Nat) : Int) == 45) = true then (X (IntKind.wrap .i64 ((i3 : Int) + 1)) w) else (if point5 = true then (if (!(((c6.toNat : Nat) : Int) == 46)) = true then (Kr false w) else (X (IntKind.wrap .i64 ((i3 : Int) + 1)) w)) else (Kr false w))))) else (Kn  w)

def T_ref08_letters_1 (i3 : Int) (s4 : ByteArray) (point5 : Bool) (w : World) (Kn : World → Prop) (Kr : Bool → World → Prop) (Kp : List PanicEntry → World → Prop) : Prop :=
  ∀ X : Int → World → Prop, (∀ (i3 : Int) (w : World), T_ref08_letters_1_body X i3 s4 point5 w Kn Kr Kp → X i3 w) → X i3 w

def T_ref08_letters_1_outs : Exit → Option (List (Nat × Value)) := fun x => match x with | .normal => some [] | .ret => some [(4, .bool false)] | .panic _ => some [] | _ => none

def T_ref08_letters_1_ks : Nat → Bool := ksOf [4, 5, 6, 7, 8, 9, 10, 11, 12, 13, 14, 15, 16, 17, 18, 19, 20, 21, 22, 23, 24, 25, 26, 27, 28, 29, 30, 31, 32, 33, 34, 35, 36, 37, 38, 39, 40, 41, 42, 43]

def H_ref08_letters_1 : Env → World → QT → Prop := unitHook 44 T_ref08_letters_1_ks [(5, .int .i64 0), (0, .string default), (1, .bool false)] T_ref08_letters_1_outs fun l w C => match l with | [v0, v1, v2] => T_ref08_letters_1 (pInt v0) (pStr v1) (pBool v2) w (fun w => C .normal [] w) (fun b8 w => C .ret [.bool b8] w) (fun ch w => C (.panic ch) [] w) | _ => False

theorem T_ref08_letters_1_hl : allP (hokL Tryz.prog (hookAt []) (at_ (bodyOf Tryz.f43) [1, 0, 1, 0, 0]) 52) = (True) := by kernel_rfl
theorem T_ref08_letters_1_hok : HOk Tryz.prog (hookAt []) (at_ (bodyOf Tryz.f43) [1, 0, 1, 0, 0]) 52 := HOk_of _ _ (by rw [T_ref08_letters_1_hl]; exact trivial)

theorem T_ref08_letters_1_eq (C : Conts) (X : List Value → World → Prop) (i3 : Int) (s4 : ByteArray) (point5 : Bool) (w : World) : vcCode Tryz.prog (hookAt []) (at_ (bodyOf Tryz.f43) [1, 0, 1, 0, 0]) 52 ⟨[(5, .int .i64 i3)] ++ [(0, .string s4), (1, .bool point5)], 44, []⟩ w (seqQ (fun e w => takeAll e [(5, .int .i64 0)] fun l => X l w) (blockQ 0 (unitQ T_ref08_letters_1_outs C))) = T_ref08_letters_1_body (fun i3 w => X [.int .i64 i3] w) i3 s4 point5 w (fun w => C .normal [] w) (fun b9 w => C .ret [.bool b9] w) (fun ch w => C (.panic ch) [] w) := by kernel_rfl

theorem T_ref08_letters_1_ok : UnitOk Tryz.prog H_ref08_letters_1 (at_ (bodyOf Tryz.f43) [1, 0, 1]) 13 := by
  have hc : at_ (bodyOf Tryz.f43) [1, 0, 1] = .block 0 (.loop (at_ (bodyOf Tryz.f43) [1, 0, 1, 0, 0])) := by kernel_rfl
  rw [hc]
  refine loop_unit_ok (carr := [(5, .int .i64 0)]) (fix := [(0, .string default), (1, .bool false)]) (ks := T_ref08_letters_1_ks) (H := (hookAt [])) (B := fun C X l u w => match l, u with | [v0], [v1, v2] => T_ref08_letters_1_body (fun i3 w => X [.int .i64 i3] w) (pInt v0) (pStr v1) (pBool v2) w (fun w => C .normal [] w) (fun b10 w => C .ret [.bool b10] w) (fun ch w => C (.panic ch) [] w) | _, _ => False) (by kernel_rfl) (by kernel_rfl) T_ref08_letters_1_hok ?_ ?_
  · intro C X l u w hl hu
    obtain ⟨v0, l_v0, rfl, k_v0, hl_v0⟩ := Kinds.cons_ hl
    obtain ⟨i3, rfl⟩ := kind_int k_v0
    obtain rfl := Kinds.nil_ hl_v0
    obtain ⟨v1, l_v1, rfl, k_v1, hu_v1⟩ := Kinds.cons_ hu
    obtain ⟨s4, rfl⟩ := kind_string k_v1
    obtain ⟨v2, l_v2, rfl, k_v2, hu_v2⟩ := Kinds.cons_ hu_v1
    obtain ⟨point5, rfl⟩ := kind_bool k_v2
    obtain rfl := Kinds.nil_ hu_v2
    exact T_ref08_letters_1_eq C X i3 s4 point5 w
  · intro l u w C hl hu
    obtain ⟨v0, l_v0, rfl, k_v0, hl_v0⟩ := Kinds.cons_ hl
    obtain ⟨i3, rfl⟩ := kind_int k_v0
    obtain rfl := Kinds.nil_ hl_v0
    obtain ⟨v1, l_v1, rfl, k_v1, hu_v1⟩ := Kinds.cons_ hu
    obtain ⟨s4, rfl⟩ := kind_string k_v1
    obtain ⟨v2, l_v2, rfl, k_v2, hu_v2⟩ := Kinds.cons_ hu_v1
    obtain ⟨point5, rfl⟩ := kind_bool k_v2
    obtain rfl := Kinds.nil_ hu_v2
    constructor
    · intro h X hX
      exact h (fun i3 w => X [.int .i64 i3] w) (fun i3 w hb => hX [.int .i64 i3] w ⟨rfl, trivial⟩ hb)
    · intro h X hX
      exact h (fun l w => match l with | [v0] => X (pInt v0) w | _ => True) (fun l w hl hb => by
        obtain ⟨v0, l_v0, rfl, k_v0, hl_v0⟩ := Kinds.cons_ hl
        obtain ⟨i3, rfl⟩ := kind_int k_v0
        obtain rfl := Kinds.nil_ hl_v0
        exact hX i3 w hb)

def T_ref08_letters (s1 : ByteArray) (point2 : Bool) (w : World) (R : Ending → World → Prop) : Prop :=
  T_ref08_letters_1 0 s1 point2 w (fun w11 => R (.returned (.bool true)) w11) (fun b12 w13 => R (.returned (.bool b12)) w13) (pan R)

theorem T_ref08_letters_hl : allP (hokL Tryz.prog (hookAt [(13, H_ref08_letters_1)]) (bodyOf Tryz.f43) 1) = (UnitOk Tryz.prog H_ref08_letters_1 (at_ (bodyOf Tryz.f43) [1, 0, 1]) 13 ∧ True) := by kernel_rfl

theorem T_ref08_letters_eq (s1 : ByteArray) (point2 : Bool) (w : World) (R : Ending → World → Prop) : vcCode Tryz.prog (hookAt [(13, H_ref08_letters_1)]) (bodyOf Tryz.f43) 1 ⟨argEnv [.string s1, .bool point2] 0, Tryz.f43.ntmps, []⟩ w (finQ Tryz.prog Tryz.f43.results.toList R) = T_ref08_letters s1 point2 w R := by kernel_rfl

theorem T_ref08_letters_b : Tryz.f43.body = some (bodyOf Tryz.f43) := by kernel_rfl
theorem T_ref08_letters_s : (quietSel (bodyOf Tryz.f43) && Nat.ble 2 Tryz.f43.ntmps) = true := by kernel_rfl

theorem C_ref08_letters {s1 : ByteArray} {point2 : Bool} {w : World} {R : Ending → World → Prop} (h : T_ref08_letters s1 point2 w R) : Calls Tryz.prog 43 #[.string s1, .bool point2] w R :=
  calls_of_text (args := [.string s1, .bool point2]) mixed Tryz.func43 T_ref08_letters_b T_ref08_letters_s (HOk_of _ _ (by rw [T_ref08_letters_hl]; exact ⟨T_ref08_letters_1_ok, trivial⟩)) (by rw [T_ref08_letters_eq]; exact h)

/-! tollgate/tollgateref08.seen -/
def T_ref08_seen_1_body (X : Int → World → Prop) (i2 : Int) (s3 : ByteArray) (w : World) (Kn : World → Prop) (Kr : Bool → World → Prop) (Kp : List PanicEntry → World → Prop)  : Prop :=
  if (decide ((i2 : Int) < ((s3.size : Nat) : Int))) = true then (0 ≤ (i2 : Int) ∧ ∃ c4, s3[(i2 : Int).toNat]? = some c4 ∧ if (decide (((c4.toNat : Nat) : Int) < 33)) = true then (Kr false w) else (0 ≤ (i2 : Int) ∧ ∃ c5, s3[(i2 : Int).toNat]? = some c5 ∧ if (decide (((c5.toNat : Nat) : Int) > 126)) = true then (Kr false w) else (X (IntKind.wrap .i64 ((i2 : Int) + 1)) w))) else (Kn  w)

def T_ref08_seen_1 (i2 : Int) (s3 : ByteArray) (w : World) (Kn : World → Prop) (Kr : Bool → World → Prop) (Kp : List PanicEntry → World → Prop) : Prop :=
  ∀ X : Int → World → Prop, (∀ (i2 : Int) (w : World), T_ref08_seen_1_body X i2 s3 w Kn Kr Kp → X i2 w) → X i2 w

def T_ref08_seen_1_outs : Exit → Option (List (Nat × Value)) := fun x => match x with | .normal => some [] | .ret => some [(2, .bool false)] | .panic _ => some [] | _ => none

def T_ref08_seen_1_ks : Nat → Bool := ksOf [2, 3, 4, 5, 6, 7, 8, 9, 10, 11, 12, 13, 14, 15, 16, 17, 18, 19]

def H_ref08_seen_1 : Env → World → QT → Prop := unitHook 20 T_ref08_seen_1_ks [(3, .int .i64 0), (0, .string default)] T_ref08_seen_1_outs fun l w C => match l with | [v0, v1] => T_ref08_seen_1 (pInt v0) (pStr v1) w (fun w => C .normal [] w) (fun b7 w => C .ret [.bool b7] w) (fun ch w => C (.panic ch) [] w) | _ => False

theorem T_ref08_seen_1_hl : allP (hokL Tryz.prog (hookAt []) (at_ (bodyOf Tryz.f44) [1, 0, 1, 0, 0]) 52) = (True) := by kernel_rfl
theorem T_ref08_seen_1_hok : HOk Tryz.prog (hookAt []) (at_ (bodyOf Tryz.f44) [1, 0, 1, 0, 0]) 52 := HOk_of _ _ (by rw [T_ref08_seen_1_hl]; exact trivial)

theorem T_ref08_seen_1_eq (C : Conts) (X : List Value → World → Prop) (i2 : Int) (s3 : ByteArray) (w : World) : vcCode Tryz.prog (hookAt []) (at_ (bodyOf Tryz.f44) [1, 0, 1, 0, 0]) 52 ⟨[(3, .int .i64 i2)] ++ [(0, .string s3)], 20, []⟩ w (seqQ (fun e w => takeAll e [(3, .int .i64 0)] fun l => X l w) (blockQ 0 (unitQ T_ref08_seen_1_outs C))) = T_ref08_seen_1_body (fun i2 w => X [.int .i64 i2] w) i2 s3 w (fun w => C .normal [] w) (fun b8 w => C .ret [.bool b8] w) (fun ch w => C (.panic ch) [] w) := by kernel_rfl

theorem T_ref08_seen_1_ok : UnitOk Tryz.prog H_ref08_seen_1 (at_ (bodyOf Tryz.f44) [1, 0, 1]) 13 := by
  have hc : at_ (bodyOf Tryz.f44) [1, 0, 1] = .block 0 (.loop (at_ (bodyOf Tryz.f44) [1, 0, 1, 0, 0])) := by kernel_rfl
  rw [hc]
  refine loop_unit_ok (carr := [(3, .int .i64 0)]) (fix := [(0, .string default)]) (ks := T_ref08_seen_1_ks) (H := (hookAt [])) (B := fun C X l u w => match l, u with | [v0], [v1] => T_ref08_seen_1_body (fun i2 w => X [.int .i64 i2] w) (pInt v0) (pStr v1) w (fun w => C .normal [] w) (fun b9 w => C .ret [.bool b9] w) (fun ch w => C (.panic ch) [] w) | _, _ => False) (by kernel_rfl) (by kernel_rfl) T_ref08_seen_1_hok ?_ ?_
  · intro C X l u w hl hu
    obtain ⟨v0, l_v0, rfl, k_v0, hl_v0⟩ := Kinds.cons_ hl
    obtain ⟨i2, rfl⟩ := kind_int k_v0
    obtain rfl := Kinds.nil_ hl_v0
    obtain ⟨v1, l_v1, rfl, k_v1, hu_v1⟩ := Kinds.cons_ hu
    obtain ⟨s3, rfl⟩ := kind_string k_v1
    obtain rfl := Kinds.nil_ hu_v1
    exact T_ref08_seen_1_eq C X i2 s3 w
  · intro l u w C hl hu
    obtain ⟨v0, l_v0, rfl, k_v0, hl_v0⟩ := Kinds.cons_ hl
    obtain ⟨i2, rfl⟩ := kind_int k_v0
    obtain rfl := Kinds.nil_ hl_v0
    obtain ⟨v1, l_v1, rfl, k_v1, hu_v1⟩ := Kinds.cons_ hu
    obtain ⟨s3, rfl⟩ := kind_string k_v1
    obtain rfl := Kinds.nil_ hu_v1
    constructor
    · intro h X hX
      exact h (fun i2 w => X [.int .i64 i2] w) (fun i2 w hb => hX [.int .i64 i2] w ⟨rfl, trivial⟩ hb)
    · intro h X hX
      exact h (fun l w => match l with | [v0] => X (pInt v0) w | _ => True) (fun l w hl hb => by
        obtain ⟨v0, l_v0, rfl, k_v0, hl_v0⟩ := Kinds.cons_ hl
        obtain ⟨i2, rfl⟩ := kind_int k_v0
        obtain rfl := Kinds.nil_ hl_v0
        exact hX i2 w hb)

def T_ref08_seen (s1 : ByteArray) (w : World) (R : Ending → World → Prop) : Prop :=
  T_ref08_seen_1 0 s1 w (fun w10 => R (.returned (.bool true)) w10) (fun b11 w12 => R (.returned (.bool b11)) w12) (pan R)

theorem T_ref08_seen_hl : allP (hokL Tryz.prog (hookAt [(13, H_ref08_seen_1)]) (bodyOf Tryz.f44) 1) = (UnitOk Tryz.prog H_ref08_seen_1 (at_ (bodyOf Tryz.f44) [1, 0, 1]) 13 ∧ True) := by kernel_rfl

theorem T_ref08_seen_eq (s1 : ByteArray) (w : World) (R : Ending → World → Prop) : vcCode Tryz.prog (hookAt [(13, H_ref08_seen_1)]) (bodyOf Tryz.f44) 1 ⟨argEnv [.string s1] 0, Tryz.f44.ntmps, []⟩ w (finQ Tryz.prog Tryz.f44.results.toList R) = T_ref08_seen s1 w R := by kernel_rfl

theorem T_ref08_seen_b : Tryz.f44.body = some (bodyOf Tryz.f44) := by kernel_rfl
theorem T_ref08_seen_s : (quietSel (bodyOf Tryz.f44) && Nat.ble 1 Tryz.f44.ntmps) = true := by kernel_rfl

theorem C_ref08_seen {s1 : ByteArray} {w : World} {R : Ending → World → Prop} (h : T_ref08_seen s1 w R) : Calls Tryz.prog 44 #[.string s1] w R :=
  calls_of_text (args := [.string s1]) mixed Tryz.func44 T_ref08_seen_b T_ref08_seen_s (HOk_of _ _ (by rw [T_ref08_seen_hl]; exact ⟨T_ref08_seen_1_ok, trivial⟩)) (by rw [T_ref08_seen_eq]; exact h)

/-! tollgate/conf.poolName -/
def T_conf_poolName (s1 : ByteArray) (w : World) (R : Ending → World → Prop) : Prop :=
  Calls Tryz.prog 82 #[.string s1, .int .i64 64, .func (.func 83) #[] #[]] w (ret (fun r2 w3 => ∃ b4 : Bool, r2 = .bool b4 ∧ R (.returned (.bool b4)) w3) (pan R))

theorem T_conf_poolName_hl : allP (hokL Tryz.prog (hookAt []) (bodyOf Tryz.f45) 1) = (True) := by kernel_rfl

theorem T_conf_poolName_eq (s1 : ByteArray) (w : World) (R : Ending → World → Prop) : vcCode Tryz.prog (hookAt []) (bodyOf Tryz.f45) 1 ⟨argEnv [.string s1] 0, Tryz.f45.ntmps, []⟩ w (finQ Tryz.prog Tryz.f45.results.toList R) = T_conf_poolName s1 w R := by kernel_rfl

theorem T_conf_poolName_b : Tryz.f45.body = some (bodyOf Tryz.f45) := by kernel_rfl
theorem T_conf_poolName_s : (quietSel (bodyOf Tryz.f45) && Nat.ble 1 Tryz.f45.ntmps) = true := by kernel_rfl

theorem C_conf_poolName {s1 : ByteArray} {w : World} {R : Ending → World → Prop} (h : T_conf_poolName s1 w R) : Calls Tryz.prog 45 #[.string s1] w R :=
  calls_of_text (args := [.string s1]) mixed Tryz.func45 T_conf_poolName_b T_conf_poolName_s (HOk_of _ _ (by rw [T_conf_poolName_hl]; exact trivial)) (by rw [T_conf_poolName_eq]; exact h)

/-! tollgate/conf.host -/
def T_conf_host (s1 : ByteArray) (w : World) (R : Ending → World → Prop) : Prop :=
  let w2 : World := w.alloc (.cells #[.bool false] 4)
  (.bool true : Value).cells.size = 1 ∧ wrOk w2 (⟨w.heap.size, 0, none⟩ : Addr) (.bool true) ∧ let w3 : World := wr w2 (⟨w.heap.size, 0, none⟩ : Addr) (.bool true)
  Calls Tryz.prog 82 #[.string s1, .int .i64 64, .func (.func 84) #[] #[.pointer (some (⟨w.heap.size, 0, none⟩ : Addr))]] w3 (ret (fun r4 w5 => ∃ b6 : Bool, r4 = .bool b6 ∧ if b6 = true then (∃ b7 : Bool, rd w5 (⟨w.heap.size, 0, none⟩ : Addr) (.bool b7) ∧ R (.returned (.bool (!b7))) w5) else (R (.returned (.bool false)) w5)) (pan R))

theorem T_conf_host_hl : allP (hokL Tryz.prog (hookAt []) (bodyOf Tryz.f46) 1) = (True) := by kernel_rfl

theorem T_conf_host_eq (s1 : ByteArray) (w : World) (R : Ending → World → Prop) : vcCode Tryz.prog (hookAt []) (bodyOf Tryz.f46) 1 ⟨argEnv [.string s1] 0, Tryz.f46.ntmps, []⟩ w (finQ Tryz.prog Tryz.f46.results.toList R) = T_conf_host s1 w R := by kernel_rfl

theorem T_conf_host_b : Tryz.f46.body = some (bodyOf Tryz.f46) := by kernel_rfl
theorem T_conf_host_s : (quietSel (bodyOf Tryz.f46) && Nat.ble 1 Tryz.f46.ntmps) = true := by kernel_rfl

theorem C_conf_host {s1 : ByteArray} {w : World} {R : Ending → World → Prop} (h : T_conf_host s1 w R) : Calls Tryz.prog 46 #[.string s1] w R :=
  calls_of_text (args := [.string s1]) mixed Tryz.func46 T_conf_host_b T_conf_host_s (HOk_of _ _ (by rw [T_conf_host_hl]; exact trivial)) (by rw [T_conf_host_eq]; exact h)

/-! tollgate/conf.prefix -/
def T_conf_prefix (s1 : ByteArray) (w : World) (R : Ending → World → Prop) : Prop :=
  Calls Tryz.prog 82 #[.string s1, .int .i64 128, .func (.func 85) #[] #[]] w (ret (fun r2 w3 => ∃ b4 : Bool, r2 = .bool b4 ∧ if b4 = true then (0 ≤ (0 : Int) ∧ ∃ c5, s1[(0 : Int).toNat]? = some c5 ∧ R (.returned (.bool (((c5.toNat : Nat) : Int) == 47))) w3) else (R (.returned (.bool false)) w3)) (pan R))

theorem T_conf_prefix_hl : allP (hokL Tryz.prog (hookAt []) (bodyOf Tryz.f47) 1) = (True) := by kernel_rfl

theorem T_conf_prefix_eq (s1 : ByteArray) (w : World) (R : Ending → World → Prop) : vcCode Tryz.prog (hookAt []) (bodyOf Tryz.f47) 1 ⟨argEnv [.string s1] 0, Tryz.f47.ntmps, []⟩ w (finQ Tryz.prog Tryz.f47.results.toList R) = T_conf_prefix s1 w R := by kernel_rfl

theorem T_conf_prefix_b : Tryz.f47.body = some (bodyOf Tryz.f47) := by kernel_rfl
theorem T_conf_prefix_s : (quietSel (bodyOf Tryz.f47) && Nat.ble 1 Tryz.f47.ntmps) = true := by kernel_rfl

theorem C_conf_prefix {s1 : ByteArray} {w : World} {R : Ending → World → Prop} (h : T_conf_prefix s1 w R) : Calls Tryz.prog 47 #[.string s1] w R :=
  calls_of_text (args := [.string s1]) mixed Tryz.func47 T_conf_prefix_b T_conf_prefix_s (HOk_of _ _ (by rw [T_conf_prefix_hl]; exact trivial)) (by rw [T_conf_prefix_eq]; exact h)

/-! tollgate/conf.targets -/
def T_conf_targets_1_body (X : Int → World → Prop) (x2 : Int) (s3a : Option Addr) (s3l : Nat) (s3c : Nat) (x4 : Int) (w : World) (Kn : World → Prop) (Kr : Int → World → Prop) (Kp : List PanicEntry → World → Prop)  : Prop :=
  if (decide ((x2 : Int) < x4)) = true then (0 ≤ (x2 : Int) ∧ (x2 : Int) < ((s3l : Nat) : Int) ∧ ∃ b5, s3a = some b5 ∧ ∃ s6 : ByteArray, ∃ f7 : Nat, rd w (b5.add ((x2 : Int).toNat * 2)) (.agg #[.string s6, .float .f64 f7]) ∧ let w8 : World := w.alloc (.cells #[.string (ByteArray.mk #[]), .float .f64 0] 64)
  (.agg #[.string s6, .float .f64 f7] : Value).cells.size = 2 ∧ wrOk w8 (⟨w.heap.size, 0, none⟩ : Addr) (.agg #[.string s6, .float .f64 f7]) ∧ let w9 : World := wr w8 (⟨w.heap.size, 0, none⟩ : Addr) (.agg #[.string s6, .float .f64 f7])
  ∃ s10 : ByteArray, rd w9 (⟨w.heap.size, 0, none⟩ : Addr) (.string s10) ∧ Calls Tryz.prog 86 #[.string s10] w9 (ret (fun r11 w12 => ∃ b13 : Bool, r11 = .bool b13 ∧ if (!b13) = true then (Kr 14 w12) else (X (IntKind.wrap .i64 ((x2 : Int) + 1)) w12)) Kp)) else (Kn  w)

def T_conf_targets_1 (x2 : Int) (s3a : Option Addr) (s3l : Nat) (s3c : Nat) (x4 : Int) (w : World) (Kn : World → Prop) (Kr : Int → World → Prop) (Kp : List PanicEntry → World → Prop) : Prop :=
  ∀ X : Int → World → Prop, (∀ (x2 : Int) (w : World), T_conf_targets_1_body X x2 s3a s3l s3c x4 w Kn Kr Kp → X x2 w) → X x2 w

def T_conf_targets_1_outs : Exit → Option (List (Nat × Value)) := fun x => match x with | .normal => some [] | .ret => some [(2, .int .i64 0)] | .panic _ => some [] | _ => none

def T_conf_targets_1_ks : Nat → Bool := ksOf [2, 4, 9, 10, 11, 12, 13, 14, 15, 16, 17]

def H_conf_targets_1 : Env → World → QT → Prop := unitHook 32 T_conf_targets_1_ks [(9, .int .i64 0), (7, .slice none 0 0), (8, .int .i64 0)] T_conf_targets_1_outs fun l w C => match l with | [v0, v1, v2] => T_conf_targets_1 (pInt v0) (pA v1) (pL v1) (pC v1) (pInt v2) w (fun w => C .normal [] w) (fun x15 w => C .ret [.int .i64 x15] w) (fun ch w => C (.panic ch) [] w) | _ => False

theorem T_conf_targets_1_hl : allP (hokL Tryz.prog (hookAt []) (at_ (bodyOf Tryz.f48) [1, 0, 1, 0, 0]) 52) = (True) := by kernel_rfl
theorem T_conf_targets_1_hok : HOk Tryz.prog (hookAt []) (at_ (bodyOf Tryz.f48) [1, 0, 1, 0, 0]) 52 := HOk_of _ _ (by rw [T_conf_targets_1_hl]; exact trivial)

theorem T_conf_targets_1_eq (C : Conts) (X : List Value → World → Prop) (x2 : Int) (s3a : Option Addr) (s3l : Nat) (s3c : Nat) (x4 : Int) (w : World) : vcCode Tryz.prog (hookAt []) (at_ (bodyOf Tryz.f48) [1, 0, 1, 0, 0]) 52 ⟨[(9, .int .i64 x2)] ++ [(7, .slice s3a s3l s3c), (8, .int .i64 x4)], 32, []⟩ w (seqQ (fun e w => takeAll e [(9, .int .i64 0)] fun l => X l w) (blockQ 0 (unitQ T_conf_targets_1_outs C))) = T_conf_targets_1_body (fun x2 w => X [.int .i64 x2] w) x2 s3a s3l s3c x4 w (fun w => C .normal [] w) (fun x16 w => C .ret [.int .i64 x16] w) (fun ch w => C (.panic ch) [] w) := by kernel_rfl

theorem T_conf_targets_1_ok : UnitOk Tryz.prog H_conf_targets_1 (at_ (bodyOf Tryz.f48) [1, 0, 1]) 13 := by
  have hc : at_ (bodyOf Tryz.f48) [1, 0, 1] = .block 0 (.loop (at_ (bodyOf Tryz.f48) [1, 0, 1, 0, 0])) := by kernel_rfl
  rw [hc]
  refine loop_unit_ok (carr := [(9, .int .i64 0)]) (fix := [(7, .slice none 0 0), (8, .int .i64 0)]) (ks := T_conf_targets_1_ks) (H := (hookAt [])) (B := fun C X l u w => match l, u with | [v0], [v1, v2] => T_conf_targets_1_body (fun x2 w => X [.int .i64 x2] w) (pInt v0) (pA v1) (pL v1) (pC v1) (pInt v2) w (fun w => C .normal [] w) (fun x17 w => C .ret [.int .i64 x17] w) (fun ch w => C (.panic ch) [] w) | _, _ => False) (by kernel_rfl) (by kernel_rfl) T_conf_targets_1_hok ?_ ?_
  · intro C X l u w hl hu
    obtain ⟨v0, l_v0, rfl, k_v0, hl_v0⟩ := Kinds.cons_ hl
    obtain ⟨x2, rfl⟩ := kind_int k_v0
    obtain rfl := Kinds.nil_ hl_v0
    obtain ⟨v1, l_v1, rfl, k_v1, hu_v1⟩ := Kinds.cons_ hu
    obtain ⟨s3a, s3l, s3c, rfl⟩ := kind_slice k_v1
    obtain ⟨v2, l_v2, rfl, k_v2, hu_v2⟩ := Kinds.cons_ hu_v1
    obtain ⟨x4, rfl⟩ := kind_int k_v2
    obtain rfl := Kinds.nil_ hu_v2
    exact T_conf_targets_1_eq C X x2 s3a s3l s3c x4 w
  · intro l u w C hl hu
    obtain ⟨v0, l_v0, rfl, k_v0, hl_v0⟩ := Kinds.cons_ hl
    obtain ⟨x2, rfl⟩ := kind_int k_v0
    obtain rfl := Kinds.nil_ hl_v0
    obtain ⟨v1, l_v1, rfl, k_v1, hu_v1⟩ := Kinds.cons_ hu
    obtain ⟨s3a, s3l, s3c, rfl⟩ := kind_slice k_v1
    obtain ⟨v2, l_v2, rfl, k_v2, hu_v2⟩ := Kinds.cons_ hu_v1
    obtain ⟨x4, rfl⟩ := kind_int k_v2
    obtain rfl := Kinds.nil_ hu_v2
    constructor
    · intro h X hX
      exact h (fun x2 w => X [.int .i64 x2] w) (fun x2 w hb => hX [.int .i64 x2] w ⟨rfl, trivial⟩ hb)
    · intro h X hX
      exact h (fun l w => match l with | [v0] => X (pInt v0) w | _ => True) (fun l w hl hb => by
        obtain ⟨v0, l_v0, rfl, k_v0, hl_v0⟩ := Kinds.cons_ hl
        obtain ⟨x2, rfl⟩ := kind_int k_v0
        obtain rfl := Kinds.nil_ hl_v0
        exact hX x2 w hb)

def T_conf_targets_2_body (X : Int → World → Prop) (x19 : Int) (s20a : Option Addr) (s20l : Nat) (s20c : Nat) (x21 : Int) (w : World) (Kn : World → Prop) (Kr : Int → World → Prop) (Kp : List PanicEntry → World → Prop)  : Prop :=
  if (decide ((x19 : Int) < x21)) = true then (0 ≤ (x19 : Int) ∧ (x19 : Int) < ((s20l : Nat) : Int) ∧ ∃ b22, s20a = some b22 ∧ ∃ s23 : ByteArray, ∃ f24 : Nat, rd w (b22.add ((x19 : Int).toNat * 2)) (.agg #[.string s23, .float .f64 f24]) ∧ let w25 : World := w.alloc (.cells #[.string (ByteArray.mk #[]), .float .f64 0] 64)
  (.agg #[.string s23, .float .f64 f24] : Value).cells.size = 2 ∧ wrOk w25 (⟨w.heap.size, 0, none⟩ : Addr) (.agg #[.string s23, .float .f64 f24]) ∧ let w26 : World := wr w25 (⟨w.heap.size, 0, none⟩ : Addr) (.agg #[.string s23, .float .f64 f24])
  ∃ f27 : Nat, rd w26 ((⟨w.heap.size, 0, none⟩ : Addr).add 1) (.float .f64 f27) ∧ Calls Tryz.prog 87 #[.float .f64 f27] w26 (ret (fun r28 w29 => ∃ b30 : Bool, r28 = .bool b30 ∧ if (!b30) = true then (Kr 15 w29) else (X (IntKind.wrap .i64 ((x19 : Int) + 1)) w29)) Kp)) else (Kn  w)

def T_conf_targets_2 (x19 : Int) (s20a : Option Addr) (s20l : Nat) (s20c : Nat) (x21 : Int) (w : World) (Kn : World → Prop) (Kr : Int → World → Prop) (Kp : List PanicEntry → World → Prop) : Prop :=
  ∀ X : Int → World → Prop, (∀ (x19 : Int) (w : World), T_conf_targets_2_body X x19 s20a s20l s20c x21 w Kn Kr Kp → X x19 w) → X x19 w

def T_conf_targets_2_outs : Exit → Option (List (Nat × Value)) := fun x => match x with | .normal => some [] | .ret => some [(2, .int .i64 0)] | .panic _ => some [] | _ => none

def T_conf_targets_2_ks : Nat → Bool := ksOf [2, 6, 20, 21, 22, 23, 24, 25, 26, 27, 28]

def H_conf_targets_2 : Env → World → QT → Prop := unitHook 32 T_conf_targets_2_ks [(20, .int .i64 0), (18, .slice none 0 0), (19, .int .i64 0)] T_conf_targets_2_outs fun l w C => match l with | [v0, v1, v2] => T_conf_targets_2 (pInt v0) (pA v1) (pL v1) (pC v1) (pInt v2) w (fun w => C .normal [] w) (fun x32 w => C .ret [.int .i64 x32] w) (fun ch w => C (.panic ch) [] w) | _ => False

theorem T_conf_targets_2_hl : allP (hokL Tryz.prog (hookAt []) (at_ (bodyOf Tryz.f48) [1, 1, 0, 1, 0, 0]) 116) = (True) := by kernel_rfl
theorem T_conf_targets_2_hok : HOk Tryz.prog (hookAt []) (at_ (bodyOf Tryz.f48) [1, 1, 0, 1, 0, 0]) 116 := HOk_of _ _ (by rw [T_conf_targets_2_hl]; exact trivial)

theorem T_conf_targets_2_eq (C : Conts) (X : List Value → World → Prop) (x19 : Int) (s20a : Option Addr) (s20l : Nat) (s20c : Nat) (x21 : Int) (w : World) : vcCode Tryz.prog (hookAt []) (at_ (bodyOf Tryz.f48) [1, 1, 0, 1, 0, 0]) 116 ⟨[(20, .int .i64 x19)] ++ [(18, .slice s20a s20l s20c), (19, .int .i64 x21)], 32, []⟩ w (seqQ (fun e w => takeAll e [(20, .int .i64 0)] fun l => X l w) (blockQ 2 (unitQ T_conf_targets_2_outs C))) = T_conf_targets_2_body (fun x19 w => X [.int .i64 x19] w) x19 s20a s20l s20c x21 w (fun w => C .normal [] w) (fun x33 w => C .ret [.int .i64 x33] w) (fun ch w => C (.panic ch) [] w) := by kernel_rfl

theorem T_conf_targets_2_ok : UnitOk Tryz.prog H_conf_targets_2 (at_ (bodyOf Tryz.f48) [1, 1, 0, 1]) 29 := by
  have hc : at_ (bodyOf Tryz.f48) [1, 1, 0, 1] = .block 2 (.loop (at_ (bodyOf Tryz.f48) [1, 1, 0, 1, 0, 0])) := by kernel_rfl
  rw [hc]
  refine loop_unit_ok (carr := [(20, .int .i64 0)]) (fix := [(18, .slice none 0 0), (19, .int .i64 0)]) (ks := T_conf_targets_2_ks) (H := (hookAt [])) (B := fun C X l u w => match l, u with | [v0], [v1, v2] => T_conf_targets_2_body (fun x19 w => X [.int .i64 x19] w) (pInt v0) (pA v1) (pL v1) (pC v1) (pInt v2) w (fun w => C .normal [] w) (fun x34 w => C .ret [.int .i64 x34] w) (fun ch w => C (.panic ch) [] w) | _, _ => False) (by kernel_rfl) (by kernel_rfl) T_conf_targets_2_hok ?_ ?_
  · intro C X l u w hl hu
    obtain ⟨v0, l_v0, rfl, k_v0, hl_v0⟩ := Kinds.cons_ hl
    obtain ⟨x19, rfl⟩ := kind_int k_v0
    obtain rfl := Kinds.nil_ hl_v0
    obtain ⟨v1, l_v1, rfl, k_v1, hu_v1⟩ := Kinds.cons_ hu
    obtain ⟨s20a, s20l, s20c, rfl⟩ := kind_slice k_v1
    obtain ⟨v2, l_v2, rfl, k_v2, hu_v2⟩ := Kinds.cons_ hu_v1
    obtain ⟨x21, rfl⟩ := kind_int k_v2
    obtain rfl := Kinds.nil_ hu_v2
    exact T_conf_targets_2_eq C X x19 s20a s20l s20c x21 w
  · intro l u w C hl hu
    obtain ⟨v0, l_v0, rfl, k_v0, hl_v0⟩ := Kinds.cons_ hl
    obtain ⟨x19, rfl⟩ := kind_int k_v0
    obtain rfl := Kinds.nil_ hl_v0
    obtain ⟨v1, l_v1, rfl, k_v1, hu_v1⟩ := Kinds.cons_ hu
    obtain ⟨s20a, s20l, s20c, rfl⟩ := kind_slice k_v1
    obtain ⟨v2, l_v2, rfl, k_v2, hu_v2⟩ := Kinds.cons_ hu_v1
    obtain ⟨x21, rfl⟩ := kind_int k_v2
    obtain rfl := Kinds.nil_ hu_v2
    constructor
    · intro h X hX
      exact h (fun x19 w => X [.int .i64 x19] w) (fun x19 w hb => hX [.int .i64 x19] w ⟨rfl, trivial⟩ hb)
    · intro h X hX
      exact h (fun l w => match l with | [v0] => X (pInt v0) w | _ => True) (fun l w hl hb => by
        obtain ⟨v0, l_v0, rfl, k_v0, hl_v0⟩ := Kinds.cons_ hl
        obtain ⟨x19, rfl⟩ := kind_int k_v0
        obtain rfl := Kinds.nil_ hl_v0
        exact hX x19 w hb)

def T_conf_targets (l1a : Option Addr) (l1l : Nat) (l1c : Nat) (w : World) (R : Ending → World → Prop) : Prop :=
  T_conf_targets_1 0 l1a l1l l1c ((l1l : Nat) : Int) w (fun w18 => T_conf_targets_2 0 l1a l1l l1c ((l1l : Nat) : Int) w18 (fun w35 => if (decide (((l1l : Nat) : Int) > 16)) = true then (R (.returned (.int .i64 6)) w35) else (R (.returned (.int .i64 0)) w35)) (fun x36 w37 => R (.returned (.int .i64 x36)) w37) (pan R)) (fun x38 w39 => R (.returned (.int .i64 x38)) w39) (pan R)

theorem T_conf_targets_hl : allP (hokL Tryz.prog (hookAt [(13, H_conf_targets_1), (29, H_conf_targets_2)]) (bodyOf Tryz.f48) 1) = (UnitOk Tryz.prog H_conf_targets_1 (at_ (bodyOf Tryz.f48) [1, 0, 1]) 13 ∧ UnitOk Tryz.prog H_conf_targets_2 (at_ (bodyOf Tryz.f48) [1, 1, 0, 1]) 29 ∧ True) := by kernel_rfl

theorem T_conf_targets_eq (l1a : Option Addr) (l1l : Nat) (l1c : Nat) (w : World) (R : Ending → World → Prop) : vcCode Tryz.prog (hookAt [(13, H_conf_targets_1), (29, H_conf_targets_2)]) (bodyOf Tryz.f48) 1 ⟨argEnv [.slice l1a l1l l1c] 0, Tryz.f48.ntmps, []⟩ w (finQ Tryz.prog Tryz.f48.results.toList R) = T_conf_targets l1a l1l l1c w R := by kernel_rfl

theorem T_conf_targets_b : Tryz.f48.body = some (bodyOf Tryz.f48) := by kernel_rfl
theorem T_conf_targets_s : (quietSel (bodyOf Tryz.f48) && Nat.ble 1 Tryz.f48.ntmps) = true := by kernel_rfl

theorem C_conf_targets {l1a : Option Addr} {l1l : Nat} {l1c : Nat} {w : World} {R : Ending → World → Prop} (h : T_conf_targets l1a l1l l1c w R) : Calls Tryz.prog 48 #[.slice l1a l1l l1c] w R :=
  calls_of_text (args := [.slice l1a l1l l1c]) mixed Tryz.func48 T_conf_targets_b T_conf_targets_s (HOk_of _ _ (by rw [T_conf_targets_hl]; exact ⟨T_conf_targets_1_ok, T_conf_targets_2_ok, trivial⟩)) (by rw [T_conf_targets_eq]; exact h)

/-! tollgate/tollgateref08.Check -/
def T_ref08_Check_1 (c10 : Addr) (w : World) (Kn : Bool → World → Prop) (Kp : List PanicEntry → World → Prop) : Prop :=
  ∃ x11 : Int, rd w c10 (.int .i64 x11) ∧ if (decide ((x11 : Int) < 1)) = true then (Kn true w) else (∃ x12 : Int, rd w c10 (.int .i64 x12) ∧ if (decide ((x12 : Int) > 4)) = true then (Kn true w) else (∃ x13 : Int, rd w (c10.add 1) (.int .i64 x13) ∧ if (decide ((x13 : Int) < 0)) = true then (Kn true w) else (∃ x14 : Int, rd w (c10.add 1) (.int .i64 x14) ∧ if (decide ((x14 : Int) > 32)) = true then (Kn true w) else (∃ x15 : Int, rd w (c10.add 3) (.int .i64 x15) ∧ if (decide ((x15 : Int) < (-1))) = true then (Kn true w) else (∃ x16 : Int, rd w (c10.add 3) (.int .i64 x16) ∧ Kn (decide ((x16 : Int) > 1099511627775)) w)))))

def T_ref08_Check_2 (c22 : Addr) (w : World) (Kn : Bool → World → Prop) (Kp : List PanicEntry → World → Prop) : Prop :=
  ∃ x23 : Int, rd w (c22.add 1) (.int .i64 x23) ∧ if ((x23 : Int) == 0) = true then (∃ x24 : Int, rd w (c22.add 2) (.int .i64 x24) ∧ if ((x24 : Int) != 0) = true then (Kn true w) else (∃ x25 : Int, rd w (c22.add 1) (.int .i64 x25) ∧ if (decide ((x25 : Int) > 0)) = true then (∃ x26 : Int, rd w (c22.add 2) (.int .i64 x26) ∧ if (decide ((x26 : Int) < 1)) = true then (Kn true w) else (∃ x27 : Int, rd w (c22.add 2) (.int .i64 x27) ∧ Kn (decide ((x27 : Int) > 1099511627776)) w)) else (Kn false w))) else (∃ x28 : Int, rd w (c22.add 1) (.int .i64 x28) ∧ if (decide ((x28 : Int) > 0)) = true then (∃ x29 : Int, rd w (c22.add 2) (.int .i64 x29) ∧ if (decide ((x29 : Int) < 1)) = true then (Kn true w) else (∃ x30 : Int, rd w (c22.add 2) (.int .i64 x30) ∧ Kn (decide ((x30 : Int) > 1099511627776)) w)) else (Kn false w))

def T_ref08_Check_4 (c44 : Addr) (w : World) (Kn : Bool → World → Prop) (Kp : List PanicEntry → World → Prop) : Prop :=
  ∃ s45 : ByteArray, rd w (c44.add 4) (.string s45) ∧ if (!(s45.toList == (ByteArray.mk #[]).toList)) = true then (Kn true w) else (∃ s46 : ByteArray, rd w (c44.add 5) (.string s46) ∧ if (!(s46.toList == (ByteArray.mk #[]).toList)) = true then (Kn true w) else (∃ x47 : Int, rd w c44 (.int .i64 x47) ∧ if ((x47 : Int) == 2) = true then (∃ s48a : Option Addr, ∃ s48l : Nat, ∃ s48c : Nat, rd w (c44.add 7) (.slice s48a s48l s48c) ∧ Kn (decide (((s48l : Nat) : Int) > 0)) w) else (Kn false w)))

def T_ref08_Check_5 (c79 : Addr) (w : World) (Kn : Bool → World → Prop) (Kp : List PanicEntry → World → Prop) : Prop :=
  ∃ s80a : Option Addr, ∃ s80l : Nat, ∃ s80c : Nat, rd w (c79.add 7) (.slice s80a s80l s80c) ∧ if (decide (((s80l : Nat) : Int) > 0)) = true then (Kn true w) else (∃ s81 : ByteArray, rd w (c79.add 6) (.string s81) ∧ Kn (!(s81.toList == (ByteArray.mk #[]).toList)) w)

/-! (*tollgate/conf.Store).sorted$1 -/
def T_conf_Store_sorted_c1 (s1 : ByteArray) (s2 : ByteArray) (s3 : ByteArray) (s4 : ByteArray) (w : World) (R : Ending → World → Prop) : Prop :=
  let w5 : World := w.alloc (.cells #[.string s1, .string s2] 89)
  let w6 : World := w5.alloc (.cells #[.string s3, .string s4] 89)
  let w7 : World := w6.drew
  ∃ s8 : ByteArray, rd w7 (⟨w.heap.size, 0, none⟩ : Addr) (.string s8) ∧ ∃ s9 : ByteArray, rd w7 (⟨w5.heap.size, 0, none⟩ : Addr) (.string s9) ∧ ∃ s10 : ByteArray, rd w7 ((⟨w.heap.size, 0, none⟩ : Addr).add 1) (.string s10) ∧ ∃ s11 : ByteArray, rd w7 ((⟨w5.heap.size, 0, none⟩ : Addr).add 1) (.string s11) ∧ Calls Tryz.prog 80 #[.string s8, .string s9] w7 (ret (fun r12 w13 => ∃ x14 : Int, r12 = .int .i64 x14 ∧ (rd w13 ((⟨w5.heap.size, 0, none⟩ : Addr).add 1) (.string s11) ∧ rd w13 ((⟨w.heap.size, 0, none⟩ : Addr).add 1) (.string s10) ∧ True) ∧ Calls Tryz.prog 80 #[.string s10, .string s11] w13 (ret (fun r15 w16 => ∃ x17 : Int, r15 = .int .i64 x17 ∧ (True) ∧ let w18 : World := w16.alloc (.cells #[.int .i64 x14, .int .i64 x17] 3)
  (True) ∧ Calls Tryz.prog 79 #[.slice (some (⟨w16.heap.size, 0, none⟩ : Addr)) 2 2] w18 (ret (fun r19 w20 => ∃ x21 : Int, r19 = .int .i64 x21 ∧ (True) ∧ R (.returned (.int .i64 x21)) w20) (pan R))) (pan R))) (pan R))

theorem T_conf_Store_sorted_c1_hl : allP (hokL Tryz.prog (hookAt []) (bodyOf Tryz.f78) 1) = (True) := by kernel_rfl

theorem T_conf_Store_sorted_c1_eq (s1 : ByteArray) (s2 : ByteArray) (s3 : ByteArray) (s4 : ByteArray) (w : World) (R : Ending → World → Prop) : vcCode Tryz.prog (hookAt []) (bodyOf Tryz.f78) 1 ⟨argEnv [.agg #[.string s1, .string s2], .agg #[.string s3, .string s4]] 0, Tryz.f78.ntmps, []⟩ w (finQ Tryz.prog Tryz.f78.results.toList R) = T_conf_Store_sorted_c1 s1 s2 s3 s4 w R := by kernel_rfl

theorem T_conf_Store_sorted_c1_b : Tryz.f78.body = some (bodyOf Tryz.f78) := by kernel_rfl
theorem T_conf_Store_sorted_c1_s : (quietSel (bodyOf Tryz.f78) && Nat.ble 2 Tryz.f78.ntmps) = true := by kernel_rfl

theorem C_conf_Store_sorted_c1 {s1 : ByteArray} {s2 : ByteArray} {s3 : ByteArray} {s4 : ByteArray} {w : World} {R : Ending → World → Prop} (h : T_conf_Store_sorted_c1 s1 s2 s3 s4 w R) : Calls Tryz.prog 78 #[.agg #[.string s1, .string s2], .agg #[.string s3, .string s4]] w R :=
  calls_of_text (args := [.agg #[.string s1, .string s2], .agg #[.string s3, .string s4]]) mixed Tryz.func78 T_conf_Store_sorted_c1_b T_conf_Store_sorted_c1_s (HOk_of _ _ (by rw [T_conf_Store_sorted_c1_hl]; exact trivial)) (by rw [T_conf_Store_sorted_c1_eq]; exact h)

/-! cmp.Or[int] -/
def T_cmp_Or_int_1_body (X : Int → World → Prop) (x2 : Int) (zero3 : Int) (s4a : Option Addr) (s4l : Nat) (s4c : Nat) (x5 : Int) (w : World) (Kn : World → Prop) (Kr : Int → World → Prop) (Kp : List PanicEntry → World → Prop)  : Prop :=
  if (decide ((x2 : Int) < x5)) = true then (0 ≤ (x2 : Int) ∧ (x2 : Int) < ((s4l : Nat) : Int) ∧ ∃ b6, s4a = some b6 ∧ ∃ x7 : Int, rd w (b6.add ((x2 : Int).toNat * 1)) (.int .i64 x7) ∧ if ((x7 : Int) != zero3) = true then (Kr x7 w) else (X (IntKind.wrap .i64 ((x2 : Int) + 1)) w)) else (Kn  w)

def T_cmp_Or_int_1 (x2 : Int) (zero3 : Int) (s4a : Option Addr) (s4l : Nat) (s4c : Nat) (x5 : Int) (w : World) (Kn : World → Prop) (Kr : Int → World → Prop) (Kp : List PanicEntry → World → Prop) : Prop :=
  ∀ X : Int → World → Prop, (∀ (x2 : Int) (w : World), T_cmp_Or_int_1_body X x2 zero3 s4a s4l s4c x5 w Kn Kr Kp → X x2 w) → X x2 w

def T_cmp_Or_int_1_outs : Exit → Option (List (Nat × Value)) := fun x => match x with | .normal => some [] | .ret => some [(2, .int .i64 0)] | .panic _ => some [] | _ => none

def T_cmp_Or_int_1_ks : Nat → Bool := ksOf [2, 5, 8, 9, 10, 11, 12, 13, 14, 15, 16]

def H_cmp_Or_int_1 : Env → World → QT → Prop := unitHook 18 T_cmp_Or_int_1_ks [(8, .int .i64 0), (3, .int .i64 0), (6, .slice none 0 0), (7, .int .i64 0)] T_cmp_Or_int_1_outs fun l w C => match l with | [v0, v1, v2, v3] => T_cmp_Or_int_1 (pInt v0) (pInt v1) (pA v2) (pL v2) (pC v2) (pInt v3) w (fun w => C .normal [] w) (fun x9 w => C .ret [.int .i64 x9] w) (fun ch w => C (.panic ch) [] w) | _ => False

theorem T_cmp_Or_int_1_hl : allP (hokL Tryz.prog (hookAt []) (at_ (bodyOf Tryz.f79) [1, 1, 0, 1, 0, 0]) 116) = (True) := by kernel_rfl
theorem T_cmp_Or_int_1_hok : HOk Tryz.prog (hookAt []) (at_ (bodyOf Tryz.f79) [1, 1, 0, 1, 0, 0]) 116 := HOk_of _ _ (by rw [T_cmp_Or_int_1_hl]; exact trivial)

theorem T_cmp_Or_int_1_eq (C : Conts) (X : List Value → World → Prop) (x2 : Int) (zero3 : Int) (s4a : Option Addr) (s4l : Nat) (s4c : Nat) (x5 : Int) (w : World) : vcCode Tryz.prog (hookAt []) (at_ (bodyOf Tryz.f79) [1, 1, 0, 1, 0, 0]) 116 ⟨[(8, .int .i64 x2)] ++ [(3, .int .i64 zero3), (6, .slice s4a s4l s4c), (7, .int .i64 x5)], 18, []⟩ w (seqQ (fun e w => takeAll e [(8, .int .i64 0)] fun l => X l w) (blockQ 0 (unitQ T_cmp_Or_int_1_outs C))) = T_cmp_Or_int_1_body (fun x2 w => X [.int .i64 x2] w) x2 zero3 s4a s4l s4c x5 w (fun w => C .normal [] w) (fun x10 w => C .ret [.int .i64 x10] w) (fun ch w => C (.panic ch) [] w) := by kernel_rfl

theorem T_cmp_Or_int_1_ok : UnitOk Tryz.prog H_cmp_Or_int_1 (at_ (bodyOf Tryz.f79) [1, 1, 0, 1]) 29 := by
  have hc : at_ (bodyOf Tryz.f79) [1, 1, 0, 1] = .block 0 (.loop (at_ (bodyOf Tryz.f79) [1, 1, 0, 1, 0, 0])) := by kernel_rfl
  rw [hc]
  refine loop_unit_ok (carr := [(8, .int .i64 0)]) (fix := [(3, .int .i64 0), (6, .slice none 0 0), (7, .int .i64 0)]) (ks := T_cmp_Or_int_1_ks) (H := (hookAt [])) (B := fun C X l u w => match l, u with | [v0], [v1, v2, v3] => T_cmp_Or_int_1_body (fun x2 w => X [.int .i64 x2] w) (pInt v0) (pInt v1) (pA v2) (pL v2) (pC v2) (pInt v3) w (fun w => C .normal [] w) (fun x11 w => C .ret [.int .i64 x11] w) (fun ch w => C (.panic ch) [] w) | _, _ => False) (by kernel_rfl) (by kernel_rfl) T_cmp_Or_int_1_hok ?_ ?_
  · intro C X l u w hl hu
    obtain ⟨v0, l_v0, rfl, k_v0, hl_v0⟩ := Kinds.cons_ hl
    obtain ⟨x2, rfl⟩ := kind_int k_v0
    obtain rfl := Kinds.nil_ hl_v0
    obtain ⟨v1, l_v1, rfl, k_v1, hu_v1⟩ := Kinds.cons_ hu
    obtain ⟨zero3, rfl⟩ := kind_int k_v1
    obtain ⟨v2, l_v2, rfl, k_v2, hu_v2⟩ := Kinds.cons_ hu_v1
    obtain ⟨s4a, s4l, s4c, rfl⟩ := kind_slice k_v2
    obtain ⟨v3, l_v3, rfl, k_v3, hu_v3⟩ := Kinds.cons_ hu_v2
    obtain ⟨x5, rfl⟩ := kind_int k_v3
    obtain rfl := Kinds.nil_ hu_v3
    exact T_cmp_Or_int_1_eq C X x2 zero3 s4a s4l s4c x5 w
  · intro l u w C hl hu
    obtain ⟨v0, l_v0, rfl, k_v0, hl_v0⟩ := Kinds.cons_ hl
    obtain ⟨x2, rfl⟩ := kind_int k_v0
    obtain rfl := Kinds.nil_ hl_v0
    obtain ⟨v1, l_v1, rfl, k_v1, hu_v1⟩ := Kinds.cons_ hu
    obtain ⟨zero3, rfl⟩ := kind_int k_v1
    obtain ⟨v2, l_v2, rfl, k_v2, hu_v2⟩ := Kinds.cons_ hu_v1
    obtain ⟨s4a, s4l, s4c, rfl⟩ := kind_slice k_v2
    obtain ⟨v3, l_v3, rfl, k_v3, hu_v3⟩ := Kinds.cons_ hu_v2
    obtain ⟨x5, rfl⟩ := kind_int k_v3
    obtain rfl := Kinds.nil_ hu_v3
    constructor
    · intro h X hX
      exact h (fun x2 w => X [.int .i64 x2] w) (fun x2 w hb => hX [.int .i64 x2] w ⟨rfl, trivial⟩ hb)
    · intro h X hX
      exact h (fun l w => match l with | [v0] => X (pInt v0) w | _ => True) (fun l w hl hb => by
        obtain ⟨v0, l_v0, rfl, k_v0, hl_v0⟩ := Kinds.cons_ hl
        obtain ⟨x2, rfl⟩ := kind_int k_v0
        obtain rfl := Kinds.nil_ hl_v0
        exact hX x2 w hb)

def T_cmp_Or_int (vals1a : Option Addr) (vals1l : Nat) (vals1c : Nat) (w : World) (R : Ending → World → Prop) : Prop :=
  T_cmp_Or_int_1 0 0 vals1a vals1l vals1c ((vals1l : Nat) : Int) w (fun w12 => R (.returned (.int .i64 0)) w12) (fun x13 w14 => R (.returned (.int .i64 x13)) w14) (pan R)

theorem T_cmp_Or_int_hl : allP (hokL Tryz.prog (hookAt [(29, H_cmp_Or_int_1)]) (bodyOf Tryz.f79) 1) = (UnitOk Tryz.prog H_cmp_Or_int_1 (at_ (bodyOf Tryz.f79) [1, 1, 0, 1]) 29 ∧ True) := by kernel_rfl

theorem T_cmp_Or_int_eq (vals1a : Option Addr) (vals1l : Nat) (vals1c : Nat) (w : World) (R : Ending → World → Prop) : vcCode Tryz.prog (hookAt [(29, H_cmp_Or_int_1)]) (bodyOf Tryz.f79) 1 ⟨argEnv [.slice vals1a vals1l vals1c] 0, Tryz.f79.ntmps, []⟩ w (finQ Tryz.prog Tryz.f79.results.toList R) = T_cmp_Or_int vals1a vals1l vals1c w R := by kernel_rfl

theorem T_cmp_Or_int_b : Tryz.f79.body = some (bodyOf Tryz.f79) := by kernel_rfl
theorem T_cmp_Or_int_s : (quietSel (bodyOf Tryz.f79) && Nat.ble 1 Tryz.f79.ntmps) = true := by kernel_rfl

theorem C_cmp_Or_int {vals1a : Option Addr} {vals1l : Nat} {vals1c : Nat} {w : World} {R : Ending → World → Prop} (h : T_cmp_Or_int vals1a vals1l vals1c w R) : Calls Tryz.prog 79 #[.slice vals1a vals1l vals1c] w R :=
  calls_of_text (args := [.slice vals1a vals1l vals1c]) mixed Tryz.func79 T_cmp_Or_int_b T_cmp_Or_int_s (HOk_of _ _ (by rw [T_cmp_Or_int_hl]; exact ⟨T_cmp_Or_int_1_ok, trivial⟩)) (by rw [T_cmp_Or_int_eq]; exact h)

/-! cmp.Compare[string] -/
def T_cmp_Compare_string (x1 : ByteArray) (y2 : ByteArray) (w : World) (R : Ending → World → Prop) : Prop :=
  Calls Tryz.prog 114 #[.string x1] w (ret (fun r3 w4 => ∃ b5 : Bool, r3 = .bool b5 ∧ Calls Tryz.prog 114 #[.string y2] w4 (ret (fun r6 w7 => ∃ b8 : Bool, r6 = .bool b8 ∧ if b5 = true then (if b8 = true then (R (.returned (.int .i64 0)) w7) else (R (.returned (.int .i64 (-1))) w7)) else (if b8 = true then (R (.returned (.int .i64 1)) w7) else (if (Op.bytesLess x1.toList y2.toList) = true then (R (.returned (.int .i64 (-1))) w7) else (if (!(Op.bytesLess x1.toList y2.toList || x1.toList == y2.toList)) = true then (R (.returned (.int .i64 1)) w7) else (R (.returned (.int .i64 0)) w7))))) (pan R))) (pan R))

theorem T_cmp_Compare_string_hl : allP (hokL Tryz.prog (hookAt []) (bodyOf Tryz.f80) 1) = (True) := by kernel_rfl

theorem T_cmp_Compare_string_eq (x1 : ByteArray) (y2 : ByteArray) (w : World) (R : Ending → World → Prop) : vcCode Tryz.prog (hookAt []) (bodyOf Tryz.f80) 1 ⟨argEnv [.string x1, .string y2] 0, Tryz.f80.ntmps, []⟩ w (finQ Tryz.prog Tryz.f80.results.toList R) = T_cmp_Compare_string x1 y2 w R := by kernel_rfl

theorem T_cmp_Compare_string_b : Tryz.f80.body = some (bodyOf Tryz.f80) := by kernel_rfl
theorem T_cmp_Compare_string_s : (quietSel (bodyOf Tryz.f80) && Nat.ble 2 Tryz.f80.ntmps) = true := by kernel_rfl

theorem C_cmp_Compare_string {x1 : ByteArray} {y2 : ByteArray} {w : World} {R : Ending → World → Prop} (h : T_cmp_Compare_string x1 y2 w R) : Calls Tryz.prog 80 #[.string x1, .string y2] w R :=
  calls_of_text (args := [.string x1, .string y2]) mixed Tryz.func80 T_cmp_Compare_string_b T_cmp_Compare_string_s (HOk_of _ _ (by rw [T_cmp_Compare_string_hl]; exact trivial)) (by rw [T_cmp_Compare_string_eq]; exact h)

/-! tollgate/conf.each -/
def T_conf_each_1_body (X : Int → World → Prop) (x4 : Int) (s5 : ByteArray) (such6g : FuncId) (such6i : Array Value) (such6c : Array Value) (x7 : Int) (w : World) (Kn : World → Prop) (Kr : Bool → World → Prop) (Kp : List PanicEntry → World → Prop)  : Prop :=
  if (decide ((x4 : Int) < x7)) = true then (0 ≤ (x4 : Int) ∧ ∃ c8, s5[(x4 : Int).toNat]? = some c8 ∧ hasBody Tryz.prog such6g = true ∧ Calls Tryz.prog such6g ⟨such6i.toList ++ ([.int .u8 ((c8.toNat : Nat) : Int)] ++ such6c.toList)⟩ w (ret (fun r9 w10 => ∃ b11 : Bool, r9 = .bool b11 ∧ if (!b11) = true then (Kr false w10) else (X (IntKind.wrap .i64 ((x4 : Int) + 1)) w10)) Kp)) else (Kn  w)

def T_conf_each_1 (x4 : Int) (s5 : ByteArray) (such6g : FuncId) (such6i : Array Value) (such6c : Array Value) (x7 : Int) (w : World) (Kn : World → Prop) (Kr : Bool → World → Prop) (Kp : List PanicEntry → World → Prop) : Prop :=
  ∀ X : Int → World → Prop, (∀ (x4 : Int) (w : World), T_conf_each_1_body X x4 s5 such6g such6i such6c x7 w Kn Kr Kp → X x4 w) → X x4 w

def T_conf_each_1_outs : Exit → Option (List (Nat × Value)) := fun x => match x with | .normal => some [] | .ret => some [(6, .bool false)] | .panic _ => some [] | _ => none

def T_conf_each_1_ks : Nat → Bool := ksOf [6, 7, 10, 11, 12, 13, 14, 15, 16, 17, 18, 19]

def H_conf_each_1 : Env → World → QT → Prop := unitHook 29 T_conf_each_1_ks [(10, .int .i64 0), (0, .string default), (2, .func (.func 0) #[] #[]), (9, .int .i64 0)] T_conf_each_1_outs fun l w C => match l with | [v0, v1, v2, v3] => T_conf_each_1 (pInt v0) (pStr v1) (pFn v2) (pFi v2) (pCa v2) (pInt v3) w (fun w => C .normal [] w) (fun b13 w => C .ret [.bool b13] w) (fun ch w => C (.panic ch) [] w) | _ => False

theorem T_conf_each_1_hl : allP (hokL Tryz.prog (hookAt []) (at_ (bodyOf Tryz.f82) [1, 0, 1, 0, 0]) 52) = (True) := by kernel_rfl
theorem T_conf_each_1_hok : HOk Tryz.prog (hookAt []) (at_ (bodyOf Tryz.f82) [1, 0, 1, 0, 0]) 52 := HOk_of _ _ (by rw [T_conf_each_1_hl]; exact trivial)

theorem T_conf_each_1_eq (C : Conts) (X : List Value → World → Prop) (x4 : Int) (s5 : ByteArray) (such6g : FuncId) (such6i : Array Value) (such6c : Array Value) (x7 : Int) (w : World) : vcCode Tryz.prog (hookAt []) (at_ (bodyOf Tryz.f82) [1, 0, 1, 0, 0]) 52 ⟨[(10, .int .i64 x4)] ++ [(0, .string s5), (2, .func (.func such6g) such6i such6c), (9, .int .i64 x7)], 29, []⟩ w (seqQ (fun e w => takeAll e [(10, .int .i64 0)] fun l => X l w) (blockQ 0 (unitQ T_conf_each_1_outs C))) = T_conf_each_1_body (fun x4 w => X [.int .i64 x4] w) x4 s5 such6g such6i such6c x7 w (fun w => C .normal [] w) (fun b14 w => C .ret [.bool b14] w) (fun ch w => C (.panic ch) [] w) := by kernel_rfl

theorem T_conf_each_1_ok : UnitOk Tryz.prog H_conf_each_1 (at_ (bodyOf Tryz.f82) [1, 0, 1]) 13 := by
  have hc : at_ (bodyOf Tryz.f82) [1, 0, 1] = .block 0 (.loop (at_ (bodyOf Tryz.f82) [1, 0, 1, 0, 0])) := by kernel_rfl
  rw [hc]
  refine loop_unit_ok (carr := [(10, .int .i64 0)]) (fix := [(0, .string default), (2, .func (.func 0) #[] #[]), (9, .int .i64 0)]) (ks := T_conf_each_1_ks) (H := (hookAt [])) (B := fun C X l u w => match l, u with | [v0], [v1, v2, v3] => T_conf_each_1_body (fun x4 w => X [.int .i64 x4] w) (pInt v0) (pStr v1) (pFn v2) (pFi v2) (pCa v2) (pInt v3) w (fun w => C .normal [] w) (fun b15 w => C .ret [.bool b15] w) (fun ch w => C (.panic ch) [] w) | _, _ => False) (by kernel_rfl) (by kernel_rfl) T_conf_each_1_hok ?_ ?_
  · intro C X l u w hl hu
    obtain ⟨v0, l_v0, rfl, k_v0, hl_v0⟩ := Kinds.cons_ hl
    obtain ⟨x4, rfl⟩ := kind_int k_v0
    obtain rfl := Kinds.nil_ hl_v0
    obtain ⟨v1, l_v1, rfl, k_v1, hu_v1⟩ := Kinds.cons_ hu
    obtain ⟨s5, rfl⟩ := kind_string k_v1
    obtain ⟨v2, l_v2, rfl, k_v2, hu_v2⟩ := Kinds.cons_ hu_v1
    obtain ⟨such6g, such6i, such6c, rfl⟩ := kind_func k_v2
    obtain ⟨v3, l_v3, rfl, k_v3, hu_v3⟩ := Kinds.cons_ hu_v2
    obtain ⟨x7, rfl⟩ := kind_int k_v3
    obtain rfl := Kinds.nil_ hu_v3
    exact T_conf_each_1_eq C X x4 s5 such6g such6i such6c x7 w
  · intro l u w C hl hu
    obtain ⟨v0, l_v0, rfl, k_v0, hl_v0⟩ := Kinds.cons_ hl
    obtain ⟨x4, rfl⟩ := kind_int k_v0
    obtain rfl := Kinds.nil_ hl_v0
    obtain ⟨v1, l_v1, rfl, k_v1, hu_v1⟩ := Kinds.cons_ hu
    obtain ⟨s5, rfl⟩ := kind_string k_v1
    obtain ⟨v2, l_v2, rfl, k_v2, hu_v2⟩ := Kinds.cons_ hu_v1
    obtain ⟨such6g, such6i, such6c, rfl⟩ := kind_func k_v2
    obtain ⟨v3, l_v3, rfl, k_v3, hu_v3⟩ := Kinds.cons_ hu_v2
    obtain ⟨x7, rfl⟩ := kind_int k_v3
    obtain rfl := Kinds.nil_ hu_v3
    constructor
    · intro h X hX
      exact h (fun x4 w => X [.int .i64 x4] w) (fun x4 w hb => hX [.int .i64 x4] w ⟨rfl, trivial⟩ hb)
    · intro h X hX
      exact h (fun l w => match l with | [v0] => X (pInt v0) w | _ => True) (fun l w hl hb => by
        obtain ⟨v0, l_v0, rfl, k_v0, hl_v0⟩ := Kinds.cons_ hl
        obtain ⟨x4, rfl⟩ := kind_int k_v0
        obtain rfl := Kinds.nil_ hl_v0
        exact hX x4 w hb)

def T_conf_each (s1 : ByteArray) (most2 : Int) (such3g : FuncId) (such3i : Array Value) (such3c : Array Value) (w : World) (R : Ending → World → Prop) : Prop :=
  T_conf_each_1 0 s1 such3g such3i such3c ((s1.size : Nat) : Int) w (fun w16 => if (decide (((s1.size : Nat) : Int) > 0)) = true then (R (.returned (.bool (decide (((s1.size : Nat) : Int) ≤ most2)))) w16) else (R (.returned (.bool false)) w16)) (fun b17 w18 => R (.returned (.bool b17)) w18) (pan R)

theorem T_conf_each_hl : allP (hokL Tryz.prog (hookAt [(13, H_conf_each_1)]) (bodyOf Tryz.f82) 1) = (UnitOk Tryz.prog H_conf_each_1 (at_ (bodyOf Tryz.f82) [1, 0, 1]) 13 ∧ True) := by kernel_rfl

theorem T_conf_each_eq (s1 : ByteArray) (most2 : Int) (such3g : FuncId) (such3i : Array Value) (such3c : Array Value) (w : World) (R : Ending → World → Prop) : vcCode Tryz.prog (hookAt [(13, H_conf_each_1)]) (bodyOf Tryz.f82) 1 ⟨argEnv [.string s1, .int .i64 most2, .func (.func such3g) such3i such3c] 0, Tryz.f82.ntmps, []⟩ w (finQ Tryz.prog Tryz.f82.results.toList R) = T_conf_each s1 most2 such3g such3i such3c w R := by kernel_rfl

theorem T_conf_each_b : Tryz.f82.body = some (bodyOf Tryz.f82) := by kernel_rfl
theorem T_conf_each_s : (quietSel (bodyOf Tryz.f82) && Nat.ble 3 Tryz.f82.ntmps) = true := by kernel_rfl

theorem C_conf_each {s1 : ByteArray} {most2 : Int} {such3g : FuncId} {such3i : Array Value} {such3c : Array Value} {w : World} {R : Ending → World → Prop} (h : T_conf_each s1 most2 such3g such3i such3c w R) : Calls Tryz.prog 82 #[.string s1, .int .i64 most2, .func (.func such3g) such3i such3c] w R :=
  calls_of_text (args := [.string s1, .int .i64 most2, .func (.func such3g) such3i such3c]) mixed Tryz.func82 T_conf_each_b T_conf_each_s (HOk_of _ _ (by rw [T_conf_each_hl]; exact ⟨T_conf_each_1_ok, trivial⟩)) (by rw [T_conf_each_eq]; exact h)

/-! tollgate/conf.small -/
def T_conf_small (c1 : Int) (w : World) (R : Ending → World → Prop) : Prop :=
  if (decide ((c1 : Int) ≥ 97)) = true then (if (decide ((c1 : Int) ≤ 122)) = true then (R (.returned (.bool true)) w) else (if (decide ((c1 : Int) ≥ 48)) = true then (if (decide ((c1 : Int) ≤ 57)) = true then (R (.returned (.bool true)) w) else (R (.returned (.bool ((c1 : Int) == 45))) w)) else (R (.returned (.bool ((c1 : Int) == 45))) w))) else (if (decide ((c1 : Int) ≥ 48)) = true then (if (decide ((c1 : Int) ≤ 57)) = true then (R (.returned (.bool true)) w) else (R (.returned (.bool ((c1 : Int) == 45))) w)) else (R (.returned (.bool ((c1 : Int) == 45))) w))

theorem T_conf_small_hl : allP (hokL Tryz.prog (hookAt []) (bodyOf Tryz.f83) 1) = (True) := by kernel_rfl

theorem T_conf_small_eq (c1 : Int) (w : World) (R : Ending → World → Prop) : vcCode Tryz.prog (hookAt []) (bodyOf Tryz.f83) 1 ⟨argEnv [.int .u8 c1] 0, Tryz.f83.ntmps, []⟩ w (finQ Tryz.prog Tryz.f83.results.toList R) = T_conf_small c1 w R := by kernel_rfl

theorem T_conf_small_b : Tryz.f83.body = some (bodyOf Tryz.f83) := by kernel_rfl
theorem T_conf_small_s : (quietSel (bodyOf Tryz.f83) && Nat.ble 1 Tryz.f83.ntmps) = true := by kernel_rfl

theorem C_conf_small {c1 : Int} {w : World} {R : Ending → World → Prop} (h : T_conf_small c1 w R) : Calls Tryz.prog 83 #[.int .u8 c1] w R :=
  calls_of_text (args := [.int .u8 c1]) mixed Tryz.func83 T_conf_small_b T_conf_small_s (HOk_of _ _ (by rw [T_conf_small_hl]; exact trivial)) (by rw [T_conf_small_eq]; exact h)

/-! tollgate/conf.host$1 -/
def T_conf_host_c1 (c1 : Int) (cap2 : Addr) (w : World) (R : Ending → World → Prop) : Prop :=
  ∃ b3 : Bool, rd w cap2 (.bool b3) ∧ (.bool ((c1 : Int) == 46) : Value).cells.size = 1 ∧ wrOk w cap2 (.bool ((c1 : Int) == 46)) ∧ let w4 : World := wr w cap2 (.bool ((c1 : Int) == 46))
  Calls Tryz.prog 83 #[.int .u8 c1] w4 (ret (fun r5 w6 => ∃ b7 : Bool, r5 = .bool b7 ∧ if b7 = true then (R (.returned (.bool true)) w6) else (∃ b8 : Bool, rd w6 cap2 (.bool b8) ∧ if b8 = true then (R (.returned (.bool (!b3))) w6) else (R (.returned (.bool false)) w6))) (pan R))

theorem T_conf_host_c1_hl : allP (hokL Tryz.prog (hookAt []) (bodyOf Tryz.f84) 1) = (True) := by kernel_rfl

theorem T_conf_host_c1_eq (c1 : Int) (cap2 : Addr) (w : World) (R : Ending → World → Prop) : vcCode Tryz.prog (hookAt []) (bodyOf Tryz.f84) 1 ⟨argEnv [.int .u8 c1, .pointer (some cap2)] 0, Tryz.f84.ntmps, []⟩ w (finQ Tryz.prog Tryz.f84.results.toList R) = T_conf_host_c1 c1 cap2 w R := by kernel_rfl

theorem T_conf_host_c1_b : Tryz.f84.body = some (bodyOf Tryz.f84) := by kernel_rfl
theorem T_conf_host_c1_s : (quietSel (bodyOf Tryz.f84) && Nat.ble 2 Tryz.f84.ntmps) = true := by kernel_rfl

theorem C_conf_host_c1 {c1 : Int} {cap2 : Addr} {w : World} {R : Ending → World → Prop} (h : T_conf_host_c1 c1 cap2 w R) : Calls Tryz.prog 84 #[.int .u8 c1, .pointer (some cap2)] w R :=
  calls_of_text (args := [.int .u8 c1, .pointer (some cap2)]) mixed Tryz.func84 T_conf_host_c1_b T_conf_host_c1_s (HOk_of _ _ (by rw [T_conf_host_c1_hl]; exact trivial)) (by rw [T_conf_host_c1_eq]; exact h)

/-! tollgate/conf.prefix$1 -/
def T_conf_prefix_c1 (c1 : Int) (w : World) (R : Ending → World → Prop) : Prop :=
  if (decide ((c1 : Int) > 32)) = true then (if (decide ((c1 : Int) < 127)) = true then (if ((c1 : Int) != 63) = true then (R (.returned (.bool ((c1 : Int) != 35))) w) else (R (.returned (.bool false)) w)) else (R (.returned (.bool false)) w)) else (R (.returned (.bool false)) w)

theorem T_conf_prefix_c1_hl : allP (hokL Tryz.prog (hookAt []) (bodyOf Tryz.f85) 1) = (True) := by kernel_rfl

theorem T_conf_prefix_c1_eq (c1 : Int) (w : World) (R : Ending → World → Prop) : vcCode Tryz.prog (hookAt []) (bodyOf Tryz.f85) 1 ⟨argEnv [.int .u8 c1] 0, Tryz.f85.ntmps, []⟩ w (finQ Tryz.prog Tryz.f85.results.toList R) = T_conf_prefix_c1 c1 w R := by kernel_rfl

theorem T_conf_prefix_c1_b : Tryz.f85.body = some (bodyOf Tryz.f85) := by kernel_rfl
theorem T_conf_prefix_c1_s : (quietSel (bodyOf Tryz.f85) && Nat.ble 1 Tryz.f85.ntmps) = true := by kernel_rfl

theorem C_conf_prefix_c1 {c1 : Int} {w : World} {R : Ending → World → Prop} (h : T_conf_prefix_c1 c1 w R) : Calls Tryz.prog 85 #[.int .u8 c1] w R :=
  calls_of_text (args := [.int .u8 c1]) mixed Tryz.func85 T_conf_prefix_c1_b T_conf_prefix_c1_s (HOk_of _ _ (by rw [T_conf_prefix_c1_hl]; exact trivial)) (by rw [T_conf_prefix_c1_eq]; exact h)

/-! tollgate/conf.address -/
def T_conf_address (s1 : ByteArray) (w : World) (R : Ending → World → Prop) : Prop :=
  Calls Tryz.prog 82 #[.string s1, .int .i64 64, .func (.func 115) #[] #[]] w (ret (fun r2 w3 => ∃ b4 : Bool, r2 = .bool b4 ∧ R (.returned (.bool b4)) w3) (pan R))

theorem T_conf_address_hl : allP (hokL Tryz.prog (hookAt []) (bodyOf Tryz.f86) 1) = (True) := by kernel_rfl

theorem T_conf_address_eq (s1 : ByteArray) (w : World) (R : Ending → World → Prop) : vcCode Tryz.prog (hookAt []) (bodyOf Tryz.f86) 1 ⟨argEnv [.string s1] 0, Tryz.f86.ntmps, []⟩ w (finQ Tryz.prog Tryz.f86.results.toList R) = T_conf_address s1 w R := by kernel_rfl

theorem T_conf_address_b : Tryz.f86.body = some (bodyOf Tryz.f86) := by kernel_rfl
theorem T_conf_address_s : (quietSel (bodyOf Tryz.f86) && Nat.ble 1 Tryz.f86.ntmps) = true := by kernel_rfl

theorem C_conf_address {s1 : ByteArray} {w : World} {R : Ending → World → Prop} (h : T_conf_address s1 w R) : Calls Tryz.prog 86 #[.string s1] w R :=
  calls_of_text (args := [.string s1]) mixed Tryz.func86 T_conf_address_b T_conf_address_s (HOk_of _ _ (by rw [T_conf_address_hl]; exact trivial)) (by rw [T_conf_address_eq]; exact h)

/-! tollgate/conf.weight -/
def T_conf_weight (w1 : Nat) (w : World) (R : Ending → World → Prop) : Prop :=
  runV Tryz.prog (do eqGuard .geq 62 (.tmp 3) (.const (.float .f64 0)) (.float .f64 w1) (.float .f64 0); binOp .geq 62 (.float .f64 w1) (.float .f64 0)) w (fun r2 w3 => ∃ b4 : Bool, r2 = .bool b4 ∧ if b4 = true then (Calls Tryz.prog 116 #[.float .f64 w1, .int .i64 1] w3 (ret (fun r5 w6 => ∃ b7 : Bool, r5 = .bool b7 ∧ if (!b7) = true then (Calls Tryz.prog 117 #[.float .f64 w1] w6 (ret (fun r8 w9 => ∃ b10 : Bool, r8 = .bool b10 ∧ R (.returned (.bool (!b10))) w9) (pan R))) else (R (.returned (.bool false)) w6)) (pan R))) else (R (.returned (.bool false)) w3)) (pan R)

theorem T_conf_weight_hl : allP (hokL Tryz.prog (hookAt []) (bodyOf Tryz.f87) 1) = (True) := by kernel_rfl

theorem T_conf_weight_eq (w1 : Nat) (w : World) (R : Ending → World → Prop) : vcCode Tryz.prog (hookAt []) (bodyOf Tryz.f87) 1 ⟨argEnv [.float .f64 w1] 0, Tryz.f87.ntmps, []⟩ w (finQ Tryz.prog Tryz.f87.results.toList R) = T_conf_weight w1 w R := by kernel_rfl

theorem T_conf_weight_b : Tryz.f87.body = some (bodyOf Tryz.f87) := by kernel_rfl
theorem T_conf_weight_s : (quietSel (bodyOf Tryz.f87) && Nat.ble 1 Tryz.f87.ntmps) = true := by kernel_rfl

theorem C_conf_weight {w1 : Nat} {w : World} {R : Ending → World → Prop} (h : T_conf_weight w1 w R) : Calls Tryz.prog 87 #[.float .f64 w1] w R :=
  calls_of_text (args := [.float .f64 w1]) mixed Tryz.func87 T_conf_weight_b T_conf_weight_s (HOk_of _ _ (by rw [T_conf_weight_hl]; exact trivial)) (by rw [T_conf_weight_eq]; exact h)

/-! tollgate/tollgateref08.PoolName -/
def T_ref08_PoolName (s1 : ByteArray) (w : World) (R : Ending → World → Prop) : Prop :=
  if (decide (((s1.size : Nat) : Int) ≥ 1)) = true then (if (decide (((s1.size : Nat) : Int) ≤ 64)) = true then (Calls Tryz.prog 43 #[.string s1, .bool false] w (ret (fun r2 w3 => ∃ b4 : Bool, r2 = .bool b4 ∧ R (.returned (.bool b4)) w3) (pan R))) else (R (.returned (.bool false)) w)) else (R (.returned (.bool false)) w)

theorem T_ref08_PoolName_hl : allP (hokL Tryz.prog (hookAt []) (bodyOf Tryz.f97) 1) = (True) := by kernel_rfl

theorem T_ref08_PoolName_eq (s1 : ByteArray) (w : World) (R : Ending → World → Prop) : vcCode Tryz.prog (hookAt []) (bodyOf Tryz.f97) 1 ⟨argEnv [.string s1] 0, Tryz.f97.ntmps, []⟩ w (finQ Tryz.prog Tryz.f97.results.toList R) = T_ref08_PoolName s1 w R := by kernel_rfl

theorem T_ref08_PoolName_b : Tryz.f97.body = some (bodyOf Tryz.f97) := by kernel_rfl
theorem T_ref08_PoolName_s : (quietSel (bodyOf Tryz.f97) && Nat.ble 1 Tryz.f97.ntmps) = true := by kernel_rfl

theorem C_ref08_PoolName {s1 : ByteArray} {w : World} {R : Ending → World → Prop} (h : T_ref08_PoolName s1 w R) : Calls Tryz.prog 97 #[.string s1] w R :=
  calls_of_text (args := [.string s1]) mixed Tryz.func97 T_ref08_PoolName_b T_ref08_PoolName_s (HOk_of _ _ (by rw [T_ref08_PoolName_hl]; exact trivial)) (by rw [T_ref08_PoolName_eq]; exact h)

/-! tollgate/tollgateref08.rightTargets -/
def T_ref08_rightTargets_1 (e2 : Int) (b3 : Bool) (w : World) (Kn : Int → World → Prop) (Kp : List PanicEntry → World → Prop) : Prop :=
  if b3 = true then (Kn 6 w) else (Kn e2 w)

def T_ref08_rightTargets_1_outs : Exit → Option (List (Nat × Value)) := fun x => match x with | .normal => some [(3, .int .i64 0)] | .panic _ => some [] | _ => none

def T_ref08_rightTargets_1_ks : Nat → Bool := ksOf [3]

def H_ref08_rightTargets_1 : Env → World → QT → Prop := unitHook 36 T_ref08_rightTargets_1_ks [(3, .int .i64 0), (8, .bool false)] T_ref08_rightTargets_1_outs fun l w C => match l with | [v0, v1] => T_ref08_rightTargets_1 (pInt v0) (pBool v1) w (fun e5 w => C .normal [.int .i64 e5] w) (fun ch w => C (.panic ch) [] w) | _ => False

theorem T_ref08_rightTargets_1_hl : allP (hokL Tryz.prog (hookAt []) (at_ (bodyOf Tryz.f98) [1, 1, 0, 1]) 29) = (True) := by kernel_rfl
theorem T_ref08_rightTargets_1_hok : HOk Tryz.prog (hookAt []) (at_ (bodyOf Tryz.f98) [1, 1, 0, 1]) 29 := HOk_of _ _ (by rw [T_ref08_rightTargets_1_hl]; exact trivial)

theorem T_ref08_rightTargets_1_eq (C : Conts) (e2 : Int) (b3 : Bool) (w : World) : vcCode Tryz.prog (hookAt []) (at_ (bodyOf Tryz.f98) [1, 1, 0, 1]) 29 ⟨[(3, .int .i64 e2), (8, .bool b3)], 36, []⟩ w (unitQ T_ref08_rightTargets_1_outs C) = T_ref08_rightTargets_1 e2 b3 w (fun e6 w => C .normal [.int .i64 e6] w) (fun ch w => C (.panic ch) [] w) := by kernel_rfl

theorem T_ref08_rightTargets_1_ok : UnitOk Tryz.prog H_ref08_rightTargets_1 (at_ (bodyOf Tryz.f98) [1, 1, 0, 1]) 29 := unit_ok (H := (hookAt [])) (by kernel_rfl) T_ref08_rightTargets_1_hok fun l w C hk => by
    obtain ⟨v0, l_v0, rfl, k_v0, hk_v0⟩ := Kinds.cons_ hk
    obtain ⟨e2, rfl⟩ := kind_int k_v0
    obtain ⟨v1, l_v1, rfl, k_v1, hk_v1⟩ := Kinds.cons_ hk_v0
    obtain ⟨b3, rfl⟩ := kind_bool k_v1
    obtain rfl := Kinds.nil_ hk_v1
    exact T_ref08_rightTargets_1_eq C e2 b3 w

def T_ref08_rightTargets_2_body (X : Int → Int → World → Prop) (e9 : Int) (i10 : Int) (l11a : Option Addr) (l11l : Nat) (l11c : Nat) (w : World) (Kn : Int → World → Prop) (Kp : List PanicEntry → World → Prop)  : Prop :=
  if (decide ((i10 : Int) < ((l11l : Nat) : Int))) = true then (0 ≤ (i10 : Int) ∧ (i10 : Int) < ((l11l : Nat) : Int) ∧ ∃ b12, l11a = some b12 ∧ ∃ f13 : Nat, rd w ((b12.add ((i10 : Int).toNat * 2)).add 1) (.float .f64 f13) ∧ Calls Tryz.prog 125 #[.float .f64 f13] w (ret (fun r14 w15 => ∃ b16 : Bool, r14 = .bool b16 ∧ if (!b16) = true then (X 15 (IntKind.wrap .i64 ((i10 : Int) + 1)) w15) else (X e9 (IntKind.wrap .i64 ((i10 : Int) + 1)) w15)) Kp)) else (Kn e9 w)

def T_ref08_rightTargets_2 (e9 : Int) (i10 : Int) (l11a : Option Addr) (l11l : Nat) (l11c : Nat) (w : World) (Kn : Int → World → Prop) (Kp : List PanicEntry → World → Prop) : Prop :=
  ∀ X : Int → Int → World → Prop, (∀ (e9 : Int) (i10 : Int) (w : World), T_ref08_rightTargets_2_body X e9 i10 l11a l11l l11c w Kn Kp → X e9 i10 w) → X e9 i10 w

def T_ref08_rightTargets_2_outs : Exit → Option (List (Nat × Value)) := fun x => match x with | .normal => some [(3, .int .i64 0)] | .panic _ => some [] | _ => none

def T_ref08_rightTargets_2_ks : Nat → Bool := ksOf [3, 4, 9, 10, 11, 12, 13, 14, 15, 16, 17, 18, 19, 20, 21]

def H_ref08_rightTargets_2 : Env → World → QT → Prop := unitHook 36 T_ref08_rightTargets_2_ks [(3, .int .i64 0), (4, .int .i64 0), (0, .slice none 0 0)] T_ref08_rightTargets_2_outs fun l w C => match l with | [v0, v1, v2] => T_ref08_rightTargets_2 (pInt v0) (pInt v1) (pA v2) (pL v2) (pC v2) w (fun e18 w => C .normal [.int .i64 e18] w) (fun ch w => C (.panic ch) [] w) | _ => False

theorem T_ref08_rightTargets_2_hl : allP (hokL Tryz.prog (hookAt []) (at_ (bodyOf Tryz.f98) [1, 1, 1, 0, 1, 0, 0]) 244) = (True) := by kernel_rfl
theorem T_ref08_rightTargets_2_hok : HOk Tryz.prog (hookAt []) (at_ (bodyOf Tryz.f98) [1, 1, 1, 0, 1, 0, 0]) 244 := HOk_of _ _ (by rw [T_ref08_rightTargets_2_hl]; exact trivial)

theorem T_ref08_rightTargets_2_eq (C : Conts) (X : List Value → World → Prop) (e9 : Int) (i10 : Int) (l11a : Option Addr) (l11l : Nat) (l11c : Nat) (w : World) : vcCode Tryz.prog (hookAt []) (at_ (bodyOf Tryz.f98) [1, 1, 1, 0, 1, 0, 0]) 244 ⟨[(3, .int .i64 e9), (4, .int .i64 i10)] ++ [(0, .slice l11a l11l l11c)], 36, []⟩ w (seqQ (fun e w => takeAll e [(3, .int .i64 0), (4, .int .i64 0)] fun l => X l w) (blockQ 0 (unitQ T_ref08_rightTargets_2_outs C))) = T_ref08_rightTargets_2_body (fun e9 i10 w => X [.int .i64 e9, .int .i64 i10] w) e9 i10 l11a l11l l11c w (fun e19 w => C .normal [.int .i64 e19] w) (fun ch w => C (.panic ch) [] w) := by kernel_rfl

theorem T_ref08_rightTargets_2_ok : UnitOk Tryz.prog H_ref08_rightTargets_2 (at_ (bodyOf Tryz.f98) [1, 1, 1, 0, 1]) 61 := by
  have hc : at_ (bodyOf Tryz.f98) [1, 1, 1, 0, 1] = .block 0 (.loop (at_ (bodyOf Tryz.f98) [1, 1, 1, 0, 1, 0, 0])) := by kernel_rfl
  rw [hc]
  refine loop_unit_ok (carr := [(3, .int .i64 0), (4, .int .i64 0)]) (fix := [(0, .slice none 0 0)]) (ks := T_ref08_rightTargets_2_ks) (H := (hookAt [])) (B := fun C X l u w => match l, u with | [v0, v1], [v2] => T_ref08_rightTargets_2_body (fun e9 i10 w => X [.int .i64 e9, .int .i64 i10] w) (pInt v0) (pInt v1) (pA v2) (pL v2) (pC v2) w (fun e20 w => C .normal [.int .i64 e20] w) (fun ch w => C (.panic ch) [] w) | _, _ => False) (by kernel_rfl) (by kernel_rfl) T_ref08_rightTargets_2_hok ?_ ?_
  · intro C X l u w hl hu
    obtain ⟨v0, l_v0, rfl, k_v0, hl_v0⟩ := Kinds.cons_ hl
    obtain ⟨e9, rfl⟩ := kind_int k_v0
    obtain ⟨v1, l_v1, rfl, k_v1, hl_v1⟩ := Kinds.cons_ hl_v0
    obtain ⟨i10, rfl⟩ := kind_int k_v1
    obtain rfl := Kinds.nil_ hl_v1
    obtain ⟨v2, l_v2, rfl, k_v2, hu_v2⟩ := Kinds.cons_ hu
    obtain ⟨l11a, l11l, l11c, rfl⟩ := kind_slice k_v2
    obtain rfl := Kinds.nil_ hu_v2
    exact T_ref08_rightTargets_2_eq C X e9 i10 l11a l11l l11c w
  · intro l u w C hl hu
    obtain ⟨v0, l_v0, rfl, k_v0, hl_v0⟩ := Kinds.cons_ hl
    obtain ⟨e9, rfl⟩ := kind_int k_v0
    obtain ⟨v1, l_v1, rfl, k_v1, hl_v1⟩ := Kinds.cons_ hl_v0
    obtain ⟨i10, rfl⟩ := kind_int k_v1
    obtain rfl := Kinds.nil_ hl_v1
    obtain ⟨v2, l_v2, rfl, k_v2, hu_v2⟩ := Kinds.cons_ hu
    obtain ⟨l11a, l11l, l11c, rfl⟩ := kind_slice k_v2
    obtain rfl := Kinds.nil_ hu_v2
    constructor
    · intro h X hX
      exact h (fun e9 i10 w => X [.int .i64 e9, .int .i64 i10] w) (fun e9 i10 w hb => hX [.int .i64 e9, .int .i64 i10] w ⟨rfl, rfl, trivial⟩ hb)
    · intro h X hX
      exact h (fun l w => match l with | [v0, v1] => X (pInt v0) (pInt v1) w | _ => True) (fun l w hl hb => by
        obtain ⟨v0, l_v0, rfl, k_v0, hl_v0⟩ := Kinds.cons_ hl
        obtain ⟨e9, rfl⟩ := kind_int k_v0
        obtain ⟨v1, l_v1, rfl, k_v1, hl_v1⟩ := Kinds.cons_ hl_v0
        obtain ⟨i10, rfl⟩ := kind_int k_v1
        obtain rfl := Kinds.nil_ hl_v1
        exact hX e9 i10 w hb)

def T_ref08_rightTargets_3_body (X : Int → Int → World → Prop) (e23 : Int) (i24 : Int) (l25a : Option Addr) (l25l : Nat) (l25c : Nat) (w : World) (Kn : Int → World → Prop) (Kp : List PanicEntry → World → Prop)  : Prop :=
  if (decide ((i24 : Int) < ((l25l : Nat) : Int))) = true then (0 ≤ (i24 : Int) ∧ (i24 : Int) < ((l25l : Nat) : Int) ∧ ∃ b26, l25a = some b26 ∧ ∃ s27 : ByteArray, rd w (b26.add ((i24 : Int).toNat * 2)) (.string s27) ∧ Calls Tryz.prog 126 #[.string s27] w (ret (fun r28 w29 => ∃ b30 : Bool, r28 = .bool b30 ∧ if (!b30) = true then (X 14 (IntKind.wrap .i64 ((i24 : Int) + 1)) w29) else (X e23 (IntKind.wrap .i64 ((i24 : Int) + 1)) w29)) Kp)) else (Kn e23 w)

def T_ref08_rightTargets_3 (e23 : Int) (i24 : Int) (l25a : Option Addr) (l25l : Nat) (l25c : Nat) (w : World) (Kn : Int → World → Prop) (Kp : List PanicEntry → World → Prop) : Prop :=
  ∀ X : Int → Int → World → Prop, (∀ (e23 : Int) (i24 : Int) (w : World), T_ref08_rightTargets_3_body X e23 i24 l25a l25l l25c w Kn Kp → X e23 i24 w) → X e23 i24 w

def T_ref08_rightTargets_3_outs : Exit → Option (List (Nat × Value)) := fun x => match x with | .normal => some [(3, .int .i64 0)] | .panic _ => some [] | _ => none

def T_ref08_rightTargets_3_ks : Nat → Bool := ksOf [3, 5, 22, 23, 24, 25, 26, 27, 28, 29, 30, 31, 32, 33, 34]

def H_ref08_rightTargets_3 : Env → World → QT → Prop := unitHook 36 T_ref08_rightTargets_3_ks [(3, .int .i64 0), (5, .int .i64 0), (0, .slice none 0 0)] T_ref08_rightTargets_3_outs fun l w C => match l with | [v0, v1, v2] => T_ref08_rightTargets_3 (pInt v0) (pInt v1) (pA v2) (pL v2) (pC v2) w (fun e32 w => C .normal [.int .i64 e32] w) (fun ch w => C (.panic ch) [] w) | _ => False

theorem T_ref08_rightTargets_3_hl : allP (hokL Tryz.prog (hookAt []) (at_ (bodyOf Tryz.f98) [1, 1, 1, 1, 0, 1, 0, 0]) 500) = (True) := by kernel_rfl
theorem T_ref08_rightTargets_3_hok : HOk Tryz.prog (hookAt []) (at_ (bodyOf Tryz.f98) [1, 1, 1, 1, 0, 1, 0, 0]) 500 := HOk_of _ _ (by rw [T_ref08_rightTargets_3_hl]; exact trivial)

theorem T_ref08_rightTargets_3_eq (C : Conts) (X : List Value → World → Prop) (e23 : Int) (i24 : Int) (l25a : Option Addr) (l25l : Nat) (l25c : Nat) (w : World) : vcCode Tryz.prog (hookAt []) (at_ (bodyOf Tryz.f98) [1, 1, 1, 1, 0, 1, 0, 0]) 500 ⟨[(3, .int .i64 e23), (5, .int .i64 i24)] ++ [(0, .slice l25a l25l l25c)], 36, []⟩ w (seqQ (fun e w => takeAll e [(3, .int .i64 0), (5, .int .i64 0)] fun l => X l w) (blockQ 2 (unitQ T_ref08_rightTargets_3_outs C))) = T_ref08_rightTargets_3_body (fun e23 i24 w => X [.int .i64 e23, .int .i64 i24] w) e23 i24 l25a l25l l25c w (fun e33 w => C .normal [.int .i64 e33] w) (fun ch w => C (.panic ch) [] w) := by kernel_rfl

theorem T_ref08_rightTargets_3_ok : UnitOk Tryz.prog H_ref08_rightTargets_3 (at_ (bodyOf Tryz.f98) [1, 1, 1, 1, 0, 1]) 125 := by
  have hc : at_ (bodyOf Tryz.f98) [1, 1, 1, 1, 0, 1] = .block 2 (.loop (at_ (bodyOf Tryz.f98) [1, 1, 1, 1, 0, 1, 0, 0])) := by kernel_rfl
  rw [hc]
  refine loop_unit_ok (carr := [(3, .int .i64 0), (5, .int .i64 0)]) (fix := [(0, .slice none 0 0)]) (ks := T_ref08_rightTargets_3_ks) (H := (hookAt [])) (B := fun C X l u w => match l, u with | [v0, v1], [v2] => T_ref08_rightTargets_3_body (fun e23 i24 w => X [.int .i64 e23, .int .i64 i24] w) (pInt v0) (pInt v1) (pA v2) (pL v2) (pC v2) w (fun e34 w => C .normal [.int .i64 e34] w) (fun ch w => C (.panic ch) [] w) | _, _ => False) (by kernel_rfl) (by kernel_rfl) T_ref08_rightTargets_3_hok ?_ ?_
  · intro C X l u w hl hu
    obtain ⟨v0, l_v0, rfl, k_v0, hl_v0⟩ := Kinds.cons_ hl
    obtain ⟨e23, rfl⟩ := kind_int k_v0
    obtain ⟨v1, l_v1, rfl, k_v1, hl_v1⟩ := Kinds.cons_ hl_v0
    obtain ⟨i24, rfl⟩ := kind_int k_v1
    obtain rfl := Kinds.nil_ hl_v1
    obtain ⟨v2, l_v2, rfl, k_v2, hu_v2⟩ := Kinds.cons_ hu
    obtain ⟨l25a, l25l, l25c, rfl⟩ := kind_slice k_v2
    obtain rfl := Kinds.nil_ hu_v2
    exact T_ref08_rightTargets_3_eq C X e23 i24 l25a l25l l25c w
  · intro l u w C hl hu
    obtain ⟨v0, l_v0, rfl, k_v0, hl_v0⟩ := Kinds.cons_ hl
    obtain ⟨e23, rfl⟩ := kind_int k_v0
    obtain ⟨v1, l_v1, rfl, k_v1, hl_v1⟩ := Kinds.cons_ hl_v0
    obtain ⟨i24, rfl⟩ := kind_int k_v1
    obtain rfl := Kinds.nil_ hl_v1
    obtain ⟨v2, l_v2, rfl, k_v2, hu_v2⟩ := Kinds.cons_ hu
    obtain ⟨l25a, l25l, l25c, rfl⟩ := kind_slice k_v2
    obtain rfl := Kinds.nil_ hu_v2
    constructor
    · intro h X hX
      exact h (fun e23 i24 w => X [.int .i64 e23, .int .i64 i24] w) (fun e23 i24 w hb => hX [.int .i64 e23, .int .i64 i24] w ⟨rfl, rfl, trivial⟩ hb)
    · intro h X hX
      exact h (fun l w => match l with | [v0, v1] => X (pInt v0) (pInt v1) w | _ => True) (fun l w hl hb => by
        obtain ⟨v0, l_v0, rfl, k_v0, hl_v0⟩ := Kinds.cons_ hl
        obtain ⟨e23, rfl⟩ := kind_int k_v0
        obtain ⟨v1, l_v1, rfl, k_v1, hl_v1⟩ := Kinds.cons_ hl_v0
        obtain ⟨i24, rfl⟩ := kind_int k_v1
        obtain rfl := Kinds.nil_ hl_v1
        exact hX e23 i24 w hb)

def T_ref08_rightTargets (l1a : Option Addr) (l1l : Nat) (l1c : Nat) (w : World) (R : Ending → World → Prop) : Prop :=
  T_ref08_rightTargets_1 0 (decide (((l1l : Nat) : Int) > 16)) w (fun e7 w8 => T_ref08_rightTargets_2 e7 0 l1a l1l l1c w8 (fun e21 w22 => T_ref08_rightTargets_3 e21 0 l1a l1l l1c w22 (fun e35 w36 => R (.returned (.int .i64 e35)) w36) (pan R)) (pan R)) (pan R)

theorem T_ref08_rightTargets_hl : allP (hokL Tryz.prog (hookAt [(29, H_ref08_rightTargets_1), (61, H_ref08_rightTargets_2), (125, H_ref08_rightTargets_3)]) (bodyOf Tryz.f98) 1) = (UnitOk Tryz.prog H_ref08_rightTargets_1 (at_ (bodyOf Tryz.f98) [1, 1, 0, 1]) 29 ∧ UnitOk Tryz.prog H_ref08_rightTargets_2 (at_ (bodyOf Tryz.f98) [1, 1, 1, 0, 1]) 61 ∧ UnitOk Tryz.prog H_ref08_rightTargets_3 (at_ (bodyOf Tryz.f98) [1, 1, 1, 1, 0, 1]) 125 ∧ True) := by kernel_rfl

theorem T_ref08_rightTargets_eq (l1a : Option Addr) (l1l : Nat) (l1c : Nat) (w : World) (R : Ending → World → Prop) : vcCode Tryz.prog (hookAt [(29, H_ref08_rightTargets_1), (61, H_ref08_rightTargets_2), (125, H_ref08_rightTargets_3)]) (bodyOf Tryz.f98) 1 ⟨argEnv [.slice l1a l1l l1c] 0, Tryz.f98.ntmps, []⟩ w (finQ Tryz.prog Tryz.f98.results.toList R) = T_ref08_rightTargets l1a l1l l1c w R := by kernel_rfl

theorem T_ref08_rightTargets_b : Tryz.f98.body = some (bodyOf Tryz.f98) := by kernel_rfl
theorem T_ref08_rightTargets_s : (quietSel (bodyOf Tryz.f98) && Nat.ble 1 Tryz.f98.ntmps) = true := by kernel_rfl

theorem C_ref08_rightTargets {l1a : Option Addr} {l1l : Nat} {l1c : Nat} {w : World} {R : Ending → World → Prop} (h : T_ref08_rightTargets l1a l1l l1c w R) : Calls Tryz.prog 98 #[.slice l1a l1l l1c] w R :=
  calls_of_text (args := [.slice l1a l1l l1c]) mixed Tryz.func98 T_ref08_rightTargets_b T_ref08_rightTargets_s (HOk_of _ _ (by rw [T_ref08_rightTargets_hl]; exact ⟨T_ref08_rightTargets_1_ok, T_ref08_rightTargets_2_ok, T_ref08_rightTargets_3_ok, trivial⟩)) (by rw [T_ref08_rightTargets_eq]; exact h)

/-! tollgate/tollgateref08.less -/
def T_ref08_less (s1 : ByteArray) (s2 : ByteArray) (s3 : ByteArray) (s4 : ByteArray) (s5 : ByteArray) (s6 : ByteArray) (w : World) (R : Ending → World → Prop) : Prop :=
  let w7 : World := w.alloc (.cells #[.string s1, .string s2, .string s3] 36)
  let w8 : World := w7.alloc (.cells #[.string s4, .string s5, .string s6] 36)
  ∃ s9 : ByteArray, rd w8 (⟨w.heap.size, 0, none⟩ : Addr) (.string s9) ∧ ∃ s10 : ByteArray, rd w8 (⟨w7.heap.size, 0, none⟩ : Addr) (.string s10) ∧ if (Op.bytesLess s9.toList s10.toList) = true then (R (.returned (.bool true)) w8) else (∃ s11 : ByteArray, rd w8 (⟨w.heap.size, 0, none⟩ : Addr) (.string s11) ∧ ∃ s12 : ByteArray, rd w8 (⟨w7.heap.size, 0, none⟩ : Addr) (.string s12) ∧ if (s11.toList == s12.toList) = true then (∃ s13 : ByteArray, rd w8 ((⟨w.heap.size, 0, none⟩ : Addr).add 1) (.string s13) ∧ ∃ s14 : ByteArray, rd w8 ((⟨w7.heap.size, 0, none⟩ : Addr).add 1) (.string s14) ∧ R (.returned (.bool (Op.bytesLess s13.toList s14.toList))) w8) else (R (.returned (.bool false)) w8))

theorem T_ref08_less_hl : allP (hokL Tryz.prog (hookAt []) (bodyOf Tryz.f107) 1) = (True) := by kernel_rfl

theorem T_ref08_less_eq (s1 : ByteArray) (s2 : ByteArray) (s3 : ByteArray) (s4 : ByteArray) (s5 : ByteArray) (s6 : ByteArray) (w : World) (R : Ending → World → Prop) : vcCode Tryz.prog (hookAt []) (bodyOf Tryz.f107) 1 ⟨argEnv [.agg #[.string s1, .string s2, .string s3], .agg #[.string s4, .string s5, .string s6]] 0, Tryz.f107.ntmps, []⟩ w (finQ Tryz.prog Tryz.f107.results.toList R) = T_ref08_less s1 s2 s3 s4 s5 s6 w R := by kernel_rfl

theorem T_ref08_less_b : Tryz.f107.body = some (bodyOf Tryz.f107) := by kernel_rfl
theorem T_ref08_less_s : (quietSel (bodyOf Tryz.f107) && Nat.ble 2 Tryz.f107.ntmps) = true := by kernel_rfl

theorem C_ref08_less {s1 : ByteArray} {s2 : ByteArray} {s3 : ByteArray} {s4 : ByteArray} {s5 : ByteArray} {s6 : ByteArray} {w : World} {R : Ending → World → Prop} (h : T_ref08_less s1 s2 s3 s4 s5 s6 w R) : Calls Tryz.prog 107 #[.agg #[.string s1, .string s2, .string s3], .agg #[.string s4, .string s5, .string s6]] w R :=
  calls_of_text (args := [.agg #[.string s1, .string s2, .string s3], .agg #[.string s4, .string s5, .string s6]]) mixed Tryz.func107 T_ref08_less_b T_ref08_less_s (HOk_of _ _ (by rw [T_ref08_less_hl]; exact trivial)) (by rw [T_ref08_less_eq]; exact h)

/-! cmp.isNaN[string] -/
def T_cmp_isNaN_string (x1 : ByteArray) (w : World) (R : Ending → World → Prop) : Prop :=
  R (.returned (.bool (!(x1.toList == x1.toList)))) w

theorem T_cmp_isNaN_string_hl : allP (hokL Tryz.prog (hookAt []) (bodyOf Tryz.f114) 1) = (True) := by kernel_rfl

theorem T_cmp_isNaN_string_eq (x1 : ByteArray) (w : World) (R : Ending → World → Prop) : vcCode Tryz.prog (hookAt []) (bodyOf Tryz.f114) 1 ⟨argEnv [.string x1] 0, Tryz.f114.ntmps, []⟩ w (finQ Tryz.prog Tryz.f114.results.toList R) = T_cmp_isNaN_string x1 w R := by kernel_rfl

theorem T_cmp_isNaN_string_b : Tryz.f114.body = some (bodyOf Tryz.f114) := by kernel_rfl
theorem T_cmp_isNaN_string_s : (quietSel (bodyOf Tryz.f114) && Nat.ble 1 Tryz.f114.ntmps) = true := by kernel_rfl

theorem C_cmp_isNaN_string {x1 : ByteArray} {w : World} {R : Ending → World → Prop} (h : T_cmp_isNaN_string x1 w R) : Calls Tryz.prog 114 #[.string x1] w R :=
  calls_of_text (args := [.string x1]) mixed Tryz.func114 T_cmp_isNaN_string_b T_cmp_isNaN_string_s (HOk_of _ _ (by rw [T_cmp_isNaN_string_hl]; exact trivial)) (by rw [T_cmp_isNaN_string_eq]; exact h)

/-! tollgate/conf.address$1 -/
def T_conf_address_c1 (c1 : Int) (w : World) (R : Ending → World → Prop) : Prop :=
  if (decide ((c1 : Int) > 32)) = true then (R (.returned (.bool (decide ((c1 : Int) < 127)))) w) else (R (.returned (.bool false)) w)

theorem T_conf_address_c1_hl : allP (hokL Tryz.prog (hookAt []) (bodyOf Tryz.f115) 1) = (True) := by kernel_rfl

theorem T_conf_address_c1_eq (c1 : Int) (w : World) (R : Ending → World → Prop) : vcCode Tryz.prog (hookAt []) (bodyOf Tryz.f115) 1 ⟨argEnv [.int .u8 c1] 0, Tryz.f115.ntmps, []⟩ w (finQ Tryz.prog Tryz.f115.results.toList R) = T_conf_address_c1 c1 w R := by kernel_rfl

theorem T_conf_address_c1_b : Tryz.f115.body = some (bodyOf Tryz.f115) := by kernel_rfl
theorem T_conf_address_c1_s : (quietSel (bodyOf Tryz.f115) && Nat.ble 1 Tryz.f115.ntmps) = true := by kernel_rfl

theorem C_conf_address_c1 {c1 : Int} {w : World} {R : Ending → World → Prop} (h : T_conf_address_c1 c1 w R) : Calls Tryz.prog 115 #[.int .u8 c1] w R :=
  calls_of_text (args := [.int .u8 c1]) mixed Tryz.func115 T_conf_address_c1_b T_conf_address_c1_s (HOk_of _ _ (by rw [T_conf_address_c1_hl]; exact trivial)) (by rw [T_conf_address_c1_eq]; exact h)

/-! math.IsInf -/
def T_math_IsInf (f1 : Nat) (sign2 : Int) (w : World) (R : Ending → World → Prop) : Prop :=
  if ((sign2 : Int) == 0) = true then (Calls Tryz.prog 140 #[.float .f64 f1] w (ret (fun r3 w4 => ∃ f5 : Nat, r3 = .float .f64 f5 ∧ runV Tryz.prog (do eqGuard .gtr 62 (.tmp 13) (.const (.float .f64 9218868437227405311)) (.float .f64 f5) (.float .f64 9218868437227405311); binOp .gtr 62 (.float .f64 f5) (.float .f64 9218868437227405311)) w4 (fun r6 w7 => ∃ b8 : Bool, r6 = .bool b8 ∧ R (.returned (.bool b8)) w7) (pan R)) (pan R))) else (if (decide ((sign2 : Int) < 0)) = true then (runV Tryz.prog (do eqGuard .gtr 62 (.tmp 13) (.const (.float .f64 9218868437227405311)) (.float .f64 (Op.negFloat .f64 f1)) (.float .f64 9218868437227405311); binOp .gtr 62 (.float .f64 (Op.negFloat .f64 f1)) (.float .f64 9218868437227405311)) w (fun r9 w10 => ∃ b11 : Bool, r9 = .bool b11 ∧ R (.returned (.bool b11)) w10) (pan R)) else (runV Tryz.prog (do eqGuard .gtr 62 (.tmp 13) (.const (.float .f64 9218868437227405311)) (.float .f64 f1) (.float .f64 9218868437227405311); binOp .gtr 62 (.float .f64 f1) (.float .f64 9218868437227405311)) w (fun r12 w13 => ∃ b14 : Bool, r12 = .bool b14 ∧ R (.returned (.bool b14)) w13) (pan R)))

theorem T_math_IsInf_hl : allP (hokL Tryz.prog (hookAt []) (bodyOf Tryz.f116) 1) = (True) := by kernel_rfl

theorem T_math_IsInf_eq (f1 : Nat) (sign2 : Int) (w : World) (R : Ending → World → Prop) : vcCode Tryz.prog (hookAt []) (bodyOf Tryz.f116) 1 ⟨argEnv [.float .f64 f1, .int .i64 sign2] 0, Tryz.f116.ntmps, []⟩ w (finQ Tryz.prog Tryz.f116.results.toList R) = T_math_IsInf f1 sign2 w R := by kernel_rfl

theorem T_math_IsInf_b : Tryz.f116.body = some (bodyOf Tryz.f116) := by kernel_rfl
theorem T_math_IsInf_s : (quietSel (bodyOf Tryz.f116) && Nat.ble 2 Tryz.f116.ntmps) = true := by kernel_rfl

theorem C_math_IsInf {f1 : Nat} {sign2 : Int} {w : World} {R : Ending → World → Prop} (h : T_math_IsInf f1 sign2 w R) : Calls Tryz.prog 116 #[.float .f64 f1, .int .i64 sign2] w R :=
  calls_of_text (args := [.float .f64 f1, .int .i64 sign2]) mixed Tryz.func116 T_math_IsInf_b T_math_IsInf_s (HOk_of _ _ (by rw [T_math_IsInf_hl]; exact trivial)) (by rw [T_math_IsInf_eq]; exact h)

/-! math.Signbit -/
def T_math_Signbit (x1 : Nat) (w : World) (R : Ending → World → Prop) : Prop :=
  runV Tryz.prog (callFunc 81 #[.float .f64 x1]) w (nxv (fun r2 w3 => ∃ x4 : Int, r2 = .int .u64 x4 ∧ R (.returned (.bool (decide ((IntKind.wrap .i64 x4 : Int) < 0)))) w3)) (pan R)

theorem T_math_Signbit_hl : allP (hokL Tryz.prog (hookAt []) (bodyOf Tryz.f117) 1) = (True) := by kernel_rfl

theorem T_math_Signbit_eq (x1 : Nat) (w : World) (R : Ending → World → Prop) : vcCode Tryz.prog (hookAt []) (bodyOf Tryz.f117) 1 ⟨argEnv [.float .f64 x1] 0, Tryz.f117.ntmps, []⟩ w (finQ Tryz.prog Tryz.f117.results.toList R) = T_math_Signbit x1 w R := by kernel_rfl

theorem T_math_Signbit_b : Tryz.f117.body = some (bodyOf Tryz.f117) := by kernel_rfl
theorem T_math_Signbit_s : (quietSel (bodyOf Tryz.f117) && Nat.ble 1 Tryz.f117.ntmps) = true := by kernel_rfl

theorem C_math_Signbit {x1 : Nat} {w : World} {R : Ending → World → Prop} (h : T_math_Signbit x1 w R) : Calls Tryz.prog 117 #[.float .f64 x1] w R :=
  calls_of_text (args := [.float .f64 x1]) mixed Tryz.func117 T_math_Signbit_b T_math_Signbit_s (HOk_of _ _ (by rw [T_math_Signbit_hl]; exact trivial)) (by rw [T_math_Signbit_eq]; exact h)

/-! tollgate/tollgateref08.Weight -/
def T_ref08_Weight (w1 : Nat) (w : World) (R : Ending → World → Prop) : Prop :=
  runV Tryz.prog (callFunc 81 #[.float .f64 w1]) w (nxv (fun r2 w3 => ∃ x4 : Int, r2 = .int .u64 x4 ∧ R (.returned (.bool (decide ((x4 : Int) < 9218868437227405312)))) w3)) (pan R)

theorem T_ref08_Weight_hl : allP (hokL Tryz.prog (hookAt []) (bodyOf Tryz.f125) 1) = (True) := by kernel_rfl

theorem T_ref08_Weight_eq (w1 : Nat) (w : World) (R : Ending → World → Prop) : vcCode Tryz.prog (hookAt []) (bodyOf Tryz.f125) 1 ⟨argEnv [.float .f64 w1] 0, Tryz.f125.ntmps, []⟩ w (finQ Tryz.prog Tryz.f125.results.toList R) = T_ref08_Weight w1 w R := by kernel_rfl

theorem T_ref08_Weight_b : Tryz.f125.body = some (bodyOf Tryz.f125) := by kernel_rfl
theorem T_ref08_Weight_s : (quietSel (bodyOf Tryz.f125) && Nat.ble 1 Tryz.f125.ntmps) = true := by kernel_rfl

theorem C_ref08_Weight {w1 : Nat} {w : World} {R : Ending → World → Prop} (h : T_ref08_Weight w1 w R) : Calls Tryz.prog 125 #[.float .f64 w1] w R :=
  calls_of_text (args := [.float .f64 w1]) mixed Tryz.func125 T_ref08_Weight_b T_ref08_Weight_s (HOk_of _ _ (by rw [T_ref08_Weight_hl]; exact trivial)) (by rw [T_ref08_Weight_eq]; exact h)

/-! tollgate/tollgateref08.Addr -/
def T_ref08_Addr (s1 : ByteArray) (w : World) (R : Ending → World → Prop) : Prop :=
  if (decide (((s1.size : Nat) : Int) ≥ 1)) = true then (if (decide (((s1.size : Nat) : Int) ≤ 64)) = true then (Calls Tryz.prog 44 #[.string s1] w (ret (fun r2 w3 => ∃ b4 : Bool, r2 = .bool b4 ∧ R (.returned (.bool b4)) w3) (pan R))) else (R (.returned (.bool false)) w)) else (R (.returned (.bool false)) w)

theorem T_ref08_Addr_hl : allP (hokL Tryz.prog (hookAt []) (bodyOf Tryz.f126) 1) = (True) := by kernel_rfl

theorem T_ref08_Addr_eq (s1 : ByteArray) (w : World) (R : Ending → World → Prop) : vcCode Tryz.prog (hookAt []) (bodyOf Tryz.f126) 1 ⟨argEnv [.string s1] 0, Tryz.f126.ntmps, []⟩ w (finQ Tryz.prog Tryz.f126.results.toList R) = T_ref08_Addr s1 w R := by kernel_rfl

theorem T_ref08_Addr_b : Tryz.f126.body = some (bodyOf Tryz.f126) := by kernel_rfl
theorem T_ref08_Addr_s : (quietSel (bodyOf Tryz.f126) && Nat.ble 1 Tryz.f126.ntmps) = true := by kernel_rfl

theorem C_ref08_Addr {s1 : ByteArray} {w : World} {R : Ending → World → Prop} (h : T_ref08_Addr s1 w R) : Calls Tryz.prog 126 #[.string s1] w R :=
  calls_of_text (args := [.string s1]) mixed Tryz.func126 T_ref08_Addr_b T_ref08_Addr_s (HOk_of _ _ (by rw [T_ref08_Addr_hl]; exact trivial)) (by rw [T_ref08_Addr_eq]; exact h)

/-! math.Abs -/
end Go.Proofs.YtcpmfjclkdjfmaaGreat

/-
  What the functions' code comes to; printed by a program of this claim's own.
-/
namespace Go.Proofs.YtcpmfjclkdjfmaaGreat
open Go Go.Vc
set_option maxRecDepth 100000
set_option linter.unusedVariables false

/-! tollgate/conf.num -/
def T_conf_num (b1a : Option Addr) (b1l : Nat) (b1c : Nat) (n2 : Int) (w : World) (R : Ending → World → Prop) : Prop :=
  Calls Tryz.prog 88 #[.int .i64 n2] w (ret (fun r3 w4 => ∃ s5a : Option Addr, ∃ s5l : Nat, ∃ s5c : Nat, ∃ x6 : Int, r3 = .tuple #[.slice s5a s5l s5c, .int .i64 x6] ∧ runV Tryz.prog (Builtin.append_ #[56, 56] 56 #[.slice b1a b1l b1c, .slice s5a s5l s5c]) w4 (fun r7 w8 => ∃ s9a : Option Addr, ∃ s9l : Nat, ∃ s9c : Nat, r7 = .slice s9a s9l s9c ∧ R (.returned (.slice s9a s9l s9c)) w8) (pan R)) (pan R))

theorem T_conf_num_hl : allP (hokL Tryz.prog (hookAt []) (bodyOf Tryz.f49) 1) = (True) := by kernel_rfl

theorem T_conf_num_eq (b1a : Option Addr) (b1l : Nat) (b1c : Nat) (n2 : Int) (w : World) (R : Ending → World → Prop) : vcCode Tryz.prog (hookAt []) (bodyOf Tryz.f49) 1 ⟨argEnv [.slice b1a b1l b1c, .int .i64 n2] 0, Tryz.f49.ntmps, []⟩ w (finQ Tryz.prog Tryz.f49.results.toList R) = T_conf_num b1a b1l b1c n2 w R := by kernel_rfl

theorem T_conf_num_b : Tryz.f49.body = some (bodyOf Tryz.f49) := by kernel_rfl
theorem T_conf_num_s : (quietSel (bodyOf Tryz.f49) && Nat.ble 2 Tryz.f49.ntmps) = true := by kernel_rfl

theorem C_conf_num {b1a : Option Addr} {b1l : Nat} {b1c : Nat} {n2 : Int} {w : World} {R : Ending → World → Prop} (h : T_conf_num b1a b1l b1c n2 w R) : Calls Tryz.prog 49 #[.slice b1a b1l b1c, .int .i64 n2] w R :=
  calls_of_text (args := [.slice b1a b1l b1c, .int .i64 n2]) mixed Tryz.func49 T_conf_num_b T_conf_num_s (HOk_of _ _ (by rw [T_conf_num_hl]; exact trivial)) (by rw [T_conf_num_eq]; exact h)

/-! tollgate/wire.Number -/
def T_wire_Number (n1 : Int) (w : World) (R : Ending → World → Prop) : Prop :=
  if (decide ((n1 : Int) < 0)) = true then (R (.returned (.tuple #[.slice none 0 0, .int .i64 2])) w) else (if (decide ((n1 : Int) > 1099511627776)) = true then (R (.returned (.tuple #[.slice none 0 0, .int .i64 2])) w) else (Calls Tryz.prog 118 #[.slice none 0 0, .int .i64 n1] w (ret (fun r2 w3 => ∃ s4a : Option Addr, ∃ s4l : Nat, ∃ s4c : Nat, r2 = .slice s4a s4l s4c ∧ R (.returned (.tuple #[.slice s4a s4l s4c, .int .i64 0])) w3) (pan R))))

theorem T_wire_Number_hl : allP (hokL Tryz.prog (hookAt []) (bodyOf Tryz.f88) 1) = (True) := by kernel_rfl

theorem T_wire_Number_eq (n1 : Int) (w : World) (R : Ending → World → Prop) : vcCode Tryz.prog (hookAt []) (bodyOf Tryz.f88) 1 ⟨argEnv [.int .i64 n1] 0, Tryz.f88.ntmps, []⟩ w (finQ Tryz.prog Tryz.f88.results.toList R) = T_wire_Number n1 w R := by kernel_rfl

theorem T_wire_Number_b : Tryz.f88.body = some (bodyOf Tryz.f88) := by kernel_rfl
theorem T_wire_Number_s : (quietSel (bodyOf Tryz.f88) && Nat.ble 1 Tryz.f88.ntmps) = true := by kernel_rfl

theorem C_wire_Number {n1 : Int} {w : World} {R : Ending → World → Prop} (h : T_wire_Number n1 w R) : Calls Tryz.prog 88 #[.int .i64 n1] w R :=
  calls_of_text (args := [.int .i64 n1]) mixed Tryz.func88 T_wire_Number_b T_wire_Number_s (HOk_of _ _ (by rw [T_wire_Number_hl]; exact trivial)) (by rw [T_wire_Number_eq]; exact h)

/-! tollgate/conf.row -/
def T_conf_row_1_body (X : Option Addr → Nat → Nat → Int → World → Prop) (b6a : Option Addr) (b6l : Nat) (b6c : Nat) (x7 : Int) (s8a : Option Addr) (s8l : Nat) (s8c : Nat) (x9 : Int) (w : World) (Kn : Option Addr → Nat → Nat → World → Prop) (Kp : List PanicEntry → World → Prop)  : Prop :=
  if (decide ((x7 : Int) < x9)) = true then (0 ≤ (x7 : Int) ∧ (x7 : Int) < ((s8l : Nat) : Int) ∧ ∃ b10, s8a = some b10 ∧ ∃ s11 : ByteArray, ∃ f12 : Nat, rd w (b10.add ((x7 : Int).toNat * 2)) (.agg #[.string s11, .float .f64 f12]) ∧ let w13 : World := w.alloc (.cells #[.string (ByteArray.mk #[]), .float .f64 0] 64)
  (.agg #[.string s11, .float .f64 f12] : Value).cells.size = 2 ∧ wrOk w13 (⟨w.heap.size, 0, none⟩ : Addr) (.agg #[.string s11, .float .f64 f12]) ∧ let w14 : World := wr w13 (⟨w.heap.size, 0, none⟩ : Addr) (.agg #[.string s11, .float .f64 f12])
  let w15 : World := w14.drew
  ∃ s16 : ByteArray, rd w15 (⟨w.heap.size, 0, none⟩ : Addr) (.string s16) ∧ ∃ f17 : Nat, rd w15 ((⟨w.heap.size, 0, none⟩ : Addr).add 1) (.float .f64 f17) ∧ Calls Tryz.prog 90 #[.slice b6a b6l b6c, .string s16] w15 (ret (fun r18 w19 => ∃ s20a : Option Addr, ∃ s20l : Nat, ∃ s20c : Nat, r18 = .slice s20a s20l s20c ∧ (rd w19 ((⟨w.heap.size, 0, none⟩ : Addr).add 1) (.float .f64 f17) ∧ True) ∧ Calls Tryz.prog 119 #[.slice s20a s20l s20c, .float .f64 f17] w19 (ret (fun r21 w22 => ∃ s23a : Option Addr, ∃ s23l : Nat, ∃ s23c : Nat, r21 = .slice s23a s23l s23c ∧ (True) ∧ X s23a s23l s23c (IntKind.wrap .i64 ((x7 : Int) + 1)) w22) Kp)) Kp)) else (Kn b6a b6l b6c w)

def T_conf_row_1 (b6a : Option Addr) (b6l : Nat) (b6c : Nat) (x7 : Int) (s8a : Option Addr) (s8l : Nat) (s8c : Nat) (x9 : Int) (w : World) (Kn : Option Addr → Nat → Nat → World → Prop) (Kp : List PanicEntry → World → Prop) : Prop :=
  ∀ X : Option Addr → Nat → Nat → Int → World → Prop, (∀ (b6a : Option Addr) (b6l : Nat) (b6c : Nat) (x7 : Int) (w : World), T_conf_row_1_body X b6a b6l b6c x7 s8a s8l s8c x9 w Kn Kp → X b6a b6l b6c x7 w) → X b6a b6l b6c x7 w

def T_conf_row_1_outs : Exit → Option (List (Nat × Value)) := fun x => match x with | .normal => some [(0, .slice none 0 0)] | .panic _ => some [] | _ => none

def T_conf_row_1_ks : Nat → Bool := ksOf [0, 6, 13, 14, 15, 16, 17, 18, 19, 20, 21, 22, 23, 24]

def H_conf_row_1 : Env → World → QT → Prop := unitHook 26 T_conf_row_1_ks [(0, .slice none 0 0), (13, .int .i64 0), (11, .slice none 0 0), (12, .int .i64 0)] T_conf_row_1_outs fun l w C => match l with | [v0, v1, v2, v3] => T_conf_row_1 (pA v0) (pL v0) (pC v0) (pInt v1) (pA v2) (pL v2) (pC v2) (pInt v3) w (fun b25a b25l b25c w => C .normal [.slice b25a b25l b25c] w) (fun ch w => C (.panic ch) [] w) | _ => False

theorem T_conf_row_1_hl : allP (hokL Tryz.prog (hookAt []) (at_ (bodyOf Tryz.f89) [1, 1, 0, 1, 0, 0]) 116) = (True) := by kernel_rfl
theorem T_conf_row_1_hok : HOk Tryz.prog (hookAt []) (at_ (bodyOf Tryz.f89) [1, 1, 0, 1, 0, 0]) 116 := HOk_of _ _ (by rw [T_conf_row_1_hl]; exact trivial)

theorem T_conf_row_1_eq (C : Conts) (X : List Value → World → Prop) (b6a : Option Addr) (b6l : Nat) (b6c : Nat) (x7 : Int) (s8a : Option Addr) (s8l : Nat) (s8c : Nat) (x9 : Int) (w : World) : vcCode Tryz.prog (hookAt []) (at_ (bodyOf Tryz.f89) [1, 1, 0, 1, 0, 0]) 116 ⟨[(0, .slice b6a b6l b6c), (13, .int .i64 x7)] ++ [(11, .slice s8a s8l s8c), (12, .int .i64 x9)], 26, []⟩ w (seqQ (fun e w => takeAll e [(0, .slice none 0 0), (13, .int .i64 0)] fun l => X l w) (blockQ 0 (unitQ T_conf_row_1_outs C))) = T_conf_row_1_body (fun b6a b6l b6c x7 w => X [.slice b6a b6l b6c, .int .i64 x7] w) b6a b6l b6c x7 s8a s8l s8c x9 w (fun b26a b26l b26c w => C .normal [.slice b26a b26l b26c] w) (fun ch w => C (.panic ch) [] w) := by kernel_rfl

theorem T_conf_row_1_ok : UnitOk Tryz.prog H_conf_row_1 (at_ (bodyOf Tryz.f89) [1, 1, 0, 1]) 29 := by
  have hc : at_ (bodyOf Tryz.f89) [1, 1, 0, 1] = .block 0 (.loop (at_ (bodyOf Tryz.f89) [1, 1, 0, 1, 0, 0])) := by kernel_rfl
  rw [hc]
  refine loop_unit_ok (carr := [(0, .slice none 0 0), (13, .int .i64 0)]) (fix := [(11, .slice none 0 0), (12, .int .i64 0)]) (ks := T_conf_row_1_ks) (H := (hookAt [])) (B := fun C X l u w => match l, u with | [v0, v1], [v2, v3] => T_conf_row_1_body (fun b6a b6l b6c x7 w => X [.slice b6a b6l b6c, .int .i64 x7] w) (pA v0) (pL v0) (pC v0) (pInt v1) (pA v2) (pL v2) (pC v2) (pInt v3) w (fun b27a b27l b27c w => C .normal [.slice b27a b27l b27c] w) (fun ch w => C (.panic ch) [] w) | _, _ => False) (by kernel_rfl) (by kernel_rfl) T_conf_row_1_hok ?_ ?_
  · intro C X l u w hl hu
    obtain ⟨v0, l_v0, rfl, k_v0, hl_v0⟩ := Kinds.cons_ hl
    obtain ⟨b6a, b6l, b6c, rfl⟩ := kind_slice k_v0
    obtain ⟨v1, l_v1, rfl, k_v1, hl_v1⟩ := Kinds.cons_ hl_v0
    obtain ⟨x7, rfl⟩ := kind_int k_v1
    obtain rfl := Kinds.nil_ hl_v1
    obtain ⟨v2, l_v2, rfl, k_v2, hu_v2⟩ := Kinds.cons_ hu
    obtain ⟨s8a, s8l, s8c, rfl⟩ := kind_slice k_v2
    obtain ⟨v3, l_v3, rfl, k_v3, hu_v3⟩ := Kinds.cons_ hu_v2
    obtain ⟨x9, rfl⟩ := kind_int k_v3
    obtain rfl := Kinds.nil_ hu_v3
    exact T_conf_row_1_eq C X b6a b6l b6c x7 s8a s8l s8c x9 w
  · intro l u w C hl hu
    obtain ⟨v0, l_v0, rfl, k_v0, hl_v0⟩ := Kinds.cons_ hl
    obtain ⟨b6a, b6l, b6c, rfl⟩ := kind_slice k_v0
    obtain ⟨v1, l_v1, rfl, k_v1, hl_v1⟩ := Kinds.cons_ hl_v0
    obtain ⟨x7, rfl⟩ := kind_int k_v1
    obtain rfl := Kinds.nil_ hl_v1
    obtain ⟨v2, l_v2, rfl, k_v2, hu_v2⟩ := Kinds.cons_ hu
    obtain ⟨s8a, s8l, s8c, rfl⟩ := kind_slice k_v2
    obtain ⟨v3, l_v3, rfl, k_v3, hu_v3⟩ := Kinds.cons_ hu_v2
    obtain ⟨x9, rfl⟩ := kind_int k_v3
    obtain rfl := Kinds.nil_ hu_v3
    constructor
    · intro h X hX
      exact h (fun b6a b6l b6c x7 w => X [.slice b6a b6l b6c, .int .i64 x7] w) (fun b6a b6l b6c x7 w hb => hX [.slice b6a b6l b6c, .int .i64 x7] w ⟨rfl, rfl, trivial⟩ hb)
    · intro h X hX
      exact h (fun l w => match l with | [v0, v1] => X (pA v0) (pL v0) (pC v0) (pInt v1) w | _ => True) (fun l w hl hb => by
        obtain ⟨v0, l_v0, rfl, k_v0, hl_v0⟩ := Kinds.cons_ hl
        obtain ⟨b6a, b6l, b6c, rfl⟩ := kind_slice k_v0
        obtain ⟨v1, l_v1, rfl, k_v1, hl_v1⟩ := Kinds.cons_ hl_v0
        obtain ⟨x7, rfl⟩ := kind_int k_v1
        obtain rfl := Kinds.nil_ hl_v1
        exact hX b6a b6l b6c x7 w hb)

def T_conf_row (b1a : Option Addr) (b1l : Nat) (b1c : Nat) (l2a : Option Addr) (l2l : Nat) (l2c : Nat) (w : World) (R : Ending → World → Prop) : Prop :=
  Calls Tryz.prog 49 #[.slice b1a b1l b1c, .int .i64 ((l2l : Nat) : Int)] w (ret (fun r3 w4 => ∃ s5a : Option Addr, ∃ s5l : Nat, ∃ s5c : Nat, r3 = .slice s5a s5l s5c ∧ T_conf_row_1 s5a s5l s5c 0 l2a l2l l2c ((l2l : Nat) : Int) w4 (fun b28a b28l b28c w29 => R (.returned (.slice b28a b28l b28c)) w29) (pan R)) (pan R))

theorem T_conf_row_hl : allP (hokL Tryz.prog (hookAt [(29, H_conf_row_1)]) (bodyOf Tryz.f89) 1) = (UnitOk Tryz.prog H_conf_row_1 (at_ (bodyOf Tryz.f89) [1, 1, 0, 1]) 29 ∧ True) := by kernel_rfl

theorem T_conf_row_eq (b1a : Option Addr) (b1l : Nat) (b1c : Nat) (l2a : Option Addr) (l2l : Nat) (l2c : Nat) (w : World) (R : Ending → World → Prop) : vcCode Tryz.prog (hookAt [(29, H_conf_row_1)]) (bodyOf Tryz.f89) 1 ⟨argEnv [.slice b1a b1l b1c, .slice l2a l2l l2c] 0, Tryz.f89.ntmps, []⟩ w (finQ Tryz.prog Tryz.f89.results.toList R) = T_conf_row b1a b1l b1c l2a l2l l2c w R := by kernel_rfl

theorem T_conf_row_b : Tryz.f89.body = some (bodyOf Tryz.f89) := by kernel_rfl
theorem T_conf_row_s : (quietSel (bodyOf Tryz.f89) && Nat.ble 2 Tryz.f89.ntmps) = true := by kernel_rfl

theorem C_conf_row {b1a : Option Addr} {b1l : Nat} {b1c : Nat} {l2a : Option Addr} {l2l : Nat} {l2c : Nat} {w : World} {R : Ending → World → Prop} (h : T_conf_row b1a b1l b1c l2a l2l l2c w R) : Calls Tryz.prog 89 #[.slice b1a b1l b1c, .slice l2a l2l l2c] w R :=
  calls_of_text (args := [.slice b1a b1l b1c, .slice l2a l2l l2c]) mixed Tryz.func89 T_conf_row_b T_conf_row_s (HOk_of _ _ (by rw [T_conf_row_hl]; exact ⟨T_conf_row_1_ok, trivial⟩)) (by rw [T_conf_row_eq]; exact h)

/-! tollgate/conf.text -/
def T_conf_text (b1a : Option Addr) (b1l : Nat) (b1c : Nat) (s2 : ByteArray) (w : World) (R : Ending → World → Prop) : Prop :=
  Calls Tryz.prog 49 #[.slice b1a b1l b1c, .int .i64 ((s2.size : Nat) : Int)] w (ret (fun r3 w4 => ∃ s5a : Option Addr, ∃ s5l : Nat, ∃ s5c : Nat, r3 = .slice s5a s5l s5c ∧ runV Tryz.prog (Builtin.append_ #[56, 9] 56 #[.slice s5a s5l s5c, .string s2]) w4 (fun r6 w7 => ∃ s8a : Option Addr, ∃ s8l : Nat, ∃ s8c : Nat, r6 = .slice s8a s8l s8c ∧ R (.returned (.slice s8a s8l s8c)) w7) (pan R)) (pan R))

theorem T_conf_text_hl : allP (hokL Tryz.prog (hookAt []) (bodyOf Tryz.f90) 1) = (True) := by kernel_rfl

theorem T_conf_text_eq (b1a : Option Addr) (b1l : Nat) (b1c : Nat) (s2 : ByteArray) (w : World) (R : Ending → World → Prop) : vcCode Tryz.prog (hookAt []) (bodyOf Tryz.f90) 1 ⟨argEnv [.slice b1a b1l b1c, .string s2] 0, Tryz.f90.ntmps, []⟩ w (finQ Tryz.prog Tryz.f90.results.toList R) = T_conf_text b1a b1l b1c s2 w R := by kernel_rfl

theorem T_conf_text_b : Tryz.f90.body = some (bodyOf Tryz.f90) := by kernel_rfl
theorem T_conf_text_s : (quietSel (bodyOf Tryz.f90) && Nat.ble 2 Tryz.f90.ntmps) = true := by kernel_rfl

theorem C_conf_text {b1a : Option Addr} {b1l : Nat} {b1c : Nat} {s2 : ByteArray} {w : World} {R : Ending → World → Prop} (h : T_conf_text b1a b1l b1c s2 w R) : Calls Tryz.prog 90 #[.slice b1a b1l b1c, .string s2] w R :=
  calls_of_text (args := [.slice b1a b1l b1c, .string s2]) mixed Tryz.func90 T_conf_text_b T_conf_text_s (HOk_of _ _ (by rw [T_conf_text_hl]; exact trivial)) (by rw [T_conf_text_eq]; exact h)

/-! tollgate/tollgateref08.num -/
def T_ref08_num (b1a : Option Addr) (b1l : Nat) (b1c : Nat) (n2 : Int) (w : World) (R : Ending → World → Prop) : Prop :=
  Calls Tryz.prog 122 #[.int .i64 n2] w (ret (fun r3 w4 => ∃ s5a : Option Addr, ∃ s5l : Nat, ∃ s5c : Nat, ∃ x6 : Int, r3 = .tuple #[.slice s5a s5l s5c, .int .i64 x6] ∧ runV Tryz.prog (Builtin.append_ #[56, 56] 56 #[.slice b1a b1l b1c, .slice s5a s5l s5c]) w4 (fun r7 w8 => ∃ s9a : Option Addr, ∃ s9l : Nat, ∃ s9c : Nat, r7 = .slice s9a s9l s9c ∧ R (.returned (.slice s9a s9l s9c)) w8) (pan R)) (pan R))

theorem T_ref08_num_hl : allP (hokL Tryz.prog (hookAt []) (bodyOf Tryz.f94) 1) = (True) := by kernel_rfl

theorem T_ref08_num_eq (b1a : Option Addr) (b1l : Nat) (b1c : Nat) (n2 : Int) (w : World) (R : Ending → World → Prop) : vcCode Tryz.prog (hookAt []) (bodyOf Tryz.f94) 1 ⟨argEnv [.slice b1a b1l b1c, .int .i64 n2] 0, Tryz.f94.ntmps, []⟩ w (finQ Tryz.prog Tryz.f94.results.toList R) = T_ref08_num b1a b1l b1c n2 w R := by kernel_rfl

theorem T_ref08_num_b : Tryz.f94.body = some (bodyOf Tryz.f94) := by kernel_rfl
theorem T_ref08_num_s : (quietSel (bodyOf Tryz.f94) && Nat.ble 2 Tryz.f94.ntmps) = true := by kernel_rfl

theorem C_ref08_num {b1a : Option Addr} {b1l : Nat} {b1c : Nat} {n2 : Int} {w : World} {R : Ending → World → Prop} (h : T_ref08_num b1a b1l b1c n2 w R) : Calls Tryz.prog 94 #[.slice b1a b1l b1c, .int .i64 n2] w R :=
  calls_of_text (args := [.slice b1a b1l b1c, .int .i64 n2]) mixed Tryz.func94 T_ref08_num_b T_ref08_num_s (HOk_of _ _ (by rw [T_ref08_num_hl]; exact trivial)) (by rw [T_ref08_num_eq]; exact h)

/-! tollgate/wire.number -/
def T_wire_number_1_body (X : Option Addr → Nat → Nat → Int → World → Prop) (b3a : Option Addr) (b3l : Nat) (b3c : Nat) (n4 : Int) (w : World) (Kn : Option Addr → Nat → Nat → Int → World → Prop) (Kp : List PanicEntry → World → Prop)  : Prop :=
  if (decide ((n4 : Int) ≥ 128)) = true then (let w5 : World := w.alloc (.cells #[.int .u8 (IntKind.wrap .u8 (IntKind.wrap .i64 ((BitVec.ofInt (IntKind.bits .i64) (IntKind.wrap .i64 ((BitVec.ofInt (IntKind.bits .i64) n4) &&& (BitVec.ofInt (IntKind.bits .i64) 127)).toNat)) ||| (BitVec.ofInt (IntKind.bits .i64) 128)).toNat))] 5)
  runV Tryz.prog (Builtin.append_ #[56, 56] 56 #[.slice b3a b3l b3c, .slice (some (⟨w.heap.size, 0, none⟩ : Addr)) 1 1]) w5 (fun r6 w7 => ∃ s8a : Option Addr, ∃ s8l : Nat, ∃ s8c : Nat, r6 = .slice s8a s8l s8c ∧ X s8a s8l s8c (Int.fdiv n4 (2 ^ 7)) w7) Kp) else (Kn b3a b3l b3c n4 w)

def T_wire_number_1 (b3a : Option Addr) (b3l : Nat) (b3c : Nat) (n4 : Int) (w : World) (Kn : Option Addr → Nat → Nat → Int → World → Prop) (Kp : List PanicEntry → World → Prop) : Prop :=
  ∀ X : Option Addr → Nat → Nat → Int → World → Prop, (∀ (b3a : Option Addr) (b3l : Nat) (b3c : Nat) (n4 : Int) (w : World), T_wire_number_1_body X b3a b3l b3c n4 w Kn Kp → X b3a b3l b3c n4 w) → X b3a b3l b3c n4 w

def T_wire_number_1_outs : Exit → Option (List (Nat × Value)) := fun x => match x with | .normal => some [(0, .slice none 0 0), (1, .int .i64 0)] | .panic _ => some [] | _ => none

def T_wire_number_1_ks : Nat → Bool := ksOf [0, 1, 5, 6, 7, 8, 9, 10, 11, 12, 13, 14, 15]

def H_wire_number_1 : Env → World → QT → Prop := unitHook 21 T_wire_number_1_ks [(0, .slice none 0 0), (1, .int .i64 0)] T_wire_number_1_outs fun l w C => match l with | [v0, v1] => T_wire_number_1 (pA v0) (pL v0) (pC v0) (pInt v1) w (fun b11a b11l b11c n12 w => C .normal [.slice b11a b11l b11c, .int .i64 n12] w) (fun ch w => C (.panic ch) [] w) | _ => False

theorem T_wire_number_1_hl : allP (hokL Tryz.prog (hookAt []) (at_ (bodyOf Tryz.f118) [1, 0, 0, 0]) 24) = (True) := by kernel_rfl
theorem T_wire_number_1_hok : HOk Tryz.prog (hookAt []) (at_ (bodyOf Tryz.f118) [1, 0, 0, 0]) 24 := HOk_of _ _ (by rw [T_wire_number_1_hl]; exact trivial)

theorem T_wire_number_1_eq (C : Conts) (X : List Value → World → Prop) (b3a : Option Addr) (b3l : Nat) (b3c : Nat) (n4 : Int) (w : World) : vcCode Tryz.prog (hookAt []) (at_ (bodyOf Tryz.f118) [1, 0, 0, 0]) 24 ⟨[(0, .slice b3a b3l b3c), (1, .int .i64 n4)] ++ [], 21, []⟩ w (seqQ (fun e w => takeAll e [(0, .slice none 0 0), (1, .int .i64 0)] fun l => X l w) (blockQ 0 (unitQ T_wire_number_1_outs C))) = T_wire_number_1_body (fun b3a b3l b3c n4 w => X [.slice b3a b3l b3c, .int .i64 n4] w) b3a b3l b3c n4 w (fun b13a b13l b13c n14 w => C .normal [.slice b13a b13l b13c, .int .i64 n14] w) (fun ch w => C (.panic ch) [] w) := by kernel_rfl

theorem T_wire_number_1_ok : UnitOk Tryz.prog H_wire_number_1 (at_ (bodyOf Tryz.f118) [1, 0]) 6 := by
  have hc : at_ (bodyOf Tryz.f118) [1, 0] = .block 0 (.loop (at_ (bodyOf Tryz.f118) [1, 0, 0, 0])) := by kernel_rfl
  rw [hc]
  refine loop_unit_ok (carr := [(0, .slice none 0 0), (1, .int .i64 0)]) (fix := []) (ks := T_wire_number_1_ks) (H := (hookAt [])) (B := fun C X l u w => match l, u with | [v0, v1], [] => T_wire_number_1_body (fun b3a b3l b3c n4 w => X [.slice b3a b3l b3c, .int .i64 n4] w) (pA v0) (pL v0) (pC v0) (pInt v1) w (fun b15a b15l b15c n16 w => C .normal [.slice b15a b15l b15c, .int .i64 n16] w) (fun ch w => C (.panic ch) [] w) | _, _ => False) (by kernel_rfl) (by kernel_rfl) T_wire_number_1_hok ?_ ?_
  · intro C X l u w hl hu
    obtain ⟨v0, l_v0, rfl, k_v0, hl_v0⟩ := Kinds.cons_ hl
    obtain ⟨b3a, b3l, b3c, rfl⟩ := kind_slice k_v0
    obtain ⟨v1, l_v1, rfl, k_v1, hl_v1⟩ := Kinds.cons_ hl_v0
    obtain ⟨n4, rfl⟩ := kind_int k_v1
    obtain rfl := Kinds.nil_ hl_v1
    obtain rfl := Kinds.nil_ hu
    exact T_wire_number_1_eq C X b3a b3l b3c n4 w
  · intro l u w C hl hu
    obtain ⟨v0, l_v0, rfl, k_v0, hl_v0⟩ := Kinds.cons_ hl
    obtain ⟨b3a, b3l, b3c, rfl⟩ := kind_slice k_v0
    obtain ⟨v1, l_v1, rfl, k_v1, hl_v1⟩ := Kinds.cons_ hl_v0
    obtain ⟨n4, rfl⟩ := kind_int k_v1
    obtain rfl := Kinds.nil_ hl_v1
    obtain rfl := Kinds.nil_ hu
    constructor
    · intro h X hX
      exact h (fun b3a b3l b3c n4 w => X [.slice b3a b3l b3c, .int .i64 n4] w) (fun b3a b3l b3c n4 w hb => hX [.slice b3a b3l b3c, .int .i64 n4] w ⟨rfl, rfl, trivial⟩ hb)
    · intro h X hX
      exact h (fun l w => match l with | [v0, v1] => X (pA v0) (pL v0) (pC v0) (pInt v1) w | _ => True) (fun l w hl hb => by
        obtain ⟨v0, l_v0, rfl, k_v0, hl_v0⟩ := Kinds.cons_ hl
        obtain ⟨b3a, b3l, b3c, rfl⟩ := kind_slice k_v0
        obtain ⟨v1, l_v1, rfl, k_v1, hl_v1⟩ := Kinds.cons_ hl_v0
        obtain ⟨n4, rfl⟩ := kind_int k_v1
        obtain rfl := Kinds.nil_ hl_v1
        exact hX b3a b3l b3c n4 w hb)

def T_wire_number (b1a : Option Addr) (b1l : Nat) (b1c : Nat) (n2 : Int) (w : World) (R : Ending → World → Prop) : Prop :=
  T_wire_number_1 b1a b1l b1c n2 w (fun b17a b17l b17c n18 w19 => let w20 : World := w19.alloc (.cells #[.int .u8 (IntKind.wrap .u8 n18)] 5)
  runV Tryz.prog (Builtin.append_ #[56, 56] 56 #[.slice b17a b17l b17c, .slice (some (⟨w19.heap.size, 0, none⟩ : Addr)) 1 1]) w20 (fun r21 w22 => ∃ s23a : Option Addr, ∃ s23l : Nat, ∃ s23c : Nat, r21 = .slice s23a s23l s23c ∧ R (.returned (.slice s23a s23l s23c)) w22) (pan R)) (pan R)

theorem T_wire_number_hl : allP (hokL Tryz.prog (hookAt [(6, H_wire_number_1)]) (bodyOf Tryz.f118) 1) = (UnitOk Tryz.prog H_wire_number_1 (at_ (bodyOf Tryz.f118) [1, 0]) 6 ∧ True) := by kernel_rfl

theorem T_wire_number_eq (b1a : Option Addr) (b1l : Nat) (b1c : Nat) (n2 : Int) (w : World) (R : Ending → World → Prop) : vcCode Tryz.prog (hookAt [(6, H_wire_number_1)]) (bodyOf Tryz.f118) 1 ⟨argEnv [.slice b1a b1l b1c, .int .i64 n2] 0, Tryz.f118.ntmps, []⟩ w (finQ Tryz.prog Tryz.f118.results.toList R) = T_wire_number b1a b1l b1c n2 w R := by kernel_rfl

theorem T_wire_number_b : Tryz.f118.body = some (bodyOf Tryz.f118) := by kernel_rfl
theorem T_wire_number_s : (quietSel (bodyOf Tryz.f118) && Nat.ble 2 Tryz.f118.ntmps) = true := by kernel_rfl

theorem C_wire_number {b1a : Option Addr} {b1l : Nat} {b1c : Nat} {n2 : Int} {w : World} {R : Ending → World → Prop} (h : T_wire_number b1a b1l b1c n2 w R) : Calls Tryz.prog 118 #[.slice b1a b1l b1c, .int .i64 n2] w R :=
  calls_of_text (args := [.slice b1a b1l b1c, .int .i64 n2]) mixed Tryz.func118 T_wire_number_b T_wire_number_s (HOk_of _ _ (by rw [T_wire_number_hl]; exact ⟨T_wire_number_1_ok, trivial⟩)) (by rw [T_wire_number_eq]; exact h)

/-! tollgate/conf.float -/
def T_conf_float_1_body (X : Option Addr → Nat → Nat → Int → World → Prop) (b3a : Option Addr) (b3l : Nat) (b3c : Nat) (k4 : Int) (w5 : Nat) (w : World) (Kn : Option Addr → Nat → Nat → World → Prop) (Kp : List PanicEntry → World → Prop)  : Prop :=
  if (decide ((k4 : Int) ≥ 0)) = true then (runV Tryz.prog (callFunc 81 #[.float .f64 w5]) w (nxv (fun r6 w7 => ∃ x8 : Int, r6 = .int .u64 x8 ∧ runV Tryz.prog (do eqGuard .shr 135 (.tmp 12) (.tmp 13) (.int .u64 x8) (.int .i64 k4); binOp .shr 135 (.int .u64 x8) (.int .i64 k4)) w7 (fun r9 w10 => ∃ x11 : Int, r9 = .int .u64 x11 ∧ let w12 : World := w10.alloc (.cells #[.int .u8 (IntKind.wrap .u8 x11)] 5)
  runV Tryz.prog (Builtin.append_ #[56, 56] 56 #[.slice b3a b3l b3c, .slice (some (⟨w10.heap.size, 0, none⟩ : Addr)) 1 1]) w12 (fun r13 w14 => ∃ s15a : Option Addr, ∃ s15l : Nat, ∃ s15c : Nat, r13 = .slice s15a s15l s15c ∧ X s15a s15l s15c (IntKind.wrap .i64 ((k4 : Int) - 8)) w14) Kp) Kp)) Kp) else (Kn b3a b3l b3c w)

def T_conf_float_1 (b3a : Option Addr) (b3l : Nat) (b3c : Nat) (k4 : Int) (w5 : Nat) (w : World) (Kn : Option Addr → Nat → Nat → World → Prop) (Kp : List PanicEntry → World → Prop) : Prop :=
  ∀ X : Option Addr → Nat → Nat → Int → World → Prop, (∀ (b3a : Option Addr) (b3l : Nat) (b3c : Nat) (k4 : Int) (w : World), T_conf_float_1_body X b3a b3l b3c k4 w5 w Kn Kp → X b3a b3l b3c k4 w) → X b3a b3l b3c k4 w

def T_conf_float_1_outs : Exit → Option (List (Nat × Value)) := fun x => match x with | .normal => some [(0, .slice none 0 0)] | .panic _ => some [] | _ => none

def T_conf_float_1_ks : Nat → Bool := ksOf [0, 5, 6, 7, 8, 9, 10, 11, 12, 13, 14, 15, 16, 17]

def H_conf_float_1 : Env → World → QT → Prop := unitHook 19 T_conf_float_1_ks [(0, .slice none 0 0), (5, .int .i64 0), (1, .float .f64 0)] T_conf_float_1_outs fun l w C => match l with | [v0, v1, v2] => T_conf_float_1 (pA v0) (pL v0) (pC v0) (pInt v1) (pFlt v2) w (fun b17a b17l b17c w => C .normal [.slice b17a b17l b17c] w) (fun ch w => C (.panic ch) [] w) | _ => False

theorem T_conf_float_1_hl : allP (hokL Tryz.prog (hookAt []) (at_ (bodyOf Tryz.f119) [1, 0, 1, 0, 0]) 52) = (True) := by kernel_rfl
theorem T_conf_float_1_hok : HOk Tryz.prog (hookAt []) (at_ (bodyOf Tryz.f119) [1, 0, 1, 0, 0]) 52 := HOk_of _ _ (by rw [T_conf_float_1_hl]; exact trivial)

theorem T_conf_float_1_eq (C : Conts) (X : List Value → World → Prop) (b3a : Option Addr) (b3l : Nat) (b3c : Nat) (k4 : Int) (w5 : Nat) (w : World) : vcCode Tryz.prog (hookAt []) (at_ (bodyOf Tryz.f119) [1, 0, 1, 0, 0]) 52 ⟨[(0, .slice b3a b3l b3c), (5, .int .i64 k4)] ++ [(1, .float .f64 w5)], 19, []⟩ w (seqQ (fun e w => takeAll e [(0, .slice none 0 0), (5, .int .i64 0)] fun l => X l w) (blockQ 0 (unitQ T_conf_float_1_outs C))) = T_conf_float_1_body (fun b3a b3l b3c k4 w => X [.slice b3a b3l b3c, .int .i64 k4] w) b3a b3l b3c k4 w5 w (fun b18a b18l b18c w => C .normal [.slice b18a b18l b18c] w) (fun ch w => C (.panic ch) [] w) := by kernel_rfl

theorem T_conf_float_1_ok : UnitOk Tryz.prog H_conf_float_1 (at_ (bodyOf Tryz.f119) [1, 0, 1]) 13 := by
  have hc : at_ (bodyOf Tryz.f119) [1, 0, 1] = .block 0 (.loop (at_ (bodyOf Tryz.f119) [1, 0, 1, 0, 0])) := by kernel_rfl
  rw [hc]
  refine loop_unit_ok (carr := [(0, .slice none 0 0), (5, .int .i64 0)]) (fix := [(1, .float .f64 0)]) (ks := T_conf_float_1_ks) (H := (hookAt [])) (B := fun C X l u w => match l, u with | [v0, v1], [v2] => T_conf_float_1_body (fun b3a b3l b3c k4 w => X [.slice b3a b3l b3c, .int .i64 k4] w) (pA v0) (pL v0) (pC v0) (pInt v1) (pFlt v2) w (fun b19a b19l b19c w => C .normal [.slice b19a b19l b19c] w) (fun ch w => C (.panic ch) [] w) | _, _ => False) (by kernel_rfl) (by kernel_rfl) T_conf_float_1_hok ?_ ?_
  · intro C X l u w hl hu
    obtain ⟨v0, l_v0, rfl, k_v0, hl_v0⟩ := Kinds.cons_ hl
    obtain ⟨b3a, b3l, b3c, rfl⟩ := kind_slice k_v0
    obtain ⟨v1, l_v1, rfl, k_v1, hl_v1⟩ := Kinds.cons_ hl_v0
    obtain ⟨k4, rfl⟩ := kind_int k_v1
    obtain rfl := Kinds.nil_ hl_v1
    obtain ⟨v2, l_v2, rfl, k_v2, hu_v2⟩ := Kinds.cons_ hu
    obtain ⟨w5, rfl⟩ := kind_float k_v2
    obtain rfl := Kinds.nil_ hu_v2
    exact T_conf_float_1_eq C X b3a b3l b3c k4 w5 w
  · intro l u w C hl hu
    obtain ⟨v0, l_v0, rfl, k_v0, hl_v0⟩ := Kinds.cons_ hl
    obtain ⟨b3a, b3l, b3c, rfl⟩ := kind_slice k_v0
    obtain ⟨v1, l_v1, rfl, k_v1, hl_v1⟩ := Kinds.cons_ hl_v0
    obtain ⟨k4, rfl⟩ := kind_int k_v1
    obtain rfl := Kinds.nil_ hl_v1
    obtain ⟨v2, l_v2, rfl, k_v2, hu_v2⟩ := Kinds.cons_ hu
    obtain ⟨w5, rfl⟩ := kind_float k_v2
    obtain rfl := Kinds.nil_ hu_v2
    constructor
    · intro h X hX
      exact h (fun b3a b3l b3c k4 w => X [.slice b3a b3l b3c, .int .i64 k4] w) (fun b3a b3l b3c k4 w hb => hX [.slice b3a b3l b3c, .int .i64 k4] w ⟨rfl, rfl, trivial⟩ hb)
    · intro h X hX
      exact h (fun l w => match l with | [v0, v1] => X (pA v0) (pL v0) (pC v0) (pInt v1) w | _ => True) (fun l w hl hb => by
        obtain ⟨v0, l_v0, rfl, k_v0, hl_v0⟩ := Kinds.cons_ hl
        obtain ⟨b3a, b3l, b3c, rfl⟩ := kind_slice k_v0
        obtain ⟨v1, l_v1, rfl, k_v1, hl_v1⟩ := Kinds.cons_ hl_v0
        obtain ⟨k4, rfl⟩ := kind_int k_v1
        obtain rfl := Kinds.nil_ hl_v1
        exact hX b3a b3l b3c k4 w hb)

def T_conf_float (b1a : Option Addr) (b1l : Nat) (b1c : Nat) (w2 : Nat) (w : World) (R : Ending → World → Prop) : Prop :=
  T_conf_float_1 b1a b1l b1c 56 w2 w (fun b20a b20l b20c w21 => R (.returned (.slice b20a b20l b20c)) w21) (pan R)

theorem T_conf_float_hl : allP (hokL Tryz.prog (hookAt [(13, H_conf_float_1)]) (bodyOf Tryz.f119) 1) = (UnitOk Tryz.prog H_conf_float_1 (at_ (bodyOf Tryz.f119) [1, 0, 1]) 13 ∧ True) := by kernel_rfl

theorem T_conf_float_eq (b1a : Option Addr) (b1l : Nat) (b1c : Nat) (w2 : Nat) (w : World) (R : Ending → World → Prop) : vcCode Tryz.prog (hookAt [(13, H_conf_float_1)]) (bodyOf Tryz.f119) 1 ⟨argEnv [.slice b1a b1l b1c, .float .f64 w2] 0, Tryz.f119.ntmps, []⟩ w (finQ Tryz.prog Tryz.f119.results.toList R) = T_conf_float b1a b1l b1c w2 w R := by kernel_rfl

theorem T_conf_float_b : Tryz.f119.body = some (bodyOf Tryz.f119) := by kernel_rfl
theorem T_conf_float_s : (quietSel (bodyOf Tryz.f119) && Nat.ble 2 Tryz.f119.ntmps) = true := by kernel_rfl

theorem C_conf_float {b1a : Option Addr} {b1l : Nat} {b1c : Nat} {w2 : Nat} {w : World} {R : Ending → World → Prop} (h : T_conf_float b1a b1l b1c w2 w R) : Calls Tryz.prog 119 #[.slice b1a b1l b1c, .float .f64 w2] w R :=
  calls_of_text (args := [.slice b1a b1l b1c, .float .f64 w2]) mixed Tryz.func119 T_conf_float_b T_conf_float_s (HOk_of _ _ (by rw [T_conf_float_hl]; exact ⟨T_conf_float_1_ok, trivial⟩)) (by rw [T_conf_float_eq]; exact h)

/-! tollgate/tollgateref02.Number -/
def T_ref02_Number_1 (n2 : Int) (w : World) (Kn : Bool → World → Prop) (Kp : List PanicEntry → World → Prop) : Prop :=
  if (decide ((n2 : Int) < 0)) = true then (Kn true w) else (Kn (decide ((n2 : Int) > 1099511627776)) w)

def T_ref02_Number_1_outs : Exit → Option (List (Nat × Value)) := fun x => match x with | .normal => some [(11, .bool false)] | .panic _ => some [] | _ => none

def T_ref02_Number_1_ks : Nat → Bool := ksOf [6, 7, 8, 9, 10, 11]

def H_ref02_Number_1 : Env → World → QT → Prop := unitHook 30 T_ref02_Number_1_ks [(0, .int .i64 0)] T_ref02_Number_1_outs fun l w C => match l with | [v0] => T_ref02_Number_1 (pInt v0) w (fun b4 w => C .normal [.bool b4] w) (fun ch w => C (.panic ch) [] w) | _ => False

theorem T_ref02_Number_1_hl : allP (hokL Tryz.prog (hookAt []) (at_ (bodyOf Tryz.f122) [1, 0, 0]) 12) = (True) := by kernel_rfl
theorem T_ref02_Number_1_hok : HOk Tryz.prog (hookAt []) (at_ (bodyOf Tryz.f122) [1, 0, 0]) 12 := HOk_of _ _ (by rw [T_ref02_Number_1_hl]; exact trivial)

theorem T_ref02_Number_1_eq (C : Conts) (n2 : Int) (w : World) : vcCode Tryz.prog (hookAt []) (at_ (bodyOf Tryz.f122) [1, 0, 0]) 12 ⟨[(0, .int .i64 n2)], 30, []⟩ w (unitQ T_ref02_Number_1_outs C) = T_ref02_Number_1 n2 w (fun b5 w => C .normal [.bool b5] w) (fun ch w => C (.panic ch) [] w) := by kernel_rfl

theorem T_ref02_Number_1_ok : UnitOk Tryz.prog H_ref02_Number_1 (at_ (bodyOf Tryz.f122) [1, 0, 0]) 12 := unit_ok (H := (hookAt [])) (by kernel_rfl) T_ref02_Number_1_hok fun l w C hk => by
    obtain ⟨v0, l_v0, rfl, k_v0, hk_v0⟩ := Kinds.cons_ hk
    obtain ⟨n2, rfl⟩ := kind_int k_v0
    obtain rfl := Kinds.nil_ hk_v0
    exact T_ref02_Number_1_eq C n2 w

def T_ref02_Number_2_body (X : Int → Option Addr → Nat → Nat → World → Prop) (n9 : Int) (out10a : Option Addr) (out10l : Nat) (out10c : Nat) (w : World) (Kr : Option Addr → Nat → Nat → Int → World → Prop) (Kp : List PanicEntry → World → Prop)  : Prop :=
  if ((IntKind.wrap .i64 (Int.tdiv n9 128) : Int) == 0) = true then (let w11 : World := w.alloc (.cells #[.int .u8 (IntKind.wrap .u8 (Int.tmod n9 128))] 5)
  runV Tryz.prog (Builtin.append_ #[56, 56] 56 #[.slice out10a out10l out10c, .slice (some (⟨w.heap.size, 0, none⟩ : Addr)) 1 1]) w11 (fun r12 w13 => ∃ s14a : Option Addr, ∃ s14l : Nat, ∃ s14c : Nat, r12 = .slice s14a s14l s14c ∧ Kr s14a s14l s14c 0 w13) Kp) else (let w15 : World := w.alloc (.cells #[.int .u8 (IntKind.wrap .u8 (IntKind.wrap .i64 ((Int.tmod n9 128 : Int) + 128)))] 5)
  runV Tryz.prog (Builtin.append_ #[56, 56] 56 #[.slice out10a out10l out10c, .slice (some (⟨w.heap.size, 0, none⟩ : Addr)) 1 1]) w15 (fun r16 w17 => ∃ s18a : Option Addr, ∃ s18l : Nat, ∃ s18c : Nat, r16 = .slice s18a s18l s18c ∧ X (IntKind.wrap .i64 (Int.tdiv n9 128)) s18a s18l s18c w17) Kp)

def T_ref02_Number_2 (n9 : Int) (out10a : Option Addr) (out10l : Nat) (out10c : Nat) (w : World) (Kr : Option Addr → Nat → Nat → Int → World → Prop) (Kp : List PanicEntry → World → Prop) : Prop :=
  ∀ X : Int → Option Addr → Nat → Nat → World → Prop, (∀ (n9 : Int) (out10a : Option Addr) (out10l : Nat) (out10c : Nat) (w : World), T_ref02_Number_2_body X n9 out10a out10l out10c w Kr Kp → X n9 out10a out10l out10c w) → X n9 out10a out10l out10c w

def T_ref02_Number_2_outs : Exit → Option (List (Nat × Value)) := fun x => match x with | .ret => some [(2, .slice none 0 0), (3, .int .i64 0)] | .panic _ => some [] | _ => none

def T_ref02_Number_2_ks : Nat → Bool := ksOf [0, 2, 3, 4, 5, 13, 14, 15, 16, 17, 18, 19, 20, 21, 22, 23, 24, 25, 26, 27, 28, 29]

def H_ref02_Number_2 : Env → World → QT → Prop := unitHook 30 T_ref02_Number_2_ks [(0, .int .i64 0), (4, .slice none 0 0)] T_ref02_Number_2_outs fun l w C => match l with | [v0, v1] => T_ref02_Number_2 (pInt v0) (pA v1) (pL v1) (pC v1) w (fun s21a s21l s21c x22 w => C .ret [.slice s21a s21l s21c, .int .i64 x22] w) (fun ch w => C (.panic ch) [] w) | _ => False

theorem T_ref02_Number_2_hl : allP (hokL Tryz.prog (hookAt []) (at_ (bodyOf Tryz.f122) [1, 1, 1, 0, 0]) 60) = (True) := by kernel_rfl
theorem T_ref02_Number_2_hok : HOk Tryz.prog (hookAt []) (at_ (bodyOf Tryz.f122) [1, 1, 1, 0, 0]) 60 := HOk_of _ _ (by rw [T_ref02_Number_2_hl]; exact trivial)

theorem T_ref02_Number_2_eq (C : Conts) (X : List Value → World → Prop) (n9 : Int) (out10a : Option Addr) (out10l : Nat) (out10c : Nat) (w : World) : vcCode Tryz.prog (hookAt []) (at_ (bodyOf Tryz.f122) [1, 1, 1, 0, 0]) 60 ⟨[(0, .int .i64 n9), (4, .slice out10a out10l out10c)] ++ [], 30, []⟩ w (seqQ (fun e w => takeAll e [(0, .int .i64 0), (4, .slice none 0 0)] fun l => X l w) (blockQ 0 (unitQ T_ref02_Number_2_outs C))) = T_ref02_Number_2_body (fun n9 out10a out10l out10c w => X [.int .i64 n9, .slice out10a out10l out10c] w) n9 out10a out10l out10c w (fun s23a s23l s23c x24 w => C .ret [.slice s23a s23l s23c, .int .i64 x24] w) (fun ch w => C (.panic ch) [] w) := by kernel_rfl

theorem T_ref02_Number_2_ok : UnitOk Tryz.prog H_ref02_Number_2 (at_ (bodyOf Tryz.f122) [1, 1, 1]) 15 := by
  have hc : at_ (bodyOf Tryz.f122) [1, 1, 1] = .block 0 (.loop (at_ (bodyOf Tryz.f122) [1, 1, 1, 0, 0])) := by kernel_rfl
  rw [hc]
  refine loop_unit_ok (carr := [(0, .int .i64 0), (4, .slice none 0 0)]) (fix := []) (ks := T_ref02_Number_2_ks) (H := (hookAt [])) (B := fun C X l u w => match l, u with | [v0, v1], [] => T_ref02_Number_2_body (fun n9 out10a out10l out10c w => X [.int .i64 n9, .slice out10a out10l out10c] w) (pInt v0) (pA v1) (pL v1) (pC v1) w (fun s25a s25l s25c x26 w => C .ret [.slice s25a s25l s25c, .int .i64 x26] w) (fun ch w => C (.panic ch) [] w) | _, _ => False) (by kernel_rfl) (by kernel_rfl) T_ref02_Number_2_hok ?_ ?_
  · intro C X l u w hl hu
    obtain ⟨v0, l_v0, rfl, k_v0, hl_v0⟩ := Kinds.cons_ hl
    obtain ⟨n9, rfl⟩ := kind_int k_v0
    obtain ⟨v1, l_v1, rfl, k_v1, hl_v1⟩ := Kinds.cons_ hl_v0
    obtain ⟨out10a, out10l, out10c, rfl⟩ := kind_slice k_v1
    obtain rfl := Kinds.nil_ hl_v1
    obtain rfl := Kinds.nil_ hu
    exact T_ref02_Number_2_eq C X n9 out10a out10l out10c w
  · intro l u w C hl hu
    obtain ⟨v0, l_v0, rfl, k_v0, hl_v0⟩ := Kinds.cons_ hl
    obtain ⟨n9, rfl⟩ := kind_int k_v0
    obtain ⟨v1, l_v1, rfl, k_v1, hl_v1⟩ := Kinds.cons_ hl_v0
    obtain ⟨out10a, out10l, out10c, rfl⟩ := kind_slice k_v1
    obtain rfl := Kinds.nil_ hl_v1
    obtain rfl := Kinds.nil_ hu
    constructor
    · intro h X hX
      exact h (fun n9 out10a out10l out10c w => X [.int .i64 n9, .slice out10a out10l out10c] w) (fun n9 out10a out10l out10c w hb => hX [.int .i64 n9, .slice out10a out10l out10c] w ⟨rfl, rfl, trivial⟩ hb)
    · intro h X hX
      exact h (fun l w => match l with | [v0, v1] => X (pInt v0) (pA v1) (pL v1) (pC v1) w | _ => True) (fun l w hl hb => by
        obtain ⟨v0, l_v0, rfl, k_v0, hl_v0⟩ := Kinds.cons_ hl
        obtain ⟨n9, rfl⟩ := kind_int k_v0
        obtain ⟨v1, l_v1, rfl, k_v1, hl_v1⟩ := Kinds.cons_ hl_v0
        obtain ⟨out10a, out10l, out10c, rfl⟩ := kind_slice k_v1
        obtain rfl := Kinds.nil_ hl_v1
        exact hX n9 out10a out10l out10c w hb)

def T_ref02_Number (n1 : Int) (w : World) (R : Ending → World → Prop) : Prop :=
  T_ref02_Number_1 n1 w (fun b6 w7 => if b6 = true then (R (.returned (.tuple #[.slice none 0 0, .int .i64 2])) w7) else (let w8 : World := w7.alloc (.cells #[] 5)
  T_ref02_Number_2 n1 (some (⟨w7.heap.size, 0, none⟩ : Addr)) 0 0 w8 (fun s27a s27l s27c x28 w29 => R (.returned (.tuple #[.slice s27a s27l s27c, .int .i64 x28])) w29) (pan R))) (pan R)

theorem T_ref02_Number_hl : allP (hokL Tryz.prog (hookAt [(12, H_ref02_Number_1), (15, H_ref02_Number_2)]) (bodyOf Tryz.f122) 1) = (UnitOk Tryz.prog H_ref02_Number_1 (at_ (bodyOf Tryz.f122) [1, 0, 0]) 12 ∧ UnitOk Tryz.prog H_ref02_Number_2 (at_ (bodyOf Tryz.f122) [1, 1, 1]) 15 ∧ True) := by kernel_rfl

theorem T_ref02_Number_eq (n1 : Int) (w : World) (R : Ending → World → Prop) : vcCode Tryz.prog (hookAt [(12, H_ref02_Number_1), (15, H_ref02_Number_2)]) (bodyOf Tryz.f122) 1 ⟨argEnv [.int .i64 n1] 0, Tryz.f122.ntmps, []⟩ w (finQ Tryz.prog Tryz.f122.results.toList R) = T_ref02_Number n1 w R := by kernel_rfl

theorem T_ref02_Number_b : Tryz.f122.body = some (bodyOf Tryz.f122) := by kernel_rfl
theorem T_ref02_Number_s : (quietSel (bodyOf Tryz.f122) && Nat.ble 1 Tryz.f122.ntmps) = true := by kernel_rfl

theorem C_ref02_Number {n1 : Int} {w : World} {R : Ending → World → Prop} (h : T_ref02_Number n1 w R) : Calls Tryz.prog 122 #[.int .i64 n1] w R :=
  calls_of_text (args := [.int .i64 n1]) mixed Tryz.func122 T_ref02_Number_b T_ref02_Number_s (HOk_of _ _ (by rw [T_ref02_Number_hl]; exact ⟨T_ref02_Number_1_ok, T_ref02_Number_2_ok, trivial⟩)) (by rw [T_ref02_Number_eq]; exact h)

/-! tollgate/tollgateref08.targets -/
def T_ref08_targets_2_body (X : Option Addr → Nat → Nat → Int → World → Prop) (b19a : Option Addr) (b19l : Nat) (b19c : Nat) (k20 : Int) (w21 : Int) (w : World) (Kn : Option Addr → Nat → Nat → World → Prop) (Kp : List PanicEntry → World → Prop)  : Prop :=
  if (decide ((k20 : Int) < 8)) = true then (runV Tryz.prog (do eqGuard .shr 135 (.tmp 36) (.tmp 40) (.int .u64 w21) (.int .u64 (IntKind.wrap .u64 (IntKind.wrap .i64 ((56 : Int) - (IntKind.wrap .i64 ((8 : Int) * k20)))))); binOp .shr 135 (.int .u64 w21) (.int .u64 (IntKind.wrap .u64 (IntKind.wrap .i64 ((56 : Int) - (IntKind.wrap .i64 ((8 : Int) * k20))))))) w (fun r22 w23 => ∃ x24 : Int, r22 = .int .u64 x24 ∧ let w25 : World := w23.alloc (.cells #[.int .u8 (IntKind.wrap .u8 x24)] 5)
  runV Tryz.prog (Builtin.append_ #[56, 56] 56 #[.slice b19a b19l b19c, .slice (some (⟨w23.heap.size, 0, none⟩ : Addr)) 1 1]) w25 (fun r26 w27 => ∃ s28a : Option Addr, ∃ s28l : Nat, ∃ s28c : Nat, r26 = .slice s28a s28l s28c ∧ X s28a s28l s28c (IntKind.wrap .i64 ((k20 : Int) + 1)) w27) Kp) Kp) else (Kn b19a b19l b19c w)

def T_ref08_targets_2 (b19a : Option Addr) (b19l : Nat) (b19c : Nat) (k20 : Int) (w21 : Int) (w : World) (Kn : Option Addr → Nat → Nat → World → Prop) (Kp : List PanicEntry → World → Prop) : Prop :=
  ∀ X : Option Addr → Nat → Nat → Int → World → Prop, (∀ (b19a : Option Addr) (b19l : Nat) (b19c : Nat) (k20 : Int) (w : World), T_ref08_targets_2_body X b19a b19l b19c k20 w21 w Kn Kp → X b19a b19l b19c k20 w) → X b19a b19l b19c k20 w

def T_ref08_targets_2_outs : Exit → Option (List (Nat × Value)) := fun x => match x with | .normal => some [(0, .slice none 0 0)] | .panic _ => some [] | _ => none

def T_ref08_targets_2_ks : Nat → Bool := ksOf [0, 7, 31, 32, 33, 34, 35, 36, 37, 38, 39, 40, 41, 42, 43, 44]

def H_ref08_targets_2 : Env → World → QT → Prop := unitHook 46 T_ref08_targets_2_ks [(0, .slice none 0 0), (7, .int .i64 0), (6, .int .u64 0)] T_ref08_targets_2_outs fun l w C => match l with | [v0, v1, v2] => T_ref08_targets_2 (pA v0) (pL v0) (pC v0) (pInt v1) (pInt v2) w (fun b30a b30l b30c w => C .normal [.slice b30a b30l b30c] w) (fun ch w => C (.panic ch) [] w) | _ => False

theorem T_ref08_targets_2_hl : allP (hokL Tryz.prog (hookAt []) (at_ (bodyOf Tryz.f123) [1, 1, 0, 1, 0, 0, 1, 0, 0, 1, 1, 1, 0, 0]) 29852) = (True) := by kernel_rfl
theorem T_ref08_targets_2_hok : HOk Tryz.prog (hookAt []) (at_ (bodyOf Tryz.f123) [1, 1, 0, 1, 0, 0, 1, 0, 0, 1, 1, 1, 0, 0]) 29852 := HOk_of _ _ (by rw [T_ref08_targets_2_hl]; exact trivial)

theorem T_ref08_targets_2_eq (C : Conts) (X : List Value → World → Prop) (b19a : Option Addr) (b19l : Nat) (b19c : Nat) (k20 : Int) (w21 : Int) (w : World) : vcCode Tryz.prog (hookAt []) (at_ (bodyOf Tryz.f123) [1, 1, 0, 1, 0, 0, 1, 0, 0, 1, 1, 1, 0, 0]) 29852 ⟨[(0, .slice b19a b19l b19c), (7, .int .i64 k20)] ++ [(6, .int .u64 w21)], 46, []⟩ w (seqQ (fun e w => takeAll e [(0, .slice none 0 0), (7, .int .i64 0)] fun l => X l w) (blockQ 2 (unitQ T_ref08_targets_2_outs C))) = T_ref08_targets_2_body (fun b19a b19l b19c k20 w => X [.slice b19a b19l b19c, .int .i64 k20] w) b19a b19l b19c k20 w21 w (fun b31a b31l b31c w => C .normal [.slice b31a b31l b31c] w) (fun ch w => C (.panic ch) [] w) := by kernel_rfl

theorem T_ref08_targets_2_ok : UnitOk Tryz.prog H_ref08_targets_2 (at_ (bodyOf Tryz.f123) [1, 1, 0, 1, 0, 0, 1, 0, 0, 1, 1, 1]) 7463 := by
  have hc : at_ (bodyOf Tryz.f123) [1, 1, 0, 1, 0, 0, 1, 0, 0, 1, 1, 1] = .block 2 (.loop (at_ (bodyOf Tryz.f123) [1, 1, 0, 1, 0, 0, 1, 0, 0, 1, 1, 1, 0, 0])) := by kernel_rfl
  rw [hc]
  refine loop_unit_ok (carr := [(0, .slice none 0 0), (7, .int .i64 0)]) (fix := [(6, .int .u64 0)]) (ks := T_ref08_targets_2_ks) (H := (hookAt [])) (B := fun C X l u w => match l, u with | [v0, v1], [v2] => T_ref08_targets_2_body (fun b19a b19l b19c k20 w => X [.slice b19a b19l b19c, .int .i64 k20] w) (pA v0) (pL v0) (pC v0) (pInt v1) (pInt v2) w (fun b32a b32l b32c w => C .normal [.slice b32a b32l b32c] w) (fun ch w => C (.panic ch) [] w) | _, _ => False) (by kernel_rfl) (by kernel_rfl) T_ref08_targets_2_hok ?_ ?_
  · intro C X l u w hl hu
    obtain ⟨v0, l_v0, rfl, k_v0, hl_v0⟩ := Kinds.cons_ hl
    obtain ⟨b19a, b19l, b19c, rfl⟩ := kind_slice k_v0
    obtain ⟨v1, l_v1, rfl, k_v1, hl_v1⟩ := Kinds.cons_ hl_v0
    obtain ⟨k20, rfl⟩ := kind_int k_v1
    obtain rfl := Kinds.nil_ hl_v1
    obtain ⟨v2, l_v2, rfl, k_v2, hu_v2⟩ := Kinds.cons_ hu
    obtain ⟨w21, rfl⟩ := kind_int k_v2
    obtain rfl := Kinds.nil_ hu_v2
    exact T_ref08_targets_2_eq C X b19a b19l b19c k20 w21 w
  · intro l u w C hl hu
    obtain ⟨v0, l_v0, rfl, k_v0, hl_v0⟩ := Kinds.cons_ hl
    obtain ⟨b19a, b19l, b19c, rfl⟩ := kind_slice k_v0
    obtain ⟨v1, l_v1, rfl, k_v1, hl_v1⟩ := Kinds.cons_ hl_v0
    obtain ⟨k20, rfl⟩ := kind_int k_v1
    obtain rfl := Kinds.nil_ hl_v1
    obtain ⟨v2, l_v2, rfl, k_v2, hu_v2⟩ := Kinds.cons_ hu
    obtain ⟨w21, rfl⟩ := kind_int k_v2
    obtain rfl := Kinds.nil_ hu_v2
    constructor
    · intro h X hX
      exact h (fun b19a b19l b19c k20 w => X [.slice b19a b19l b19c, .int .i64 k20] w) (fun b19a b19l b19c k20 w hb => hX [.slice b19a b19l b19c, .int .i64 k20] w ⟨rfl, rfl, trivial⟩ hb)
    · intro h X hX
      exact h (fun l w => match l with | [v0, v1] => X (pA v0) (pL v0) (pC v0) (pInt v1) w | _ => True) (fun l w hl hb => by
        obtain ⟨v0, l_v0, rfl, k_v0, hl_v0⟩ := Kinds.cons_ hl
        obtain ⟨b19a, b19l, b19c, rfl⟩ := kind_slice k_v0
        obtain ⟨v1, l_v1, rfl, k_v1, hl_v1⟩ := Kinds.cons_ hl_v0
        obtain ⟨k20, rfl⟩ := kind_int k_v1
        obtain rfl := Kinds.nil_ hl_v1
        exact hX b19a b19l b19c k20 w hb)

def T_ref08_targets_1_body (X : Option Addr → Nat → Nat → Int → World → Prop) (b6a : Option Addr) (b6l : Nat) (b6c : Nat) (i7 : Int) (l8a : Option Addr) (l8l : Nat) (l8c : Nat) (w : World) (Kn : Option Addr → Nat → Nat → World → Prop) (Kp : List PanicEntry → World → Prop)  : Prop :=
  if (decide ((i7 : Int) < ((l8l : Nat) : Int))) = true then (0 ≤ (i7 : Int) ∧ (i7 : Int) < ((l8l : Nat) : Int) ∧ ∃ b9, l8a = some b9 ∧ ∃ s10 : ByteArray, rd w (b9.add ((i7 : Int).toNat * 2)) (.string s10) ∧ Calls Tryz.prog 124 #[.slice b6a b6l b6c, .string s10] w (ret (fun r11 w12 => ∃ s13a : Option Addr, ∃ s13l : Nat, ∃ s13c : Nat, r11 = .slice s13a s13l s13c ∧ 0 ≤ (i7 : Int) ∧ (i7 : Int) < ((l8l : Nat) : Int) ∧ ∃ b14, l8a = some b14 ∧ ∃ f15 : Nat, rd w12 ((b14.add ((i7 : Int).toNat * 2)).add 1) (.float .f64 f15) ∧ runV Tryz.prog (callFunc 81 #[.float .f64 f15]) w12 (nxv (fun r16 w17 => ∃ x18 : Int, r16 = .int .u64 x18 ∧ T_ref08_targets_2 s13a s13l s13c 0 x18 w17 (fun b33a b33l b33c w34 => X b33a b33l b33c (IntKind.wrap .i64 ((i7 : Int) + 1)) w34) Kp)) Kp) Kp)) else (Kn b6a b6l b6c w)

def T_ref08_targets_1 (b6a : Option Addr) (b6l : Nat) (b6c : Nat) (i7 : Int) (l8a : Option Addr) (l8l : Nat) (l8c : Nat) (w : World) (Kn : Option Addr → Nat → Nat → World → Prop) (Kp : List PanicEntry → World → Prop) : Prop :=
  ∀ X : Option Addr → Nat → Nat → Int → World → Prop, (∀ (b6a : Option Addr) (b6l : Nat) (b6c : Nat) (i7 : Int) (w : World), T_ref08_targets_1_body X b6a b6l b6c i7 l8a l8l l8c w Kn Kp → X b6a b6l b6c i7 w) → X b6a b6l b6c i7 w

def T_ref08_targets_1_outs : Exit → Option (List (Nat × Value)) := fun x => match x with | .normal => some [(0, .slice none 0 0)] | .panic _ => some [] | _ => none

def T_ref08_targets_1_ks : Nat → Bool := ksOf [0, 5, 6, 7, 12, 13, 14, 15, 16, 17, 18, 19, 20, 21, 22, 23, 24, 25, 26, 27, 28, 29, 30, 31, 32, 33, 34, 35, 36, 37, 38, 39, 40, 41, 42, 43, 44]

def H_ref08_targets_1 : Env → World → QT → Prop := unitHook 46 T_ref08_targets_1_ks [(0, .slice none 0 0), (5, .int .i64 0), (1, .slice none 0 0)] T_ref08_targets_1_outs fun l w C => match l with | [v0, v1, v2] => T_ref08_targets_1 (pA v0) (pL v0) (pC v0) (pInt v1) (pA v2) (pL v2) (pC v2) w (fun b36a b36l b36c w => C .normal [.slice b36a b36l b36c] w) (fun ch w => C (.panic ch) [] w) | _ => False

theorem T_ref08_targets_1_hl : allP (hokL Tryz.prog (hookAt [(7463, H_ref08_targets_2)]) (at_ (bodyOf Tryz.f123) [1, 1, 0, 1, 0, 0]) 116) = (UnitOk Tryz.prog H_ref08_targets_2 (at_ (bodyOf Tryz.f123) [1, 1, 0, 1, 0, 0, 1, 0, 0, 1, 1, 1]) 7463 ∧ True) := by kernel_rfl
theorem T_ref08_targets_1_hok : HOk Tryz.prog (hookAt [(7463, H_ref08_targets_2)]) (at_ (bodyOf Tryz.f123) [1, 1, 0, 1, 0, 0]) 116 := HOk_of _ _ (by rw [T_ref08_targets_1_hl]; exact ⟨T_ref08_targets_2_ok, trivial⟩)

theorem T_ref08_targets_1_eq (C : Conts) (X : List Value → World → Prop) (b6a : Option Addr) (b6l : Nat) (b6c : Nat) (i7 : Int) (l8a : Option Addr) (l8l : Nat) (l8c : Nat) (w : World) : vcCode Tryz.prog (hookAt [(7463, H_ref08_targets_2)]) (at_ (bodyOf Tryz.f123) [1, 1, 0, 1, 0, 0]) 116 ⟨[(0, .slice b6a b6l b6c), (5, .int .i64 i7)] ++ [(1, .slice l8a l8l l8c)], 46, []⟩ w (seqQ (fun e w => takeAll e [(0, .slice none 0 0), (5, .int .i64 0)] fun l => X l w) (blockQ 0 (unitQ T_ref08_targets_1_outs C))) = T_ref08_targets_1_body (fun b6a b6l b6c i7 w => X [.slice b6a b6l b6c, .int .i64 i7] w) b6a b6l b6c i7 l8a l8l l8c w (fun b37a b37l b37c w => C .normal [.slice b37a b37l b37c] w) (fun ch w => C (.panic ch) [] w) := by kernel_rfl

theorem T_ref08_targets_1_ok : UnitOk Tryz.prog H_ref08_targets_1 (at_ (bodyOf Tryz.f123) [1, 1, 0, 1]) 29 := by
  have hc : at_ (bodyOf Tryz.f123) [1, 1, 0, 1] = .block 0 (.loop (at_ (bodyOf Tryz.f123) [1, 1, 0, 1, 0, 0])) := by kernel_rfl
  rw [hc]
  refine loop_unit_ok (carr := [(0, .slice none 0 0), (5, .int .i64 0)]) (fix := [(1, .slice none 0 0)]) (ks := T_ref08_targets_1_ks) (H := (hookAt [(7463, H_ref08_targets_2)])) (B := fun C X l u w => match l, u with | [v0, v1], [v2] => T_ref08_targets_1_body (fun b6a b6l b6c i7 w => X [.slice b6a b6l b6c, .int .i64 i7] w) (pA v0) (pL v0) (pC v0) (pInt v1) (pA v2) (pL v2) (pC v2) w (fun b38a b38l b38c w => C .normal [.slice b38a b38l b38c] w) (fun ch w => C (.panic ch) [] w) | _, _ => False) (by kernel_rfl) (by kernel_rfl) T_ref08_targets_1_hok ?_ ?_
  · intro C X l u w hl hu
    obtain ⟨v0, l_v0, rfl, k_v0, hl_v0⟩ := Kinds.cons_ hl
    obtain ⟨b6a, b6l, b6c, rfl⟩ := kind_slice k_v0
    obtain ⟨v1, l_v1, rfl, k_v1, hl_v1⟩ := Kinds.cons_ hl_v0
    obtain ⟨i7, rfl⟩ := kind_int k_v1
    obtain rfl := Kinds.nil_ hl_v1
    obtain ⟨v2, l_v2, rfl, k_v2, hu_v2⟩ := Kinds.cons_ hu
    obtain ⟨l8a, l8l, l8c, rfl⟩ := kind_slice k_v2
    obtain rfl := Kinds.nil_ hu_v2
    exact T_ref08_targets_1_eq C X b6a b6l b6c i7 l8a l8l l8c w
  · intro l u w C hl hu
    obtain ⟨v0, l_v0, rfl, k_v0, hl_v0⟩ := Kinds.cons_ hl
    obtain ⟨b6a, b6l, b6c, rfl⟩ := kind_slice k_v0
    obtain ⟨v1, l_v1, rfl, k_v1, hl_v1⟩ := Kinds.cons_ hl_v0
    obtain ⟨i7, rfl⟩ := kind_int k_v1
    obtain rfl := Kinds.nil_ hl_v1
    obtain ⟨v2, l_v2, rfl, k_v2, hu_v2⟩ := Kinds.cons_ hu
    obtain ⟨l8a, l8l, l8c, rfl⟩ := kind_slice k_v2
    obtain rfl := Kinds.nil_ hu_v2
    constructor
    · intro h X hX
      exact h (fun b6a b6l b6c i7 w => X [.slice b6a b6l b6c, .int .i64 i7] w) (fun b6a b6l b6c i7 w hb => hX [.slice b6a b6l b6c, .int .i64 i7] w ⟨rfl, rfl, trivial⟩ hb)
    · intro h X hX
      exact h (fun l w => match l with | [v0, v1] => X (pA v0) (pL v0) (pC v0) (pInt v1) w | _ => True) (fun l w hl hb => by
        obtain ⟨v0, l_v0, rfl, k_v0, hl_v0⟩ := Kinds.cons_ hl
        obtain ⟨b6a, b6l, b6c, rfl⟩ := kind_slice k_v0
        obtain ⟨v1, l_v1, rfl, k_v1, hl_v1⟩ := Kinds.cons_ hl_v0
        obtain ⟨i7, rfl⟩ := kind_int k_v1
        obtain rfl := Kinds.nil_ hl_v1
        exact hX b6a b6l b6c i7 w hb)

def T_ref08_targets (b1a : Option Addr) (b1l : Nat) (b1c : Nat) (l2a : Option Addr) (l2l : Nat) (l2c : Nat) (w : World) (R : Ending → World → Prop) : Prop :=
  Calls Tryz.prog 94 #[.slice b1a b1l b1c, .int .i64 ((l2l : Nat) : Int)] w (ret (fun r3 w4 => ∃ s5a : Option Addr, ∃ s5l : Nat, ∃ s5c : Nat, r3 = .slice s5a s5l s5c ∧ T_ref08_targets_1 s5a s5l s5c 0 l2a l2l l2c w4 (fun b39a b39l b39c w40 => R (.returned (.slice b39a b39l b39c)) w40) (pan R)) (pan R))

theorem T_ref08_targets_hl : allP (hokL Tryz.prog (hookAt [(29, H_ref08_targets_1)]) (bodyOf Tryz.f123) 1) = (UnitOk Tryz.prog H_ref08_targets_1 (at_ (bodyOf Tryz.f123) [1, 1, 0, 1]) 29 ∧ True) := by kernel_rfl

theorem T_ref08_targets_eq (b1a : Option Addr) (b1l : Nat) (b1c : Nat) (l2a : Option Addr) (l2l : Nat) (l2c : Nat) (w : World) (R : Ending → World → Prop) : vcCode Tryz.prog (hookAt [(29, H_ref08_targets_1)]) (bodyOf Tryz.f123) 1 ⟨argEnv [.slice b1a b1l b1c, .slice l2a l2l l2c] 0, Tryz.f123.ntmps, []⟩ w (finQ Tryz.prog Tryz.f123.results.toList R) = T_ref08_targets b1a b1l b1c l2a l2l l2c w R := by kernel_rfl

theorem T_ref08_targets_b : Tryz.f123.body = some (bodyOf Tryz.f123) := by kernel_rfl
theorem T_ref08_targets_s : (quietSel (bodyOf Tryz.f123) && Nat.ble 2 Tryz.f123.ntmps) = true := by kernel_rfl

theorem C_ref08_targets {b1a : Option Addr} {b1l : Nat} {b1c : Nat} {l2a : Option Addr} {l2l : Nat} {l2c : Nat} {w : World} {R : Ending → World → Prop} (h : T_ref08_targets b1a b1l b1c l2a l2l l2c w R) : Calls Tryz.prog 123 #[.slice b1a b1l b1c, .slice l2a l2l l2c] w R :=
  calls_of_text (args := [.slice b1a b1l b1c, .slice l2a l2l l2c]) mixed Tryz.func123 T_ref08_targets_b T_ref08_targets_s (HOk_of _ _ (by rw [T_ref08_targets_hl]; exact ⟨T_ref08_targets_1_ok, trivial⟩)) (by rw [T_ref08_targets_eq]; exact h)

/-! tollgate/tollgateref08.text -/
def T_ref08_text (b1a : Option Addr) (b1l : Nat) (b1c : Nat) (s2 : ByteArray) (w : World) (R : Ending → World → Prop) : Prop :=
  Calls Tryz.prog 94 #[.slice b1a b1l b1c, .int .i64 ((s2.size : Nat) : Int)] w (ret (fun r3 w4 => ∃ s5a : Option Addr, ∃ s5l : Nat, ∃ s5c : Nat, r3 = .slice s5a s5l s5c ∧ runV Tryz.prog (Builtin.append_ #[56, 9] 56 #[.slice s5a s5l s5c, .string s2]) w4 (fun r6 w7 => ∃ s8a : Option Addr, ∃ s8l : Nat, ∃ s8c : Nat, r6 = .slice s8a s8l s8c ∧ R (.returned (.slice s8a s8l s8c)) w7) (pan R)) (pan R))

theorem T_ref08_text_hl : allP (hokL Tryz.prog (hookAt []) (bodyOf Tryz.f124) 1) = (True) := by kernel_rfl

theorem T_ref08_text_eq (b1a : Option Addr) (b1l : Nat) (b1c : Nat) (s2 : ByteArray) (w : World) (R : Ending → World → Prop) : vcCode Tryz.prog (hookAt []) (bodyOf Tryz.f124) 1 ⟨argEnv [.slice b1a b1l b1c, .string s2] 0, Tryz.f124.ntmps, []⟩ w (finQ Tryz.prog Tryz.f124.results.toList R) = T_ref08_text b1a b1l b1c s2 w R := by kernel_rfl

theorem T_ref08_text_b : Tryz.f124.body = some (bodyOf Tryz.f124) := by kernel_rfl
theorem T_ref08_text_s : (quietSel (bodyOf Tryz.f124) && Nat.ble 2 Tryz.f124.ntmps) = true := by kernel_rfl

theorem C_ref08_text {b1a : Option Addr} {b1l : Nat} {b1c : Nat} {s2 : ByteArray} {w : World} {R : Ending → World → Prop} (h : T_ref08_text b1a b1l b1c s2 w R) : Calls Tryz.prog 124 #[.slice b1a b1l b1c, .string s2] w R :=
  calls_of_text (args := [.slice b1a b1l b1c, .string s2]) mixed Tryz.func124 T_ref08_text_b T_ref08_text_s (HOk_of _ _ (by rw [T_ref08_text_hl]; exact trivial)) (by rw [T_ref08_text_eq]; exact h)

end Go.Proofs.YtcpmfjclkdjfmaaGreat
