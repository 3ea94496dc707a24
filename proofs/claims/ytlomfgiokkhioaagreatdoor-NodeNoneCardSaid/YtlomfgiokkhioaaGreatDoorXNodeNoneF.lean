/-
  Texts of this claim's own, laid into one: Ga, ConfM, ConfA, ConfB, Gb, ConfC, VcEq, ConfPa, NodeGc, Gp, ConfPc, Gm.
-/
import Derived.Test.YtlomfgiokkhioaaGreatDoorProg
import Derived.KernelRfl
import Derived.Laws.Externs
import Derived.Test.YtlomfgiokkhioaaGreatDoorXNodeNoneA
import Derived.Test.YtlomfgiokkhioaaGreatDoorXNodeNoneB
import Derived.Test.YtlomfgiokkhioaaGreatDoorXNodeNoneC
import Derived.Test.YtlomfgiokkhioaaGreatDoorXNodeNoneD
import Derived.Test.YtlomfgiokkhioaaGreatDoorXNodeNoneE
set_option linter.all false
/-
  What the functions' code comes to; printed by a program of this claim's own.
-/
namespace Go.Proofs.YtlomfgiokkhioaaGreatDoor
open Go Go.Vc
set_option maxRecDepth 100000
set_option linter.unusedVariables false

/-! tollgate/conf.small -/
def T_conf_small (c1 : Int) (w : World) (R : Ending → World → Prop) : Prop :=
  if (decide ((c1 : Int) ≥ 97)) = true then (if (decide ((c1 : Int) ≤ 122)) = true then (R (.returned (.bool true)) w) else (if (decide ((c1 : Int) ≥ 48)) = true then (if (decide ((c1 : Int) ≤ 57)) = true then (R (.returned (.bool true)) w) else (R (.returned (.bool ((c1 : Int) == 45))) w)) else (R (.returned (.bool ((c1 : Int) == 45))) w))) else (if (decide ((c1 : Int) ≥ 48)) = true then (if (decide ((c1 : Int) ≤ 57)) = true then (R (.returned (.bool true)) w) else (R (.returned (.bool ((c1 : Int) == 45))) w)) else (R (.returned (.bool ((c1 : Int) == 45))) w))

theorem T_conf_small_hl : allP (hokL Tryz.prog (hookAt []) (bodyOf Tryz.f202) 1) = (True) := by kernel_rfl

theorem T_conf_small_eq (c1 : Int) (w : World) (R : Ending → World → Prop) : vcCode Tryz.prog (hookAt []) (bodyOf Tryz.f202) 1 ⟨argEnv [.int .u8 c1] 0, Tryz.f202.ntmps, []⟩ w (finQ Tryz.prog Tryz.f202.results.toList R) = T_conf_small c1 w R := by kernel_rfl

theorem T_conf_small_b : Tryz.f202.body = some (bodyOf Tryz.f202) := by kernel_rfl
theorem T_conf_small_s : (quietSel (bodyOf Tryz.f202) && Nat.ble 1 Tryz.f202.ntmps) = true := by kernel_rfl

theorem C_conf_small {c1 : Int} {w : World} {R : Ending → World → Prop} (h : T_conf_small c1 w R) : Calls Tryz.prog 202 #[.int .u8 c1] w R :=
  calls_of_text (args := [.int .u8 c1]) mixed Tryz.func202 T_conf_small_b T_conf_small_s (HOk_of _ _ (by rw [T_conf_small_hl]; exact trivial)) (by rw [T_conf_small_eq]; exact h)

/-! tollgate/conf.each -/
def T_conf_each_1_body (X : Int → World → Prop) (x4 : Int) (s5 : ByteArray) (such6g : FuncId) (such6i : Array Value) (such6c : Array Value) (x7 : Int) (w : World) (Kn : World → Prop) (Kr : Bool → World → Prop) (Kp : List PanicEntry → World → Prop)  : Prop :=
  if (decide ((x4 : Int) < x7)) = true then (0 ≤ (x4 : Int) ∧ ∃ c8, s5[(x4 : Int).toNat]? = some c8 ∧ hasBody Tryz.prog such6g = true ∧ Calls Tryz.prog such6g ⟨such6i.toList ++ ([.int .u8 ((c8.toNat : Nat) : Int)] ++ such6c.toList)⟩ w (ret (fun r9 w10 => ∃ b11 : Bool, r9 = .bool b11 ∧ if (!b11) = true then (Kr false w10) else (X (IntKind.wrap .i64 ((x4 : Int) + 1)) w10)) Kp)) else (Kn  w)

def T_conf_each_1 (x4 : Int) (s5 : ByteArray) (such6g : FuncId) (such6i : Array Value) (such6c : Array Value) (x7 : Int) (w : World) (Kn : World → Prop) (Kr : Bool → World → Prop) (Kp : List PanicEntry → World → Prop) : Prop :=
  ∀ X : Int → World → Prop, (∀ (x4 : Int) (w : World), T_conf_each_1_body X x4 s5 such6g such6i such6c x7 w Kn Kr Kp → X x4 w) → X x4 w

def T_conf_each_1_outs : Exit → Option (List (Nat × Value)) := fun x => match x with | .normal => some [] | .ret => some [(6, .bool false)] | .panic _ => some [] | _ => none

def T_conf_each_1_ks : Nat → Bool := ksOf [6, 7, 10, 11, 12, 13, 14, 15, 16, 17, 18, 19]

def H_conf_each_1 : Env → World → QT → Prop := unitHook 29 T_conf_each_1_ks [(10, .int .i64 0), (0, .string default), (2, .func (.func 0) #[] #[]), (9, .int .i64 0)] T_conf_each_1_outs fun l w C => match l with | [v0, v1, v2, v3] => T_conf_each_1 (pInt v0) (pStr v1) (pFn v2) (pFi v2) (pCa v2) (pInt v3) w (fun w => C .normal [] w) (fun b13 w => C .ret [.bool b13] w) (fun ch w => C (.panic ch) [] w) | _ => False

theorem T_conf_each_1_hl : allP (hokL Tryz.prog (hookAt []) (at_ (bodyOf Tryz.f201) [1, 0, 1, 0, 0]) 52) = (True) := by kernel_rfl
theorem T_conf_each_1_hok : HOk Tryz.prog (hookAt []) (at_ (bodyOf Tryz.f201) [1, 0, 1, 0, 0]) 52 := HOk_of _ _ (by rw [T_conf_each_1_hl]; exact trivial)

theorem T_conf_each_1_eq (C : Conts) (X : List Value → World → Prop) (x4 : Int) (s5 : ByteArray) (such6g : FuncId) (such6i : Array Value) (such6c : Array Value) (x7 : Int) (w : World) : vcCode Tryz.prog (hookAt []) (at_ (bodyOf Tryz.f201) [1, 0, 1, 0, 0]) 52 ⟨[(10, .int .i64 x4)] ++ [(0, .string s5), (2, .func (.func such6g) such6i such6c), (9, .int .i64 x7)], 29, []⟩ w (seqQ (fun e w => takeAll e [(10, .int .i64 0)] fun l => X l w) (blockQ 0 (unitQ T_conf_each_1_outs C))) = T_conf_each_1_body (fun x4 w => X [.int .i64 x4] w) x4 s5 such6g such6i such6c x7 w (fun w => C .normal [] w) (fun b14 w => C .ret [.bool b14] w) (fun ch w => C (.panic ch) [] w) := by kernel_rfl

theorem T_conf_each_1_ok : UnitOk Tryz.prog H_conf_each_1 (at_ (bodyOf Tryz.f201) [1, 0, 1]) 13 := by
  have hc : at_ (bodyOf Tryz.f201) [1, 0, 1] = .block 0 (.loop (at_ (bodyOf Tryz.f201) [1, 0, 1, 0, 0])) := by kernel_rfl
  rw [hc]
  refine loop_unit_ok (carr := [(10, .int .i64 0)]) (fix := [(0, .string default), (2, .func (.func 0) #[] #[]), (9, .int .i64 0)]) (ks := T_conf_each_1_ks) (H := (hookAt [])) (B := fun C X l u w => match l, u with | [v0], [v1, v2, v3] => T_conf_each_1_body (fun x4 w => X [.int .i64 x4] w) (pInt v0) (pStr v1) (pFn v2) (pFi v2) (pCa v2) (pInt v3) w (fun w => C .normal [] w) (fun b15 w => C .ret [.bool b15] w) (fun ch w => C (.panic ch) [] w) | _, _ => False) (by kernel_rfl) (by kernel_rfl) T_conf_each_1_hok ?_ ?_
  · intro C X l u w hl hu
    obtain ⟨v0, l_v0, rfl, k_v0, hl_v0⟩ := Kinds.cons_ hl
    obtain ⟨x4, rfl⟩ := kind_int k_v0
    obtain rfl := Kinds.nil_ hl_v0
    obtain ⟨v1, l_v1, rfl, k_v1, hu_v1⟩ := Kinds.cons_ hu
    obtain ⟨s5, rfl⟩ := kind_string k_v1
    obtain ⟨v2, l_v2, rfl, k_v2, hu_v2⟩ := Kinds.cons_ hu_v1
    obtain ⟨such6g, such6i, such6c, rfl⟩ := kind_func k_v2
    obtain ⟨v3, l_v3, rfl, k_v3, hu_v3⟩ := Kinds.cons_ hu_v2
    obtain ⟨x7, rfl⟩ := kind_int k_v3
    obtain rfl := Kinds.nil_ hu_v3
    exact T_conf_each_1_eq C X x4 s5 such6g such6i such6c x7 w
  · intro l u w C hl hu
    obtain ⟨v0, l_v0, rfl, k_v0, hl_v0⟩ := Kinds.cons_ hl
    obtain ⟨x4, rfl⟩ := kind_int k_v0
    obtain rfl := Kinds.nil_ hl_v0
    obtain ⟨v1, l_v1, rfl, k_v1, hu_v1⟩ := Kinds.cons_ hu
    obtain ⟨s5, rfl⟩ := kind_string k_v1
    obtain ⟨v2, l_v2, rfl, k_v2, hu_v2⟩ := Kinds.cons_ hu_v1
    obtain ⟨such6g, such6i, such6c, rfl⟩ := kind_func k_v2
    obtain ⟨v3, l_v3, rfl, k_v3, hu_v3⟩ := Kinds.cons_ hu_v2
    obtain ⟨x7, rfl⟩ := kind_int k_v3
    obtain rfl := Kinds.nil_ hu_v3
    constructor
    · intro h X hX
      exact h (fun x4 w => X [.int .i64 x4] w) (fun x4 w hb => hX [.int .i64 x4] w ⟨rfl, trivial⟩ hb)
    · intro h X hX
      exact h (fun l w => match l with | [v0] => X (pInt v0) w | _ => True) (fun l w hl hb => by
        obtain ⟨v0, l_v0, rfl, k_v0, hl_v0⟩ := Kinds.cons_ hl
        obtain ⟨x4, rfl⟩ := kind_int k_v0
        obtain rfl := Kinds.nil_ hl_v0
        exact hX x4 w hb)

def T_conf_each (s1 : ByteArray) (most2 : Int) (such3g : FuncId) (such3i : Array Value) (such3c : Array Value) (w : World) (R : Ending → World → Prop) : Prop :=
  T_conf_each_1 0 s1 such3g such3i such3c ((s1.size : Nat) : Int) w (fun w16 => if (decide (((s1.size : Nat) : Int) > 0)) = true then (R (.returned (.bool (decide (((s1.size : Nat) : Int) ≤ most2)))) w16) else (R (.returned (.bool false)) w16)) (fun b17 w18 => R (.returned (.bool b17)) w18) (pan R)

theorem T_conf_each_hl : allP (hokL Tryz.prog (hookAt [(13, H_conf_each_1)]) (bodyOf Tryz.f201) 1) = (UnitOk Tryz.prog H_conf_each_1 (at_ (bodyOf Tryz.f201) [1, 0, 1]) 13 ∧ True) := by kernel_rfl

theorem T_conf_each_eq (s1 : ByteArray) (most2 : Int) (such3g : FuncId) (such3i : Array Value) (such3c : Array Value) (w : World) (R : Ending → World → Prop) : vcCode Tryz.prog (hookAt [(13, H_conf_each_1)]) (bodyOf Tryz.f201) 1 ⟨argEnv [.string s1, .int .i64 most2, .func (.func such3g) such3i such3c] 0, Tryz.f201.ntmps, []⟩ w (finQ Tryz.prog Tryz.f201.results.toList R) = T_conf_each s1 most2 such3g such3i such3c w R := by kernel_rfl

theorem T_conf_each_b : Tryz.f201.body = some (bodyOf Tryz.f201) := by kernel_rfl
theorem T_conf_each_s : (quietSel (bodyOf Tryz.f201) && Nat.ble 3 Tryz.f201.ntmps) = true := by kernel_rfl

theorem C_conf_each {s1 : ByteArray} {most2 : Int} {such3g : FuncId} {such3i : Array Value} {such3c : Array Value} {w : World} {R : Ending → World → Prop} (h : T_conf_each s1 most2 such3g such3i such3c w R) : Calls Tryz.prog 201 #[.string s1, .int .i64 most2, .func (.func such3g) such3i such3c] w R :=
  calls_of_text (args := [.string s1, .int .i64 most2, .func (.func such3g) such3i such3c]) mixed Tryz.func201 T_conf_each_b T_conf_each_s (HOk_of _ _ (by rw [T_conf_each_hl]; exact ⟨T_conf_each_1_ok, trivial⟩)) (by rw [T_conf_each_eq]; exact h)

/-! tollgate/conf.prefix$1 -/
def T_conf_prefix_c1 (c1 : Int) (w : World) (R : Ending → World → Prop) : Prop :=
  if (decide ((c1 : Int) > 32)) = true then (if (decide ((c1 : Int) < 127)) = true then (if ((c1 : Int) != 63) = true then (R (.returned (.bool ((c1 : Int) != 35))) w) else (R (.returned (.bool false)) w)) else (R (.returned (.bool false)) w)) else (R (.returned (.bool false)) w)

theorem T_conf_prefix_c1_hl : allP (hokL Tryz.prog (hookAt []) (bodyOf Tryz.f206) 1) = (True) := by kernel_rfl

theorem T_conf_prefix_c1_eq (c1 : Int) (w : World) (R : Ending → World → Prop) : vcCode Tryz.prog (hookAt []) (bodyOf Tryz.f206) 1 ⟨argEnv [.int .u8 c1] 0, Tryz.f206.ntmps, []⟩ w (finQ Tryz.prog Tryz.f206.results.toList R) = T_conf_prefix_c1 c1 w R := by kernel_rfl

theorem T_conf_prefix_c1_b : Tryz.f206.body = some (bodyOf Tryz.f206) := by kernel_rfl
theorem T_conf_prefix_c1_s : (quietSel (bodyOf Tryz.f206) && Nat.ble 1 Tryz.f206.ntmps) = true := by kernel_rfl

theorem C_conf_prefix_c1 {c1 : Int} {w : World} {R : Ending → World → Prop} (h : T_conf_prefix_c1 c1 w R) : Calls Tryz.prog 206 #[.int .u8 c1] w R :=
  calls_of_text (args := [.int .u8 c1]) mixed Tryz.func206 T_conf_prefix_c1_b T_conf_prefix_c1_s (HOk_of _ _ (by rw [T_conf_prefix_c1_hl]; exact trivial)) (by rw [T_conf_prefix_c1_eq]; exact h)

/-! tollgate/conf.address$1 -/
def T_conf_address_c1 (c1 : Int) (w : World) (R : Ending → World → Prop) : Prop :=
  if (decide ((c1 : Int) > 32)) = true then (R (.returned (.bool (decide ((c1 : Int) < 127)))) w) else (R (.returned (.bool false)) w)

theorem T_conf_address_c1_hl : allP (hokL Tryz.prog (hookAt []) (bodyOf Tryz.f260) 1) = (True) := by kernel_rfl

theorem T_conf_address_c1_eq (c1 : Int) (w : World) (R : Ending → World → Prop) : vcCode Tryz.prog (hookAt []) (bodyOf Tryz.f260) 1 ⟨argEnv [.int .u8 c1] 0, Tryz.f260.ntmps, []⟩ w (finQ Tryz.prog Tryz.f260.results.toList R) = T_conf_address_c1 c1 w R := by kernel_rfl

theorem T_conf_address_c1_b : Tryz.f260.body = some (bodyOf Tryz.f260) := by kernel_rfl
theorem T_conf_address_c1_s : (quietSel (bodyOf Tryz.f260) && Nat.ble 1 Tryz.f260.ntmps) = true := by kernel_rfl

theorem C_conf_address_c1 {c1 : Int} {w : World} {R : Ending → World → Prop} (h : T_conf_address_c1 c1 w R) : Calls Tryz.prog 260 #[.int .u8 c1] w R :=
  calls_of_text (args := [.int .u8 c1]) mixed Tryz.func260 T_conf_address_c1_b T_conf_address_c1_s (HOk_of _ _ (by rw [T_conf_address_c1_hl]; exact trivial)) (by rw [T_conf_address_c1_eq]; exact h)

/-! tollgate/conf.host$1 -/
def T_conf_host_c1 (c1 : Int) (cap2 : Addr) (w : World) (R : Ending → World → Prop) : Prop :=
  ∃ b3 : Bool, rd w cap2 (.bool b3) ∧ (.bool ((c1 : Int) == 46) : Value).cells.size = 1 ∧ wrOk w cap2 (.bool ((c1 : Int) == 46)) ∧ let w4 : World := wr w cap2 (.bool ((c1 : Int) == 46))
  Calls Tryz.prog 202 #[.int .u8 c1] w4 (ret (fun r5 w6 => ∃ b7 : Bool, r5 = .bool b7 ∧ if b7 = true then (R (.returned (.bool true)) w6) else (∃ b8 : Bool, rd w6 cap2 (.bool b8) ∧ if b8 = true then (R (.returned (.bool (!b3))) w6) else (R (.returned (.bool false)) w6))) (pan R))

theorem T_conf_host_c1_hl : allP (hokL Tryz.prog (hookAt []) (bodyOf Tryz.f205) 1) = (True) := by kernel_rfl

theorem T_conf_host_c1_eq (c1 : Int) (cap2 : Addr) (w : World) (R : Ending → World → Prop) : vcCode Tryz.prog (hookAt []) (bodyOf Tryz.f205) 1 ⟨argEnv [.int .u8 c1, .pointer (some cap2)] 0, Tryz.f205.ntmps, []⟩ w (finQ Tryz.prog Tryz.f205.results.toList R) = T_conf_host_c1 c1 cap2 w R := by kernel_rfl

theorem T_conf_host_c1_b : Tryz.f205.body = some (bodyOf Tryz.f205) := by kernel_rfl
theorem T_conf_host_c1_s : (quietSel (bodyOf Tryz.f205) && Nat.ble 2 Tryz.f205.ntmps) = true := by kernel_rfl

theorem C_conf_host_c1 {c1 : Int} {cap2 : Addr} {w : World} {R : Ending → World → Prop} (h : T_conf_host_c1 c1 cap2 w R) : Calls Tryz.prog 205 #[.int .u8 c1, .pointer (some cap2)] w R :=
  calls_of_text (args := [.int .u8 c1, .pointer (some cap2)]) mixed Tryz.func205 T_conf_host_c1_b T_conf_host_c1_s (HOk_of _ _ (by rw [T_conf_host_c1_hl]; exact trivial)) (by rw [T_conf_host_c1_eq]; exact h)

/-! tollgate/conf.poolName -/
def T_conf_poolName (s1 : ByteArray) (w : World) (R : Ending → World → Prop) : Prop :=
  Calls Tryz.prog 201 #[.string s1, .int .i64 64, .func (.func 202) #[] #[]] w (ret (fun r2 w3 => ∃ b4 : Bool, r2 = .bool b4 ∧ R (.returned (.bool b4)) w3) (pan R))

theorem T_conf_poolName_hl : allP (hokL Tryz.prog (hookAt []) (bodyOf Tryz.f107) 1) = (True) := by kernel_rfl

theorem T_conf_poolName_eq (s1 : ByteArray) (w : World) (R : Ending → World → Prop) : vcCode Tryz.prog (hookAt []) (bodyOf Tryz.f107) 1 ⟨argEnv [.string s1] 0, Tryz.f107.ntmps, []⟩ w (finQ Tryz.prog Tryz.f107.results.toList R) = T_conf_poolName s1 w R := by kernel_rfl

theorem T_conf_poolName_b : Tryz.f107.body = some (bodyOf Tryz.f107) := by kernel_rfl
theorem T_conf_poolName_s : (quietSel (bodyOf Tryz.f107) && Nat.ble 1 Tryz.f107.ntmps) = true := by kernel_rfl

theorem C_conf_poolName {s1 : ByteArray} {w : World} {R : Ending → World → Prop} (h : T_conf_poolName s1 w R) : Calls Tryz.prog 107 #[.string s1] w R :=
  calls_of_text (args := [.string s1]) mixed Tryz.func107 T_conf_poolName_b T_conf_poolName_s (HOk_of _ _ (by rw [T_conf_poolName_hl]; exact trivial)) (by rw [T_conf_poolName_eq]; exact h)

/-! tollgate/conf.address -/
def T_conf_address (s1 : ByteArray) (w : World) (R : Ending → World → Prop) : Prop :=
  Calls Tryz.prog 201 #[.string s1, .int .i64 64, .func (.func 260) #[] #[]] w (ret (fun r2 w3 => ∃ b4 : Bool, r2 = .bool b4 ∧ R (.returned (.bool b4)) w3) (pan R))

theorem T_conf_address_hl : allP (hokL Tryz.prog (hookAt []) (bodyOf Tryz.f203) 1) = (True) := by kernel_rfl

theorem T_conf_address_eq (s1 : ByteArray) (w : World) (R : Ending → World → Prop) : vcCode Tryz.prog (hookAt []) (bodyOf Tryz.f203) 1 ⟨argEnv [.string s1] 0, Tryz.f203.ntmps, []⟩ w (finQ Tryz.prog Tryz.f203.results.toList R) = T_conf_address s1 w R := by kernel_rfl

theorem T_conf_address_b : Tryz.f203.body = some (bodyOf Tryz.f203) := by kernel_rfl
theorem T_conf_address_s : (quietSel (bodyOf Tryz.f203) && Nat.ble 1 Tryz.f203.ntmps) = true := by kernel_rfl

theorem C_conf_address {s1 : ByteArray} {w : World} {R : Ending → World → Prop} (h : T_conf_address s1 w R) : Calls Tryz.prog 203 #[.string s1] w R :=
  calls_of_text (args := [.string s1]) mixed Tryz.func203 T_conf_address_b T_conf_address_s (HOk_of _ _ (by rw [T_conf_address_hl]; exact trivial)) (by rw [T_conf_address_eq]; exact h)

/-! tollgate/conf.prefix -/
def T_conf_prefix (s1 : ByteArray) (w : World) (R : Ending → World → Prop) : Prop :=
  Calls Tryz.prog 201 #[.string s1, .int .i64 128, .func (.func 206) #[] #[]] w (ret (fun r2 w3 => ∃ b4 : Bool, r2 = .bool b4 ∧ if b4 = true then (0 ≤ (0 : Int) ∧ ∃ c5, s1[(0 : Int).toNat]? = some c5 ∧ R (.returned (.bool (((c5.toNat : Nat) : Int) == 47))) w3) else (R (.returned (.bool false)) w3)) (pan R))

theorem T_conf_prefix_hl : allP (hokL Tryz.prog (hookAt []) (bodyOf Tryz.f110) 1) = (True) := by kernel_rfl

theorem T_conf_prefix_eq (s1 : ByteArray) (w : World) (R : Ending → World → Prop) : vcCode Tryz.prog (hookAt []) (bodyOf Tryz.f110) 1 ⟨argEnv [.string s1] 0, Tryz.f110.ntmps, []⟩ w (finQ Tryz.prog Tryz.f110.results.toList R) = T_conf_prefix s1 w R := by kernel_rfl

theorem T_conf_prefix_b : Tryz.f110.body = some (bodyOf Tryz.f110) := by kernel_rfl
theorem T_conf_prefix_s : (quietSel (bodyOf Tryz.f110) && Nat.ble 1 Tryz.f110.ntmps) = true := by kernel_rfl

theorem C_conf_prefix {s1 : ByteArray} {w : World} {R : Ending → World → Prop} (h : T_conf_prefix s1 w R) : Calls Tryz.prog 110 #[.string s1] w R :=
  calls_of_text (args := [.string s1]) mixed Tryz.func110 T_conf_prefix_b T_conf_prefix_s (HOk_of _ _ (by rw [T_conf_prefix_hl]; exact trivial)) (by rw [T_conf_prefix_eq]; exact h)

/-! tollgate/conf.host -/
def T_conf_host (s1 : ByteArray) (w : World) (R : Ending → World → Prop) : Prop :=
  let w2 : World := w.alloc (.cells #[.bool false] 4)
  (.bool true : Value).cells.size = 1 ∧ wrOk w2 (⟨w.heap.size, 0, none⟩ : Addr) (.bool true) ∧ let w3 : World := wr w2 (⟨w.heap.size, 0, none⟩ : Addr) (.bool true)
  Calls Tryz.prog 201 #[.string s1, .int .i64 64, .func (.func 205) #[] #[.pointer (some (⟨w.heap.size, 0, none⟩ : Addr))]] w3 (ret (fun r4 w5 => ∃ b6 : Bool, r4 = .bool b6 ∧ if b6 = true then (∃ b7 : Bool, rd w5 (⟨w.heap.size, 0, none⟩ : Addr) (.bool b7) ∧ R (.returned (.bool (!b7))) w5) else (R (.returned (.bool false)) w5)) (pan R))

theorem T_conf_host_hl : allP (hokL Tryz.prog (hookAt []) (bodyOf Tryz.f109) 1) = (True) := by kernel_rfl

theorem T_conf_host_eq (s1 : ByteArray) (w : World) (R : Ending → World → Prop) : vcCode Tryz.prog (hookAt []) (bodyOf Tryz.f109) 1 ⟨argEnv [.string s1] 0, Tryz.f109.ntmps, []⟩ w (finQ Tryz.prog Tryz.f109.results.toList R) = T_conf_host s1 w R := by kernel_rfl

theorem T_conf_host_b : Tryz.f109.body = some (bodyOf Tryz.f109) := by kernel_rfl
theorem T_conf_host_s : (quietSel (bodyOf Tryz.f109) && Nat.ble 1 Tryz.f109.ntmps) = true := by kernel_rfl

theorem C_conf_host {s1 : ByteArray} {w : World} {R : Ending → World → Prop} (h : T_conf_host s1 w R) : Calls Tryz.prog 109 #[.string s1] w R :=
  calls_of_text (args := [.string s1]) mixed Tryz.func109 T_conf_host_b T_conf_host_s (HOk_of _ _ (by rw [T_conf_host_hl]; exact trivial)) (by rw [T_conf_host_eq]; exact h)

/-! math.Signbit -/
def T_math_Signbit (x1 : Nat) (w : World) (R : Ending → World → Prop) : Prop :=
  runV Tryz.prog (callFunc 209 #[.float .f64 x1]) w (nxv (fun r2 w3 => ∃ x4 : Int, r2 = .int .u64 x4 ∧ R (.returned (.bool (decide ((IntKind.wrap .i64 x4 : Int) < 0)))) w3)) (pan R)

theorem T_math_Signbit_hl : allP (hokL Tryz.prog (hookAt []) (bodyOf Tryz.f261) 1) = (True) := by kernel_rfl

theorem T_math_Signbit_eq (x1 : Nat) (w : World) (R : Ending → World → Prop) : vcCode Tryz.prog (hookAt []) (bodyOf Tryz.f261) 1 ⟨argEnv [.float .f64 x1] 0, Tryz.f261.ntmps, []⟩ w (finQ Tryz.prog Tryz.f261.results.toList R) = T_math_Signbit x1 w R := by kernel_rfl

theorem T_math_Signbit_b : Tryz.f261.body = some (bodyOf Tryz.f261) := by kernel_rfl
theorem T_math_Signbit_s : (quietSel (bodyOf Tryz.f261) && Nat.ble 1 Tryz.f261.ntmps) = true := by kernel_rfl

theorem C_math_Signbit {x1 : Nat} {w : World} {R : Ending → World → Prop} (h : T_math_Signbit x1 w R) : Calls Tryz.prog 261 #[.float .f64 x1] w R :=
  calls_of_text (args := [.float .f64 x1]) mixed Tryz.func261 T_math_Signbit_b T_math_Signbit_s (HOk_of _ _ (by rw [T_math_Signbit_hl]; exact trivial)) (by rw [T_math_Signbit_eq]; exact h)

/-! tollgate/conf.weight -/
def T_conf_weight (w1 : Nat) (w : World) (R : Ending → World → Prop) : Prop :=
  runV Tryz.prog (do eqGuard .geq 24 (.tmp 3) (.const (.float .f64 0)) (.float .f64 w1) (.float .f64 0); binOp .geq 24 (.float .f64 w1) (.float .f64 0)) w (fun r2 w3 => ∃ b4 : Bool, r2 = .bool b4 ∧ if b4 = true then (Calls Tryz.prog 173 #[.float .f64 w1, .int .i64 1] w3 (ret (fun r5 w6 => ∃ b7 : Bool, r5 = .bool b7 ∧ if (!b7) = true then (Calls Tryz.prog 261 #[.float .f64 w1] w6 (ret (fun r8 w9 => ∃ b10 : Bool, r8 = .bool b10 ∧ R (.returned (.bool (!b10))) w9) (pan R))) else (R (.returned (.bool false)) w6)) (pan R))) else (R (.returned (.bool false)) w3)) (pan R)

theorem T_conf_weight_hl : allP (hokL Tryz.prog (hookAt []) (bodyOf Tryz.f204) 1) = (True) := by kernel_rfl

theorem T_conf_weight_eq (w1 : Nat) (w : World) (R : Ending → World → Prop) : vcCode Tryz.prog (hookAt []) (bodyOf Tryz.f204) 1 ⟨argEnv [.float .f64 w1] 0, Tryz.f204.ntmps, []⟩ w (finQ Tryz.prog Tryz.f204.results.toList R) = T_conf_weight w1 w R := by kernel_rfl

theorem T_conf_weight_b : Tryz.f204.body = some (bodyOf Tryz.f204) := by kernel_rfl
theorem T_conf_weight_s : (quietSel (bodyOf Tryz.f204) && Nat.ble 1 Tryz.f204.ntmps) = true := by kernel_rfl

theorem C_conf_weight {w1 : Nat} {w : World} {R : Ending → World → Prop} (h : T_conf_weight w1 w R) : Calls Tryz.prog 204 #[.float .f64 w1] w R :=
  calls_of_text (args := [.float .f64 w1]) mixed Tryz.func204 T_conf_weight_b T_conf_weight_s (HOk_of _ _ (by rw [T_conf_weight_hl]; exact trivial)) (by rw [T_conf_weight_eq]; exact h)

/-! math.IsInf -/
def T_math_IsInf (f1 : Nat) (sign2 : Int) (w : World) (R : Ending → World → Prop) : Prop :=
  if ((sign2 : Int) == 0) = true then (Calls Tryz.prog 251 #[.float .f64 f1] w (ret (fun r3 w4 => ∃ f5 : Nat, r3 = .float .f64 f5 ∧ runV Tryz.prog (do eqGuard .gtr 24 (.tmp 13) (.const (.float .f64 9218868437227405311)) (.float .f64 f5) (.float .f64 9218868437227405311); binOp .gtr 24 (.float .f64 f5) (.float .f64 9218868437227405311)) w4 (fun r6 w7 => ∃ b8 : Bool, r6 = .bool b8 ∧ R (.returned (.bool b8)) w7) (pan R)) (pan R))) else (if (decide ((sign2 : Int) < 0)) = true then (runV Tryz.prog (do eqGuard .gtr 24 (.tmp 13) (.const (.float .f64 9218868437227405311)) (.float .f64 (Op.negFloat .f64 f1)) (.float .f64 9218868437227405311); binOp .gtr 24 (.float .f64 (Op.negFloat .f64 f1)) (.float .f64 9218868437227405311)) w (fun r9 w10 => ∃ b11 : Bool, r9 = .bool b11 ∧ R (.returned (.bool b11)) w10) (pan R)) else (runV Tryz.prog (do eqGuard .gtr 24 (.tmp 13) (.const (.float .f64 9218868437227405311)) (.float .f64 f1) (.float .f64 9218868437227405311); binOp .gtr 24 (.float .f64 f1) (.float .f64 9218868437227405311)) w (fun r12 w13 => ∃ b14 : Bool, r12 = .bool b14 ∧ R (.returned (.bool b14)) w13) (pan R)))

theorem T_math_IsInf_hl : allP (hokL Tryz.prog (hookAt []) (bodyOf Tryz.f173) 1) = (True) := by kernel_rfl

theorem T_math_IsInf_eq (f1 : Nat) (sign2 : Int) (w : World) (R : Ending → World → Prop) : vcCode Tryz.prog (hookAt []) (bodyOf Tryz.f173) 1 ⟨argEnv [.float .f64 f1, .int .i64 sign2] 0, Tryz.f173.ntmps, []⟩ w (finQ Tryz.prog Tryz.f173.results.toList R) = T_math_IsInf f1 sign2 w R := by kernel_rfl

theorem T_math_IsInf_b : Tryz.f173.body = some (bodyOf Tryz.f173) := by kernel_rfl
theorem T_math_IsInf_s : (quietSel (bodyOf Tryz.f173) && Nat.ble 2 Tryz.f173.ntmps) = true := by kernel_rfl

theorem C_math_IsInf {f1 : Nat} {sign2 : Int} {w : World} {R : Ending → World → Prop} (h : T_math_IsInf f1 sign2 w R) : Calls Tryz.prog 173 #[.float .f64 f1, .int .i64 sign2] w R :=
  calls_of_text (args := [.float .f64 f1, .int .i64 sign2]) mixed Tryz.func173 T_math_IsInf_b T_math_IsInf_s (HOk_of _ _ (by rw [T_math_IsInf_hl]; exact trivial)) (by rw [T_math_IsInf_eq]; exact h)

/-! tollgate/conf.targets -/
def T_conf_targets_1_body (X : Int → World → Prop) (x2 : Int) (s3a : Option Addr) (s3l : Nat) (s3c : Nat) (x4 : Int) (w : World) (Kn : World → Prop) (Kr : Int → World → Prop) (Kp : List PanicEntry → World → Prop)  : Prop :=
  if (decide ((x2 : Int) < x4)) = true then (0 ≤ (x2 : Int) ∧ (x2 : Int) < ((s3l : Nat) : Int) ∧ ∃ b5, s3a = some b5 ∧ ∃ s6 : ByteArray, ∃ f7 : Nat, rd w (b5.add ((x2 : Int).toNat * 2)) (.agg #[.string s6, .float .f64 f7]) ∧ let w8 : World := w.alloc (.cells #[.string (ByteArray.mk #[]), .float .f64 0] 143)
  (.agg #[.string s6, .float .f64 f7] : Value).cells.size = 2 ∧ wrOk w8 (⟨w.heap.size, 0, none⟩ : Addr) (.agg #[.string s6, .float .f64 f7]) ∧ let w9 : World := wr w8 (⟨w.heap.size, 0, none⟩ : Addr) (.agg #[.string s6, .float .f64 f7])
  ∃ s10 : ByteArray, rd w9 (⟨w.heap.size, 0, none⟩ : Addr) (.string s10) ∧ Calls Tryz.prog 203 #[.string s10] w9 (ret (fun r11 w12 => ∃ b13 : Bool, r11 = .bool b13 ∧ if (!b13) = true then (Kr 14 w12) else (X (IntKind.wrap .i64 ((x2 : Int) + 1)) w12)) Kp)) else (Kn  w)

def T_conf_targets_1 (x2 : Int) (s3a : Option Addr) (s3l : Nat) (s3c : Nat) (x4 : Int) (w : World) (Kn : World → Prop) (Kr : Int → World → Prop) (Kp : List PanicEntry → World → Prop) : Prop :=
  ∀ X : Int → World → Prop, (∀ (x2 : Int) (w : World), T_conf_targets_1_body X x2 s3a s3l s3c x4 w Kn Kr Kp → X x2 w) → X x2 w

def T_conf_targets_1_outs : Exit → Option (List (Nat × Value)) := fun x => match x with | .normal => some [] | .ret => some [(2, .int .i64 0)] | .panic _ => some [] | _ => none

def T_conf_targets_1_ks : Nat → Bool := ksOf [2, 4, 9, 10, 11, 12, 13, 14, 15, 16, 17]

def H_conf_targets_1 : Env → World → QT → Prop := unitHook 32 T_conf_targets_1_ks [(9, .int .i64 0), (7, .slice none 0 0), (8, .int .i64 0)] T_conf_targets_1_outs fun l w C => match l with | [v0, v1, v2] => T_conf_targets_1 (pInt v0) (pA v1) (pL v1) (pC v1) (pInt v2) w (fun w => C .normal [] w) (fun x15 w => C .ret [.int .i64 x15] w) (fun ch w => C (.panic ch) [] w) | _ => False

theorem T_conf_targets_1_hl : allP (hokL Tryz.prog (hookAt []) (at_ (bodyOf Tryz.f108) [1, 0, 1, 0, 0]) 52) = (True) := by kernel_rfl
theorem T_conf_targets_1_hok : HOk Tryz.prog (hookAt []) (at_ (bodyOf Tryz.f108) [1, 0, 1, 0, 0]) 52 := HOk_of _ _ (by rw [T_conf_targets_1_hl]; exact trivial)

theorem T_conf_targets_1_eq (C : Conts) (X : List Value → World → Prop) (x2 : Int) (s3a : Option Addr) (s3l : Nat) (s3c : Nat) (x4 : Int) (w : World) : vcCode Tryz.prog (hookAt []) (at_ (bodyOf Tryz.f108) [1, 0, 1, 0, 0]) 52 ⟨[(9, .int .i64 x2)] ++ [(7, .slice s3a s3l s3c), (8, .int .i64 x4)], 32, []⟩ w (seqQ (fun e w => takeAll e [(9, .int .i64 0)] fun l => X l w) (blockQ 0 (unitQ T_conf_targets_1_outs C))) = T_conf_targets_1_body (fun x2 w => X [.int .i64 x2] w) x2 s3a s3l s3c x4 w (fun w => C .normal [] w) (fun x16 w => C .ret [.int .i64 x16] w) (fun ch w => C (.panic ch) [] w) := by kernel_rfl

theorem T_conf_targets_1_ok : UnitOk Tryz.prog H_conf_targets_1 (at_ (bodyOf Tryz.f108) [1, 0, 1]) 13 := by
  have hc : at_ (bodyOf Tryz.f108) [1, 0, 1] = .block 0 (.loop (at_ (bodyOf Tryz.f108) [1, 0, 1, 0, 0])) := by kernel_rfl
  rw [hc]
  refine loop_unit_ok (carr := [(9, .int .i64 0)]) (fix := [(7, .slice none 0 0), (8, .int .i64 0)]) (ks := T_conf_targets_1_ks) (H := (hookAt [])) (B := fun C X l u w => match l, u with | [v0], [v1, v2] => T_conf_targets_1_body (fun x2 w => X [.int .i64 x2] w) (pInt v0) (pA v1) (pL v1) (pC v1) (pInt v2) w (fun w => C .normal [] w) (fun x17 w => C .ret [.int .i64 x17] w) (fun ch w => C (.panic ch) [] w) | _, _ => False) (by kernel_rfl) (by kernel_rfl) T_conf_targets_1_hok ?_ ?_
  · intro C X l u w hl hu
    obtain ⟨v0, l_v0, rfl, k_v0, hl_v0⟩ := Kinds.cons_ hl
    obtain ⟨x2, rfl⟩ := kind_int k_v0
    obtain rfl := Kinds.nil_ hl_v0
    obtain ⟨v1, l_v1, rfl, k_v1, hu_v1⟩ := Kinds.cons_ hu
    obtain ⟨s3a, s3l, s3c, rfl⟩ := kind_slice k_v1
    obtain ⟨v2, l_v2, rfl, k_v2, hu_v2⟩ := Kinds.cons_ hu_v1
    obtain ⟨x4, rfl⟩ := kind_int k_v2
    obtain rfl := Kinds.nil_ hu_v2
    exact T_conf_targets_1_eq C X x2 s3a s3l s3c x4 w
  · intro l u w C hl hu
    obtain ⟨v0, l_v0, rfl, k_v0, hl_v0⟩ := Kinds.cons_ hl
    obtain ⟨x2, rfl⟩ := kind_int k_v0
    obtain rfl := Kinds.nil_ hl_v0
    obtain ⟨v1, l_v1, rfl, k_v1, hu_v1⟩ := Kinds.cons_ hu
    obtain ⟨s3a, s3l, s3c, rfl⟩ := kind_slice k_v1
    obtain ⟨v2, l_v2, rfl, k_v2, hu_v2⟩ := Kinds.cons_ hu_v1
    obtain ⟨x4, rfl⟩ := kind_int k_v2
    obtain rfl := Kinds.nil_ hu_v2
    constructor
    · intro h X hX
      exact h (fun x2 w => X [.int .i64 x2] w) (fun x2 w hb => hX [.int .i64 x2] w ⟨rfl, trivial⟩ hb)
    · intro h X hX
      exact h (fun l w => match l with | [v0] => X (pInt v0) w | _ => True) (fun l w hl hb => by
        obtain ⟨v0, l_v0, rfl, k_v0, hl_v0⟩ := Kinds.cons_ hl
        obtain ⟨x2, rfl⟩ := kind_int k_v0
        obtain rfl := Kinds.nil_ hl_v0
        exact hX x2 w hb)

def T_conf_targets_2_body (X : Int → World → Prop) (x19 : Int) (s20a : Option Addr) (s20l : Nat) (s20c : Nat) (x21 : Int) (w : World) (Kn : World → Prop) (Kr : Int → World → Prop) (Kp : List PanicEntry → World → Prop)  : Prop :=
  if (decide ((x19 : Int) < x21)) = true then (0 ≤ (x19 : Int) ∧ (x19 : Int) < ((s20l : Nat) : Int) ∧ ∃ b22, s20a = some b22 ∧ ∃ s23 : ByteArray, ∃ f24 : Nat, rd w (b22.add ((x19 : Int).toNat * 2)) (.agg #[.string s23, .float .f64 f24]) ∧ let w25 : World := w.alloc (.cells #[.string (ByteArray.mk #[]), .float .f64 0] 143)
  (.agg #[.string s23, .float .f64 f24] : Value).cells.size = 2 ∧ wrOk w25 (⟨w.heap.size, 0, none⟩ : Addr) (.agg #[.string s23, .float .f64 f24]) ∧ let w26 : World := wr w25 (⟨w.heap.size, 0, none⟩ : Addr) (.agg #[.string s23, .float .f64 f24])
  ∃ f27 : Nat, rd w26 ((⟨w.heap.size, 0, none⟩ : Addr).add 1) (.float .f64 f27) ∧ Calls Tryz.prog 204 #[.float .f64 f27] w26 (ret (fun r28 w29 => ∃ b30 : Bool, r28 = .bool b30 ∧ if (!b30) = true then (Kr 15 w29) else (X (IntKind.wrap .i64 ((x19 : Int) + 1)) w29)) Kp)) else (Kn  w)

def T_conf_targets_2 (x19 : Int) (s20a : Option Addr) (s20l : Nat) (s20c : Nat) (x21 : Int) (w : World) (Kn : World → Prop) (Kr : Int → World → Prop) (Kp : List PanicEntry → World → Prop) : Prop :=
  ∀ X : Int → World → Prop, (∀ (x19 : Int) (w : World), T_conf_targets_2_body X x19 s20a s20l s20c x21 w Kn Kr Kp → X x19 w) → X x19 w

def T_conf_targets_2_outs : Exit → Option (List (Nat × Value)) := fun x => match x with | .normal => some [] | .ret => some [(2, .int .i64 0)] | .panic _ => some [] | _ => none

def T_conf_targets_2_ks : Nat → Bool := ksOf [2, 6, 20, 21, 22, 23, 24, 25, 26, 27, 28]

def H_conf_targets_2 : Env → World → QT → Prop := unitHook 32 T_conf_targets_2_ks [(20, .int .i64 0), (18, .slice none 0 0), (19, .int .i64 0)] T_conf_targets_2_outs fun l w C => match l with | [v0, v1, v2] => T_conf_targets_2 (pInt v0) (pA v1) (pL v1) (pC v1) (pInt v2) w (fun w => C .normal [] w) (fun x32 w => C .ret [.int .i64 x32] w) (fun ch w => C (.panic ch) [] w) | _ => False

theorem T_conf_targets_2_hl : allP (hokL Tryz.prog (hookAt []) (at_ (bodyOf Tryz.f108) [1, 1, 0, 1, 0, 0]) 116) = (True) := by kernel_rfl
theorem T_conf_targets_2_hok : HOk Tryz.prog (hookAt []) (at_ (bodyOf Tryz.f108) [1, 1, 0, 1, 0, 0]) 116 := HOk_of _ _ (by rw [T_conf_targets_2_hl]; exact trivial)

theorem T_conf_targets_2_eq (C : Conts) (X : List Value → World → Prop) (x19 : Int) (s20a : Option Addr) (s20l : Nat) (s20c : Nat) (x21 : Int) (w : World) : vcCode Tryz.prog (hookAt []) (at_ (bodyOf Tryz.f108) [1, 1, 0, 1, 0, 0]) 116 ⟨[(20, .int .i64 x19)] ++ [(18, .slice s20a s20l s20c), (19, .int .i64 x21)], 32, []⟩ w (seqQ (fun e w => takeAll e [(20, .int .i64 0)] fun l => X l w) (blockQ 2 (unitQ T_conf_targets_2_outs C))) = T_conf_targets_2_body (fun x19 w => X [.int .i64 x19] w) x19 s20a s20l s20c x21 w (fun w => C .normal [] w) (fun x33 w => C .ret [.int .i64 x33] w) (fun ch w => C (.panic ch) [] w) := by kernel_rfl

theorem T_conf_targets_2_ok : UnitOk Tryz.prog H_conf_targets_2 (at_ (bodyOf Tryz.f108) [1, 1, 0, 1]) 29 := by
  have hc : at_ (bodyOf Tryz.f108) [1, 1, 0, 1] = .block 2 (.loop (at_ (bodyOf Tryz.f108) [1, 1, 0, 1, 0, 0])) := by kernel_rfl
  rw [hc]
  refine loop_unit_ok (carr := [(20, .int .i64 0)]) (fix := [(18, .slice none 0 0), (19, .int .i64 0)]) (ks := T_conf_targets_2_ks) (H := (hookAt [])) (B := fun C X l u w => match l, u with | [v0], [v1, v2] => T_conf_targets_2_body (fun x19 w => X [.int .i64 x19] w) (pInt v0) (pA v1) (pL v1) (pC v1) (pInt v2) w (fun w => C .normal [] w) (fun x34 w => C .ret [.int .i64 x34] w) (fun ch w => C (.panic ch) [] w) | _, _ => False) (by kernel_rfl) (by kernel_rfl) T_conf_targets_2_hok ?_ ?_
  · intro C X l u w hl hu
    obtain ⟨v0, l_v0, rfl, k_v0, hl_v0⟩ := Kinds.cons_ hl
    obtain ⟨x19, rfl⟩ := kind_int k_v0
    obtain rfl := Kinds.nil_ hl_v0
    obtain ⟨v1, l_v1, rfl, k_v1, hu_v1⟩ := Kinds.cons_ hu
    obtain ⟨s20a, s20l, s20c, rfl⟩ := kind_slice k_v1
    obtain ⟨v2, l_v2, rfl, k_v2, hu_v2⟩ := Kinds.cons_ hu_v1
    obtain ⟨x21, rfl⟩ := kind_int k_v2
    obtain rfl := Kinds.nil_ hu_v2
    exact T_conf_targets_2_eq C X x19 s20a s20l s20c x21 w
  · intro l u w C hl hu
    obtain ⟨v0, l_v0, rfl, k_v0, hl_v0⟩ := Kinds.cons_ hl
    obtain ⟨x19, rfl⟩ := kind_int k_v0
    obtain rfl := Kinds.nil_ hl_v0
    obtain ⟨v1, l_v1, rfl, k_v1, hu_v1⟩ := Kinds.cons_ hu
    obtain ⟨s20a, s20l, s20c, rfl⟩ := kind_slice k_v1
    obtain ⟨v2, l_v2, rfl, k_v2, hu_v2⟩ := Kinds.cons_ hu_v1
    obtain ⟨x21, rfl⟩ := kind_int k_v2
    obtain rfl := Kinds.nil_ hu_v2
    constructor
    · intro h X hX
      exact h (fun x19 w => X [.int .i64 x19] w) (fun x19 w hb => hX [.int .i64 x19] w ⟨rfl, trivial⟩ hb)
    · intro h X hX
      exact h (fun l w => match l with | [v0] => X (pInt v0) w | _ => True) (fun l w hl hb => by
        obtain ⟨v0, l_v0, rfl, k_v0, hl_v0⟩ := Kinds.cons_ hl
        obtain ⟨x19, rfl⟩ := kind_int k_v0
        obtain rfl := Kinds.nil_ hl_v0
        exact hX x19 w hb)

def T_conf_targets (l1a : Option Addr) (l1l : Nat) (l1c : Nat) (w : World) (R : Ending → World → Prop) : Prop :=
  T_conf_targets_1 0 l1a l1l l1c ((l1l : Nat) : Int) w (fun w18 => T_conf_targets_2 0 l1a l1l l1c ((l1l : Nat) : Int) w18 (fun w35 => if (decide (((l1l : Nat) : Int) > 16)) = true then (R (.returned (.int .i64 6)) w35) else (R (.returned (.int .i64 0)) w35)) (fun x36 w37 => R (.returned (.int .i64 x36)) w37) (pan R)) (fun x38 w39 => R (.returned (.int .i64 x38)) w39) (pan R)

theorem T_conf_targets_hl : allP (hokL Tryz.prog (hookAt [(13, H_conf_targets_1), (29, H_conf_targets_2)]) (bodyOf Tryz.f108) 1) = (UnitOk Tryz.prog H_conf_targets_1 (at_ (bodyOf Tryz.f108) [1, 0, 1]) 13 ∧ UnitOk Tryz.prog H_conf_targets_2 (at_ (bodyOf Tryz.f108) [1, 1, 0, 1]) 29 ∧ True) := by kernel_rfl

theorem T_conf_targets_eq (l1a : Option Addr) (l1l : Nat) (l1c : Nat) (w : World) (R : Ending → World → Prop) : vcCode Tryz.prog (hookAt [(13, H_conf_targets_1), (29, H_conf_targets_2)]) (bodyOf Tryz.f108) 1 ⟨argEnv [.slice l1a l1l l1c] 0, Tryz.f108.ntmps, []⟩ w (finQ Tryz.prog Tryz.f108.results.toList R) = T_conf_targets l1a l1l l1c w R := by kernel_rfl

theorem T_conf_targets_b : Tryz.f108.body = some (bodyOf Tryz.f108) := by kernel_rfl
theorem T_conf_targets_s : (quietSel (bodyOf Tryz.f108) && Nat.ble 1 Tryz.f108.ntmps) = true := by kernel_rfl

theorem C_conf_targets {l1a : Option Addr} {l1l : Nat} {l1c : Nat} {w : World} {R : Ending → World → Prop} (h : T_conf_targets l1a l1l l1c w R) : Calls Tryz.prog 108 #[.slice l1a l1l l1c] w R :=
  calls_of_text (args := [.slice l1a l1l l1c]) mixed Tryz.func108 T_conf_targets_b T_conf_targets_s (HOk_of _ _ (by rw [T_conf_targets_hl]; exact ⟨T_conf_targets_1_ok, T_conf_targets_2_ok, trivial⟩)) (by rw [T_conf_targets_eq]; exact h)

/-! tollgate/conf.Check -/
def T_conf_Check_1 (c10 : Addr) (w : World) (Kn : Bool → World → Prop) (Kp : List PanicEntry → World → Prop) : Prop :=
  ∃ x11 : Int, rd w c10 (.int .i64 x11) ∧ if ((x11 : Int) == 1) = true then (Kn true w) else (∃ x12 : Int, rd w c10 (.int .i64 x12) ∧ if ((x12 : Int) == 2) = true then (Kn true w) else (∃ x13 : Int, rd w c10 (.int .i64 x13) ∧ Kn ((x13 : Int) == 3) w))

def T_conf_Check_1_outs : Exit → Option (List (Nat × Value)) := fun x => match x with | .normal => some [(3, .bool false)] | .panic _ => some [] | _ => none

def T_conf_Check_1_ks : Nat → Bool := ksOf [3, 6, 7, 8, 9, 10, 11, 12, 13, 14, 15, 16, 17, 18]

def H_conf_Check_1 : Env → World → QT → Prop := unitHook 118 T_conf_Check_1_ks [(1, .pointer (some ⟨0, 0, none⟩))] T_conf_Check_1_outs fun l w C => match l with | [v0] => T_conf_Check_1 (pAddr v0) w (fun pool15 w => C .normal [.bool pool15] w) (fun ch w => C (.panic ch) [] w) | _ => False

theorem T_conf_Check_1_hl : allP (hokL Tryz.prog (hookAt []) (at_ (bodyOf Tryz.f50) [1, 0]) 6) = (True) := by kernel_rfl
theorem T_conf_Check_1_hok : HOk Tryz.prog (hookAt []) (at_ (bodyOf Tryz.f50) [1, 0]) 6 := HOk_of _ _ (by rw [T_conf_Check_1_hl]; exact trivial)

theorem T_conf_Check_1_eq (C : Conts) (c10 : Addr) (w : World) : vcCode Tryz.prog (hookAt []) (at_ (bodyOf Tryz.f50) [1, 0]) 6 ⟨[(1, .pointer (some c10))], 118, []⟩ w (unitQ T_conf_Check_1_outs C) = T_conf_Check_1 c10 w (fun pool16 w => C .normal [.bool pool16] w) (fun ch w => C (.panic ch) [] w) := by kernel_rfl

theorem T_conf_Check_1_ok : UnitOk Tryz.prog H_conf_Check_1 (at_ (bodyOf Tryz.f50) [1, 0]) 6 := unit_ok (H := (hookAt [])) (by kernel_rfl) T_conf_Check_1_hok fun l w C hk => by
    obtain ⟨v0, l_v0, rfl, k_v0, hk_v0⟩ := Kinds.cons_ hk
    obtain ⟨c10, rfl⟩ := kind_addr k_v0
    obtain rfl := Kinds.nil_ hk_v0
    exact T_conf_Check_1_eq C c10 w

def T_conf_Check_2 (c19 : Addr) (w : World) (Kn : Bool → World → Prop) (Kp : List PanicEntry → World → Prop) : Prop :=
  ∃ x20 : Int, rd w c19 (.int .i64 x20) ∧ if ((x20 : Int) == 3) = true then (Kn true w) else (∃ x21 : Int, rd w c19 (.int .i64 x21) ∧ Kn ((x21 : Int) == 4) w)

def T_conf_Check_2_outs : Exit → Option (List (Nat × Value)) := fun x => match x with | .normal => some [(4, .bool false)] | .panic _ => some [] | _ => none

def T_conf_Check_2_ks : Nat → Bool := ksOf [4, 19, 20, 21, 22, 23, 24, 25, 26]

def H_conf_Check_2 : Env → World → QT → Prop := unitHook 118 T_conf_Check_2_ks [(1, .pointer (some ⟨0, 0, none⟩))] T_conf_Check_2_outs fun l w C => match l with | [v0] => T_conf_Check_2 (pAddr v0) w (fun route23 w => C .normal [.bool route23] w) (fun ch w => C (.panic ch) [] w) | _ => False

theorem T_conf_Check_2_hl : allP (hokL Tryz.prog (hookAt []) (at_ (bodyOf Tryz.f50) [1, 1, 0]) 14) = (True) := by kernel_rfl
theorem T_conf_Check_2_hok : HOk Tryz.prog (hookAt []) (at_ (bodyOf Tryz.f50) [1, 1, 0]) 14 := HOk_of _ _ (by rw [T_conf_Check_2_hl]; exact trivial)

theorem T_conf_Check_2_eq (C : Conts) (c19 : Addr) (w : World) : vcCode Tryz.prog (hookAt []) (at_ (bodyOf Tryz.f50) [1, 1, 0]) 14 ⟨[(1, .pointer (some c19))], 118, []⟩ w (unitQ T_conf_Check_2_outs C) = T_conf_Check_2 c19 w (fun route24 w => C .normal [.bool route24] w) (fun ch w => C (.panic ch) [] w) := by kernel_rfl

theorem T_conf_Check_2_ok : UnitOk Tryz.prog H_conf_Check_2 (at_ (bodyOf Tryz.f50) [1, 1, 0]) 14 := unit_ok (H := (hookAt [])) (by kernel_rfl) T_conf_Check_2_hok fun l w C hk => by
    obtain ⟨v0, l_v0, rfl, k_v0, hk_v0⟩ := Kinds.cons_ hk
    obtain ⟨c19, rfl⟩ := kind_addr k_v0
    obtain rfl := Kinds.nil_ hk_v0
    exact T_conf_Check_2_eq C c19 w

def T_conf_Check_3 (c29 : Addr) (seq30 : Bool) (b31 : Bool) (w : World) (Kn : Bool → World → Prop) (Kp : List PanicEntry → World → Prop) : Prop :=
  if b31 = true then (∃ x32 : Int, rd w (c29.add 2) (.int .i64 x32) ∧ if (decide ((x32 : Int) ≥ 1)) = true then (∃ x33 : Int, rd w (c29.add 2) (.int .i64 x33) ∧ Kn (decide ((x33 : Int) ≤ 1099511627776)) w) else (Kn false w)) else (Kn seq30 w)

def T_conf_Check_3_outs : Exit → Option (List (Nat × Value)) := fun x => match x with | .normal => some [(5, .bool false)] | .panic _ => some [] | _ => none

def T_conf_Check_3_ks : Nat → Bool := ksOf [5, 33, 34, 35, 36, 37, 38, 39, 40]

def H_conf_Check_3 : Env → World → QT → Prop := unitHook 118 T_conf_Check_3_ks [(1, .pointer (some ⟨0, 0, none⟩)), (5, .bool false), (32, .bool false)] T_conf_Check_3_outs fun l w C => match l with | [v0, v1, v2] => T_conf_Check_3 (pAddr v0) (pBool v1) (pBool v2) w (fun seq35 w => C .normal [.bool seq35] w) (fun ch w => C (.panic ch) [] w) | _ => False

theorem T_conf_Check_3_hl : allP (hokL Tryz.prog (hookAt []) (at_ (bodyOf Tryz.f50) [1, 1, 1, 1, 0, 1]) 125) = (True) := by kernel_rfl
theorem T_conf_Check_3_hok : HOk Tryz.prog (hookAt []) (at_ (bodyOf Tryz.f50) [1, 1, 1, 1, 0, 1]) 125 := HOk_of _ _ (by rw [T_conf_Check_3_hl]; exact trivial)

theorem T_conf_Check_3_eq (C : Conts) (c29 : Addr) (seq30 : Bool) (b31 : Bool) (w : World) : vcCode Tryz.prog (hookAt []) (at_ (bodyOf Tryz.f50) [1, 1, 1, 1, 0, 1]) 125 ⟨[(1, .pointer (some c29)), (5, .bool seq30), (32, .bool b31)], 118, []⟩ w (unitQ T_conf_Check_3_outs C) = T_conf_Check_3 c29 seq30 b31 w (fun seq36 w => C .normal [.bool seq36] w) (fun ch w => C (.panic ch) [] w) := by kernel_rfl

theorem T_conf_Check_3_ok : UnitOk Tryz.prog H_conf_Check_3 (at_ (bodyOf Tryz.f50) [1, 1, 1, 1, 0, 1]) 125 := unit_ok (H := (hookAt [])) (by kernel_rfl) T_conf_Check_3_hok fun l w C hk => by
    obtain ⟨v0, l_v0, rfl, k_v0, hk_v0⟩ := Kinds.cons_ hk
    obtain ⟨c29, rfl⟩ := kind_addr k_v0
    obtain ⟨v1, l_v1, rfl, k_v1, hk_v1⟩ := Kinds.cons_ hk_v0
    obtain ⟨seq30, rfl⟩ := kind_bool k_v1
    obtain ⟨v2, l_v2, rfl, k_v2, hk_v2⟩ := Kinds.cons_ hk_v1
    obtain ⟨b31, rfl⟩ := kind_bool k_v2
    obtain rfl := Kinds.nil_ hk_v2
    exact T_conf_Check_3_eq C c29 seq30 b31 w

def T_conf_Check_4 (pool39 : Bool) (route40 : Bool) (w : World) (Kn : Bool → World → Prop) (Kp : List PanicEntry → World → Prop) : Prop :=
  if (!pool39) = true then (Kn (!route40) w) else (Kn false w)

def T_conf_Check_4_outs : Exit → Option (List (Nat × Value)) := fun x => match x with | .normal => some [(41, .bool false)] | .panic _ => some [] | _ => none

def T_conf_Check_4_ks : Nat → Bool := ksOf [41, 42, 43, 44, 45, 46, 47]

def H_conf_Check_4 : Env → World → QT → Prop := unitHook 118 T_conf_Check_4_ks [(3, .bool false), (4, .bool false)] T_conf_Check_4_outs fun l w C => match l with | [v0, v1] => T_conf_Check_4 (pBool v0) (pBool v1) w (fun b42 w => C .normal [.bool b42] w) (fun ch w => C (.panic ch) [] w) | _ => False

theorem T_conf_Check_4_hl : allP (hokL Tryz.prog (hookAt []) (at_ (bodyOf Tryz.f50) [1, 1, 1, 1, 1, 0, 0, 0, 0]) 1008) = (True) := by kernel_rfl
theorem T_conf_Check_4_hok : HOk Tryz.prog (hookAt []) (at_ (bodyOf Tryz.f50) [1, 1, 1, 1, 1, 0, 0, 0, 0]) 1008 := HOk_of _ _ (by rw [T_conf_Check_4_hl]; exact trivial)

theorem T_conf_Check_4_eq (C : Conts) (pool39 : Bool) (route40 : Bool) (w : World) : vcCode Tryz.prog (hookAt []) (at_ (bodyOf Tryz.f50) [1, 1, 1, 1, 1, 0, 0, 0, 0]) 1008 ⟨[(3, .bool pool39), (4, .bool route40)], 118, []⟩ w (unitQ T_conf_Check_4_outs C) = T_conf_Check_4 pool39 route40 w (fun b43 w => C .normal [.bool b43] w) (fun ch w => C (.panic ch) [] w) := by kernel_rfl

theorem T_conf_Check_4_ok : UnitOk Tryz.prog H_conf_Check_4 (at_ (bodyOf Tryz.f50) [1, 1, 1, 1, 1, 0, 0, 0, 0]) 1008 := unit_ok (H := (hookAt [])) (by kernel_rfl) T_conf_Check_4_hok fun l w C hk => by
    obtain ⟨v0, l_v0, rfl, k_v0, hk_v0⟩ := Kinds.cons_ hk
    obtain ⟨pool39, rfl⟩ := kind_bool k_v0
    obtain ⟨v1, l_v1, rfl, k_v1, hk_v1⟩ := Kinds.cons_ hk_v0
    obtain ⟨route40, rfl⟩ := kind_bool k_v1
    obtain rfl := Kinds.nil_ hk_v1
    exact T_conf_Check_4_eq C pool39 route40 w

def T_conf_Check_6 (c51 : Addr) (w : World) (Kn : Bool → World → Prop) (Kp : List PanicEntry → World → Prop) : Prop :=
  ∃ x52 : Int, rd w (c51.add 1) (.int .i64 x52) ∧ if (decide ((x52 : Int) < 0)) = true then (Kn true w) else (∃ x53 : Int, rd w (c51.add 1) (.int .i64 x53) ∧ Kn (decide ((x53 : Int) > 32)) w)

def T_conf_Check_6_outs : Exit → Option (List (Nat × Value)) := fun x => match x with | .normal => some [(41, .bool false)] | .panic _ => some [] | _ => none

def T_conf_Check_6_ks : Nat → Bool := ksOf [41, 48, 49, 50, 51, 52, 53, 54, 55]

def H_conf_Check_6 : Env → World → QT → Prop := unitHook 118 T_conf_Check_6_ks [(1, .pointer (some ⟨0, 0, none⟩))] T_conf_Check_6_outs fun l w C => match l with | [v0] => T_conf_Check_6 (pAddr v0) w (fun b55 w => C .normal [.bool b55] w) (fun ch w => C (.panic ch) [] w) | _ => False

theorem T_conf_Check_6_hl : allP (hokL Tryz.prog (hookAt []) (at_ (bodyOf Tryz.f50) [1, 1, 1, 1, 1, 0, 0, 0, 1, 1, 0]) 4038) = (True) := by kernel_rfl
theorem T_conf_Check_6_hok : HOk Tryz.prog (hookAt []) (at_ (bodyOf Tryz.f50) [1, 1, 1, 1, 1, 0, 0, 0, 1, 1, 0]) 4038 := HOk_of _ _ (by rw [T_conf_Check_6_hl]; exact trivial)

theorem T_conf_Check_6_eq (C : Conts) (c51 : Addr) (w : World) : vcCode Tryz.prog (hookAt []) (at_ (bodyOf Tryz.f50) [1, 1, 1, 1, 1, 0, 0, 0, 1, 1, 0]) 4038 ⟨[(1, .pointer (some c51))], 118, []⟩ w (unitQ T_conf_Check_6_outs C) = T_conf_Check_6 c51 w (fun b56 w => C .normal [.bool b56] w) (fun ch w => C (.panic ch) [] w) := by kernel_rfl

theorem T_conf_Check_6_ok : UnitOk Tryz.prog H_conf_Check_6 (at_ (bodyOf Tryz.f50) [1, 1, 1, 1, 1, 0, 0, 0, 1, 1, 0]) 4038 := unit_ok (H := (hookAt [])) (by kernel_rfl) T_conf_Check_6_hok fun l w C hk => by
    obtain ⟨v0, l_v0, rfl, k_v0, hk_v0⟩ := Kinds.cons_ hk
    obtain ⟨c51, rfl⟩ := kind_addr k_v0
    obtain rfl := Kinds.nil_ hk_v0
    exact T_conf_Check_6_eq C c51 w

def T_conf_Check_7 (c59 : Addr) (w : World) (Kn : Bool → World → Prop) (Kp : List PanicEntry → World → Prop) : Prop :=
  ∃ x60 : Int, rd w (c59.add 3) (.int .i64 x60) ∧ if (decide ((x60 : Int) < (-1))) = true then (Kn true w) else (∃ x61 : Int, rd w (c59.add 3) (.int .i64 x61) ∧ Kn (decide ((x61 : Int) ≥ 1099511627776)) w)

def T_conf_Check_7_outs : Exit → Option (List (Nat × Value)) := fun x => match x with | .normal => some [(41, .bool false)] | .panic _ => some [] | _ => none

def T_conf_Check_7_ks : Nat → Bool := ksOf [41, 58, 59, 60, 61, 62, 63, 64, 65]

def H_conf_Check_7 : Env → World → QT → Prop := unitHook 118 T_conf_Check_7_ks [(1, .pointer (some ⟨0, 0, none⟩))] T_conf_Check_7_outs fun l w C => match l with | [v0] => T_conf_Check_7 (pAddr v0) w (fun b63 w => C .normal [.bool b63] w) (fun ch w => C (.panic ch) [] w) | _ => False

theorem T_conf_Check_7_hl : allP (hokL Tryz.prog (hookAt []) (at_ (bodyOf Tryz.f50) [1, 1, 1, 1, 1, 0, 0, 0, 1, 1, 1, 1, 1, 1, 0]) 64638) = (True) := by kernel_rfl
theorem T_conf_Check_7_hok : HOk Tryz.prog (hookAt []) (at_ (bodyOf Tryz.f50) [1, 1, 1, 1, 1, 0, 0, 0, 1, 1, 1, 1, 1, 1, 0]) 64638 := HOk_of _ _ (by rw [T_conf_Check_7_hl]; exact trivial)

theorem T_conf_Check_7_eq (C : Conts) (c59 : Addr) (w : World) : vcCode Tryz.prog (hookAt []) (at_ (bodyOf Tryz.f50) [1, 1, 1, 1, 1, 0, 0, 0, 1, 1, 1, 1, 1, 1, 0]) 64638 ⟨[(1, .pointer (some c59))], 118, []⟩ w (unitQ T_conf_Check_7_outs C) = T_conf_Check_7 c59 w (fun b64 w => C .normal [.bool b64] w) (fun ch w => C (.panic ch) [] w) := by kernel_rfl

theorem T_conf_Check_7_ok : UnitOk Tryz.prog H_conf_Check_7 (at_ (bodyOf Tryz.f50) [1, 1, 1, 1, 1, 0, 0, 0, 1, 1, 1, 1, 1, 1, 0]) 64638 := unit_ok (H := (hookAt [])) (by kernel_rfl) T_conf_Check_7_hok fun l w C hk => by
    obtain ⟨v0, l_v0, rfl, k_v0, hk_v0⟩ := Kinds.cons_ hk
    obtain ⟨c59, rfl⟩ := kind_addr k_v0
    obtain rfl := Kinds.nil_ hk_v0
    exact T_conf_Check_7_eq C c59 w

def T_conf_Check_8 (c67 : Addr) (pool68 : Bool) (w : World) (Kn : Bool → World → Prop) (Kp : List PanicEntry → World → Prop) : Prop :=
  if (!pool68) = true then (∃ s69 : ByteArray, rd w (c67.add 6) (.string s69) ∧ Kn (!(s69.toList == (ByteArray.mk #[]).toList)) w) else (Kn false w)

def T_conf_Check_8_outs : Exit → Option (List (Nat × Value)) := fun x => match x with | .normal => some [(41, .bool false)] | .panic _ => some [] | _ => none

def T_conf_Check_8_ks : Nat → Bool := ksOf [41, 66, 67, 68, 69, 70, 71, 72]

def H_conf_Check_8 : Env → World → QT → Prop := unitHook 118 T_conf_Check_8_ks [(1, .pointer (some ⟨0, 0, none⟩)), (3, .bool false)] T_conf_Check_8_outs fun l w C => match l with | [v0, v1] => T_conf_Check_8 (pAddr v0) (pBool v1) w (fun b71 w => C .normal [.bool b71] w) (fun ch w => C (.panic ch) [] w) | _ => False

theorem T_conf_Check_8_hl : allP (hokL Tryz.prog (hookAt []) (at_ (bodyOf Tryz.f50) [1, 1, 1, 1, 1, 0, 0, 0, 1, 1, 1, 1, 1, 1, 1, 1, 0]) 258558) = (True) := by kernel_rfl
theorem T_conf_Check_8_hok : HOk Tryz.prog (hookAt []) (at_ (bodyOf Tryz.f50) [1, 1, 1, 1, 1, 0, 0, 0, 1, 1, 1, 1, 1, 1, 1, 1, 0]) 258558 := HOk_of _ _ (by rw [T_conf_Check_8_hl]; exact trivial)

theorem T_conf_Check_8_eq (C : Conts) (c67 : Addr) (pool68 : Bool) (w : World) : vcCode Tryz.prog (hookAt []) (at_ (bodyOf Tryz.f50) [1, 1, 1, 1, 1, 0, 0, 0, 1, 1, 1, 1, 1, 1, 1, 1, 0]) 258558 ⟨[(1, .pointer (some c67)), (3, .bool pool68)], 118, []⟩ w (unitQ T_conf_Check_8_outs C) = T_conf_Check_8 c67 pool68 w (fun b72 w => C .normal [.bool b72] w) (fun ch w => C (.panic ch) [] w) := by kernel_rfl

theorem T_conf_Check_8_ok : UnitOk Tryz.prog H_conf_Check_8 (at_ (bodyOf Tryz.f50) [1, 1, 1, 1, 1, 0, 0, 0, 1, 1, 1, 1, 1, 1, 1, 1, 0]) 258558 := unit_ok (H := (hookAt [])) (by kernel_rfl) T_conf_Check_8_hok fun l w C hk => by
    obtain ⟨v0, l_v0, rfl, k_v0, hk_v0⟩ := Kinds.cons_ hk
    obtain ⟨c67, rfl⟩ := kind_addr k_v0
    obtain ⟨v1, l_v1, rfl, k_v1, hk_v1⟩ := Kinds.cons_ hk_v0
    obtain ⟨pool68, rfl⟩ := kind_bool k_v1
    obtain rfl := Kinds.nil_ hk_v1
    exact T_conf_Check_8_eq C c67 pool68 w

def T_conf_Check_9 (c75 : Addr) (route76 : Bool) (w : World) (Kn : Bool → World → Prop) (Kp : List PanicEntry → World → Prop) : Prop :=
  if (!route76) = true then (∃ s77 : ByteArray, rd w (c75.add 4) (.string s77) ∧ if (!(s77.toList == (ByteArray.mk #[]).toList)) = true then (Kn true w) else (∃ s78 : ByteArray, rd w (c75.add 5) (.string s78) ∧ Kn (!(s78.toList == (ByteArray.mk #[]).toList)) w)) else (Kn false w)

def T_conf_Check_9_outs : Exit → Option (List (Nat × Value)) := fun x => match x with | .normal => some [(41, .bool false)] | .panic _ => some [] | _ => none

def T_conf_Check_9_ks : Nat → Bool := ksOf [41, 73, 74, 75, 76, 77, 78, 79, 80, 81, 82, 83, 84]

def H_conf_Check_9 : Env → World → QT → Prop := unitHook 118 T_conf_Check_9_ks [(1, .pointer (some ⟨0, 0, none⟩)), (4, .bool false)] T_conf_Check_9_outs fun l w C => match l with | [v0, v1] => T_conf_Check_9 (pAddr v0) (pBool v1) w (fun b80 w => C .normal [.bool b80] w) (fun ch w => C (.panic ch) [] w) | _ => False

theorem T_conf_Check_9_hl : allP (hokL Tryz.prog (hookAt []) (at_ (bodyOf Tryz.f50) [1, 1, 1, 1, 1, 0, 0, 0, 1, 1, 1, 1, 1, 1, 1, 1, 1, 1, 0]) 1034238) = (True) := by kernel_rfl
theorem T_conf_Check_9_hok : HOk Tryz.prog (hookAt []) (at_ (bodyOf Tryz.f50) [1, 1, 1, 1, 1, 0, 0, 0, 1, 1, 1, 1, 1, 1, 1, 1, 1, 1, 0]) 1034238 := HOk_of _ _ (by rw [T_conf_Check_9_hl]; exact trivial)

theorem T_conf_Check_9_eq (C : Conts) (c75 : Addr) (route76 : Bool) (w : World) : vcCode Tryz.prog (hookAt []) (at_ (bodyOf Tryz.f50) [1, 1, 1, 1, 1, 0, 0, 0, 1, 1, 1, 1, 1, 1, 1, 1, 1, 1, 0]) 1034238 ⟨[(1, .pointer (some c75)), (4, .bool route76)], 118, []⟩ w (unitQ T_conf_Check_9_outs C) = T_conf_Check_9 c75 route76 w (fun b81 w => C .normal [.bool b81] w) (fun ch w => C (.panic ch) [] w) := by kernel_rfl

theorem T_conf_Check_9_ok : UnitOk Tryz.prog H_conf_Check_9 (at_ (bodyOf Tryz.f50) [1, 1, 1, 1, 1, 0, 0, 0, 1, 1, 1, 1, 1, 1, 1, 1, 1, 1, 0]) 1034238 := unit_ok (H := (hookAt [])) (by kernel_rfl) T_conf_Check_9_hok fun l w C hk => by
    obtain ⟨v0, l_v0, rfl, k_v0, hk_v0⟩ := Kinds.cons_ hk
    obtain ⟨c75, rfl⟩ := kind_addr k_v0
    obtain ⟨v1, l_v1, rfl, k_v1, hk_v1⟩ := Kinds.cons_ hk_v0
    obtain ⟨route76, rfl⟩ := kind_bool k_v1
    obtain rfl := Kinds.nil_ hk_v1
    exact T_conf_Check_9_eq C c75 route76 w

def T_conf_Check_5 (c46 : Addr) (pool47 : Bool) (route48 : Bool) (seq49 : Bool) (b50 : Bool) (w : World) (Kn : Bool → World → Prop) (Kp : List PanicEntry → World → Prop) : Prop :=
  if b50 = true then (Kn b50 w) else (T_conf_Check_6 c46 w (fun b57 w58 => if b57 = true then (Kn b57 w58) else (if (!seq49) = true then (Kn (!seq49) w58) else (T_conf_Check_7 c46 w58 (fun b65 w66 => if b65 = true then (Kn b65 w66) else (T_conf_Check_8 c46 pool47 w66 (fun b73 w74 => if b73 = true then (Kn b73 w74) else (T_conf_Check_9 c46 route48 w74 (fun b82 w83 => if b82 = true then (Kn b82 w83) else (∃ x84 : Int, rd w83 c46 (.int .i64 x84) ∧ if ((x84 : Int) != 1) = true then (∃ s85a : Option Addr, ∃ s85l : Nat, ∃ s85c : Nat, rd w83 (c46.add 7) (.slice s85a s85l s85c) ∧ Kn (decide (((s85l : Nat) : Int) > 0)) w83) else (Kn false w83))) Kp)) Kp)) Kp))) Kp)

def T_conf_Check_5_outs : Exit → Option (List (Nat × Value)) := fun x => match x with | .normal => some [(41, .bool false)] | .panic _ => some [] | _ => none

def T_conf_Check_5_ks : Nat → Bool := ksOf [41, 48, 49, 50, 51, 52, 53, 54, 55, 56, 57, 58, 59, 60, 61, 62, 63, 64, 65, 66, 67, 68, 69, 70, 71, 72, 73, 74, 75, 76, 77, 78, 79, 80, 81, 82, 83, 84, 85, 86, 87, 88, 89, 90, 91, 92, 93]

def H_conf_Check_5 : Env → World → QT → Prop := unitHook 118 T_conf_Check_5_ks [(1, .pointer (some ⟨0, 0, none⟩)), (3, .bool false), (4, .bool false), (5, .bool false), (41, .bool false)] T_conf_Check_5_outs fun l w C => match l with | [v0, v1, v2, v3, v4] => T_conf_Check_5 (pAddr v0) (pBool v1) (pBool v2) (pBool v3) (pBool v4) w (fun b87 w => C .normal [.bool b87] w) (fun ch w => C (.panic ch) [] w) | _ => False

theorem T_conf_Check_5_hl : allP (hokL Tryz.prog (hookAt [(4038, H_conf_Check_6), (64638, H_conf_Check_7), (258558, H_conf_Check_8), (1034238, H_conf_Check_9)]) (at_ (bodyOf Tryz.f50) [1, 1, 1, 1, 1, 0, 0, 0, 1]) 1009) = (UnitOk Tryz.prog H_conf_Check_6 (at_ (bodyOf Tryz.f50) [1, 1, 1, 1, 1, 0, 0, 0, 1, 1, 0]) 4038 ∧ UnitOk Tryz.prog H_conf_Check_7 (at_ (bodyOf Tryz.f50) [1, 1, 1, 1, 1, 0, 0, 0, 1, 1, 1, 1, 1, 1, 0]) 64638 ∧ UnitOk Tryz.prog H_conf_Check_8 (at_ (bodyOf Tryz.f50) [1, 1, 1, 1, 1, 0, 0, 0, 1, 1, 1, 1, 1, 1, 1, 1, 0]) 258558 ∧ UnitOk Tryz.prog H_conf_Check_9 (at_ (bodyOf Tryz.f50) [1, 1, 1, 1, 1, 0, 0, 0, 1, 1, 1, 1, 1, 1, 1, 1, 1, 1, 0]) 1034238 ∧ True) := by kernel_rfl
theorem T_conf_Check_5_hok : HOk Tryz.prog (hookAt [(4038, H_conf_Check_6), (64638, H_conf_Check_7), (258558, H_conf_Check_8), (1034238, H_conf_Check_9)]) (at_ (bodyOf Tryz.f50) [1, 1, 1, 1, 1, 0, 0, 0, 1]) 1009 := HOk_of _ _ (by rw [T_conf_Check_5_hl]; exact ⟨T_conf_Check_6_ok, T_conf_Check_7_ok, T_conf_Check_8_ok, T_conf_Check_9_ok, trivial⟩)

theorem T_conf_Check_5_eq (C : Conts) (c46 : Addr) (pool47 : Bool) (route48 : Bool) (seq49 : Bool) (b50 : Bool) (w : World) : vcCode Tryz.prog (hookAt [(4038, H_conf_Check_6), (64638, H_conf_Check_7), (258558, H_conf_Check_8), (1034238, H_conf_Check_9)]) (at_ (bodyOf Tryz.f50) [1, 1, 1, 1, 1, 0, 0, 0, 1]) 1009 ⟨[(1, .pointer (some c46)), (3, .bool pool47), (4, .bool route48), (5, .bool seq49), (41, .bool b50)], 118, []⟩ w (unitQ T_conf_Check_5_outs C) = T_conf_Check_5 c46 pool47 route48 seq49 b50 w (fun b88 w => C .normal [.bool b88] w) (fun ch w => C (.panic ch) [] w) := by kernel_rfl

theorem T_conf_Check_5_ok : UnitOk Tryz.prog H_conf_Check_5 (at_ (bodyOf Tryz.f50) [1, 1, 1, 1, 1, 0, 0, 0, 1]) 1009 := unit_ok (H := (hookAt [(4038, H_conf_Check_6), (64638, H_conf_Check_7), (258558, H_conf_Check_8), (1034238, H_conf_Check_9)])) (by kernel_rfl) T_conf_Check_5_hok fun l w C hk => by
    obtain ⟨v0, l_v0, rfl, k_v0, hk_v0⟩ := Kinds.cons_ hk
    obtain ⟨c46, rfl⟩ := kind_addr k_v0
    obtain ⟨v1, l_v1, rfl, k_v1, hk_v1⟩ := Kinds.cons_ hk_v0
    obtain ⟨pool47, rfl⟩ := kind_bool k_v1
    obtain ⟨v2, l_v2, rfl, k_v2, hk_v2⟩ := Kinds.cons_ hk_v1
    obtain ⟨route48, rfl⟩ := kind_bool k_v2
    obtain ⟨v3, l_v3, rfl, k_v3, hk_v3⟩ := Kinds.cons_ hk_v2
    obtain ⟨seq49, rfl⟩ := kind_bool k_v3
    obtain ⟨v4, l_v4, rfl, k_v4, hk_v4⟩ := Kinds.cons_ hk_v3
    obtain ⟨b50, rfl⟩ := kind_bool k_v4
    obtain rfl := Kinds.nil_ hk_v4
    exact T_conf_Check_5_eq C c46 pool47 route48 seq49 b50 w

def T_conf_Check_10 (c91 : Addr) (pool92 : Bool) (w : World) (Kn : Bool → World → Prop) (Kp : List PanicEntry → World → Prop) : Prop :=
  if pool92 = true then (∃ s93 : ByteArray, rd w (c91.add 6) (.string s93) ∧ Calls Tryz.prog 107 #[.string s93] w (ret (fun r94 w95 => ∃ b96 : Bool, r94 = .bool b96 ∧ Kn (!b96) w95) Kp)) else (Kn false w)

def T_conf_Check_10_outs : Exit → Option (List (Nat × Value)) := fun x => match x with | .normal => some [(94, .bool false)] | .panic _ => some [] | _ => none

def T_conf_Check_10_ks : Nat → Bool := ksOf [94, 95, 96, 97, 98, 99, 100, 101]

def H_conf_Check_10 : Env → World → QT → Prop := unitHook 118 T_conf_Check_10_ks [(1, .pointer (some ⟨0, 0, none⟩)), (3, .bool false)] T_conf_Check_10_outs fun l w C => match l with | [v0, v1] => T_conf_Check_10 (pAddr v0) (pBool v1) w (fun b98 w => C .normal [.bool b98] w) (fun ch w => C (.panic ch) [] w) | _ => False

theorem T_conf_Check_10_hl : allP (hokL Tryz.prog (hookAt []) (at_ (bodyOf Tryz.f50) [1, 1, 1, 1, 1, 0, 0, 1, 1, 0, 0]) 4044) = (True) := by kernel_rfl
theorem T_conf_Check_10_hok : HOk Tryz.prog (hookAt []) (at_ (bodyOf Tryz.f50) [1, 1, 1, 1, 1, 0, 0, 1, 1, 0, 0]) 4044 := HOk_of _ _ (by rw [T_conf_Check_10_hl]; exact trivial)

theorem T_conf_Check_10_eq (C : Conts) (c91 : Addr) (pool92 : Bool) (w : World) : vcCode Tryz.prog (hookAt []) (at_ (bodyOf Tryz.f50) [1, 1, 1, 1, 1, 0, 0, 1, 1, 0, 0]) 4044 ⟨[(1, .pointer (some c91)), (3, .bool pool92)], 118, []⟩ w (unitQ T_conf_Check_10_outs C) = T_conf_Check_10 c91 pool92 w (fun b99 w => C .normal [.bool b99] w) (fun ch w => C (.panic ch) [] w) := by kernel_rfl

theorem T_conf_Check_10_ok : UnitOk Tryz.prog H_conf_Check_10 (at_ (bodyOf Tryz.f50) [1, 1, 1, 1, 1, 0, 0, 1, 1, 0, 0]) 4044 := unit_ok (H := (hookAt [])) (by kernel_rfl) T_conf_Check_10_hok fun l w C hk => by
    obtain ⟨v0, l_v0, rfl, k_v0, hk_v0⟩ := Kinds.cons_ hk
    obtain ⟨c91, rfl⟩ := kind_addr k_v0
    obtain ⟨v1, l_v1, rfl, k_v1, hk_v1⟩ := Kinds.cons_ hk_v0
    obtain ⟨pool92, rfl⟩ := kind_bool k_v1
    obtain rfl := Kinds.nil_ hk_v1
    exact T_conf_Check_10_eq C c91 pool92 w

def T_conf_Check (x1 : Int) (x2 : Int) (x3 : Int) (x4 : Int) (s5 : ByteArray) (s6 : ByteArray) (s7 : ByteArray) (s8a : Option Addr) (s8l : Nat) (s8c : Nat) (w : World) (R : Ending → World → Prop) : Prop :=
  let w9 : World := w.alloc (.cells #[.int .i64 x1, .int .i64 x2, .int .i64 x3, .int .i64 x4, .string s5, .string s6, .string s7, .slice s8a s8l s8c] 34)
  T_conf_Check_1 (⟨w.heap.size, 0, none⟩ : Addr) w9 (fun pool17 w18 => T_conf_Check_2 (⟨w.heap.size, 0, none⟩ : Addr) w18 (fun route25 w26 => ∃ x27 : Int, rd w26 ((⟨w.heap.size, 0, none⟩ : Addr).add 2) (.int .i64 x27) ∧ ∃ x28 : Int, rd w26 ((⟨w.heap.size, 0, none⟩ : Addr).add 1) (.int .i64 x28) ∧ T_conf_Check_3 (⟨w.heap.size, 0, none⟩ : Addr) ((x27 : Int) == 0) ((x28 : Int) != 0) w26 (fun seq37 w38 => T_conf_Check_4 pool17 route25 w38 (fun b44 w45 => T_conf_Check_5 (⟨w.heap.size, 0, none⟩ : Addr) pool17 route25 seq37 b44 w45 (fun b89 w90 => if b89 = true then (R (.returned (.int .i64 2)) w90) else (T_conf_Check_10 (⟨w.heap.size, 0, none⟩ : Addr) pool17 w90 (fun b100 w101 => if b100 = true then (if b100 = true then (R (.returned (.int .i64 14)) w101) else (∃ s102a : Option Addr, ∃ s102l : Nat, ∃ s102c : Nat, rd w101 ((⟨w.heap.size, 0, none⟩ : Addr).add 7) (.slice s102a s102l s102c) ∧ Calls Tryz.prog 108 #[.slice s102a s102l s102c] w101 (ret (fun r103 w104 => ∃ x105 : Int, r103 = .int .i64 x105 ∧ R (.returned (.int .i64 x105)) w104) (pan R)))) else (if route25 = true then (∃ s106 : ByteArray, rd w101 ((⟨w.heap.size, 0, none⟩ : Addr).add 4) (.string s106) ∧ Calls Tryz.prog 109 #[.string s106] w101 (ret (fun r107 w108 => ∃ b109 : Bool, r107 = .bool b109 ∧ if (!b109) = true then (R (.returned (.int .i64 14)) w108) else (∃ s110 : ByteArray, rd w108 ((⟨w.heap.size, 0, none⟩ : Addr).add 5) (.string s110) ∧ Calls Tryz.prog 110 #[.string s110] w108 (ret (fun r111 w112 => ∃ b113 : Bool, r111 = .bool b113 ∧ if (!b113) = true then (R (.returned (.int .i64 14)) w112) else (∃ s114a : Option Addr, ∃ s114l : Nat, ∃ s114c : Nat, rd w112 ((⟨w.heap.size, 0, none⟩ : Addr).add 7) (.slice s114a s114l s114c) ∧ Calls Tryz.prog 108 #[.slice s114a s114l s114c] w112 (ret (fun r115 w116 => ∃ x117 : Int, r115 = .int .i64 x117 ∧ R (.returned (.int .i64 x117)) w116) (pan R)))) (pan R)))) (pan R))) else (∃ s118a : Option Addr, ∃ s118l : Nat, ∃ s118c : Nat, rd w101 ((⟨w.heap.size, 0, none⟩ : Addr).add 7) (.slice s118a s118l s118c) ∧ Calls Tryz.prog 108 #[.slice s118a s118l s118c] w101 (ret (fun r119 w120 => ∃ x121 : Int, r119 = .int .i64 x121 ∧ R (.returned (.int .i64 x121)) w120) (pan R))))) (pan R))) (pan R)) (pan R)) (pan R)) (pan R)) (pan R)

theorem T_conf_Check_hl : allP (hokL Tryz.prog (hookAt [(6, H_conf_Check_1), (14, H_conf_Check_2), (125, H_conf_Check_3), (1008, H_conf_Check_4), (1009, H_conf_Check_5), (4044, H_conf_Check_10)]) (bodyOf Tryz.f50) 1) = (UnitOk Tryz.prog H_conf_Check_1 (at_ (bodyOf Tryz.f50) [1, 0]) 6 ∧ UnitOk Tryz.prog H_conf_Check_2 (at_ (bodyOf Tryz.f50) [1, 1, 0]) 14 ∧ UnitOk Tryz.prog H_conf_Check_3 (at_ (bodyOf Tryz.f50) [1, 1, 1, 1, 0, 1]) 125 ∧ UnitOk Tryz.prog H_conf_Check_4 (at_ (bodyOf Tryz.f50) [1, 1, 1, 1, 1, 0, 0, 0, 0]) 1008 ∧ UnitOk Tryz.prog H_conf_Check_5 (at_ (bodyOf Tryz.f50) [1, 1, 1, 1, 1, 0, 0, 0, 1]) 1009 ∧ UnitOk Tryz.prog H_conf_Check_10 (at_ (bodyOf Tryz.f50) [1, 1, 1, 1, 1, 0, 0, 1, 1, 0, 0]) 4044 ∧ True) := by kernel_rfl

theorem T_conf_Check_eq (x1 : Int) (x2 : Int) (x3 : Int) (x4 : Int) (s5 : ByteArray) (s6 : ByteArray) (s7 : ByteArray) (s8a : Option Addr) (s8l : Nat) (s8c : Nat) (w : World) (R : Ending → World → Prop) : vcCode Tryz.prog (hookAt [(6, H_conf_Check_1), (14, H_conf_Check_2), (125, H_conf_Check_3), (1008, H_conf_Check_4), (1009, H_conf_Check_5), (4044, H_conf_Check_10)]) (bodyOf Tryz.f50) 1 ⟨argEnv [.agg #[.int .i64 x1, .int .i64 x2, .int .i64 x3, .int .i64 x4, .string s5, .string s6, .string s7, .slice s8a s8l s8c]] 0, Tryz.f50.ntmps, []⟩ w (finQ Tryz.prog Tryz.f50.results.toList R) = T_conf_Check x1 x2 x3 x4 s5 s6 s7 s8a s8l s8c w R := by kernel_rfl

theorem T_conf_Check_b : Tryz.f50.body = some (bodyOf Tryz.f50) := by kernel_rfl
theorem T_conf_Check_s : (quietSel (bodyOf Tryz.f50) && Nat.ble 1 Tryz.f50.ntmps) = true := by kernel_rfl

theorem C_conf_Check {x1 : Int} {x2 : Int} {x3 : Int} {x4 : Int} {s5 : ByteArray} {s6 : ByteArray} {s7 : ByteArray} {s8a : Option Addr} {s8l : Nat} {s8c : Nat} {w : World} {R : Ending → World → Prop} (h : T_conf_Check x1 x2 x3 x4 s5 s6 s7 s8a s8l s8c w R) : Calls Tryz.prog 50 #[.agg #[.int .i64 x1, .int .i64 x2, .int .i64 x3, .int .i64 x4, .string s5, .string s6, .string s7, .slice s8a s8l s8c]] w R :=
  calls_of_text (args := [.agg #[.int .i64 x1, .int .i64 x2, .int .i64 x3, .int .i64 x4, .string s5, .string s6, .string s7, .slice s8a s8l s8c]]) mixed Tryz.func50 T_conf_Check_b T_conf_Check_s (HOk_of _ _ (by rw [T_conf_Check_hl]; exact ⟨T_conf_Check_1_ok, T_conf_Check_2_ok, T_conf_Check_3_ok, T_conf_Check_4_ok, T_conf_Check_5_ok, T_conf_Check_10_ok, trivial⟩)) (by rw [T_conf_Check_eq]; exact h)

/-! tollgate/wire.number -/
def T_wire_number_1_body (X : Option Addr → Nat → Nat → Int → World → Prop) (b3a : Option Addr) (b3l : Nat) (b3c : Nat) (n4 : Int) (w : World) (Kn : Option Addr → Nat → Nat → Int → World → Prop) (Kp : List PanicEntry → World → Prop)  : Prop :=
  if (decide ((n4 : Int) ≥ 128)) = true then (let w5 : World := w.alloc (.cells #[.int .u8 (IntKind.wrap .u8 (IntKind.wrap .i64 ((BitVec.ofInt (IntKind.bits .i64) (IntKind.wrap .i64 ((BitVec.ofInt (IntKind.bits .i64) n4) &&& (BitVec.ofInt (IntKind.bits .i64) 127)).toNat)) ||| (BitVec.ofInt (IntKind.bits .i64) 128)).toNat))] 5)
  runV Tryz.prog (Builtin.append_ #[23, 23] 23 #[.slice b3a b3l b3c, .slice (some (⟨w.heap.size, 0, none⟩ : Addr)) 1 1]) w5 (fun r6 w7 => ∃ s8a : Option Addr, ∃ s8l : Nat, ∃ s8c : Nat, r6 = .slice s8a s8l s8c ∧ X s8a s8l s8c (Int.fdiv n4 (2 ^ 7)) w7) Kp) else (Kn b3a b3l b3c n4 w)

def T_wire_number_1 (b3a : Option Addr) (b3l : Nat) (b3c : Nat) (n4 : Int) (w : World) (Kn : Option Addr → Nat → Nat → Int → World → Prop) (Kp : List PanicEntry → World → Prop) : Prop :=
  ∀ X : Option Addr → Nat → Nat → Int → World → Prop, (∀ (b3a : Option Addr) (b3l : Nat) (b3c : Nat) (n4 : Int) (w : World), T_wire_number_1_body X b3a b3l b3c n4 w Kn Kp → X b3a b3l b3c n4 w) → X b3a b3l b3c n4 w

def T_wire_number_1_outs : Exit → Option (List (Nat × Value)) := fun x => match x with | .normal => some [(0, .slice none 0 0), (1, .int .i64 0)] | .panic _ => some [] | _ => none

def T_wire_number_1_ks : Nat → Bool := ksOf [0, 1, 5, 6, 7, 8, 9, 10, 11, 12, 13, 14, 15]

def H_wire_number_1 : Env → World → QT → Prop := unitHook 21 T_wire_number_1_ks [(0, .slice none 0 0), (1, .int .i64 0)] T_wire_number_1_outs fun l w C => match l with | [v0, v1] => T_wire_number_1 (pA v0) (pL v0) (pC v0) (pInt v1) w (fun b11a b11l b11c n12 w => C .normal [.slice b11a b11l b11c, .int .i64 n12] w) (fun ch w => C (.panic ch) [] w) | _ => False

theorem T_wire_number_1_hl : allP (hokL Tryz.prog (hookAt []) (at_ (bodyOf Tryz.f147) [1, 0, 0, 0]) 24) = (True) := by kernel_rfl
theorem T_wire_number_1_hok : HOk Tryz.prog (hookAt []) (at_ (bodyOf Tryz.f147) [1, 0, 0, 0]) 24 := HOk_of _ _ (by rw [T_wire_number_1_hl]; exact trivial)

theorem T_wire_number_1_eq (C : Conts) (X : List Value → World → Prop) (b3a : Option Addr) (b3l : Nat) (b3c : Nat) (n4 : Int) (w : World) : vcCode Tryz.prog (hookAt []) (at_ (bodyOf Tryz.f147) [1, 0, 0, 0]) 24 ⟨[(0, .slice b3a b3l b3c), (1, .int .i64 n4)] ++ [], 21, []⟩ w (seqQ (fun e w => takeAll e [(0, .slice none 0 0), (1, .int .i64 0)] fun l => X l w) (blockQ 0 (unitQ T_wire_number_1_outs C))) = T_wire_number_1_body (fun b3a b3l b3c n4 w => X [.slice b3a b3l b3c, .int .i64 n4] w) b3a b3l b3c n4 w (fun b13a b13l b13c n14 w => C .normal [.slice b13a b13l b13c, .int .i64 n14] w) (fun ch w => C (.panic ch) [] w) := by kernel_rfl

theorem T_wire_number_1_ok : UnitOk Tryz.prog H_wire_number_1 (at_ (bodyOf Tryz.f147) [1, 0]) 6 := by
  have hc : at_ (bodyOf Tryz.f147) [1, 0] = .block 0 (.loop (at_ (bodyOf Tryz.f147) [1, 0, 0, 0])) := by kernel_rfl
  rw [hc]
  refine loop_unit_ok (carr := [(0, .slice none 0 0), (1, .int .i64 0)]) (fix := []) (ks := T_wire_number_1_ks) (H := (hookAt [])) (B := fun C X l u w => match l, u with | [v0, v1], [] => T_wire_number_1_body (fun b3a b3l b3c n4 w => X [.slice b3a b3l b3c, .int .i64 n4] w) (pA v0) (pL v0) (pC v0) (pInt v1) w (fun b15a b15l b15c n16 w => C .normal [.slice b15a b15l b15c, .int .i64 n16] w) (fun ch w => C (.panic ch) [] w) | _, _ => False) (by kernel_rfl) (by kernel_rfl) T_wire_number_1_hok ?_ ?_
  · intro C X l u w hl hu
    obtain ⟨v0, l_v0, rfl, k_v0, hl_v0⟩ := Kinds.cons_ hl
    obtain ⟨b3a, b3l, b3c, rfl⟩ := kind_slice k_v0
    obtain ⟨v1, l_v1, rfl, k_v1, hl_v1⟩ := Kinds.cons_ hl_v0
    obtain ⟨n4, rfl⟩ := kind_int k_v1
    obtain rfl := Kinds.nil_ hl_v1
    obtain rfl := Kinds.nil_ hu
    exact T_wire_number_1_eq C X b3a b3l b3c n4 w
  · intro l u w C hl hu
    obtain ⟨v0, l_v0, rfl, k_v0, hl_v0⟩ := Kinds.cons_ hl
    obtain ⟨b3a, b3l, b3c, rfl⟩ := kind_slice k_v0
    obtain ⟨v1, l_v1, rfl, k_v1, hl_v1⟩ := Kinds.cons_ hl_v0
    obtain ⟨n4, rfl⟩ := kind_int k_v1
    obtain rfl := Kinds.nil_ hl_v1
    obtain rfl := Kinds.nil_ hu
    constructor
    · intro h X hX
      exact h (fun b3a b3l b3c n4 w => X [.slice b3a b3l b3c, .int .i64 n4] w) (fun b3a b3l b3c n4 w hb => hX [.slice b3a b3l b3c, .int .i64 n4] w ⟨rfl, rfl, trivial⟩ hb)
    · intro h X hX
      exact h (fun l w => match l with | [v0, v1] => X (pA v0) (pL v0) (pC v0) (pInt v1) w | _ => True) (fun l w hl hb => by
        obtain ⟨v0, l_v0, rfl, k_v0, hl_v0⟩ := Kinds.cons_ hl
        obtain ⟨b3a, b3l, b3c, rfl⟩ := kind_slice k_v0
        obtain ⟨v1, l_v1, rfl, k_v1, hl_v1⟩ := Kinds.cons_ hl_v0
        obtain ⟨n4, rfl⟩ := kind_int k_v1
        obtain rfl := Kinds.nil_ hl_v1
        exact hX b3a b3l b3c n4 w hb)

def T_wire_number (b1a : Option Addr) (b1l : Nat) (b1c : Nat) (n2 : Int) (w : World) (R : Ending → World → Prop) : Prop :=
  T_wire_number_1 b1a b1l b1c n2 w (fun b17a b17l b17c n18 w19 => let w20 : World := w19.alloc (.cells #[.int .u8 (IntKind.wrap .u8 n18)] 5)
  runV Tryz.prog (Builtin.append_ #[23, 23] 23 #[.slice b17a b17l b17c, .slice (some (⟨w19.heap.size, 0, none⟩ : Addr)) 1 1]) w20 (fun r21 w22 => ∃ s23a : Option Addr, ∃ s23l : Nat, ∃ s23c : Nat, r21 = .slice s23a s23l s23c ∧ R (.returned (.slice s23a s23l s23c)) w22) (pan R)) (pan R)

theorem T_wire_number_hl : allP (hokL Tryz.prog (hookAt [(6, H_wire_number_1)]) (bodyOf Tryz.f147) 1) = (UnitOk Tryz.prog H_wire_number_1 (at_ (bodyOf Tryz.f147) [1, 0]) 6 ∧ True) := by kernel_rfl

theorem T_wire_number_eq (b1a : Option Addr) (b1l : Nat) (b1c : Nat) (n2 : Int) (w : World) (R : Ending → World → Prop) : vcCode Tryz.prog (hookAt [(6, H_wire_number_1)]) (bodyOf Tryz.f147) 1 ⟨argEnv [.slice b1a b1l b1c, .int .i64 n2] 0, Tryz.f147.ntmps, []⟩ w (finQ Tryz.prog Tryz.f147.results.toList R) = T_wire_number b1a b1l b1c n2 w R := by kernel_rfl

theorem T_wire_number_b : Tryz.f147.body = some (bodyOf Tryz.f147) := by kernel_rfl
theorem T_wire_number_s : (quietSel (bodyOf Tryz.f147) && Nat.ble 2 Tryz.f147.ntmps) = true := by kernel_rfl

theorem C_wire_number {b1a : Option Addr} {b1l : Nat} {b1c : Nat} {n2 : Int} {w : World} {R : Ending → World → Prop} (h : T_wire_number b1a b1l b1c n2 w R) : Calls Tryz.prog 147 #[.slice b1a b1l b1c, .int .i64 n2] w R :=
  calls_of_text (args := [.slice b1a b1l b1c, .int .i64 n2]) mixed Tryz.func147 T_wire_number_b T_wire_number_s (HOk_of _ _ (by rw [T_wire_number_hl]; exact ⟨T_wire_number_1_ok, trivial⟩)) (by rw [T_wire_number_eq]; exact h)

/-! tollgate/wire.Number -/
def T_wire_Number (n1 : Int) (w : World) (R : Ending → World → Prop) : Prop :=
  if (decide ((n1 : Int) < 0)) = true then (R (.returned (.tuple #[.slice none 0 0, .int .i64 2])) w) else (if (decide ((n1 : Int) > 1099511627776)) = true then (R (.returned (.tuple #[.slice none 0 0, .int .i64 2])) w) else (Calls Tryz.prog 147 #[.slice none 0 0, .int .i64 n1] w (ret (fun r2 w3 => ∃ s4a : Option Addr, ∃ s4l : Nat, ∃ s4c : Nat, r2 = .slice s4a s4l s4c ∧ R (.returned (.tuple #[.slice s4a s4l s4c, .int .i64 0])) w3) (pan R))))

theorem T_wire_Number_hl : allP (hokL Tryz.prog (hookAt []) (bodyOf Tryz.f122) 1) = (True) := by kernel_rfl

theorem T_wire_Number_eq (n1 : Int) (w : World) (R : Ending → World → Prop) : vcCode Tryz.prog (hookAt []) (bodyOf Tryz.f122) 1 ⟨argEnv [.int .i64 n1] 0, Tryz.f122.ntmps, []⟩ w (finQ Tryz.prog Tryz.f122.results.toList R) = T_wire_Number n1 w R := by kernel_rfl

theorem T_wire_Number_b : Tryz.f122.body = some (bodyOf Tryz.f122) := by kernel_rfl
theorem T_wire_Number_s : (quietSel (bodyOf Tryz.f122) && Nat.ble 1 Tryz.f122.ntmps) = true := by kernel_rfl

theorem C_wire_Number {n1 : Int} {w : World} {R : Ending → World → Prop} (h : T_wire_Number n1 w R) : Calls Tryz.prog 122 #[.int .i64 n1] w R :=
  calls_of_text (args := [.int .i64 n1]) mixed Tryz.func122 T_wire_Number_b T_wire_Number_s (HOk_of _ _ (by rw [T_wire_Number_hl]; exact trivial)) (by rw [T_wire_Number_eq]; exact h)

/-! tollgate/wire.TakeNumber -/
def T_wire_TakeNumber_1 (b3a : Option Addr) (b3l : Nat) (b3c : Nat) (at4 : Int) (w : World) (Kn : Bool → World → Prop) (Kp : List PanicEntry → World → Prop) : Prop :=
  if (decide ((at4 : Int) < 0)) = true then (Kn true w) else (Kn (decide ((at4 : Int) > ((b3l : Nat) : Int))) w)

def T_wire_TakeNumber_1_outs : Exit → Option (List (Nat × Value)) := fun x => match x with | .normal => some [(17, .bool false)] | .panic _ => some [] | _ => none

def T_wire_TakeNumber_1_ks : Nat → Bool := ksOf [10, 11, 12, 13, 14, 15, 16, 17]

def H_wire_TakeNumber_1 : Env → World → QT → Prop := unitHook 58 T_wire_TakeNumber_1_ks [(0, .slice none 0 0), (1, .int .i64 0)] T_wire_TakeNumber_1_outs fun l w C => match l with | [v0, v1] => T_wire_TakeNumber_1 (pA v0) (pL v0) (pC v0) (pInt v1) w (fun b6 w => C .normal [.bool b6] w) (fun ch w => C (.panic ch) [] w) | _ => False

theorem T_wire_TakeNumber_1_hl : allP (hokL Tryz.prog (hookAt []) (at_ (turnB 0 900001 900002 (bodyOf Tryz.f175)) [1, 0, 0]) 12) = (True) := by kernel_rfl
theorem T_wire_TakeNumber_1_hok : HOk Tryz.prog (hookAt []) (at_ (turnB 0 900001 900002 (bodyOf Tryz.f175)) [1, 0, 0]) 12 := HOk_of _ _ (by rw [T_wire_TakeNumber_1_hl]; exact trivial)

theorem T_wire_TakeNumber_1_eq (C : Conts) (b3a : Option Addr) (b3l : Nat) (b3c : Nat) (at4 : Int) (w : World) : vcCode Tryz.prog (hookAt []) (at_ (turnB 0 900001 900002 (bodyOf Tryz.f175)) [1, 0, 0]) 12 ⟨[(0, .slice b3a b3l b3c), (1, .int .i64 at4)], 58, []⟩ w (unitQ T_wire_TakeNumber_1_outs C) = T_wire_TakeNumber_1 b3a b3l b3c at4 w (fun b7 w => C .normal [.bool b7] w) (fun ch w => C (.panic ch) [] w) := by kernel_rfl

theorem T_wire_TakeNumber_1_ok : UnitOk Tryz.prog H_wire_TakeNumber_1 (at_ (turnB 0 900001 900002 (bodyOf Tryz.f175)) [1, 0, 0]) 12 := unit_ok (H := (hookAt [])) (by kernel_rfl) T_wire_TakeNumber_1_hok fun l w C hk => by
    obtain ⟨v0, l_v0, rfl, k_v0, hk_v0⟩ := Kinds.cons_ hk
    obtain ⟨b3a, b3l, b3c, rfl⟩ := kind_slice k_v0
    obtain ⟨v1, l_v1, rfl, k_v1, hk_v1⟩ := Kinds.cons_ hk_v0
    obtain ⟨at4, rfl⟩ := kind_int k_v1
    obtain rfl := Kinds.nil_ hk_v1
    exact T_wire_TakeNumber_1_eq C b3a b3l b3c at4 w

def T_wire_TakeNumber_3 (k19 : Int) (c20 : Int) (w : World) (Kn : Bool → World → Prop) (Kp : List PanicEntry → World → Prop) : Prop :=
  if ((c20 : Int) == 0) = true then (Kn (decide ((k19 : Int) > 1)) w) else (Kn false w)

def T_wire_TakeNumber_3_outs : Exit → Option (List (Nat × Value)) := fun x => match x with | .normal => some [(44, .bool false)] | .panic _ => some [] | _ => none

def T_wire_TakeNumber_3_ks : Nat → Bool := ksOf [44, 45, 46, 47, 48, 49, 50]

def H_wire_TakeNumber_3 : Env → World → QT → Prop := unitHook 58 T_wire_TakeNumber_3_ks [(8, .int .i64 0), (9, .int .i64 0)] T_wire_TakeNumber_3_outs fun l w C => match l with | [v0, v1] => T_wire_TakeNumber_3 (pInt v0) (pInt v1) w (fun b22 w => C .normal [.bool b22] w) (fun ch w => C (.panic ch) [] w) | _ => False

theorem T_wire_TakeNumber_3_hl : allP (hokL Tryz.prog (hookAt []) (at_ (turnB 0 900001 900002 (bodyOf Tryz.f175)) [1, 1, 1, 0, 0, 0, 0, 1, 1, 1, 1, 1, 0, 0, 0]) 61688) = (True) := by kernel_rfl
theorem T_wire_TakeNumber_3_hok : HOk Tryz.prog (hookAt []) (at_ (turnB 0 900001 900002 (bodyOf Tryz.f175)) [1, 1, 1, 0, 0, 0, 0, 1, 1, 1, 1, 1, 0, 0, 0]) 61688 := HOk_of _ _ (by rw [T_wire_TakeNumber_3_hl]; exact trivial)

theorem T_wire_TakeNumber_3_eq (C : Conts) (k19 : Int) (c20 : Int) (w : World) : vcCode Tryz.prog (hookAt []) (at_ (turnB 0 900001 900002 (bodyOf Tryz.f175)) [1, 1, 1, 0, 0, 0, 0, 1, 1, 1, 1, 1, 0, 0, 0]) 61688 ⟨[(8, .int .i64 k19), (9, .int .i64 c20)], 58, []⟩ w (unitQ T_wire_TakeNumber_3_outs C) = T_wire_TakeNumber_3 k19 c20 w (fun b23 w => C .normal [.bool b23] w) (fun ch w => C (.panic ch) [] w) := by kernel_rfl

theorem T_wire_TakeNumber_3_ok : UnitOk Tryz.prog H_wire_TakeNumber_3 (at_ (turnB 0 900001 900002 (bodyOf Tryz.f175)) [1, 1, 1, 0, 0, 0, 0, 1, 1, 1, 1, 1, 0, 0, 0]) 61688 := unit_ok (H := (hookAt [])) (by kernel_rfl) T_wire_TakeNumber_3_hok fun l w C hk => by
    obtain ⟨v0, l_v0, rfl, k_v0, hk_v0⟩ := Kinds.cons_ hk
    obtain ⟨k19, rfl⟩ := kind_int k_v0
    obtain ⟨v1, l_v1, rfl, k_v1, hk_v1⟩ := Kinds.cons_ hk_v0
    obtain ⟨c20, rfl⟩ := kind_int k_v1
    obtain rfl := Kinds.nil_ hk_v1
    exact T_wire_TakeNumber_3_eq C k19 c20 w

def T_wire_TakeNumber_2_body (X : Int → Int → World → Prop) (n10 : Int) (k11 : Int) (b12a : Option Addr) (b12l : Nat) (b12c : Nat) (at13 : Int) (w : World) (Kr : Int → Int → Int → World → Prop) (Kp : List PanicEntry → World → Prop)  : Prop :=
  if ((IntKind.wrap .i64 ((at13 : Int) + k11) : Int) == ((b12l : Nat) : Int)) = true then (Kr 0 0 3 w) else (0 ≤ (IntKind.wrap .i64 ((at13 : Int) + k11) : Int) ∧ (IntKind.wrap .i64 ((at13 : Int) + k11) : Int) < ((b12l : Nat) : Int) ∧ ∃ b14, b12a = some b14 ∧ ∃ x15 : Int, rd w (b14.add ((IntKind.wrap .i64 ((at13 : Int) + k11) : Int).toNat * 1)) (.int .u8 x15) ∧ runV Tryz.prog (do eqGuard .shl 3 (.tmp 33) (.tmp 35) (.int .i64 (IntKind.wrap .i64 ((BitVec.ofInt (IntKind.bits .i64) (IntKind.wrap .i64 x15)) &&& (BitVec.ofInt (IntKind.bits .i64) 127)).toNat)) (.int .i64 (IntKind.wrap .i64 ((7 : Int) * k11))); binOp .shl 3 (.int .i64 (IntKind.wrap .i64 ((BitVec.ofInt (IntKind.bits .i64) (IntKind.wrap .i64 x15)) &&& (BitVec.ofInt (IntKind.bits .i64) 127)).toNat)) (.int .i64 (IntKind.wrap .i64 ((7 : Int) * k11)))) w (fun r16 w17 => ∃ x18 : Int, r16 = .int .i64 x18 ∧ if (decide ((IntKind.wrap .i64 x15 : Int) ≥ 128)) = true then (if ((IntKind.wrap .i64 ((k11 : Int) + 1) : Int) == 6) = true then (Kr 0 0 6 w17) else (X (IntKind.wrap .i64 ((BitVec.ofInt (IntKind.bits .i64) n10) ||| (BitVec.ofInt (IntKind.bits .i64) x18)).toNat) (IntKind.wrap .i64 ((k11 : Int) + 1)) w17)) else (T_wire_TakeNumber_3 (IntKind.wrap .i64 ((k11 : Int) + 1)) (IntKind.wrap .i64 x15) w17 (fun b24 w25 => if b24 = true then (Kr 0 0 4 w25) else (if (decide ((IntKind.wrap .i64 ((BitVec.ofInt (IntKind.bits .i64) n10) ||| (BitVec.ofInt (IntKind.bits .i64) x18)).toNat : Int) > 1099511627776)) = true then (Kr 0 0 6 w25) else (Kr (IntKind.wrap .i64 ((BitVec.ofInt (IntKind.bits .i64) n10) ||| (BitVec.ofInt (IntKind.bits .i64) x18)).toNat) (IntKind.wrap .i64 ((at13 : Int) + (IntKind.wrap .i64 ((k11 : Int) + 1)))) 0 w25))) Kp)) Kp)

def T_wire_TakeNumber_2 (n10 : Int) (k11 : Int) (b12a : Option Addr) (b12l : Nat) (b12c : Nat) (at13 : Int) (w : World) (Kr : Int → Int → Int → World → Prop) (Kp : List PanicEntry → World → Prop) : Prop :=
  ∀ X : Int → Int → World → Prop, (∀ (n10 : Int) (k11 : Int) (w : World), T_wire_TakeNumber_2_body X n10 k11 b12a b12l b12c at13 w Kr Kp → X n10 k11 w) → X n10 k11 w

def T_wire_TakeNumber_2_outs : Exit → Option (List (Nat × Value)) := fun x => match x with | .ret => some [(4, .int .i64 0), (5, .int .i64 0), (6, .int .i64 0)] | .panic _ => some [] | _ => none

def T_wire_TakeNumber_2_ks : Nat → Bool := ksOf [4, 5, 6, 7, 8, 9, 18, 19, 20, 21, 22, 23, 24, 25, 26, 27, 28, 29, 30, 31, 32, 33, 34, 35, 36, 37, 38, 39, 40, 41, 42, 43, 44, 45, 46, 47, 48, 49, 50, 51, 52, 53, 54, 55, 56, 57]

def H_wire_TakeNumber_2 : Env → World → QT → Prop := unitHook 58 T_wire_TakeNumber_2_ks [(7, .int .i64 0), (8, .int .i64 0), (0, .slice none 0 0), (1, .int .i64 0)] T_wire_TakeNumber_2_outs fun l w C => match l with | [v0, v1, v2, v3] => T_wire_TakeNumber_2 (pInt v0) (pInt v1) (pA v2) (pL v2) (pC v2) (pInt v3) w (fun x29 x30 x31 w => C .ret [.int .i64 x29, .int .i64 x30, .int .i64 x31] w) (fun ch w => C (.panic ch) [] w) | _ => False

theorem T_wire_TakeNumber_2_hl : allP (hokL Tryz.prog (hookAt [(61688, H_wire_TakeNumber_3)]) (at_ (turnB 0 900001 900002 (bodyOf Tryz.f175)) [1, 1, 1, 0, 0]) 60) = (UnitOk Tryz.prog H_wire_TakeNumber_3 (at_ (turnB 0 900001 900002 (bodyOf Tryz.f175)) [1, 1, 1, 0, 0, 0, 0, 1, 1, 1, 1, 1, 0, 0, 0]) 61688 ∧ True) := by kernel_rfl
theorem T_wire_TakeNumber_2_hok : HOk Tryz.prog (hookAt [(61688, H_wire_TakeNumber_3)]) (at_ (turnB 0 900001 900002 (bodyOf Tryz.f175)) [1, 1, 1, 0, 0]) 60 := HOk_of _ _ (by rw [T_wire_TakeNumber_2_hl]; exact ⟨T_wire_TakeNumber_3_ok, trivial⟩)

theorem T_wire_TakeNumber_2_eq (C : Conts) (X : List Value → World → Prop) (n10 : Int) (k11 : Int) (b12a : Option Addr) (b12l : Nat) (b12c : Nat) (at13 : Int) (w : World) : vcCode Tryz.prog (hookAt [(61688, H_wire_TakeNumber_3)]) (at_ (turnB 0 900001 900002 (bodyOf Tryz.f175)) [1, 1, 1, 0, 0]) 60 ⟨[(7, .int .i64 n10), (8, .int .i64 k11)] ++ [(0, .slice b12a b12l b12c), (1, .int .i64 at13)], 58, []⟩ w (seqQ (fun e w => takeAll e [(7, .int .i64 0), (8, .int .i64 0)] fun l => X l w) (blockQ 900002 (unitQ T_wire_TakeNumber_2_outs C))) = T_wire_TakeNumber_2_body (fun n10 k11 w => X [.int .i64 n10, .int .i64 k11] w) n10 k11 b12a b12l b12c at13 w (fun x32 x33 x34 w => C .ret [.int .i64 x32, .int .i64 x33, .int .i64 x34] w) (fun ch w => C (.panic ch) [] w) := by kernel_rfl

theorem T_wire_TakeNumber_2_ok : UnitOk Tryz.prog H_wire_TakeNumber_2 (at_ (turnB 0 900001 900002 (bodyOf Tryz.f175)) [1, 1, 1]) 15 := by
  have hc : at_ (turnB 0 900001 900002 (bodyOf Tryz.f175)) [1, 1, 1] = .block 900002 (.loop (at_ (turnB 0 900001 900002 (bodyOf Tryz.f175)) [1, 1, 1, 0, 0])) := by kernel_rfl
  rw [hc]
  refine loop_unit_ok (carr := [(7, .int .i64 0), (8, .int .i64 0)]) (fix := [(0, .slice none 0 0), (1, .int .i64 0)]) (ks := T_wire_TakeNumber_2_ks) (H := (hookAt [(61688, H_wire_TakeNumber_3)])) (B := fun C X l u w => match l, u with | [v0, v1], [v2, v3] => T_wire_TakeNumber_2_body (fun n10 k11 w => X [.int .i64 n10, .int .i64 k11] w) (pInt v0) (pInt v1) (pA v2) (pL v2) (pC v2) (pInt v3) w (fun x35 x36 x37 w => C .ret [.int .i64 x35, .int .i64 x36, .int .i64 x37] w) (fun ch w => C (.panic ch) [] w) | _, _ => False) (by kernel_rfl) (by kernel_rfl) T_wire_TakeNumber_2_hok ?_ ?_
  · intro C X l u w hl hu
    obtain ⟨v0, l_v0, rfl, k_v0, hl_v0⟩ := Kinds.cons_ hl
    obtain ⟨n10, rfl⟩ := kind_int k_v0
    obtain ⟨v1, l_v1, rfl, k_v1, hl_v1⟩ := Kinds.cons_ hl_v0
    obtain ⟨k11, rfl⟩ := kind_int k_v1
    obtain rfl := Kinds.nil_ hl_v1
    obtain ⟨v2, l_v2, rfl, k_v2, hu_v2⟩ := Kinds.cons_ hu
    obtain ⟨b12a, b12l, b12c, rfl⟩ := kind_slice k_v2
    obtain ⟨v3, l_v3, rfl, k_v3, hu_v3⟩ := Kinds.cons_ hu_v2
    obtain ⟨at13, rfl⟩ := kind_int k_v3
    obtain rfl := Kinds.nil_ hu_v3
    exact T_wire_TakeNumber_2_eq C X n10 k11 b12a b12l b12c at13 w
  · intro l u w C hl hu
    obtain ⟨v0, l_v0, rfl, k_v0, hl_v0⟩ := Kinds.cons_ hl
    obtain ⟨n10, rfl⟩ := kind_int k_v0
    obtain ⟨v1, l_v1, rfl, k_v1, hl_v1⟩ := Kinds.cons_ hl_v0
    obtain ⟨k11, rfl⟩ := kind_int k_v1
    obtain rfl := Kinds.nil_ hl_v1
    obtain ⟨v2, l_v2, rfl, k_v2, hu_v2⟩ := Kinds.cons_ hu
    obtain ⟨b12a, b12l, b12c, rfl⟩ := kind_slice k_v2
    obtain ⟨v3, l_v3, rfl, k_v3, hu_v3⟩ := Kinds.cons_ hu_v2
    obtain ⟨at13, rfl⟩ := kind_int k_v3
    obtain rfl := Kinds.nil_ hu_v3
    constructor
    · intro h X hX
      exact h (fun n10 k11 w => X [.int .i64 n10, .int .i64 k11] w) (fun n10 k11 w hb => hX [.int .i64 n10, .int .i64 k11] w ⟨rfl, rfl, trivial⟩ hb)
    · intro h X hX
      exact h (fun l w => match l with | [v0, v1] => X (pInt v0) (pInt v1) w | _ => True) (fun l w hl hb => by
        obtain ⟨v0, l_v0, rfl, k_v0, hl_v0⟩ := Kinds.cons_ hl
        obtain ⟨n10, rfl⟩ := kind_int k_v0
        obtain ⟨v1, l_v1, rfl, k_v1, hl_v1⟩ := Kinds.cons_ hl_v0
        obtain ⟨k11, rfl⟩ := kind_int k_v1
        obtain rfl := Kinds.nil_ hl_v1
        exact hX n10 k11 w hb)

def T_wire_TakeNumber (b1a : Option Addr) (b1l : Nat) (b1c : Nat) (at2 : Int) (w : World) (R : Ending → World → Prop) : Prop :=
  T_wire_TakeNumber_1 b1a b1l b1c at2 w (fun b8 w9 => if b8 = true then (R (.returned (.tuple #[.int .i64 0, .int .i64 0, .int .i64 2])) w9) else (T_wire_TakeNumber_2 0 0 b1a b1l b1c at2 w9 (fun x38 x39 x40 w41 => R (.returned (.tuple #[.int .i64 x38, .int .i64 x39, .int .i64 x40])) w41) (pan R))) (pan R)

theorem T_wire_TakeNumber_hl : allP (hokL Tryz.prog (hookAt [(12, H_wire_TakeNumber_1), (15, H_wire_TakeNumber_2)]) (turnB 0 900001 900002 (bodyOf Tryz.f175)) 1) = (UnitOk Tryz.prog H_wire_TakeNumber_1 (at_ (turnB 0 900001 900002 (bodyOf Tryz.f175)) [1, 0, 0]) 12 ∧ UnitOk Tryz.prog H_wire_TakeNumber_2 (at_ (turnB 0 900001 900002 (bodyOf Tryz.f175)) [1, 1, 1]) 15 ∧ True) := by kernel_rfl

theorem T_wire_TakeNumber_eq (b1a : Option Addr) (b1l : Nat) (b1c : Nat) (at2 : Int) (w : World) (R : Ending → World → Prop) : vcCode Tryz.prog (hookAt [(12, H_wire_TakeNumber_1), (15, H_wire_TakeNumber_2)]) (turnB 0 900001 900002 (bodyOf Tryz.f175)) 1 ⟨argEnv [.slice b1a b1l b1c, .int .i64 at2] 0, Tryz.f175.ntmps, []⟩ w (finQ Tryz.prog Tryz.f175.results.toList R) = T_wire_TakeNumber b1a b1l b1c at2 w R := by kernel_rfl

theorem T_wire_TakeNumber_b : Tryz.f175.body = some (.seq (rOf (bodyOf Tryz.f175)) (.scope (cOf (bodyOf Tryz.f175)))) := by kernel_rfl
theorem T_wire_TakeNumber_f : findLabel (cOf (bodyOf Tryz.f175)) 0 = some (.seq .skip ((lapOf 0 (cOf (bodyOf Tryz.f175))).getD .skip)) := by kernel_rfl
theorem T_wire_TakeNumber_l : lapOf 0 (cOf (bodyOf Tryz.f175)) = some ((lapOf 0 (cOf (bodyOf Tryz.f175))).getD .skip) := by kernel_rfl

theorem T_wire_TakeNumber_s : ((quietSel (rOf (bodyOf Tryz.f175)) && quietSel (cOf (bodyOf Tryz.f175)) && quietSel ((lapOf 0 (cOf (bodyOf Tryz.f175))).getD .skip)) && (freshC 900001 ((lapOf 0 (cOf (bodyOf Tryz.f175))).getD .skip) && noExit 900001 ((lapOf 0 (cOf (bodyOf Tryz.f175))).getD .skip) && noExit 900002 ((lapOf 0 (cOf (bodyOf Tryz.f175))).getD .skip)) && Nat.ble 2 Tryz.f175.ntmps) = true := by kernel_rfl

theorem C_wire_TakeNumber {b1a : Option Addr} {b1l : Nat} {b1c : Nat} {at2 : Int} {w : World} {R : Ending → World → Prop} (h : T_wire_TakeNumber b1a b1l b1c at2 w R) : Calls Tryz.prog 175 #[.slice b1a b1l b1c, .int .i64 at2] w R :=
  calls_of_scope (args := [.slice b1a b1l b1c, .int .i64 at2]) mixed Tryz.func175 T_wire_TakeNumber_b T_wire_TakeNumber_f T_wire_TakeNumber_l T_wire_TakeNumber_s (HOk_of _ _ (show allP (hokL Tryz.prog (hookAt [(12, H_wire_TakeNumber_1), (15, H_wire_TakeNumber_2)]) (turnB 0 900001 900002 (bodyOf Tryz.f175)) 1) from by rw [T_wire_TakeNumber_hl]; exact ⟨T_wire_TakeNumber_1_ok, T_wire_TakeNumber_2_ok, trivial⟩)) (show vcCode Tryz.prog (hookAt [(12, H_wire_TakeNumber_1), (15, H_wire_TakeNumber_2)]) (turnB 0 900001 900002 (bodyOf Tryz.f175)) 1 ⟨argEnv [.slice b1a b1l b1c, .int .i64 at2] 0, Tryz.f175.ntmps, []⟩ w (finQ Tryz.prog Tryz.f175.results.toList R) from by rw [T_wire_TakeNumber_eq]; exact h)

/-! (*tollgate/wire.reader).byte -/
def T_wire_reader_byte_1 (b9 : Bool) (w : World) (Kn : World → Prop) (Kp : List PanicEntry → World → Prop) : Prop :=
  if b9 = true then (runV Tryz.prog (Instr.panic (.iface 200 (.int .i64 3))) w (fun r10 w11 => Kn  w11) Kp) else (Kn  w)

def T_wire_reader_byte_1_outs : Exit → Option (List (Nat × Value)) := fun x => match x with | .normal => some [] | .panic _ => some [] | _ => none

def T_wire_reader_byte_1_ks : Nat → Bool := ksOf [18]

def H_wire_reader_byte_1 : Env → World → QT → Prop := unitHook 47 T_wire_reader_byte_1_ks [(17, .bool false)] T_wire_reader_byte_1_outs fun l w C => match l with | [v0] => T_wire_reader_byte_1 (pBool v0) w (fun w => C .normal [] w) (fun ch w => C (.panic ch) [] w) | _ => False

theorem T_wire_reader_byte_1_hl : allP (hokL Tryz.prog (hookAt []) (at_ (bodyOf Tryz.f72) [1, 0, 1]) 13) = (True) := by kernel_rfl
theorem T_wire_reader_byte_1_hok : HOk Tryz.prog (hookAt []) (at_ (bodyOf Tryz.f72) [1, 0, 1]) 13 := HOk_of _ _ (by rw [T_wire_reader_byte_1_hl]; exact trivial)

theorem T_wire_reader_byte_1_eq (C : Conts) (b9 : Bool) (w : World) : vcCode Tryz.prog (hookAt []) (at_ (bodyOf Tryz.f72) [1, 0, 1]) 13 ⟨[(17, .bool b9)], 47, []⟩ w (unitQ T_wire_reader_byte_1_outs C) = T_wire_reader_byte_1 b9 w (fun w => C .normal [] w) (fun ch w => C (.panic ch) [] w) := by kernel_rfl

theorem T_wire_reader_byte_1_ok : UnitOk Tryz.prog H_wire_reader_byte_1 (at_ (bodyOf Tryz.f72) [1, 0, 1]) 13 := unit_ok (H := (hookAt [])) (by kernel_rfl) T_wire_reader_byte_1_hok fun l w C hk => by
    obtain ⟨v0, l_v0, rfl, k_v0, hk_v0⟩ := Kinds.cons_ hk
    obtain ⟨b9, rfl⟩ := kind_bool k_v0
    obtain rfl := Kinds.nil_ hk_v0
    exact T_wire_reader_byte_1_eq C b9 w

def T_wire_reader_byte_2 (least20 : Int) (most21 : Int) (c22 : Int) (w : World) (Kn : Bool → World → Prop) (Kp : List PanicEntry → World → Prop) : Prop :=
  if (decide ((c22 : Int) < least20)) = true then (Kn true w) else (Kn (decide ((c22 : Int) > most21)) w)

def T_wire_reader_byte_2_outs : Exit → Option (List (Nat × Value)) := fun x => match x with | .normal => some [(37, .bool false)] | .panic _ => some [] | _ => none

def T_wire_reader_byte_2_ks : Nat → Bool := ksOf [30, 31, 32, 33, 34, 35, 36, 37]

def H_wire_reader_byte_2 : Env → World → QT → Prop := unitHook 47 T_wire_reader_byte_2_ks [(1, .int .i64 0), (2, .int .i64 0), (7, .int .i64 0)] T_wire_reader_byte_2_outs fun l w C => match l with | [v0, v1, v2] => T_wire_reader_byte_2 (pInt v0) (pInt v1) (pInt v2) w (fun b24 w => C .normal [.bool b24] w) (fun ch w => C (.panic ch) [] w) | _ => False

theorem T_wire_reader_byte_2_hl : allP (hokL Tryz.prog (hookAt []) (at_ (bodyOf Tryz.f72) [1, 1, 1, 0, 0]) 60) = (True) := by kernel_rfl
theorem T_wire_reader_byte_2_hok : HOk Tryz.prog (hookAt []) (at_ (bodyOf Tryz.f72) [1, 1, 1, 0, 0]) 60 := HOk_of _ _ (by rw [T_wire_reader_byte_2_hl]; exact trivial)

theorem T_wire_reader_byte_2_eq (C : Conts) (least20 : Int) (most21 : Int) (c22 : Int) (w : World) : vcCode Tryz.prog (hookAt []) (at_ (bodyOf Tryz.f72) [1, 1, 1, 0, 0]) 60 ⟨[(1, .int .i64 least20), (2, .int .i64 most21), (7, .int .i64 c22)], 47, []⟩ w (unitQ T_wire_reader_byte_2_outs C) = T_wire_reader_byte_2 least20 most21 c22 w (fun b25 w => C .normal [.bool b25] w) (fun ch w => C (.panic ch) [] w) := by kernel_rfl

theorem T_wire_reader_byte_2_ok : UnitOk Tryz.prog H_wire_reader_byte_2 (at_ (bodyOf Tryz.f72) [1, 1, 1, 0, 0]) 60 := unit_ok (H := (hookAt [])) (by kernel_rfl) T_wire_reader_byte_2_hok fun l w C hk => by
    obtain ⟨v0, l_v0, rfl, k_v0, hk_v0⟩ := Kinds.cons_ hk
    obtain ⟨least20, rfl⟩ := kind_int k_v0
    obtain ⟨v1, l_v1, rfl, k_v1, hk_v1⟩ := Kinds.cons_ hk_v0
    obtain ⟨most21, rfl⟩ := kind_int k_v1
    obtain ⟨v2, l_v2, rfl, k_v2, hk_v2⟩ := Kinds.cons_ hk_v1
    obtain ⟨c22, rfl⟩ := kind_int k_v2
    obtain rfl := Kinds.nil_ hk_v2
    exact T_wire_reader_byte_2_eq C least20 most21 c22 w

def T_wire_reader_byte_3 (b28 : Bool) (w : World) (Kn : World → Prop) (Kp : List PanicEntry → World → Prop) : Prop :=
  if b28 = true then (runV Tryz.prog (Instr.panic (.iface 200 (.int .i64 4))) w (fun r29 w30 => Kn  w30) Kp) else (Kn  w)

def T_wire_reader_byte_3_outs : Exit → Option (List (Nat × Value)) := fun x => match x with | .normal => some [] | .panic _ => some [] | _ => none

def T_wire_reader_byte_3_ks : Nat → Bool := ksOf [38]

def H_wire_reader_byte_3 : Env → World → QT → Prop := unitHook 47 T_wire_reader_byte_3_ks [(37, .bool false)] T_wire_reader_byte_3_outs fun l w C => match l with | [v0] => T_wire_reader_byte_3 (pBool v0) w (fun w => C .normal [] w) (fun ch w => C (.panic ch) [] w) | _ => False

theorem T_wire_reader_byte_3_hl : allP (hokL Tryz.prog (hookAt []) (at_ (bodyOf Tryz.f72) [1, 1, 1, 0, 1]) 61) = (True) := by kernel_rfl
theorem T_wire_reader_byte_3_hok : HOk Tryz.prog (hookAt []) (at_ (bodyOf Tryz.f72) [1, 1, 1, 0, 1]) 61 := HOk_of _ _ (by rw [T_wire_reader_byte_3_hl]; exact trivial)

theorem T_wire_reader_byte_3_eq (C : Conts) (b28 : Bool) (w : World) : vcCode Tryz.prog (hookAt []) (at_ (bodyOf Tryz.f72) [1, 1, 1, 0, 1]) 61 ⟨[(37, .bool b28)], 47, []⟩ w (unitQ T_wire_reader_byte_3_outs C) = T_wire_reader_byte_3 b28 w (fun w => C .normal [] w) (fun ch w => C (.panic ch) [] w) := by kernel_rfl

theorem T_wire_reader_byte_3_ok : UnitOk Tryz.prog H_wire_reader_byte_3 (at_ (bodyOf Tryz.f72) [1, 1, 1, 0, 1]) 61 := unit_ok (H := (hookAt [])) (by kernel_rfl) T_wire_reader_byte_3_hok fun l w C hk => by
    obtain ⟨v0, l_v0, rfl, k_v0, hk_v0⟩ := Kinds.cons_ hk
    obtain ⟨b28, rfl⟩ := kind_bool k_v0
    obtain rfl := Kinds.nil_ hk_v0
    exact T_wire_reader_byte_3_eq C b28 w

def T_wire_reader_byte (r1 : Option Addr) (least2 : Int) (most3 : Int) (w : World) (R : Ending → World → Prop) : Prop :=
  let w4 : World := w.drew
  ∃ a5, r1 = some a5 ∧ ∃ x6 : Int, rd w4 (a5.add 1) (.int .i64 x6) ∧ ∃ a7, r1 = some a7 ∧ ∃ s8a : Option Addr, ∃ s8l : Nat, ∃ s8c : Nat, rd w4 a7 (.slice s8a s8l s8c) ∧ T_wire_reader_byte_1 ((x6 : Int) == ((s8l : Nat) : Int)) w4 (fun w12 => let w13 : World := w12.drew
  ∃ a14, r1 = some a14 ∧ ∃ s15a : Option Addr, ∃ s15l : Nat, ∃ s15c : Nat, rd w13 a14 (.slice s15a s15l s15c) ∧ ∃ a16, r1 = some a16 ∧ ∃ x17 : Int, rd w13 (a16.add 1) (.int .i64 x17) ∧ 0 ≤ (x17 : Int) ∧ (x17 : Int) < ((s15l : Nat) : Int) ∧ ∃ b18, s15a = some b18 ∧ ∃ x19 : Int, rd w13 (b18.add ((x17 : Int).toNat * 1)) (.int .u8 x19) ∧ T_wire_reader_byte_2 least2 most3 (IntKind.wrap .i64 x19) w13 (fun b26 w27 => T_wire_reader_byte_3 b26 w27 (fun w31 => ∃ a32, r1 = some a32 ∧ ∃ x33 : Int, rd w31 (a32.add 1) (.int .i64 x33) ∧ ∃ a34, r1 = some a34 ∧ (.int .i64 (IntKind.wrap .i64 ((x33 : Int) + 1)) : Value).cells.size = 1 ∧ wrOk w31 (a34.add 1) (.int .i64 (IntKind.wrap .i64 ((x33 : Int) + 1))) ∧ let w35 : World := wr w31 (a34.add 1) (.int .i64 (IntKind.wrap .i64 ((x33 : Int) + 1)))
  R (.returned (.int .i64 (IntKind.wrap .i64 x19))) w35) (pan R)) (pan R)) (pan R)

theorem T_wire_reader_byte_hl : allP (hokL Tryz.prog (hookAt [(13, H_wire_reader_byte_1), (60, H_wire_reader_byte_2), (61, H_wire_reader_byte_3)]) (bodyOf Tryz.f72) 1) = (UnitOk Tryz.prog H_wire_reader_byte_1 (at_ (bodyOf Tryz.f72) [1, 0, 1]) 13 ∧ UnitOk Tryz.prog H_wire_reader_byte_2 (at_ (bodyOf Tryz.f72) [1, 1, 1, 0, 0]) 60 ∧ UnitOk Tryz.prog H_wire_reader_byte_3 (at_ (bodyOf Tryz.f72) [1, 1, 1, 0, 1]) 61 ∧ True) := by kernel_rfl

theorem T_wire_reader_byte_eq (r1 : Option Addr) (least2 : Int) (most3 : Int) (w : World) (R : Ending → World → Prop) : vcCode Tryz.prog (hookAt [(13, H_wire_reader_byte_1), (60, H_wire_reader_byte_2), (61, H_wire_reader_byte_3)]) (bodyOf Tryz.f72) 1 ⟨argEnv [.pointer r1, .int .i64 least2, .int .i64 most3] 0, Tryz.f72.ntmps, []⟩ w (finQ Tryz.prog Tryz.f72.results.toList R) = T_wire_reader_byte r1 least2 most3 w R := by kernel_rfl

theorem T_wire_reader_byte_b : Tryz.f72.body = some (bodyOf Tryz.f72) := by kernel_rfl
theorem T_wire_reader_byte_s : (quietSel (bodyOf Tryz.f72) && Nat.ble 3 Tryz.f72.ntmps) = true := by kernel_rfl

theorem C_wire_reader_byte {r1 : Option Addr} {least2 : Int} {most3 : Int} {w : World} {R : Ending → World → Prop} (h : T_wire_reader_byte r1 least2 most3 w R) : Calls Tryz.prog 72 #[.pointer r1, .int .i64 least2, .int .i64 most3] w R :=
  calls_of_text (args := [.pointer r1, .int .i64 least2, .int .i64 most3]) mixed Tryz.func72 T_wire_reader_byte_b T_wire_reader_byte_s (HOk_of _ _ (by rw [T_wire_reader_byte_hl]; exact ⟨T_wire_reader_byte_1_ok, T_wire_reader_byte_2_ok, T_wire_reader_byte_3_ok, trivial⟩)) (by rw [T_wire_reader_byte_eq]; exact h)

/-! (*tollgate/wire.reader).number -/
def T_wire_reader_number_1 (e13 : Int) (b14 : Bool) (w : World) (Kn : World → Prop) (Kp : List PanicEntry → World → Prop) : Prop :=
  if b14 = true then (runV Tryz.prog (Instr.panic (.iface 200 (.int .i64 e13))) w (fun r15 w16 => Kn  w16) Kp) else (Kn  w)

def T_wire_reader_number_1_outs : Exit → Option (List (Nat × Value)) := fun x => match x with | .normal => some [] | .panic _ => some [] | _ => none

def T_wire_reader_number_1_ks : Nat → Bool := ksOf [23, 24]

def H_wire_reader_number_1 : Env → World → QT → Prop := unitHook 34 T_wire_reader_number_1_ks [(7, .int .i64 0), (22, .bool false)] T_wire_reader_number_1_outs fun l w C => match l with | [v0, v1] => T_wire_reader_number_1 (pInt v0) (pBool v1) w (fun w => C .normal [] w) (fun ch w => C (.panic ch) [] w) | _ => False

theorem T_wire_reader_number_1_hl : allP (hokL Tryz.prog (hookAt []) (at_ (bodyOf Tryz.f73) [1, 1, 0, 1]) 29) = (True) := by kernel_rfl
theorem T_wire_reader_number_1_hok : HOk Tryz.prog (hookAt []) (at_ (bodyOf Tryz.f73) [1, 1, 0, 1]) 29 := HOk_of _ _ (by rw [T_wire_reader_number_1_hl]; exact trivial)

theorem T_wire_reader_number_1_eq (C : Conts) (e13 : Int) (b14 : Bool) (w : World) : vcCode Tryz.prog (hookAt []) (at_ (bodyOf Tryz.f73) [1, 1, 0, 1]) 29 ⟨[(7, .int .i64 e13), (22, .bool b14)], 34, []⟩ w (unitQ T_wire_reader_number_1_outs C) = T_wire_reader_number_1 e13 b14 w (fun w => C .normal [] w) (fun ch w => C (.panic ch) [] w) := by kernel_rfl

theorem T_wire_reader_number_1_ok : UnitOk Tryz.prog H_wire_reader_number_1 (at_ (bodyOf Tryz.f73) [1, 1, 0, 1]) 29 := unit_ok (H := (hookAt [])) (by kernel_rfl) T_wire_reader_number_1_hok fun l w C hk => by
    obtain ⟨v0, l_v0, rfl, k_v0, hk_v0⟩ := Kinds.cons_ hk
    obtain ⟨e13, rfl⟩ := kind_int k_v0
    obtain ⟨v1, l_v1, rfl, k_v1, hk_v1⟩ := Kinds.cons_ hk_v0
    obtain ⟨b14, rfl⟩ := kind_bool k_v1
    obtain rfl := Kinds.nil_ hk_v1
    exact T_wire_reader_number_1_eq C e13 b14 w

def T_wire_reader_number (r1 : Option Addr) (least2 : Int) (w : World) (R : Ending → World → Prop) : Prop :=
  let w3 : World := w.drew
  ∃ a4, r1 = some a4 ∧ ∃ s5a : Option Addr, ∃ s5l : Nat, ∃ s5c : Nat, rd w3 a4 (.slice s5a s5l s5c) ∧ ∃ a6, r1 = some a6 ∧ ∃ x7 : Int, rd w3 (a6.add 1) (.int .i64 x7) ∧ Calls Tryz.prog 175 #[.slice s5a s5l s5c, .int .i64 x7] w3 (ret (fun r8 w9 => ∃ x10 : Int, ∃ x11 : Int, ∃ x12 : Int, r8 = .tuple #[.int .i64 x10, .int .i64 x11, .int .i64 x12] ∧ (True) ∧ T_wire_reader_number_1 x12 ((x12 : Int) != 0) w9 (fun w17 => if (decide ((x10 : Int) < least2)) = true then (runV Tryz.prog (Instr.panic (.iface 200 (.int .i64 4))) w17 (fun r18 w19 => ∃ a20, r1 = some a20 ∧ (.int .i64 x11 : Value).cells.size = 1 ∧ wrOk w19 (a20.add 1) (.int .i64 x11) ∧ let w21 : World := wr w19 (a20.add 1) (.int .i64 x11)
  R (.returned (.int .i64 x10)) w21) (pan R)) else (∃ a22, r1 = some a22 ∧ (.int .i64 x11 : Value).cells.size = 1 ∧ wrOk w17 (a22.add 1) (.int .i64 x11) ∧ let w23 : World := wr w17 (a22.add 1) (.int .i64 x11)
  R (.returned (.int .i64 x10)) w23)) (pan R)) (pan R))

theorem T_wire_reader_number_hl : allP (hokL Tryz.prog (hookAt [(29, H_wire_reader_number_1)]) (bodyOf Tryz.f73) 1) = (UnitOk Tryz.prog H_wire_reader_number_1 (at_ (bodyOf Tryz.f73) [1, 1, 0, 1]) 29 ∧ True) := by kernel_rfl

theorem T_wire_reader_number_eq (r1 : Option Addr) (least2 : Int) (w : World) (R : Ending → World → Prop) : vcCode Tryz.prog (hookAt [(29, H_wire_reader_number_1)]) (bodyOf Tryz.f73) 1 ⟨argEnv [.pointer r1, .int .i64 least2] 0, Tryz.f73.ntmps, []⟩ w (finQ Tryz.prog Tryz.f73.results.toList R) = T_wire_reader_number r1 least2 w R := by kernel_rfl

theorem T_wire_reader_number_b : Tryz.f73.body = some (bodyOf Tryz.f73) := by kernel_rfl
theorem T_wire_reader_number_s : (quietSel (bodyOf Tryz.f73) && Nat.ble 2 Tryz.f73.ntmps) = true := by kernel_rfl

theorem C_wire_reader_number {r1 : Option Addr} {least2 : Int} {w : World} {R : Ending → World → Prop} (h : T_wire_reader_number r1 least2 w R) : Calls Tryz.prog 73 #[.pointer r1, .int .i64 least2] w R :=
  calls_of_text (args := [.pointer r1, .int .i64 least2]) mixed Tryz.func73 T_wire_reader_number_b T_wire_reader_number_s (HOk_of _ _ (by rw [T_wire_reader_number_hl]; exact ⟨T_wire_reader_number_1_ok, trivial⟩)) (by rw [T_wire_reader_number_eq]; exact h)

/-! (*tollgate/wire.reader).data -/
def T_wire_reader_data_1 (b6 : Bool) (w : World) (Kn : World → Prop) (Kp : List PanicEntry → World → Prop) : Prop :=
  if b6 = true then (runV Tryz.prog (Instr.panic (.iface 200 (.int .i64 6))) w (fun r7 w8 => Kn  w8) Kp) else (Kn  w)

def T_wire_reader_data_1_outs : Exit → Option (List (Nat × Value)) := fun x => match x with | .normal => some [] | .panic _ => some [] | _ => none

def T_wire_reader_data_1_ks : Nat → Bool := ksOf [12]

def H_wire_reader_data_1 : Env → World → QT → Prop := unitHook 51 T_wire_reader_data_1_ks [(11, .bool false)] T_wire_reader_data_1_outs fun l w C => match l with | [v0] => T_wire_reader_data_1 (pBool v0) w (fun w => C .normal [] w) (fun ch w => C (.panic ch) [] w) | _ => False

theorem T_wire_reader_data_1_hl : allP (hokL Tryz.prog (hookAt []) (at_ (bodyOf Tryz.f75) [1, 1, 0, 1]) 29) = (True) := by kernel_rfl
theorem T_wire_reader_data_1_hok : HOk Tryz.prog (hookAt []) (at_ (bodyOf Tryz.f75) [1, 1, 0, 1]) 29 := HOk_of _ _ (by rw [T_wire_reader_data_1_hl]; exact trivial)

theorem T_wire_reader_data_1_eq (C : Conts) (b6 : Bool) (w : World) : vcCode Tryz.prog (hookAt []) (at_ (bodyOf Tryz.f75) [1, 1, 0, 1]) 29 ⟨[(11, .bool b6)], 51, []⟩ w (unitQ T_wire_reader_data_1_outs C) = T_wire_reader_data_1 b6 w (fun w => C .normal [] w) (fun ch w => C (.panic ch) [] w) := by kernel_rfl

theorem T_wire_reader_data_1_ok : UnitOk Tryz.prog H_wire_reader_data_1 (at_ (bodyOf Tryz.f75) [1, 1, 0, 1]) 29 := unit_ok (H := (hookAt [])) (by kernel_rfl) T_wire_reader_data_1_hok fun l w C hk => by
    obtain ⟨v0, l_v0, rfl, k_v0, hk_v0⟩ := Kinds.cons_ hk
    obtain ⟨b6, rfl⟩ := kind_bool k_v0
    obtain rfl := Kinds.nil_ hk_v0
    exact T_wire_reader_data_1_eq C b6 w

def T_wire_reader_data_2 (b15 : Bool) (w : World) (Kn : World → Prop) (Kp : List PanicEntry → World → Prop) : Prop :=
  if b15 = true then (runV Tryz.prog (Instr.panic (.iface 200 (.int .i64 3))) w (fun r16 w17 => Kn  w17) Kp) else (Kn  w)

def T_wire_reader_data_2_outs : Exit → Option (List (Nat × Value)) := fun x => match x with | .normal => some [] | .panic _ => some [] | _ => none

def T_wire_reader_data_2_ks : Nat → Bool := ksOf [25]

def H_wire_reader_data_2 : Env → World → QT → Prop := unitHook 51 T_wire_reader_data_2_ks [(24, .bool false)] T_wire_reader_data_2_outs fun l w C => match l with | [v0] => T_wire_reader_data_2 (pBool v0) w (fun w => C .normal [] w) (fun ch w => C (.panic ch) [] w) | _ => False

theorem T_wire_reader_data_2_hl : allP (hokL Tryz.prog (hookAt []) (at_ (bodyOf Tryz.f75) [1, 1, 1, 0, 1]) 61) = (True) := by kernel_rfl
theorem T_wire_reader_data_2_hok : HOk Tryz.prog (hookAt []) (at_ (bodyOf Tryz.f75) [1, 1, 1, 0, 1]) 61 := HOk_of _ _ (by rw [T_wire_reader_data_2_hl]; exact trivial)

theorem T_wire_reader_data_2_eq (C : Conts) (b15 : Bool) (w : World) : vcCode Tryz.prog (hookAt []) (at_ (bodyOf Tryz.f75) [1, 1, 1, 0, 1]) 61 ⟨[(24, .bool b15)], 51, []⟩ w (unitQ T_wire_reader_data_2_outs C) = T_wire_reader_data_2 b15 w (fun w => C .normal [] w) (fun ch w => C (.panic ch) [] w) := by kernel_rfl

theorem T_wire_reader_data_2_ok : UnitOk Tryz.prog H_wire_reader_data_2 (at_ (bodyOf Tryz.f75) [1, 1, 1, 0, 1]) 61 := unit_ok (H := (hookAt [])) (by kernel_rfl) T_wire_reader_data_2_hok fun l w C hk => by
    obtain ⟨v0, l_v0, rfl, k_v0, hk_v0⟩ := Kinds.cons_ hk
    obtain ⟨b15, rfl⟩ := kind_bool k_v0
    obtain rfl := Kinds.nil_ hk_v0
    exact T_wire_reader_data_2_eq C b15 w

def T_wire_reader_data (r1 : Option Addr) (most2 : Int) (w : World) (R : Ending → World → Prop) : Prop :=
  Calls Tryz.prog 73 #[.pointer r1, .int .i64 0] w (ret (fun r3 w4 => ∃ x5 : Int, r3 = .int .i64 x5 ∧ T_wire_reader_data_1 (decide ((x5 : Int) > most2)) w4 (fun w9 => let w10 : World := w9.drew
  ∃ a11, r1 = some a11 ∧ ∃ s12a : Option Addr, ∃ s12l : Nat, ∃ s12c : Nat, rd w10 a11 (.slice s12a s12l s12c) ∧ ∃ a13, r1 = some a13 ∧ ∃ x14 : Int, rd w10 (a13.add 1) (.int .i64 x14) ∧ T_wire_reader_data_2 (decide ((IntKind.wrap .i64 (((s12l : Nat) : Int) - x14) : Int) < x5)) w10 (fun w18 => let w19 : World := w18.drew
  ∃ a20, r1 = some a20 ∧ ∃ s21a : Option Addr, ∃ s21l : Nat, ∃ s21c : Nat, rd w19 a20 (.slice s21a s21l s21c) ∧ ∃ a22, r1 = some a22 ∧ ∃ x23 : Int, rd w19 (a22.add 1) (.int .i64 x23) ∧ ∃ a24, r1 = some a24 ∧ ∃ x25 : Int, rd w19 (a24.add 1) (.int .i64 x25) ∧ 0 ≤ (IntKind.wrap .i64 ((x25 : Int) + x5) : Int) ∧ (IntKind.wrap .i64 ((x25 : Int) + x5) : Int) ≤ ((s21c : Nat) : Int) ∧ 0 ≤ (x23 : Int) ∧ (x23 : Int) ≤ (((IntKind.wrap .i64 ((x25 : Int) + x5) : Int).toNat : Nat) : Int) ∧ runV Tryz.prog (Builtin.append_ #[23, 23] 23 #[.slice none 0 0, .slice (if s21c = ((x23 : Int).toNat) then s21a else s21a.map (fun x => x.add (((x23 : Int).toNat) * 1))) (((IntKind.wrap .i64 ((x25 : Int) + x5) : Int).toNat) - ((x23 : Int).toNat)) (s21c - ((x23 : Int).toNat))]) w19 (fun r26 w27 => ∃ s28a : Option Addr, ∃ s28l : Nat, ∃ s28c : Nat, r26 = .slice s28a s28l s28c ∧ (True) ∧ ∃ a29, r1 = some a29 ∧ ∃ x30 : Int, rd w27 (a29.add 1) (.int .i64 x30) ∧ ∃ a31, r1 = some a31 ∧ (.int .i64 (IntKind.wrap .i64 ((x30 : Int) + x5)) : Value).cells.size = 1 ∧ wrOk w27 (a31.add 1) (.int .i64 (IntKind.wrap .i64 ((x30 : Int) + x5))) ∧ let w32 : World := wr w27 (a31.add 1) (.int .i64 (IntKind.wrap .i64 ((x30 : Int) + x5)))
  R (.returned (.slice s28a s28l s28c)) w32) (pan R)) (pan R)) (pan R)) (pan R))

theorem T_wire_reader_data_hl : allP (hokL Tryz.prog (hookAt [(29, H_wire_reader_data_1), (61, H_wire_reader_data_2)]) (bodyOf Tryz.f75) 1) = (UnitOk Tryz.prog H_wire_reader_data_1 (at_ (bodyOf Tryz.f75) [1, 1, 0, 1]) 29 ∧ UnitOk Tryz.prog H_wire_reader_data_2 (at_ (bodyOf Tryz.f75) [1, 1, 1, 0, 1]) 61 ∧ True) := by kernel_rfl

theorem T_wire_reader_data_eq (r1 : Option Addr) (most2 : Int) (w : World) (R : Ending → World → Prop) : vcCode Tryz.prog (hookAt [(29, H_wire_reader_data_1), (61, H_wire_reader_data_2)]) (bodyOf Tryz.f75) 1 ⟨argEnv [.pointer r1, .int .i64 most2] 0, Tryz.f75.ntmps, []⟩ w (finQ Tryz.prog Tryz.f75.results.toList R) = T_wire_reader_data r1 most2 w R := by kernel_rfl

theorem T_wire_reader_data_b : Tryz.f75.body = some (bodyOf Tryz.f75) := by kernel_rfl
theorem T_wire_reader_data_s : (quietSel (bodyOf Tryz.f75) && Nat.ble 2 Tryz.f75.ntmps) = true := by kernel_rfl

theorem C_wire_reader_data {r1 : Option Addr} {most2 : Int} {w : World} {R : Ending → World → Prop} (h : T_wire_reader_data r1 most2 w R) : Calls Tryz.prog 75 #[.pointer r1, .int .i64 most2] w R :=
  calls_of_text (args := [.pointer r1, .int .i64 most2]) mixed Tryz.func75 T_wire_reader_data_b T_wire_reader_data_s (HOk_of _ _ (by rw [T_wire_reader_data_hl]; exact ⟨T_wire_reader_data_1_ok, T_wire_reader_data_2_ok, trivial⟩)) (by rw [T_wire_reader_data_eq]; exact h)

/-! (*tollgate/wire.reader).end -/
def T_wire_reader_end (r1 : Option Addr) (w : World) (R : Ending → World → Prop) : Prop :=
  let w2 : World := w.drew
  ∃ a3, r1 = some a3 ∧ ∃ x4 : Int, rd w2 (a3.add 1) (.int .i64 x4) ∧ ∃ a5, r1 = some a5 ∧ ∃ s6a : Option Addr, ∃ s6l : Nat, ∃ s6c : Nat, rd w2 a5 (.slice s6a s6l s6c) ∧ if (decide ((x4 : Int) < ((s6l : Nat) : Int))) = true then (runV Tryz.prog (Instr.panic (.iface 200 (.int .i64 4))) w2 (fun r7 w8 => R (.returned (.tuple #[])) w8) (pan R)) else (R (.returned (.tuple #[])) w2)

theorem T_wire_reader_end_hl : allP (hokL Tryz.prog (hookAt []) (bodyOf Tryz.f76) 1) = (True) := by kernel_rfl

theorem T_wire_reader_end_eq (r1 : Option Addr) (w : World) (R : Ending → World → Prop) : vcCode Tryz.prog (hookAt []) (bodyOf Tryz.f76) 1 ⟨argEnv [.pointer r1] 0, Tryz.f76.ntmps, []⟩ w (finQ Tryz.prog Tryz.f76.results.toList R) = T_wire_reader_end r1 w R := by kernel_rfl

theorem T_wire_reader_end_b : Tryz.f76.body = some (bodyOf Tryz.f76) := by kernel_rfl
theorem T_wire_reader_end_s : (quietSel (bodyOf Tryz.f76) && Nat.ble 1 Tryz.f76.ntmps) = true := by kernel_rfl

theorem C_wire_reader_end {r1 : Option Addr} {w : World} {R : Ending → World → Prop} (h : T_wire_reader_end r1 w R) : Calls Tryz.prog 76 #[.pointer r1] w R :=
  calls_of_text (args := [.pointer r1]) mixed Tryz.func76 T_wire_reader_end_b T_wire_reader_end_s (HOk_of _ _ (by rw [T_wire_reader_end_hl]; exact trivial)) (by rw [T_wire_reader_end_eq]; exact h)

end Go.Proofs.YtlomfgiokkhioaaGreatDoor

/-
  Commands and configurations as plain lists: which may be, their bytes, and how bytes are read. No program in sight.
-/
namespace Go.Cm
abbrev Bs := List UInt8
structure Tgt where
  addr : Bs
  w : Nat
deriving DecidableEq
structure Cmd where
  act : Int
  client : Int
  seq : Int
  expect : Int
  host : Bs
  pfx : Bs
  pool : Bs
  tg : List Tgt
deriving DecidableEq
structure Rt where
  host : Bs
  pfx : Bs
  pool : Bs
deriving DecidableEq
structure Pl where
  name : Bs
  tg : List Tgt
deriving DecidableEq
structure Last where
  client : Int
  seq : Int
  e : Int
  ver : Int
deriving DecidableEq
structure Sm where
  ver : Int
  routes : List Rt
  pools : List Pl
  l : List Last
deriving DecidableEq

/-! ### which may be -/
def small (c : UInt8) : Bool := decide (97 ≤ c.toNat ∧ c.toNat ≤ 122) || decide (48 ≤ c.toNat ∧ c.toNat ≤ 57) || decide (c.toNat = 45)
def isName (s : Bs) : Bool := decide (1 ≤ s.length ∧ s.length ≤ 64) && s.all small
/-- point: was the last one a point (or is there none yet)? -/
def hostRun : Bool → Bs → Bool
  | p, [] => !p
  | p, c :: r => (small c || (decide (c.toNat = 46) && !p)) && hostRun (decide (c.toNat = 46)) r
def isHost (s : Bs) : Bool := decide (1 ≤ s.length ∧ s.length ≤ 64) && hostRun true s
def seen (c : UInt8) : Bool := decide (33 ≤ c.toNat ∧ c.toNat ≤ 126)
def pfxB (c : UInt8) : Bool := seen c && !decide (c.toNat = 63) && !decide (c.toNat = 35)
def isPfx (s : Bs) : Bool := decide (1 ≤ s.length ∧ s.length ≤ 128) && s.all pfxB && decide (s.head? = some 47)
def isAddr (s : Bs) : Bool := decide (1 ≤ s.length ∧ s.length ≤ 64) && s.all seen
def isW (w : Nat) : Bool := decide (w < 9218868437227405312)
def chkT (l : List Tgt) : Int :=
  if !l.all (fun t => isAddr t.addr) then 14 else if !l.all (fun t => isW t.w) then 15 else if 16 < l.length then 6 else 0
def usesPool (a : Int) : Bool := decide (a = 1) || decide (a = 2) || decide (a = 3)
def usesRoute (a : Int) : Bool := decide (a = 3) || decide (a = 4)
def seqOk (c : Cmd) : Bool := if c.client = 0 then decide (c.seq = 0) else decide (1 ≤ c.seq ∧ c.seq ≤ 1099511627776)
def argBad (c : Cmd) : Bool :=
  (!usesPool c.act && !usesRoute c.act) || decide (c.client < 0) || decide (32 < c.client) || !seqOk c || decide (c.expect < -1) || decide (1099511627776 ≤ c.expect) ||
  (!usesPool c.act && decide (c.pool ≠ [])) || (!usesRoute c.act && (decide (c.host ≠ []) || decide (c.pfx ≠ []))) || (decide (c.act ≠ 1) && decide (0 < c.tg.length))
def nameBad (c : Cmd) : Bool := (usesPool c.act && !isName c.pool) || (usesRoute c.act && (!isHost c.host || !isPfx c.pfx))
def chk (c : Cmd) : Int := if argBad c then 2 else if nameBad c then 14 else chkT c.tg

/-! ### bytes -/
def encNF : Nat → Nat → Bs
  | 0, n => [UInt8.ofNat n]
  | k + 1, n => if n < 128 then [UInt8.ofNat n] else UInt8.ofNat (n % 128 + 128) :: encNF k (n / 128)
def num (n : Int) : Bs := if n < 0 ∨ 1099511627776 < n then [] else encNF 5 n.toNat
def text (s : Bs) : Bs := num s.length ++ s
def f64 (w : Nat) : Bs := [UInt8.ofNat (w / 2 ^ 56), UInt8.ofNat (w / 2 ^ 48), UInt8.ofNat (w / 2 ^ 40), UInt8.ofNat (w / 2 ^ 32), UInt8.ofNat (w / 2 ^ 24), UInt8.ofNat (w / 2 ^ 16), UInt8.ofNat (w / 2 ^ 8), UInt8.ofNat w]
def tgt (t : Tgt) : Bs := text t.addr ++ f64 t.w
def tgs (l : List Tgt) : Bs := num l.length ++ l.flatMap tgt
def putC (c : Cmd) : Bs := num c.act ++ (num c.client ++ (num c.seq ++ (num (c.expect + 1) ++ (text c.host ++ (text c.pfx ++ (text c.pool ++ tgs c.tg))))))
def plB (p : Pl) : Bs := text p.name ++ tgs p.tg
def rtB (r : Rt) : Bs := text r.host ++ (text r.pfx ++ text r.pool)
def laB (x : Last) : Bs := num x.client ++ (num x.seq ++ (num x.e ++ num x.ver))
def confB (pools : List Pl) (routes : List Rt) : Bs := num pools.length ++ (pools.flatMap plB ++ (num routes.length ++ routes.flatMap rtB))
def putS (s : Sm) : Bs := num s.ver ++ (confB s.pools s.routes ++ (num s.l.length ++ s.l.flatMap laB))

/-! ### reading -/
abbrev Ps := Except Int Bs
def takeGo (k n : Nat) : Bs → Except Int (Nat × Bs)
  | [] => .error 3
  | c :: r => if 128 ≤ c.toNat then (if k = 5 then .error 6 else takeGo (k + 1) (n + c.toNat % 128 * 128 ^ k) r)
    else if c.toNat = 0 ∧ 0 < k then .error 4 else if 1099511627776 < n + c.toNat % 128 * 128 ^ k then .error 6 else .ok (n + c.toNat % 128 * 128 ^ k, r)
def rNum (most : Nat) : Ps → Nat × Ps
  | .error e => (0, .error e)
  | .ok r => match takeGo 0 0 r with
    | .error e => (0, .error e)
    | .ok (n, r') => if most < n then (0, .error 6) else (n, .ok r')
def rRow (n : Nat) : Ps → Bs × Ps
  | .error e => ([], .error e)
  | .ok r => if r.length < n then ([], .error 3) else (r.take n, .ok (r.drop n))
def rText (s : Ps) : Bs × Ps := rRow (rNum 128 s).1 (rNum 128 s).2
def bits (l : Bs) : Nat := l.foldl (fun n c => n * 256 + c.toNat) 0
def bad : Ps → Bool
  | .error _ => true
  | .ok _ => false
/-- n times, up to the first fault. -/
def rMany {α : Type} (f : Ps → α × Ps) : Nat → Ps → List α × Ps
  | 0, s => ([], s)
  | n + 1, s => if bad s then ([], s) else ((f s).1 :: (rMany f n (f s).2).1, (rMany f n (f s).2).2)
def rTgt (s : Ps) : Tgt × Ps := (⟨(rText s).1, bits (rRow 8 (rText s).2).1⟩, (rRow 8 (rText s).2).2)
def rTgs (s : Ps) : List Tgt × Ps := rMany rTgt (rNum 16 s).1 (rNum 16 s).2
def maxN : Nat := 1099511627776
def rCmd (b : Bs) : Cmd × Ps :=
  let a := rNum maxN (.ok b)
  let c := rNum maxN a.2
  let q := rNum maxN c.2
  let x := rNum maxN q.2
  let h := rText x.2
  let p := rText h.2
  let o := rText p.2
  let t := rTgs o.2
  (⟨a.1, c.1, q.1, (x.1 : Int) - 1, h.1, p.1, o.1, t.1⟩, t.2)
def getC (b : Bs) : Except Int Cmd :=
  match (rCmd b).2 with
  | .error e => .error e
  | .ok r => if r ≠ [] ∨ chk (rCmd b).1 ≠ 0 then .error 4 else .ok (rCmd b).1
def rPl (s : Ps) : Pl × Ps := (⟨(rText s).1, (rTgs (rText s).2).1⟩, (rTgs (rText s).2).2)
def rRt (s : Ps) : Rt × Ps := (⟨(rText s).1, (rText (rText s).2).1, (rText (rText (rText s).2).2).1⟩, (rText (rText (rText s).2).2).2)
def rLa (s : Ps) : Last × Ps :=
  let k := rNum maxN s
  let q := rNum maxN k.2
  let e := rNum maxN q.2
  let v := rNum maxN e.2
  (⟨k.1, q.1, e.1, v.1⟩, v.2)
def rSm (b : Bs) : Sm × Ps :=
  let v := rNum maxN (.ok b)
  let n := rNum 32 v.2
  let p := rMany rPl n.1 n.2
  let m := rNum 64 p.2
  let r := rMany rRt m.1 m.2
  let k := rNum 32 r.2
  let l := rMany rLa k.1 k.2
  (⟨v.1, r.1, p.1, l.1⟩, l.2)
def rtLt (a b : Rt) : Bool := decide (a.host < b.host) || (decide (a.host = b.host) && decide (a.pfx < b.pfx))
/-- Each one ahead of the next. -/
def rises {α : Type} (lt : α → α → Bool) : List α → Bool
  | [] => true
  | [_] => true
  | a :: b :: r => lt a b && rises lt (b :: r)
def told (e : Int) : Bool := decide (e = 0) || decide (e = 6) || decide (e = 8) || decide (e = 12) || decide (e = 13)
def rightL (v : Int) (x : Last) : Bool := decide (1 ≤ x.client ∧ x.client ≤ 32) && decide (1 ≤ x.seq) && told x.e && decide (x.ver ≤ v)
def right (s : Sm) : Bool :=
  (s.pools.all (fun p => isName p.name && decide (chkT p.tg = 0)) && rises (fun a b => decide (a.name < b.name)) s.pools) &&
  (s.routes.all (fun r => s.pools.any (fun p => decide (p.name = r.pool)) && isHost r.host && isPfx r.pfx) && rises rtLt s.routes) &&
  (s.l.all (rightL s.ver) && rises (fun a b => decide (a.client < b.client)) s.l) && decide ((confB s.pools s.routes).length ≤ 12000)
def load (b : Bs) : Except Int Sm :=
  match (rSm b).2 with
  | .error e => .error e
  | .ok r => if r ≠ [] ∨ right (rSm b).1 = false then .error 4 else .ok (rSm b).1

/-! ### what is put is got, and the other way round -/
theorem toNat_of (n : Nat) (h : n < 256) : (UInt8.ofNat n).toNat = n := by simp; omega
theorem take_enc : ∀ (j k acc m : Nat) (r : Bs), m < 128 ^ (j + 1) → k + j ≤ 5 → (0 < m ∨ k = 0) → acc + m * 128 ^ k ≤ 1099511627776 → takeGo k acc (encNF j m ++ r) = .ok (acc + m * 128 ^ k, r)
  | 0, k, acc, m, r, h1, _, h3, h4 => by
    have hm : m < 128 := by simpa using h1
    have e : (UInt8.ofNat m).toNat = m := toNat_of m (by omega)
    simp only [encNF, List.cons_append, List.nil_append, takeGo, e]
    rw [if_neg (by omega), if_neg (by omega), Nat.mod_eq_of_lt hm, if_neg (by omega)]
  | j + 1, k, acc, m, r, h1, h2, h3, h4 => by
    unfold encNF
    by_cases hm : m < 128
    · have e : (UInt8.ofNat m).toNat = m := toNat_of m (by omega)
      rw [if_pos hm]
      simp only [List.cons_append, List.nil_append, takeGo, e]
      rw [if_neg (by omega), if_neg (by omega), Nat.mod_eq_of_lt hm, if_neg (by omega)]
    · have e : (UInt8.ofNat (m % 128 + 128)).toNat = m % 128 + 128 := toNat_of _ (by omega)
      rw [if_neg hm]
      simp only [List.cons_append, takeGo, e]
      rw [if_pos (by omega), if_neg (by omega)]
      have e2 : (m % 128 + 128) % 128 = m % 128 := by omega
      have e3 : m / 128 * 128 ^ (k + 1) = 128 * (m / 128) * 128 ^ k := by rw [Nat.pow_succ]; simp only [Nat.mul_assoc, Nat.mul_comm, Nat.mul_left_comm]
      have e4 : m * 128 ^ k = m % 128 * 128 ^ k + 128 * (m / 128) * 128 ^ k := by rw [← Nat.add_mul, Nat.mod_add_div]
      rw [e2, take_enc j (k + 1) (acc + m % 128 * 128 ^ k) (m / 128) r (by rw [Nat.div_lt_iff_lt_mul (by decide)]; rwa [Nat.pow_succ] at h1) (by omega) (.inl (by omega)) (by rw [e3]; omega), e3, Nat.add_assoc, ← e4]
theorem enc_take : ∀ (b : Bs) (k acc n : Nat) (r : Bs), k ≤ 5 → takeGo k acc b = .ok (n, r) → ∃ m, b = encNF (5 - k) m ++ r ∧ n = acc + m * 128 ^ k ∧ m < 128 ^ (6 - k) ∧ (0 < m ∨ k = 0) ∧ n ≤ 1099511627776
  | [], _, _, _, _, _, h => by simp [takeGo] at h
  | c :: b, k, acc, n, r, hk, h => by
    unfold takeGo at h
    split at h
    · rename_i hc
      split at h
      · cases h
      · rename_i hk5
        obtain ⟨m, rfl, rfl, h3, h4, h5⟩ := enc_take b (k + 1) _ n r (by omega) h
        have hlt := c.toNat_lt
        have hm : 0 < m := by omega
        refine ⟨c.toNat % 128 + 128 * m, ?_, ?_, ?_, .inl (by omega), h5⟩
        · rw [show 5 - k = 5 - (k + 1) + 1 from by omega]
          conv => rhs; unfold encNF
          rw [if_neg (by omega), show (c.toNat % 128 + 128 * m) % 128 + 128 = c.toNat from by omega, show (c.toNat % 128 + 128 * m) / 128 = m from by omega]
          simp
        · rw [Nat.add_mul, Nat.pow_succ]
          simp only [Nat.mul_assoc, Nat.mul_comm, Nat.add_assoc]
        · rw [show 6 - k = 6 - (k + 1) + 1 from by omega, Nat.pow_succ]
          have := h3; omega
    · rename_i hc
      split at h
      · cases h
      · rename_i h0
        split at h
        · cases h
        · rename_i hn
          injection h with h
          injection h with h1 h2
          subst h1; subst h2
          have e : c.toNat % 128 = c.toNat := Nat.mod_eq_of_lt (by omega)
          refine ⟨c.toNat, ?_, by rw [e], ?_, by omega, by omega⟩
          · have : encNF (5 - k) c.toNat = [UInt8.ofNat c.toNat] := by
              cases 5 - k with
              | zero => rfl
              | succ j => unfold encNF; rw [if_pos (by omega)]
            rw [this]; simp
          · have : 128 ^ 1 ≤ 128 ^ (6 - k) := Nat.pow_le_pow_right (by decide) (by omega)
            omega
theorem rNum_put {most n : Nat} (h : n ≤ most) (h2 : n ≤ 1099511627776) (r : Bs) : rNum most (.ok (num n ++ r)) = (n, .ok r) := by
  have := take_enc 5 0 0 n r (by omega) (by omega) (.inr rfl) (by omega)
  simp only [rNum, num]
  rw [if_neg (by omega), Int.toNat_natCast, this]
  simp only [Nat.zero_add, Nat.pow_zero, Nat.mul_one]
  rw [if_neg (by omega)]
theorem rNum_got {most n : Nat} {s : Ps} {r : Bs} (h : rNum most s = (n, .ok r)) : s = .ok (num n ++ r) ∧ n ≤ most ∧ n ≤ 1099511627776 := by
  cases s with
  | error e => simp [rNum] at h
  | ok b =>
    simp only [rNum] at h
    split at h
    · simp at h
    · rename_i n' r' ht
      split at h
      · simp at h
      · simp only [Prod.mk.injEq, Except.ok.injEq] at h
        obtain ⟨rfl, rfl⟩ := h
        obtain ⟨m, rfl, rfl, h3, h4, h5⟩ := enc_take b 0 0 _ _ (by omega) ht
        simp only [Nat.zero_add, Nat.pow_zero, Nat.mul_one] at *
        exact ⟨by simp only [num]; rw [if_neg (by omega), Int.toNat_natCast], by omega, h5⟩
theorem rText_put {s : Bs} (h : s.length ≤ 128) (r : Bs) : rText (.ok (text s ++ r)) = (s, .ok r) := by
  simp only [rText, text, List.append_assoc]
  rw [rNum_put h (by omega)]
  simp [rRow]
theorem rRow_got {n : Nat} {s : Ps} {x r : Bs} (h : rRow n s = (x, .ok r)) : s = .ok (x ++ r) ∧ x.length = n := by
  cases s with
  | error e => simp [rRow] at h
  | ok b =>
    simp only [rRow] at h
    split at h
    · simp at h
    · simp only [Prod.mk.injEq, Except.ok.injEq] at h
      obtain ⟨rfl, rfl⟩ := h
      exact ⟨by rw [List.take_append_drop], by rw [List.length_take]; omega⟩
theorem rText_got {s : Ps} {x r : Bs} (h : rText s = (x, .ok r)) : s = .ok (text x ++ r) ∧ x.length ≤ 128 := by
  unfold rText at h
  obtain ⟨h1, h2⟩ := rRow_got h
  obtain ⟨h3, h4, _⟩ := rNum_got (n := (rNum 128 s).1) (r := x ++ r) (Prod.ext rfl h1)
  refine ⟨by rw [h3, text, h2, List.append_assoc], by omega⟩
theorem bits8 (a b c d e f g h : UInt8) : f64 (bits [a, b, c, d, e, f, g, h]) = [a, b, c, d, e, f, g, h] := by
  have ha := a.toNat_lt; have hb := b.toNat_lt; have hc := c.toNat_lt; have hd := d.toNat_lt
  have he := e.toNat_lt; have hf := f.toNat_lt; have hg := g.toNat_lt; have hh := h.toNat_lt
  have q : ∀ (x : UInt8) (n : Nat), n % 256 = x.toNat → UInt8.ofNat n = x := fun x n hn => by
    apply UInt8.toNat_inj.1; simpa using hn
  simp only [bits, List.foldl_cons, List.foldl_nil, f64, List.cons.injEq, and_true]
  refine ⟨q _ _ ?_, q _ _ ?_, q _ _ ?_, q _ _ ?_, q _ _ ?_, q _ _ ?_, q _ _ ?_, q _ _ ?_⟩ <;> omega
theorem f64_bits {l : Bs} (h : l.length = 8) : f64 (bits l) = l := by
  match l, h with
  | [a, b, c, d, e, f, g, i], _ => exact bits8 a b c d e f g i
theorem bits_f64 {w : Nat} (h : w < 2 ^ 64) : bits (f64 w) = w := by
  have q : ∀ n : Nat, (UInt8.ofNat n).toNat = n % 256 := fun n => by simp
  simp only [bits, f64, List.foldl_cons, List.foldl_nil, q]
  omega
theorem bits_lt {l : Bs} (h : l.length = 8) : bits l < 2 ^ 64 := by
  match l, h with
  | [a, b, c, d, e, f, g, i], _ =>
    have ha := a.toNat_lt; have hb := b.toNat_lt; have hc := c.toNat_lt; have hd := d.toNat_lt
    have he := e.toNat_lt; have hf := f.toNat_lt; have hg := g.toNat_lt; have hh := i.toNat_lt
    simp only [bits, List.foldl_cons, List.foldl_nil]; omega
theorem f64_len (w : Nat) : (f64 w).length = 8 := rfl
theorem rTgt_put {t : Tgt} (h : t.addr.length ≤ 128) (hw : t.w < 2 ^ 64) (r : Bs) : rTgt (.ok (tgt t ++ r)) = (t, .ok r) := by
  have e1 := rText_put h (f64 t.w ++ r)
  unfold rTgt tgt
  rw [List.append_assoc, e1]
  have e2 : rRow 8 (.ok (f64 t.w ++ r)) = (f64 t.w, .ok r) := by
    unfold rRow
    simp only []
    rw [if_neg (by rw [List.length_append, f64_len]; omega), show (f64 t.w ++ r).take 8 = f64 t.w from List.take_left' (f64_len _), show (f64 t.w ++ r).drop 8 = r from List.drop_left' (f64_len _)]
  simp only [e2, bits_f64 hw]
theorem rTgt_got {s : Ps} {t : Tgt} {r : Bs} (h : rTgt s = (t, .ok r)) : s = .ok (tgt t ++ r) ∧ t.addr.length ≤ 128 ∧ t.w < 2 ^ 64 := by
  simp only [rTgt, Prod.mk.injEq] at h
  obtain ⟨rfl, h2⟩ := h
  obtain ⟨h3, h4⟩ := rRow_got (x := (rRow 8 (rText s).2).1) (r := r) (Prod.ext rfl h2)
  obtain ⟨h5, h6⟩ := rText_got (s := s) (x := (rText s).1) (r := (rRow 8 (rText s).2).1 ++ r) (Prod.ext rfl h3)
  exact ⟨h5.trans (by simp only [tgt]; rw [f64_bits h4, List.append_assoc]), h6, bits_lt h4⟩
theorem rMany_put {α : Type} {f : Ps → α × Ps} {g : α → Bs} : ∀ (l : List α) (r : Bs), (∀ a ∈ l, ∀ r, f (.ok (g a ++ r)) = (a, .ok r)) → rMany f l.length (.ok (l.flatMap g ++ r)) = (l, .ok r)
  | [], r, _ => rfl
  | a :: l, r, h => by
    have e := h a List.mem_cons_self (l.flatMap g ++ r)
    have ih := rMany_put (f := f) (g := g) l r fun b hb => h b (List.mem_cons_of_mem _ hb)
    simp only [List.length_cons, rMany, List.flatMap_cons, List.append_assoc, e, ih]
    rw [if_neg (by simp [bad])]
theorem rMany_got {α : Type} {f : Ps → α × Ps} {g : α → Bs} {good : α → Prop} (hf : ∀ s a r, f s = (a, .ok r) → s = .ok (g a ++ r) ∧ good a) :
    ∀ (n : Nat) (s : Ps) (l : List α) (r : Bs), rMany f n s = (l, .ok r) → s = .ok (l.flatMap g ++ r) ∧ l.length = n ∧ ∀ a ∈ l, good a
  | 0, s, l, r, h => by
    simp only [rMany, Prod.mk.injEq] at h
    obtain ⟨rfl, rfl⟩ := h
    exact ⟨rfl, rfl, fun a ha => by cases ha⟩
  | n + 1, s, l, r, h => by
    unfold rMany at h
    split at h
    · rename_i hb
      simp only [Prod.mk.injEq] at h
      obtain ⟨rfl, rfl⟩ := h
      simp [bad] at hb
    · simp only [Prod.mk.injEq] at h
      obtain ⟨rfl, h2⟩ := h
      obtain ⟨h3, h4, h5⟩ := rMany_got hf n (f s).2 (rMany f n (f s).2).1 r (Prod.ext rfl h2)
      obtain ⟨h6, h7⟩ := hf s (f s).1 _ (Prod.ext rfl h3)
      refine ⟨h6.trans (by simp), by simp [h4], fun a ha => ?_⟩
      rcases List.mem_cons.1 ha with rfl | ha
      · exact h7
      · exact h5 a ha
def goodT (t : Tgt) : Prop := t.addr.length ≤ 128 ∧ t.w < 2 ^ 64
theorem rTgs_put {l : List Tgt} (h : ∀ t ∈ l, goodT t) (hl : l.length ≤ 16) (r : Bs) : rTgs (.ok (tgs l ++ r)) = (l, .ok r) := by
  unfold rTgs tgs
  rw [List.append_assoc, rNum_put hl (by omega)]
  exact rMany_put l r fun t ht r => rTgt_put (h t ht).1 (h t ht).2 r
theorem rTgs_got {s : Ps} {l : List Tgt} {r : Bs} (h : rTgs s = (l, .ok r)) : s = .ok (tgs l ++ r) ∧ (∀ t ∈ l, goodT t) ∧ l.length ≤ 16 := by
  obtain ⟨h1, h2, h3⟩ := rMany_got (g := tgt) (good := goodT) (fun s a r h => rTgt_got h) _ _ _ _ h
  obtain ⟨h4, h5, _⟩ := rNum_got (n := (rNum 16 s).1) (Prod.ext rfl h1)
  exact ⟨h4.trans (by rw [tgs, h2, List.append_assoc]), h3, by omega⟩
theorem got_of {α : Type} {p : α × Ps} {r : Bs} (h : p.2 = .ok r) : p = (p.1, .ok r) := Prod.ext rfl h
/-! ### the checks' own bounds -/
theorem chk_zero {c : Cmd} (h : chk c = 0) : argBad c = false ∧ nameBad c = false ∧ chkT c.tg = 0 := by
  unfold chk at h
  cases h1 : argBad c <;> cases h2 : nameBad c <;> simp_all
theorem chkT_zero {l : List Tgt} (h : chkT l = 0) : (∀ t ∈ l, isAddr t.addr = true ∧ isW t.w = true) ∧ l.length ≤ 16 := by
  unfold chkT at h
  cases h1 : l.all (fun t => isAddr t.addr) <;> cases h2 : l.all (fun t => isW t.w) <;> simp [h1, h2] at h
  refine ⟨fun t ht => ⟨?_, ?_⟩, by omega⟩
  · exact List.all_eq_true.1 h1 t ht
  · exact List.all_eq_true.1 h2 t ht
theorem chkT_good {l : List Tgt} (h : chkT l = 0) : ∀ t ∈ l, goodT t := fun t ht => by
  obtain ⟨h1, h2⟩ := (chkT_zero h).1 t ht
  simp only [isAddr, Bool.and_eq_true, decide_eq_true_eq] at h1
  simp only [isW, decide_eq_true_eq] at h2
  exact ⟨by omega, by omega⟩
theorem name_len {s : Bs} (h : isName s = true) : 1 ≤ s.length ∧ s.length ≤ 64 := by
  simp only [isName, Bool.and_eq_true, decide_eq_true_eq] at h; exact h.1
theorem host_len {s : Bs} (h : isHost s = true) : 1 ≤ s.length ∧ s.length ≤ 64 := by
  simp only [isHost, Bool.and_eq_true, decide_eq_true_eq] at h; exact h.1
theorem pfx_len {s : Bs} (h : isPfx s = true) : 1 ≤ s.length ∧ s.length ≤ 128 := by
  simp only [isPfx, Bool.and_eq_true, decide_eq_true_eq] at h; exact h.1.1
structure Fine (c : Cmd) : Prop where
  a : 1 ≤ c.act ∧ c.act ≤ 4
  cl : 0 ≤ c.client ∧ c.client ≤ 32
  sq : 0 ≤ c.seq ∧ c.seq ≤ 1099511627776
  ex : -1 ≤ c.expect ∧ c.expect < 1099511627776
  h : c.host.length ≤ 64
  p : c.pfx.length ≤ 128
  o : c.pool.length ≤ 64
  t : chkT c.tg = 0
theorem chk_fine {c : Cmd} (h : chk c = 0) : Fine c := by
  obtain ⟨h1, h2, h3⟩ := chk_zero h
  simp only [argBad, Bool.or_eq_false_iff] at h1
  obtain ⟨⟨⟨⟨⟨⟨⟨⟨a1, a2⟩, a3⟩, a4⟩, a5⟩, a6⟩, a7⟩, a8⟩, a9⟩ := h1
  simp only [decide_eq_false_iff_not] at a2 a3 a5 a6
  have ha : 1 ≤ c.act ∧ c.act ≤ 4 := by
    simp [usesPool, usesRoute] at a1
    omega
  have hs : 0 ≤ c.seq ∧ c.seq ≤ 1099511627776 := by
    simp only [seqOk, Bool.not_eq_false'] at a4
    split at a4 <;> simp at a4 <;> omega
  simp only [nameBad, Bool.or_eq_false_iff] at h2
  have hp : c.pool.length ≤ 64 := by
    cases hu : usesPool c.act
    · simp [hu] at a7; simp [a7]
    · simp [hu] at h2; have := name_len h2.1; omega
  have hr : c.host.length ≤ 64 ∧ c.pfx.length ≤ 128 := by
    cases hu : usesRoute c.act
    · simp [hu] at a8; simp [a8.1, a8.2]
    · simp [hu] at h2; have := host_len h2.2.1; have := pfx_len h2.2.2; omega
  exact ⟨ha, by omega, hs, by omega, hr.1, hr.2, hp, h3⟩
theorem getC_putC {c : Cmd} (h : chk c = 0) : getC (putC c) = .ok c := by
  have f := chk_fine h
  obtain ⟨act, client, seq, expect, host, pfx, pool, tg⟩ := c
  obtain ⟨a, ha⟩ : ∃ a : Nat, act = a := ⟨act.toNat, by have := f.a; simp at this; omega⟩
  obtain ⟨b, hb⟩ : ∃ a : Nat, client = a := ⟨client.toNat, by have := f.cl; simp at this; omega⟩
  obtain ⟨q, hq⟩ : ∃ a : Nat, seq = a := ⟨seq.toNat, by have := f.sq; simp at this; omega⟩
  obtain ⟨x, hx⟩ : ∃ a : Nat, expect + 1 = a := ⟨(expect + 1).toNat, by have := f.ex; simp at this; omega⟩
  have fa := f.a; have fc := f.cl; have fs := f.sq; have fx := f.ex; have fh := f.h; have fp := f.p; have fo := f.o; have ft := f.t
  simp only at fa fc fs fx fh fp fo ft
  subst ha; subst hb; subst hq
  have hr : rCmd (putC ⟨a, b, q, expect, host, pfx, pool, tg⟩) = (⟨a, b, q, expect, host, pfx, pool, tg⟩, .ok []) := by
    simp only [rCmd, putC, maxN, hx]
    rw [rNum_put (n := a) (by omega) (by omega), rNum_put (n := b) (by omega) (by omega), rNum_put (n := q) (by omega) (by omega), rNum_put (n := x) (by omega) (by omega), rText_put (by omega), rText_put (by omega), rText_put (by omega)]
    have := rTgs_put (chkT_good ft) (chkT_zero ft).2 []
    rw [List.append_nil] at this
    rw [this]
    simp only [Prod.mk.injEq, Cmd.mk.injEq, true_and, and_true]
    omega
  simp only [getC, hr]
  rw [if_neg (by simp [h])]
theorem putC_getC {b : Bs} {c : Cmd} (h : getC b = .ok c) : chk c = 0 ∧ putC c = b := by
  unfold getC at h
  split at h
  · cases h
  · rename_i r hr
    split at h
    · cases h
    · rename_i hn
      injection h with h
      have hr2 : r = [] ∧ chk (rCmd b).1 = 0 := by
        constructor
        · cases r with
          | nil => rfl
          | cons _ _ => exact absurd (Or.inl (by simp)) hn
        · cases Decidable.em (chk (rCmd b).1 = 0) with
          | inl h => exact h
          | inr h => exact absurd (Or.inr h) hn
      obtain ⟨rfl, hz⟩ := hr2
      subst h
      refine ⟨hz, ?_⟩
      simp only [rCmd] at hr ⊢
      obtain ⟨t1, _, _⟩ := rTgs_got (got_of hr)
      obtain ⟨o1, _⟩ := rText_got (got_of t1)
      obtain ⟨p1, _⟩ := rText_got (got_of o1)
      obtain ⟨h1, _⟩ := rText_got (got_of p1)
      obtain ⟨x1, _⟩ := rNum_got (got_of h1)
      obtain ⟨q1, _⟩ := rNum_got (got_of x1)
      obtain ⟨c1, _⟩ := rNum_got (got_of q1)
      obtain ⟨a1, _⟩ := rNum_got (got_of c1)
      injection a1 with a1
      simp only [putC]
      rw [show ∀ n : Nat, ((n : Int) - 1 + 1) = n from fun n => by omega]
      rw [List.append_nil] at a1
      exact a1.symm
end Go.Cm

/-
  Which names, hosts, prefixes, addresses, weights may be: the program's functions and the document's.
-/
namespace Go.Vc
open Go Go.Proofs Go.Proofs.YtlomfgiokkhioaaGreatDoor
set_option maxRecDepth 100000

abbrev Sl := Option Addr × Nat × Nat
/-- As many bytes as a row can be made of; as many as a string that came in may have. -/
abbrev big : Nat := 140737488355328
abbrev huge : Nat := 9223372036854775807
def bs (s : Cm.Bs) : ByteArray := ⟨s.toArray⟩
theorem bs_toList (s : Cm.Bs) : (bs s).toList = s := toList_mk s
theorem bs_size (s : Cm.Bs) : (bs s).size = s.length := by simp [bs, ByteArray.size]
theorem bs_get (s : Cm.Bs) (i : Nat) : (bs s)[i]? = s[i]? := by
  show (getElem? (bs s) i) = _
  by_cases h : i < s.length
  · rw [getElem?_pos (bs s) i (by rw [bs_size]; exact h), List.getElem?_eq_getElem h]
    rfl
  · rw [getElem?_neg (bs s) i (by rw [bs_size]; exact h), List.getElem?_eq_none (by omega)]
theorem bs_of (b : ByteArray) : bs b.data.toList = b := by cases b; rfl
theorem bs_nil : bs [] = ByteArray.mk #[] := rfl
theorem toList_nil : (ByteArray.mk #[]).toList = [] := toList_mk []
theorem bs_inj {a b : Cm.Bs} (h : bs a = bs b) : a = b := by have := congrArg ByteArray.toList h; rwa [bs_toList, bs_toList] at this
theorem cong {α : Type} {K : α → World → Prop} {w : World} {a b : α} (k : K a w) (h : a = b) : K b w := h ▸ k
theorem congR {R : Ending → World → Prop} {w : World} {a b : Value} (k : R (.returned a) w) (h : a = b) : R (.returned b) w := h ▸ k
theorem congB {R : Ending → World → Prop} {w : World} {a b : Bool} (k : R (.returned (.bool a)) w) (h : a = b) : R (.returned (.bool b)) w := h ▸ k
theorem congI {R : Ending → World → Prop} {w : World} {q : IntKind} {a b : Int} (k : R (.returned (.int q a)) w) (h : a = b) : R (.returned (.int q b)) w := h ▸ k
theorem succ_big {j : Nat} (h : j < big) : IntKind.wrap .i64 ((j : Int) + 1) = ((j + 1 : Nat) : Int) := by rw [wrap_id (by omega) (by unfold big at h; omega)]; omega
theorem succ_huge {j : Nat} (h : j < huge) : IntKind.wrap .i64 ((j : Int) + 1) = ((j + 1 : Nat) : Int) := by rw [wrap_id (by omega) (by unfold huge at h; omega)]; omega

section
variable {E w : World} {L : List Asrt} {R : Ending → World → Prop}

/-! ### one byte, and each one -/
theorem small_spec {c : UInt8} (h : St E L w) (k : ∀ w', St E L w' → R (.returned (.bool (Cm.small c))) w') : Calls Tryz.prog 202 #[.int .u8 ((c.toNat : Nat) : Int)] w R := by
  refine C_conf_small ?_
  unfold T_conf_small
  have q := k w h
  have hq : ∀ b : Bool, Cm.small c = b → R (.returned (.bool b)) w := fun b hb => hb ▸ q
  refine ite_d (fun h1 => ite_d (fun h2 => hq _ ?_) fun h2 => ite_d (fun h3 => ite_d (fun h4 => hq _ ?_) fun h4 => hq _ ?_) fun h3 => hq _ ?_) fun h1 => ite_d (fun h3 => ite_d (fun h4 => hq _ ?_) fun h4 => hq _ ?_) fun h3 => hq _ ?_
  all_goals (rw [Bool.eq_iff_iff]; simp [Cm.small]; omega)
def eachRun {σ : Type} (f : σ → UInt8 → Bool) (nx : σ → UInt8 → σ) : σ → Cm.Bs → Bool × σ
  | x, [] => (true, x)
  | x, c :: r => if f x c then eachRun f nx (nx x c) r else (false, nx x c)
theorem each_spec {σ : Type} {f : σ → UInt8 → Bool} {nx : σ → UInt8 → σ} {LL : σ → List Asrt} {g : FuncId} {gi gc : Array Value} {s : Cm.Bs} {most : Int} {x : σ} (hb : hasBody Tryz.prog g = true)
    (hs : ∀ (x : σ) (c : UInt8) (w : World) (R : Ending → World → Prop), St E (LL x) w → (∀ w', St E (LL (nx x c)) w' → R (.returned (.bool (f x c))) w') → Calls Tryz.prog g ⟨gi.toList ++ ([.int .u8 ((c.toNat : Nat) : Int)] ++ gc.toList)⟩ w R)
    (h : St E (LL x) w) (hl : s.length ≤ huge)
    (k : ∀ w', St E (LL (eachRun f nx x s).2) w' → R (.returned (.bool ((eachRun f nx x s).1 && (decide (0 < s.length) && decide ((s.length : Int) ≤ most))))) w') :
    Calls Tryz.prog 201 #[.string (bs s), .int .i64 most, .func (.func g) gi gc] w R := by
  refine C_conf_each ?_
  unfold T_conf_each T_conf_each_1
  intro X hX
  refine up_to s.length (Q := fun j => ∀ (y : σ) (w : World), St E (LL y) w → (eachRun f nx x s = eachRun f nx y (s.drop j)) → X (j : Int) w) ?_ x w h rfl
  intro j hj ih y w h he
  refine hX _ _ ?_
  unfold T_conf_each_1_body
  rw [bs_size]
  refine ite_d (fun hc => ?_) (fun hc => ?_)
  · have hjl : j < s.length := by omega
    have hd : s.drop j = s[j] :: s.drop (j + 1) := List.drop_eq_getElem_cons hjl
    rw [hd] at he
    refine ⟨by omega, s[j], by rw [bs_get, Int.toNat_natCast, List.getElem?_eq_getElem hjl], hb, hs y s[j] w _ h fun w' h' => ⟨_, rfl, ite_n (fun hf => ?_) (fun hf => ?_)⟩⟩
    · simp only [eachRun, hf, Bool.false_eq_true, if_false] at he
      rw [he] at k
      exact k w' h'
    · simp only [eachRun, hf, if_true] at he
      rw [succ_huge (by omega)]
      exact ih hjl _ _ h' he
  · have hd : s.drop j = [] := List.drop_eq_nil_of_le (by omega)
    rw [hd] at he
    simp only [eachRun] at he
    rw [he] at k
    refine ite_d (fun h0 => ?_) (fun h0 => ?_)
    · refine congB (k w h) ?_
      rw [decide_eq_true (by omega : 0 < s.length)]; simp
    · refine congB (k w h) ?_
      rw [decide_eq_false (by omega : ¬ 0 < s.length)]; simp
theorem eachRun_all {p : UInt8 → Bool} : ∀ s : Cm.Bs, (eachRun (fun (_ : Unit) c => p c) (fun x _ => x) () s).1 = s.all p
  | [] => rfl
  | c :: r => by
    unfold eachRun
    cases h : p c <;> simp [h, eachRun_all r]
theorem each_all {p : UInt8 → Bool} {g : FuncId} {s : Cm.Bs} {most : Int} (hb : hasBody Tryz.prog g = true)
    (hs : ∀ (c : UInt8) (w : World) (R : Ending → World → Prop), St E L w → (∀ w', St E L w' → R (.returned (.bool (p c))) w') → Calls Tryz.prog g #[.int .u8 ((c.toNat : Nat) : Int)] w R)
    (h : St E L w) (hl : s.length ≤ huge) (k : ∀ w', St E L w' → R (.returned (.bool (s.all p && (decide (0 < s.length) && decide ((s.length : Int) ≤ most))))) w') :
    Calls Tryz.prog 201 #[.string (bs s), .int .i64 most, .func (.func g) #[] #[]] w R :=
  each_spec (LL := fun _ => L) (x := ()) hb (fun _ c w R h k => hs c w R h k) h hl fun w' h' => by rw [eachRun_all]; exact k w' h'
theorem prefix1_spec {c : UInt8} (h : St E L w) (k : ∀ w', St E L w' → R (.returned (.bool (Cm.pfxB c))) w') : Calls Tryz.prog 206 #[.int .u8 ((c.toNat : Nat) : Int)] w R := by
  refine C_conf_prefix_c1 ?_
  unfold T_conf_prefix_c1
  have hq : ∀ b : Bool, Cm.pfxB c = b → R (.returned (.bool b)) w := fun b hb => hb ▸ k w h
  refine ite_d (fun h1 => ?_) fun h1 => hq _ ?_
  · refine ite_d (fun h2 => ?_) fun h2 => hq _ ?_
    · refine ite_b (fun h3 => hq _ ?_) fun h3 => hq _ ?_
      · rw [Bool.eq_iff_iff]; simp at h3; simp [Cm.pfxB, Cm.seen]; omega
      · rw [Bool.eq_iff_iff]; simp at h3; simp [Cm.pfxB, Cm.seen]; omega
    · rw [Bool.eq_iff_iff]; simp [Cm.pfxB, Cm.seen]; omega
  · rw [Bool.eq_iff_iff]; simp [Cm.pfxB, Cm.seen]; omega
theorem address1_spec {c : UInt8} (h : St E L w) (k : ∀ w', St E L w' → R (.returned (.bool (Cm.seen c))) w') : Calls Tryz.prog 260 #[.int .u8 ((c.toNat : Nat) : Int)] w R := by
  refine C_conf_address_c1 ?_
  unfold T_conf_address_c1
  have hq : ∀ b : Bool, Cm.seen c = b → R (.returned (.bool b)) w := fun b hb => hb ▸ k w h
  refine ite_d (fun h1 => hq _ ?_) fun h1 => hq _ ?_
  all_goals (rw [Bool.eq_iff_iff]; simp [Cm.seen]; omega)
theorem host1_spec {b : Nat} {p : Bool} {c : UInt8} (h : St E (blkL b 4 [.bool p] :: L) w) (k : ∀ w', St E (blkL b 4 [.bool (decide (c.toNat = 46))] :: L) w' → R (.returned (.bool (Cm.small c || (decide (c.toNat = 46) && !p)))) w') :
    Calls Tryz.prog 205 #[.int .u8 ((c.toNat : Nat) : Int), .pointer (some ⟨b, 0, none⟩)] w R := by
  refine C_conf_host_c1 ?_
  unfold T_conf_host_c1
  refine ⟨p, rd_cell h.at_blk rfl rfl, rfl, wrOk_cell h.at_blk (by simp) rfl, ?_⟩
  intro w4
  have e : (((c.toNat : Nat) : Int) == 46) = decide (c.toNat = 46) := by rw [Bool.eq_iff_iff]; simp; omega
  have h4 : St E (blkL b 4 [.bool (decide (c.toNat = 46))] :: L) w4 := by
    have := h.wr_cell (off := 0) (v := .bool (((c.toNat : Nat) : Int) == 46)) rfl
    rw [← e]; exact this
  refine small_spec h4 fun w' h' => ⟨_, rfl, ite_b (fun h1 => ?_) (fun h1 => ⟨_, rd_cell h'.at_blk rfl rfl, ite_b (fun h2 => ?_) (fun h2 => ?_)⟩)⟩
  · exact congB (k w' h') (by simp [h1])
  · exact congB (k w' h') (by simp [h1, h2])
  · exact congB (k w' h') (by simp [h1, h2])
theorem body_small : hasBody Tryz.prog 202 = true := by kernel_rfl
theorem body_host1 : hasBody Tryz.prog 205 = true := by kernel_rfl
theorem body_prefix1 : hasBody Tryz.prog 206 = true := by kernel_rfl
theorem body_address1 : hasBody Tryz.prog 260 = true := by kernel_rfl

variable {s : Cm.Bs}
theorem len_and {n : Nat} (b : Bool) : (b && (decide (0 < s.length) && decide ((s.length : Int) ≤ ((n : Nat) : Int)))) = (decide (1 ≤ s.length ∧ s.length ≤ n) && b) := by
  rw [Bool.and_comm]; congr 1
  rw [Bool.eq_iff_iff]; simp only [Bool.and_eq_true, decide_eq_true_eq]; omega
theorem poolName_spec (h : St E L w) (hl : s.length ≤ huge) (k : ∀ w', St E L w' → R (.returned (.bool (Cm.isName s))) w') : Calls Tryz.prog 107 #[.string (bs s)] w R := by
  refine C_conf_poolName ?_
  unfold T_conf_poolName
  refine each_all body_small (fun c w R h k => small_spec h k) h hl fun w' h' => ⟨_, rfl, congB (k w' h') ?_⟩
  rw [show (64 : Int) = ((64 : Nat) : Int) from rfl, len_and]; rfl
theorem address_spec (h : St E L w) (hl : s.length ≤ huge) (k : ∀ w', St E L w' → R (.returned (.bool (Cm.isAddr s))) w') : Calls Tryz.prog 203 #[.string (bs s)] w R := by
  refine C_conf_address ?_
  unfold T_conf_address
  refine each_all body_address1 (fun c w R h k => address1_spec h k) h hl fun w' h' => ⟨_, rfl, congB (k w' h') ?_⟩
  rw [show (64 : Int) = ((64 : Nat) : Int) from rfl, len_and]; rfl
theorem prefix_spec (h : St E L w) (hl : s.length ≤ huge) (k : ∀ w', St E L w' → R (.returned (.bool (Cm.isPfx s))) w') : Calls Tryz.prog 110 #[.string (bs s)] w R := by
  refine C_conf_prefix ?_
  unfold T_conf_prefix
  refine each_all body_prefix1 (fun c w R h k => prefix1_spec h k) h hl fun w' h' => ⟨_, rfl, ?_⟩
  rw [show (128 : Int) = ((128 : Nat) : Int) from rfl, len_and]
  refine ite_b (fun h1 => ?_) (fun h1 => ?_)
  · have h2 := h1
    simp only [Bool.and_eq_true, decide_eq_true_eq] at h2
    match s, h2 with
    | [], h2 => simp at h2
    | c :: r, h2 =>
      refine ⟨by omega, c, by rw [bs_get]; rfl, congB (k w' h') ?_⟩
      unfold Cm.isPfx
      rw [h1, Bool.true_and, Bool.eq_iff_iff]
      simp
      constructor
      · rintro rfl; rfl
      · intro hc; apply UInt8.toNat_inj.1; simpa using (by omega : c.toNat = 47)
  · refine congB (k w' h') ?_
    unfold Cm.isPfx
    rw [h1]; rfl
theorem eachRun_host : ∀ (s : Cm.Bs) (p : Bool), ((eachRun (fun (p : Bool) (c : UInt8) => Cm.small c || (decide (c.toNat = 46) && !p)) (fun _ c => decide (c.toNat = 46)) p s).1 && !(eachRun (fun (p : Bool) (c : UInt8) => Cm.small c || (decide (c.toNat = 46) && !p)) (fun _ c => decide (c.toNat = 46)) p s).2) = Cm.hostRun p s
  | [], p => by simp [eachRun, Cm.hostRun]
  | c :: r, p => by
    unfold eachRun Cm.hostRun
    cases h : (Cm.small c || (decide (c.toNat = 46) && !p))
    · simp
    · simpa using eachRun_host r (decide (c.toNat = 46))
theorem host_spec (h : St E L w) (hl : s.length ≤ huge) (k : ∀ w', St E L w' → R (.returned (.bool (Cm.isHost s))) w') : Calls Tryz.prog 109 #[.string (bs s)] w R := by
  refine C_conf_host ?_
  unfold T_conf_host
  intro w2
  have h2 := h.alloc (.cells #[.bool false] 4)
  refine ⟨rfl, wrOk_cell h2.at_blk (by simp) rfl, ?_⟩
  intro w3
  have h3 : St E (blkL w.heap.size 4 [.bool true] :: L) w3 := h2.wr_cell (off := 0) (v := .bool true) rfl
  refine each_spec (LL := fun p => blkL w.heap.size 4 [.bool p] :: L) (x := true) body_host1 (fun p c w R h k => host1_spec h k) h3 hl fun w' h' => ⟨_, rfl, ite_b (fun h1 => ?_) (fun h1 => ?_)⟩
  · refine ⟨_, rd_cell h'.at_blk rfl rfl, congB (k w' h'.drop) ?_⟩
    rw [show (64 : Int) = ((64 : Nat) : Int) from rfl, len_and] at h1
    simp only [Bool.and_eq_true] at h1
    unfold Cm.isHost
    rw [h1.1, Bool.true_and, ← eachRun_host s true, h1.2, Bool.true_and]
  · refine congB (k w' h'.drop) ?_
    rw [show (64 : Int) = ((64 : Nat) : Int) from rfl, len_and] at h1
    unfold Cm.isHost
    rw [← eachRun_host s true, ← Bool.and_assoc, h1]; rfl

/-! ### the document's -/
theorem all_pfx : ∀ s : Cm.Bs, s.all Cm.pfxB = ((s.all fun c => !decide (c.toNat = 63) && !decide (c.toNat = 35)) && s.all Cm.seen)
  | [] => rfl
  | c :: r => by
    simp only [List.all_cons, all_pfx r, Cm.pfxB]
    cases Cm.seen c <;> cases decide (c.toNat = 63) <;> cases decide (c.toNat = 35) <;> simp
/-- No two points one behind the other. -/
def noTwo : Cm.Bs → Bool
  | c :: d :: r => !(decide (c.toNat = 46) && decide (d.toNat = 46)) && noTwo (d :: r)
  | _ => true
theorem small_46 {x : UInt8} (hx : x.toNat = 46) : Cm.small x = false := by simp [Cm.small, hx]
/-- What the document asks of points. -/
theorem hostRun_iff : ∀ (s : Cm.Bs) (p : Bool), Cm.hostRun p s = ((s.all fun c => Cm.small c || (true && decide (c.toNat = 46))) && ((if s = [] then !p else !(p && decide (s.head?.map (·.toNat) = some 46)) && !decide (s.getLast?.map (·.toNat) = some 46)) && noTwo s))
  | [], p => by simp [Cm.hostRun, noTwo]
  | [c], p => by
    unfold Cm.hostRun
    by_cases hc : c.toNat = 46
    · cases p <;> simp [Cm.hostRun, hc, noTwo]
    · cases p <;> simp [Cm.hostRun, hc, noTwo]
  | c :: d :: r, p => by
    have ih := hostRun_iff (d :: r) (decide (c.toNat = 46))
    unfold Cm.hostRun
    rw [ih]
    simp only [noTwo, List.all_cons, List.getLast?_cons_cons, List.head?_cons, Option.map_some, Option.some.injEq, if_neg (List.cons_ne_nil _ _), Bool.true_and]
    generalize noTwo (d :: r) = q1
    generalize decide ((List.getLast? (d :: r)).map (·.toNat) = some 46) = q2
    generalize (r.all fun c => Cm.small c || decide (c.toNat = 46)) = q3
    by_cases hc : c.toNat = 46 <;> by_cases hd : d.toNat = 46
    · simp only [hc, hd, small_46 hc, small_46 hd, decide_true]
      cases p <;> cases q1 <;> cases q2 <;> cases q3 <;> rfl
    · simp only [hc, hd, small_46 hc, decide_true, decide_false]
      cases p <;> cases q1 <;> cases q2 <;> cases q3 <;> cases Cm.small d <;> rfl
    · simp only [hc, hd, small_46 hd, decide_true, decide_false]
      cases p <;> cases q1 <;> cases q2 <;> cases q3 <;> cases Cm.small c <;> rfl
    · simp only [hc, hd, decide_false]
      cases p <;> cases q1 <;> cases q2 <;> cases q3 <;> cases Cm.small c <;> cases Cm.small d <;> rfl
theorem noTwo_drop {s : Cm.Bs} {i : Nat} (h : i + 1 < s.length) : noTwo (s.drop i) = (!(decide (s[i].toNat = 46) && decide (s[i + 1].toNat = 46)) && noTwo (s.drop (i + 1))) := by
  rw [List.drop_eq_getElem_cons (by omega : i < s.length), List.drop_eq_getElem_cons h]
  rfl
theorem byte_eq (c : UInt8) (n : Nat) : (((c.toNat : Nat) : Int) == ((n : Nat) : Int)) = decide (c.toNat = n) := by
  rw [Bool.eq_iff_iff]; simp; omega
end
end Go.Vc

/-
  Weights, targets, commands: which may be; the program's functions and the document's.
-/
namespace Go.Vc
open Go Go.Proofs Go.Proofs.YtlomfgiokkhioaaGreatDoor
set_option maxRecDepth 100000

section
variable {E w : World} {L : List Asrt} {R : Ending → World → Prop}

/-! ### floats -/
theorem run_fgeq (t : TypeId) (x y : Operand) (a b : Nat) : (do eqGuard .geq t x y (.float .f64 a) (.float .f64 b); binOp .geq t (.float .f64 a) (.float .f64 b) : Sem Value).run Tryz.prog w =
    .ok (.bool (Ieee.double.order a b == some .gt || Ieee.double.order a b == some .eq)) w := by
  simp [eqGuard, binOp, Op.floatCmp, FloatKind.format]
theorem run_fgtr (t : TypeId) (x y : Operand) (a b : Nat) : (do eqGuard .gtr t x y (.float .f64 a) (.float .f64 b); binOp .gtr t (.float .f64 a) (.float .f64 b) : Sem Value).run Tryz.prog w =
    .ok (.bool (Ieee.double.order a b == some .gt)) w := by
  simp [eqGuard, binOp, Op.floatCmp, FloatKind.format]
theorem run_fleq (t : TypeId) (x y : Operand) (a b : Nat) : (do eqGuard .leq t x y (.float .f64 a) (.float .f64 b); binOp .leq t (.float .f64 a) (.float .f64 b) : Sem Value).run Tryz.prog w =
    .ok (.bool (Ieee.double.order a b == some .lt || Ieee.double.order a b == some .eq)) w := by
  simp [eqGuard, binOp, Op.floatCmp, FloatKind.format]
theorem run_fbits {b : Nat} : (callFunc 209 #[.float .f64 b]).run Tryz.prog w = .ok (.value (.int .u64 (b : Int))) w := by
  rw [run_callFunc_extern Tryz.func209 (e := Extern.MathFloatBits.float64bits) (by kernel_rfl) (by kernel_rfl) (by kernel_rfl) (by kernel_rfl)]
  rfl
theorem run_ffrom {n : Int} : (callFunc 259 #[.int .u64 n]).run Tryz.prog w = .ok (.value (.float .f64 n.toNat)) w := by
  rw [run_callFunc_extern Tryz.func259 (e := Extern.MathFloatBits.float64frombits) (by kernel_rfl) (by kernel_rfl) (by kernel_rfl) (by kernel_rfl)]
  rfl
theorem read_num (b : Nat) (h : b < 9218868437227405312) : ∃ (m j : Nat), Ieee.double.read b = .number false m (-1074 + (j : Int)) ∧ m ≤ 9007199254740991 ∧ j ≤ 2045 := by
  unfold Ieee.Format.read
  have e1 : Ieee.double.signWeight = 9223372036854775808 := by decide
  have e2 : Ieee.double.binade = 4503599627370496 := by decide
  have e3 : Ieee.double.infRung = 9218868437227405312 := by decide
  have e4 : Ieee.double.leastPlace = -1074 := by decide
  have e5 : (b / 9223372036854775808 % 2 == 1) = false := by simp; omega
  simp only [e1, e2, e3, e4, e5]
  rw [Nat.mod_eq_of_lt (by omega : b < 9223372036854775808)]
  split
  · exact ⟨b, 0, rfl, by omega, by omega⟩
  · exact ⟨_, b / 4503599627370496 - 1, rfl, by omega, by omega⟩
theorem read_zero : Ieee.double.read 0 = .number false 0 (-1074) := by decide
theorem read_max : Ieee.double.read 9218868437227405311 = .number false 9007199254740991 (-1074 + 2045) := by decide
theorem read_inf : Ieee.double.read 9218868437227405312 = .infinity false := by decide
theorem read_nan {b : Nat} (h1 : 9218868437227405312 < b) (h2 : b < 9223372036854775808) : ∃ n, Ieee.double.read b = .nan false n := by
  unfold Ieee.Format.read
  have e1 : Ieee.double.signWeight = 9223372036854775808 := by decide
  have e2 : Ieee.double.binade = 4503599627370496 := by decide
  have e3 : Ieee.double.infRung = 9218868437227405312 := by decide
  have e5 : (b / 9223372036854775808 % 2 == 1) = false := by simp; omega
  simp only [e1, e2, e3, e5]
  rw [Nat.mod_eq_of_lt h2, if_neg (by omega), if_neg (by omega), if_neg (by omega)]
  exact ⟨_, rfl⟩
theorem cmp_ge {a b : Int} (h : b ≤ a) : (some (compare a b) == some Ordering.gt || some (compare a b) == some Ordering.eq) = true := by
  rcases Int.lt_trichotomy a b with h1 | h1 | h1
  · omega
  · subst h1; simp
  · rw [Int.compare_eq_gt.2 h1]; rfl
theorem cmp_le {a b : Int} (h : a ≤ b) : (some (compare a b) == some Ordering.gt) = false ∧ (some (compare a b) == some Ordering.lt || some (compare a b) == some Ordering.eq) = true := by
  rcases Int.lt_trichotomy a b with h1 | h1 | h1
  · rw [Int.compare_eq_lt.2 h1]; exact ⟨rfl, rfl⟩
  · subst h1; simp
  · omega
theorem num_ge0 {b : Nat} (h : b < 9218868437227405312) : (Ieee.double.order b 0 == some .gt || Ieee.double.order b 0 == some .eq) = true := by
  obtain ⟨m, j, hr, _, _⟩ := read_num b h
  unfold Ieee.Format.order
  rw [hr, read_zero]
  unfold Ieee.Datum.order
  refine cmp_ge ?_
  simp only [Ieee.signed, Bool.false_eq_true, if_false, Nat.zero_shiftLeft]
  exact Int.natCast_nonneg _
theorem num_lemax {b : Nat} (h : b < 9218868437227405312) : (Ieee.double.order b 9218868437227405311 == some .gt) = false ∧ (Ieee.double.order b 9218868437227405311 == some .lt || Ieee.double.order b 9218868437227405311 == some .eq) = true := by
  obtain ⟨m, j, hr, hm, hj⟩ := read_num b h
  unfold Ieee.Format.order
  rw [hr, read_max]
  unfold Ieee.Datum.order
  refine cmp_le ?_
  have e : min (-1074 + (j : Int)) (-1074 + 2045) = -1074 + (j : Int) := by omega
  simp only [e, Ieee.signed, Bool.false_eq_true, if_false, Int.sub_self, Int.toNat_zero, Nat.shiftLeft_zero]
  rw [Nat.shiftLeft_eq]
  have : m * 1 ≤ 9007199254740991 * 2 ^ (-1074 + 2045 - (-1074 + (j : Int))).toNat := Nat.mul_le_mul hm (Nat.one_le_two_pow)
  rw [Nat.mul_one] at this
  exact_mod_cast this
theorem inf_cmp : (Ieee.double.order 9218868437227405312 0 == some .gt) = true ∧ (Ieee.double.order 9218868437227405312 9218868437227405311 == some .gt) = true ∧ (Ieee.double.order 9218868437227405312 9218868437227405311 == some .lt || Ieee.double.order 9218868437227405312 9218868437227405311 == some .eq) = false := by decide
theorem nan_cmp {b c : Nat} (h1 : 9218868437227405312 < b) (h2 : b < 9223372036854775808) : Ieee.double.order b c = none := by
  obtain ⟨n, hn⟩ := read_nan h1 h2
  unfold Ieee.Format.order
  rw [hn]
  cases Ieee.double.read c <;> rfl
theorem wrap_bits {b : Nat} (h : b < 18446744073709551616) : (decide (IntKind.wrap .i64 (b : Int) < 0)) = decide (9223372036854775808 ≤ b) := by
  rw [Bool.eq_iff_iff]
  simp only [decide_eq_true_eq]
  unfold IntKind.wrap
  simp [IntKind.signed, IntKind.bits]
  omega
abbrev two64 : Nat := 18446744073709551616
theorem signbit_spec {b : Nat} (hb : b < two64) (k : R (.returned (.bool (decide (9223372036854775808 ≤ b)))) w) : Calls Tryz.prog 261 #[.float .f64 b] w R := by
  refine C_math_Signbit ?_
  unfold T_math_Signbit
  refine runV_ok run_fbits ⟨_, rfl, ?_⟩
  rw [wrap_bits hb]; exact k
theorem weight_spec {b : Nat} (hb : b < two64) (k : R (.returned (.bool (Cm.isW b))) w) : Calls Tryz.prog 204 #[.float .f64 b] w R := by
  refine C_conf_weight ?_
  unfold T_conf_weight
  have no : Cm.isW b = false → R (.returned (.bool false)) w := fun e => e ▸ k
  refine runV_ok (run_fgeq _ _ _ _ _) ⟨_, rfl, ite_b (fun h1 => ?_) (fun h1 => no ?_)⟩
  · refine C_math_IsInf ?_
    unfold T_math_IsInf
    rw [if_neg (by decide), if_neg (by decide)]
    refine runV_ok (run_fgtr _ _ _ _ _) ⟨_, rfl, _, rfl, ite_n (fun h2 => signbit_spec hb ⟨_, rfl, congB k ?_⟩) (fun h2 => no ?_)⟩
    · unfold Cm.isW
      rw [Bool.eq_iff_iff]
      simp only [Bool.not_eq_true', decide_eq_true_eq, decide_eq_false_iff_not]
      constructor
      · intro h; omega
      · intro h
        rcases Nat.lt_trichotomy b 9218868437227405312 with h3 | h3 | h3
        · exact h3
        · subst h3; rw [inf_cmp.2.1] at h2; cases h2
        · rw [nan_cmp h3 (by omega)] at h1; cases h1
    · unfold Cm.isW
      rw [decide_eq_false_iff_not]
      intro h3
      rw [(num_lemax h3).1] at h2; cases h2
  · unfold Cm.isW
    rw [decide_eq_false_iff_not]
    intro h3
    rw [num_ge0 h3] at h1; cases h1
/-! ### targets -/
def tV (t : Cm.Tgt) : List Value := [.string (bs t.addr), .float .f64 t.w]
theorem tV_len (t : Cm.Tgt) : (tV t).length = 2 := rfl
theorem tV_one (ts : List Cm.Tgt) : ∀ u ∈ ts.flatMap tV, one u = true := by
  intro u hu
  obtain ⟨t, _, ht⟩ := List.mem_flatMap.1 hu
  simp only [tV, List.mem_cons, List.not_mem_nil, or_false] at ht
  rcases ht with rfl | rfl <;> rfl
/-- What may come in: texts and lists of sizes that there are. -/
def okT (t : Cm.Tgt) : Prop := t.addr.length ≤ huge ∧ t.w < two64
def okTs (l : List Cm.Tgt) : Prop := l.length ≤ huge ∧ ∀ t ∈ l, okT t
variable {F : Fz} {s : Sl} {l : List Cm.Tgt}
theorem tgs_len (hm : kn F ∈ L) (h : St E L w) (hr : RdF F s.1 s.2.1 2 (l.flatMap tV)) : l.length = s.2.1 := hr.count tV_len (by decide) h hm
theorem all_step {α : Type} {p : α → Bool} {l : List α} {j : Nat} (hj : j < l.length) : (l.drop j).all p = (p l[j] && (l.drop (j + 1)).all p) := by
  rw [List.drop_eq_getElem_cons hj, List.all_cons]
theorem targets_spec (hm : kn F ∈ L) (h : St E L w) (hr : RdF F s.1 s.2.1 2 (l.flatMap tV)) (hl : okTs l) (k : ∀ w', St E L w' → R (.returned (.int .i64 (Cm.chkT l))) w') :
    Calls Tryz.prog 108 #[.slice s.1 s.2.1 s.2.2] w R := by
  have hn := tgs_len hm h hr
  refine C_conf_targets ?_
  unfold T_conf_targets T_conf_targets_1
  intro X hX
  refine up_to l.length (Q := fun j => ∀ w, St E L w → (l.all (fun t => Cm.isAddr t.addr) = (l.drop j).all fun t => Cm.isAddr t.addr) → X (j : Int) w) ?_ w h rfl
  intro j hj ih w h he
  refine hX _ _ ?_
  unfold T_conf_targets_1_body
  rw [← hn]
  refine ite_d (fun hc => ?_) (fun hc => ?_)
  · have hjl : j < l.length := by omega
    rw [all_step hjl] at he
    obtain ⟨ad, ha, hrd, _⟩ := (hr.at h hm).elem tV_len (List.getElem?_eq_getElem hjl) (by decide)
    refine ⟨by omega, by omega, ad, ha, _, _, by rw [Int.toNat_natCast]; exact hrd, ?_⟩
    intro w8
    have h8 := h.alloc (.cells #[.string (ByteArray.mk #[]), .float .f64 0] 143)
    refine ⟨rfl, wrOk_agg h8.at_blk (xs := tV l[j]) (by simp [tV]) (by intro u hu; simp [tV] at hu; rcases hu with rfl | rfl <;> rfl), ?_⟩
    intro w9
    have h9 : St E (blkL w.heap.size 143 (tV l[j]) :: L) w9 := h8.wr_agg0 (xs := tV l[j]) rfl
    refine ⟨_, rd_cell h9.at_blk (l := tV l[j]) rfl rfl, address_spec h9.drop (hl.2 _ (List.getElem_mem hjl)).1 fun w' h' => ⟨_, rfl, ite_n (fun h1 => ?_) (fun h1 => ?_)⟩⟩
    · refine congI (k w' h') ?_
      unfold Cm.chkT; rw [he, h1]; rfl
    · rw [h1, Bool.true_and] at he
      rw [succ_huge (by have := hl.1; omega)]
      exact ih hjl _ h' he
  · rw [List.drop_eq_nil_of_le (by omega), List.all_nil] at he
    unfold T_conf_targets_2
    intro Y hY
    refine up_to l.length (Q := fun j => ∀ w, St E L w → (l.all (fun t => Cm.isW t.w) = (l.drop j).all fun t => Cm.isW t.w) → Y (j : Int) w) ?_ w h rfl
    intro j hj ih w h hw
    refine hY _ _ ?_
    unfold T_conf_targets_2_body
    refine ite_d (fun hc => ?_) (fun hc => ?_)
    · have hjl : j < l.length := by omega
      rw [all_step hjl] at hw
      obtain ⟨ad, ha, hrd, _⟩ := (hr.at h hm).elem tV_len (List.getElem?_eq_getElem hjl) (by decide)
      refine ⟨by omega, by omega, ad, ha, _, _, by rw [Int.toNat_natCast]; exact hrd, ?_⟩
      intro w8
      have h8 := h.alloc (.cells #[.string (ByteArray.mk #[]), .float .f64 0] 143)
      refine ⟨rfl, wrOk_agg h8.at_blk (xs := tV l[j]) (by simp [tV]) (by intro u hu; simp [tV] at hu; rcases hu with rfl | rfl <;> rfl), ?_⟩
      intro w9
      have h9 : St E (blkL w.heap.size 143 (tV l[j]) :: L) w9 := h8.wr_agg0 (xs := tV l[j]) rfl
      refine ⟨_, rd_fld h9.at_blk (l := tV l[j]) rfl rfl, weight_spec (hl.2 _ (List.getElem_mem hjl)).2 ⟨_, rfl, ite_n (fun h1 => ?_) (fun h1 => ?_)⟩⟩
      · refine congI (k w9 h9.drop) ?_
        unfold Cm.chkT; rw [he, hw, h1]; rfl
      · rw [h1, Bool.true_and] at hw
        rw [succ_huge (by have := hl.1; omega)]
        exact ih hjl _ h9.drop hw
    · rw [List.drop_eq_nil_of_le (by omega), List.all_nil] at hw
      refine ite_d (fun h1 => congI (k w h) ?_) (fun h1 => congI (k w h) ?_)
      · unfold Cm.chkT; rw [he, hw, if_neg (by simp), if_neg (by simp), if_pos (by omega)]
      · unfold Cm.chkT; rw [he, hw, if_neg (by simp), if_neg (by simp), if_neg (by omega)]
/-! ### commands -/
def cmdL (c : Cm.Cmd) (s : Sl) : List Value := [.int .i64 c.act, .int .i64 c.client, .int .i64 c.seq, .int .i64 c.expect, .string (bs c.host), .string (bs c.pfx), .string (bs c.pool), .slice s.1 s.2.1 s.2.2]
def cmdV (c : Cm.Cmd) (s : Sl) : Value := .agg ⟨cmdL c s⟩
def okC (c : Cm.Cmd) : Prop := c.host.length ≤ huge ∧ c.pfx.length ≤ huge ∧ c.pool.length ≤ huge ∧ okTs c.tg
theorem ne_nil (s : Cm.Bs) : (!((bs s).toList == (ByteArray.mk #[]).toList)) = decide (s ≠ []) := by
  rw [bs_toList, toList_nil]; cases s <;> simp
theorem eq_dec (a b : Int) : (a == b) = decide (a = b) := by rw [Bool.eq_iff_iff]; simp
theorem ne_dec (a b : Int) : (a != b) = decide (a ≠ b) := by rw [Bool.eq_iff_iff]; simp
section
variable {Kn : Bool → World → Prop} {Kp : List PanicEntry → World → Prop} {c : Cm.Cmd} {b : Nat}
theorem u1 (h : St E (blkL b 34 (cmdL c s) :: L) w) (k : Kn (Cm.usesPool c.act) w) : T_conf_Check_1 ⟨b, 0, none⟩ w Kn Kp := by
  unfold T_conf_Check_1
  simp only [eq_dec]
  refine ⟨_, rd_cell h.at_blk rfl rfl, ite_d (fun h1 => cong k ?_) fun h1 => ⟨_, rd_cell h.at_blk rfl rfl, ite_d (fun h2 => cong k ?_) fun h2 => ⟨_, rd_cell h.at_blk rfl rfl, cong k ?_⟩⟩⟩ <;> simp [Cm.usesPool, *]
theorem u2 (h : St E (blkL b 34 (cmdL c s) :: L) w) (k : Kn (Cm.usesRoute c.act) w) : T_conf_Check_2 ⟨b, 0, none⟩ w Kn Kp := by
  unfold T_conf_Check_2
  simp only [eq_dec]
  refine ⟨_, rd_cell h.at_blk rfl rfl, ite_d (fun h1 => cong k ?_) fun h1 => ⟨_, rd_cell h.at_blk rfl rfl, cong k ?_⟩⟩ <;> simp [Cm.usesRoute, *]
theorem u3 (h : St E (blkL b 34 (cmdL c s) :: L) w) (k : Kn (Cm.seqOk c) w) : T_conf_Check_3 ⟨b, 0, none⟩ (c.seq == 0) (c.client != 0) w Kn Kp := by
  unfold T_conf_Check_3
  simp only [eq_dec, ne_dec]
  refine ite_d (fun h1 => ⟨_, rd_fld h.at_blk rfl rfl, ite_d (fun h2 => ⟨_, rd_fld h.at_blk rfl rfl, cong k ?_⟩) fun h2 => cong k ?_⟩) fun h1 => cong k ?_
  · rw [Cm.seqOk, if_neg h1, Bool.eq_iff_iff]; simp; omega
  · rw [Cm.seqOk, if_neg h1]; simp; omega
  · rw [Cm.seqOk, if_pos (by omega)]
theorem u6 (h : St E (blkL b 34 (cmdL c s) :: L) w) (k : Kn (decide (c.client < 0) || decide (32 < c.client)) w) : T_conf_Check_6 ⟨b, 0, none⟩ w Kn Kp := by
  unfold T_conf_Check_6
  refine ⟨_, rd_fld h.at_blk rfl rfl, ite_d (fun h1 => cong k ?_) fun h1 => ⟨_, rd_fld h.at_blk rfl rfl, cong k ?_⟩⟩ <;> simp [*]
theorem u7 (h : St E (blkL b 34 (cmdL c s) :: L) w) (k : Kn (decide (c.expect < -1) || decide (1099511627776 ≤ c.expect)) w) : T_conf_Check_7 ⟨b, 0, none⟩ w Kn Kp := by
  unfold T_conf_Check_7
  refine ⟨_, rd_fld h.at_blk rfl rfl, ite_d (fun h1 => cong k ?_) fun h1 => ⟨_, rd_fld h.at_blk rfl rfl, cong k ?_⟩⟩ <;> simp [*]
theorem u8 {p : Bool} (h : St E (blkL b 34 (cmdL c s) :: L) w) (k : Kn (!p && decide (c.pool ≠ [])) w) : T_conf_Check_8 ⟨b, 0, none⟩ p w Kn Kp := by
  unfold T_conf_Check_8
  refine ite_n (fun h1 => ⟨_, rd_fld h.at_blk rfl rfl, ?_⟩) fun h1 => cong k (by simp [h1])
  rw [ne_nil]; exact cong k (by simp [h1])
theorem u9 {p : Bool} (h : St E (blkL b 34 (cmdL c s) :: L) w) (k : Kn (!p && (decide (c.host ≠ []) || decide (c.pfx ≠ []))) w) : T_conf_Check_9 ⟨b, 0, none⟩ p w Kn Kp := by
  unfold T_conf_Check_9
  refine ite_n (fun h1 => ⟨_, rd_fld h.at_blk rfl rfl, ?_⟩) fun h1 => cong k (by simp [h1])
  rw [ne_nil]
  refine ite_b (fun h2 => cong k (by rw [h1, h2]; rfl)) fun h2 => ⟨_, rd_fld h.at_blk rfl rfl, ?_⟩
  rw [ne_nil]; exact cong k (by rw [h1, h2]; simp)
theorem u5 (h : St E (blkL b 34 (cmdL c s) :: L) w) (hn : c.tg.length = s.2.1) (k : Kn (Cm.argBad c) w) : T_conf_Check_5 ⟨b, 0, none⟩ (Cm.usesPool c.act) (Cm.usesRoute c.act) (Cm.seqOk c) (!Cm.usesPool c.act && !Cm.usesRoute c.act) w Kn Kp := by
  unfold T_conf_Check_5
  have hk : ∀ q, Cm.argBad c = q → Kn q w := fun q e => e ▸ k
  unfold Cm.argBad at hk
  refine ite_b (fun h1 => hk _ ?_) fun h1 => u6 h (ite_b (fun h2 => hk _ ?_) fun h2 => ite_n (fun h3 => hk _ ?_) fun h3 => u7 h (ite_b (fun h4 => hk _ ?_) fun h4 => u8 h (ite_b (fun h5 => hk _ ?_) fun h5 => u9 h (ite_b (fun h6 => hk _ ?_) fun h6 => ⟨_, rd_cell h.at_blk rfl rfl, ?_⟩))))
  · rw [h1]; simp
  · rw [Bool.or_eq_true] at h2; rcases h2 with h2 | h2 <;> rw [h2] <;> simp
  · rw [h3]; simp
  · rw [Bool.or_eq_true] at h4; rcases h4 with h4 | h4 <;> rw [h4] <;> simp
  · rw [h5]; simp
  · rw [h6]; simp
  · have e0 : ((!Cm.usesPool c.act && !Cm.usesRoute c.act) || decide (c.client < 0) || decide (32 < c.client) || !Cm.seqOk c || decide (c.expect < -1) || decide (1099511627776 ≤ c.expect) ||
        (!Cm.usesPool c.act && decide (c.pool ≠ [])) || (!Cm.usesRoute c.act && (decide (c.host ≠ []) || decide (c.pfx ≠ [])))) = false := by
      simp only [Bool.or_eq_false_iff] at h2 h4
      rw [h1, h2.1, h2.2, h3, h4.1, h4.2, h5, h6]; rfl
    rw [e0, Bool.false_or] at hk
    rw [ne_dec]
    refine ite_d (fun h7 => ⟨_, _, _, rd_fld h.at_blk rfl rfl, hk _ ?_⟩) fun h7 => hk _ ?_
    · rw [hn, decide_eq_true h7, Bool.true_and, Bool.eq_iff_iff]; simp
    · rw [decide_eq_false h7]; rfl
theorem u10 (h : St E (blkL b 34 (cmdL c s) :: L) w) (hc : okC c) (k : ∀ w', St E (blkL b 34 (cmdL c s) :: L) w' → Kn (Cm.usesPool c.act && !Cm.isName c.pool) w') : T_conf_Check_10 ⟨b, 0, none⟩ (Cm.usesPool c.act) w Kn Kp := by
  unfold T_conf_Check_10
  refine ite_b (fun h1 => ⟨_, rd_fld h.at_blk rfl rfl, poolName_spec h hc.2.2.1 fun w' h' => ⟨_, rfl, cong (k w' h') ?_⟩⟩) fun h1 => cong (k w h) ?_ <;> simp [h1]
end
theorem Check_spec {c : Cm.Cmd} (hm : kn F ∈ L) (h : St E L w) (hr : RdF F s.1 s.2.1 2 (c.tg.flatMap tV)) (hc : okC c) (k : ∀ w', St E L w' → R (.returned (.int .i64 (Cm.chk c))) w') :
    Calls Tryz.prog 50 #[cmdV c s] w R := by
  have hn := tgs_len hm h hr
  refine C_conf_Check ?_
  unfold T_conf_Check
  intro w9
  have h9 : St E (blkL w.heap.size 34 (cmdL c s) :: L) w9 := h.alloc (.cells ⟨cmdL c s⟩ 34)
  refine u1 h9 (u2 h9 ⟨_, rd_fld h9.at_blk rfl rfl, _, rd_fld h9.at_blk rfl rfl, u3 h9 ?_⟩)
  have fin : ∀ w' (q : Int), St E L w' → Cm.chk c = q → R (.returned (.int .i64 q)) w' := fun w' q h' e => e ▸ k w' h'
  have u4 : T_conf_Check_4 (Cm.usesPool c.act) (Cm.usesRoute c.act) w9 = fun Kn Kp => if (!Cm.usesPool c.act) = true then Kn (!Cm.usesRoute c.act) w9 else Kn false w9 := rfl
  have u4' : ∀ (Kn : Bool → World → Prop) (Kp), Kn (!Cm.usesPool c.act && !Cm.usesRoute c.act) w9 → T_conf_Check_4 (Cm.usesPool c.act) (Cm.usesRoute c.act) w9 Kn Kp := fun Kn Kp hk => by
    rw [u4]; exact ite_n (fun h1 => cong hk (by simp [h1])) fun h1 => cong hk (by simp [h1])
  refine u4' _ _ (u5 h9 hn (ite_b (fun h1 => fin _ _ h9.drop ?_) fun h1 => u10 h9 hc fun w1 hw1 => ?_))
  · unfold Cm.chk; rw [h1]; rfl
  · have tg : ∀ w2, St E (blkL w.heap.size 34 (cmdL c s) :: L) w2 → Cm.nameBad c = false → ∃ (s95a : Option Addr) (s95l s95c : Nat), rd w2 ((⟨w.heap.size, 0, none⟩ : Addr).add 7) (.slice s95a s95l s95c) ∧
        Calls Tryz.prog 108 #[.slice s95a s95l s95c] w2 (ret (fun r96 w97 => ∃ x98 : Int, r96 = .int .i64 x98 ∧ R (.returned (.int .i64 x98)) w97) (pan R)) := fun w2 hw2 e =>
      ⟨_, _, _, rd_fld hw2.at_blk rfl rfl, targets_spec (List.mem_cons_of_mem _ hm) hw2 hr hc.2.2.2 fun w3 hw3 => ⟨_, rfl, fin _ _ hw3.drop (by unfold Cm.chk; rw [h1, e]; rfl)⟩⟩
    refine ite_b (fun h2 => ite_b (fun _ => fin _ _ hw1.drop ?_) fun hh => by rw [h2] at hh; cases hh) fun h2 => ite_b (fun h3 => ⟨_, rd_fld hw1.at_blk rfl rfl, host_spec hw1 hc.1 fun w2 hw2 => ⟨_, rfl, ite_n (fun h4 => fin _ _ hw2.drop ?_) fun h4 => ⟨_, rd_fld hw2.at_blk rfl rfl, prefix_spec hw2 hc.2.1 fun w3 hw3 => ⟨_, rfl, ite_n (fun h5 => fin _ _ hw3.drop ?_) fun h5 => tg w3 hw3 ?_⟩⟩⟩⟩) fun h3 => tg w1 hw1 ?_
    · unfold Cm.chk Cm.nameBad; rw [h1, h2]; rfl
    · unfold Cm.chk Cm.nameBad; rw [h1, h2, h3, h4]; rfl
    · unfold Cm.chk Cm.nameBad; rw [h1, h2, h3, h4, h5]; rfl
    · unfold Cm.nameBad; rw [h2, h3, h4, h5]; rfl
    · unfold Cm.nameBad; rw [h2, h3]; rfl
/-! ### the document's -/
section
variable {Kn : Bool → World → Prop} {Kp : List PanicEntry → World → Prop} {c : Cm.Cmd} {b : Nat}
def bad1 (c : Cm.Cmd) : Bool := decide (c.act < 1) || (decide (4 < c.act) || (decide (c.client < 0) || (decide (32 < c.client) || (decide (c.expect < -1) || decide (1099511627776 ≤ c.expect)))))
end
theorem argBad_1 {c : Cm.Cmd} (h0 : bad1 c = true) : Cm.argBad c = true := by
  simp only [bad1, Bool.or_eq_true, decide_eq_true_eq] at h0
  simp only [Cm.argBad, Bool.or_eq_true]
  by_cases h1 : c.act < 1 ∨ 4 < c.act
  · have e : (!Cm.usesPool c.act && !Cm.usesRoute c.act) = true := by simp [Cm.usesPool, Cm.usesRoute]; omega
    simp [e]
  · by_cases h2 : c.client < 0
    · simp [h2]
    · by_cases h3 : 32 < c.client
      · simp [h3]
      · by_cases h4 : c.expect < -1
        · simp [h4]
        · have h5 : 1099511627776 ≤ c.expect := by omega
          simp [h5]
theorem argBad_2 {c : Cm.Cmd} (h0 : Cm.seqOk c = false) : Cm.argBad c = true := by simp [Cm.argBad, h0]
theorem argBad_3 {c : Cm.Cmd} (h0 : bad1 c = false) (h1 : Cm.seqOk c = true) : Cm.argBad c =
    ((!Cm.usesPool c.act && decide (c.pool ≠ [])) || (!Cm.usesRoute c.act && (decide (c.host ≠ []) || decide (c.pfx ≠ []))) || (decide (c.act ≠ 1) && decide (0 < c.tg.length))) := by
  simp only [bad1, Bool.or_eq_false_iff, decide_eq_false_iff_not] at h0
  obtain ⟨a1, a2, a3, a4, a5, a6⟩ := h0
  have e : (!Cm.usesPool c.act && !Cm.usesRoute c.act) = false := by simp [Cm.usesPool, Cm.usesRoute]; omega
  unfold Cm.argBad
  rw [e, decide_eq_false a3, decide_eq_false a4, h1, decide_eq_false a5, decide_eq_false a6]
  rfl
end
end Go.Vc

/-
  What the functions' code comes to; printed by a program of this claim's own.
-/
namespace Go.Proofs.YtlomfgiokkhioaaGreatDoor
open Go Go.Vc
set_option maxRecDepth 100000
set_option linter.unusedVariables false

/-! tollgate/conf.num -/
def T_conf_num (b1a : Option Addr) (b1l : Nat) (b1c : Nat) (n2 : Int) (w : World) (R : Ending → World → Prop) : Prop :=
  Calls Tryz.prog 122 #[.int .i64 n2] w (ret (fun r3 w4 => ∃ s5a : Option Addr, ∃ s5l : Nat, ∃ s5c : Nat, ∃ x6 : Int, r3 = .tuple #[.slice s5a s5l s5c, .int .i64 x6] ∧ runV Tryz.prog (Builtin.append_ #[23, 23] 23 #[.slice b1a b1l b1c, .slice s5a s5l s5c]) w4 (fun r7 w8 => ∃ s9a : Option Addr, ∃ s9l : Nat, ∃ s9c : Nat, r7 = .slice s9a s9l s9c ∧ R (.returned (.slice s9a s9l s9c)) w8) (pan R)) (pan R))

theorem T_conf_num_hl : allP (hokL Tryz.prog (hookAt []) (bodyOf Tryz.f51) 1) = (True) := by kernel_rfl

theorem T_conf_num_eq (b1a : Option Addr) (b1l : Nat) (b1c : Nat) (n2 : Int) (w : World) (R : Ending → World → Prop) : vcCode Tryz.prog (hookAt []) (bodyOf Tryz.f51) 1 ⟨argEnv [.slice b1a b1l b1c, .int .i64 n2] 0, Tryz.f51.ntmps, []⟩ w (finQ Tryz.prog Tryz.f51.results.toList R) = T_conf_num b1a b1l b1c n2 w R := by kernel_rfl

theorem T_conf_num_b : Tryz.f51.body = some (bodyOf Tryz.f51) := by kernel_rfl
theorem T_conf_num_s : (quietSel (bodyOf Tryz.f51) && Nat.ble 2 Tryz.f51.ntmps) = true := by kernel_rfl

theorem C_conf_num {b1a : Option Addr} {b1l : Nat} {b1c : Nat} {n2 : Int} {w : World} {R : Ending → World → Prop} (h : T_conf_num b1a b1l b1c n2 w R) : Calls Tryz.prog 51 #[.slice b1a b1l b1c, .int .i64 n2] w R :=
  calls_of_text (args := [.slice b1a b1l b1c, .int .i64 n2]) mixed Tryz.func51 T_conf_num_b T_conf_num_s (HOk_of _ _ (by rw [T_conf_num_hl]; exact trivial)) (by rw [T_conf_num_eq]; exact h)

/-! tollgate/conf.text -/
def T_conf_text (b1a : Option Addr) (b1l : Nat) (b1c : Nat) (s2 : ByteArray) (w : World) (R : Ending → World → Prop) : Prop :=
  Calls Tryz.prog 51 #[.slice b1a b1l b1c, .int .i64 ((s2.size : Nat) : Int)] w (ret (fun r3 w4 => ∃ s5a : Option Addr, ∃ s5l : Nat, ∃ s5c : Nat, r3 = .slice s5a s5l s5c ∧ runV Tryz.prog (Builtin.append_ #[23, 9] 23 #[.slice s5a s5l s5c, .string s2]) w4 (fun r6 w7 => ∃ s8a : Option Addr, ∃ s8l : Nat, ∃ s8c : Nat, r6 = .slice s8a s8l s8c ∧ R (.returned (.slice s8a s8l s8c)) w7) (pan R)) (pan R))

theorem T_conf_text_hl : allP (hokL Tryz.prog (hookAt []) (bodyOf Tryz.f53) 1) = (True) := by kernel_rfl

theorem T_conf_text_eq (b1a : Option Addr) (b1l : Nat) (b1c : Nat) (s2 : ByteArray) (w : World) (R : Ending → World → Prop) : vcCode Tryz.prog (hookAt []) (bodyOf Tryz.f53) 1 ⟨argEnv [.slice b1a b1l b1c, .string s2] 0, Tryz.f53.ntmps, []⟩ w (finQ Tryz.prog Tryz.f53.results.toList R) = T_conf_text b1a b1l b1c s2 w R := by kernel_rfl

theorem T_conf_text_b : Tryz.f53.body = some (bodyOf Tryz.f53) := by kernel_rfl
theorem T_conf_text_s : (quietSel (bodyOf Tryz.f53) && Nat.ble 2 Tryz.f53.ntmps) = true := by kernel_rfl

theorem C_conf_text {b1a : Option Addr} {b1l : Nat} {b1c : Nat} {s2 : ByteArray} {w : World} {R : Ending → World → Prop} (h : T_conf_text b1a b1l b1c s2 w R) : Calls Tryz.prog 53 #[.slice b1a b1l b1c, .string s2] w R :=
  calls_of_text (args := [.slice b1a b1l b1c, .string s2]) mixed Tryz.func53 T_conf_text_b T_conf_text_s (HOk_of _ _ (by rw [T_conf_text_hl]; exact trivial)) (by rw [T_conf_text_eq]; exact h)

/-! tollgate/conf.float -/
def T_conf_float_1_body (X : Option Addr → Nat → Nat → Int → World → Prop) (b3a : Option Addr) (b3l : Nat) (b3c : Nat) (k4 : Int) (w5 : Nat) (w : World) (Kn : Option Addr → Nat → Nat → World → Prop) (Kp : List PanicEntry → World → Prop)  : Prop :=
  if (decide ((k4 : Int) ≥ 0)) = true then (runV Tryz.prog (callFunc 209 #[.float .f64 w5]) w (nxv (fun r6 w7 => ∃ x8 : Int, r6 = .int .u64 x8 ∧ runV Tryz.prog (do eqGuard .shr 352 (.tmp 12) (.tmp 13) (.int .u64 x8) (.int .i64 k4); binOp .shr 352 (.int .u64 x8) (.int .i64 k4)) w7 (fun r9 w10 => ∃ x11 : Int, r9 = .int .u64 x11 ∧ let w12 : World := w10.alloc (.cells #[.int .u8 (IntKind.wrap .u8 x11)] 5)
  runV Tryz.prog (Builtin.append_ #[23, 23] 23 #[.slice b3a b3l b3c, .slice (some (⟨w10.heap.size, 0, none⟩ : Addr)) 1 1]) w12 (fun r13 w14 => ∃ s15a : Option Addr, ∃ s15l : Nat, ∃ s15c : Nat, r13 = .slice s15a s15l s15c ∧ X s15a s15l s15c (IntKind.wrap .i64 ((k4 : Int) - 8)) w14) Kp) Kp)) Kp) else (Kn b3a b3l b3c w)

def T_conf_float_1 (b3a : Option Addr) (b3l : Nat) (b3c : Nat) (k4 : Int) (w5 : Nat) (w : World) (Kn : Option Addr → Nat → Nat → World → Prop) (Kp : List PanicEntry → World → Prop) : Prop :=
  ∀ X : Option Addr → Nat → Nat → Int → World → Prop, (∀ (b3a : Option Addr) (b3l : Nat) (b3c : Nat) (k4 : Int) (w : World), T_conf_float_1_body X b3a b3l b3c k4 w5 w Kn Kp → X b3a b3l b3c k4 w) → X b3a b3l b3c k4 w

def T_conf_float_1_outs : Exit → Option (List (Nat × Value)) := fun x => match x with | .normal => some [(0, .slice none 0 0)] | .panic _ => some [] | _ => none

def T_conf_float_1_ks : Nat → Bool := ksOf [0, 5, 6, 7, 8, 9, 10, 11, 12, 13, 14, 15, 16, 17]

def H_conf_float_1 : Env → World → QT → Prop := unitHook 19 T_conf_float_1_ks [(0, .slice none 0 0), (5, .int .i64 0), (1, .float .f64 0)] T_conf_float_1_outs fun l w C => match l with | [v0, v1, v2] => T_conf_float_1 (pA v0) (pL v0) (pC v0) (pInt v1) (pFlt v2) w (fun b17a b17l b17c w => C .normal [.slice b17a b17l b17c] w) (fun ch w => C (.panic ch) [] w) | _ => False

theorem T_conf_float_1_hl : allP (hokL Tryz.prog (hookAt []) (at_ (bodyOf Tryz.f123) [1, 0, 1, 0, 0]) 52) = (True) := by kernel_rfl
theorem T_conf_float_1_hok : HOk Tryz.prog (hookAt []) (at_ (bodyOf Tryz.f123) [1, 0, 1, 0, 0]) 52 := HOk_of _ _ (by rw [T_conf_float_1_hl]; exact trivial)

theorem T_conf_float_1_eq (C : Conts) (X : List Value → World → Prop) (b3a : Option Addr) (b3l : Nat) (b3c : Nat) (k4 : Int) (w5 : Nat) (w : World) : vcCode Tryz.prog (hookAt []) (at_ (bodyOf Tryz.f123) [1, 0, 1, 0, 0]) 52 ⟨[(0, .slice b3a b3l b3c), (5, .int .i64 k4)] ++ [(1, .float .f64 w5)], 19, []⟩ w (seqQ (fun e w => takeAll e [(0, .slice none 0 0), (5, .int .i64 0)] fun l => X l w) (blockQ 0 (unitQ T_conf_float_1_outs C))) = T_conf_float_1_body (fun b3a b3l b3c k4 w => X [.slice b3a b3l b3c, .int .i64 k4] w) b3a b3l b3c k4 w5 w (fun b18a b18l b18c w => C .normal [.slice b18a b18l b18c] w) (fun ch w => C (.panic ch) [] w) := by kernel_rfl

theorem T_conf_float_1_ok : UnitOk Tryz.prog H_conf_float_1 (at_ (bodyOf Tryz.f123) [1, 0, 1]) 13 := by
  have hc : at_ (bodyOf Tryz.f123) [1, 0, 1] = .block 0 (.loop (at_ (bodyOf Tryz.f123) [1, 0, 1, 0, 0])) := by kernel_rfl
  rw [hc]
  refine loop_unit_ok (carr := [(0, .slice none 0 0), (5, .int .i64 0)]) (fix := [(1, .float .f64 0)]) (ks := T_conf_float_1_ks) (H := (hookAt [])) (B := fun C X l u w => match l, u with | [v0, v1], [v2] => T_conf_float_1_body (fun b3a b3l b3c k4 w => X [.slice b3a b3l b3c, .int .i64 k4] w) (pA v0) (pL v0) (pC v0) (pInt v1) (pFlt v2) w (fun b19a b19l b19c w => C .normal [.slice b19a b19l b19c] w) (fun ch w => C (.panic ch) [] w) | _, _ => False) (by kernel_rfl) (by kernel_rfl) T_conf_float_1_hok ?_ ?_
  · intro C X l u w hl hu
    obtain ⟨v0, l_v0, rfl, k_v0, hl_v0⟩ := Kinds.cons_ hl
    obtain ⟨b3a, b3l, b3c, rfl⟩ := kind_slice k_v0
    obtain ⟨v1, l_v1, rfl, k_v1, hl_v1⟩ := Kinds.cons_ hl_v0
    obtain ⟨k4, rfl⟩ := kind_int k_v1
    obtain rfl := Kinds.nil_ hl_v1
    obtain ⟨v2, l_v2, rfl, k_v2, hu_v2⟩ := Kinds.cons_ hu
    obtain ⟨w5, rfl⟩ := kind_float k_v2
    obtain rfl := Kinds.nil_ hu_v2
    exact T_conf_float_1_eq C X b3a b3l b3c k4 w5 w
  · intro l u w C hl hu
    obtain ⟨v0, l_v0, rfl, k_v0, hl_v0⟩ := Kinds.cons_ hl
    obtain ⟨b3a, b3l, b3c, rfl⟩ := kind_slice k_v0
    obtain ⟨v1, l_v1, rfl, k_v1, hl_v1⟩ := Kinds.cons_ hl_v0
    obtain ⟨k4, rfl⟩ := kind_int k_v1
    obtain rfl := Kinds.nil_ hl_v1
    obtain ⟨v2, l_v2, rfl, k_v2, hu_v2⟩ := Kinds.cons_ hu
    obtain ⟨w5, rfl⟩ := kind_float k_v2
    obtain rfl := Kinds.nil_ hu_v2
    constructor
    · intro h X hX
      exact h (fun b3a b3l b3c k4 w => X [.slice b3a b3l b3c, .int .i64 k4] w) (fun b3a b3l b3c k4 w hb => hX [.slice b3a b3l b3c, .int .i64 k4] w ⟨rfl, rfl, trivial⟩ hb)
    · intro h X hX
      exact h (fun l w => match l with | [v0, v1] => X (pA v0) (pL v0) (pC v0) (pInt v1) w | _ => True) (fun l w hl hb => by
        obtain ⟨v0, l_v0, rfl, k_v0, hl_v0⟩ := Kinds.cons_ hl
        obtain ⟨b3a, b3l, b3c, rfl⟩ := kind_slice k_v0
        obtain ⟨v1, l_v1, rfl, k_v1, hl_v1⟩ := Kinds.cons_ hl_v0
        obtain ⟨k4, rfl⟩ := kind_int k_v1
        obtain rfl := Kinds.nil_ hl_v1
        exact hX b3a b3l b3c k4 w hb)

def T_conf_float (b1a : Option Addr) (b1l : Nat) (b1c : Nat) (w2 : Nat) (w : World) (R : Ending → World → Prop) : Prop :=
  T_conf_float_1 b1a b1l b1c 56 w2 w (fun b20a b20l b20c w21 => R (.returned (.slice b20a b20l b20c)) w21) (pan R)

theorem T_conf_float_hl : allP (hokL Tryz.prog (hookAt [(13, H_conf_float_1)]) (bodyOf Tryz.f123) 1) = (UnitOk Tryz.prog H_conf_float_1 (at_ (bodyOf Tryz.f123) [1, 0, 1]) 13 ∧ True) := by kernel_rfl

theorem T_conf_float_eq (b1a : Option Addr) (b1l : Nat) (b1c : Nat) (w2 : Nat) (w : World) (R : Ending → World → Prop) : vcCode Tryz.prog (hookAt [(13, H_conf_float_1)]) (bodyOf Tryz.f123) 1 ⟨argEnv [.slice b1a b1l b1c, .float .f64 w2] 0, Tryz.f123.ntmps, []⟩ w (finQ Tryz.prog Tryz.f123.results.toList R) = T_conf_float b1a b1l b1c w2 w R := by kernel_rfl

theorem T_conf_float_b : Tryz.f123.body = some (bodyOf Tryz.f123) := by kernel_rfl
theorem T_conf_float_s : (quietSel (bodyOf Tryz.f123) && Nat.ble 2 Tryz.f123.ntmps) = true := by kernel_rfl

theorem C_conf_float {b1a : Option Addr} {b1l : Nat} {b1c : Nat} {w2 : Nat} {w : World} {R : Ending → World → Prop} (h : T_conf_float b1a b1l b1c w2 w R) : Calls Tryz.prog 123 #[.slice b1a b1l b1c, .float .f64 w2] w R :=
  calls_of_text (args := [.slice b1a b1l b1c, .float .f64 w2]) mixed Tryz.func123 T_conf_float_b T_conf_float_s (HOk_of _ _ (by rw [T_conf_float_hl]; exact ⟨T_conf_float_1_ok, trivial⟩)) (by rw [T_conf_float_eq]; exact h)

/-! tollgate/conf.row -/
def T_conf_row_1_body (X : Option Addr → Nat → Nat → Int → World → Prop) (b6a : Option Addr) (b6l : Nat) (b6c : Nat) (x7 : Int) (s8a : Option Addr) (s8l : Nat) (s8c : Nat) (x9 : Int) (w : World) (Kn : Option Addr → Nat → Nat → World → Prop) (Kp : List PanicEntry → World → Prop)  : Prop :=
  if (decide ((x7 : Int) < x9)) = true then (0 ≤ (x7 : Int) ∧ (x7 : Int) < ((s8l : Nat) : Int) ∧ ∃ b10, s8a = some b10 ∧ ∃ s11 : ByteArray, ∃ f12 : Nat, rd w (b10.add ((x7 : Int).toNat * 2)) (.agg #[.string s11, .float .f64 f12]) ∧ let w13 : World := w.alloc (.cells #[.string (ByteArray.mk #[]), .float .f64 0] 143)
  (.agg #[.string s11, .float .f64 f12] : Value).cells.size = 2 ∧ wrOk w13 (⟨w.heap.size, 0, none⟩ : Addr) (.agg #[.string s11, .float .f64 f12]) ∧ let w14 : World := wr w13 (⟨w.heap.size, 0, none⟩ : Addr) (.agg #[.string s11, .float .f64 f12])
  let w15 : World := w14.drew
  ∃ s16 : ByteArray, rd w15 (⟨w.heap.size, 0, none⟩ : Addr) (.string s16) ∧ ∃ f17 : Nat, rd w15 ((⟨w.heap.size, 0, none⟩ : Addr).add 1) (.float .f64 f17) ∧ Calls Tryz.prog 53 #[.slice b6a b6l b6c, .string s16] w15 (ret (fun r18 w19 => ∃ s20a : Option Addr, ∃ s20l : Nat, ∃ s20c : Nat, r18 = .slice s20a s20l s20c ∧ (rd w19 ((⟨w.heap.size, 0, none⟩ : Addr).add 1) (.float .f64 f17) ∧ True) ∧ Calls Tryz.prog 123 #[.slice s20a s20l s20c, .float .f64 f17] w19 (ret (fun r21 w22 => ∃ s23a : Option Addr, ∃ s23l : Nat, ∃ s23c : Nat, r21 = .slice s23a s23l s23c ∧ (True) ∧ X s23a s23l s23c (IntKind.wrap .i64 ((x7 : Int) + 1)) w22) Kp)) Kp)) else (Kn b6a b6l b6c w)

def T_conf_row_1 (b6a : Option Addr) (b6l : Nat) (b6c : Nat) (x7 : Int) (s8a : Option Addr) (s8l : Nat) (s8c : Nat) (x9 : Int) (w : World) (Kn : Option Addr → Nat → Nat → World → Prop) (Kp : List PanicEntry → World → Prop) : Prop :=
  ∀ X : Option Addr → Nat → Nat → Int → World → Prop, (∀ (b6a : Option Addr) (b6l : Nat) (b6c : Nat) (x7 : Int) (w : World), T_conf_row_1_body X b6a b6l b6c x7 s8a s8l s8c x9 w Kn Kp → X b6a b6l b6c x7 w) → X b6a b6l b6c x7 w

def T_conf_row_1_outs : Exit → Option (List (Nat × Value)) := fun x => match x with | .normal => some [(0, .slice none 0 0)] | .panic _ => some [] | _ => none

def T_conf_row_1_ks : Nat → Bool := ksOf [0, 6, 13, 14, 15, 16, 17, 18, 19, 20, 21, 22, 23, 24]

def H_conf_row_1 : Env → World → QT → Prop := unitHook 26 T_conf_row_1_ks [(0, .slice none 0 0), (13, .int .i64 0), (11, .slice none 0 0), (12, .int .i64 0)] T_conf_row_1_outs fun l w C => match l with | [v0, v1, v2, v3] => T_conf_row_1 (pA v0) (pL v0) (pC v0) (pInt v1) (pA v2) (pL v2) (pC v2) (pInt v3) w (fun b25a b25l b25c w => C .normal [.slice b25a b25l b25c] w) (fun ch w => C (.panic ch) [] w) | _ => False

theorem T_conf_row_1_hl : allP (hokL Tryz.prog (hookAt []) (at_ (bodyOf Tryz.f52) [1, 1, 0, 1, 0, 0]) 116) = (True) := by kernel_rfl
theorem T_conf_row_1_hok : HOk Tryz.prog (hookAt []) (at_ (bodyOf Tryz.f52) [1, 1, 0, 1, 0, 0]) 116 := HOk_of _ _ (by rw [T_conf_row_1_hl]; exact trivial)

theorem T_conf_row_1_eq (C : Conts) (X : List Value → World → Prop) (b6a : Option Addr) (b6l : Nat) (b6c : Nat) (x7 : Int) (s8a : Option Addr) (s8l : Nat) (s8c : Nat) (x9 : Int) (w : World) : vcCode Tryz.prog (hookAt []) (at_ (bodyOf Tryz.f52) [1, 1, 0, 1, 0, 0]) 116 ⟨[(0, .slice b6a b6l b6c), (13, .int .i64 x7)] ++ [(11, .slice s8a s8l s8c), (12, .int .i64 x9)], 26, []⟩ w (seqQ (fun e w => takeAll e [(0, .slice none 0 0), (13, .int .i64 0)] fun l => X l w) (blockQ 0 (unitQ T_conf_row_1_outs C))) = T_conf_row_1_body (fun b6a b6l b6c x7 w => X [.slice b6a b6l b6c, .int .i64 x7] w) b6a b6l b6c x7 s8a s8l s8c x9 w (fun b26a b26l b26c w => C .normal [.slice b26a b26l b26c] w) (fun ch w => C (.panic ch) [] w) := by kernel_rfl

theorem T_conf_row_1_ok : UnitOk Tryz.prog H_conf_row_1 (at_ (bodyOf Tryz.f52) [1, 1, 0, 1]) 29 := by
  have hc : at_ (bodyOf Tryz.f52) [1, 1, 0, 1] = .block 0 (.loop (at_ (bodyOf Tryz.f52) [1, 1, 0, 1, 0, 0])) := by kernel_rfl
  rw [hc]
  refine loop_unit_ok (carr := [(0, .slice none 0 0), (13, .int .i64 0)]) (fix := [(11, .slice none 0 0), (12, .int .i64 0)]) (ks := T_conf_row_1_ks) (H := (hookAt [])) (B := fun C X l u w => match l, u with | [v0, v1], [v2, v3] => T_conf_row_1_body (fun b6a b6l b6c x7 w => X [.slice b6a b6l b6c, .int .i64 x7] w) (pA v0) (pL v0) (pC v0) (pInt v1) (pA v2) (pL v2) (pC v2) (pInt v3) w (fun b27a b27l b27c w => C .normal [.slice b27a b27l b27c] w) (fun ch w => C (.panic ch) [] w) | _, _ => False) (by kernel_rfl) (by kernel_rfl) T_conf_row_1_hok ?_ ?_
  · intro C X l u w hl hu
    obtain ⟨v0, l_v0, rfl, k_v0, hl_v0⟩ := Kinds.cons_ hl
    obtain ⟨b6a, b6l, b6c, rfl⟩ := kind_slice k_v0
    obtain ⟨v1, l_v1, rfl, k_v1, hl_v1⟩ := Kinds.cons_ hl_v0
    obtain ⟨x7, rfl⟩ := kind_int k_v1
    obtain rfl := Kinds.nil_ hl_v1
    obtain ⟨v2, l_v2, rfl, k_v2, hu_v2⟩ := Kinds.cons_ hu
    obtain ⟨s8a, s8l, s8c, rfl⟩ := kind_slice k_v2
    obtain ⟨v3, l_v3, rfl, k_v3, hu_v3⟩ := Kinds.cons_ hu_v2
    obtain ⟨x9, rfl⟩ := kind_int k_v3
    obtain rfl := Kinds.nil_ hu_v3
    exact T_conf_row_1_eq C X b6a b6l b6c x7 s8a s8l s8c x9 w
  · intro l u w C hl hu
    obtain ⟨v0, l_v0, rfl, k_v0, hl_v0⟩ := Kinds.cons_ hl
    obtain ⟨b6a, b6l, b6c, rfl⟩ := kind_slice k_v0
    obtain ⟨v1, l_v1, rfl, k_v1, hl_v1⟩ := Kinds.cons_ hl_v0
    obtain ⟨x7, rfl⟩ := kind_int k_v1
    obtain rfl := Kinds.nil_ hl_v1
    obtain ⟨v2, l_v2, rfl, k_v2, hu_v2⟩ := Kinds.cons_ hu
    obtain ⟨s8a, s8l, s8c, rfl⟩ := kind_slice k_v2
    obtain ⟨v3, l_v3, rfl, k_v3, hu_v3⟩ := Kinds.cons_ hu_v2
    obtain ⟨x9, rfl⟩ := kind_int k_v3
    obtain rfl := Kinds.nil_ hu_v3
    constructor
    · intro h X hX
      exact h (fun b6a b6l b6c x7 w => X [.slice b6a b6l b6c, .int .i64 x7] w) (fun b6a b6l b6c x7 w hb => hX [.slice b6a b6l b6c, .int .i64 x7] w ⟨rfl, rfl, trivial⟩ hb)
    · intro h X hX
      exact h (fun l w => match l with | [v0, v1] => X (pA v0) (pL v0) (pC v0) (pInt v1) w | _ => True) (fun l w hl hb => by
        obtain ⟨v0, l_v0, rfl, k_v0, hl_v0⟩ := Kinds.cons_ hl
        obtain ⟨b6a, b6l, b6c, rfl⟩ := kind_slice k_v0
        obtain ⟨v1, l_v1, rfl, k_v1, hl_v1⟩ := Kinds.cons_ hl_v0
        obtain ⟨x7, rfl⟩ := kind_int k_v1
        obtain rfl := Kinds.nil_ hl_v1
        exact hX b6a b6l b6c x7 w hb)

def T_conf_row (b1a : Option Addr) (b1l : Nat) (b1c : Nat) (l2a : Option Addr) (l2l : Nat) (l2c : Nat) (w : World) (R : Ending → World → Prop) : Prop :=
  Calls Tryz.prog 51 #[.slice b1a b1l b1c, .int .i64 ((l2l : Nat) : Int)] w (ret (fun r3 w4 => ∃ s5a : Option Addr, ∃ s5l : Nat, ∃ s5c : Nat, r3 = .slice s5a s5l s5c ∧ T_conf_row_1 s5a s5l s5c 0 l2a l2l l2c ((l2l : Nat) : Int) w4 (fun b28a b28l b28c w29 => R (.returned (.slice b28a b28l b28c)) w29) (pan R)) (pan R))

theorem T_conf_row_hl : allP (hokL Tryz.prog (hookAt [(29, H_conf_row_1)]) (bodyOf Tryz.f52) 1) = (UnitOk Tryz.prog H_conf_row_1 (at_ (bodyOf Tryz.f52) [1, 1, 0, 1]) 29 ∧ True) := by kernel_rfl

theorem T_conf_row_eq (b1a : Option Addr) (b1l : Nat) (b1c : Nat) (l2a : Option Addr) (l2l : Nat) (l2c : Nat) (w : World) (R : Ending → World → Prop) : vcCode Tryz.prog (hookAt [(29, H_conf_row_1)]) (bodyOf Tryz.f52) 1 ⟨argEnv [.slice b1a b1l b1c, .slice l2a l2l l2c] 0, Tryz.f52.ntmps, []⟩ w (finQ Tryz.prog Tryz.f52.results.toList R) = T_conf_row b1a b1l b1c l2a l2l l2c w R := by kernel_rfl

theorem T_conf_row_b : Tryz.f52.body = some (bodyOf Tryz.f52) := by kernel_rfl
theorem T_conf_row_s : (quietSel (bodyOf Tryz.f52) && Nat.ble 2 Tryz.f52.ntmps) = true := by kernel_rfl

theorem C_conf_row {b1a : Option Addr} {b1l : Nat} {b1c : Nat} {l2a : Option Addr} {l2l : Nat} {l2c : Nat} {w : World} {R : Ending → World → Prop} (h : T_conf_row b1a b1l b1c l2a l2l l2c w R) : Calls Tryz.prog 52 #[.slice b1a b1l b1c, .slice l2a l2l l2c] w R :=
  calls_of_text (args := [.slice b1a b1l b1c, .slice l2a l2l l2c]) mixed Tryz.func52 T_conf_row_b T_conf_row_s (HOk_of _ _ (by rw [T_conf_row_hl]; exact ⟨T_conf_row_1_ok, trivial⟩)) (by rw [T_conf_row_eq]; exact h)

/-! (*tollgate/wire.reader).entry -/
def T_wire_reader_entry_1 (b20 : Bool) (w : World) (Kn : World → Prop) (Kp : List PanicEntry → World → Prop) : Prop :=
  if b20 = true then (runV Tryz.prog (Instr.panic (.iface 200 (.int .i64 4))) w (fun r21 w22 => Kn  w22) Kp) else (Kn  w)

def T_wire_reader_entry_1_outs : Exit → Option (List (Nat × Value)) := fun x => match x with | .normal => some [] | .panic _ => some [] | _ => none

def T_wire_reader_entry_1_ks : Nat → Bool := ksOf [19]

def H_wire_reader_entry_1 : Env → World → QT → Prop := unitHook 25 T_wire_reader_entry_1_ks [(18, .bool false)] T_wire_reader_entry_1_outs fun l w C => match l with | [v0] => T_wire_reader_entry_1 (pBool v0) w (fun w => C .normal [] w) (fun ch w => C (.panic ch) [] w) | _ => False

theorem T_wire_reader_entry_1_hl : allP (hokL Tryz.prog (hookAt []) (at_ (bodyOf Tryz.f74) [1, 1, 1, 1, 0, 1, 0, 0, 1]) 1001) = (True) := by kernel_rfl
theorem T_wire_reader_entry_1_hok : HOk Tryz.prog (hookAt []) (at_ (bodyOf Tryz.f74) [1, 1, 1, 1, 0, 1, 0, 0, 1]) 1001 := HOk_of _ _ (by rw [T_wire_reader_entry_1_hl]; exact trivial)

theorem T_wire_reader_entry_1_eq (C : Conts) (b20 : Bool) (w : World) : vcCode Tryz.prog (hookAt []) (at_ (bodyOf Tryz.f74) [1, 1, 1, 1, 0, 1, 0, 0, 1]) 1001 ⟨[(18, .bool b20)], 25, []⟩ w (unitQ T_wire_reader_entry_1_outs C) = T_wire_reader_entry_1 b20 w (fun w => C .normal [] w) (fun ch w => C (.panic ch) [] w) := by kernel_rfl

theorem T_wire_reader_entry_1_ok : UnitOk Tryz.prog H_wire_reader_entry_1 (at_ (bodyOf Tryz.f74) [1, 1, 1, 1, 0, 1, 0, 0, 1]) 1001 := unit_ok (H := (hookAt [])) (by kernel_rfl) T_wire_reader_entry_1_hok fun l w C hk => by
    obtain ⟨v0, l_v0, rfl, k_v0, hk_v0⟩ := Kinds.cons_ hk
    obtain ⟨b20, rfl⟩ := kind_bool k_v0
    obtain rfl := Kinds.nil_ hk_v0
    exact T_wire_reader_entry_1_eq C b20 w

def T_wire_reader_entry (r1 : Option Addr) (w : World) (R : Ending → World → Prop) : Prop :=
  let w2 : World := w.alloc (.cells #[.int .i64 0, .int .i64 0, .int .i64 0, .slice none 0 0] 203)
  Calls Tryz.prog 72 #[.pointer r1, .int .i64 1, .int .i64 3] w2 (ret (fun r3 w4 => ∃ x5 : Int, r3 = .int .i64 x5 ∧ let w6 : World := w4.alloc (.cells #[.int .i64 0, .int .i64 0, .int .i64 0, .slice none 0 0] 203)
  (.agg #[.int .i64 x5, .int .i64 0, .int .i64 0, .slice none 0 0] : Value).cells.size = 4 ∧ wrOk w6 (⟨w4.heap.size, 0, none⟩ : Addr) (.agg #[.int .i64 x5, .int .i64 0, .int .i64 0, .slice none 0 0]) ∧ let w7 : World := wr w6 (⟨w4.heap.size, 0, none⟩ : Addr) (.agg #[.int .i64 x5, .int .i64 0, .int .i64 0, .slice none 0 0])
  Calls Tryz.prog 73 #[.pointer r1, .int .i64 1] w7 (ret (fun r8 w9 => ∃ x10 : Int, r8 = .int .i64 x10 ∧ (.int .i64 x10 : Value).cells.size = 1 ∧ wrOk w9 ((⟨w4.heap.size, 0, none⟩ : Addr).add 1) (.int .i64 x10) ∧ let w11 : World := wr w9 ((⟨w4.heap.size, 0, none⟩ : Addr).add 1) (.int .i64 x10)
  Calls Tryz.prog 73 #[.pointer r1, .int .i64 1] w11 (ret (fun r12 w13 => ∃ x14 : Int, r12 = .int .i64 x14 ∧ (.int .i64 x14 : Value).cells.size = 1 ∧ wrOk w13 ((⟨w4.heap.size, 0, none⟩ : Addr).add 2) (.int .i64 x14) ∧ let w15 : World := wr w13 ((⟨w4.heap.size, 0, none⟩ : Addr).add 2) (.int .i64 x14)
  ∃ x16 : Int, rd w15 (⟨w4.heap.size, 0, none⟩ : Addr) (.int .i64 x16) ∧ if ((x16 : Int) == 1) = true then (Calls Tryz.prog 73 #[.pointer r1, .int .i64 0] w15 (ret (fun r17 w18 => ∃ x19 : Int, r17 = .int .i64 x19 ∧ T_wire_reader_entry_1 (decide ((x19 : Int) > 0)) w18 (fun w23 => ∃ x24 : Int, ∃ x25 : Int, ∃ x26 : Int, ∃ s27a : Option Addr, ∃ s27l : Nat, ∃ s27c : Nat, rd w23 (⟨w4.heap.size, 0, none⟩ : Addr) (.agg #[.int .i64 x24, .int .i64 x25, .int .i64 x26, .slice s27a s27l s27c]) ∧ (.agg #[.int .i64 x24, .int .i64 x25, .int .i64 x26, .slice s27a s27l s27c] : Value).cells.size = 4 ∧ wrOk w23 (⟨w.heap.size, 0, none⟩ : Addr) (.agg #[.int .i64 x24, .int .i64 x25, .int .i64 x26, .slice s27a s27l s27c]) ∧ let w28 : World := wr w23 (⟨w.heap.size, 0, none⟩ : Addr) (.agg #[.int .i64 x24, .int .i64 x25, .int .i64 x26, .slice s27a s27l s27c])
  ∃ x29 : Int, ∃ x30 : Int, ∃ x31 : Int, ∃ s32a : Option Addr, ∃ s32l : Nat, ∃ s32c : Nat, rd w28 (⟨w.heap.size, 0, none⟩ : Addr) (.agg #[.int .i64 x29, .int .i64 x30, .int .i64 x31, .slice s32a s32l s32c]) ∧ R (.returned (.agg #[.int .i64 x29, .int .i64 x30, .int .i64 x31, .slice s32a s32l s32c])) w28) (pan R)) (pan R))) else (Calls Tryz.prog 75 #[.pointer r1, .int .i64 2048] w15 (ret (fun r33 w34 => ∃ s35a : Option Addr, ∃ s35l : Nat, ∃ s35c : Nat, r33 = .slice s35a s35l s35c ∧ (.slice s35a s35l s35c : Value).cells.size = 1 ∧ wrOk w34 ((⟨w4.heap.size, 0, none⟩ : Addr).add 3) (.slice s35a s35l s35c) ∧ let w36 : World := wr w34 ((⟨w4.heap.size, 0, none⟩ : Addr).add 3) (.slice s35a s35l s35c)
  ∃ x37 : Int, ∃ x38 : Int, ∃ x39 : Int, ∃ s40a : Option Addr, ∃ s40l : Nat, ∃ s40c : Nat, rd w36 (⟨w4.heap.size, 0, none⟩ : Addr) (.agg #[.int .i64 x37, .int .i64 x38, .int .i64 x39, .slice s40a s40l s40c]) ∧ (.agg #[.int .i64 x37, .int .i64 x38, .int .i64 x39, .slice s40a s40l s40c] : Value).cells.size = 4 ∧ wrOk w36 (⟨w.heap.size, 0, none⟩ : Addr) (.agg #[.int .i64 x37, .int .i64 x38, .int .i64 x39, .slice s40a s40l s40c]) ∧ let w41 : World := wr w36 (⟨w.heap.size, 0, none⟩ : Addr) (.agg #[.int .i64 x37, .int .i64 x38, .int .i64 x39, .slice s40a s40l s40c])
  ∃ x42 : Int, ∃ x43 : Int, ∃ x44 : Int, ∃ s45a : Option Addr, ∃ s45l : Nat, ∃ s45c : Nat, rd w41 (⟨w.heap.size, 0, none⟩ : Addr) (.agg #[.int .i64 x42, .int .i64 x43, .int .i64 x44, .slice s45a s45l s45c]) ∧ R (.returned (.agg #[.int .i64 x42, .int .i64 x43, .int .i64 x44, .slice s45a s45l s45c])) w41) (pan R)))) (pan R))) (pan R))) (pan R))

theorem T_wire_reader_entry_hl : allP (hokL Tryz.prog (hookAt [(1001, H_wire_reader_entry_1)]) (bodyOf Tryz.f74) 1) = (UnitOk Tryz.prog H_wire_reader_entry_1 (at_ (bodyOf Tryz.f74) [1, 1, 1, 1, 0, 1, 0, 0, 1]) 1001 ∧ True) := by kernel_rfl

theorem T_wire_reader_entry_eq (r1 : Option Addr) (w : World) (R : Ending → World → Prop) : vcCode Tryz.prog (hookAt [(1001, H_wire_reader_entry_1)]) (bodyOf Tryz.f74) 1 ⟨argEnv [.pointer r1] 0, Tryz.f74.ntmps, []⟩ w (finQ Tryz.prog Tryz.f74.results.toList R) = T_wire_reader_entry r1 w R := by kernel_rfl

theorem T_wire_reader_entry_b : Tryz.f74.body = some (bodyOf Tryz.f74) := by kernel_rfl
theorem T_wire_reader_entry_s : (quietSel (bodyOf Tryz.f74) && Nat.ble 1 Tryz.f74.ntmps) = true := by kernel_rfl

theorem C_wire_reader_entry {r1 : Option Addr} {w : World} {R : Ending → World → Prop} (h : T_wire_reader_entry r1 w R) : Calls Tryz.prog 74 #[.pointer r1] w R :=
  calls_of_text (args := [.pointer r1]) mixed Tryz.func74 T_wire_reader_entry_b T_wire_reader_entry_s (HOk_of _ _ (by rw [T_wire_reader_entry_hl]; exact ⟨T_wire_reader_entry_1_ok, trivial⟩)) (by rw [T_wire_reader_entry_eq]; exact h)

end Go.Proofs.YtlomfgiokkhioaaGreatDoor

/-
  Numbers, texts, weights, targets as bytes: appended and taken; the program's functions and the document's.
-/
namespace Go.Vc
open Go Go.Proofs Go.Proofs.YtlomfgiokkhioaaGreatDoor
set_option maxRecDepth 100000

/-! ### arithmetic -/
theorem ofInt_nat (n : Nat) (h : n < 18446744073709551616) : (BitVec.ofInt 64 (n : Int)).toNat = n := by
  rw [BitVec.toNat_ofInt]; omega
theorem and127 (n : Nat) (h : n < 18446744073709551616) : ((BitVec.ofInt (IntKind.bits .i64) (n : Int)) &&& (BitVec.ofInt (IntKind.bits .i64) 127)).toNat = n % 128 := by
  show ((BitVec.ofInt 64 (n : Int)) &&& (BitVec.ofInt 64 127)).toNat = _
  rw [BitVec.toNat_and, ofInt_nat n h, show (BitVec.ofInt 64 127).toNat = 2 ^ 7 - 1 from by decide, Nat.and_two_pow_sub_one_eq_mod]
theorem or128 : ∀ x : Fin 128, x.val ||| 128 = x.val + 128 := by decide
theorem wrap_nat {n : Nat} (h : n < 9223372036854775808) : IntKind.wrap .i64 (n : Int) = n := wrap_id (by omega) (by omega)
theorem wrap_u8 {n : Nat} (h : n < 256) : IntKind.wrap .u8 (n : Int) = n := by
  unfold IntKind.wrap
  simp [IntKind.signed, IntKind.bits]
  omega
theorem wrap_u8_mod (n : Nat) : IntKind.wrap .u8 (n : Int) = ((UInt8.ofNat n).toNat : Int) := by
  unfold IntKind.wrap
  simp [IntKind.signed, IntKind.bits]
theorem low7 (n : Nat) (h : n < 9223372036854775808) : IntKind.wrap .u8 (IntKind.wrap .i64 ((BitVec.ofInt (IntKind.bits .i64) (IntKind.wrap .i64 ((BitVec.ofInt (IntKind.bits .i64) (n : Int)) &&& (BitVec.ofInt (IntKind.bits .i64) 127)).toNat)) ||| (BitVec.ofInt (IntKind.bits .i64) 128)).toNat) = ((UInt8.ofNat (n % 128 + 128)).toNat : Int) := by
  rw [and127 n (by omega), wrap_nat (n := n % 128) (by omega)]
  have e : ((BitVec.ofInt (IntKind.bits .i64) ((n % 128 : Nat) : Int)) ||| (BitVec.ofInt (IntKind.bits .i64) 128)).toNat = n % 128 + 128 := by
    show ((BitVec.ofInt 64 ((n % 128 : Nat) : Int)) ||| (BitVec.ofInt 64 128)).toNat = _
    rw [BitVec.toNat_or, ofInt_nat _ (by omega), show (BitVec.ofInt 64 128).toNat = 128 from by decide]
    exact or128 ⟨n % 128, by omega⟩
  rw [e, wrap_nat (n := n % 128 + 128) (by omega), wrap_u8_mod]
theorem or_add {acc x k : Nat} (h : acc < 2 ^ k) (hb : x * 2 ^ k + acc < 9223372036854775808) : IntKind.wrap .i64 ((BitVec.ofInt (IntKind.bits .i64) (acc : Int)) ||| (BitVec.ofInt (IntKind.bits .i64) ((x * 2 ^ k : Nat) : Int))).toNat = ((acc + x * 2 ^ k : Nat) : Int) := by
  have e : ((BitVec.ofInt (IntKind.bits .i64) (acc : Int)) ||| (BitVec.ofInt (IntKind.bits .i64) ((x * 2 ^ k : Nat) : Int))).toNat = acc + x * 2 ^ k := by
    show ((BitVec.ofInt 64 (acc : Int)) ||| (BitVec.ofInt 64 ((x * 2 ^ k : Nat) : Int))).toNat = _
    rw [BitVec.toNat_or, ofInt_nat _ (by omega), ofInt_nat _ (by omega), Nat.or_comm, Nat.mul_comm x, ← Nat.two_pow_add_eq_or_of_lt h, Nat.add_comm]
  rw [e, wrap_nat (by omega)]

section
variable {E w : World} {L : List Asrt} {R : Ending → World → Prop} {F : Fz}

/-! ### bytes of ours -/
def byA (s : Sl) (xs : Cm.Bs) : Asrt := ownS s.1 s.2.1 s.2.2 5 1 (bytesV xs)
theorem St.by_len {s : Sl} {xs : Cm.Bs} (h : St E (byA s xs :: L) w) : xs.length = s.2.1 := by have := h.ownS_facts.1; rw [bytesV_len] at this; omega
theorem St.by_nil (h : St E L w) : St E (byA (none, 0, 0) [] :: L) w := h.ownS_nil
theorem St.by_new (h : St E L w) (xs : Cm.Bs) (hl : xs.length ≤ big) : St E (byA (some ⟨w.heap.size, 0, none⟩, xs.length, xs.length) xs :: L) (w.alloc (.cells ⟨bytesV xs⟩ 5)) :=
  (St.ownS_mk (xs := bytesV xs) (rest := []) (l := xs.length) (c := xs.length) (sz := 1) (by rw [List.append_nil]; exact h.alloc _) (by rw [bytesV_len]; omega) (Nat.le_refl _) (by unfold big at hl; unfold maxLen; omega) (by simp) :)
theorem app_b {s : Sl} {a2 : Option Addr} {l2 c2 : Nat} {xs ys : Cm.Bs} (h : St E (byA s xs :: L) w) (hro : RdS w a2 l2 1 (bytesV ys)) (hb : xs.length + ys.length ≤ big) :
    ∃ (s' : Sl) (w' : World), (Builtin.append_ #[23, 23] 23 #[.slice s.1 s.2.1 s.2.2, .slice a2 l2 c2]).run Tryz.prog w = .ok (.slice s'.1 s'.2.1 s'.2.2) w' ∧ St E (byA s' (xs ++ ys) :: L) w' := by
  have hl := h.by_len
  have hl2 : ys.length = l2 := by have := hro.1; rw [bytesV_len] at this; omega
  obtain ⟨a', c', w', hr, hs⟩ := append_own (P := Tryz.prog) (t := 23) (ty := 23) (e := 5) (i := Tryz.t5) (z := .int .u8 0) (by kernel_rfl) (by kernel_rfl) (by kernel_rfl) (by kernel_rfl) (by decide) (c2 := c2) h hro (bytesV_one ys)
    (by have : Tryz.t5.bytes = 1 := by kernel_rfl
        rw [this]; unfold big at hb; omega) (by unfold big at hb; unfold maxLen; omega)
  exact ⟨(a', s.2.1 + l2, c'), w', hr, by rw [byA, bytesV_app]; exact hs⟩
theorem app_1 {s : Sl} {xs : Cm.Bs} {x : UInt8} (h : St E (byA s xs :: L) w) (hb : xs.length + 1 ≤ big) :
    ∃ (s' : Sl) (w' : World), (Builtin.append_ #[23, 23] 23 #[.slice s.1 s.2.1 s.2.2, .slice (some ⟨w.heap.size, 0, none⟩) 1 1]).run Tryz.prog (w.alloc (.cells #[.int .u8 (x.toNat : Int)] 5)) = .ok (.slice s'.1 s'.2.1 s'.2.2) w' ∧ St E (byA s' (xs ++ [x]) :: L) w' := by
  have h2 : St E (byA (some ⟨w.heap.size, 0, none⟩, 1, 1) [x] :: byA s xs :: L) (w.alloc (.cells #[.int .u8 (x.toNat : Int)] 5)) := h.by_new [x] (show 1 ≤ big by decide)
  obtain ⟨s', w', hr, hs⟩ := app_b (c2 := 1) h2.f1 (St.rdS_own h2) (by simpa using hb)
  exact ⟨s', w', hr, hs.f1.drop⟩
theorem app_s {s : Sl} {xs ys : Cm.Bs} (h : St E (byA s xs :: L) w) (hb : xs.length + ys.length ≤ big) :
    ∃ (s' : Sl) (w' : World), (Builtin.append_ #[23, 9] 23 #[.slice s.1 s.2.1 s.2.2, .string (bs ys)]).run Tryz.prog w = .ok (.slice s'.1 s'.2.1 s'.2.2) w' ∧ St E (byA s' (xs ++ ys) :: L) w' := by
  have hl := h.by_len
  obtain ⟨a', c', w', hr, hs⟩ := append_str (P := Tryz.prog) (t := 23) (u := 9) (ty := 23) (e := 5) (i := Tryz.t5) (z := .int .u8 0) (by kernel_rfl) (by kernel_rfl) (by kernel_rfl) (by kernel_rfl) (by kernel_rfl) (by kernel_rfl) (by kernel_rfl) (s := bs ys) h
    (by rw [bs_size]; unfold big at hb; omega)
  exact ⟨(a', s.2.1 + (bs ys).size, c'), w', hr, by rw [byA, bytesV_app]; exact hs⟩

/-! ### numbers -/
theorem number_spec {s : Sl} {xs : Cm.Bs} (j : Nat) {n : Nat} (hn : n < 128 ^ (j + 1)) (hj : j ≤ 5) (h : St E (byA s xs :: L) w) (hb : xs.length + 6 ≤ big)
    (k : ∀ (w' : World) (s' : Sl), St E (byA s' (xs ++ Cm.encNF j n) :: L) w' → R (.returned (.slice s'.1 s'.2.1 s'.2.2)) w') : Calls Tryz.prog 147 #[.slice s.1 s.2.1 s.2.2, .int .i64 (n : Int)] w R := by
  refine C_wire_number ?_
  unfold T_wire_number T_wire_number_1
  intro X hX
  have go : ∀ (j : Nat) (n : Nat) (s : Sl) (ys : Cm.Bs) (w : World), n < 128 ^ (j + 1) → j ≤ 5 → ys.length + j + 1 ≤ big → St E (byA s ys :: L) w → (∀ (w' : World) (s' : Sl), St E (byA s' (ys ++ Cm.encNF j n) :: L) w' → R (.returned (.slice s'.1 s'.2.1 s'.2.2)) w') → X s.1 s.2.1 s.2.2 (n : Int) w := by
    intro j
    induction j with
    | zero =>
      intro n s ys w hn hj hb h k
      refine hX _ _ _ _ _ ?_
      unfold T_wire_number_1_body
      refine ite_d (fun hc => absurd hc (by have : n < 128 := by simpa using hn
                                            omega)) (fun hc => ?_)
      dsimp -zeta only
      intro w20
      obtain ⟨s', w', hr, hs⟩ := app_1 (x := UInt8.ofNat n) h (by omega)
      rw [← wrap_u8_mod] at hr
      exact runV_ok hr ⟨_, _, _, rfl, k _ _ hs⟩
    | succ j ih =>
      intro n s ys w hn hj hb h k
      refine hX _ _ _ _ _ ?_
      unfold T_wire_number_1_body
      have hn2 : n < 9223372036854775808 := Nat.lt_of_lt_of_le hn (Nat.le_trans (Nat.pow_le_pow_right (by decide) (by omega : j + 1 + 1 ≤ 6)) (by decide))
      refine ite_d (fun hc => ?_) (fun hc => ?_)
      · intro w5
        obtain ⟨s', w', hr, hs⟩ := app_1 (x := UInt8.ofNat (n % 128 + 128)) h (by omega)
        rw [← low7 n hn2] at hr
        refine runV_ok hr ⟨_, _, _, rfl, ?_⟩
        rw [show Int.fdiv (n : Int) (2 ^ 7) = ((n / 128 : Nat) : Int) from by
          rw [Int.fdiv_eq_ediv_of_nonneg _ (by decide)]; norm_cast]
        refine ih (n / 128) s' _ _ (by rw [Nat.div_lt_iff_lt_mul (by decide)]; rwa [Nat.pow_succ] at hn) (by omega) (by simp; omega) hs fun w2 s2 h2 => k w2 s2 ?_
        rw [Cm.encNF, if_neg (by omega)]
        simpa using h2
      · dsimp -zeta only
        intro w20
        obtain ⟨s', w', hr, hs⟩ := app_1 (x := UInt8.ofNat n) h (by omega)
        rw [← wrap_u8_mod] at hr
        refine runV_ok hr ⟨_, _, _, rfl, k _ _ ?_⟩
        rw [Cm.encNF, if_pos (by omega)]
        exact hs
  exact go j n s xs w hn hj (by omega) h k
theorem num_len (n : Int) : (Cm.num n).length ≤ 6 := by
  unfold Cm.num
  split
  · simp
  · have : ∀ j n, (Cm.encNF j n).length ≤ j + 1 := by
      intro j
      induction j with
      | zero => intro n; simp [Cm.encNF]
      | succ j ih => intro n; rw [Cm.encNF]; split <;> simp [ih]
    exact this 5 _
def numE (n : Int) : Int := if n < 0 ∨ 1099511627776 < n then 2 else 0
theorem Number_spec {n : Int} (h : St E L w) (k : ∀ (w' : World) (s' : Sl), St E (byA s' (Cm.num n) :: L) w' → R (.returned (.tuple #[.slice s'.1 s'.2.1 s'.2.2, .int .i64 (numE n)])) w') : Calls Tryz.prog 122 #[.int .i64 n] w R := by
  refine C_wire_Number ?_
  unfold T_wire_Number
  unfold numE Cm.num at k
  refine ite_d (fun h1 => ?_) fun h1 => ite_d (fun h2 => ?_) fun h2 => ?_
  · rw [if_pos (.inl h1), if_pos (.inl h1)] at k
    exact k w (none, 0, 0) h.by_nil
  · rw [if_pos (.inr (by omega)), if_pos (.inr (by omega))] at k
    exact k w (none, 0, 0) h.by_nil
  · rw [if_neg (by omega), if_neg (by omega)] at k
    obtain ⟨m, rfl⟩ := Int.eq_ofNat_of_zero_le (by omega : 0 ≤ n)
    exact number_spec (s := (none, 0, 0)) (xs := []) 5 (n := m) (by omega) (by omega) h.by_nil (by decide) fun w' s' h' => ⟨_, _, _, rfl, k w' s' (by simpa using h')⟩
section
variable {s : Sl} {xs : Cm.Bs}
theorem num_spec {n : Int} (h : St E (byA s xs :: L) w) (hb : xs.length + 6 ≤ big) (k : ∀ (w' : World) (s' : Sl), St E (byA s' (xs ++ Cm.num n) :: L) w' → R (.returned (.slice s'.1 s'.2.1 s'.2.2)) w') : Calls Tryz.prog 51 #[.slice s.1 s.2.1 s.2.2, .int .i64 n] w R := by
  refine C_conf_num ?_
  unfold T_conf_num
  refine Number_spec h fun w' s' h' => ⟨_, _, _, _, rfl, ?_⟩
  obtain ⟨s2, w2, hr, hs⟩ := app_b (c2 := s'.2.2) h'.f1 (St.rdS_own h') (by have := num_len n; omega)
  exact runV_ok hr ⟨_, _, _, rfl, k w2 s2 hs.f1.drop⟩
theorem text_len (x : Cm.Bs) : (Cm.text x).length ≤ 6 + x.length := by have := num_len x.length; simp [Cm.text]; omega
theorem text_spec {x : Cm.Bs} (h : St E (byA s xs :: L) w) (hb : xs.length + 6 + x.length ≤ big) (k : ∀ (w' : World) (s' : Sl), St E (byA s' (xs ++ Cm.text x) :: L) w' → R (.returned (.slice s'.1 s'.2.1 s'.2.2)) w') : Calls Tryz.prog 53 #[.slice s.1 s.2.1 s.2.2, .string (bs x)] w R := by
  refine C_conf_text ?_
  unfold T_conf_text
  rw [bs_size]
  refine num_spec h (by omega) fun w' s' h' => ⟨_, _, _, rfl, ?_⟩
  obtain ⟨s2, w2, hr, hs⟩ := app_s (ys := x) h' (by have := num_len x.length; simp; omega)
  exact runV_ok hr ⟨_, _, _, rfl, k w2 s2 (by simpa [Cm.text] using hs)⟩
/-! ### weights, targets -/
theorem run_shr (t : TypeId) (x y : Operand) {v n : Nat} {q : IntKind} (hn : n < 64) : (do eqGuard .shr t x y (.int .u64 (v : Int)) (.int q (n : Int)); binOp .shr t (.int .u64 (v : Int)) (.int q (n : Int)) : Sem Value).run Tryz.prog w = .ok (.int .u64 ((v / 2 ^ n : Nat) : Int)) w := by
  have e : min (n : Int).toNat (IntKind.bits .u64) = n := by rw [Int.toNat_natCast]; exact Nat.min_eq_left (by show n ≤ 64; omega)
  have h0 : ¬ ((n : Int) < 0) := by omega
  simp only [eqGuard, binOp, Op.shift]
  rw [if_neg h0, e, Int.fdiv_eq_ediv_of_nonneg _ (by exact_mod_cast Nat.zero_le _)]
  simp
def f64n (v : Nat) (i : Nat) : UInt8 := UInt8.ofNat (v / 2 ^ (56 - 8 * i))
theorem f64_take (v : Nat) : ∀ i, i ≤ 8 → (Cm.f64 v).take i = (List.range i).map (f64n v) := by
  intro i hi
  match i, hi with
  | 0, _ => rfl
  | 1, _ => rfl
  | 2, _ => rfl
  | 3, _ => rfl
  | 4, _ => rfl
  | 5, _ => rfl
  | 6, _ => rfl
  | 7, _ => rfl
  | 8, _ => simp [Cm.f64, List.range_succ, f64n]
theorem float_spec {v : Nat} (h : St E (byA s xs :: L) w) (hb : xs.length + 8 ≤ big) (k : ∀ (w' : World) (s' : Sl), St E (byA s' (xs ++ Cm.f64 v) :: L) w' → R (.returned (.slice s'.1 s'.2.1 s'.2.2)) w') : Calls Tryz.prog 123 #[.slice s.1 s.2.1 s.2.2, .float .f64 v] w R := by
  refine C_conf_float ?_
  unfold T_conf_float T_conf_float_1
  intro X hX
  refine up_to 8 (Q := fun j => ∀ (w : World) (s : Sl), St E (byA s (xs ++ (Cm.f64 v).take j) :: L) w → X s.1 s.2.1 s.2.2 (56 - 8 * (j : Int)) w) ?_ w s (by simpa using h)
  intro j hj ih w s h
  refine hX _ _ _ _ _ ?_
  unfold T_conf_float_1_body
  refine ite_d (fun hc => ?_) (fun hc => ?_)
  · have hj8 : j < 8 := by omega
    refine runV_ok run_fbits ⟨_, rfl, ?_⟩
    rw [show (56 - 8 * (j : Int)) = ((56 - 8 * j : Nat) : Int) from by omega]
    refine runV_ok (run_shr _ _ _ (by omega)) ⟨_, rfl, ?_⟩
    intro w12
    obtain ⟨s', w', hr, hs⟩ := app_1 (x := f64n v j) h (by simp [f64_take v j (by omega)]; omega)
    unfold f64n at hr
    rw [← wrap_u8_mod] at hr
    refine runV_ok hr ⟨_, _, _, rfl, ?_⟩
    rw [wrap_id (by omega) (by omega), show ((56 - 8 * j : Nat) : Int) - 8 = 56 - 8 * ((j + 1 : Nat) : Int) from by omega]
    refine ih hj8 _ _ ?_
    rw [f64_take v (j + 1) (by omega), List.range_succ, List.map_append, ← f64_take v j (by omega)]
    simpa using hs
  · have : j = 8 := by omega
    subst this
    exact k _ _ h
theorem tgt_len (t : Cm.Tgt) : (Cm.tgt t).length ≤ 14 + t.addr.length := by have := text_len t.addr; simp [Cm.tgt, Cm.f64_len]; omega
def tgsMax (l : List Cm.Tgt) : Nat := 6 + (l.map fun t => 14 + t.addr.length).sum
theorem flat_tgt_len (l : List Cm.Tgt) : (l.flatMap Cm.tgt).length ≤ (l.map fun t => 14 + t.addr.length).sum := by
  induction l with
  | nil => simp
  | cons t r ih => have := tgt_len t; simp only [List.flatMap_cons, List.length_append, List.map_cons, List.sum_cons]; omega
theorem sum_take_le (f : Cm.Tgt → Nat) : ∀ (l : List Cm.Tgt) (j : Nat) (h : j < l.length), ((l.take j).map f).sum + f l[j] ≤ (l.map f).sum
  | [], _, h => by simp at h
  | t :: r, 0, _ => by simp
  | t :: r, j + 1, h => by
    have := sum_take_le f r j (by simpa using h)
    simp only [List.take_succ_cons, List.map_cons, List.sum_cons, List.getElem_cons_succ]; omega
theorem row_spec {q : Sl} {l : List Cm.Tgt} (hm : kn F ∈ L) (hr : RdF F q.1 q.2.1 2 (l.flatMap tV)) (hl : okTs l) (h : St E (byA s xs :: L) w) (hb : xs.length + tgsMax l ≤ big)
    (k : ∀ (w' : World) (s' : Sl), St E (byA s' (xs ++ Cm.tgs l) :: L) w' → R (.returned (.slice s'.1 s'.2.1 s'.2.2)) w') : Calls Tryz.prog 52 #[.slice s.1 s.2.1 s.2.2, .slice q.1 q.2.1 q.2.2] w R := by
  have hn := tgs_len hm h.drop hr
  unfold tgsMax at hb
  refine C_conf_row ?_
  unfold T_conf_row
  refine num_spec h (by omega) fun w1 s1 h1 => ⟨_, _, _, rfl, ?_⟩
  unfold T_conf_row_1
  intro X hX
  refine up_to l.length (Q := fun j => ∀ (w : World) (s : Sl), St E (byA s (xs ++ Cm.num l.length ++ (l.take j).flatMap Cm.tgt) :: L) w → X s.1 s.2.1 s.2.2 (j : Int) w) ?_ w1 s1 (by rw [← hn] at h1; simpa using h1)
  intro j hj ih w s h
  refine hX _ _ _ _ _ ?_
  unfold T_conf_row_1_body
  rw [← hn]
  refine ite_d (fun hc => ?_) (fun hc => ?_)
  · have hjl : j < l.length := by omega
    obtain ⟨ad, ha, hrd, _⟩ := (hr.at h (List.mem_cons_of_mem _ hm)).elem tV_len (List.getElem?_eq_getElem hjl) (by decide)
    have hs1 := sum_take_le (fun t => 14 + t.addr.length) l j hjl
    have hs2 := flat_tgt_len (l.take j)
    have hs3 := num_len l.length
    have hs4 := text_len l[j].addr
    refine ⟨by omega, by omega, ad, ha, _, _, by rw [Int.toNat_natCast]; exact hrd, ?_⟩
    intro w8
    have h8 := h.alloc (.cells #[.string (ByteArray.mk #[]), .float .f64 0] 143)
    refine ⟨rfl, wrOk_agg h8.at_blk (xs := tV l[j]) (by simp [tV]) (by intro u hu; simp [tV] at hu; rcases hu with rfl | rfl <;> rfl), ?_⟩
    intro w9 w10
    have h9 : St E (blkL w.heap.size 143 (tV l[j]) :: byA s (xs ++ Cm.num l.length ++ (l.take j).flatMap Cm.tgt) :: L) w10 := (h8.wr_agg0 (xs := tV l[j]) rfl).drew
    refine ⟨_, rd_cell h9.at_blk (l := tV l[j]) rfl rfl, _, rd_fld h9.at_blk (l := tV l[j]) rfl rfl, ?_⟩
    refine text_spec (x := l[j].addr) h9.f1 (by simp only [List.length_append]; omega) fun w2 s2 h2 => ⟨_, _, _, rfl, ⟨rd_fld h2.f1.at_blk (l := tV l[j]) rfl rfl, trivial⟩, ?_⟩
    refine float_spec h2 (by simp only [List.length_append]; omega) fun w3 s3 h3 => ⟨_, _, _, rfl, trivial, ?_⟩
    rw [succ_huge (by have := hl.1; omega)]
    refine ih hjl _ _ ?_
    rw [List.take_succ_eq_append_getElem hjl, List.flatMap_append]
    have := h3.f1.drop
    simpa [Cm.tgt] using this
  · refine k _ _ ?_
    rw [List.take_of_length_le (by omega)] at h
    simpa [Cm.tgs] using h
end
end
end Go.Vc

/-
  Structs held against each other.
-/
namespace Go.Vc
open Go
section
variable {P : Program} {t : TypeId} {w : World} {x y : Operand}
theorem run_ne_agg {a b : Array Value} {r : Bool} (hg : P.eqGuardType P.depth t = false) (he : (Op.equal t (.agg a) (.agg b)).run P w = .ok r w) :
    (do eqGuard .neq t x y (.agg a) (.agg b); binOp .neq t (.agg a) (.agg b) : Sem Value).run P w = .ok (.bool !r) w := by
  simp [eqGuard, program, Sem.run, hg, binOp, he]
theorem run_eq_agg {a b : Array Value} {r : Bool} (hg : P.eqGuardType P.depth t = false) (he : (Op.equal t (.agg a) (.agg b)).run P w = .ok r w) :
    (do eqGuard .eql t x y (.agg a) (.agg b); binOp .eql t (.agg a) (.agg b) : Sem Value).run P w = .ok (.bool r) w := by
  simp [eqGuard, program, Sem.run, hg, binOp, he]
theorem equal_str3 {f0 f1 f2 : Field} (hu : P.underlying t = some (.struct #[f0, f1, f2])) (h0 : P.underlying f0.type = some .string) (h1 : P.underlying f1.type = some .string) (h2 : P.underlying f2.type = some .string)
    (hn0 : f0.name ≠ "_") (hn1 : f1.name ≠ "_") (hn2 : f2.name ≠ "_") (ho0 : f0.offset = 0) (ho1 : f1.offset = 1) (ho2 : f2.offset = 2) (hst : P.stoodInHeld t = false) (a1 a2 a3 b1 b2 b3 : ByteArray) :
    (Op.equal t (.agg #[.string a1, .string a2, .string a3]) (.agg #[.string b1, .string b2, .string b3])).run P w = .ok (decide (a1 = b1) && (decide (a2 = b2) && decide (a3 = b3))) w := by
  have e0 : ∀ x y : ByteArray, (Op.equalIn 9999 f0.type (.string x) (.string y)).run P w = .ok (x == y) w := fun x y => equalIn_string (P := P) h0 x y 9998 w
  have e1 : ∀ x y : ByteArray, (Op.equalIn 9999 f1.type (.string x) (.string y)).run P w = .ok (x == y) w := fun x y => equalIn_string (P := P) h1 x y 9998 w
  have e2 : ∀ x y : ByteArray, (Op.equalIn 9999 f2.type (.string x) (.string y)).run P w = .ok (x == y) w := fun x y => equalIn_string (P := P) h2 x y 9998 w
  have hag : ∀ f : Field, P.underlying f.type = some .string → aggT P f.type = false := fun f hf => by simp [aggT, hf]
  have hp0 : ∀ x y z : Value, (part f0.type #[x, y, z] f0.offset).run P w = .ok x w := fun x y z => by simp [part, run_isAgg h0, hag f0 h0, ho0]
  have hp1 : ∀ x y z : Value, (part f1.type #[x, y, z] f1.offset).run P w = .ok y w := fun x y z => by simp [part, run_isAgg h1, hag f1 h1, ho1]
  have hp2 : ∀ x y z : Value, (part f2.type #[x, y, z] f2.offset).run P w = .ok z w := fun x y z => by simp [part, run_isAgg h2, hag f2 h2, ho2]
  show (Op.equalIn (9999 + 1) t _ _).run P w = _
  unfold Op.equalIn
  simp only [Sem.run_bind, run_underlying_ hu, Result.andThen_ok, program, Sem.run, hst]
  by_cases ha : a1 = b1
  · by_cases hb : a2 = b2
    · by_cases hc : a3 = b3
      · simp [hn0, hn1, hn2, hp0, hp1, hp2, e0, e1, e2, ha, hb, hc, bytes_beq]
      · simp [hn0, hn1, hn2, hp0, hp1, hp2, e0, e1, e2, ha, hb, hc, bytes_beq]
    · simp [hn0, hn1, hp0, hp1, e0, e1, ha, hb, bytes_beq]
  · simp [hn0, hp0, e0, ha, bytes_beq]
end
end Go.Vc

/-
  Rows of targets; targets and commands held against each other.
-/
namespace Go.Vc
open Go Go.Proofs Go.Proofs.YtlomfgiokkhioaaGreatDoor
set_option maxRecDepth 100000
section
variable {E w : World} {L : List Asrt} {R : Ending → World → Prop} {F : Fz}
def tgA (s : Sl) (l : List Cm.Tgt) : Asrt := ownS s.1 s.2.1 s.2.2 143 2 (l.flatMap tV)
theorem app_t {s : Sl} {a2 : Option Addr} {l2 c2 : Nat} {xs ys : List Cm.Tgt} (h : St E (tgA s xs :: L) w) (hro : RdS w a2 l2 2 (ys.flatMap tV)) (hb : xs.length + ys.length ≤ 1000000) :
    ∃ (s' : Sl) (w' : World), (Builtin.append_ #[32, 32] 32 #[.slice s.1 s.2.1 s.2.2, .slice a2 l2 c2]).run Tryz.prog w = .ok (.slice s'.1 s'.2.1 s'.2.2) w' ∧ St E (tgA s' (xs ++ ys) :: L) w' := by
  have hl : xs.length = s.2.1 := h.rdS_own.count tV_len (by decide)
  have hl2 : ys.length = l2 := hro.count tV_len (by decide)
  obtain ⟨a', c', w', hr, hs⟩ := append_own (P := Tryz.prog) (t := 32) (ty := 32) (e := 143) (i := Tryz.t143) (z := .agg #[.string (ByteArray.mk #[]), .float .f64 0]) (by kernel_rfl) (by kernel_rfl) (by kernel_rfl) (by kernel_rfl) (by decide) (c2 := c2) h hro (tV_one ys)
    (by have : Tryz.t143.bytes = 24 := by kernel_rfl
        rw [this]; omega) (by unfold maxLen; omega)
  rw [show Tryz.t143.size = 2 from by kernel_rfl, ← List.flatMap_append] at hs
  exact ⟨(a', s.2.1 + l2, c'), w', hr, hs⟩
theorem app_t1 {s : Sl} {xs : List Cm.Tgt} {t : Cm.Tgt} (h : St E (tgA s xs :: L) w) (hb : xs.length + 1 ≤ 1000000) :
    ∃ (s' : Sl) (w' : World), (Builtin.append_ #[32, 32] 32 #[.slice s.1 s.2.1 s.2.2, .slice (some ⟨w.heap.size, 0, none⟩) 1 1]).run Tryz.prog (w.alloc (.cells #[.string (bs t.addr), .float .f64 t.w] 143)) = .ok (.slice s'.1 s'.2.1 s'.2.2) w' ∧ St E (tgA s' (xs ++ [t]) :: L) w' := by
  have h2 : St E (tgA (some ⟨w.heap.size, 0, none⟩, 1, 1) [t] :: tgA s xs :: L) (w.alloc (.cells #[.string (bs t.addr), .float .f64 t.w] 143)) :=
    (St.ownS_mk (xs := [t].flatMap tV) (rest := []) (l := 1) (c := 1) (sz := 2) (h.alloc _) rfl (Nat.le_refl _) (by decide) rfl :)
  obtain ⟨s', w', hr, hs⟩ := app_t (c2 := 1) h2.f1 (St.rdS_own h2) (by simpa using hb)
  exact ⟨s', w', hr, hs.f1.drop⟩
def zeroC : Cm.Cmd := ⟨0, 0, 0, 0, [], [], [], []⟩
def shortTs (l : List Cm.Tgt) : Prop := l.length ≤ 16 ∧ ∀ t ∈ l, t.addr.length ≤ 128 ∧ t.w < two64
theorem shortTs.ok {l : List Cm.Tgt} (h : shortTs l) : okTs l := ⟨by have := h.1; unfold huge; omega, fun t ht => ⟨by have := (h.2 t ht).1; unfold huge; omega, (h.2 t ht).2⟩⟩
theorem one_cmdL (c : Cm.Cmd) (s : Sl) : ∀ u ∈ cmdL c s, one u = true := by
  intro u hu
  simp only [cmdL, List.mem_cons, List.not_mem_nil, or_false] at hu
  rcases hu with rfl | rfl | rfl | rfl | rfl | rfl | rfl | rfl <;> rfl
theorem St.freezeT {s : Sl} {l : List Cm.Tgt} (h : St E (tgA s l :: kn F :: L) w) : ∃ G, Fz.le F G ∧ St E (kn G :: L) w ∧ RdF G s.1 s.2.1 2 (l.flatMap tV) := h.freezeS
theorem cell8 (c : Cm.Cmd) (s : Sl) : (cmdL c s).length = 8 := rfl
/-! ### the same -/
theorem str_beq (a b : Cm.Bs) : ((bs a).toList == (bs b).toList) = decide (a = b) := by
  rw [bs_toList, bs_toList, Bool.eq_iff_iff]; simp
theorem drop_step {α : Type} [DecidableEq α] {l1 l2 : List α} {j : Nat} (h1 : j < l1.length) (h2 : j < l2.length) : decide (l1.drop j = l2.drop j) = (decide (l1[j] = l2[j]) && decide (l1.drop (j + 1) = l2.drop (j + 1))) := by
  rw [List.drop_eq_getElem_cons h1, List.drop_eq_getElem_cons h2, Bool.eq_iff_iff, Bool.and_eq_true, decide_eq_true_eq, decide_eq_true_eq, decide_eq_true_eq, List.cons.injEq]
end
end Go.Vc

/-
  One number out of bytes.
-/
namespace Go.Vc
open Go Go.Proofs Go.Proofs.YtlomfgiokkhioaaGreatDoor
set_option maxRecDepth 100000

/-- Bytes that are read from, known for good. -/
structure Src (F : Fz) (q : Sl) (b : Cm.Bs) : Prop where
  rd : RdF F q.1 q.2.1 1 (bytesV b)
  len : b.length = q.2.1
  cap : q.2.1 ≤ q.2.2
  big : b.length ≤ 9223372036854775807
theorem Src.mono {F G : Fz} {q : Sl} {b : Cm.Bs} (h : Src F q b) (k : Fz.le F G) : Src G q b := ⟨h.rd.mono k, h.len, h.cap, h.big⟩
/-- The number that stands at a place, as the functions tell it. -/
def tkR (n0 : Nat) (x : Except Int (Nat × Cm.Bs)) : Int × Int × Int := match x with
  | .error e => (0, 0, e)
  | .ok (n, r) => (n, (n0 - r.length : Nat), 0)
section
variable {E w : World} {L : List Asrt} {R : Ending → World → Prop} {F : Fz} {q : Sl} {b : Cm.Bs} {st : Cm.Ps} {p ty : Nat}
/-! ### one number -/
theorem run_shl (t : TypeId) (x y : Operand) {v n : Nat} (hn : n < 64) : (do eqGuard .shl t x y (.int .i64 (v : Int)) (.int .i64 (n : Int)); binOp .shl t (.int .i64 (v : Int)) (.int .i64 (n : Int)) : Sem Value).run Tryz.prog w = .ok (.int .i64 (IntKind.wrap .i64 ((v * 2 ^ n : Nat) : Int))) w := by
  have e : min (n : Int).toNat (IntKind.bits .i64) = n := by rw [Int.toNat_natCast]; exact Nat.min_eq_left (by show n ≤ 64; omega)
  have h0 : ¬ ((n : Int) < 0) := by omega
  simp only [eqGuard, binOp, Op.shift]
  rw [if_neg h0, e]
  simp
theorem byte_at (hs : Src F q b) (hm : kn F ∈ L) (h : St E L w) {i : Nat} (hi : i < b.length) : ∃ ad, q.1 = some ad ∧ rd w (ad.add (i * 1)) (.int .u8 (b[i].toNat : Int)) := by
  have hr := hs.rd.at h hm
  obtain ⟨ad, ha, _, hc⟩ := hr.cells (by have := hs.len; omega)
  refine ⟨ad, ha, ?_⟩
  rw [Nat.mul_one]
  exact hr.rd_cell ha (by have := hs.len; omega) (v := .int .u8 (b[i].toNat : Int)) (by simp [bytesV, hi]) rfl
theorem takeGo_cons (j n : Nat) (c : UInt8) (r : Cm.Bs) : Cm.takeGo j n (c :: r) = if 128 ≤ c.toNat then (if j = 5 then .error 6 else Cm.takeGo (j + 1) (n + c.toNat % 128 * 128 ^ j) r)
    else if c.toNat = 0 ∧ 0 < j then .error 4 else if 1099511627776 < n + c.toNat % 128 * 128 ^ j then .error 6 else .ok (n + c.toNat % 128 * 128 ^ j, r) := rfl
theorem pow7 (k : Nat) (_h : k ≤ 5) : 128 ^ k = 2 ^ (7 * k) := by rw [show 128 = 2 ^ 7 from rfl, ← Nat.pow_mul]
theorem TakeNumber_spec {at_ : Nat} (hs : Src F q b) (hm : kn F ∈ L) (h : St E L w) (ha : at_ ≤ b.length)
    (k : ∀ w', St E L w' → R (.returned (.tuple #[.int .i64 (tkR b.length (Cm.takeGo 0 0 (b.drop at_))).1, .int .i64 (tkR b.length (Cm.takeGo 0 0 (b.drop at_))).2.1, .int .i64 (tkR b.length (Cm.takeGo 0 0 (b.drop at_))).2.2])) w') :
    Calls Tryz.prog 175 #[.slice q.1 q.2.1 q.2.2, .int .i64 (at_ : Int)] w R := by
  have hlen := hs.len
  have hbig := hs.big
  refine C_wire_TakeNumber ?_
  unfold T_wire_TakeNumber T_wire_TakeNumber_1
  refine ite_d (fun h1 => absurd h1 (by omega)) fun _ => ite_d (fun h1 => absurd h1 (by omega)) fun _ => ?_
  unfold T_wire_TakeNumber_2
  intro X hX
  have go : ∀ (r : Cm.Bs) (j n : Nat), r = b.drop (at_ + j) → j ≤ 5 → n < 2 ^ (7 * j) → at_ + j ≤ b.length → Cm.takeGo 0 0 (b.drop at_) = Cm.takeGo j n r → X (n : Int) (j : Int) w := by
    intro r
    induction r with
    | nil =>
      intro j n hr hj hn hle he
      refine hX _ _ _ ?_
      unfold T_wire_TakeNumber_2_body
      have : at_ + j = b.length := by have := congrArg List.length hr; simp at this; omega
      rw [show ((at_ : Int) + (j : Int)) = ((at_ + j : Nat) : Int) from by omega, wrap_nat (by omega), eq_dec]
      refine ite_d (fun _ => ?_) (fun hh => absurd hh (by omega))
      have := k w h
      rw [he] at this
      exact this
    | cons c r ih =>
      intro j n hr hj hn hle he
      refine hX _ _ _ ?_
      unfold T_wire_TakeNumber_2_body
      have hlt : at_ + j < b.length := by have := congrArg List.length hr; simp at this; omega
      have hd := List.drop_eq_getElem_cons hlt
      rw [← hr] at hd
      injection hd with hc hr2
      rw [show ((at_ : Int) + (j : Int)) = ((at_ + j : Nat) : Int) from by omega, wrap_nat (n := at_ + j) (by omega), eq_dec]
      refine ite_d (fun hh => absurd hh (by omega)) (fun _ => ?_)
      obtain ⟨ad, had, hrd⟩ := byte_at hs hm h hlt
      rw [← hc] at hrd
      have h256 := c.toNat_lt
      have hk := k w h
      rw [he] at hk
      refine ⟨by omega, by omega, ad, had, (c.toNat : Int), by rw [Int.toNat_natCast]; exact hrd, ?_⟩
      rw [wrap_nat (n := c.toNat) (by omega), and127 _ (by omega), wrap_nat (n := c.toNat % 128) (by omega), show (7 : Int) * (j : Int) = ((7 * j : Nat) : Int) from by omega, wrap_nat (n := 7 * j) (by omega)]
      have hp : 2 ^ (7 * j) ≤ 34359738368 := Nat.le_trans (Nat.pow_le_pow_right (by decide) (by omega : 7 * j ≤ 35)) (by decide)
      have hmul : c.toNat % 128 * 2 ^ (7 * j) ≤ 127 * 34359738368 := Nat.mul_le_mul (by omega) hp
      refine runV_ok (run_shl _ _ _ (by omega)) ⟨_, rfl, ?_⟩
      rw [wrap_nat (n := c.toNat % 128 * 2 ^ (7 * j)) (by omega), or_add hn (by omega), show ((j : Int) + 1) = ((j + 1 : Nat) : Int) from by omega, wrap_nat (n := j + 1) (by omega)]
      rw [← pow7 j hj]
      rw [takeGo_cons] at hk he
      refine ite_d (fun hc1 => ?_) (fun hc1 => ?_)
      · rw [if_pos (by omega)] at hk he
        rw [eq_dec]
        refine ite_d (fun h5 => ?_) (fun h5 => ?_)
        · rw [if_pos (by omega)] at hk
          exact hk
        · rw [if_neg (by omega)] at he
          refine ih (j + 1) _ hr2 (by omega) ?_ (by omega) he
          rw [pow7 j hj, show 7 * (j + 1) = 7 * j + 7 from by omega, Nat.pow_add]
          have : c.toNat % 128 * 2 ^ (7 * j) ≤ 127 * 2 ^ (7 * j) := Nat.mul_le_mul_right _ (by omega)
          omega
      · rw [if_neg (by omega)] at hk
        unfold T_wire_TakeNumber_3
        rw [eq_dec]
        have tail : ¬ (c.toNat = 0 ∧ 0 < j) → (if decide ((((n + c.toNat % 128 * 128 ^ j : Nat) : Int)) > 1099511627776) = true then R (.returned (.tuple #[.int .i64 0, .int .i64 0, .int .i64 6])) w else
            R (.returned (.tuple #[.int .i64 ((n + c.toNat % 128 * 128 ^ j : Nat) : Int), .int .i64 (IntKind.wrap .i64 ((at_ : Int) + ((j + 1 : Nat) : Int))), .int .i64 0])) w) := fun hz => by
          rw [if_neg hz] at hk
          refine ite_d (fun h6 => ?_) (fun h6 => ?_)
          · rw [if_pos (by omega)] at hk
            exact hk
          · rw [if_neg (by omega)] at hk
            rw [show ((at_ : Int) + ((j + 1 : Nat) : Int)) = ((at_ + (j + 1) : Nat) : Int) from by omega, wrap_nat (n := at_ + (j + 1)) (by omega)]
            have e : b.length - r.length = at_ + (j + 1) := by rw [hr2, List.length_drop]; omega
            simp only [tkR, e] at hk
            exact hk
        refine ite_d (fun h0 => ite_d (fun h2 => ?_) (fun h2 => tail (by omega))) (fun h0 => tail (by omega))
        rw [if_pos (by omega)] at hk
        exact hk
  exact go (b.drop at_) 0 0 rfl (by omega) (by decide) (by omega) rfl
theorem takeGo_rest : ∀ (r : Cm.Bs) (j n m : Nat) (r' : Cm.Bs), Cm.takeGo j n r = .ok (m, r') → ∃ i, r' = r.drop i ∧ i ≤ r.length
  | [], _, _, _, _, h => by simp [Cm.takeGo] at h
  | c :: r, j, n, m, r', h => by
    unfold Cm.takeGo at h
    split at h
    · split at h
      · cases h
      · obtain ⟨i, h1, h2⟩ := takeGo_rest r _ _ m r' h
        exact ⟨i + 1, by simpa using h1, by simpa using h2⟩
    · split at h
      · cases h
      · split at h
        · cases h
        · injection h with h; injection h with h1 h2
          exact ⟨1, by simpa using h2.symm, by simp⟩
theorem takeGo_err : ∀ (r : Cm.Bs) (j n : Nat) (e : Int), Cm.takeGo j n r = .error e → e ≠ 0
  | [], _, _, e, h => by simp [Cm.takeGo] at h; omega
  | c :: r, j, n, e, h => by
    unfold Cm.takeGo at h
    split at h
    · split at h
      · injection h with h; omega
      · exact takeGo_err r _ _ e h
    · split at h
      · injection h with h; omega
      · split at h
        · injection h with h; omega
        · cases h

theorem Src.cut (hs : Src F q b) {a n : Nat} (h : a + n ≤ b.length) : RdF F (if q.2.2 = a then q.1 else q.1.map fun x => x.add (a * 1)) (a + n - a) 1 (bytesV ((b.drop a).take n)) := by
  have hlen := hs.len
  have hcap := hs.cap
  have := hs.rd.sub (lo := a) (hi := a + n) (by omega) (by omega) q.2.2 (by omega)
  refine Eq.mp ?_ this
  congr 1
  simp only [bytesV, List.map_take, List.map_drop, Nat.mul_one]
  congr 1; omega
end
end Go.Vc

/-
  What the functions' code comes to; printed by a program of this claim's own.
-/
namespace Go.Proofs.YtlomfgiokkhioaaGreatDoor
open Go Go.Vc
set_option maxRecDepth 100000
set_option linter.unusedVariables false

/-! tollgate/conf.PutCommand -/
def T_conf_PutCommand (x1 : Int) (x2 : Int) (x3 : Int) (x4 : Int) (s5 : ByteArray) (s6 : ByteArray) (s7 : ByteArray) (s8a : Option Addr) (s8l : Nat) (s8c : Nat) (w : World) (R : Ending → World → Prop) : Prop :=
  let w9 : World := w.alloc (.cells #[.int .i64 x1, .int .i64 x2, .int .i64 x3, .int .i64 x4, .string s5, .string s6, .string s7, .slice s8a s8l s8c] 34)
  ∃ x10 : Int, ∃ x11 : Int, ∃ x12 : Int, ∃ x13 : Int, ∃ s14 : ByteArray, ∃ s15 : ByteArray, ∃ s16 : ByteArray, ∃ s17a : Option Addr, ∃ s17l : Nat, ∃ s17c : Nat, rd w9 (⟨w.heap.size, 0, none⟩ : Addr) (.agg #[.int .i64 x10, .int .i64 x11, .int .i64 x12, .int .i64 x13, .string s14, .string s15, .string s16, .slice s17a s17l s17c]) ∧ Calls Tryz.prog 50 #[.agg #[.int .i64 x10, .int .i64 x11, .int .i64 x12, .int .i64 x13, .string s14, .string s15, .string s16, .slice s17a s17l s17c]] w9 (ret (fun r18 w19 => ∃ x20 : Int, r18 = .int .i64 x20 ∧ if ((x20 : Int) != 0) = true then (R (.returned (.tuple #[.slice none 0 0, .int .i64 x20])) w19) else (let w21 : World := w19.drew
  ∃ x22 : Int, rd w21 (⟨w.heap.size, 0, none⟩ : Addr) (.int .i64 x22) ∧ ∃ x23 : Int, rd w21 ((⟨w.heap.size, 0, none⟩ : Addr).add 1) (.int .i64 x23) ∧ ∃ x24 : Int, rd w21 ((⟨w.heap.size, 0, none⟩ : Addr).add 2) (.int .i64 x24) ∧ ∃ x25 : Int, rd w21 ((⟨w.heap.size, 0, none⟩ : Addr).add 3) (.int .i64 x25) ∧ Calls Tryz.prog 51 #[.slice none 0 0, .int .i64 x22] w21 (ret (fun r26 w27 => ∃ s28a : Option Addr, ∃ s28l : Nat, ∃ s28c : Nat, r26 = .slice s28a s28l s28c ∧ (rd w27 ((⟨w.heap.size, 0, none⟩ : Addr).add 3) (.int .i64 x25) ∧ rd w27 ((⟨w.heap.size, 0, none⟩ : Addr).add 2) (.int .i64 x24) ∧ rd w27 ((⟨w.heap.size, 0, none⟩ : Addr).add 1) (.int .i64 x23) ∧ True) ∧ Calls Tryz.prog 51 #[.slice s28a s28l s28c, .int .i64 x23] w27 (ret (fun r29 w30 => ∃ s31a : Option Addr, ∃ s31l : Nat, ∃ s31c : Nat, r29 = .slice s31a s31l s31c ∧ (rd w30 ((⟨w.heap.size, 0, none⟩ : Addr).add 3) (.int .i64 x25) ∧ rd w30 ((⟨w.heap.size, 0, none⟩ : Addr).add 2) (.int .i64 x24) ∧ True) ∧ Calls Tryz.prog 51 #[.slice s31a s31l s31c, .int .i64 x24] w30 (ret (fun r32 w33 => ∃ s34a : Option Addr, ∃ s34l : Nat, ∃ s34c : Nat, r32 = .slice s34a s34l s34c ∧ (rd w33 ((⟨w.heap.size, 0, none⟩ : Addr).add 3) (.int .i64 x25) ∧ True) ∧ Calls Tryz.prog 51 #[.slice s34a s34l s34c, .int .i64 (IntKind.wrap .i64 ((x25 : Int) + 1))] w33 (ret (fun r35 w36 => ∃ s37a : Option Addr, ∃ s37l : Nat, ∃ s37c : Nat, r35 = .slice s37a s37l s37c ∧ (True) ∧ let w38 : World := w36.drew
  ∃ s39 : ByteArray, rd w38 ((⟨w.heap.size, 0, none⟩ : Addr).add 4) (.string s39) ∧ ∃ s40 : ByteArray, rd w38 ((⟨w.heap.size, 0, none⟩ : Addr).add 5) (.string s40) ∧ ∃ s41 : ByteArray, rd w38 ((⟨w.heap.size, 0, none⟩ : Addr).add 6) (.string s41) ∧ ∃ s42a : Option Addr, ∃ s42l : Nat, ∃ s42c : Nat, rd w38 ((⟨w.heap.size, 0, none⟩ : Addr).add 7) (.slice s42a s42l s42c) ∧ Calls Tryz.prog 53 #[.slice s37a s37l s37c, .string s39] w38 (ret (fun r43 w44 => ∃ s45a : Option Addr, ∃ s45l : Nat, ∃ s45c : Nat, r43 = .slice s45a s45l s45c ∧ (rd w44 ((⟨w.heap.size, 0, none⟩ : Addr).add 7) (.slice s42a s42l s42c) ∧ rd w44 ((⟨w.heap.size, 0, none⟩ : Addr).add 6) (.string s41) ∧ rd w44 ((⟨w.heap.size, 0, none⟩ : Addr).add 5) (.string s40) ∧ True) ∧ Calls Tryz.prog 53 #[.slice s45a s45l s45c, .string s40] w44 (ret (fun r46 w47 => ∃ s48a : Option Addr, ∃ s48l : Nat, ∃ s48c : Nat, r46 = .slice s48a s48l s48c ∧ (rd w47 ((⟨w.heap.size, 0, none⟩ : Addr).add 7) (.slice s42a s42l s42c) ∧ rd w47 ((⟨w.heap.size, 0, none⟩ : Addr).add 6) (.string s41) ∧ True) ∧ Calls Tryz.prog 53 #[.slice s48a s48l s48c, .string s41] w47 (ret (fun r49 w50 => ∃ s51a : Option Addr, ∃ s51l : Nat, ∃ s51c : Nat, r49 = .slice s51a s51l s51c ∧ (rd w50 ((⟨w.heap.size, 0, none⟩ : Addr).add 7) (.slice s42a s42l s42c) ∧ True) ∧ Calls Tryz.prog 52 #[.slice s51a s51l s51c, .slice s42a s42l s42c] w50 (ret (fun r52 w53 => ∃ s54a : Option Addr, ∃ s54l : Nat, ∃ s54c : Nat, r52 = .slice s54a s54l s54c ∧ (True) ∧ R (.returned (.tuple #[.slice s54a s54l s54c, .int .i64 0])) w53) (pan R))) (pan R))) (pan R))) (pan R))) (pan R))) (pan R))) (pan R))) (pan R)))) (pan R))

theorem T_conf_PutCommand_hl : allP (hokL Tryz.prog (hookAt []) (bodyOf Tryz.f26) 1) = (True) := by kernel_rfl

theorem T_conf_PutCommand_eq (x1 : Int) (x2 : Int) (x3 : Int) (x4 : Int) (s5 : ByteArray) (s6 : ByteArray) (s7 : ByteArray) (s8a : Option Addr) (s8l : Nat) (s8c : Nat) (w : World) (R : Ending → World → Prop) : vcCode Tryz.prog (hookAt []) (bodyOf Tryz.f26) 1 ⟨argEnv [.agg #[.int .i64 x1, .int .i64 x2, .int .i64 x3, .int .i64 x4, .string s5, .string s6, .string s7, .slice s8a s8l s8c]] 0, Tryz.f26.ntmps, []⟩ w (finQ Tryz.prog Tryz.f26.results.toList R) = T_conf_PutCommand x1 x2 x3 x4 s5 s6 s7 s8a s8l s8c w R := by kernel_rfl

theorem T_conf_PutCommand_b : Tryz.f26.body = some (bodyOf Tryz.f26) := by kernel_rfl
theorem T_conf_PutCommand_s : (quietSel (bodyOf Tryz.f26) && Nat.ble 1 Tryz.f26.ntmps) = true := by kernel_rfl

theorem C_conf_PutCommand {x1 : Int} {x2 : Int} {x3 : Int} {x4 : Int} {s5 : ByteArray} {s6 : ByteArray} {s7 : ByteArray} {s8a : Option Addr} {s8l : Nat} {s8c : Nat} {w : World} {R : Ending → World → Prop} (h : T_conf_PutCommand x1 x2 x3 x4 s5 s6 s7 s8a s8l s8c w R) : Calls Tryz.prog 26 #[.agg #[.int .i64 x1, .int .i64 x2, .int .i64 x3, .int .i64 x4, .string s5, .string s6, .string s7, .slice s8a s8l s8c]] w R :=
  calls_of_text (args := [.agg #[.int .i64 x1, .int .i64 x2, .int .i64 x3, .int .i64 x4, .string s5, .string s6, .string s7, .slice s8a s8l s8c]]) mixed Tryz.func26 T_conf_PutCommand_b T_conf_PutCommand_s (HOk_of _ _ (by rw [T_conf_PutCommand_hl]; exact trivial)) (by rw [T_conf_PutCommand_eq]; exact h)

/-! (*tollgate/node.Node).Submit -/
def T_node_Node_Submit (n1 : Option Addr) (x2 : Int) (x3 : Int) (x4 : Int) (x5 : Int) (s6 : ByteArray) (s7 : ByteArray) (s8 : ByteArray) (s9a : Option Addr) (s9l : Nat) (s9c : Nat) (w : World) (R : Ending → World → Prop) : Prop :=
  let w10 : World := w.alloc (.cells #[.int .i64 x2, .int .i64 x3, .int .i64 x4, .int .i64 x5, .string s6, .string s7, .string s8, .slice s9a s9l s9c] 34)
  let w11 : World := w10.alloc (.cells #[.int .i64 0, .int .i64 0, .int .i64 0, .slice none 0 0, .slice none 0 0, .slice none 0 0, .slice none 0 0] 47)
  ∃ x12 : Int, ∃ x13 : Int, ∃ x14 : Int, ∃ x15 : Int, ∃ s16 : ByteArray, ∃ s17 : ByteArray, ∃ s18 : ByteArray, ∃ s19a : Option Addr, ∃ s19l : Nat, ∃ s19c : Nat, rd w11 (⟨w.heap.size, 0, none⟩ : Addr) (.agg #[.int .i64 x12, .int .i64 x13, .int .i64 x14, .int .i64 x15, .string s16, .string s17, .string s18, .slice s19a s19l s19c]) ∧ Calls Tryz.prog 26 #[.agg #[.int .i64 x12, .int .i64 x13, .int .i64 x14, .int .i64 x15, .string s16, .string s17, .string s18, .slice s19a s19l s19c]] w11 (ret (fun r20 w21 => ∃ s22a : Option Addr, ∃ s22l : Nat, ∃ s22c : Nat, ∃ x23 : Int, r20 = .tuple #[.slice s22a s22l s22c, .int .i64 x23] ∧ Calls Tryz.prog 27 #[.pointer n1, .iface 93 (.agg #[.slice s22a s22l s22c]), .int .i64 x23] w21 (ret (fun r24 w25 => ∃ x26 : Int, ∃ x27 : Int, ∃ x28 : Int, ∃ s29a : Option Addr, ∃ s29l : Nat, ∃ s29c : Nat, ∃ s30a : Option Addr, ∃ s30l : Nat, ∃ s30c : Nat, ∃ s31a : Option Addr, ∃ s31l : Nat, ∃ s31c : Nat, ∃ s32a : Option Addr, ∃ s32l : Nat, ∃ s32c : Nat, r24 = .agg #[.int .i64 x26, .int .i64 x27, .int .i64 x28, .slice s29a s29l s29c, .slice s30a s30l s30c, .slice s31a s31l s31c, .slice s32a s32l s32c] ∧ (.agg #[.int .i64 x26, .int .i64 x27, .int .i64 x28, .slice s29a s29l s29c, .slice s30a s30l s30c, .slice s31a s31l s31c, .slice s32a s32l s32c] : Value).cells.size = 7 ∧ wrOk w25 (⟨w10.heap.size, 0, none⟩ : Addr) (.agg #[.int .i64 x26, .int .i64 x27, .int .i64 x28, .slice s29a s29l s29c, .slice s30a s30l s30c, .slice s31a s31l s31c, .slice s32a s32l s32c]) ∧ let w33 : World := wr w25 (⟨w10.heap.size, 0, none⟩ : Addr) (.agg #[.int .i64 x26, .int .i64 x27, .int .i64 x28, .slice s29a s29l s29c, .slice s30a s30l s30c, .slice s31a s31l s31c, .slice s32a s32l s32c])
  ∃ x34 : Int, ∃ x35 : Int, ∃ x36 : Int, ∃ s37a : Option Addr, ∃ s37l : Nat, ∃ s37c : Nat, ∃ s38a : Option Addr, ∃ s38l : Nat, ∃ s38c : Nat, ∃ s39a : Option Addr, ∃ s39l : Nat, ∃ s39c : Nat, ∃ s40a : Option Addr, ∃ s40l : Nat, ∃ s40c : Nat, rd w33 (⟨w10.heap.size, 0, none⟩ : Addr) (.agg #[.int .i64 x34, .int .i64 x35, .int .i64 x36, .slice s37a s37l s37c, .slice s38a s38l s38c, .slice s39a s39l s39c, .slice s40a s40l s40c]) ∧ R (.returned (.agg #[.int .i64 x34, .int .i64 x35, .int .i64 x36, .slice s37a s37l s37c, .slice s38a s38l s38c, .slice s39a s39l s39c, .slice s40a s40l s40c])) w33) (pan R))) (pan R))

theorem T_node_Node_Submit_hl : allP (hokL Tryz.prog (hookAt []) (bodyOf Tryz.f9) 1) = (True) := by kernel_rfl

theorem T_node_Node_Submit_eq (n1 : Option Addr) (x2 : Int) (x3 : Int) (x4 : Int) (x5 : Int) (s6 : ByteArray) (s7 : ByteArray) (s8 : ByteArray) (s9a : Option Addr) (s9l : Nat) (s9c : Nat) (w : World) (R : Ending → World → Prop) : vcCode Tryz.prog (hookAt []) (bodyOf Tryz.f9) 1 ⟨argEnv [.pointer n1, .agg #[.int .i64 x2, .int .i64 x3, .int .i64 x4, .int .i64 x5, .string s6, .string s7, .string s8, .slice s9a s9l s9c]] 0, Tryz.f9.ntmps, []⟩ w (finQ Tryz.prog Tryz.f9.results.toList R) = T_node_Node_Submit n1 x2 x3 x4 x5 s6 s7 s8 s9a s9l s9c w R := by kernel_rfl

theorem T_node_Node_Submit_b : Tryz.f9.body = some (bodyOf Tryz.f9) := by kernel_rfl
theorem T_node_Node_Submit_s : (quietSel (bodyOf Tryz.f9) && Nat.ble 2 Tryz.f9.ntmps) = true := by kernel_rfl

theorem C_node_Node_Submit {n1 : Option Addr} {x2 : Int} {x3 : Int} {x4 : Int} {x5 : Int} {s6 : ByteArray} {s7 : ByteArray} {s8 : ByteArray} {s9a : Option Addr} {s9l : Nat} {s9c : Nat} {w : World} {R : Ending → World → Prop} (h : T_node_Node_Submit n1 x2 x3 x4 x5 s6 s7 s8 s9a s9l s9c w R) : Calls Tryz.prog 9 #[.pointer n1, .agg #[.int .i64 x2, .int .i64 x3, .int .i64 x4, .int .i64 x5, .string s6, .string s7, .string s8, .slice s9a s9l s9c]] w R :=
  calls_of_text (args := [.pointer n1, .agg #[.int .i64 x2, .int .i64 x3, .int .i64 x4, .int .i64 x5, .string s6, .string s7, .string s8, .slice s9a s9l s9c]]) mixed Tryz.func9 T_node_Node_Submit_b T_node_Node_Submit_s (HOk_of _ _ (by rw [T_node_Node_Submit_hl]; exact trivial)) (by rw [T_node_Node_Submit_eq]; exact h)

/-! (*tollgate/node.Node).Take -/
def T_node_Node_Take (n1 : Option Addr) (b2a : Option Addr) (b2l : Nat) (b2c : Nat) (draw3 : Int) (w : World) (R : Ending → World → Prop) : Prop :=
  let w4 : World := w.alloc (.cells #[.int .i64 0, .int .i64 0, .int .i64 0, .slice none 0 0, .slice none 0 0, .slice none 0 0, .slice none 0 0] 47)
  Calls Tryz.prog 33 #[.slice b2a b2l b2c] w4 (ret (fun r5 w6 => ∃ xs9 : Array Value, xs9.size = 12 ∧ ∃ x10 : Int, r5 = .tuple #[.agg xs9, .int .i64 x10] ∧ let w11 : World := w6.alloc (.cells #[.int .i64 0, .int .i64 0, .int .i64 0, .int .i64 0, .int .i64 0, .int .i64 0, .int .i64 0, .int .i64 0, .int .i64 0, .bool false, .slice none 0 0, .slice none 0 0] 114)
  (.agg xs9 : Value).cells.size = 12 ∧ wrOk w11 (⟨w6.heap.size, 0, none⟩ : Addr) (.agg xs9) ∧ let w12 : World := wr w11 (⟨w6.heap.size, 0, none⟩ : Addr) (.agg xs9)
  ∃ xs13 : Array Value, xs13.size = 12 ∧ rd w12 (⟨w6.heap.size, 0, none⟩ : Addr) (.agg xs13) ∧ pureK Tryz.prog (Instr.build 118 #[(0, .agg xs13), (1, .int .i64 draw3)]) (fun v14 => Calls Tryz.prog 27 #[.pointer n1, .iface 118 v14, .int .i64 x10] w12 (ret (fun r15 w16 => ∃ x17 : Int, ∃ x18 : Int, ∃ x19 : Int, ∃ s20a : Option Addr, ∃ s20l : Nat, ∃ s20c : Nat, ∃ s21a : Option Addr, ∃ s21l : Nat, ∃ s21c : Nat, ∃ s22a : Option Addr, ∃ s22l : Nat, ∃ s22c : Nat, ∃ s23a : Option Addr, ∃ s23l : Nat, ∃ s23c : Nat, r15 = .agg #[.int .i64 x17, .int .i64 x18, .int .i64 x19, .slice s20a s20l s20c, .slice s21a s21l s21c, .slice s22a s22l s22c, .slice s23a s23l s23c] ∧ (.agg #[.int .i64 x17, .int .i64 x18, .int .i64 x19, .slice s20a s20l s20c, .slice s21a s21l s21c, .slice s22a s22l s22c, .slice s23a s23l s23c] : Value).cells.size = 7 ∧ wrOk w16 (⟨w.heap.size, 0, none⟩ : Addr) (.agg #[.int .i64 x17, .int .i64 x18, .int .i64 x19, .slice s20a s20l s20c, .slice s21a s21l s21c, .slice s22a s22l s22c, .slice s23a s23l s23c]) ∧ let w24 : World := wr w16 (⟨w.heap.size, 0, none⟩ : Addr) (.agg #[.int .i64 x17, .int .i64 x18, .int .i64 x19, .slice s20a s20l s20c, .slice s21a s21l s21c, .slice s22a s22l s22c, .slice s23a s23l s23c])
  ∃ x25 : Int, ∃ x26 : Int, ∃ x27 : Int, ∃ s28a : Option Addr, ∃ s28l : Nat, ∃ s28c : Nat, ∃ s29a : Option Addr, ∃ s29l : Nat, ∃ s29c : Nat, ∃ s30a : Option Addr, ∃ s30l : Nat, ∃ s30c : Nat, ∃ s31a : Option Addr, ∃ s31l : Nat, ∃ s31c : Nat, rd w24 (⟨w.heap.size, 0, none⟩ : Addr) (.agg #[.int .i64 x25, .int .i64 x26, .int .i64 x27, .slice s28a s28l s28c, .slice s29a s29l s29c, .slice s30a s30l s30c, .slice s31a s31l s31c]) ∧ R (.returned (.agg #[.int .i64 x25, .int .i64 x26, .int .i64 x27, .slice s28a s28l s28c, .slice s29a s29l s29c, .slice s30a s30l s30c, .slice s31a s31l s31c])) w24) (pan R)))) (pan R))

theorem T_node_Node_Take_hl : allP (hokL Tryz.prog (hookAt []) (bodyOf Tryz.f16) 1) = (True) := by kernel_rfl

theorem T_node_Node_Take_eq (n1 : Option Addr) (b2a : Option Addr) (b2l : Nat) (b2c : Nat) (draw3 : Int) (w : World) (R : Ending → World → Prop) : vcCode Tryz.prog (hookAt []) (bodyOf Tryz.f16) 1 ⟨argEnv [.pointer n1, .slice b2a b2l b2c, .int .i64 draw3] 0, Tryz.f16.ntmps, []⟩ w (finQ Tryz.prog Tryz.f16.results.toList R) = T_node_Node_Take n1 b2a b2l b2c draw3 w R := by kernel_rfl

theorem T_node_Node_Take_b : Tryz.f16.body = some (bodyOf Tryz.f16) := by kernel_rfl
theorem T_node_Node_Take_s : (quietSel (bodyOf Tryz.f16) && Nat.ble 3 Tryz.f16.ntmps) = true := by kernel_rfl

theorem C_node_Node_Take {n1 : Option Addr} {b2a : Option Addr} {b2l : Nat} {b2c : Nat} {draw3 : Int} {w : World} {R : Ending → World → Prop} (h : T_node_Node_Take n1 b2a b2l b2c draw3 w R) : Calls Tryz.prog 16 #[.pointer n1, .slice b2a b2l b2c, .int .i64 draw3] w R :=
  calls_of_text (args := [.pointer n1, .slice b2a b2l b2c, .int .i64 draw3]) mixed Tryz.func16 T_node_Node_Take_b T_node_Node_Take_s (HOk_of _ _ (by rw [T_node_Node_Take_hl]; exact trivial)) (by rw [T_node_Node_Take_eq]; exact h)

end Go.Proofs.YtlomfgiokkhioaaGreatDoor

/-
  A command's bytes: the program's PutCommand and the document's.
-/
namespace Go.Vc
open Go Go.Proofs Go.Proofs.YtlomfgiokkhioaaGreatDoor
set_option maxRecDepth 100000
section
variable {E w : World} {L : List Asrt} {R : Ending → World → Prop} {F : Fz} {c : Cm.Cmd} {q : Sl}
def putCE (c : Cm.Cmd) : Cm.Bs := if Cm.chk c = 0 then Cm.putC c else []
theorem mem1' {A : Asrt} (hm : kn F ∈ L) : kn F ∈ A :: L := List.mem_cons_of_mem _ hm
theorem rd_cmdC {b : Nat} (h : St E (blkL b 34 (cmdL c q) :: L) w) : rd w ⟨b, 0, none⟩ (cmdV c q) := rd_agg (xs := cmdL c q) h.at_blk (by intro i u hu; rw [Nat.zero_add]; exact hu)
theorem tgs_short {l : List Cm.Tgt} (h : Cm.chkT l = 0) : tgsMax l ≤ 10000 := by
  have hz := Cm.chkT_zero h
  have key : ∀ l : List Cm.Tgt, (∀ t ∈ l, t.addr.length ≤ 128) → (l.map fun t => 14 + t.addr.length).sum ≤ l.length * 142 := by
    intro l
    induction l with
    | nil => intro _; simp
    | cons a r ih =>
      intro hl
      have := ih fun t ht => hl t (List.mem_cons_of_mem _ ht)
      have := hl a List.mem_cons_self
      simp only [List.map_cons, List.sum_cons, List.length_cons]; omega
  have := key l fun t ht => (Cm.chkT_good h t ht).1
  have := hz.2
  unfold tgsMax; omega
/-- PutCommand. -/
theorem PutCommand_spec (hm : kn F ∈ L) (h : St E L w) (hr : RdF F q.1 q.2.1 2 (c.tg.flatMap tV)) (hc : okC c)
    (k : ∀ (w' : World) (b : Sl), St E (byA b (putCE c) :: L) w' → R (.returned (.tuple #[.slice b.1 b.2.1 b.2.2, .int .i64 (Cm.chk c)])) w') : Calls Tryz.prog 26 #[cmdV c q] w R := by
  have hbig : big = 140737488355328 := rfl
  refine C_conf_PutCommand ?_
  unfold T_conf_PutCommand
  intro w9
  have h9 : St E (blkL w.heap.size 34 (cmdL c q) :: L) w9 := h.alloc (.cells ⟨cmdL c q⟩ 34)
  clear_value w9
  refine ⟨_, _, _, _, _, _, _, _, _, _, rd_cmdC h9, ?_⟩
  refine Check_spec (mem1' hm) h9 hr hc fun w19 h19 => ⟨_, rfl, ?_⟩
  refine ite_b (fun hh => ?_) fun hh => ?_
  · have e : Cm.chk c ≠ 0 := by simpa using hh
    refine k _ (none, 0, 0) ?_
    rw [show putCE c = [] from if_neg e]
    exact h19.drop.by_nil
  have e : Cm.chk c = 0 := by simpa using hh
  rw [show putCE c = Cm.putC c from if_pos e, e] at k
  have fn := Cm.chk_fine e
  have m1 := num_len c.act; have m2 := num_len c.client; have m3 := num_len c.seq; have m4 := num_len (c.expect + 1)
  have m5 := text_len c.host; have m6 := text_len c.pfx; have m7 := text_len c.pool
  have f1 := fn.h; have f2 := fn.p; have f3 := fn.o; have f4 := tgs_short fn.t
  intro w21
  have h21 : St E _ w21 := h19.drew
  clear_value w21
  refine ⟨_, rd_cell h21.at_blk rfl rfl, _, rd_fld h21.at_blk rfl rfl, _, rd_fld h21.at_blk rfl rfl, _, rd_fld h21.at_blk rfl rfl, ?_⟩
  refine num_spec (s := (none, 0, 0)) (xs := []) h21.by_nil (by rw [List.length_nil]; omega) fun w27 b27 h27 => ⟨_, _, _, rfl, ⟨rd_fld h27.f1.at_blk rfl rfl, rd_fld h27.f1.at_blk rfl rfl, rd_fld h27.f1.at_blk rfl rfl, trivial⟩, ?_⟩
  rw [List.nil_append] at h27
  refine num_spec h27 (by omega) fun w30 b30 h30 => ⟨_, _, _, rfl, ⟨rd_fld h30.f1.at_blk rfl rfl, rd_fld h30.f1.at_blk rfl rfl, trivial⟩, ?_⟩
  refine num_spec h30 (by simp only [List.length_append]; omega) fun w33 b33 h33 => ⟨_, _, _, rfl, ⟨rd_fld h33.f1.at_blk rfl rfl, trivial⟩, ?_⟩
  rw [wrap_id (by have := fn.ex; omega) (by have := fn.ex; omega)]
  refine num_spec h33 (by simp only [List.length_append]; omega) fun w36 b36 h36 => ⟨_, _, _, rfl, trivial, ?_⟩
  intro w38
  have h38 : St E _ w38 := h36.drew
  clear_value w38
  refine ⟨_, rd_fld h38.f1.at_blk rfl rfl, _, rd_fld h38.f1.at_blk rfl rfl, _, rd_fld h38.f1.at_blk rfl rfl, _, _, _, rd_fld h38.f1.at_blk rfl rfl, ?_⟩
  refine text_spec (x := c.host) h38 (by simp only [List.length_append]; omega) fun w44 b44 h44 => ⟨_, _, _, rfl, ⟨rd_fld h44.f1.at_blk rfl rfl, rd_fld h44.f1.at_blk rfl rfl, rd_fld h44.f1.at_blk rfl rfl, trivial⟩, ?_⟩
  refine text_spec (x := c.pfx) h44 (by simp only [List.length_append]; omega) fun w47 b47 h47 => ⟨_, _, _, rfl, ⟨rd_fld h47.f1.at_blk rfl rfl, rd_fld h47.f1.at_blk rfl rfl, trivial⟩, ?_⟩
  refine text_spec (x := c.pool) h47 (by simp only [List.length_append]; omega) fun w50 b50 h50 => ⟨_, _, _, rfl, ⟨rd_fld h50.f1.at_blk rfl rfl, trivial⟩, ?_⟩
  refine row_spec (q := q) (mem1' hm) hr hc.2.2.2 h50 (by simp only [List.length_append]; omega) fun w53 b53 h53 => ⟨_, _, _, rfl, trivial, k _ b53 ?_⟩
  have h54 := h53.f1.drop
  simpa [Cm.putC] using h54
end
end Go.Vc

/-
  What the functions' code comes to; printed by a program of this claim's own.
-/
namespace Go.Proofs.YtlomfgiokkhioaaGreatDoor
open Go Go.Vc
set_option maxRecDepth 100000
set_option linter.unusedVariables false

/-! tollgate/wire.GetMsg -/
def T_wire_GetMsg_1_body (X : Int → World → Prop) (x23 : Int) (r24 : Addr) (s25a : Option Addr) (s25l : Nat) (s25c : Nat) (x26 : Int) (w : World) (Kn : World → Prop) (Kp : List PanicEntry → World → Prop)  : Prop :=
  if (decide ((x23 : Int) < x26)) = true then (0 ≤ (x23 : Int) ∧ (x23 : Int) < ((s25l : Nat) : Int) ∧ ∃ b27, s25a = some b27 ∧ ∃ p28 : Option Addr, rd w (b27.add ((x23 : Int).toNat * 1)) (.pointer p28) ∧ Calls Tryz.prog 73 #[.pointer (some r24), .int .i64 0] w (ret (fun r29 w30 => ∃ x31 : Int, r29 = .int .i64 x31 ∧ ∃ a32, p28 = some a32 ∧ (.int .i64 x31 : Value).cells.size = 1 ∧ wrOk w30 a32 (.int .i64 x31) ∧ let w33 : World := wr w30 a32 (.int .i64 x31)
  X (IntKind.wrap .i64 ((x23 : Int) + 1)) w33) Kp)) else (Kn  w)

def T_wire_GetMsg_1 (x23 : Int) (r24 : Addr) (s25a : Option Addr) (s25l : Nat) (s25c : Nat) (x26 : Int) (w : World) (Kn : World → Prop) (Kp : List PanicEntry → World → Prop) : Prop :=
  ∀ X : Int → World → Prop, (∀ (x23 : Int) (w : World), T_wire_GetMsg_1_body X x23 r24 s25a s25l s25c x26 w Kn Kp → X x23 w) → X x23 w

def T_wire_GetMsg_1_outs : Exit → Option (List (Nat × Value)) := fun x => match x with | .normal => some [] | .panic _ => some [] | _ => none

def T_wire_GetMsg_1_ks : Nat → Bool := ksOf [7, 33, 34, 35, 36, 37, 38, 39, 40, 41]

def H_wire_GetMsg_1 : Env → World → QT → Prop := unitHook 64 T_wire_GetMsg_1_ks [(33, .int .i64 0), (4, .pointer (some ⟨0, 0, none⟩)), (31, .slice none 0 0), (32, .int .i64 0)] T_wire_GetMsg_1_outs fun l w C => match l with | [v0, v1, v2, v3] => T_wire_GetMsg_1 (pInt v0) (pAddr v1) (pA v2) (pL v2) (pC v2) (pInt v3) w (fun w => C .normal [] w) (fun ch w => C (.panic ch) [] w) | _ => False

theorem T_wire_GetMsg_1_hl : allP (hokL Tryz.prog (hookAt []) (at_ (bodyOf Tryz.f33) [1, 1, 1, 1, 1, 1, 1, 0, 1, 0, 0]) 4084) = (True) := by kernel_rfl
theorem T_wire_GetMsg_1_hok : HOk Tryz.prog (hookAt []) (at_ (bodyOf Tryz.f33) [1, 1, 1, 1, 1, 1, 1, 0, 1, 0, 0]) 4084 := HOk_of _ _ (by rw [T_wire_GetMsg_1_hl]; exact trivial)

theorem T_wire_GetMsg_1_eq (C : Conts) (X : List Value → World → Prop) (x23 : Int) (r24 : Addr) (s25a : Option Addr) (s25l : Nat) (s25c : Nat) (x26 : Int) (w : World) : vcCode Tryz.prog (hookAt []) (at_ (bodyOf Tryz.f33) [1, 1, 1, 1, 1, 1, 1, 0, 1, 0, 0]) 4084 ⟨[(33, .int .i64 x23)] ++ [(4, .pointer (some r24)), (31, .slice s25a s25l s25c), (32, .int .i64 x26)], 64, []⟩ w (seqQ (fun e w => takeAll e [(33, .int .i64 0)] fun l => X l w) (blockQ 0 (unitQ T_wire_GetMsg_1_outs C))) = T_wire_GetMsg_1_body (fun x23 w => X [.int .i64 x23] w) x23 r24 s25a s25l s25c x26 w (fun w => C .normal [] w) (fun ch w => C (.panic ch) [] w) := by kernel_rfl

theorem T_wire_GetMsg_1_ok : UnitOk Tryz.prog H_wire_GetMsg_1 (at_ (bodyOf Tryz.f33) [1, 1, 1, 1, 1, 1, 1, 0, 1]) 1021 := by
  have hc : at_ (bodyOf Tryz.f33) [1, 1, 1, 1, 1, 1, 1, 0, 1] = .block 0 (.loop (at_ (bodyOf Tryz.f33) [1, 1, 1, 1, 1, 1, 1, 0, 1, 0, 0])) := by kernel_rfl
  rw [hc]
  refine loop_unit_ok (carr := [(33, .int .i64 0)]) (fix := [(4, .pointer (some ⟨0, 0, none⟩)), (31, .slice none 0 0), (32, .int .i64 0)]) (ks := T_wire_GetMsg_1_ks) (H := (hookAt [])) (B := fun C X l u w => match l, u with | [v0], [v1, v2, v3] => T_wire_GetMsg_1_body (fun x23 w => X [.int .i64 x23] w) (pInt v0) (pAddr v1) (pA v2) (pL v2) (pC v2) (pInt v3) w (fun w => C .normal [] w) (fun ch w => C (.panic ch) [] w) | _, _ => False) (by kernel_rfl) (by kernel_rfl) T_wire_GetMsg_1_hok ?_ ?_
  · intro C X l u w hl hu
    obtain ⟨v0, l_v0, rfl, k_v0, hl_v0⟩ := Kinds.cons_ hl
    obtain ⟨x23, rfl⟩ := kind_int k_v0
    obtain rfl := Kinds.nil_ hl_v0
    obtain ⟨v1, l_v1, rfl, k_v1, hu_v1⟩ := Kinds.cons_ hu
    obtain ⟨r24, rfl⟩ := kind_addr k_v1
    obtain ⟨v2, l_v2, rfl, k_v2, hu_v2⟩ := Kinds.cons_ hu_v1
    obtain ⟨s25a, s25l, s25c, rfl⟩ := kind_slice k_v2
    obtain ⟨v3, l_v3, rfl, k_v3, hu_v3⟩ := Kinds.cons_ hu_v2
    obtain ⟨x26, rfl⟩ := kind_int k_v3
    obtain rfl := Kinds.nil_ hu_v3
    exact T_wire_GetMsg_1_eq C X x23 r24 s25a s25l s25c x26 w
  · intro l u w C hl hu
    obtain ⟨v0, l_v0, rfl, k_v0, hl_v0⟩ := Kinds.cons_ hl
    obtain ⟨x23, rfl⟩ := kind_int k_v0
    obtain rfl := Kinds.nil_ hl_v0
    obtain ⟨v1, l_v1, rfl, k_v1, hu_v1⟩ := Kinds.cons_ hu
    obtain ⟨r24, rfl⟩ := kind_addr k_v1
    obtain ⟨v2, l_v2, rfl, k_v2, hu_v2⟩ := Kinds.cons_ hu_v1
    obtain ⟨s25a, s25l, s25c, rfl⟩ := kind_slice k_v2
    obtain ⟨v3, l_v3, rfl, k_v3, hu_v3⟩ := Kinds.cons_ hu_v2
    obtain ⟨x26, rfl⟩ := kind_int k_v3
    obtain rfl := Kinds.nil_ hu_v3
    constructor
    · intro h X hX
      exact h (fun x23 w => X [.int .i64 x23] w) (fun x23 w hb => hX [.int .i64 x23] w ⟨rfl, trivial⟩ hb)
    · intro h X hX
      exact h (fun l w => match l with | [v0] => X (pInt v0) w | _ => True) (fun l w hl hb => by
        obtain ⟨v0, l_v0, rfl, k_v0, hl_v0⟩ := Kinds.cons_ hl
        obtain ⟨x23, rfl⟩ := kind_int k_v0
        obtain rfl := Kinds.nil_ hl_v0
        exact hX x23 w hb)

def T_wire_GetMsg_2 (b38 : Bool) (w : World) (Kn : World → Prop) (Kp : List PanicEntry → World → Prop) : Prop :=
  if b38 = true then (runV Tryz.prog (Instr.panic (.iface 200 (.int .i64 6))) w (fun r39 w40 => Kn  w40) Kp) else (Kn  w)

def T_wire_GetMsg_2_outs : Exit → Option (List (Nat × Value)) := fun x => match x with | .normal => some [] | .panic _ => some [] | _ => none

def T_wire_GetMsg_2_ks : Nat → Bool := ksOf [46]

def H_wire_GetMsg_2 : Env → World → QT → Prop := unitHook 64 T_wire_GetMsg_2_ks [(45, .bool false)] T_wire_GetMsg_2_outs fun l w C => match l with | [v0] => T_wire_GetMsg_2 (pBool v0) w (fun w => C .normal [] w) (fun ch w => C (.panic ch) [] w) | _ => False

theorem T_wire_GetMsg_2_hl : allP (hokL Tryz.prog (hookAt []) (at_ (bodyOf Tryz.f33) [1, 1, 1, 1, 1, 1, 1, 1, 1, 0, 1]) 4093) = (True) := by kernel_rfl
theorem T_wire_GetMsg_2_hok : HOk Tryz.prog (hookAt []) (at_ (bodyOf Tryz.f33) [1, 1, 1, 1, 1, 1, 1, 1, 1, 0, 1]) 4093 := HOk_of _ _ (by rw [T_wire_GetMsg_2_hl]; exact trivial)

theorem T_wire_GetMsg_2_eq (C : Conts) (b38 : Bool) (w : World) : vcCode Tryz.prog (hookAt []) (at_ (bodyOf Tryz.f33) [1, 1, 1, 1, 1, 1, 1, 1, 1, 0, 1]) 4093 ⟨[(45, .bool b38)], 64, []⟩ w (unitQ T_wire_GetMsg_2_outs C) = T_wire_GetMsg_2 b38 w (fun w => C .normal [] w) (fun ch w => C (.panic ch) [] w) := by kernel_rfl

theorem T_wire_GetMsg_2_ok : UnitOk Tryz.prog H_wire_GetMsg_2 (at_ (bodyOf Tryz.f33) [1, 1, 1, 1, 1, 1, 1, 1, 1, 0, 1]) 4093 := unit_ok (H := (hookAt [])) (by kernel_rfl) T_wire_GetMsg_2_hok fun l w C hk => by
    obtain ⟨v0, l_v0, rfl, k_v0, hk_v0⟩ := Kinds.cons_ hk
    obtain ⟨b38, rfl⟩ := kind_bool k_v0
    obtain rfl := Kinds.nil_ hk_v0
    exact T_wire_GetMsg_2_eq C b38 w

def T_wire_GetMsg_3_body (X : Int → World → Prop) (x42 : Int) (r43 : Addr) (m44 : Addr) (x45 : Int) (w : World) (Kn : World → Prop) (Kp : List PanicEntry → World → Prop)  : Prop :=
  if (decide ((x42 : Int) < x45)) = true then (let w46 : World := w.drew
  ∃ s47a : Option Addr, ∃ s47l : Nat, ∃ s47c : Nat, rd w46 (m44.add 10) (.slice s47a s47l s47c) ∧ Calls Tryz.prog 74 #[.pointer (some r43)] w46 (ret (fun r48 w49 => ∃ x50 : Int, ∃ x51 : Int, ∃ x52 : Int, ∃ s53a : Option Addr, ∃ s53l : Nat, ∃ s53c : Nat, r48 = .agg #[.int .i64 x50, .int .i64 x51, .int .i64 x52, .slice s53a s53l s53c] ∧ (rd w49 (m44.add 10) (.slice s47a s47l s47c) ∧ True) ∧ let w54 : World := w49.alloc (.cells #[.int .i64 x50, .int .i64 x51, .int .i64 x52, .slice s53a s53l s53c] 203)
  (rd w54 (m44.add 10) (.slice s47a s47l s47c) ∧ True) ∧ runV Tryz.prog (Builtin.append_ #[44, 44] 44 #[.slice s47a s47l s47c, .slice (some (⟨w49.heap.size, 0, none⟩ : Addr)) 1 1]) w54 (fun r55 w56 => ∃ s57a : Option Addr, ∃ s57l : Nat, ∃ s57c : Nat, r55 = .slice s57a s57l s57c ∧ (True) ∧ (.slice s57a s57l s57c : Value).cells.size = 1 ∧ wrOk w56 (m44.add 10) (.slice s57a s57l s57c) ∧ let w58 : World := wr w56 (m44.add 10) (.slice s57a s57l s57c)
  (True) ∧ X (IntKind.wrap .i64 ((x42 : Int) + 1)) w58) Kp) Kp)) else (Kn  w)

def T_wire_GetMsg_3 (x42 : Int) (r43 : Addr) (m44 : Addr) (x45 : Int) (w : World) (Kn : World → Prop) (Kp : List PanicEntry → World → Prop) : Prop :=
  ∀ X : Int → World → Prop, (∀ (x42 : Int) (w : World), T_wire_GetMsg_3_body X x42 r43 m44 x45 w Kn Kp → X x42 w) → X x42 w

def T_wire_GetMsg_3_outs : Exit → Option (List (Nat × Value)) := fun x => match x with | .normal => some [] | .panic _ => some [] | _ => none

def T_wire_GetMsg_3_ks : Nat → Bool := ksOf [48, 49, 50, 51, 52, 53, 54, 55, 56, 57]

def H_wire_GetMsg_3 : Env → World → QT → Prop := unitHook 64 T_wire_GetMsg_3_ks [(48, .int .i64 0), (4, .pointer (some ⟨0, 0, none⟩)), (5, .pointer (some ⟨0, 0, none⟩)), (47, .int .i64 0)] T_wire_GetMsg_3_outs fun l w C => match l with | [v0, v1, v2, v3] => T_wire_GetMsg_3 (pInt v0) (pAddr v1) (pAddr v2) (pInt v3) w (fun w => C .normal [] w) (fun ch w => C (.panic ch) [] w) | _ => False

theorem T_wire_GetMsg_3_hl : allP (hokL Tryz.prog (hookAt []) (at_ (bodyOf Tryz.f33) [1, 1, 1, 1, 1, 1, 1, 1, 1, 1, 0, 1, 0, 0]) 32756) = (True) := by kernel_rfl
theorem T_wire_GetMsg_3_hok : HOk Tryz.prog (hookAt []) (at_ (bodyOf Tryz.f33) [1, 1, 1, 1, 1, 1, 1, 1, 1, 1, 0, 1, 0, 0]) 32756 := HOk_of _ _ (by rw [T_wire_GetMsg_3_hl]; exact trivial)

theorem T_wire_GetMsg_3_eq (C : Conts) (X : List Value → World → Prop) (x42 : Int) (r43 : Addr) (m44 : Addr) (x45 : Int) (w : World) : vcCode Tryz.prog (hookAt []) (at_ (bodyOf Tryz.f33) [1, 1, 1, 1, 1, 1, 1, 1, 1, 1, 0, 1, 0, 0]) 32756 ⟨[(48, .int .i64 x42)] ++ [(4, .pointer (some r43)), (5, .pointer (some m44)), (47, .int .i64 x45)], 64, []⟩ w (seqQ (fun e w => takeAll e [(48, .int .i64 0)] fun l => X l w) (blockQ 2 (unitQ T_wire_GetMsg_3_outs C))) = T_wire_GetMsg_3_body (fun x42 w => X [.int .i64 x42] w) x42 r43 m44 x45 w (fun w => C .normal [] w) (fun ch w => C (.panic ch) [] w) := by kernel_rfl

theorem T_wire_GetMsg_3_ok : UnitOk Tryz.prog H_wire_GetMsg_3 (at_ (bodyOf Tryz.f33) [1, 1, 1, 1, 1, 1, 1, 1, 1, 1, 0, 1]) 8189 := by
  have hc : at_ (bodyOf Tryz.f33) [1, 1, 1, 1, 1, 1, 1, 1, 1, 1, 0, 1] = .block 2 (.loop (at_ (bodyOf Tryz.f33) [1, 1, 1, 1, 1, 1, 1, 1, 1, 1, 0, 1, 0, 0])) := by kernel_rfl
  rw [hc]
  refine loop_unit_ok (carr := [(48, .int .i64 0)]) (fix := [(4, .pointer (some ⟨0, 0, none⟩)), (5, .pointer (some ⟨0, 0, none⟩)), (47, .int .i64 0)]) (ks := T_wire_GetMsg_3_ks) (H := (hookAt [])) (B := fun C X l u w => match l, u with | [v0], [v1, v2, v3] => T_wire_GetMsg_3_body (fun x42 w => X [.int .i64 x42] w) (pInt v0) (pAddr v1) (pAddr v2) (pInt v3) w (fun w => C .normal [] w) (fun ch w => C (.panic ch) [] w) | _, _ => False) (by kernel_rfl) (by kernel_rfl) T_wire_GetMsg_3_hok ?_ ?_
  · intro C X l u w hl hu
    obtain ⟨v0, l_v0, rfl, k_v0, hl_v0⟩ := Kinds.cons_ hl
    obtain ⟨x42, rfl⟩ := kind_int k_v0
    obtain rfl := Kinds.nil_ hl_v0
    obtain ⟨v1, l_v1, rfl, k_v1, hu_v1⟩ := Kinds.cons_ hu
    obtain ⟨r43, rfl⟩ := kind_addr k_v1
    obtain ⟨v2, l_v2, rfl, k_v2, hu_v2⟩ := Kinds.cons_ hu_v1
    obtain ⟨m44, rfl⟩ := kind_addr k_v2
    obtain ⟨v3, l_v3, rfl, k_v3, hu_v3⟩ := Kinds.cons_ hu_v2
    obtain ⟨x45, rfl⟩ := kind_int k_v3
    obtain rfl := Kinds.nil_ hu_v3
    exact T_wire_GetMsg_3_eq C X x42 r43 m44 x45 w
  · intro l u w C hl hu
    obtain ⟨v0, l_v0, rfl, k_v0, hl_v0⟩ := Kinds.cons_ hl
    obtain ⟨x42, rfl⟩ := kind_int k_v0
    obtain rfl := Kinds.nil_ hl_v0
    obtain ⟨v1, l_v1, rfl, k_v1, hu_v1⟩ := Kinds.cons_ hu
    obtain ⟨r43, rfl⟩ := kind_addr k_v1
    obtain ⟨v2, l_v2, rfl, k_v2, hu_v2⟩ := Kinds.cons_ hu_v1
    obtain ⟨m44, rfl⟩ := kind_addr k_v2
    obtain ⟨v3, l_v3, rfl, k_v3, hu_v3⟩ := Kinds.cons_ hu_v2
    obtain ⟨x45, rfl⟩ := kind_int k_v3
    obtain rfl := Kinds.nil_ hu_v3
    constructor
    · intro h X hX
      exact h (fun x42 w => X [.int .i64 x42] w) (fun x42 w hb => hX [.int .i64 x42] w ⟨rfl, trivial⟩ hb)
    · intro h X hX
      exact h (fun l w => match l with | [v0] => X (pInt v0) w | _ => True) (fun l w hl hb => by
        obtain ⟨v0, l_v0, rfl, k_v0, hl_v0⟩ := Kinds.cons_ hl
        obtain ⟨x42, rfl⟩ := kind_int k_v0
        obtain rfl := Kinds.nil_ hl_v0
        exact hX x42 w hb)

def T_wire_GetMsg (b1a : Option Addr) (b1l : Nat) (b1c : Nat) (w : World) (R : List Deferred → DefR) : Prop :=
  let w2 : World := w.alloc (.cells #[.int .i64 0, .int .i64 0, .int .i64 0, .int .i64 0, .int .i64 0, .int .i64 0, .int .i64 0, .int .i64 0, .int .i64 0, .bool false, .slice none 0 0, .slice none 0 0] 114)
  let w3 : World := w2.alloc (.cells #[.int .i64 0] 41)
  let w4 : World := w3.alloc (.cells #[.slice b1a b1l b1c, .int .i64 0] 195)
  let w5 : World := w4.alloc (.cells #[.int .i64 0, .int .i64 0, .int .i64 0, .int .i64 0, .int .i64 0, .int .i64 0, .int .i64 0, .int .i64 0, .int .i64 0, .bool false, .slice none 0 0, .slice none 0 0] 114)
  Calls Tryz.prog 72 #[.pointer (some (⟨w3.heap.size, 0, none⟩ : Addr)), .int .i64 1, .int .i64 7] w5 (ret (fun r6 w7 => ∃ x8 : Int, r6 = .int .i64 x8 ∧ (.int .i64 x8 : Value).cells.size = 1 ∧ wrOk w7 (⟨w4.heap.size, 0, none⟩ : Addr) (.int .i64 x8) ∧ let w9 : World := wr w7 (⟨w4.heap.size, 0, none⟩ : Addr) (.int .i64 x8)
  Calls Tryz.prog 72 #[.pointer (some (⟨w3.heap.size, 0, none⟩ : Addr)), .int .i64 1, .int .i64 9] w9 (ret (fun r10 w11 => ∃ x12 : Int, r10 = .int .i64 x12 ∧ Calls Tryz.prog 72 #[.pointer (some (⟨w3.heap.size, 0, none⟩ : Addr)), .int .i64 1, .int .i64 9] w11 (ret (fun r13 w14 => ∃ x15 : Int, r13 = .int .i64 x15 ∧ (.int .i64 x12 : Value).cells.size = 1 ∧ wrOk w14 ((⟨w4.heap.size, 0, none⟩ : Addr).add 1) (.int .i64 x12) ∧ let w16 : World := wr w14 ((⟨w4.heap.size, 0, none⟩ : Addr).add 1) (.int .i64 x12)
  (.int .i64 x15 : Value).cells.size = 1 ∧ wrOk w16 ((⟨w4.heap.size, 0, none⟩ : Addr).add 2) (.int .i64 x15) ∧ let w17 : World := wr w16 ((⟨w4.heap.size, 0, none⟩ : Addr).add 2) (.int .i64 x15)
  Calls Tryz.prog 72 #[.pointer (some (⟨w3.heap.size, 0, none⟩ : Addr)), .int .i64 0, .int .i64 1] w17 (ret (fun r18 w19 => ∃ x20 : Int, r18 = .int .i64 x20 ∧ (.bool ((x20 : Int) == 1) : Value).cells.size = 1 ∧ wrOk w19 ((⟨w4.heap.size, 0, none⟩ : Addr).add 9) (.bool ((x20 : Int) == 1)) ∧ let w21 : World := wr w19 ((⟨w4.heap.size, 0, none⟩ : Addr).add 9) (.bool ((x20 : Int) == 1))
  let w22 : World := w21.alloc (.cells #[.pointer (some ((⟨w4.heap.size, 0, none⟩ : Addr).add 3)), .pointer (some ((⟨w4.heap.size, 0, none⟩ : Addr).add 4)), .pointer (some ((⟨w4.heap.size, 0, none⟩ : Addr).add 5)), .pointer (some ((⟨w4.heap.size, 0, none⟩ : Addr).add 6)), .pointer (some ((⟨w4.heap.size, 0, none⟩ : Addr).add 7)), .pointer (some ((⟨w4.heap.size, 0, none⟩ : Addr).add 8))] 197)
  T_wire_GetMsg_1 0 (⟨w3.heap.size, 0, none⟩ : Addr) (some (⟨w21.heap.size, 0, none⟩ : Addr)) 6 6 ((6 : Nat) : Int) w22 (fun w34 => Calls Tryz.prog 73 #[.pointer (some (⟨w3.heap.size, 0, none⟩ : Addr)), .int .i64 0] w34 (ret (fun r35 w36 => ∃ x37 : Int, r35 = .int .i64 x37 ∧ T_wire_GetMsg_2 (decide ((x37 : Int) > 8)) w36 (fun w41 => T_wire_GetMsg_3 0 (⟨w3.heap.size, 0, none⟩ : Addr) (⟨w4.heap.size, 0, none⟩ : Addr) x37 w41 (fun w59 => Calls Tryz.prog 75 #[.pointer (some (⟨w3.heap.size, 0, none⟩ : Addr)), .int .i64 32768] w59 (ret (fun r60 w61 => ∃ s62a : Option Addr, ∃ s62l : Nat, ∃ s62c : Nat, r60 = .slice s62a s62l s62c ∧ (.slice s62a s62l s62c : Value).cells.size = 1 ∧ wrOk w61 ((⟨w4.heap.size, 0, none⟩ : Addr).add 11) (.slice s62a s62l s62c) ∧ let w63 : World := wr w61 ((⟨w4.heap.size, 0, none⟩ : Addr).add 11) (.slice s62a s62l s62c)
  Calls Tryz.prog 76 #[.pointer (some (⟨w3.heap.size, 0, none⟩ : Addr))] w63 (ret (fun r64 w65 => r64 = .tuple #[] ∧ ∃ xs66 : Array Value, xs66.size = 12 ∧ rd w65 (⟨w4.heap.size, 0, none⟩ : Addr) (.agg xs66) ∧ (.agg xs66 : Value).cells.size = 12 ∧ wrOk w65 (⟨w.heap.size, 0, none⟩ : Addr) (.agg xs66) ∧ let w67 : World := wr w65 (⟨w.heap.size, 0, none⟩ : Addr) (.agg xs66)
  (.int .i64 0 : Value).cells.size = 1 ∧ wrOk w67 (⟨w2.heap.size, 0, none⟩ : Addr) (.int .i64 0) ∧ let w68 : World := wr w67 (⟨w2.heap.size, 0, none⟩ : Addr) (.int .i64 0)
  R [{ target := .fn (.func 71) #[], args := #[.pointer (some (⟨w2.heap.size, 0, none⟩ : Addr))] }] none [.pointer (some (⟨w.heap.size, 0, none⟩ : Addr)), .pointer (some (⟨w2.heap.size, 0, none⟩ : Addr))] w68) (fun ch wX => R [{ target := .fn (.func 71) #[], args := #[.pointer (some (⟨w2.heap.size, 0, none⟩ : Addr))] }] (some ch) [.pointer (some (⟨w.heap.size, 0, none⟩ : Addr)), .pointer (some (⟨w2.heap.size, 0, none⟩ : Addr))] wX))) (fun ch wX => R [{ target := .fn (.func 71) #[], args := #[.pointer (some (⟨w2.heap.size, 0, none⟩ : Addr))] }] (some ch) [.pointer (some (⟨w.heap.size, 0, none⟩ : Addr)), .pointer (some (⟨w2.heap.size, 0, none⟩ : Addr))] wX))) (fun ch wX => R [{ target := .fn (.func 71) #[], args := #[.pointer (some (⟨w2.heap.size, 0, none⟩ : Addr))] }] (some ch) [.pointer (some (⟨w.heap.size, 0, none⟩ : Addr)), .pointer (some (⟨w2.heap.size, 0, none⟩ : Addr))] wX)) (fun ch wX => R [{ target := .fn (.func 71) #[], args := #[.pointer (some (⟨w2.heap.size, 0, none⟩ : Addr))] }] (some ch) [.pointer (some (⟨w.heap.size, 0, none⟩ : Addr)), .pointer (some (⟨w2.heap.size, 0, none⟩ : Addr))] wX)) (fun ch wX => R [{ target := .fn (.func 71) #[], args := #[.pointer (some (⟨w2.heap.size, 0, none⟩ : Addr))] }] (some ch) [.pointer (some (⟨w.heap.size, 0, none⟩ : Addr)), .pointer (some (⟨w2.heap.size, 0, none⟩ : Addr))] wX))) (fun ch wX => R [{ target := .fn (.func 71) #[], args := #[.pointer (some (⟨w2.heap.size, 0, none⟩ : Addr))] }] (some ch) [.pointer (some (⟨w.heap.size, 0, none⟩ : Addr)), .pointer (some (⟨w2.heap.size, 0, none⟩ : Addr))] wX)) (fun ch wX => R [{ target := .fn (.func 71) #[], args := #[.pointer (some (⟨w2.heap.size, 0, none⟩ : Addr))] }] (some ch) [.pointer (some (⟨w.heap.size, 0, none⟩ : Addr)), .pointer (some (⟨w2.heap.size, 0, none⟩ : Addr))] wX))) (fun ch wX => R [{ target := .fn (.func 71) #[], args := #[.pointer (some (⟨w2.heap.size, 0, none⟩ : Addr))] }] (some ch) [.pointer (some (⟨w.heap.size, 0, none⟩ : Addr)), .pointer (some (⟨w2.heap.size, 0, none⟩ : Addr))] wX))) (fun ch wX => R [{ target := .fn (.func 71) #[], args := #[.pointer (some (⟨w2.heap.size, 0, none⟩ : Addr))] }] (some ch) [.pointer (some (⟨w.heap.size, 0, none⟩ : Addr)), .pointer (some (⟨w2.heap.size, 0, none⟩ : Addr))] wX))) (fun ch wX => R [{ target := .fn (.func 71) #[], args := #[.pointer (some (⟨w2.heap.size, 0, none⟩ : Addr))] }] (some ch) [.pointer (some (⟨w.heap.size, 0, none⟩ : Addr)), .pointer (some (⟨w2.heap.size, 0, none⟩ : Addr))] wX))

theorem T_wire_GetMsg_hl : allP (hokL Tryz.prog (hookAt [(1021, H_wire_GetMsg_1), (4093, H_wire_GetMsg_2), (8189, H_wire_GetMsg_3)]) (at_ (bodyOf Tryz.f33) [1, 1]) 7) = (UnitOk Tryz.prog H_wire_GetMsg_1 (at_ (bodyOf Tryz.f33) [1, 1, 1, 1, 1, 1, 1, 0, 1]) 1021 ∧ UnitOk Tryz.prog H_wire_GetMsg_2 (at_ (bodyOf Tryz.f33) [1, 1, 1, 1, 1, 1, 1, 1, 1, 0, 1]) 4093 ∧ UnitOk Tryz.prog H_wire_GetMsg_3 (at_ (bodyOf Tryz.f33) [1, 1, 1, 1, 1, 1, 1, 1, 1, 1, 0, 1]) 8189 ∧ True) := by kernel_rfl

theorem T_wire_GetMsg_eq (b1a : Option Addr) (b1l : Nat) (b1c : Nat) (w : World) (R : List Deferred → DefR) : vcCode Tryz.prog noH (at_ (bodyOf Tryz.f33) [0]) 2 ⟨argEnv [.slice b1a b1l b1c] 0, Tryz.f33.ntmps, []⟩ w (defQ Tryz.prog (hookAt [(1021, H_wire_GetMsg_1), (4093, H_wire_GetMsg_2), (8189, H_wire_GetMsg_3)]) 71 (.tmp 3) (at_ (bodyOf Tryz.f33) [1, 1]) [2, 3] R) = T_wire_GetMsg b1a b1l b1c w R := by kernel_rfl

theorem T_wire_GetMsg_b : Tryz.f33.body = some (.seq (at_ (bodyOf Tryz.f33) [0]) (.seq (.region (dIdOf (bodyOf Tryz.f33)) ⟨[dOpOf (bodyOf Tryz.f33)]⟩ false) (at_ (bodyOf Tryz.f33) [1, 1]))) := by kernel_rfl
theorem T_wire_GetMsg_o : (dOpOf (bodyOf Tryz.f33)).op = .defer ⟨.value (.func 71), #[.tmp 3], dTsOf (dOpOf (bodyOf Tryz.f33))⟩ ∧ (dOpOf (bodyOf Tryz.f33)).guard = none ∧ (dOpOf (bodyOf Tryz.f33)).dst = none := ⟨by kernel_rfl, by kernel_rfl, by kernel_rfl⟩
theorem T_wire_GetMsg_s : (quietSel (at_ (bodyOf Tryz.f33) [0]) && quietSel (at_ (bodyOf Tryz.f33) [1, 1]) && drawFree (keepOf [2, 3]) (at_ (bodyOf Tryz.f33) [1, 1]) && Nat.ble 1 Tryz.f33.ntmps) = true := by kernel_rfl

theorem C_wire_GetMsg {b1a : Option Addr} {b1l : Nat} {b1c : Nat} {w : World} {R : Ending → World → Prop} (h : T_wire_GetMsg b1a b1l b1c w (leaveR Tryz.prog Tryz.f33 [2, 3] R)) : Calls Tryz.prog 33 #[.slice b1a b1l b1c] w R :=
  calls_of_defer (args := [.slice b1a b1l b1c]) mixed Tryz.func33 T_wire_GetMsg_b T_wire_GetMsg_o.1 T_wire_GetMsg_o.2.1 T_wire_GetMsg_o.2.2 T_wire_GetMsg_s (HOk_of _ _ (show allP (hokL Tryz.prog (hookAt [(1021, H_wire_GetMsg_1), (4093, H_wire_GetMsg_2), (8189, H_wire_GetMsg_3)]) (at_ (bodyOf Tryz.f33) [1, 1]) 7) from by rw [T_wire_GetMsg_hl]; exact ⟨T_wire_GetMsg_1_ok, T_wire_GetMsg_2_ok, T_wire_GetMsg_3_ok, trivial⟩)) (show vcCode Tryz.prog noH (at_ (bodyOf Tryz.f33) [0]) 2 ⟨argEnv [.slice b1a b1l b1c] 0, Tryz.f33.ntmps, []⟩ w (defQ Tryz.prog (hookAt [(1021, H_wire_GetMsg_1), (4093, H_wire_GetMsg_2), (8189, H_wire_GetMsg_3)]) 71 (.tmp 3) (at_ (bodyOf Tryz.f33) [1, 1]) [2, 3] (leaveR Tryz.prog Tryz.f33 [2, 3] R)) from by rw [T_wire_GetMsg_eq]; exact h)

/-! tollgate/wire.caught -/
def T_wire_caught (e1 : Option Addr) (n : Int) (w : World) (R : Ending → World → Prop) : Prop :=
  runV Tryz.prog (do eqGuard .eql 20 (.tmp 5) (.const .nilIface) (.iface 200 (.int .i64 n)) .nilIface; binOp .eql 20 (.iface 200 (.int .i64 n)) .nilIface) w (fun r2 w3 => ∃ b4 : Bool, r2 = .bool b4 ∧ if b4 = true then (R (.returned (.tuple #[])) w3) else (runV Tryz.prog (Instr.typeAssert (.iface 200 (.int .i64 n)) 20 200 true) w3 (fun r5 w6 => ∃ (u7 : Value) (b8 : Bool), r5 = .tuple ⟨[u7, .bool b8]⟩ ∧ ∃ x9 : Int, u7 = .int .i64 x9 ∧ if b8 = true then (∃ a10, e1 = some a10 ∧ (.int .i64 x9 : Value).cells.size = 1 ∧ wrOk w6 a10 (.int .i64 x9) ∧ let w11 : World := wr w6 a10 (.int .i64 x9)
  R (.returned (.tuple #[])) w11) else (runV Tryz.prog (Instr.panic (.iface 200 (.int .i64 n))) w6 (fun r12 w13 => R (.returned (.tuple #[])) w13) (pan R))) (pan R))) (pan R)

theorem T_wire_caught_hl : allP (hokL Tryz.prog (hookAt []) (at_ (bodyOf Tryz.f71) [1]) 3) = (True) := by kernel_rfl

theorem T_wire_caught_eq (e1 : Option Addr) (n : Int) (w : World) (R : Ending → World → Prop) : vcCode Tryz.prog (hookAt []) (at_ (bodyOf Tryz.f71) [1]) 3 ⟨(5, .iface 200 (.int .i64 n)) :: argEnv [.pointer e1] 0, Tryz.f71.ntmps, []⟩ w (finQ Tryz.prog Tryz.f71.results.toList R) = T_wire_caught e1 n w R := by kernel_rfl

theorem T_wire_caught_b : Tryz.f71.body = some (.seq (.region (rIdOf (bodyOf Tryz.f71)) ⟨[rOpOf (bodyOf Tryz.f71)]⟩ false) (at_ (bodyOf Tryz.f71) [1])) := by kernel_rfl
theorem T_wire_caught_o : (rOpOf (bodyOf Tryz.f71)).op = .call ⟨.builtin .recover, rXsOf (rOpOf (bodyOf Tryz.f71)), rTsOf (rOpOf (bodyOf Tryz.f71))⟩ ∧ (rOpOf (bodyOf Tryz.f71)).guard = none ∧ (rOpOf (bodyOf Tryz.f71)).dst = some 5 := ⟨by kernel_rfl, by kernel_rfl, by kernel_rfl⟩
theorem T_wire_caught_s : (quietSel (at_ (bodyOf Tryz.f71) [1]) && Nat.blt 5 Tryz.f71.ntmps && Nat.ble 1 Tryz.f71.ntmps) = true := by kernel_rfl

theorem C_wire_caught {e1 : Option Addr} {n : Int} {older : List PanicEntry} {w : World} {R : Ending → FrameMode → World → Prop} (h : T_wire_caught e1 n w (fun e w => R e (.panicking ({ v := .iface 200 (.int .i64 n), recovered := true } :: older)) w)) : CallsD Tryz.prog 71 #[.pointer e1] (.panicking ({ v := .iface 200 (.int .i64 n), recovered := false, goexit := false } :: older)) w R :=
  callsD_of_rec (args := [.pointer e1]) mixed Tryz.func71 T_wire_caught_b T_wire_caught_o.1 T_wire_caught_o.2.1 T_wire_caught_o.2.2 T_wire_caught_s (HOk_of _ _ (show allP (hokL Tryz.prog (hookAt []) (at_ (bodyOf Tryz.f71) [1]) 3) from by rw [T_wire_caught_hl]; exact trivial)) (by rw [T_wire_caught_eq]; exact h)

end Go.Proofs.YtlomfgiokkhioaaGreatDoor
