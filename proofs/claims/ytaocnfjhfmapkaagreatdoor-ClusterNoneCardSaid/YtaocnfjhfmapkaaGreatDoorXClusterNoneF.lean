/-
  Texts of this claim's own, laid into one: Ka, Kb, ClusLw, NodeNn, ClusNo, Ga, ConfM, ConfA, ConfB, Gb, ConfC, VcEq, ConfPa, Gp, ConfPc, ClusHk, ClusPc.
-/
import Derived.Test.YtaocnfjhfmapkaaGreatDoorProg
import Derived.KernelRfl
import Derived.Laws.Externs
import Derived.Test.YtaocnfjhfmapkaaGreatDoorXClusterNoneA
import Derived.Test.YtaocnfjhfmapkaaGreatDoorXClusterNoneB
import Derived.Test.YtaocnfjhfmapkaaGreatDoorXClusterNoneC
import Derived.Test.YtaocnfjhfmapkaaGreatDoorXClusterNoneD
import Derived.Test.YtaocnfjhfmapkaaGreatDoorXClusterNoneE
set_option linter.all false
/-
  What the functions' code comes to; printed by a program of this claim's own.
-/
namespace Go.Proofs.YtaocnfjhfmapkaaGreatDoor
open Go Go.Vc
set_option maxRecDepth 100000
set_option linter.unusedVariables false
variable {w : World} {R : ERP}

/-! (*tollgate/disk.Disk).Crash -/
def T_disk_Disk_Crash_2 (keep13a : Option Addr) (keep13l keep13c : Nat) (i14 : Int) (w : World) (Kn : Bool → WP) (Kp : KP) : Prop :=
  Kn (decide ((i14 : Int) < (keep13l : Int))) w

def H_disk_Disk_Crash_2 : Env → World → QT → Prop := unitHook 69 (ksOf [18, 19, 20, 21]) [(1, .slice none 0 0), (4, .int .i64 0)] (oF (some [(21, .bool false)]) none []) fun l w C => T_disk_Disk_Crash_2 (pA (nv l 0)) (pL (nv l 0)) (pC (nv l 0)) (pInt (nv l 1)) w (fun b16 => C .normal [.bool b16]) (fun ch => C (.panic ch) [])

theorem T_disk_Disk_Crash_2_ok : UnitOk Tryz.prog H_disk_Disk_Crash_2 (at_ (bodyOf Tryz.f60) [1, 0, 0, 1, 1, 0, 0, 1, 1, 0, 0]) 3276 := uk hz

def T_disk_Disk_Crash_3 (keep19a : Option Addr) (keep19l keep19c : Nat) (i20 k21 : Int) (b22 : Bool) (w : World) (Kn : Int → WP) (Kp : KP) : Prop :=
  if b22 = true then (0 ≤ (i20 : Int) ∧ (i20 : Int) < (keep19l : Int) ∧ ∃ b23, keep19a = some b23 ∧ ∃ x24 : Int, rd w (b23.add ((i20 : Int).toNat * 1)) (.int .i64 x24) ∧ Kn (if x24 > 0 then x24 else 0) w) else (Kn k21 w)

def H_disk_Disk_Crash_3 : Env → World → QT → Prop := unitHook 69 (ksOf [6, 22, 23, 24, 25, 26]) [(1, .slice none 0 0), (4, .int .i64 0), (6, .int .i64 0), (21, .bool false)] (oF (some [(6, .int .i64 0)]) none []) fun l w C => T_disk_Disk_Crash_3 (pA (nv l 0)) (pL (nv l 0)) (pC (nv l 0)) (pInt (nv l 1)) (pInt (nv l 2)) (pBool (nv l 3)) w (fun k26 => C .normal [.int .i64 k26]) (fun ch => C (.panic ch) [])

theorem T_disk_Disk_Crash_3_ok : UnitOk Tryz.prog H_disk_Disk_Crash_3 (at_ (bodyOf Tryz.f60) [1, 0, 0, 1, 1, 0, 0, 1, 1, 0, 1]) 3277 := uk hz

def T_disk_Disk_Crash_4 (f38 : Option Addr) (units39 : Int) (w : World) (Kn : Bool → WP) (Kp : KP) : Prop :=
  ∃ a40, f38 = some a40 ∧ ∃ b41 : Bool, rd w (a40.add 2) (.bool b41) ∧ if (!b41) = true then (Kn ((units39 : Int) == 0) w) else (Kn false w)

def H_disk_Disk_Crash_4 : Env → World → QT → Prop := unitHook 69 (ksOf [39, 40, 41, 42, 43, 44, 45, 46, 47]) [(7, .pointer none), (9, .int .i64 0)] (oF (some [(47, .bool false)]) none []) fun l w C => T_disk_Disk_Crash_4 (pPtr (nv l 0)) (pInt (nv l 1)) w (fun b43 => C .normal [.bool b43]) (fun ch => C (.panic ch) [])

theorem T_disk_Disk_Crash_4_ok : UnitOk Tryz.prog H_disk_Disk_Crash_4 (at_ (bodyOf Tryz.f60) [1, 0, 0, 1, 1, 0, 0, 1, 1, 1, 1, 1, 0, 0]) 26236 := uk hz

def T_disk_Disk_Crash_1_body (X : Int → WP) (x6 : Int) (d7 keep8a : Option Addr) (keep8l keep8c : Nat) (s9a : Option Addr) (s9l s9c : Nat) (x10 : Int) (w : World) (Kn : WP) (Kp : KP) : Prop :=
  if (decide ((x6 : Int) < x10)) = true then (0 ≤ (x6 : Int) ∧ (x6 : Int) < (s9l : Int) ∧ ∃ b11, s9a = some b11 ∧ ∃ s12 : ByteArray, rd w (b11.add ((x6 : Int).toNat * 1)) (.string s12) ∧ T_disk_Disk_Crash_2 keep8a keep8l keep8c x6 w (fun b17 w18 => T_disk_Disk_Crash_3 keep8a keep8l keep8c x6 0 b17 w18 (fun k27 w28 => ∃ a29, d7 = some a29 ∧ ∃ m30 : Option Nat, rd w28 (a29.add 1) (.map m30) ∧ runV Tryz.prog (Instr.lookup 94 (.map m30) (.string s12) false) w28 (fun r31 w32 => ∃ p33 : Option Addr, r31 = .pointer p33 ∧ Calls Tryz.prog 126 #[.pointer p33, .int .i64 k27] w32 (ret (fun r34 w35 => ∃ (s36a : Option Addr) (s36l s36c : Nat) (x37 : Int), r34 = .tuple #[.slice s36a s36l s36c, .int .i64 x37] ∧ T_disk_Disk_Crash_4 p33 x37 w35 (fun b44 w45 => if b44 = true then (∃ a46, d7 = some a46 ∧ ∃ m47 : Option Nat, rd w45 (a46.add 1) (.map m47) ∧ runV Tryz.prog (Builtin.delete_ #[94, 9] 0 #[.map m47, .string s12]) w45 (fun r48 w49 => X (IntKind.wrap .i64 ((x6 : Int) + 1)) w49) Kp) else (Calls Tryz.prog 69 #[.slice s36a s36l s36c] w45 (ret (fun r50 w51 => ∃ (s52a : Option Addr) (s52l s52c : Nat), r50 = .slice s52a s52l s52c ∧ ∃ a53, p33 = some a53 ∧ (.slice s36a s36l s36c : Value).cells.size = 1 ∧ wrOk w51 a53 (.slice s36a s36l s36c) ∧ let w54 := wr w51 a53 (.slice s36a s36l s36c)
  ∃ a55, p33 = some a55 ∧ (.slice s52a s52l s52c : Value).cells.size = 1 ∧ wrOk w54 (a55.add 1) (.slice s52a s52l s52c) ∧ let w56 := wr w54 (a55.add 1) (.slice s52a s52l s52c)
  ∃ a57, p33 = some a57 ∧ (.bool true : Value).cells.size = 1 ∧ wrOk w56 (a57.add 2) (.bool true) ∧ let w58 := wr w56 (a57.add 2) (.bool true)
  ∃ a59, p33 = some a59 ∧ (.slice none 0 0 : Value).cells.size = 1 ∧ wrOk w58 (a59.add 3) (.slice none 0 0) ∧ let w60 := wr w58 (a59.add 3) (.slice none 0 0)
  X (IntKind.wrap .i64 ((x6 : Int) + 1)) w60) Kp))) Kp) Kp)) Kp) Kp) Kp) else (Kn  w)

def T_disk_Disk_Crash_1 (x6 : Int) (d7 keep8a : Option Addr) (keep8l keep8c : Nat) (s9a : Option Addr) (s9l s9c : Nat) (x10 : Int) (w : World) (Kn : WP) (Kp : KP) : Prop :=
  ∀ X : Int → WP, (∀ (x6 : Int) (w : World), T_disk_Disk_Crash_1_body X x6 d7 keep8a keep8l keep8c s9a s9l s9c x10 w Kn Kp → X x6 w) → X x6 w

def H_disk_Disk_Crash_1 : Env → World → QT → Prop := unitHook 69 (ksOf [4, 5, 6, 7, 8, 9, 13, 14, 15, 16, 17, 18, 19, 20, 21, 22, 23, 24, 25, 26, 27, 28, 29, 30, 31, 32, 33, 34, 35, 36, 37, 38, 39, 40, 41, 42, 43, 44, 45, 46, 47, 48, 49, 50, 51, 52, 53, 54, 55, 56, 57, 58, 59, 60, 61, 62, 63, 64, 65, 66, 67, 68]) ([(13, .int .i64 0)] ++ [(0, .pointer none), (1, .slice none 0 0), (11, .slice none 0 0), (12, .int .i64 0)]) (oF (some []) none []) fun l w C => T_disk_Disk_Crash_1 (pInt (nv l 0)) (pPtr (nv l 1)) (pA (nv l 2)) (pL (nv l 2)) (pC (nv l 2)) (pA (nv l 3)) (pL (nv l 3)) (pC (nv l 3)) (pInt (nv l 4)) w (C .normal []) (fun ch => C (.panic ch) [])

theorem T_disk_Disk_Crash_1_ok : UnitOk Tryz.prog H_disk_Disk_Crash_1 (at_ (bodyOf Tryz.f60) [1]) 3 := lk 0 (B := fun C X l u w => T_disk_Disk_Crash_1_body (fun x6 => X [.int .i64 x6]) (pInt (nv l 0)) (pPtr (nv u 0)) (pA (nv u 1)) (pL (nv u 1)) (pC (nv u 1)) (pA (nv u 2)) (pL (nv u 2)) (pC (nv u 2)) (pInt (nv u 3)) w (C .normal []) (fun ch => C (.panic ch) [])) (hA (H := hookAt [(3276, H_disk_Disk_Crash_2), (3277, H_disk_Disk_Crash_3), (26236, H_disk_Disk_Crash_4)]) (hc T_disk_Disk_Crash_2_ok (hc T_disk_Disk_Crash_3_ok (hc T_disk_Disk_Crash_4_ok hn)))) (fun l u w C => ⟨fun h X hX => h (fun x6 => X [.int .i64 x6]) fun x6 w hb => hX [.int .i64 x6] w hb, fun h X hX => h (fun l w => X (pInt (nv l 0)) w) fun l w hb => hX (pInt (nv l 0)) w hb⟩)

def T_disk_Disk_Crash (d1 keep2a : Option Addr) (keep2l keep2c : Nat) (w : World) (R : ERP) : Prop :=
  Calls Tryz.prog 81 #[.pointer d1] w (ret (fun r3 w4 => ∃ (s5a : Option Addr) (s5l s5c : Nat), r3 = .slice s5a s5l s5c ∧ T_disk_Disk_Crash_1 0 d1 keep2a keep2l keep2c s5a s5l s5c (s5l : Int) w4 (fun w61 => R (.returned (.tuple #[])) w61) (pan R)) (pan R))

theorem C_disk_Disk_Crash {d1 keep2a : Option Addr} {keep2l keep2c : Nat} (h : T_disk_Disk_Crash d1 keep2a keep2l keep2c w R) : Calls Tryz.prog 60 #[.pointer d1, .slice keep2a keep2l keep2c] w R := cc mixed Tryz.func60 (hA (H := hookAt [(3, H_disk_Disk_Crash_1)]) (hc T_disk_Disk_Crash_1_ok hn)) h

end Go.Proofs.YtaocnfjhfmapkaaGreatDoor

/-
  What the functions' code comes to; printed by a program of this claim's own.
-/
namespace Go.Proofs.YtaocnfjhfmapkaaGreatDoor
open Go Go.Vc
set_option maxRecDepth 100000
set_option linter.unusedVariables false
variable {w : World} {R : ERP}

/-! tollgate/tollgatelaw13.short -/
def T_law13_short (s1 : Array Value) (w : World) (R : ERP) : Prop :=
  let w2 := w.alloc (.cells s1 32)
  ∃ (s3a : Option Addr) (s3l s3c : Nat), rd w2 ((⟨w.heap.size, 0, none⟩ : Addr).add 6) (.slice s3a s3l s3c) ∧ if (decide ((s3l : Int) ≤ 50)) = true then (∃ (s4a : Option Addr) (s4l s4c : Nat), rd w2 (((⟨w.heap.size, 0, none⟩ : Addr).add 7).add 7) (.slice s4a s4l s4c) ∧ if (decide ((s4l : Int) ≤ 100)) = true then (∃ s5 : ByteArray, rd w2 (((⟨w.heap.size, 0, none⟩ : Addr).add 7).add 4) (.string s5) ∧ ∃ s6 : ByteArray, rd w2 (((⟨w.heap.size, 0, none⟩ : Addr).add 7).add 5) (.string s6) ∧ ∃ s7 : ByteArray, rd w2 (((⟨w.heap.size, 0, none⟩ : Addr).add 7).add 6) (.string s7) ∧ R (.returned (.bool (decide ((IntKind.wrap .i64 ((IntKind.wrap .i64 ((s5.size : Int) + (s6.size : Int)) : Int) + (s7.size : Int)) : Int) ≤ 2000)))) w2) else (R (.returned (.bool false)) w2)) else (R (.returned (.bool false)) w2)

theorem C_law13_short {s1 : Array Value} (h : T_law13_short s1 w R) : Calls Tryz.prog 6 #[.agg s1] w R := cc mixed Tryz.func6 hz h

/-! tollgate/tollgatelaw13.live -/
def T_law13_live_1 (c5 : Option Addr) (e6 : Int) (w : World) (Kn : Bool → WP) (Kp : KP) : Prop :=
  if ((e6 : Int) != 0) = true then (Kn true w) else (Kn c5.isNone w)

def H_law13_live_1 : Env → World → QT → Prop := unitHook 64 (ksOf [11, 12, 13, 14, 15, 16]) [(1, .pointer none), (2, .int .i64 0)] (oF (some [(16, .bool false)]) none []) fun l w C => T_law13_live_1 (pPtr (nv l 0)) (pInt (nv l 1)) w (fun b8 => C .normal [.bool b8]) (fun ch => C (.panic ch) [])

theorem T_law13_live_1_ok : UnitOk Tryz.prog H_law13_live_1 (at_ (bodyOf Tryz.f7) [1, 1, 0, 0]) 28 := uk hz

def T_law13_live_2_body (X : Int → WP) (i11 : Int) (c12 : Option Addr) (w : World) (Kn : WP) (Kp : KP) : Prop :=
  if (decide ((i11 : Int) < 13)) = true then (Calls Tryz.prog 8 #[.pointer c12, .agg #[.int .i64 1, .int .i64 1, .int .i64 0, .int .i64 0, .int .i64 0, .int .i64 0, .slice none 0 0, .int .i64 0, .int .i64 0, .int .i64 0, .int .i64 0, .string (ByteArray.mk #[]), .string (ByteArray.mk #[]), .string (ByteArray.mk #[]), .slice none 0 0, .int .i64 0, .int .i64 0]] w (ret (fun r13 w14 => ∃ (x15 x16 x17 x18 : Int) (s19a : Option Addr) (s19l s19c : Nat) (s20a : Option Addr) (s20l s20c : Nat) (s21a : Option Addr) (s21l s21c : Nat), r13 = .agg #[.int .i64 x15, .int .i64 x16, .int .i64 x17, .int .i64 x18, .slice s19a s19l s19c, .slice s20a s20l s20c, .slice s21a s21l s21c] ∧ X (IntKind.wrap .i64 ((i11 : Int) + 1)) w14) Kp)) else (Kn  w)

def T_law13_live_2 (i11 : Int) (c12 : Option Addr) (w : World) (Kn : WP) (Kp : KP) : Prop :=
  ∀ X : Int → WP, (∀ (i11 : Int) (w : World), T_law13_live_2_body X i11 c12 w Kn Kp → X i11 w) → X i11 w

def H_law13_live_2 : Env → World → QT → Prop := unitHook 64 (ksOf [3, 17, 18, 19, 20, 21, 22, 23]) ([(3, .int .i64 0)] ++ [(1, .pointer none)]) (oF (some []) none []) fun l w C => T_law13_live_2 (pInt (nv l 0)) (pPtr (nv l 1)) w (C .normal []) (fun ch => C (.panic ch) [])

theorem T_law13_live_2_ok : UnitOk Tryz.prog H_law13_live_2 (at_ (bodyOf Tryz.f7) [1, 1, 1, 0, 1]) 61 := lk 0 (B := fun C X l u w => T_law13_live_2_body (fun i11 => X [.int .i64 i11]) (pInt (nv l 0)) (pPtr (nv u 0)) w (C .normal []) (fun ch => C (.panic ch) [])) hz (fun l u w C => ⟨fun h X hX => h (fun i11 => X [.int .i64 i11]) fun i11 w hb => hX [.int .i64 i11] w hb, fun h X hX => h (fun l w => X (pInt (nv l 0)) w) fun l w hb => hX (pInt (nv l 0)) w hb⟩)

def T_law13_live  (w : World) (R : ERP) : Prop :=
  Calls Tryz.prog 5 #[.int .i64 3, .int .i64 65536] w (ret (fun r1 w2 => ∃ (p3 : Option Addr) (x4 : Int), r1 = .tuple #[.pointer p3, .int .i64 x4] ∧ T_law13_live_1 p3 x4 w2 (fun b9 w10 => if b9 = true then (R (.returned (.bool false)) w10) else (T_law13_live_2 0 p3 w10 (fun w22 => Calls Tryz.prog 8 #[.pointer p3, .agg #[.int .i64 7, .int .i64 2, .int .i64 0, .int .i64 0, .int .i64 0, .int .i64 0, .slice none 0 0, .int .i64 0, .int .i64 0, .int .i64 0, .int .i64 0, .string (ByteArray.mk #[]), .string (ByteArray.mk #[]), .string (ByteArray.mk #[]), .slice none 0 0, .int .i64 0, .int .i64 0]] w22 (ret (fun r23 w24 => ∃ (x25 x26 x27 x28 : Int) (s29a : Option Addr) (s29l s29c : Nat) (s30a : Option Addr) (s30l s30c : Nat) (s31a : Option Addr) (s31l s31c : Nat), r23 = .agg #[.int .i64 x25, .int .i64 x26, .int .i64 x27, .int .i64 x28, .slice s29a s29l s29c, .slice s30a s30l s30c, .slice s31a s31l s31c] ∧ Calls Tryz.prog 14 #[.pointer p3] w24 (ret (fun r32 w33 => ∃ (s34a : Option Addr) (s34l s34c : Nat), r32 = .slice s34a s34l s34c ∧ Calls Tryz.prog 8 #[.pointer p3, .agg #[.int .i64 2, .int .i64 0, .int .i64 0, .int .i64 0, .int .i64 0, .int .i64 0, .slice none 0 0, .int .i64 0, .int .i64 0, .int .i64 0, .int .i64 0, .string (ByteArray.mk #[]), .string (ByteArray.mk #[]), .string (ByteArray.mk #[]), .slice none 0 0, .int .i64 0, .int .i64 0]] w33 (ret (fun r35 w36 => ∃ (x37 x38 x39 x40 : Int) (s41a : Option Addr) (s41l s41c : Nat) (s42a : Option Addr) (s42l s42c : Nat) (s43a : Option Addr) (s43l s43c : Nat), r35 = .agg #[.int .i64 x37, .int .i64 x38, .int .i64 x39, .int .i64 x40, .slice s41a s41l s41c, .slice s42a s42l s42c, .slice s43a s43l s43c] ∧ let w44 := w36.alloc (.cells #[.int .i64 0, .int .i64 0, .int .i64 0, .int .i64 0, .slice none 0 0, .slice none 0 0, .slice none 0 0] 48)
  (.agg #[.int .i64 x37, .int .i64 x38, .int .i64 x39, .int .i64 x40, .slice s41a s41l s41c, .slice s42a s42l s42c, .slice s43a s43l s43c] : Value).cells.size = 7 ∧ wrOk w44 (⟨w36.heap.size, 0, none⟩ : Addr) (.agg #[.int .i64 x37, .int .i64 x38, .int .i64 x39, .int .i64 x40, .slice s41a s41l s41c, .slice s42a s42l s42c, .slice s43a s43l s43c]) ∧ let w45 := wr w44 (⟨w36.heap.size, 0, none⟩ : Addr) (.agg #[.int .i64 x37, .int .i64 x38, .int .i64 x39, .int .i64 x40, .slice s41a s41l s41c, .slice s42a s42l s42c, .slice s43a s43l s43c])
  if ((s34l : Int) == 2) = true then (if ((x25 : Int) == 0) = true then (∃ x46 : Int, rd w45 (⟨w36.heap.size, 0, none⟩ : Addr) (.int .i64 x46) ∧ if ((x46 : Int) == 10) = true then (∃ x47 : Int, rd w45 ((⟨w36.heap.size, 0, none⟩ : Addr).add 1) (.int .i64 x47) ∧ if ((x47 : Int) == 2) = true then (Calls Tryz.prog 11 #[.pointer p3, .int .i64 2] w45 (ret (fun r48 w49 => ∃ b50 : Bool, r48 = .bool b50 ∧ if (!b50) = true then (Calls Tryz.prog 11 #[.pointer p3, .int .i64 3] w49 (ret (fun r51 w52 => ∃ b53 : Bool, r51 = .bool b53 ∧ if b53 = true then (Calls Tryz.prog 10 #[.pointer p3] w52 (ret (fun r54 w55 => ∃ x56 : Int, r54 = .int .i64 x56 ∧ R (.returned (.bool ((x56 : Int) == 3))) w55) (pan R))) else (R (.returned (.bool false)) w52)) (pan R))) else (R (.returned (.bool false)) w49)) (pan R))) else (R (.returned (.bool false)) w45)) else (R (.returned (.bool false)) w45)) else (R (.returned (.bool false)) w45)) else (R (.returned (.bool false)) w45)) (pan R))) (pan R))) (pan R))) (pan R))) (pan R)) (pan R))

theorem C_law13_live  (h : T_law13_live  w R) : Calls Tryz.prog 7 #[] w R := cc mixed Tryz.func7 (hA (H := hookAt [(28, H_law13_live_1), (61, H_law13_live_2)]) (hc T_law13_live_1_ok (hc T_law13_live_2_ok hn))) h

/-! tollgate/tollgatelaw13.ClusterNone -/
def T_law13_ClusterNone_1 (s17 : Addr) (x18 : Option Addr) (f19 : Int) (w : World) (Kn : Bool → WP) (Kp : KP) : Prop :=
  if ((f19 : Int) != 0) = true then (Kn true w) else (if x18.isNone = true then (Kn true w) else (∃ xs20 : Array Value, xs20.size = 17 ∧ rd w s17 (.agg xs20) ∧ Calls Tryz.prog 6 #[.agg xs20] w (ret (fun r21 w22 => ∃ b23 : Bool, r21 = .bool b23 ∧ Kn (!b23) w22) Kp)))

def H_law13_ClusterNone_1 : Env → World → QT → Prop := unitHook 137 (ksOf [22, 23, 24, 25, 26, 27, 28, 29, 30, 31, 32]) [(2, .pointer (some ⟨0, 0, none⟩)), (8, .pointer none), (9, .int .i64 0)] (oF (some [(32, .bool false)]) none []) fun l w C => T_law13_ClusterNone_1 (pAddr (nv l 0)) (pPtr (nv l 1)) (pInt (nv l 2)) w (fun b25 => C .normal [.bool b25]) (fun ch => C (.panic ch) [])

theorem T_law13_ClusterNone_1_ok : UnitOk Tryz.prog H_law13_ClusterNone_1 (at_ (bodyOf Tryz.f3) [1, 1, 1, 1, 0, 0]) 124 := uk hz

def T_law13_ClusterNone_2 (f28 : Int) (w : World) (Kn : Bool → WP) (Kp : KP) : Prop :=
  if ((f28 : Int) == 0) = true then (Calls Tryz.prog 7 #[] w (ret (fun r29 w30 => ∃ b31 : Bool, r29 = .bool b31 ∧ Kn b31 w30) Kp)) else (Kn false w)

def H_law13_ClusterNone_2 : Env → World → QT → Prop := unitHook 137 (ksOf [4, 33, 34, 35, 36, 37]) [(9, .int .i64 0)] (oF (some [(4, .bool false)]) none []) fun l w C => T_law13_ClusterNone_2 (pInt (nv l 0)) w (fun b33 => C .normal [.bool b33]) (fun ch => C (.panic ch) [])

theorem T_law13_ClusterNone_2_ok : UnitOk Tryz.prog H_law13_ClusterNone_2 (at_ (bodyOf Tryz.f3) [1, 1, 1, 1, 0, 1, 0, 0]) 500 := uk hz

def T_law13_ClusterNone_3 (n49 : Int) (t50 : Addr) (w : World) (Kn : Bool → WP) (Kp : KP) : Prop :=
  if ((n49 : Int) == 1) = true then (Kn true w) else (if ((n49 : Int) == 2) = true then (Kn true w) else (∃ x51 : Int, rd w t50 (.int .i64 x51) ∧ Kn ((x51 : Int) != 0) w))

def H_law13_ClusterNone_3 : Env → World → QT → Prop := unitHook 137 (ksOf [11, 43, 44, 45, 46, 47, 48, 49, 50, 51, 52, 53]) [(1, .int .i64 0), (10, .pointer (some ⟨0, 0, none⟩))] (oF (some [(11, .bool false)]) none []) fun l w C => T_law13_ClusterNone_3 (pInt (nv l 0)) (pAddr (nv l 1)) w (fun ok53 => C .normal [.bool ok53]) (fun ch => C (.panic ch) [])

theorem T_law13_ClusterNone_3_ok : UnitOk Tryz.prog H_law13_ClusterNone_3 (at_ (bodyOf Tryz.f3) [1, 1, 1, 1, 1, 1, 1, 0]) 510 := uk hz

def T_law13_ClusterNone_4 (s56 : Addr) (w : World) (Kn : Bool → WP) (Kp : KP) : Prop :=
  ∃ x57 : Int, rd w s56 (.int .i64 x57) ∧ if ((x57 : Int) == 2) = true then (Kn true w) else (∃ x58 : Int, rd w s56 (.int .i64 x58) ∧ if ((x58 : Int) == 3) = true then (Kn true w) else (∃ x59 : Int, rd w s56 (.int .i64 x59) ∧ Kn ((x59 : Int) == 4) w))

def H_law13_ClusterNone_4 : Env → World → QT → Prop := unitHook 137 (ksOf [54, 55, 56, 57, 58, 59, 60, 61, 62, 63, 64, 65, 66]) [(2, .pointer (some ⟨0, 0, none⟩))] (oF (some [(66, .bool false)]) none []) fun l w C => T_law13_ClusterNone_4 (pAddr (nv l 0)) w (fun b61 => C .normal [.bool b61]) (fun ch => C (.panic ch) [])

theorem T_law13_ClusterNone_4_ok : UnitOk Tryz.prog H_law13_ClusterNone_4 (at_ (bodyOf Tryz.f3) [1, 1, 1, 1, 1, 1, 1, 1, 0, 0]) 2044 := uk hz

def T_law13_ClusterNone_5 (t64 : Addr) (ok65 b66 : Bool) (w : World) (Kn : Bool → WP) (Kp : KP) : Prop :=
  if b66 = true then (∃ x67 : Int, rd w t64 (.int .i64 x67) ∧ Kn ((x67 : Int) == 8) w) else (Kn ok65 w)

def H_law13_ClusterNone_5 : Env → World → QT → Prop := unitHook 137 (ksOf [11, 67, 68, 69]) [(10, .pointer (some ⟨0, 0, none⟩)), (11, .bool false), (66, .bool false)] (oF (some [(11, .bool false)]) none []) fun l w C => T_law13_ClusterNone_5 (pAddr (nv l 0)) (pBool (nv l 1)) (pBool (nv l 2)) w (fun ok69 => C .normal [.bool ok69]) (fun ch => C (.panic ch) [])

theorem T_law13_ClusterNone_5_ok : UnitOk Tryz.prog H_law13_ClusterNone_5 (at_ (bodyOf Tryz.f3) [1, 1, 1, 1, 1, 1, 1, 1, 0, 1]) 2045 := uk hz

def T_law13_ClusterNone_6 (s72 : Addr) (w : World) (Kn : Bool → WP) (Kp : KP) : Prop :=
  ∃ x73 : Int, rd w s72 (.int .i64 x73) ∧ if ((x73 : Int) == 5) = true then (Kn true w) else (∃ x74 : Int, rd w s72 (.int .i64 x74) ∧ Kn ((x74 : Int) == 6) w)

def H_law13_ClusterNone_6 : Env → World → QT → Prop := unitHook 137 (ksOf [70, 71, 72, 73, 74, 75, 76, 77]) [(2, .pointer (some ⟨0, 0, none⟩))] (oF (some [(77, .bool false)]) none []) fun l w C => T_law13_ClusterNone_6 (pAddr (nv l 0)) w (fun b76 => C .normal [.bool b76]) (fun ch => C (.panic ch) [])

theorem T_law13_ClusterNone_6_ok : UnitOk Tryz.prog H_law13_ClusterNone_6 (at_ (bodyOf Tryz.f3) [1, 1, 1, 1, 1, 1, 1, 1, 1, 0, 0]) 4092 := uk hz

def T_law13_ClusterNone_7 (ok79 b80 : Bool) (w : World) (Kn : Bool → WP) (Kp : KP) : Prop :=
  if b80 = true then (Kn true w) else (Kn ok79 w)

def H_law13_ClusterNone_7 : Env → World → QT → Prop := unitHook 137 (ksOf [11]) [(11, .bool false), (77, .bool false)] (oF (some [(11, .bool false)]) none []) fun l w C => T_law13_ClusterNone_7 (pBool (nv l 0)) (pBool (nv l 1)) w (fun ok82 => C .normal [.bool ok82]) (fun ch => C (.panic ch) [])

theorem T_law13_ClusterNone_7_ok : UnitOk Tryz.prog H_law13_ClusterNone_7 (at_ (bodyOf Tryz.f3) [1, 1, 1, 1, 1, 1, 1, 1, 1, 0, 1]) 4093 := uk hz

def T_law13_ClusterNone (s1 : Array Value) (n2 : Int) (w : World) (R : ERP) : Prop :=
  let w3 := w.alloc (.cells s1 32)
  Calls Tryz.prog 4 #[.pointer none, .int .i64 n2, .slice none 0 0, .float .f64 0] w3 (ret (fun r4 w5 => ∃ (x6 x7 : Int) (s8 s9 : ByteArray) (x10 : Int), r4 = .tuple #[.agg #[.int .i64 x6, .int .i64 x7, .string s8, .string s9], .int .i64 x10] ∧ let w11 := w5.alloc (.cells #[.int .i64 0, .int .i64 0, .string (ByteArray.mk #[]), .string (ByteArray.mk #[])] 35)
  (.agg #[.int .i64 x6, .int .i64 x7, .string s8, .string s9] : Value).cells.size = 4 ∧ wrOk w11 (⟨w5.heap.size, 0, none⟩ : Addr) (.agg #[.int .i64 x6, .int .i64 x7, .string s8, .string s9]) ∧ let w12 := wr w11 (⟨w5.heap.size, 0, none⟩ : Addr) (.agg #[.int .i64 x6, .int .i64 x7, .string s8, .string s9])
  Calls Tryz.prog 5 #[.int .i64 2, .int .i64 4000] w12 (ret (fun r13 w14 => ∃ (p15 : Option Addr) (x16 : Int), r13 = .tuple #[.pointer p15, .int .i64 x16] ∧ T_law13_ClusterNone_1 (⟨w.heap.size, 0, none⟩ : Addr) p15 x16 w14 (fun b26 w27 => if b26 = true then (T_law13_ClusterNone_2 x16 w27 (fun b34 w35 => R (.returned (.bool b34)) w35) (pan R)) else ((.int .i64 n2 : Value).cells.size = 1 ∧ wrOk w27 ((⟨w.heap.size, 0, none⟩ : Addr).add 1) (.int .i64 n2) ∧ let w36 := wr w27 ((⟨w.heap.size, 0, none⟩ : Addr).add 1) (.int .i64 n2)
  ∃ xs37 : Array Value, xs37.size = 17 ∧ rd w36 (⟨w.heap.size, 0, none⟩ : Addr) (.agg xs37) ∧ Calls Tryz.prog 8 #[.pointer p15, .agg xs37] w36 (ret (fun r38 w39 => ∃ (x40 x41 x42 x43 : Int) (s44a : Option Addr) (s44l s44c : Nat) (s45a : Option Addr) (s45l s45c : Nat) (s46a : Option Addr) (s46l s46c : Nat), r38 = .agg #[.int .i64 x40, .int .i64 x41, .int .i64 x42, .int .i64 x43, .slice s44a s44l s44c, .slice s45a s45l s45c, .slice s46a s46l s46c] ∧ let w47 := w39.alloc (.cells #[.int .i64 0, .int .i64 0, .int .i64 0, .int .i64 0, .slice none 0 0, .slice none 0 0, .slice none 0 0] 48)
  (.agg #[.int .i64 x40, .int .i64 x41, .int .i64 x42, .int .i64 x43, .slice s44a s44l s44c, .slice s45a s45l s45c, .slice s46a s46l s46c] : Value).cells.size = 7 ∧ wrOk w47 (⟨w39.heap.size, 0, none⟩ : Addr) (.agg #[.int .i64 x40, .int .i64 x41, .int .i64 x42, .int .i64 x43, .slice s44a s44l s44c, .slice s45a s45l s45c, .slice s46a s46l s46c]) ∧ let w48 := wr w47 (⟨w39.heap.size, 0, none⟩ : Addr) (.agg #[.int .i64 x40, .int .i64 x41, .int .i64 x42, .int .i64 x43, .slice s44a s44l s44c, .slice s45a s45l s45c, .slice s46a s46l s46c])
  T_law13_ClusterNone_3 n2 (⟨w39.heap.size, 0, none⟩ : Addr) w48 (fun ok54 w55 => T_law13_ClusterNone_4 (⟨w.heap.size, 0, none⟩ : Addr) w55 (fun b62 w63 => T_law13_ClusterNone_5 (⟨w39.heap.size, 0, none⟩ : Addr) ok54 b62 w63 (fun ok70 w71 => T_law13_ClusterNone_6 (⟨w.heap.size, 0, none⟩ : Addr) w71 (fun b77 w78 => T_law13_ClusterNone_7 ok70 b77 w78 (fun ok83 w84 => Calls Tryz.prog 7 #[] w84 (ret (fun r85 w86 => ∃ b87 : Bool, r85 = .bool b87 ∧ if b87 = true then (if ok83 = true then (∃ xs88 : Array Value, xs88.size = 17 ∧ rd w86 (⟨w.heap.size, 0, none⟩ : Addr) (.agg xs88) ∧ Calls Tryz.prog 8 #[.pointer none, .agg xs88] w86 (ret (fun r89 w90 => ∃ (x91 x92 x93 x94 : Int) (s95a : Option Addr) (s95l s95c : Nat) (s96a : Option Addr) (s96l s96c : Nat) (s97a : Option Addr) (s97l s97c : Nat), r89 = .agg #[.int .i64 x91, .int .i64 x92, .int .i64 x93, .int .i64 x94, .slice s95a s95l s95c, .slice s96a s96l s96c, .slice s97a s97l s97c] ∧ if ((x91 : Int) == 1) = true then (∃ xs98 : Array Value, xs98.size = 17 ∧ rd w90 (⟨w.heap.size, 0, none⟩ : Addr) (.agg xs98) ∧ Calls Tryz.prog 8 #[.pointer none, .agg xs98] w90 (ret (fun r99 w100 => ∃ (x101 x102 x103 x104 : Int) (s105a : Option Addr) (s105l s105c : Nat) (s106a : Option Addr) (s106l s106c : Nat) (s107a : Option Addr) (s107l s107c : Nat), r99 = .agg #[.int .i64 x101, .int .i64 x102, .int .i64 x103, .int .i64 x104, .slice s105a s105l s105c, .slice s106a s106l s106c, .slice s107a s107l s107c] ∧ Calls Tryz.prog 9 #[.slice s105a s105l s105c, .slice none 0 0] w100 (ret (fun r108 w109 => ∃ b110 : Bool, r108 = .bool b110 ∧ if b110 = true then (Calls Tryz.prog 10 #[.pointer none] w109 (ret (fun r111 w112 => ∃ x113 : Int, r111 = .int .i64 x113 ∧ if ((x113 : Int) == 0) = true then (Calls Tryz.prog 11 #[.pointer none, .int .i64 n2] w112 (ret (fun r114 w115 => ∃ b116 : Bool, r114 = .bool b116 ∧ if (!b116) = true then (Calls Tryz.prog 12 #[.pointer none, .int .i64 n2] w115 (ret (fun r117 w118 => ∃ x119 : Int, r117 = .int .i64 x119 ∧ if ((x119 : Int) == 0) = true then (Calls Tryz.prog 13 #[.pointer none, .int .i64 n2, .int .i64 n2, .int .i64 n2] w118 (ret (fun r120 w121 => ∃ (s122a : Option Addr) (s122l s122c : Nat), r120 = .slice s122a s122l s122c ∧ if ((s122l : Int) == 0) = true then (if ((x10 : Int) == 1) = true then (∃ (x123 x124 : Int) (s125 s126 : ByteArray), rd w121 (⟨w5.heap.size, 0, none⟩ : Addr) (.agg #[.int .i64 x123, .int .i64 x124, .string s125, .string s126]) ∧ runV Tryz.prog (do eqGuard .eql 35 (.tmp 127) (.tmp 128) (.agg #[.int .i64 x123, .int .i64 x124, .string s125, .string s126]) (.agg #[.int .i64 0, .int .i64 0, .string (ByteArray.mk #[]), .string (ByteArray.mk #[])]); binOp .eql 35 (.agg #[.int .i64 x123, .int .i64 x124, .string s125, .string s126]) (.agg #[.int .i64 0, .int .i64 0, .string (ByteArray.mk #[]), .string (ByteArray.mk #[])])) w121 (fun r127 w128 => ∃ b129 : Bool, r127 = .bool b129 ∧ if b129 = true then (Calls Tryz.prog 14 #[.pointer none] w128 (ret (fun r130 w131 => ∃ (s132a : Option Addr) (s132l s132c : Nat), r130 = .slice s132a s132l s132c ∧ R (.returned (.bool ((s132l : Int) == 0))) w131) (pan R))) else (R (.returned (.bool false)) w128)) (pan R)) else (R (.returned (.bool false)) w121)) else (R (.returned (.bool false)) w121)) (pan R))) else (R (.returned (.bool false)) w118)) (pan R))) else (R (.returned (.bool false)) w115)) (pan R))) else (R (.returned (.bool false)) w112)) (pan R))) else (R (.returned (.bool false)) w109)) (pan R))) (pan R))) else (R (.returned (.bool false)) w90)) (pan R))) else (R (.returned (.bool false)) w86)) else (R (.returned (.bool false)) w86)) (pan R))) (pan R)) (pan R)) (pan R)) (pan R)) (pan R)) (pan R)))) (pan R)) (pan R))) (pan R))

theorem C_law13_ClusterNone {s1 : Array Value} {n2 : Int} (h : T_law13_ClusterNone s1 n2 w R) : Calls Tryz.prog 3 #[.agg s1, .int .i64 n2] w R := cc mixed Tryz.func3 (hA (H := hookAt [(124, H_law13_ClusterNone_1), (500, H_law13_ClusterNone_2), (510, H_law13_ClusterNone_3), (2044, H_law13_ClusterNone_4), (2045, H_law13_ClusterNone_5), (4092, H_law13_ClusterNone_6), (4093, H_law13_ClusterNone_7)]) (hc T_law13_ClusterNone_1_ok (hc T_law13_ClusterNone_2_ok (hc T_law13_ClusterNone_3_ok (hc T_law13_ClusterNone_4_ok (hc T_law13_ClusterNone_5_ok (hc T_law13_ClusterNone_6_ok (hc T_law13_ClusterNone_7_ok hn)))))))) h

/-! tollgate/tollgateref12.SameDone -/
def T_ref12_SameDone_1_body (X : Int → WP) (i3 : Int) (a4a : Option Addr) (a4l a4c : Nat) (b5a : Option Addr) (b5l b5c : Nat) (w : World) (Kn : WP) (Kr : Bool → WP) (Kp : KP) : Prop :=
  if (decide ((i3 : Int) < (a4l : Int))) = true then (let w6 := w.drew
  0 ≤ (i3 : Int) ∧ (i3 : Int) < (a4l : Int) ∧ ∃ b7, a4a = some b7 ∧ ∃ (x8 x9 x10 x11 : Int), rd w6 (b7.add ((i3 : Int).toNat * 4)) (.agg #[.int .i64 x8, .int .i64 x9, .int .i64 x10, .int .i64 x11]) ∧ 0 ≤ (i3 : Int) ∧ (i3 : Int) < (b5l : Int) ∧ ∃ b12, b5a = some b12 ∧ ∃ (x13 x14 x15 x16 : Int), rd w6 (b12.add ((i3 : Int).toNat * 4)) (.agg #[.int .i64 x13, .int .i64 x14, .int .i64 x15, .int .i64 x16]) ∧ runV Tryz.prog (do eqGuard .neq 80 (.tmp 20) (.tmp 24) (.agg #[.int .i64 x8, .int .i64 x9, .int .i64 x10, .int .i64 x11]) (.agg #[.int .i64 x13, .int .i64 x14, .int .i64 x15, .int .i64 x16]); binOp .neq 80 (.agg #[.int .i64 x8, .int .i64 x9, .int .i64 x10, .int .i64 x11]) (.agg #[.int .i64 x13, .int .i64 x14, .int .i64 x15, .int .i64 x16])) w6 (fun r17 w18 => ∃ b19 : Bool, r17 = .bool b19 ∧ (True) ∧ if b19 = true then (Kr false w18) else (X (IntKind.wrap .i64 ((i3 : Int) + 1)) w18)) Kp) else (Kn  w)

def T_ref12_SameDone_1 (i3 : Int) (a4a : Option Addr) (a4l a4c : Nat) (b5a : Option Addr) (b5l b5c : Nat) (w : World) (Kn : WP) (Kr : Bool → WP) (Kp : KP) : Prop :=
  ∀ X : Int → WP, (∀ (i3 : Int) (w : World), T_ref12_SameDone_1_body X i3 a4a a4l a4c b5a b5l b5c w Kn Kr Kp → X i3 w) → X i3 w

def H_ref12_SameDone_1 : Env → World → QT → Prop := unitHook 26 (ksOf [4, 5, 11, 12, 13, 14, 15, 16, 17, 18, 19, 20, 21, 22, 23, 24, 25]) ([(5, .int .i64 0)] ++ [(0, .slice none 0 0), (1, .slice none 0 0)]) (oF (some []) (some [(4, .bool false)]) []) fun l w C => T_ref12_SameDone_1 (pInt (nv l 0)) (pA (nv l 1)) (pL (nv l 1)) (pC (nv l 1)) (pA (nv l 2)) (pL (nv l 2)) (pC (nv l 2)) w (C .normal []) (fun b21 => C .ret [.bool b21]) (fun ch => C (.panic ch) [])

theorem T_ref12_SameDone_1_ok : UnitOk Tryz.prog H_ref12_SameDone_1 (at_ (bodyOf Tryz.f9) [1, 1, 0, 1]) 29 := lk 0 (B := fun C X l u w => T_ref12_SameDone_1_body (fun i3 => X [.int .i64 i3]) (pInt (nv l 0)) (pA (nv u 0)) (pL (nv u 0)) (pC (nv u 0)) (pA (nv u 1)) (pL (nv u 1)) (pC (nv u 1)) w (C .normal []) (fun b22 => C .ret [.bool b22]) (fun ch => C (.panic ch) [])) hz (fun l u w C => ⟨fun h X hX => h (fun i3 => X [.int .i64 i3]) fun i3 w hb => hX [.int .i64 i3] w hb, fun h X hX => h (fun l w => X (pInt (nv l 0)) w) fun l w hb => hX (pInt (nv l 0)) w hb⟩)

def T_ref12_SameDone (a1a : Option Addr) (a1l a1c : Nat) (b2a : Option Addr) (b2l b2c : Nat) (w : World) (R : ERP) : Prop :=
  if ((a1l : Int) != (b2l : Int)) = true then (R (.returned (.bool false)) w) else (T_ref12_SameDone_1 0 a1a a1l a1c b2a b2l b2c w (fun w23 => R (.returned (.bool true)) w23) (fun b24 w25 => R (.returned (.bool b24)) w25) (pan R))

theorem C_ref12_SameDone {a1a : Option Addr} {a1l a1c : Nat} {b2a : Option Addr} {b2l b2c : Nat} (h : T_ref12_SameDone a1a a1l a1c b2a b2l b2c w R) : Calls Tryz.prog 9 #[.slice a1a a1l a1c, .slice b2a b2l b2c] w R := cc mixed Tryz.func9 (hA (H := hookAt [(29, H_ref12_SameDone_1)]) (hc T_ref12_SameDone_1_ok hn)) h

end Go.Proofs.YtaocnfjhfmapkaaGreatDoor

/-
  The cluster's first look: true.
-/
namespace Go.Ev
open Go Go.Vc Go.RowKit Go.Proofs.YtaocnfjhfmapkaaGreatDoor Go.Proofs
set_option maxRecDepth 1000000
section
variable {E w : World} {φ : Phi} {b δ : Nat}
/-- The cluster's memory is the k-th state; the cluster is block b. -/
def SK (E : World) (b k : Nat) (w : World) : Prop := ∃ φ δ, HR φ E (mOf (kS k) (kS k).length) w ∧ φ 1 = some (b, δ)
theorem pieceK {g : Nat} {args vs : List Value} {v : (Nat → Nat) → Value → Bool} {k k' : Nat} (h : goK (keptK v) (kS k') (kT k') (kstp g args k) = true) (hb : hasBody Tryz.prog g = true) (hs : SK E b k w) (hv : ∀ φ δ, φ 1 = some (b, δ) → VRL φ args vs) :
    Calls Tryz.prog g ⟨vs⟩ w fun e w' => ∃ u, e = .returned u ∧ (∃ x ψ σ, v σ x = true ∧ VR ψ x u) ∧ SK E b k' w' := by
  obtain ⟨φ, δ, hr, h1⟩ := hs
  refine (goK_ok (P := Tryz.prog) mixed (fs_fine E) h hb (hv φ δ h1) hr).mono fun e w' ⟨u, he, x, ψ, σ, hl, hx, hu, hr'⟩ => ?_
  simp only [keptK, Bool.and_eq_true] at hx
  exact ⟨u, he, ⟨x, ψ, σ, hx.2, hu⟩, _, δ, hr', by rw [Nat.eq_of_beq_eq_true hx.1]; exact hl _ _ h1⟩
theorem sl_len {φ : Phi} {a : Option Addr} {l c : Nat} {v : Value} (k : VR φ (.slice a l c) v) : ∃ a' c', v = .slice a' l c' := by
  cases a with
  | none => exact ⟨_, _, k.sl_none⟩
  | some a =>
    rcases k.sl_ with ⟨x, δ, _, ⟨_, rfl⟩ | ⟨_, rfl⟩⟩ | ⟨_, hl, _, a', c', rfl⟩
    · exact ⟨_, _, rfl⟩
    · exact ⟨_, _, rfl⟩
    · subst hl; exact ⟨_, _, rfl⟩
theorem ktold_of {φ : Phi} {x u : Value} (h : isTold x = true) (hu : VR φ x u) : ∃ x1 x2 x3 x4 : Int, ∃ a1 l1 c1 a2 l2 c2 a3 l3 c3, u = .agg #[.int .i64 x1, .int .i64 x2, .int .i64 x3, .int .i64 x4, .slice a1 l1 c1, .slice a2 l2 c2, .slice a3 l3 c3] := by
  unfold isTold at h
  split at h
  · rename_i a x1 b x2 c x3 d x4 a1 l1 c1 a2 l2 c2 a3 l3 c3
    simp only [Bool.and_eq_true] at h
    obtain ⟨h1, h2, h3, h4⟩ := h
    have e1 := isK_eq h1
    have e2 := isK_eq h2
    have e3 := isK_eq h3
    have e4 := isK_eq h4
    subst e1 e2 e3 e4
    obtain ⟨ds, rfl, k⟩ := hu.agg_
    cases k with | cons k1 k => cases k with | cons k2 k => cases k with | cons k3 k => cases k with | cons k4 k => cases k with | cons k5 k => cases k with | cons k6 k => cases k with | cons k7 k => cases k with | nil =>
    obtain ⟨_, _, rfl⟩ := sl_len k5
    obtain ⟨_, _, rfl⟩ := sl_len k6
    obtain ⟨_, _, rfl⟩ := sl_len k7
    rw [k1.flat_eq rfl, k2.flat_eq rfl, k3.flat_eq rfl, k4.flat_eq rfl]
    exact ⟨_, _, _, _, _, _, _, _, _, _, _, _, _, rfl⟩
  · cases h
theorem ksl_of {φ : Phi} {n : Nat} {x u : Value} (h : isSl n x = true) (hu : VR φ x u) : ∃ a c, u = .slice a n c := by
  unfold isSl at h
  split at h
  · rename_i a l c
    have := Nat.eq_of_beq_eq_true h
    subst this
    exact sl_len hu
  · cases h
theorem kflat_of {φ : Phi} {y x u : Value} (h : eqV x y = true) (hf : flat y = true) (hu : VR φ x u) : u = y := by
  have := eqV_eq h
  subst this
  exact hu.flat_eq hf
theorem kSt_flat (k n : Int) : flat (kSt k n) = true := rfl
theorem ltick_ok {k : Nat} (hk : k < 13) : goK (keptK fun _ x => isTold x) (kS (k + 2)) (kT (k + 2)) (kstp 8 [j1, kSt 1 1] (k + 1)) = true := by
  have : k = 0 ∨ k = 1 ∨ k = 2 ∨ k = 3 ∨ k = 4 ∨ k = 5 ∨ k = 6 ∨ k = 7 ∨ k = 8 ∨ k = 9 ∨ k = 10 ∨ k = 11 ∨ k = 12 := by omega
  rcases this with rfl | rfl | rfl | rfl | rfl | rfl | rfl | rfl | rfl | rfl | rfl | rfl | rfl
  · exact ltick_run0
  · exact ltick_run1
  · exact ltick_run2
  · exact ltick_run3
  · exact ltick_run4
  · exact ltick_run5
  · exact ltick_run6
  · exact ltick_run7
  · exact ltick_run8
  · exact ltick_run9
  · exact ltick_run10
  · exact ltick_run11
  · exact ltick_run12
theorem ptrStep {k n : Int} : ∀ (φ : Phi) (δ : Nat), φ 1 = some (b, δ) → VRL φ [j1, kSt k n] [.pointer (some ⟨b, 0, none⟩), kSt k n] := fun _ _ h => .cons (.ptr h) (.cons (.flat (kSt_flat k n)) .nil)
theorem ptrInt {k : Int} : ∀ (φ : Phi) (δ : Nat), φ 1 = some (b, δ) → VRL φ [j1, .int .i64 k] [.pointer (some ⟨b, 0, none⟩), .int .i64 k] := fun _ _ h => .cons (.ptr h) (.cons (.flat rfl) .nil)
theorem ptrOnly : ∀ (φ : Phi) (δ : Nat), φ 1 = some (b, δ) → VRL φ [j1] [.pointer (some ⟨b, 0, none⟩)] := fun _ _ h => .cons (.ptr h) .nil
theorem lloop_ok {Kn : World → Prop} {Kp : List PanicEntry → World → Prop} (h : SK E b 1 w) (k : ∀ w', SK E b 14 w' → Kn w') : T_law13_live_2 0 (some ⟨b, 0, none⟩) w Kn Kp := by
  unfold T_law13_live_2
  intro X hX
  have go : ∀ (m j : Nat) (w : World), m + j = 13 → SK E b (j + 1) w → X (j : Int) w := by
    intro m
    induction m with
    | zero =>
      intro j w hj h
      refine hX _ _ ?_
      unfold T_law13_live_2_body
      have : j = 13 := by omega
      subst this
      exact ite_d (fun hh => absurd hh (by omega)) fun _ => k _ h
    | succ m ih =>
      intro j w hj h
      refine hX _ _ ?_
      unfold T_law13_live_2_body
      refine ite_d (fun _ => ?_) fun hh => absurd hh (by omega)
      refine (pieceK (ltick_ok (k := j) (by omega)) (by kernel_rfl) h ptrStep).mono fun e w' ⟨u, he, ⟨x, ψ, σ, hx, hu⟩, h'⟩ => ?_
      subst he
      obtain ⟨x1, x2, x3, x4, a1, l1, c1, a2, l2, c2, a3, l3, c3, rfl⟩ := ktold_of hx hu
      refine ⟨_, _, _, _, _, _, _, _, _, _, _, _, _, rfl, ?_⟩
      rw [show ((j : Int) + 1) = ((j + 1 : Nat) : Int) from by omega, show IntKind.wrap .i64 ((j + 1 : Nat) : Int) = ((j + 1 : Nat) : Int) from Go.Vc.wrap_id (by omega) (by omega)]
      exact ih (j + 1) w' (by omega) h'
  exact go 13 0 w rfl h
theorem lfrm_look : (mOf (kS 20) (kS 20).length).get 0 false isFrm = true := by kernel_rfl
theorem clive_true (w : World) : Calls Tryz.prog 7 #[] w fun e w' => e = .returned (.bool true) ∧ St w [old w] w' := by
  refine C_law13_live ?_
  unfold T_law13_live
  refine (goK_ok (P := Tryz.prog) mixed (fs_fine w) lnew_run (by kernel_rfl) (vs := [.int .i64 3, .int .i64 65536]) (.cons (.flat rfl) (.cons (.flat rfl) .nil)) (HR.start w)).mono fun e w2 ⟨u, he, x, ψ, σ, _, hx, hu, hr⟩ => ?_
  subst he
  obtain ⟨ds, rfl, kd⟩ := (eqR_ok hx hu).tup_
  cases kd with | cons k1 kd => cases kd with | cons k2 kd => cases kd with | nil =>
  obtain ⟨b, δ, h1, _, rfl⟩ := k1.ptr_
  rw [k2.flat_eq rfl]
  have s1 : SK w b 1 w2 := ⟨_, _, hr, h1⟩
  refine ⟨_, _, rfl, ?_⟩
  unfold T_law13_live_1
  refine ite_b (fun hh => absurd hh (by decide)) fun _ => ite_b (fun hh => by cases hh) fun _ => ?_
  refine lloop_ok s1 fun w22 s2 => ?_
  refine (pieceK lcrash_run (by kernel_rfl) s2 ptrStep).mono fun e w24 ⟨u, he, ⟨x, ψ, σ, hx, hu⟩, s3⟩ => ?_
  subst he
  have := kflat_of hx rfl hu
  subst this
  refine ⟨_, _, _, _, _, _, _, _, _, _, _, _, _, rfl, ?_⟩
  refine (pieceK lunder_run (by kernel_rfl) s3 ptrOnly).mono fun e w33 ⟨u, he, ⟨x, ψ, σ, hx, hu⟩, s4⟩ => ?_
  subst he
  obtain ⟨a, c, rfl⟩ := ksl_of hx hu
  refine ⟨_, _, _, rfl, ?_⟩
  refine (pieceK ldeliver_run (by kernel_rfl) s4 ptrStep).mono fun e w36 ⟨u, he, ⟨x, ψ, σ, hx, hu⟩, s5⟩ => ?_
  subst he
  have := kflat_of hx rfl hu
  subst this
  refine ⟨_, _, _, _, _, _, _, _, _, _, _, _, _, rfl, ?_⟩
  obtain ⟨φ, δ, hr, h1⟩ := s5
  have q := hr.st.alloc (.cells ⟨[.int .i64 0, .int .i64 0, .int .i64 0, .int .i64 0, .slice none 0 0, .slice none 0 0, .slice none 0 0]⟩ 48)
  have q2 := St.wr_agg0 (xs := [.int .i64 10, .int .i64 2, .int .i64 0, .int .i64 0, .slice none 0 0, .slice none 0 0, .slice none 0 0]) q rfl
  refine ⟨rfl, wrOk_agg q.at_blk (by decide) (fun u hu => List.all_eq_true.1 (rfl : List.all _ one = true) u hu), ?_⟩
  have s6 : SK w b 17 _ := ⟨φ, δ, ⟨q2.drop, hr.fresh⟩, h1⟩
  refine ite_b (fun _ => ite_b (fun _ => ?_) fun hh => absurd hh (by decide)) fun hh => absurd hh (by decide)
  refine ⟨10, rd_fld (k := 0) q2.at_blk rfl rfl, ite_b (fun _ => ?_) fun hh => absurd hh (by decide)⟩
  refine ⟨2, rd_fld (k := 1) q2.at_blk rfl rfl, ite_b (fun _ => ?_) fun hh => absurd hh (by decide)⟩
  refine (pieceK lup2_run (by kernel_rfl) s6 ptrInt).mono fun e w49 ⟨u, he, ⟨x, ψ, σ, hx, hu⟩, s7⟩ => ?_
  subst he
  have := kflat_of hx rfl hu
  subst this
  refine ⟨_, rfl, ite_b (fun _ => ?_) fun hh => absurd hh (by decide)⟩
  refine (pieceK lup3_run (by kernel_rfl) s7 ptrInt).mono fun e w52 ⟨u, he, ⟨x, ψ, σ, hx, hu⟩, s8⟩ => ?_
  subst he
  have := kflat_of hx rfl hu
  subst this
  refine ⟨_, rfl, ite_b (fun _ => ?_) fun hh => absurd hh (by decide)⟩
  refine (pieceK lnodes_run (by kernel_rfl) s8 ptrOnly).mono fun e w55 ⟨u, he, ⟨x, ψ, σ, hx, hu⟩, ⟨_, _, hr9, _⟩⟩ => ?_
  subst he
  have := kflat_of hx rfl hu
  subst this
  exact ⟨_, rfl, rfl, frm_kept hr9 lfrm_look⟩
end
end Go.Ev

/-
  Calls on a nil node: closed runs whose other arguments stand for anything.
-/
namespace Go.Ev
open Go Go.Vc Go.RowKit Go.Proofs.YtaocnfjhfmapkaaGreatDoor Go.Proofs
set_option maxRecDepth 1000000
noncomputable def okV (v : Value) (r : Res) : Bool := match r with | some l => l.all fun p => eqV p.1 v && p.2.get 0 false isFrm | none => false
theorem closedA {g : Nat} {args vs : List Value} {v : Value} (h : okV v (callN ⟨Tryz.prog, tyT Tryz.prog, fs0⟩ 100 g args m0) = true) (hb : hasBody Tryz.prog g = true) (hf : flat v = true) (hv : VRL (fun _ => none) args vs) (w : World) : Calls Tryz.prog g ⟨vs⟩ w fun e w' => e = .returned v ∧ St w [old w] w' := by
  unfold okV at h
  split at h
  · rename_i l hl
    have := callN_ok (E := w) mixed (fs_fine w) 100 (fun _ => none) g args vs m0 w l hl hv (HR.start w)
    unfold Out at this
    rw [run_callFunc hb] at this
    refine Calls.mono this fun e w' he => ?_
    cases e with
    | returned u =>
      obtain ⟨p, hp, ψ, _, hv, hmr⟩ := he
      have hb := List.all_eq_true.1 h p hp
      simp only [Bool.and_eq_true] at hb
      have e1 := eqV_eq hb.1
      rw [e1] at hv
      have e2 := hv.flat_eq hf
      exact ⟨by rw [e2], frm_kept hmr hb.2⟩
    | panicked ch => exact he.elim
    | outgrown => exact he.elim
  · cases h
theorem same_call {E w : World} {L : List Asrt} {g : Nat} {args : Array Value} {v : Value} {R : Ending → World → Prop} (hc : Calls Tryz.prog g args w fun e w' => e = .returned v ∧ St w [old w] w') (h : St E L w) (k : ∀ w', St E L w' → R (.returned v) w') : Calls Tryz.prog g args w R :=
  hc.mono fun e w' ⟨he, hs⟩ => by
    subst he
    exact k w' (h.same hs.1 fun c hc => by rw [hs.at_old (Array.getElem?_eq_getElem hc), Array.getElem?_eq_getElem hc])
abbrev an : Value := .chan (some 0)
end Go.Ev

/-
  What a nil cluster tells.
-/
namespace Go.Ev
open Go Go.Vc Go.RowKit Go.Proofs.YtaocnfjhfmapkaaGreatDoor Go.Proofs
set_option maxRecDepth 1000000
abbrev cans : Nat → List Value
  | 0 => []
  | n + 1 => an :: cans n
theorem VRL.ctops {φ : Phi} : ∀ {l : List Value}, (∀ v ∈ l, one v = true) → VRL φ (cans l.length) l
  | [], _ => .nil
  | v :: r, h => .cons (.top (Tops.any (h v List.mem_cons_self))) (VRL.ctops fun u hu => h u (List.mem_cons_of_mem _ hu))
abbrev ctold : Value := .agg #[.int .i64 1, .int .i64 0, .int .i64 0, .int .i64 0, .slice none 0 0, .slice none 0 0, .slice none 0 0]
abbrev cserve : Value := .tuple ⟨[.agg ⟨[.int .i64 0, .int .i64 0, .string ⟨#[]⟩, .string ⟨#[]⟩]⟩, .int .i64 1]⟩
theorem cdo0_run : okV ctold (callN ⟨Tryz.prog, tyT Tryz.prog, fs0⟩ 100 8 [.pointer none, .agg ⟨cans 17⟩] m0) = true := by kernel_rfl
theorem cserve0_run : okV cserve (callN ⟨Tryz.prog, tyT Tryz.prog, fs0⟩ 100 4 [.pointer none, an, .slice none 0 0, .float .f64 0] m0) = true := by kernel_rfl
theorem csame0_run : okV (.bool true) (callN ⟨Tryz.prog, tyT Tryz.prog, fs0⟩ 100 9 [.slice none 0 0, .slice none 0 0] m0) = true := by kernel_rfl
theorem cnodes0_run : okV (.int .i64 0) (callN ⟨Tryz.prog, tyT Tryz.prog, fs0⟩ 100 10 [.pointer none] m0) = true := by kernel_rfl
theorem cup0_run : okV (.bool false) (callN ⟨Tryz.prog, tyT Tryz.prog, fs0⟩ 100 11 [.pointer none, an] m0) = true := by kernel_rfl
theorem capp0_run : okV (.int .i64 0) (callN ⟨Tryz.prog, tyT Tryz.prog, fs0⟩ 100 12 [.pointer none, an] m0) = true := by kernel_rfl
theorem cent0_run : okV (.slice none 0 0) (callN ⟨Tryz.prog, tyT Tryz.prog, fs0⟩ 100 13 [.pointer none, an, an, an] m0) = true := by kernel_rfl
theorem cund0_run : okV (.slice none 0 0) (callN ⟨Tryz.prog, tyT Tryz.prog, fs0⟩ 100 14 [.pointer none] m0) = true := by kernel_rfl
theorem cdo_nil {s : List Value} (hl : s.length = 17) (h1 : ∀ v ∈ s, one v = true) (w : World) : Calls Tryz.prog 8 #[.pointer none, .agg ⟨s⟩] w fun e w' => e = .returned ctold ∧ St w [old w] w' :=
  closedA cdo0_run (by kernel_rfl) rfl (.cons (.flat rfl) (.cons (.agg (by have := VRL.ctops (φ := fun _ => none) h1; rwa [hl] at this)) .nil)) w
theorem cserve_nil (n : Int) (w : World) : Calls Tryz.prog 4 #[.pointer none, .int .i64 n, .slice none 0 0, .float .f64 0] w fun e w' => e = .returned cserve ∧ St w [old w] w' :=
  closedA cserve0_run (by kernel_rfl) rfl (.cons (.flat rfl) (.cons (.top (Tops.any rfl)) (.cons (.flat rfl) (.cons (.flat rfl) .nil)))) w
theorem csame_nil (w : World) : Calls Tryz.prog 9 #[.slice none 0 0, .slice none 0 0] w fun e w' => e = .returned (.bool true) ∧ St w [old w] w' := closedA csame0_run (by kernel_rfl) rfl (.cons (.flat rfl) (.cons (.flat rfl) .nil)) w
theorem cnodes_nil (w : World) : Calls Tryz.prog 10 #[.pointer none] w fun e w' => e = .returned (.int .i64 0) ∧ St w [old w] w' := closedA cnodes0_run (by kernel_rfl) rfl (.cons (.flat rfl) .nil) w
theorem cup_nil (n : Int) (w : World) : Calls Tryz.prog 11 #[.pointer none, .int .i64 n] w fun e w' => e = .returned (.bool false) ∧ St w [old w] w' := closedA cup0_run (by kernel_rfl) rfl (.cons (.flat rfl) (.cons (.top (Tops.any rfl)) .nil)) w
theorem capp_nil (n : Int) (w : World) : Calls Tryz.prog 12 #[.pointer none, .int .i64 n] w fun e w' => e = .returned (.int .i64 0) ∧ St w [old w] w' := closedA capp0_run (by kernel_rfl) rfl (.cons (.flat rfl) (.cons (.top (Tops.any rfl)) .nil)) w
theorem cent_nil (a b c : Int) (w : World) : Calls Tryz.prog 13 #[.pointer none, .int .i64 a, .int .i64 b, .int .i64 c] w fun e w' => e = .returned (.slice none 0 0) ∧ St w [old w] w' := closedA cent0_run (by kernel_rfl) rfl (.cons (.flat rfl) (.cons (.top (Tops.any rfl)) (.cons (.top (Tops.any rfl)) (.cons (.top (Tops.any rfl)) .nil)))) w
theorem cund_nil (w : World) : Calls Tryz.prog 14 #[.pointer none] w fun e w' => e = .returned (.slice none 0 0) ∧ St w [old w] w' := closedA cund0_run (by kernel_rfl) rfl (.cons (.flat rfl) .nil) w
end Go.Ev

/-
  What the functions' code comes to; printed by a program of this claim's own.
-/
namespace Go.Proofs.YtaocnfjhfmapkaaGreatDoor
open Go Go.Vc
set_option maxRecDepth 100000
set_option linter.unusedVariables false
variable {w : World} {R : ERP}

/-! tollgate/conf.small -/
def T_conf_small (c1 : Int) (w : World) (R : ERP) : Prop :=
  if (decide ((c1 : Int) ≥ 97)) = true then (if (decide ((c1 : Int) ≤ 122)) = true then (R (.returned (.bool true)) w) else (if (decide ((c1 : Int) ≥ 48)) = true then (if (decide ((c1 : Int) ≤ 57)) = true then (R (.returned (.bool true)) w) else (R (.returned (.bool ((c1 : Int) == 45))) w)) else (R (.returned (.bool ((c1 : Int) == 45))) w))) else (if (decide ((c1 : Int) ≥ 48)) = true then (if (decide ((c1 : Int) ≤ 57)) = true then (R (.returned (.bool true)) w) else (R (.returned (.bool ((c1 : Int) == 45))) w)) else (R (.returned (.bool ((c1 : Int) == 45))) w))

theorem C_conf_small {c1 : Int} (h : T_conf_small c1 w R) : Calls Tryz.prog 167 #[.int .u8 c1] w R := cc mixed Tryz.func167 hz h

/-! tollgate/conf.each -/
def T_conf_each_1_body (X : Int → WP) (x4 : Int) (s5 : ByteArray) (such6g : FuncId) (such6i such6c : Array Value) (x7 : Int) (w : World) (Kn : WP) (Kr : Bool → WP) (Kp : KP) : Prop :=
  if (decide ((x4 : Int) < x7)) = true then (0 ≤ (x4 : Int) ∧ ∃ c8, s5[(x4 : Int).toNat]? = some c8 ∧ hasBody Tryz.prog such6g = true ∧ Calls Tryz.prog such6g ⟨such6i.toList ++ ([.int .u8 (c8.toNat : Int)] ++ such6c.toList)⟩ w (ret (fun r9 w10 => ∃ b11 : Bool, r9 = .bool b11 ∧ if (!b11) = true then (Kr false w10) else (X (IntKind.wrap .i64 ((x4 : Int) + 1)) w10)) Kp)) else (Kn  w)

def T_conf_each_1 (x4 : Int) (s5 : ByteArray) (such6g : FuncId) (such6i such6c : Array Value) (x7 : Int) (w : World) (Kn : WP) (Kr : Bool → WP) (Kp : KP) : Prop :=
  ∀ X : Int → WP, (∀ (x4 : Int) (w : World), T_conf_each_1_body X x4 s5 such6g such6i such6c x7 w Kn Kr Kp → X x4 w) → X x4 w

def H_conf_each_1 : Env → World → QT → Prop := unitHook 29 (ksOf [6, 7, 10, 11, 12, 13, 14, 15, 16, 17, 18, 19]) ([(10, .int .i64 0)] ++ [(0, .string default), (2, .func (.func 0) #[] #[]), (9, .int .i64 0)]) (oF (some []) (some [(6, .bool false)]) []) fun l w C => T_conf_each_1 (pInt (nv l 0)) (pStr (nv l 1)) (pFn (nv l 2)) (pFi (nv l 2)) (pCa (nv l 2)) (pInt (nv l 3)) w (C .normal []) (fun b13 => C .ret [.bool b13]) (fun ch => C (.panic ch) [])

theorem T_conf_each_1_ok : UnitOk Tryz.prog H_conf_each_1 (at_ (bodyOf Tryz.f166) [1, 0, 1]) 13 := lk 0 (B := fun C X l u w => T_conf_each_1_body (fun x4 => X [.int .i64 x4]) (pInt (nv l 0)) (pStr (nv u 0)) (pFn (nv u 1)) (pFi (nv u 1)) (pCa (nv u 1)) (pInt (nv u 2)) w (C .normal []) (fun b14 => C .ret [.bool b14]) (fun ch => C (.panic ch) [])) hz (fun l u w C => ⟨fun h X hX => h (fun x4 => X [.int .i64 x4]) fun x4 w hb => hX [.int .i64 x4] w hb, fun h X hX => h (fun l w => X (pInt (nv l 0)) w) fun l w hb => hX (pInt (nv l 0)) w hb⟩)

def T_conf_each (s1 : ByteArray) (most2 : Int) (such3g : FuncId) (such3i such3c : Array Value) (w : World) (R : ERP) : Prop :=
  T_conf_each_1 0 s1 such3g such3i such3c (s1.size : Int) w (fun w15 => if (decide ((s1.size : Int) > 0)) = true then (R (.returned (.bool (decide ((s1.size : Int) ≤ most2)))) w15) else (R (.returned (.bool false)) w15)) (fun b16 w17 => R (.returned (.bool b16)) w17) (pan R)

theorem C_conf_each {s1 : ByteArray} {most2 : Int} {such3g : FuncId} {such3i such3c : Array Value} (h : T_conf_each s1 most2 such3g such3i such3c w R) : Calls Tryz.prog 166 #[.string s1, .int .i64 most2, .func (.func such3g) such3i such3c] w R := cc mixed Tryz.func166 (hA (H := hookAt [(13, H_conf_each_1)]) (hc T_conf_each_1_ok hn)) h

/-! tollgate/conf.prefix$1 -/
def T_conf_prefix_c1 (c1 : Int) (w : World) (R : ERP) : Prop :=
  if (decide ((c1 : Int) > 32)) = true then (if (decide ((c1 : Int) < 127)) = true then (if ((c1 : Int) != 63) = true then (R (.returned (.bool ((c1 : Int) != 35))) w) else (R (.returned (.bool false)) w)) else (R (.returned (.bool false)) w)) else (R (.returned (.bool false)) w)

theorem C_conf_prefix_c1 {c1 : Int} (h : T_conf_prefix_c1 c1 w R) : Calls Tryz.prog 171 #[.int .u8 c1] w R := cc mixed Tryz.func171 hz h

/-! tollgate/conf.address$1 -/
def T_conf_address_c1 (c1 : Int) (w : World) (R : ERP) : Prop :=
  if (decide ((c1 : Int) > 32)) = true then (R (.returned (.bool (decide ((c1 : Int) < 127)))) w) else (R (.returned (.bool false)) w)

theorem C_conf_address_c1 {c1 : Int} (h : T_conf_address_c1 c1 w R) : Calls Tryz.prog 225 #[.int .u8 c1] w R := cc mixed Tryz.func225 hz h

/-! tollgate/conf.host$1 -/
def T_conf_host_c1 (c1 : Int) (cap2 : Addr) (w : World) (R : ERP) : Prop :=
  ∃ b3 : Bool, rd w cap2 (.bool b3) ∧ (.bool ((c1 : Int) == 46) : Value).cells.size = 1 ∧ wrOk w cap2 (.bool ((c1 : Int) == 46)) ∧ let w4 := wr w cap2 (.bool ((c1 : Int) == 46))
  Calls Tryz.prog 167 #[.int .u8 c1] w4 (ret (fun r5 w6 => ∃ b7 : Bool, r5 = .bool b7 ∧ if b7 = true then (R (.returned (.bool true)) w6) else (∃ b8 : Bool, rd w6 cap2 (.bool b8) ∧ if b8 = true then (R (.returned (.bool (!b3))) w6) else (R (.returned (.bool false)) w6))) (pan R))

theorem C_conf_host_c1 {c1 : Int} {cap2 : Addr} (h : T_conf_host_c1 c1 cap2 w R) : Calls Tryz.prog 170 #[.int .u8 c1, .pointer (some cap2)] w R := cc mixed Tryz.func170 hz h

/-! tollgate/conf.poolName -/
def T_conf_poolName (s1 : ByteArray) (w : World) (R : ERP) : Prop :=
  Calls Tryz.prog 166 #[.string s1, .int .i64 64, .func (.func 167) #[] #[]] w (ret (fun r2 w3 => ∃ b4 : Bool, r2 = .bool b4 ∧ R (.returned (.bool b4)) w3) (pan R))

theorem C_conf_poolName {s1 : ByteArray} (h : T_conf_poolName s1 w R) : Calls Tryz.prog 99 #[.string s1] w R := cc mixed Tryz.func99 hz h

/-! tollgate/conf.address -/
def T_conf_address (s1 : ByteArray) (w : World) (R : ERP) : Prop :=
  Calls Tryz.prog 166 #[.string s1, .int .i64 64, .func (.func 225) #[] #[]] w (ret (fun r2 w3 => ∃ b4 : Bool, r2 = .bool b4 ∧ R (.returned (.bool b4)) w3) (pan R))

theorem C_conf_address {s1 : ByteArray} (h : T_conf_address s1 w R) : Calls Tryz.prog 168 #[.string s1] w R := cc mixed Tryz.func168 hz h

/-! tollgate/conf.prefix -/
def T_conf_prefix (s1 : ByteArray) (w : World) (R : ERP) : Prop :=
  Calls Tryz.prog 166 #[.string s1, .int .i64 128, .func (.func 171) #[] #[]] w (ret (fun r2 w3 => ∃ b4 : Bool, r2 = .bool b4 ∧ if b4 = true then (0 ≤ (0 : Int) ∧ ∃ c5, s1[(0 : Int).toNat]? = some c5 ∧ R (.returned (.bool ((c5.toNat : Int) == 47))) w3) else (R (.returned (.bool false)) w3)) (pan R))

theorem C_conf_prefix {s1 : ByteArray} (h : T_conf_prefix s1 w R) : Calls Tryz.prog 102 #[.string s1] w R := cc mixed Tryz.func102 hz h

/-! tollgate/conf.host -/
def T_conf_host (s1 : ByteArray) (w : World) (R : ERP) : Prop :=
  let w2 := w.alloc (.cells #[.bool false] 4)
  (.bool true : Value).cells.size = 1 ∧ wrOk w2 (⟨w.heap.size, 0, none⟩ : Addr) (.bool true) ∧ let w3 := wr w2 (⟨w.heap.size, 0, none⟩ : Addr) (.bool true)
  Calls Tryz.prog 166 #[.string s1, .int .i64 64, .func (.func 170) #[] #[.pointer (some ⟨w.heap.size, 0, none⟩)]] w3 (ret (fun r4 w5 => ∃ b6 : Bool, r4 = .bool b6 ∧ if b6 = true then (∃ b7 : Bool, rd w5 (⟨w.heap.size, 0, none⟩ : Addr) (.bool b7) ∧ R (.returned (.bool (!b7))) w5) else (R (.returned (.bool false)) w5)) (pan R))

theorem C_conf_host {s1 : ByteArray} (h : T_conf_host s1 w R) : Calls Tryz.prog 101 #[.string s1] w R := cc mixed Tryz.func101 hz h

/-! math.Signbit -/
def T_math_Signbit (x1 : Nat) (w : World) (R : ERP) : Prop :=
  runV Tryz.prog (callFunc 293 #[.float .f64 x1]) w (nxv (fun r2 w3 => ∃ x4 : Int, r2 = .int .u64 x4 ∧ R (.returned (.bool (decide ((IntKind.wrap .i64 x4 : Int) < 0)))) w3)) (pan R)

theorem C_math_Signbit {x1 : Nat} (h : T_math_Signbit x1 w R) : Calls Tryz.prog 226 #[.float .f64 x1] w R := cc mixed Tryz.func226 hz h

/-! tollgate/conf.weight -/
def T_conf_weight (w1 : Nat) (w : World) (R : ERP) : Prop :=
  runV Tryz.prog (do eqGuard .geq 39 (.tmp 3) (.const (.float .f64 0)) (.float .f64 w1) (.float .f64 0); binOp .geq 39 (.float .f64 w1) (.float .f64 0)) w (fun r2 w3 => ∃ b4 : Bool, r2 = .bool b4 ∧ if b4 = true then (Calls Tryz.prog 210 #[.float .f64 w1, .int .i64 1] w3 (ret (fun r5 w6 => ∃ b7 : Bool, r5 = .bool b7 ∧ if (!b7) = true then (Calls Tryz.prog 226 #[.float .f64 w1] w6 (ret (fun r8 w9 => ∃ b10 : Bool, r8 = .bool b10 ∧ R (.returned (.bool (!b10))) w9) (pan R))) else (R (.returned (.bool false)) w6)) (pan R))) else (R (.returned (.bool false)) w3)) (pan R)

theorem C_conf_weight {w1 : Nat} (h : T_conf_weight w1 w R) : Calls Tryz.prog 169 #[.float .f64 w1] w R := cc mixed Tryz.func169 hz h

/-! math.IsInf -/
def T_math_IsInf (f1 : Nat) (sign2 : Int) (w : World) (R : ERP) : Prop :=
  if ((sign2 : Int) == 0) = true then (Calls Tryz.prog 280 #[.float .f64 f1] w (ret (fun r3 w4 => ∃ f5 : Nat, r3 = .float .f64 f5 ∧ runV Tryz.prog (do eqGuard .gtr 39 (.tmp 13) (.const (.float .f64 9218868437227405311)) (.float .f64 f5) (.float .f64 9218868437227405311); binOp .gtr 39 (.float .f64 f5) (.float .f64 9218868437227405311)) w4 (fun r6 w7 => ∃ b8 : Bool, r6 = .bool b8 ∧ R (.returned (.bool b8)) w7) (pan R)) (pan R))) else (if (decide ((sign2 : Int) < 0)) = true then (runV Tryz.prog (do eqGuard .gtr 39 (.tmp 13) (.const (.float .f64 9218868437227405311)) (.float .f64 (Op.negFloat .f64 f1)) (.float .f64 9218868437227405311); binOp .gtr 39 (.float .f64 (Op.negFloat .f64 f1)) (.float .f64 9218868437227405311)) w (fun r9 w10 => ∃ b11 : Bool, r9 = .bool b11 ∧ R (.returned (.bool b11)) w10) (pan R)) else (runV Tryz.prog (do eqGuard .gtr 39 (.tmp 13) (.const (.float .f64 9218868437227405311)) (.float .f64 f1) (.float .f64 9218868437227405311); binOp .gtr 39 (.float .f64 f1) (.float .f64 9218868437227405311)) w (fun r12 w13 => ∃ b14 : Bool, r12 = .bool b14 ∧ R (.returned (.bool b14)) w13) (pan R)))

theorem C_math_IsInf {f1 : Nat} {sign2 : Int} (h : T_math_IsInf f1 sign2 w R) : Calls Tryz.prog 210 #[.float .f64 f1, .int .i64 sign2] w R := cc mixed Tryz.func210 hz h

/-! tollgate/conf.targets -/
def T_conf_targets_1_body (X : Int → WP) (x2 : Int) (s3a : Option Addr) (s3l s3c : Nat) (x4 : Int) (w : World) (Kn : WP) (Kr : Int → WP) (Kp : KP) : Prop :=
  if (decide ((x2 : Int) < x4)) = true then (0 ≤ (x2 : Int) ∧ (x2 : Int) < (s3l : Int) ∧ ∃ b5, s3a = some b5 ∧ ∃ (s6 : ByteArray) (f7 : Nat), rd w (b5.add ((x2 : Int).toNat * 2)) (.agg #[.string s6, .float .f64 f7]) ∧ let w8 := w.alloc (.cells #[.string (ByteArray.mk #[]), .float .f64 0] 268)
  (.agg #[.string s6, .float .f64 f7] : Value).cells.size = 2 ∧ wrOk w8 (⟨w.heap.size, 0, none⟩ : Addr) (.agg #[.string s6, .float .f64 f7]) ∧ let w9 := wr w8 (⟨w.heap.size, 0, none⟩ : Addr) (.agg #[.string s6, .float .f64 f7])
  ∃ s10 : ByteArray, rd w9 (⟨w.heap.size, 0, none⟩ : Addr) (.string s10) ∧ Calls Tryz.prog 168 #[.string s10] w9 (ret (fun r11 w12 => ∃ b13 : Bool, r11 = .bool b13 ∧ if (!b13) = true then (Kr 14 w12) else (X (IntKind.wrap .i64 ((x2 : Int) + 1)) w12)) Kp)) else (Kn  w)

def T_conf_targets_1 (x2 : Int) (s3a : Option Addr) (s3l s3c : Nat) (x4 : Int) (w : World) (Kn : WP) (Kr : Int → WP) (Kp : KP) : Prop :=
  ∀ X : Int → WP, (∀ (x2 : Int) (w : World), T_conf_targets_1_body X x2 s3a s3l s3c x4 w Kn Kr Kp → X x2 w) → X x2 w

def H_conf_targets_1 : Env → World → QT → Prop := unitHook 32 (ksOf [2, 4, 9, 10, 11, 12, 13, 14, 15, 16, 17]) ([(9, .int .i64 0)] ++ [(7, .slice none 0 0), (8, .int .i64 0)]) (oF (some []) (some [(2, .int .i64 0)]) []) fun l w C => T_conf_targets_1 (pInt (nv l 0)) (pA (nv l 1)) (pL (nv l 1)) (pC (nv l 1)) (pInt (nv l 2)) w (C .normal []) (fun x15 => C .ret [.int .i64 x15]) (fun ch => C (.panic ch) [])

theorem T_conf_targets_1_ok : UnitOk Tryz.prog H_conf_targets_1 (at_ (bodyOf Tryz.f100) [1, 0, 1]) 13 := lk 0 (B := fun C X l u w => T_conf_targets_1_body (fun x2 => X [.int .i64 x2]) (pInt (nv l 0)) (pA (nv u 0)) (pL (nv u 0)) (pC (nv u 0)) (pInt (nv u 1)) w (C .normal []) (fun x16 => C .ret [.int .i64 x16]) (fun ch => C (.panic ch) [])) hz (fun l u w C => ⟨fun h X hX => h (fun x2 => X [.int .i64 x2]) fun x2 w hb => hX [.int .i64 x2] w hb, fun h X hX => h (fun l w => X (pInt (nv l 0)) w) fun l w hb => hX (pInt (nv l 0)) w hb⟩)

def T_conf_targets_2_body (X : Int → WP) (x18 : Int) (s19a : Option Addr) (s19l s19c : Nat) (x20 : Int) (w : World) (Kn : WP) (Kr : Int → WP) (Kp : KP) : Prop :=
  if (decide ((x18 : Int) < x20)) = true then (0 ≤ (x18 : Int) ∧ (x18 : Int) < (s19l : Int) ∧ ∃ b21, s19a = some b21 ∧ ∃ (s22 : ByteArray) (f23 : Nat), rd w (b21.add ((x18 : Int).toNat * 2)) (.agg #[.string s22, .float .f64 f23]) ∧ let w24 := w.alloc (.cells #[.string (ByteArray.mk #[]), .float .f64 0] 268)
  (.agg #[.string s22, .float .f64 f23] : Value).cells.size = 2 ∧ wrOk w24 (⟨w.heap.size, 0, none⟩ : Addr) (.agg #[.string s22, .float .f64 f23]) ∧ let w25 := wr w24 (⟨w.heap.size, 0, none⟩ : Addr) (.agg #[.string s22, .float .f64 f23])
  ∃ f26 : Nat, rd w25 ((⟨w.heap.size, 0, none⟩ : Addr).add 1) (.float .f64 f26) ∧ Calls Tryz.prog 169 #[.float .f64 f26] w25 (ret (fun r27 w28 => ∃ b29 : Bool, r27 = .bool b29 ∧ if (!b29) = true then (Kr 15 w28) else (X (IntKind.wrap .i64 ((x18 : Int) + 1)) w28)) Kp)) else (Kn  w)

def T_conf_targets_2 (x18 : Int) (s19a : Option Addr) (s19l s19c : Nat) (x20 : Int) (w : World) (Kn : WP) (Kr : Int → WP) (Kp : KP) : Prop :=
  ∀ X : Int → WP, (∀ (x18 : Int) (w : World), T_conf_targets_2_body X x18 s19a s19l s19c x20 w Kn Kr Kp → X x18 w) → X x18 w

def H_conf_targets_2 : Env → World → QT → Prop := unitHook 32 (ksOf [2, 6, 20, 21, 22, 23, 24, 25, 26, 27, 28]) ([(20, .int .i64 0)] ++ [(18, .slice none 0 0), (19, .int .i64 0)]) (oF (some []) (some [(2, .int .i64 0)]) []) fun l w C => T_conf_targets_2 (pInt (nv l 0)) (pA (nv l 1)) (pL (nv l 1)) (pC (nv l 1)) (pInt (nv l 2)) w (C .normal []) (fun x31 => C .ret [.int .i64 x31]) (fun ch => C (.panic ch) [])

theorem T_conf_targets_2_ok : UnitOk Tryz.prog H_conf_targets_2 (at_ (bodyOf Tryz.f100) [1, 1, 0, 1]) 29 := lk 2 (B := fun C X l u w => T_conf_targets_2_body (fun x18 => X [.int .i64 x18]) (pInt (nv l 0)) (pA (nv u 0)) (pL (nv u 0)) (pC (nv u 0)) (pInt (nv u 1)) w (C .normal []) (fun x32 => C .ret [.int .i64 x32]) (fun ch => C (.panic ch) [])) hz (fun l u w C => ⟨fun h X hX => h (fun x18 => X [.int .i64 x18]) fun x18 w hb => hX [.int .i64 x18] w hb, fun h X hX => h (fun l w => X (pInt (nv l 0)) w) fun l w hb => hX (pInt (nv l 0)) w hb⟩)

def T_conf_targets (l1a : Option Addr) (l1l l1c : Nat) (w : World) (R : ERP) : Prop :=
  T_conf_targets_1 0 l1a l1l l1c (l1l : Int) w (fun w17 => T_conf_targets_2 0 l1a l1l l1c (l1l : Int) w17 (fun w33 => if (decide ((l1l : Int) > 16)) = true then (R (.returned (.int .i64 6)) w33) else (R (.returned (.int .i64 0)) w33)) (fun x34 w35 => R (.returned (.int .i64 x34)) w35) (pan R)) (fun x36 w37 => R (.returned (.int .i64 x36)) w37) (pan R)

theorem C_conf_targets {l1a : Option Addr} {l1l l1c : Nat} (h : T_conf_targets l1a l1l l1c w R) : Calls Tryz.prog 100 #[.slice l1a l1l l1c] w R := cc mixed Tryz.func100 (hA (H := hookAt [(13, H_conf_targets_1), (29, H_conf_targets_2)]) (hc T_conf_targets_1_ok (hc T_conf_targets_2_ok hn))) h

/-! tollgate/conf.Check -/
def T_conf_Check_1 (c10 : Addr) (w : World) (Kn : Bool → WP) (Kp : KP) : Prop :=
  ∃ x11 : Int, rd w c10 (.int .i64 x11) ∧ if ((x11 : Int) == 1) = true then (Kn true w) else (∃ x12 : Int, rd w c10 (.int .i64 x12) ∧ if ((x12 : Int) == 2) = true then (Kn true w) else (∃ x13 : Int, rd w c10 (.int .i64 x13) ∧ Kn ((x13 : Int) == 3) w))

def H_conf_Check_1 : Env → World → QT → Prop := unitHook 118 (ksOf [3, 6, 7, 8, 9, 10, 11, 12, 13, 14, 15, 16, 17, 18]) [(1, .pointer (some ⟨0, 0, none⟩))] (oF (some [(3, .bool false)]) none []) fun l w C => T_conf_Check_1 (pAddr (nv l 0)) w (fun pool15 => C .normal [.bool pool15]) (fun ch => C (.panic ch) [])

theorem T_conf_Check_1_ok : UnitOk Tryz.prog H_conf_Check_1 (at_ (bodyOf Tryz.f198) [1, 0]) 6 := uk hz

def T_conf_Check_2 (c18 : Addr) (w : World) (Kn : Bool → WP) (Kp : KP) : Prop :=
  ∃ x19 : Int, rd w c18 (.int .i64 x19) ∧ if ((x19 : Int) == 3) = true then (Kn true w) else (∃ x20 : Int, rd w c18 (.int .i64 x20) ∧ Kn ((x20 : Int) == 4) w)

def H_conf_Check_2 : Env → World → QT → Prop := unitHook 118 (ksOf [4, 19, 20, 21, 22, 23, 24, 25, 26]) [(1, .pointer (some ⟨0, 0, none⟩))] (oF (some [(4, .bool false)]) none []) fun l w C => T_conf_Check_2 (pAddr (nv l 0)) w (fun route22 => C .normal [.bool route22]) (fun ch => C (.panic ch) [])

theorem T_conf_Check_2_ok : UnitOk Tryz.prog H_conf_Check_2 (at_ (bodyOf Tryz.f198) [1, 1, 0]) 14 := uk hz

def T_conf_Check_3 (c27 : Addr) (seq28 b29 : Bool) (w : World) (Kn : Bool → WP) (Kp : KP) : Prop :=
  if b29 = true then (∃ x30 : Int, rd w (c27.add 2) (.int .i64 x30) ∧ if (decide ((x30 : Int) ≥ 1)) = true then (∃ x31 : Int, rd w (c27.add 2) (.int .i64 x31) ∧ Kn (decide ((x31 : Int) ≤ 1099511627776)) w) else (Kn false w)) else (Kn seq28 w)

def H_conf_Check_3 : Env → World → QT → Prop := unitHook 118 (ksOf [5, 33, 34, 35, 36, 37, 38, 39, 40]) [(1, .pointer (some ⟨0, 0, none⟩)), (5, .bool false), (32, .bool false)] (oF (some [(5, .bool false)]) none []) fun l w C => T_conf_Check_3 (pAddr (nv l 0)) (pBool (nv l 1)) (pBool (nv l 2)) w (fun seq33 => C .normal [.bool seq33]) (fun ch => C (.panic ch) [])

theorem T_conf_Check_3_ok : UnitOk Tryz.prog H_conf_Check_3 (at_ (bodyOf Tryz.f198) [1, 1, 1, 1, 0, 1]) 125 := uk hz

def T_conf_Check_4 (pool36 route37 : Bool) (w : World) (Kn : Bool → WP) (Kp : KP) : Prop :=
  if (!pool36) = true then (Kn (!route37) w) else (Kn false w)

def H_conf_Check_4 : Env → World → QT → Prop := unitHook 118 (ksOf [41, 42, 43, 44, 45, 46, 47]) [(3, .bool false), (4, .bool false)] (oF (some [(41, .bool false)]) none []) fun l w C => T_conf_Check_4 (pBool (nv l 0)) (pBool (nv l 1)) w (fun b39 => C .normal [.bool b39]) (fun ch => C (.panic ch) [])

theorem T_conf_Check_4_ok : UnitOk Tryz.prog H_conf_Check_4 (at_ (bodyOf Tryz.f198) [1, 1, 1, 1, 1, 0, 0, 0, 0]) 1008 := uk hz

def T_conf_Check_6 (c47 : Addr) (w : World) (Kn : Bool → WP) (Kp : KP) : Prop :=
  ∃ x48 : Int, rd w (c47.add 1) (.int .i64 x48) ∧ if (decide ((x48 : Int) < 0)) = true then (Kn true w) else (∃ x49 : Int, rd w (c47.add 1) (.int .i64 x49) ∧ Kn (decide ((x49 : Int) > 32)) w)

def H_conf_Check_6 : Env → World → QT → Prop := unitHook 118 (ksOf [41, 48, 49, 50, 51, 52, 53, 54, 55]) [(1, .pointer (some ⟨0, 0, none⟩))] (oF (some [(41, .bool false)]) none []) fun l w C => T_conf_Check_6 (pAddr (nv l 0)) w (fun b51 => C .normal [.bool b51]) (fun ch => C (.panic ch) [])

theorem T_conf_Check_6_ok : UnitOk Tryz.prog H_conf_Check_6 (at_ (bodyOf Tryz.f198) [1, 1, 1, 1, 1, 0, 0, 0, 1, 1, 0]) 4038 := uk hz

def T_conf_Check_7 (c54 : Addr) (w : World) (Kn : Bool → WP) (Kp : KP) : Prop :=
  ∃ x55 : Int, rd w (c54.add 3) (.int .i64 x55) ∧ if (decide ((x55 : Int) < (-1))) = true then (Kn true w) else (∃ x56 : Int, rd w (c54.add 3) (.int .i64 x56) ∧ Kn (decide ((x56 : Int) ≥ 1099511627776)) w)

def H_conf_Check_7 : Env → World → QT → Prop := unitHook 118 (ksOf [41, 58, 59, 60, 61, 62, 63, 64, 65]) [(1, .pointer (some ⟨0, 0, none⟩))] (oF (some [(41, .bool false)]) none []) fun l w C => T_conf_Check_7 (pAddr (nv l 0)) w (fun b58 => C .normal [.bool b58]) (fun ch => C (.panic ch) [])

theorem T_conf_Check_7_ok : UnitOk Tryz.prog H_conf_Check_7 (at_ (bodyOf Tryz.f198) [1, 1, 1, 1, 1, 0, 0, 0, 1, 1, 1, 1, 1, 1, 0]) 64638 := uk hz

def T_conf_Check_8 (c61 : Addr) (pool62 : Bool) (w : World) (Kn : Bool → WP) (Kp : KP) : Prop :=
  if (!pool62) = true then (∃ s63 : ByteArray, rd w (c61.add 6) (.string s63) ∧ Kn (!(s63.toList == (ByteArray.mk #[]).toList)) w) else (Kn false w)

def H_conf_Check_8 : Env → World → QT → Prop := unitHook 118 (ksOf [41, 66, 67, 68, 69, 70, 71, 72]) [(1, .pointer (some ⟨0, 0, none⟩)), (3, .bool false)] (oF (some [(41, .bool false)]) none []) fun l w C => T_conf_Check_8 (pAddr (nv l 0)) (pBool (nv l 1)) w (fun b65 => C .normal [.bool b65]) (fun ch => C (.panic ch) [])

theorem T_conf_Check_8_ok : UnitOk Tryz.prog H_conf_Check_8 (at_ (bodyOf Tryz.f198) [1, 1, 1, 1, 1, 0, 0, 0, 1, 1, 1, 1, 1, 1, 1, 1, 0]) 258558 := uk hz

def T_conf_Check_9 (c68 : Addr) (route69 : Bool) (w : World) (Kn : Bool → WP) (Kp : KP) : Prop :=
  if (!route69) = true then (∃ s70 : ByteArray, rd w (c68.add 4) (.string s70) ∧ if (!(s70.toList == (ByteArray.mk #[]).toList)) = true then (Kn true w) else (∃ s71 : ByteArray, rd w (c68.add 5) (.string s71) ∧ Kn (!(s71.toList == (ByteArray.mk #[]).toList)) w)) else (Kn false w)

def H_conf_Check_9 : Env → World → QT → Prop := unitHook 118 (ksOf [41, 73, 74, 75, 76, 77, 78, 79, 80, 81, 82, 83, 84]) [(1, .pointer (some ⟨0, 0, none⟩)), (4, .bool false)] (oF (some [(41, .bool false)]) none []) fun l w C => T_conf_Check_9 (pAddr (nv l 0)) (pBool (nv l 1)) w (fun b73 => C .normal [.bool b73]) (fun ch => C (.panic ch) [])

theorem T_conf_Check_9_ok : UnitOk Tryz.prog H_conf_Check_9 (at_ (bodyOf Tryz.f198) [1, 1, 1, 1, 1, 0, 0, 0, 1, 1, 1, 1, 1, 1, 1, 1, 1, 1, 0]) 1034238 := uk hz

def T_conf_Check_5 (c42 : Addr) (pool43 route44 seq45 b46 : Bool) (w : World) (Kn : Bool → WP) (Kp : KP) : Prop :=
  if b46 = true then (Kn b46 w) else (T_conf_Check_6 c42 w (fun b52 w53 => if b52 = true then (Kn b52 w53) else (if (!seq45) = true then (Kn (!seq45) w53) else (T_conf_Check_7 c42 w53 (fun b59 w60 => if b59 = true then (Kn b59 w60) else (T_conf_Check_8 c42 pool43 w60 (fun b66 w67 => if b66 = true then (Kn b66 w67) else (T_conf_Check_9 c42 route44 w67 (fun b74 w75 => if b74 = true then (Kn b74 w75) else (∃ x76 : Int, rd w75 c42 (.int .i64 x76) ∧ if ((x76 : Int) != 1) = true then (∃ (s77a : Option Addr) (s77l s77c : Nat), rd w75 (c42.add 7) (.slice s77a s77l s77c) ∧ Kn (decide ((s77l : Int) > 0)) w75) else (Kn false w75))) Kp)) Kp)) Kp))) Kp)

def H_conf_Check_5 : Env → World → QT → Prop := unitHook 118 (ksOf [41, 48, 49, 50, 51, 52, 53, 54, 55, 56, 57, 58, 59, 60, 61, 62, 63, 64, 65, 66, 67, 68, 69, 70, 71, 72, 73, 74, 75, 76, 77, 78, 79, 80, 81, 82, 83, 84, 85, 86, 87, 88, 89, 90, 91, 92, 93]) [(1, .pointer (some ⟨0, 0, none⟩)), (3, .bool false), (4, .bool false), (5, .bool false), (41, .bool false)] (oF (some [(41, .bool false)]) none []) fun l w C => T_conf_Check_5 (pAddr (nv l 0)) (pBool (nv l 1)) (pBool (nv l 2)) (pBool (nv l 3)) (pBool (nv l 4)) w (fun b79 => C .normal [.bool b79]) (fun ch => C (.panic ch) [])

theorem T_conf_Check_5_ok : UnitOk Tryz.prog H_conf_Check_5 (at_ (bodyOf Tryz.f198) [1, 1, 1, 1, 1, 0, 0, 0, 1]) 1009 := uk (hA (H := hookAt [(4038, H_conf_Check_6), (64638, H_conf_Check_7), (258558, H_conf_Check_8), (1034238, H_conf_Check_9)]) (hc T_conf_Check_6_ok (hc T_conf_Check_7_ok (hc T_conf_Check_8_ok (hc T_conf_Check_9_ok hn)))))

def T_conf_Check_10 (c82 : Addr) (pool83 : Bool) (w : World) (Kn : Bool → WP) (Kp : KP) : Prop :=
  if pool83 = true then (∃ s84 : ByteArray, rd w (c82.add 6) (.string s84) ∧ Calls Tryz.prog 99 #[.string s84] w (ret (fun r85 w86 => ∃ b87 : Bool, r85 = .bool b87 ∧ Kn (!b87) w86) Kp)) else (Kn false w)

def H_conf_Check_10 : Env → World → QT → Prop := unitHook 118 (ksOf [94, 95, 96, 97, 98, 99, 100, 101]) [(1, .pointer (some ⟨0, 0, none⟩)), (3, .bool false)] (oF (some [(94, .bool false)]) none []) fun l w C => T_conf_Check_10 (pAddr (nv l 0)) (pBool (nv l 1)) w (fun b89 => C .normal [.bool b89]) (fun ch => C (.panic ch) [])

theorem T_conf_Check_10_ok : UnitOk Tryz.prog H_conf_Check_10 (at_ (bodyOf Tryz.f198) [1, 1, 1, 1, 1, 0, 0, 1, 1, 0, 0]) 4044 := uk hz

def T_conf_Check (x1 x2 x3 x4 : Int) (s5 s6 s7 : ByteArray) (s8a : Option Addr) (s8l s8c : Nat) (w : World) (R : ERP) : Prop :=
  let w9 := w.alloc (.cells #[.int .i64 x1, .int .i64 x2, .int .i64 x3, .int .i64 x4, .string s5, .string s6, .string s7, .slice s8a s8l s8c] 27)
  T_conf_Check_1 (⟨w.heap.size, 0, none⟩ : Addr) w9 (fun pool16 w17 => T_conf_Check_2 (⟨w.heap.size, 0, none⟩ : Addr) w17 (fun route23 w24 => ∃ x25 : Int, rd w24 ((⟨w.heap.size, 0, none⟩ : Addr).add 2) (.int .i64 x25) ∧ ∃ x26 : Int, rd w24 ((⟨w.heap.size, 0, none⟩ : Addr).add 1) (.int .i64 x26) ∧ T_conf_Check_3 (⟨w.heap.size, 0, none⟩ : Addr) ((x25 : Int) == 0) ((x26 : Int) != 0) w24 (fun seq34 w35 => T_conf_Check_4 pool16 route23 w35 (fun b40 w41 => T_conf_Check_5 (⟨w.heap.size, 0, none⟩ : Addr) pool16 route23 seq34 b40 w41 (fun b80 w81 => if b80 = true then (R (.returned (.int .i64 2)) w81) else (T_conf_Check_10 (⟨w.heap.size, 0, none⟩ : Addr) pool16 w81 (fun b90 w91 => if b90 = true then (if b90 = true then (R (.returned (.int .i64 14)) w91) else (∃ (s92a : Option Addr) (s92l s92c : Nat), rd w91 ((⟨w.heap.size, 0, none⟩ : Addr).add 7) (.slice s92a s92l s92c) ∧ Calls Tryz.prog 100 #[.slice s92a s92l s92c] w91 (ret (fun r93 w94 => ∃ x95 : Int, r93 = .int .i64 x95 ∧ R (.returned (.int .i64 x95)) w94) (pan R)))) else (if route23 = true then (∃ s96 : ByteArray, rd w91 ((⟨w.heap.size, 0, none⟩ : Addr).add 4) (.string s96) ∧ Calls Tryz.prog 101 #[.string s96] w91 (ret (fun r97 w98 => ∃ b99 : Bool, r97 = .bool b99 ∧ if (!b99) = true then (R (.returned (.int .i64 14)) w98) else (∃ s100 : ByteArray, rd w98 ((⟨w.heap.size, 0, none⟩ : Addr).add 5) (.string s100) ∧ Calls Tryz.prog 102 #[.string s100] w98 (ret (fun r101 w102 => ∃ b103 : Bool, r101 = .bool b103 ∧ if (!b103) = true then (R (.returned (.int .i64 14)) w102) else (∃ (s104a : Option Addr) (s104l s104c : Nat), rd w102 ((⟨w.heap.size, 0, none⟩ : Addr).add 7) (.slice s104a s104l s104c) ∧ Calls Tryz.prog 100 #[.slice s104a s104l s104c] w102 (ret (fun r105 w106 => ∃ x107 : Int, r105 = .int .i64 x107 ∧ R (.returned (.int .i64 x107)) w106) (pan R)))) (pan R)))) (pan R))) else (∃ (s108a : Option Addr) (s108l s108c : Nat), rd w91 ((⟨w.heap.size, 0, none⟩ : Addr).add 7) (.slice s108a s108l s108c) ∧ Calls Tryz.prog 100 #[.slice s108a s108l s108c] w91 (ret (fun r109 w110 => ∃ x111 : Int, r109 = .int .i64 x111 ∧ R (.returned (.int .i64 x111)) w110) (pan R))))) (pan R))) (pan R)) (pan R)) (pan R)) (pan R)) (pan R)

theorem C_conf_Check {x1 x2 x3 x4 : Int} {s5 s6 s7 : ByteArray} {s8a : Option Addr} {s8l s8c : Nat} (h : T_conf_Check x1 x2 x3 x4 s5 s6 s7 s8a s8l s8c w R) : Calls Tryz.prog 198 #[.agg #[.int .i64 x1, .int .i64 x2, .int .i64 x3, .int .i64 x4, .string s5, .string s6, .string s7, .slice s8a s8l s8c]] w R := cc mixed Tryz.func198 (hA (H := hookAt [(6, H_conf_Check_1), (14, H_conf_Check_2), (125, H_conf_Check_3), (1008, H_conf_Check_4), (1009, H_conf_Check_5), (4044, H_conf_Check_10)]) (hc T_conf_Check_1_ok (hc T_conf_Check_2_ok (hc T_conf_Check_3_ok (hc T_conf_Check_4_ok (hc T_conf_Check_5_ok (hc T_conf_Check_10_ok hn))))))) h

/-! tollgate/wire.number -/
def T_wire_number_1_body (X : Option Addr → Nat → Nat → Int → WP) (b3a : Option Addr) (b3l b3c : Nat) (n4 : Int) (w : World) (Kn : Option Addr → Nat → Nat → Int → WP) (Kp : KP) : Prop :=
  if (decide ((n4 : Int) ≥ 128)) = true then (let w5 := w.alloc (.cells #[.int .u8 (IntKind.wrap .u8 (IntKind.wrap .i64 ((BitVec.ofInt (IntKind.bits .i64) (IntKind.wrap .i64 ((BitVec.ofInt (IntKind.bits .i64) n4) &&& (BitVec.ofInt (IntKind.bits .i64) 127)).toNat)) ||| (BitVec.ofInt (IntKind.bits .i64) 128)).toNat))] 5)
  runV Tryz.prog (Builtin.append_ #[58, 58] 58 #[.slice b3a b3l b3c, .slice (some ⟨w.heap.size, 0, none⟩) 1 1]) w5 (fun r6 w7 => ∃ (s8a : Option Addr) (s8l s8c : Nat), r6 = .slice s8a s8l s8c ∧ X s8a s8l s8c (Int.fdiv n4 (2 ^ 7)) w7) Kp) else (Kn b3a b3l b3c n4 w)

def T_wire_number_1 (b3a : Option Addr) (b3l b3c : Nat) (n4 : Int) (w : World) (Kn : Option Addr → Nat → Nat → Int → WP) (Kp : KP) : Prop :=
  ∀ X : Option Addr → Nat → Nat → Int → WP, (∀ (b3a : Option Addr) (b3l b3c : Nat) (n4 : Int) (w : World), T_wire_number_1_body X b3a b3l b3c n4 w Kn Kp → X b3a b3l b3c n4 w) → X b3a b3l b3c n4 w

def H_wire_number_1 : Env → World → QT → Prop := unitHook 21 (ksOf [0, 1, 5, 6, 7, 8, 9, 10, 11, 12, 13, 14, 15]) ([(0, .slice none 0 0), (1, .int .i64 0)] ++ []) (oF (some [(0, .slice none 0 0), (1, .int .i64 0)]) none []) fun l w C => T_wire_number_1 (pA (nv l 0)) (pL (nv l 0)) (pC (nv l 0)) (pInt (nv l 1)) w (fun b11a b11l b11c n12 => C .normal [.slice b11a b11l b11c, .int .i64 n12]) (fun ch => C (.panic ch) [])

theorem T_wire_number_1_ok : UnitOk Tryz.prog H_wire_number_1 (at_ (bodyOf Tryz.f178) [1, 0]) 6 := lk 0 (B := fun C X l u w => T_wire_number_1_body (fun b3a b3l b3c n4 => X [.slice b3a b3l b3c, .int .i64 n4]) (pA (nv l 0)) (pL (nv l 0)) (pC (nv l 0)) (pInt (nv l 1))  w (fun b13a b13l b13c n14 => C .normal [.slice b13a b13l b13c, .int .i64 n14]) (fun ch => C (.panic ch) [])) hz (fun l u w C => ⟨fun h X hX => h (fun b3a b3l b3c n4 => X [.slice b3a b3l b3c, .int .i64 n4]) fun b3a b3l b3c n4 w hb => hX [.slice b3a b3l b3c, .int .i64 n4] w hb, fun h X hX => h (fun l w => X (pA (nv l 0)) (pL (nv l 0)) (pC (nv l 0)) (pInt (nv l 1)) w) fun l w hb => hX (pA (nv l 0)) (pL (nv l 0)) (pC (nv l 0)) (pInt (nv l 1)) w hb⟩)

def T_wire_number (b1a : Option Addr) (b1l b1c : Nat) (n2 : Int) (w : World) (R : ERP) : Prop :=
  T_wire_number_1 b1a b1l b1c n2 w (fun b15a b15l b15c n16 w17 => let w18 := w17.alloc (.cells #[.int .u8 (IntKind.wrap .u8 n16)] 5)
  runV Tryz.prog (Builtin.append_ #[58, 58] 58 #[.slice b15a b15l b15c, .slice (some ⟨w17.heap.size, 0, none⟩) 1 1]) w18 (fun r19 w20 => ∃ (s21a : Option Addr) (s21l s21c : Nat), r19 = .slice s21a s21l s21c ∧ R (.returned (.slice s21a s21l s21c)) w20) (pan R)) (pan R)

theorem C_wire_number {b1a : Option Addr} {b1l b1c : Nat} {n2 : Int} (h : T_wire_number b1a b1l b1c n2 w R) : Calls Tryz.prog 178 #[.slice b1a b1l b1c, .int .i64 n2] w R := cc mixed Tryz.func178 (hA (H := hookAt [(6, H_wire_number_1)]) (hc T_wire_number_1_ok hn)) h

/-! tollgate/wire.Number -/
def T_wire_Number (n1 : Int) (w : World) (R : ERP) : Prop :=
  if (decide ((n1 : Int) < 0)) = true then (R (.returned (.tuple #[.slice none 0 0, .int .i64 2])) w) else (if (decide ((n1 : Int) > 1099511627776)) = true then (R (.returned (.tuple #[.slice none 0 0, .int .i64 2])) w) else (Calls Tryz.prog 178 #[.slice none 0 0, .int .i64 n1] w (ret (fun r2 w3 => ∃ (s4a : Option Addr) (s4l s4c : Nat), r2 = .slice s4a s4l s4c ∧ R (.returned (.tuple #[.slice s4a s4l s4c, .int .i64 0])) w3) (pan R))))

theorem C_wire_Number {n1 : Int} (h : T_wire_Number n1 w R) : Calls Tryz.prog 160 #[.int .i64 n1] w R := cc mixed Tryz.func160 hz h

end Go.Proofs.YtaocnfjhfmapkaaGreatDoor

/-
  Commands and configurations as plain lists: which may be, their bytes, and how bytes are read. No program in sight.
-/
namespace Go.Cm
abbrev Bs := List UInt8
structure Tgt where
  addr : Bs
  w : Nat
deriving DecidableEq
structure Cmd where
  act : Int
  client : Int
  seq : Int
  expect : Int
  host : Bs
  pfx : Bs
  pool : Bs
  tg : List Tgt
deriving DecidableEq
structure Rt where
  host : Bs
  pfx : Bs
  pool : Bs
deriving DecidableEq
structure Pl where
  name : Bs
  tg : List Tgt
deriving DecidableEq
structure Last where
  client : Int
  seq : Int
  e : Int
  ver : Int
deriving DecidableEq
structure Sm where
  ver : Int
  routes : List Rt
  pools : List Pl
  l : List Last
deriving DecidableEq

/-! ### which may be -/
def small (c : UInt8) : Bool := decide (97 ≤ c.toNat ∧ c.toNat ≤ 122) || decide (48 ≤ c.toNat ∧ c.toNat ≤ 57) || decide (c.toNat = 45)
def isName (s : Bs) : Bool := decide (1 ≤ s.length ∧ s.length ≤ 64) && s.all small
/-- point: was the last one a point (or is there none yet)? -/
def hostRun : Bool → Bs → Bool
  | p, [] => !p
  | p, c :: r => (small c || (decide (c.toNat = 46) && !p)) && hostRun (decide (c.toNat = 46)) r
def isHost (s : Bs) : Bool := decide (1 ≤ s.length ∧ s.length ≤ 64) && hostRun true s
def seen (c : UInt8) : Bool := decide (33 ≤ c.toNat ∧ c.toNat ≤ 126)
def pfxB (c : UInt8) : Bool := seen c && !decide (c.toNat = 63) && !decide (c.toNat = 35)
def isPfx (s : Bs) : Bool := decide (1 ≤ s.length ∧ s.length ≤ 128) && s.all pfxB && decide (s.head? = some 47)
def isAddr (s : Bs) : Bool := decide (1 ≤ s.length ∧ s.length ≤ 64) && s.all seen
def isW (w : Nat) : Bool := decide (w < 9218868437227405312)
def chkT (l : List Tgt) : Int :=
  if !l.all (fun t => isAddr t.addr) then 14 else if !l.all (fun t => isW t.w) then 15 else if 16 < l.length then 6 else 0
def usesPool (a : Int) : Bool := decide (a = 1) || decide (a = 2) || decide (a = 3)
def usesRoute (a : Int) : Bool := decide (a = 3) || decide (a = 4)
def seqOk (c : Cmd) : Bool := if c.client = 0 then decide (c.seq = 0) else decide (1 ≤ c.seq ∧ c.seq ≤ 1099511627776)
def argBad (c : Cmd) : Bool :=
  (!usesPool c.act && !usesRoute c.act) || decide (c.client < 0) || decide (32 < c.client) || !seqOk c || decide (c.expect < -1) || decide (1099511627776 ≤ c.expect) ||
  (!usesPool c.act && decide (c.pool ≠ [])) || (!usesRoute c.act && (decide (c.host ≠ []) || decide (c.pfx ≠ []))) || (decide (c.act ≠ 1) && decide (0 < c.tg.length))
def nameBad (c : Cmd) : Bool := (usesPool c.act && !isName c.pool) || (usesRoute c.act && (!isHost c.host || !isPfx c.pfx))
def chk (c : Cmd) : Int := if argBad c then 2 else if nameBad c then 14 else chkT c.tg

/-! ### bytes -/
def encNF : Nat → Nat → Bs
  | 0, n => [UInt8.ofNat n]
  | k + 1, n => if n < 128 then [UInt8.ofNat n] else UInt8.ofNat (n % 128 + 128) :: encNF k (n / 128)
def num (n : Int) : Bs := if n < 0 ∨ 1099511627776 < n then [] else encNF 5 n.toNat
def text (s : Bs) : Bs := num s.length ++ s
def f64 (w : Nat) : Bs := [UInt8.ofNat (w / 2 ^ 56), UInt8.ofNat (w / 2 ^ 48), UInt8.ofNat (w / 2 ^ 40), UInt8.ofNat (w / 2 ^ 32), UInt8.ofNat (w / 2 ^ 24), UInt8.ofNat (w / 2 ^ 16), UInt8.ofNat (w / 2 ^ 8), UInt8.ofNat w]
def tgt (t : Tgt) : Bs := text t.addr ++ f64 t.w
def tgs (l : List Tgt) : Bs := num l.length ++ l.flatMap tgt
def putC (c : Cmd) : Bs := num c.act ++ (num c.client ++ (num c.seq ++ (num (c.expect + 1) ++ (text c.host ++ (text c.pfx ++ (text c.pool ++ tgs c.tg))))))
def plB (p : Pl) : Bs := text p.name ++ tgs p.tg
def rtB (r : Rt) : Bs := text r.host ++ (text r.pfx ++ text r.pool)
def laB (x : Last) : Bs := num x.client ++ (num x.seq ++ (num x.e ++ num x.ver))
def confB (pools : List Pl) (routes : List Rt) : Bs := num pools.length ++ (pools.flatMap plB ++ (num routes.length ++ routes.flatMap rtB))
def putS (s : Sm) : Bs := num s.ver ++ (confB s.pools s.routes ++ (num s.l.length ++ s.l.flatMap laB))

/-! ### reading -/
abbrev Ps := Except Int Bs
def takeGo (k n : Nat) : Bs → Except Int (Nat × Bs)
  | [] => .error 3
  | c :: r => if 128 ≤ c.toNat then (if k = 5 then .error 6 else takeGo (k + 1) (n + c.toNat % 128 * 128 ^ k) r)
    else if c.toNat = 0 ∧ 0 < k then .error 4 else if 1099511627776 < n + c.toNat % 128 * 128 ^ k then .error 6 else .ok (n + c.toNat % 128 * 128 ^ k, r)
def rNum (most : Nat) : Ps → Nat × Ps
  | .error e => (0, .error e)
  | .ok r => match takeGo 0 0 r with
    | .error e => (0, .error e)
    | .ok (n, r') => if most < n then (0, .error 6) else (n, .ok r')
def rRow (n : Nat) : Ps → Bs × Ps
  | .error e => ([], .error e)
  | .ok r => if r.length < n then ([], .error 3) else (r.take n, .ok (r.drop n))
def rText (s : Ps) : Bs × Ps := rRow (rNum 128 s).1 (rNum 128 s).2
def bits (l : Bs) : Nat := l.foldl (fun n c => n * 256 + c.toNat) 0
def bad : Ps → Bool
  | .error _ => true
  | .ok _ => false
/-- n times, up to the first fault. -/
def rMany {α : Type} (f : Ps → α × Ps) : Nat → Ps → List α × Ps
  | 0, s => ([], s)
  | n + 1, s => if bad s then ([], s) else ((f s).1 :: (rMany f n (f s).2).1, (rMany f n (f s).2).2)
def rTgt (s : Ps) : Tgt × Ps := (⟨(rText s).1, bits (rRow 8 (rText s).2).1⟩, (rRow 8 (rText s).2).2)
def rTgs (s : Ps) : List Tgt × Ps := rMany rTgt (rNum 16 s).1 (rNum 16 s).2
def maxN : Nat := 1099511627776
def rCmd (b : Bs) : Cmd × Ps :=
  let a := rNum maxN (.ok b)
  let c := rNum maxN a.2
  let q := rNum maxN c.2
  let x := rNum maxN q.2
  let h := rText x.2
  let p := rText h.2
  let o := rText p.2
  let t := rTgs o.2
  (⟨a.1, c.1, q.1, (x.1 : Int) - 1, h.1, p.1, o.1, t.1⟩, t.2)
def getC (b : Bs) : Except Int Cmd :=
  match (rCmd b).2 with
  | .error e => .error e
  | .ok r => if r ≠ [] ∨ chk (rCmd b).1 ≠ 0 then .error 4 else .ok (rCmd b).1
def rPl (s : Ps) : Pl × Ps := (⟨(rText s).1, (rTgs (rText s).2).1⟩, (rTgs (rText s).2).2)
def rRt (s : Ps) : Rt × Ps := (⟨(rText s).1, (rText (rText s).2).1, (rText (rText (rText s).2).2).1⟩, (rText (rText (rText s).2).2).2)
def rLa (s : Ps) : Last × Ps :=
  let k := rNum maxN s
  let q := rNum maxN k.2
  let e := rNum maxN q.2
  let v := rNum maxN e.2
  (⟨k.1, q.1, e.1, v.1⟩, v.2)
def rSm (b : Bs) : Sm × Ps :=
  let v := rNum maxN (.ok b)
  let n := rNum 32 v.2
  let p := rMany rPl n.1 n.2
  let m := rNum 64 p.2
  let r := rMany rRt m.1 m.2
  let k := rNum 32 r.2
  let l := rMany rLa k.1 k.2
  (⟨v.1, r.1, p.1, l.1⟩, l.2)
def rtLt (a b : Rt) : Bool := decide (a.host < b.host) || (decide (a.host = b.host) && decide (a.pfx < b.pfx))
/-- Each one ahead of the next. -/
def rises {α : Type} (lt : α → α → Bool) : List α → Bool
  | [] => true
  | [_] => true
  | a :: b :: r => lt a b && rises lt (b :: r)
def told (e : Int) : Bool := decide (e = 0) || decide (e = 6) || decide (e = 8) || decide (e = 12) || decide (e = 13)
def rightL (v : Int) (x : Last) : Bool := decide (1 ≤ x.client ∧ x.client ≤ 32) && decide (1 ≤ x.seq) && told x.e && decide (x.ver ≤ v)
def right (s : Sm) : Bool :=
  (s.pools.all (fun p => isName p.name && decide (chkT p.tg = 0)) && rises (fun a b => decide (a.name < b.name)) s.pools) &&
  (s.routes.all (fun r => s.pools.any (fun p => decide (p.name = r.pool)) && isHost r.host && isPfx r.pfx) && rises rtLt s.routes) &&
  (s.l.all (rightL s.ver) && rises (fun a b => decide (a.client < b.client)) s.l) && decide ((confB s.pools s.routes).length ≤ 12000)
def load (b : Bs) : Except Int Sm :=
  match (rSm b).2 with
  | .error e => .error e
  | .ok r => if r ≠ [] ∨ right (rSm b).1 = false then .error 4 else .ok (rSm b).1

/-! ### what is put is got, and the other way round -/
theorem toNat_of (n : Nat) (h : n < 256) : (UInt8.ofNat n).toNat = n := by simp; omega
theorem take_enc : ∀ (j k acc m : Nat) (r : Bs), m < 128 ^ (j + 1) → k + j ≤ 5 → (0 < m ∨ k = 0) → acc + m * 128 ^ k ≤ 1099511627776 → takeGo k acc (encNF j m ++ r) = .ok (acc + m * 128 ^ k, r)
  | 0, k, acc, m, r, h1, _, h3, h4 => by
    have hm : m < 128 := by simpa using h1
    have e : (UInt8.ofNat m).toNat = m := toNat_of m (by omega)
    simp only [encNF, List.cons_append, List.nil_append, takeGo, e]
    rw [if_neg (by omega), if_neg (by omega), Nat.mod_eq_of_lt hm, if_neg (by omega)]
  | j + 1, k, acc, m, r, h1, h2, h3, h4 => by
    unfold encNF
    by_cases hm : m < 128
    · have e : (UInt8.ofNat m).toNat = m := toNat_of m (by omega)
      rw [if_pos hm]
      simp only [List.cons_append, List.nil_append, takeGo, e]
      rw [if_neg (by omega), if_neg (by omega), Nat.mod_eq_of_lt hm, if_neg (by omega)]
    · have e : (UInt8.ofNat (m % 128 + 128)).toNat = m % 128 + 128 := toNat_of _ (by omega)
      rw [if_neg hm]
      simp only [List.cons_append, takeGo, e]
      rw [if_pos (by omega), if_neg (by omega)]
      have e2 : (m % 128 + 128) % 128 = m % 128 := by omega
      have e3 : m / 128 * 128 ^ (k + 1) = 128 * (m / 128) * 128 ^ k := by rw [Nat.pow_succ]; simp only [Nat.mul_assoc, Nat.mul_comm, Nat.mul_left_comm]
      have e4 : m * 128 ^ k = m % 128 * 128 ^ k + 128 * (m / 128) * 128 ^ k := by rw [← Nat.add_mul, Nat.mod_add_div]
      rw [e2, take_enc j (k + 1) (acc + m % 128 * 128 ^ k) (m / 128) r (by rw [Nat.div_lt_iff_lt_mul (by decide)]; rwa [Nat.pow_succ] at h1) (by omega) (.inl (by omega)) (by rw [e3]; omega), e3, Nat.add_assoc, ← e4]
theorem enc_take : ∀ (b : Bs) (k acc n : Nat) (r : Bs), k ≤ 5 → takeGo k acc b = .ok (n, r) → ∃ m, b = encNF (5 - k) m ++ r ∧ n = acc + m * 128 ^ k ∧ m < 128 ^ (6 - k) ∧ (0 < m ∨ k = 0) ∧ n ≤ 1099511627776
  | [], _, _, _, _, _, h => by simp [takeGo] at h
  | c :: b, k, acc, n, r, hk, h => by
    unfold takeGo at h
    split at h
    · rename_i hc
      split at h
      · cases h
      · rename_i hk5
        obtain ⟨m, rfl, rfl, h3, h4, h5⟩ := enc_take b (k + 1) _ n r (by omega) h
        have hlt := c.toNat_lt
        have hm : 0 < m := by omega
        refine ⟨c.toNat % 128 + 128 * m, ?_, ?_, ?_, .inl (by omega), h5⟩
        · rw [show 5 - k = 5 - (k + 1) + 1 from by omega]
          conv => rhs; unfold encNF
          rw [if_neg (by omega), show (c.toNat % 128 + 128 * m) % 128 + 128 = c.toNat from by omega, show (c.toNat % 128 + 128 * m) / 128 = m from by omega]
          simp
        · rw [Nat.add_mul, Nat.pow_succ]
          simp only [Nat.mul_assoc, Nat.mul_comm, Nat.add_assoc]
        · rw [show 6 - k = 6 - (k + 1) + 1 from by omega, Nat.pow_succ]
          have := h3; omega
    · rename_i hc
      split at h
      · cases h
      · rename_i h0
        split at h
        · cases h
        · rename_i hn
          injection h with h
          injection h with h1 h2
          subst h1; subst h2
          have e : c.toNat % 128 = c.toNat := Nat.mod_eq_of_lt (by omega)
          refine ⟨c.toNat, ?_, by rw [e], ?_, by omega, by omega⟩
          · have : encNF (5 - k) c.toNat = [UInt8.ofNat c.toNat] := by
              cases 5 - k with
              | zero => rfl
              | succ j => unfold encNF; rw [if_pos (by omega)]
            rw [this]; simp
          · have : 128 ^ 1 ≤ 128 ^ (6 - k) := Nat.pow_le_pow_right (by decide) (by omega)
            omega
theorem rNum_put {most n : Nat} (h : n ≤ most) (h2 : n ≤ 1099511627776) (r : Bs) : rNum most (.ok (num n ++ r)) = (n, .ok r) := by
  have := take_enc 5 0 0 n r (by omega) (by omega) (.inr rfl) (by omega)
  simp only [rNum, num]
  rw [if_neg (by omega), Int.toNat_natCast, this]
  simp only [Nat.zero_add, Nat.pow_zero, Nat.mul_one]
  rw [if_neg (by omega)]
theorem rNum_got {most n : Nat} {s : Ps} {r : Bs} (h : rNum most s = (n, .ok r)) : s = .ok (num n ++ r) ∧ n ≤ most ∧ n ≤ 1099511627776 := by
  cases s with
  | error e => simp [rNum] at h
  | ok b =>
    simp only [rNum] at h
    split at h
    · simp at h
    · rename_i n' r' ht
      split at h
      · simp at h
      · simp only [Prod.mk.injEq, Except.ok.injEq] at h
        obtain ⟨rfl, rfl⟩ := h
        obtain ⟨m, rfl, rfl, h3, h4, h5⟩ := enc_take b 0 0 _ _ (by omega) ht
        simp only [Nat.zero_add, Nat.pow_zero, Nat.mul_one] at *
        exact ⟨by simp only [num]; rw [if_neg (by omega), Int.toNat_natCast], by omega, h5⟩
theorem rText_put {s : Bs} (h : s.length ≤ 128) (r : Bs) : rText (.ok (text s ++ r)) = (s, .ok r) := by
  simp only [rText, text, List.append_assoc]
  rw [rNum_put h (by omega)]
  simp [rRow]
theorem rRow_got {n : Nat} {s : Ps} {x r : Bs} (h : rRow n s = (x, .ok r)) : s = .ok (x ++ r) ∧ x.length = n := by
  cases s with
  | error e => simp [rRow] at h
  | ok b =>
    simp only [rRow] at h
    split at h
    · simp at h
    · simp only [Prod.mk.injEq, Except.ok.injEq] at h
      obtain ⟨rfl, rfl⟩ := h
      exact ⟨by rw [List.take_append_drop], by rw [List.length_take]; omega⟩
theorem rText_got {s : Ps} {x r : Bs} (h : rText s = (x, .ok r)) : s = .ok (text x ++ r) ∧ x.length ≤ 128 := by
  unfold rText at h
  obtain ⟨h1, h2⟩ := rRow_got h
  obtain ⟨h3, h4, _⟩ := rNum_got (n := (rNum 128 s).1) (r := x ++ r) (Prod.ext rfl h1)
  refine ⟨by rw [h3, text, h2, List.append_assoc], by omega⟩
theorem bits8 (a b c d e f g h : UInt8) : f64 (bits [a, b, c, d, e, f, g, h]) = [a, b, c, d, e, f, g, h] := by
  have ha := a.toNat_lt; have hb := b.toNat_lt; have hc := c.toNat_lt; have hd := d.toNat_lt
  have he := e.toNat_lt; have hf := f.toNat_lt; have hg := g.toNat_lt; have hh := h.toNat_lt
  have q : ∀ (x : UInt8) (n : Nat), n % 256 = x.toNat → UInt8.ofNat n = x := fun x n hn => by
    apply UInt8.toNat_inj.1; simpa using hn
  simp only [bits, List.foldl_cons, List.foldl_nil, f64, List.cons.injEq, and_true]
  refine ⟨q _ _ ?_, q _ _ ?_, q _ _ ?_, q _ _ ?_, q _ _ ?_, q _ _ ?_, q _ _ ?_, q _ _ ?_⟩ <;> omega
theorem f64_bits {l : Bs} (h : l.length = 8) : f64 (bits l) = l := by
  match l, h with
  | [a, b, c, d, e, f, g, i], _ => exact bits8 a b c d e f g i
theorem bits_f64 {w : Nat} (h : w < 2 ^ 64) : bits (f64 w) = w := by
  have q : ∀ n : Nat, (UInt8.ofNat n).toNat = n % 256 := fun n => by simp
  simp only [bits, f64, List.foldl_cons, List.foldl_nil, q]
  omega
theorem bits_lt {l : Bs} (h : l.length = 8) : bits l < 2 ^ 64 := by
  match l, h with
  | [a, b, c, d, e, f, g, i], _ =>
    have ha := a.toNat_lt; have hb := b.toNat_lt; have hc := c.toNat_lt; have hd := d.toNat_lt
    have he := e.toNat_lt; have hf := f.toNat_lt; have hg := g.toNat_lt; have hh := i.toNat_lt
    simp only [bits, List.foldl_cons, List.foldl_nil]; omega
theorem f64_len (w : Nat) : (f64 w).length = 8 := rfl
theorem rTgt_put {t : Tgt} (h : t.addr.length ≤ 128) (hw : t.w < 2 ^ 64) (r : Bs) : rTgt (.ok (tgt t ++ r)) = (t, .ok r) := by
  have e1 := rText_put h (f64 t.w ++ r)
  unfold rTgt tgt
  rw [List.append_assoc, e1]
  have e2 : rRow 8 (.ok (f64 t.w ++ r)) = (f64 t.w, .ok r) := by
    unfold rRow
    simp only []
    rw [if_neg (by rw [List.length_append, f64_len]; omega), show (f64 t.w ++ r).take 8 = f64 t.w from List.take_left' (f64_len _), show (f64 t.w ++ r).drop 8 = r from List.drop_left' (f64_len _)]
  simp only [e2, bits_f64 hw]
theorem rTgt_got {s : Ps} {t : Tgt} {r : Bs} (h : rTgt s = (t, .ok r)) : s = .ok (tgt t ++ r) ∧ t.addr.length ≤ 128 ∧ t.w < 2 ^ 64 := by
  simp only [rTgt, Prod.mk.injEq] at h
  obtain ⟨rfl, h2⟩ := h
  obtain ⟨h3, h4⟩ := rRow_got (x := (rRow 8 (rText s).2).1) (r := r) (Prod.ext rfl h2)
  obtain ⟨h5, h6⟩ := rText_got (s := s) (x := (rText s).1) (r := (rRow 8 (rText s).2).1 ++ r) (Prod.ext rfl h3)
  exact ⟨h5.trans (by simp only [tgt]; rw [f64_bits h4, List.append_assoc]), h6, bits_lt h4⟩
theorem rMany_put {α : Type} {f : Ps → α × Ps} {g : α → Bs} : ∀ (l : List α) (r : Bs), (∀ a ∈ l, ∀ r, f (.ok (g a ++ r)) = (a, .ok r)) → rMany f l.length (.ok (l.flatMap g ++ r)) = (l, .ok r)
  | [], r, _ => rfl
  | a :: l, r, h => by
    have e := h a List.mem_cons_self (l.flatMap g ++ r)
    have ih := rMany_put (f := f) (g := g) l r fun b hb => h b (List.mem_cons_of_mem _ hb)
    simp only [List.length_cons, rMany, List.flatMap_cons, List.append_assoc, e, ih]
    rw [if_neg (by simp [bad])]
theorem rMany_got {α : Type} {f : Ps → α × Ps} {g : α → Bs} {good : α → Prop} (hf : ∀ s a r, f s = (a, .ok r) → s = .ok (g a ++ r) ∧ good a) :
    ∀ (n : Nat) (s : Ps) (l : List α) (r : Bs), rMany f n s = (l, .ok r) → s = .ok (l.flatMap g ++ r) ∧ l.length = n ∧ ∀ a ∈ l, good a
  | 0, s, l, r, h => by
    simp only [rMany, Prod.mk.injEq] at h
    obtain ⟨rfl, rfl⟩ := h
    exact ⟨rfl, rfl, fun a ha => by cases ha⟩
  | n + 1, s, l, r, h => by
    unfold rMany at h
    split at h
    · rename_i hb
      simp only [Prod.mk.injEq] at h
      obtain ⟨rfl, rfl⟩ := h
      simp [bad] at hb
    · simp only [Prod.mk.injEq] at h
      obtain ⟨rfl, h2⟩ := h
      obtain ⟨h3, h4, h5⟩ := rMany_got hf n (f s).2 (rMany f n (f s).2).1 r (Prod.ext rfl h2)
      obtain ⟨h6, h7⟩ := hf s (f s).1 _ (Prod.ext rfl h3)
      refine ⟨h6.trans (by simp), by simp [h4], fun a ha => ?_⟩
      rcases List.mem_cons.1 ha with rfl | ha
      · exact h7
      · exact h5 a ha
def goodT (t : Tgt) : Prop := t.addr.length ≤ 128 ∧ t.w < 2 ^ 64
theorem rTgs_put {l : List Tgt} (h : ∀ t ∈ l, goodT t) (hl : l.length ≤ 16) (r : Bs) : rTgs (.ok (tgs l ++ r)) = (l, .ok r) := by
  unfold rTgs tgs
  rw [List.append_assoc, rNum_put hl (by omega)]
  exact rMany_put l r fun t ht r => rTgt_put (h t ht).1 (h t ht).2 r
theorem rTgs_got {s : Ps} {l : List Tgt} {r : Bs} (h : rTgs s = (l, .ok r)) : s = .ok (tgs l ++ r) ∧ (∀ t ∈ l, goodT t) ∧ l.length ≤ 16 := by
  obtain ⟨h1, h2, h3⟩ := rMany_got (g := tgt) (good := goodT) (fun s a r h => rTgt_got h) _ _ _ _ h
  obtain ⟨h4, h5, _⟩ := rNum_got (n := (rNum 16 s).1) (Prod.ext rfl h1)
  exact ⟨h4.trans (by rw [tgs, h2, List.append_assoc]), h3, by omega⟩
theorem got_of {α : Type} {p : α × Ps} {r : Bs} (h : p.2 = .ok r) : p = (p.1, .ok r) := Prod.ext rfl h
/-! ### the checks' own bounds -/
theorem chk_zero {c : Cmd} (h : chk c = 0) : argBad c = false ∧ nameBad c = false ∧ chkT c.tg = 0 := by
  unfold chk at h
  cases h1 : argBad c <;> cases h2 : nameBad c <;> simp_all
theorem chkT_zero {l : List Tgt} (h : chkT l = 0) : (∀ t ∈ l, isAddr t.addr = true ∧ isW t.w = true) ∧ l.length ≤ 16 := by
  unfold chkT at h
  cases h1 : l.all (fun t => isAddr t.addr) <;> cases h2 : l.all (fun t => isW t.w) <;> simp [h1, h2] at h
  refine ⟨fun t ht => ⟨?_, ?_⟩, by omega⟩
  · exact List.all_eq_true.1 h1 t ht
  · exact List.all_eq_true.1 h2 t ht
theorem chkT_good {l : List Tgt} (h : chkT l = 0) : ∀ t ∈ l, goodT t := fun t ht => by
  obtain ⟨h1, h2⟩ := (chkT_zero h).1 t ht
  simp only [isAddr, Bool.and_eq_true, decide_eq_true_eq] at h1
  simp only [isW, decide_eq_true_eq] at h2
  exact ⟨by omega, by omega⟩
theorem name_len {s : Bs} (h : isName s = true) : 1 ≤ s.length ∧ s.length ≤ 64 := by
  simp only [isName, Bool.and_eq_true, decide_eq_true_eq] at h; exact h.1
theorem host_len {s : Bs} (h : isHost s = true) : 1 ≤ s.length ∧ s.length ≤ 64 := by
  simp only [isHost, Bool.and_eq_true, decide_eq_true_eq] at h; exact h.1
theorem pfx_len {s : Bs} (h : isPfx s = true) : 1 ≤ s.length ∧ s.length ≤ 128 := by
  simp only [isPfx, Bool.and_eq_true, decide_eq_true_eq] at h; exact h.1.1
structure Fine (c : Cmd) : Prop where
  a : 1 ≤ c.act ∧ c.act ≤ 4
  cl : 0 ≤ c.client ∧ c.client ≤ 32
  sq : 0 ≤ c.seq ∧ c.seq ≤ 1099511627776
  ex : -1 ≤ c.expect ∧ c.expect < 1099511627776
  h : c.host.length ≤ 64
  p : c.pfx.length ≤ 128
  o : c.pool.length ≤ 64
  t : chkT c.tg = 0
theorem chk_fine {c : Cmd} (h : chk c = 0) : Fine c := by
  obtain ⟨h1, h2, h3⟩ := chk_zero h
  simp only [argBad, Bool.or_eq_false_iff] at h1
  obtain ⟨⟨⟨⟨⟨⟨⟨⟨a1, a2⟩, a3⟩, a4⟩, a5⟩, a6⟩, a7⟩, a8⟩, a9⟩ := h1
  simp only [decide_eq_false_iff_not] at a2 a3 a5 a6
  have ha : 1 ≤ c.act ∧ c.act ≤ 4 := by
    simp [usesPool, usesRoute] at a1
    omega
  have hs : 0 ≤ c.seq ∧ c.seq ≤ 1099511627776 := by
    simp only [seqOk, Bool.not_eq_false'] at a4
    split at a4 <;> simp at a4 <;> omega
  simp only [nameBad, Bool.or_eq_false_iff] at h2
  have hp : c.pool.length ≤ 64 := by
    cases hu : usesPool c.act
    · simp [hu] at a7; simp [a7]
    · simp [hu] at h2; have := name_len h2.1; omega
  have hr : c.host.length ≤ 64 ∧ c.pfx.length ≤ 128 := by
    cases hu : usesRoute c.act
    · simp [hu] at a8; simp [a8.1, a8.2]
    · simp [hu] at h2; have := host_len h2.2.1; have := pfx_len h2.2.2; omega
  exact ⟨ha, by omega, hs, by omega, hr.1, hr.2, hp, h3⟩
theorem getC_putC {c : Cmd} (h : chk c = 0) : getC (putC c) = .ok c := by
  have f := chk_fine h
  obtain ⟨act, client, seq, expect, host, pfx, pool, tg⟩ := c
  obtain ⟨a, ha⟩ : ∃ a : Nat, act = a := ⟨act.toNat, by have := f.a; simp at this; omega⟩
  obtain ⟨b, hb⟩ : ∃ a : Nat, client = a := ⟨client.toNat, by have := f.cl; simp at this; omega⟩
  obtain ⟨q, hq⟩ : ∃ a : Nat, seq = a := ⟨seq.toNat, by have := f.sq; simp at this; omega⟩
  obtain ⟨x, hx⟩ : ∃ a : Nat, expect + 1 = a := ⟨(expect + 1).toNat, by have := f.ex; simp at this; omega⟩
  have fa := f.a; have fc := f.cl; have fs := f.sq; have fx := f.ex; have fh := f.h; have fp := f.p; have fo := f.o; have ft := f.t
  simp only at fa fc fs fx fh fp fo ft
  subst ha; subst hb; subst hq
  have hr : rCmd (putC ⟨a, b, q, expect, host, pfx, pool, tg⟩) = (⟨a, b, q, expect, host, pfx, pool, tg⟩, .ok []) := by
    simp only [rCmd, putC, maxN, hx]
    rw [rNum_put (n := a) (by omega) (by omega), rNum_put (n := b) (by omega) (by omega), rNum_put (n := q) (by omega) (by omega), rNum_put (n := x) (by omega) (by omega), rText_put (by omega), rText_put (by omega), rText_put (by omega)]
    have := rTgs_put (chkT_good ft) (chkT_zero ft).2 []
    rw [List.append_nil] at this
    rw [this]
    simp only [Prod.mk.injEq, Cmd.mk.injEq, true_and, and_true]
    omega
  simp only [getC, hr]
  rw [if_neg (by simp [h])]
theorem putC_getC {b : Bs} {c : Cmd} (h : getC b = .ok c) : chk c = 0 ∧ putC c = b := by
  unfold getC at h
  split at h
  · cases h
  · rename_i r hr
    split at h
    · cases h
    · rename_i hn
      injection h with h
      have hr2 : r = [] ∧ chk (rCmd b).1 = 0 := by
        constructor
        · cases r with
          | nil => rfl
          | cons _ _ => exact absurd (Or.inl (by simp)) hn
        · cases Decidable.em (chk (rCmd b).1 = 0) with
          | inl h => exact h
          | inr h => exact absurd (Or.inr h) hn
      obtain ⟨rfl, hz⟩ := hr2
      subst h
      refine ⟨hz, ?_⟩
      simp only [rCmd] at hr ⊢
      obtain ⟨t1, _, _⟩ := rTgs_got (got_of hr)
      obtain ⟨o1, _⟩ := rText_got (got_of t1)
      obtain ⟨p1, _⟩ := rText_got (got_of o1)
      obtain ⟨h1, _⟩ := rText_got (got_of p1)
      obtain ⟨x1, _⟩ := rNum_got (got_of h1)
      obtain ⟨q1, _⟩ := rNum_got (got_of x1)
      obtain ⟨c1, _⟩ := rNum_got (got_of q1)
      obtain ⟨a1, _⟩ := rNum_got (got_of c1)
      injection a1 with a1
      simp only [putC]
      rw [show ∀ n : Nat, ((n : Int) - 1 + 1) = n from fun n => by omega]
      rw [List.append_nil] at a1
      exact a1.symm
end Go.Cm

/-
  Which names, hosts, prefixes, addresses, weights may be: the program's functions and the document's.
-/
namespace Go.Vc
open Go Go.Proofs Go.Proofs.YtaocnfjhfmapkaaGreatDoor
set_option maxRecDepth 100000

abbrev Sl := Option Addr × Nat × Nat
/-- As many bytes as a row can be made of; as many as a string that came in may have. -/
abbrev big : Nat := 140737488355328
abbrev huge : Nat := 9223372036854775807
def bs (s : Cm.Bs) : ByteArray := ⟨s.toArray⟩
theorem bs_toList (s : Cm.Bs) : (bs s).toList = s := toList_mk s
theorem bs_size (s : Cm.Bs) : (bs s).size = s.length := by simp [bs, ByteArray.size]
theorem bs_get (s : Cm.Bs) (i : Nat) : (bs s)[i]? = s[i]? := by
  show (getElem? (bs s) i) = _
  by_cases h : i < s.length
  · rw [getElem?_pos (bs s) i (by rw [bs_size]; exact h), List.getElem?_eq_getElem h]
    rfl
  · rw [getElem?_neg (bs s) i (by rw [bs_size]; exact h), List.getElem?_eq_none (by omega)]
theorem bs_of (b : ByteArray) : bs b.data.toList = b := by cases b; rfl
theorem bs_nil : bs [] = ByteArray.mk #[] := rfl
theorem toList_nil : (ByteArray.mk #[]).toList = [] := toList_mk []
theorem bs_inj {a b : Cm.Bs} (h : bs a = bs b) : a = b := by have := congrArg ByteArray.toList h; rwa [bs_toList, bs_toList] at this
theorem cong {α : Type} {K : α → World → Prop} {w : World} {a b : α} (k : K a w) (h : a = b) : K b w := h ▸ k
theorem congR {R : Ending → World → Prop} {w : World} {a b : Value} (k : R (.returned a) w) (h : a = b) : R (.returned b) w := h ▸ k
theorem congB {R : Ending → World → Prop} {w : World} {a b : Bool} (k : R (.returned (.bool a)) w) (h : a = b) : R (.returned (.bool b)) w := h ▸ k
theorem congI {R : Ending → World → Prop} {w : World} {q : IntKind} {a b : Int} (k : R (.returned (.int q a)) w) (h : a = b) : R (.returned (.int q b)) w := h ▸ k
theorem succ_big {j : Nat} (h : j < big) : IntKind.wrap .i64 ((j : Int) + 1) = ((j + 1 : Nat) : Int) := by rw [wrap_id (by omega) (by unfold big at h; omega)]; omega
theorem succ_huge {j : Nat} (h : j < huge) : IntKind.wrap .i64 ((j : Int) + 1) = ((j + 1 : Nat) : Int) := by rw [wrap_id (by omega) (by unfold huge at h; omega)]; omega

section
variable {E w : World} {L : List Asrt} {R : Ending → World → Prop}

/-! ### one byte, and each one -/
theorem small_spec {c : UInt8} (h : St E L w) (k : ∀ w', St E L w' → R (.returned (.bool (Cm.small c))) w') : Calls Tryz.prog 167 #[.int .u8 ((c.toNat : Nat) : Int)] w R := by
  refine C_conf_small ?_
  unfold T_conf_small
  have q := k w h
  have hq : ∀ b : Bool, Cm.small c = b → R (.returned (.bool b)) w := fun b hb => hb ▸ q
  refine ite_d (fun h1 => ite_d (fun h2 => hq _ ?_) fun h2 => ite_d (fun h3 => ite_d (fun h4 => hq _ ?_) fun h4 => hq _ ?_) fun h3 => hq _ ?_) fun h1 => ite_d (fun h3 => ite_d (fun h4 => hq _ ?_) fun h4 => hq _ ?_) fun h3 => hq _ ?_
  all_goals (rw [Bool.eq_iff_iff]; simp [Cm.small]; omega)
def eachRun {σ : Type} (f : σ → UInt8 → Bool) (nx : σ → UInt8 → σ) : σ → Cm.Bs → Bool × σ
  | x, [] => (true, x)
  | x, c :: r => if f x c then eachRun f nx (nx x c) r else (false, nx x c)
theorem each_spec {σ : Type} {f : σ → UInt8 → Bool} {nx : σ → UInt8 → σ} {LL : σ → List Asrt} {g : FuncId} {gi gc : Array Value} {s : Cm.Bs} {most : Int} {x : σ} (hb : hasBody Tryz.prog g = true)
    (hs : ∀ (x : σ) (c : UInt8) (w : World) (R : Ending → World → Prop), St E (LL x) w → (∀ w', St E (LL (nx x c)) w' → R (.returned (.bool (f x c))) w') → Calls Tryz.prog g ⟨gi.toList ++ ([.int .u8 ((c.toNat : Nat) : Int)] ++ gc.toList)⟩ w R)
    (h : St E (LL x) w) (hl : s.length ≤ huge)
    (k : ∀ w', St E (LL (eachRun f nx x s).2) w' → R (.returned (.bool ((eachRun f nx x s).1 && (decide (0 < s.length) && decide ((s.length : Int) ≤ most))))) w') :
    Calls Tryz.prog 166 #[.string (bs s), .int .i64 most, .func (.func g) gi gc] w R := by
  refine C_conf_each ?_
  unfold T_conf_each T_conf_each_1
  intro X hX
  refine up_to s.length (Q := fun j => ∀ (y : σ) (w : World), St E (LL y) w → (eachRun f nx x s = eachRun f nx y (s.drop j)) → X (j : Int) w) ?_ x w h rfl
  intro j hj ih y w h he
  refine hX _ _ ?_
  unfold T_conf_each_1_body
  rw [bs_size]
  refine ite_d (fun hc => ?_) (fun hc => ?_)
  · have hjl : j < s.length := by omega
    have hd : s.drop j = s[j] :: s.drop (j + 1) := List.drop_eq_getElem_cons hjl
    rw [hd] at he
    refine ⟨by omega, s[j], by rw [bs_get, Int.toNat_natCast, List.getElem?_eq_getElem hjl], hb, hs y s[j] w _ h fun w' h' => ⟨_, rfl, ite_n (fun hf => ?_) (fun hf => ?_)⟩⟩
    · simp only [eachRun, hf, Bool.false_eq_true, if_false] at he
      rw [he] at k
      exact k w' h'
    · simp only [eachRun, hf, if_true] at he
      rw [succ_huge (by omega)]
      exact ih hjl _ _ h' he
  · have hd : s.drop j = [] := List.drop_eq_nil_of_le (by omega)
    rw [hd] at he
    simp only [eachRun] at he
    rw [he] at k
    refine ite_d (fun h0 => ?_) (fun h0 => ?_)
    · refine congB (k w h) ?_
      rw [decide_eq_true (by omega : 0 < s.length)]; simp
    · refine congB (k w h) ?_
      rw [decide_eq_false (by omega : ¬ 0 < s.length)]; simp
theorem eachRun_all {p : UInt8 → Bool} : ∀ s : Cm.Bs, (eachRun (fun (_ : Unit) c => p c) (fun x _ => x) () s).1 = s.all p
  | [] => rfl
  | c :: r => by
    unfold eachRun
    cases h : p c <;> simp [h, eachRun_all r]
theorem each_all {p : UInt8 → Bool} {g : FuncId} {s : Cm.Bs} {most : Int} (hb : hasBody Tryz.prog g = true)
    (hs : ∀ (c : UInt8) (w : World) (R : Ending → World → Prop), St E L w → (∀ w', St E L w' → R (.returned (.bool (p c))) w') → Calls Tryz.prog g #[.int .u8 ((c.toNat : Nat) : Int)] w R)
    (h : St E L w) (hl : s.length ≤ huge) (k : ∀ w', St E L w' → R (.returned (.bool (s.all p && (decide (0 < s.length) && decide ((s.length : Int) ≤ most))))) w') :
    Calls Tryz.prog 166 #[.string (bs s), .int .i64 most, .func (.func g) #[] #[]] w R :=
  each_spec (LL := fun _ => L) (x := ()) hb (fun _ c w R h k => hs c w R h k) h hl fun w' h' => by rw [eachRun_all]; exact k w' h'
theorem prefix1_spec {c : UInt8} (h : St E L w) (k : ∀ w', St E L w' → R (.returned (.bool (Cm.pfxB c))) w') : Calls Tryz.prog 171 #[.int .u8 ((c.toNat : Nat) : Int)] w R := by
  refine C_conf_prefix_c1 ?_
  unfold T_conf_prefix_c1
  have hq : ∀ b : Bool, Cm.pfxB c = b → R (.returned (.bool b)) w := fun b hb => hb ▸ k w h
  refine ite_d (fun h1 => ?_) fun h1 => hq _ ?_
  · refine ite_d (fun h2 => ?_) fun h2 => hq _ ?_
    · refine ite_b (fun h3 => hq _ ?_) fun h3 => hq _ ?_
      · rw [Bool.eq_iff_iff]; simp at h3; simp [Cm.pfxB, Cm.seen]; omega
      · rw [Bool.eq_iff_iff]; simp at h3; simp [Cm.pfxB, Cm.seen]; omega
    · rw [Bool.eq_iff_iff]; simp [Cm.pfxB, Cm.seen]; omega
  · rw [Bool.eq_iff_iff]; simp [Cm.pfxB, Cm.seen]; omega
theorem address1_spec {c : UInt8} (h : St E L w) (k : ∀ w', St E L w' → R (.returned (.bool (Cm.seen c))) w') : Calls Tryz.prog 225 #[.int .u8 ((c.toNat : Nat) : Int)] w R := by
  refine C_conf_address_c1 ?_
  unfold T_conf_address_c1
  have hq : ∀ b : Bool, Cm.seen c = b → R (.returned (.bool b)) w := fun b hb => hb ▸ k w h
  refine ite_d (fun h1 => hq _ ?_) fun h1 => hq _ ?_
  all_goals (rw [Bool.eq_iff_iff]; simp [Cm.seen]; omega)
theorem host1_spec {b : Nat} {p : Bool} {c : UInt8} (h : St E (blkL b 4 [.bool p] :: L) w) (k : ∀ w', St E (blkL b 4 [.bool (decide (c.toNat = 46))] :: L) w' → R (.returned (.bool (Cm.small c || (decide (c.toNat = 46) && !p)))) w') :
    Calls Tryz.prog 170 #[.int .u8 ((c.toNat : Nat) : Int), .pointer (some ⟨b, 0, none⟩)] w R := by
  refine C_conf_host_c1 ?_
  unfold T_conf_host_c1
  refine ⟨p, rd_cell h.at_blk rfl rfl, rfl, wrOk_cell h.at_blk (by simp) rfl, ?_⟩
  intro w4
  have e : (((c.toNat : Nat) : Int) == 46) = decide (c.toNat = 46) := by rw [Bool.eq_iff_iff]; simp; omega
  have h4 : St E (blkL b 4 [.bool (decide (c.toNat = 46))] :: L) w4 := by
    have := h.wr_cell (off := 0) (v := .bool (((c.toNat : Nat) : Int) == 46)) rfl
    rw [← e]; exact this
  refine small_spec h4 fun w' h' => ⟨_, rfl, ite_b (fun h1 => ?_) (fun h1 => ⟨_, rd_cell h'.at_blk rfl rfl, ite_b (fun h2 => ?_) (fun h2 => ?_)⟩)⟩
  · exact congB (k w' h') (by simp [h1])
  · exact congB (k w' h') (by simp [h1, h2])
  · exact congB (k w' h') (by simp [h1, h2])
theorem body_small : hasBody Tryz.prog 167 = true := by kernel_rfl
theorem body_host1 : hasBody Tryz.prog 170 = true := by kernel_rfl
theorem body_prefix1 : hasBody Tryz.prog 171 = true := by kernel_rfl
theorem body_address1 : hasBody Tryz.prog 225 = true := by kernel_rfl

variable {s : Cm.Bs}
theorem len_and {n : Nat} (b : Bool) : (b && (decide (0 < s.length) && decide ((s.length : Int) ≤ ((n : Nat) : Int)))) = (decide (1 ≤ s.length ∧ s.length ≤ n) && b) := by
  rw [Bool.and_comm]; congr 1
  rw [Bool.eq_iff_iff]; simp only [Bool.and_eq_true, decide_eq_true_eq]; omega
theorem poolName_spec (h : St E L w) (hl : s.length ≤ huge) (k : ∀ w', St E L w' → R (.returned (.bool (Cm.isName s))) w') : Calls Tryz.prog 99 #[.string (bs s)] w R := by
  refine C_conf_poolName ?_
  unfold T_conf_poolName
  refine each_all body_small (fun c w R h k => small_spec h k) h hl fun w' h' => ⟨_, rfl, congB (k w' h') ?_⟩
  rw [show (64 : Int) = ((64 : Nat) : Int) from rfl, len_and]; rfl
theorem address_spec (h : St E L w) (hl : s.length ≤ huge) (k : ∀ w', St E L w' → R (.returned (.bool (Cm.isAddr s))) w') : Calls Tryz.prog 168 #[.string (bs s)] w R := by
  refine C_conf_address ?_
  unfold T_conf_address
  refine each_all body_address1 (fun c w R h k => address1_spec h k) h hl fun w' h' => ⟨_, rfl, congB (k w' h') ?_⟩
  rw [show (64 : Int) = ((64 : Nat) : Int) from rfl, len_and]; rfl
theorem prefix_spec (h : St E L w) (hl : s.length ≤ huge) (k : ∀ w', St E L w' → R (.returned (.bool (Cm.isPfx s))) w') : Calls Tryz.prog 102 #[.string (bs s)] w R := by
  refine C_conf_prefix ?_
  unfold T_conf_prefix
  refine each_all body_prefix1 (fun c w R h k => prefix1_spec h k) h hl fun w' h' => ⟨_, rfl, ?_⟩
  rw [show (128 : Int) = ((128 : Nat) : Int) from rfl, len_and]
  refine ite_b (fun h1 => ?_) (fun h1 => ?_)
  · have h2 := h1
    simp only [Bool.and_eq_true, decide_eq_true_eq] at h2
    match s, h2 with
    | [], h2 => simp at h2
    | c :: r, h2 =>
      refine ⟨by omega, c, by rw [bs_get]; rfl, congB (k w' h') ?_⟩
      unfold Cm.isPfx
      rw [h1, Bool.true_and, Bool.eq_iff_iff]
      simp
      constructor
      · rintro rfl; rfl
      · intro hc; apply UInt8.toNat_inj.1; simpa using (by omega : c.toNat = 47)
  · refine congB (k w' h') ?_
    unfold Cm.isPfx
    rw [h1]; rfl
theorem eachRun_host : ∀ (s : Cm.Bs) (p : Bool), ((eachRun (fun (p : Bool) (c : UInt8) => Cm.small c || (decide (c.toNat = 46) && !p)) (fun _ c => decide (c.toNat = 46)) p s).1 && !(eachRun (fun (p : Bool) (c : UInt8) => Cm.small c || (decide (c.toNat = 46) && !p)) (fun _ c => decide (c.toNat = 46)) p s).2) = Cm.hostRun p s
  | [], p => by simp [eachRun, Cm.hostRun]
  | c :: r, p => by
    unfold eachRun Cm.hostRun
    cases h : (Cm.small c || (decide (c.toNat = 46) && !p))
    · simp
    · simpa using eachRun_host r (decide (c.toNat = 46))
theorem host_spec (h : St E L w) (hl : s.length ≤ huge) (k : ∀ w', St E L w' → R (.returned (.bool (Cm.isHost s))) w') : Calls Tryz.prog 101 #[.string (bs s)] w R := by
  refine C_conf_host ?_
  unfold T_conf_host
  intro w2
  have h2 := h.alloc (.cells #[.bool false] 4)
  refine ⟨rfl, wrOk_cell h2.at_blk (by simp) rfl, ?_⟩
  intro w3
  have h3 : St E (blkL w.heap.size 4 [.bool true] :: L) w3 := h2.wr_cell (off := 0) (v := .bool true) rfl
  refine each_spec (LL := fun p => blkL w.heap.size 4 [.bool p] :: L) (x := true) body_host1 (fun p c w R h k => host1_spec h k) h3 hl fun w' h' => ⟨_, rfl, ite_b (fun h1 => ?_) (fun h1 => ?_)⟩
  · refine ⟨_, rd_cell h'.at_blk rfl rfl, congB (k w' h'.drop) ?_⟩
    rw [show (64 : Int) = ((64 : Nat) : Int) from rfl, len_and] at h1
    simp only [Bool.and_eq_true] at h1
    unfold Cm.isHost
    rw [h1.1, Bool.true_and, ← eachRun_host s true, h1.2, Bool.true_and]
  · refine congB (k w' h'.drop) ?_
    rw [show (64 : Int) = ((64 : Nat) : Int) from rfl, len_and] at h1
    unfold Cm.isHost
    rw [← eachRun_host s true, ← Bool.and_assoc, h1]; rfl

/-! ### the document's -/
theorem all_pfx : ∀ s : Cm.Bs, s.all Cm.pfxB = ((s.all fun c => !decide (c.toNat = 63) && !decide (c.toNat = 35)) && s.all Cm.seen)
  | [] => rfl
  | c :: r => by
    simp only [List.all_cons, all_pfx r, Cm.pfxB]
    cases Cm.seen c <;> cases decide (c.toNat = 63) <;> cases decide (c.toNat = 35) <;> simp
/-- No two points one behind the other. -/
def noTwo : Cm.Bs → Bool
  | c :: d :: r => !(decide (c.toNat = 46) && decide (d.toNat = 46)) && noTwo (d :: r)
  | _ => true
theorem small_46 {x : UInt8} (hx : x.toNat = 46) : Cm.small x = false := by simp [Cm.small, hx]
/-- What the document asks of points. -/
theorem hostRun_iff : ∀ (s : Cm.Bs) (p : Bool), Cm.hostRun p s = ((s.all fun c => Cm.small c || (true && decide (c.toNat = 46))) && ((if s = [] then !p else !(p && decide (s.head?.map (·.toNat) = some 46)) && !decide (s.getLast?.map (·.toNat) = some 46)) && noTwo s))
  | [], p => by simp [Cm.hostRun, noTwo]
  | [c], p => by
    unfold Cm.hostRun
    by_cases hc : c.toNat = 46
    · cases p <;> simp [Cm.hostRun, hc, noTwo]
    · cases p <;> simp [Cm.hostRun, hc, noTwo]
  | c :: d :: r, p => by
    have ih := hostRun_iff (d :: r) (decide (c.toNat = 46))
    unfold Cm.hostRun
    rw [ih]
    simp only [noTwo, List.all_cons, List.getLast?_cons_cons, List.head?_cons, Option.map_some, Option.some.injEq, if_neg (List.cons_ne_nil _ _), Bool.true_and]
    generalize noTwo (d :: r) = q1
    generalize decide ((List.getLast? (d :: r)).map (·.toNat) = some 46) = q2
    generalize (r.all fun c => Cm.small c || decide (c.toNat = 46)) = q3
    by_cases hc : c.toNat = 46 <;> by_cases hd : d.toNat = 46
    · simp only [hc, hd, small_46 hc, small_46 hd, decide_true]
      cases p <;> cases q1 <;> cases q2 <;> cases q3 <;> rfl
    · simp only [hc, hd, small_46 hc, decide_true, decide_false]
      cases p <;> cases q1 <;> cases q2 <;> cases q3 <;> cases Cm.small d <;> rfl
    · simp only [hc, hd, small_46 hd, decide_true, decide_false]
      cases p <;> cases q1 <;> cases q2 <;> cases q3 <;> cases Cm.small c <;> rfl
    · simp only [hc, hd, decide_false]
      cases p <;> cases q1 <;> cases q2 <;> cases q3 <;> cases Cm.small c <;> cases Cm.small d <;> rfl
theorem noTwo_drop {s : Cm.Bs} {i : Nat} (h : i + 1 < s.length) : noTwo (s.drop i) = (!(decide (s[i].toNat = 46) && decide (s[i + 1].toNat = 46)) && noTwo (s.drop (i + 1))) := by
  rw [List.drop_eq_getElem_cons (by omega : i < s.length), List.drop_eq_getElem_cons h]
  rfl
theorem byte_eq (c : UInt8) (n : Nat) : (((c.toNat : Nat) : Int) == ((n : Nat) : Int)) = decide (c.toNat = n) := by
  rw [Bool.eq_iff_iff]; simp; omega
end
end Go.Vc

/-
  Weights, targets, commands: which may be; the program's functions and the document's.
-/
namespace Go.Vc
open Go Go.Proofs Go.Proofs.YtaocnfjhfmapkaaGreatDoor
set_option maxRecDepth 100000

section
variable {E w : World} {L : List Asrt} {R : Ending → World → Prop}

/-! ### floats -/
theorem run_fgeq (t : TypeId) (x y : Operand) (a b : Nat) : (do eqGuard .geq t x y (.float .f64 a) (.float .f64 b); binOp .geq t (.float .f64 a) (.float .f64 b) : Sem Value).run Tryz.prog w =
    .ok (.bool (Ieee.double.order a b == some .gt || Ieee.double.order a b == some .eq)) w := by
  simp [eqGuard, binOp, Op.floatCmp, FloatKind.format]
theorem run_fgtr (t : TypeId) (x y : Operand) (a b : Nat) : (do eqGuard .gtr t x y (.float .f64 a) (.float .f64 b); binOp .gtr t (.float .f64 a) (.float .f64 b) : Sem Value).run Tryz.prog w =
    .ok (.bool (Ieee.double.order a b == some .gt)) w := by
  simp [eqGuard, binOp, Op.floatCmp, FloatKind.format]
theorem run_fleq (t : TypeId) (x y : Operand) (a b : Nat) : (do eqGuard .leq t x y (.float .f64 a) (.float .f64 b); binOp .leq t (.float .f64 a) (.float .f64 b) : Sem Value).run Tryz.prog w =
    .ok (.bool (Ieee.double.order a b == some .lt || Ieee.double.order a b == some .eq)) w := by
  simp [eqGuard, binOp, Op.floatCmp, FloatKind.format]
theorem run_fbits {b : Nat} : (callFunc 293 #[.float .f64 b]).run Tryz.prog w = .ok (.value (.int .u64 (b : Int))) w := by
  rw [run_callFunc_extern Tryz.func293 (e := Extern.MathFloatBits.float64bits) (by kernel_rfl) (by kernel_rfl) (by kernel_rfl) (by kernel_rfl)]
  rfl
theorem fbits_ok {b : Nat} {K : Next → World → Prop} {X : List PanicEntry → World → Prop} (hk : K (.value (.int .u64 (b : Int))) w) : runV Tryz.prog (callFunc 293 #[.float .f64 b]) w K X := by
  unfold runV; rw [run_fbits]; exact hk
theorem run_ffrom {n : Int} : (callFunc 224 #[.int .u64 n]).run Tryz.prog w = .ok (.value (.float .f64 n.toNat)) w := by
  rw [run_callFunc_extern Tryz.func224 (e := Extern.MathFloatBits.float64frombits) (by kernel_rfl) (by kernel_rfl) (by kernel_rfl) (by kernel_rfl)]
  rfl
theorem ffrom_ok {n : Int} {K : Next → World → Prop} {X : List PanicEntry → World → Prop} (hk : K (.value (.float .f64 n.toNat)) w) : runV Tryz.prog (callFunc 224 #[.int .u64 n]) w K X := by
  unfold runV; rw [run_ffrom]; exact hk
theorem read_num (b : Nat) (h : b < 9218868437227405312) : ∃ (m j : Nat), Ieee.double.read b = .number false m (-1074 + (j : Int)) ∧ m ≤ 9007199254740991 ∧ j ≤ 2045 := by
  unfold Ieee.Format.read
  have e1 : Ieee.double.signWeight = 9223372036854775808 := by decide
  have e2 : Ieee.double.binade = 4503599627370496 := by decide
  have e3 : Ieee.double.infRung = 9218868437227405312 := by decide
  have e4 : Ieee.double.leastPlace = -1074 := by decide
  have e5 : (b / 9223372036854775808 % 2 == 1) = false := by simp; omega
  simp only [e1, e2, e3, e4, e5]
  rw [Nat.mod_eq_of_lt (by omega : b < 9223372036854775808)]
  split
  · exact ⟨b, 0, rfl, by omega, by omega⟩
  · exact ⟨_, b / 4503599627370496 - 1, rfl, by omega, by omega⟩
theorem read_zero : Ieee.double.read 0 = .number false 0 (-1074) := by decide
theorem read_max : Ieee.double.read 9218868437227405311 = .number false 9007199254740991 (-1074 + 2045) := by decide
theorem read_inf : Ieee.double.read 9218868437227405312 = .infinity false := by decide
theorem read_nan {b : Nat} (h1 : 9218868437227405312 < b) (h2 : b < 9223372036854775808) : ∃ n, Ieee.double.read b = .nan false n := by
  unfold Ieee.Format.read
  have e1 : Ieee.double.signWeight = 9223372036854775808 := by decide
  have e2 : Ieee.double.binade = 4503599627370496 := by decide
  have e3 : Ieee.double.infRung = 9218868437227405312 := by decide
  have e5 : (b / 9223372036854775808 % 2 == 1) = false := by simp; omega
  simp only [e1, e2, e3, e5]
  rw [Nat.mod_eq_of_lt h2, if_neg (by omega), if_neg (by omega), if_neg (by omega)]
  exact ⟨_, rfl⟩
theorem cmp_ge {a b : Int} (h : b ≤ a) : (some (compare a b) == some Ordering.gt || some (compare a b) == some Ordering.eq) = true := by
  rcases Int.lt_trichotomy a b with h1 | h1 | h1
  · omega
  · subst h1; simp
  · rw [Int.compare_eq_gt.2 h1]; rfl
theorem cmp_le {a b : Int} (h : a ≤ b) : (some (compare a b) == some Ordering.gt) = false ∧ (some (compare a b) == some Ordering.lt || some (compare a b) == some Ordering.eq) = true := by
  rcases Int.lt_trichotomy a b with h1 | h1 | h1
  · rw [Int.compare_eq_lt.2 h1]; exact ⟨rfl, rfl⟩
  · subst h1; simp
  · omega
theorem num_ge0 {b : Nat} (h : b < 9218868437227405312) : (Ieee.double.order b 0 == some .gt || Ieee.double.order b 0 == some .eq) = true := by
  obtain ⟨m, j, hr, _, _⟩ := read_num b h
  unfold Ieee.Format.order
  rw [hr, read_zero]
  unfold Ieee.Datum.order
  refine cmp_ge ?_
  simp only [Ieee.signed, Bool.false_eq_true, if_false, Nat.zero_shiftLeft]
  exact Int.natCast_nonneg _
theorem num_lemax {b : Nat} (h : b < 9218868437227405312) : (Ieee.double.order b 9218868437227405311 == some .gt) = false ∧ (Ieee.double.order b 9218868437227405311 == some .lt || Ieee.double.order b 9218868437227405311 == some .eq) = true := by
  obtain ⟨m, j, hr, hm, hj⟩ := read_num b h
  unfold Ieee.Format.order
  rw [hr, read_max]
  unfold Ieee.Datum.order
  refine cmp_le ?_
  have e : min (-1074 + (j : Int)) (-1074 + 2045) = -1074 + (j : Int) := by omega
  simp only [e, Ieee.signed, Bool.false_eq_true, if_false, Int.sub_self, Int.toNat_zero, Nat.shiftLeft_zero]
  rw [Nat.shiftLeft_eq]
  have : m * 1 ≤ 9007199254740991 * 2 ^ (-1074 + 2045 - (-1074 + (j : Int))).toNat := Nat.mul_le_mul hm (Nat.one_le_two_pow)
  rw [Nat.mul_one] at this
  exact_mod_cast this
theorem inf_cmp : (Ieee.double.order 9218868437227405312 0 == some .gt) = true ∧ (Ieee.double.order 9218868437227405312 9218868437227405311 == some .gt) = true ∧ (Ieee.double.order 9218868437227405312 9218868437227405311 == some .lt || Ieee.double.order 9218868437227405312 9218868437227405311 == some .eq) = false := by decide
theorem nan_cmp {b c : Nat} (h1 : 9218868437227405312 < b) (h2 : b < 9223372036854775808) : Ieee.double.order b c = none := by
  obtain ⟨n, hn⟩ := read_nan h1 h2
  unfold Ieee.Format.order
  rw [hn]
  cases Ieee.double.read c <;> rfl
theorem wrap_bits {b : Nat} (h : b < 18446744073709551616) : (decide (IntKind.wrap .i64 (b : Int) < 0)) = decide (9223372036854775808 ≤ b) := by
  rw [Bool.eq_iff_iff]
  simp only [decide_eq_true_eq]
  unfold IntKind.wrap
  simp [IntKind.signed, IntKind.bits]
  omega
abbrev two64 : Nat := 18446744073709551616
theorem signbit_spec {b : Nat} (hb : b < two64) (k : R (.returned (.bool (decide (9223372036854775808 ≤ b)))) w) : Calls Tryz.prog 226 #[.float .f64 b] w R := by
  refine C_math_Signbit ?_
  unfold T_math_Signbit
  refine fbits_ok ⟨_, rfl, ?_⟩
  rw [wrap_bits hb]; exact k
theorem weight_spec {b : Nat} (hb : b < two64) (k : R (.returned (.bool (Cm.isW b))) w) : Calls Tryz.prog 169 #[.float .f64 b] w R := by
  refine C_conf_weight ?_
  unfold T_conf_weight
  have no : Cm.isW b = false → R (.returned (.bool false)) w := fun e => e ▸ k
  refine runV_ok (run_fgeq _ _ _ _ _) ⟨_, rfl, ite_b (fun h1 => ?_) (fun h1 => no ?_)⟩
  · refine C_math_IsInf ?_
    unfold T_math_IsInf
    rw [if_neg (by decide), if_neg (by decide)]
    refine runV_ok (run_fgtr _ _ _ _ _) ⟨_, rfl, _, rfl, ite_n (fun h2 => signbit_spec hb ⟨_, rfl, congB k ?_⟩) (fun h2 => no ?_)⟩
    · unfold Cm.isW
      rw [Bool.eq_iff_iff]
      simp only [Bool.not_eq_true', decide_eq_true_eq, decide_eq_false_iff_not]
      constructor
      · intro h; omega
      · intro h
        rcases Nat.lt_trichotomy b 9218868437227405312 with h3 | h3 | h3
        · exact h3
        · subst h3; rw [inf_cmp.2.1] at h2; cases h2
        · rw [nan_cmp h3 (by omega)] at h1; cases h1
    · unfold Cm.isW
      rw [decide_eq_false_iff_not]
      intro h3
      rw [(num_lemax h3).1] at h2; cases h2
  · unfold Cm.isW
    rw [decide_eq_false_iff_not]
    intro h3
    rw [num_ge0 h3] at h1; cases h1
/-! ### targets -/
def tV (t : Cm.Tgt) : List Value := [.string (bs t.addr), .float .f64 t.w]
theorem tV_len (t : Cm.Tgt) : (tV t).length = 2 := rfl
theorem tV_one (ts : List Cm.Tgt) : ∀ u ∈ ts.flatMap tV, one u = true := by
  intro u hu
  obtain ⟨t, _, ht⟩ := List.mem_flatMap.1 hu
  simp only [tV, List.mem_cons, List.not_mem_nil, or_false] at ht
  rcases ht with rfl | rfl <;> rfl
/-- What may come in: texts and lists of sizes that there are. -/
def okT (t : Cm.Tgt) : Prop := t.addr.length ≤ huge ∧ t.w < two64
def okTs (l : List Cm.Tgt) : Prop := l.length ≤ huge ∧ ∀ t ∈ l, okT t
variable {F : Fz} {s : Sl} {l : List Cm.Tgt}
theorem tgs_len (hm : kn F ∈ L) (h : St E L w) (hr : RdF F s.1 s.2.1 2 (l.flatMap tV)) : l.length = s.2.1 := hr.count tV_len (by decide) h hm
theorem all_step {α : Type} {p : α → Bool} {l : List α} {j : Nat} (hj : j < l.length) : (l.drop j).all p = (p l[j] && (l.drop (j + 1)).all p) := by
  rw [List.drop_eq_getElem_cons hj, List.all_cons]
theorem targets_spec (hm : kn F ∈ L) (h : St E L w) (hr : RdF F s.1 s.2.1 2 (l.flatMap tV)) (hl : okTs l) (k : ∀ w', St E L w' → R (.returned (.int .i64 (Cm.chkT l))) w') :
    Calls Tryz.prog 100 #[.slice s.1 s.2.1 s.2.2] w R := by
  have hn := tgs_len hm h hr
  refine C_conf_targets ?_
  unfold T_conf_targets T_conf_targets_1
  intro X hX
  refine up_to l.length (Q := fun j => ∀ w, St E L w → (l.all (fun t => Cm.isAddr t.addr) = (l.drop j).all fun t => Cm.isAddr t.addr) → X (j : Int) w) ?_ w h rfl
  intro j hj ih w h he
  refine hX _ _ ?_
  unfold T_conf_targets_1_body
  rw [← hn]
  refine ite_d (fun hc => ?_) (fun hc => ?_)
  · have hjl : j < l.length := by omega
    rw [all_step hjl] at he
    obtain ⟨ad, ha, hrd, _⟩ := (hr.at h hm).elem tV_len (List.getElem?_eq_getElem hjl) (by decide)
    refine ⟨by omega, by omega, ad, ha, _, _, by rw [Int.toNat_natCast]; exact hrd, ?_⟩
    intro w8
    have h8 := h.alloc (.cells #[.string (ByteArray.mk #[]), .float .f64 0] 268)
    refine ⟨rfl, wrOk_agg h8.at_blk (xs := tV l[j]) (by simp [tV]) (by intro u hu; simp [tV] at hu; rcases hu with rfl | rfl <;> rfl), ?_⟩
    intro w9
    have h9 : St E (blkL w.heap.size 268 (tV l[j]) :: L) w9 := h8.wr_agg0 (xs := tV l[j]) rfl
    refine ⟨_, rd_cell h9.at_blk (l := tV l[j]) rfl rfl, address_spec h9.drop (hl.2 _ (List.getElem_mem hjl)).1 fun w' h' => ⟨_, rfl, ite_n (fun h1 => ?_) (fun h1 => ?_)⟩⟩
    · refine congI (k w' h') ?_
      unfold Cm.chkT; rw [he, h1]; rfl
    · rw [h1, Bool.true_and] at he
      rw [succ_huge (by have := hl.1; omega)]
      exact ih hjl _ h' he
  · rw [List.drop_eq_nil_of_le (by omega), List.all_nil] at he
    unfold T_conf_targets_2
    intro Y hY
    refine up_to l.length (Q := fun j => ∀ w, St E L w → (l.all (fun t => Cm.isW t.w) = (l.drop j).all fun t => Cm.isW t.w) → Y (j : Int) w) ?_ w h rfl
    intro j hj ih w h hw
    refine hY _ _ ?_
    unfold T_conf_targets_2_body
    refine ite_d (fun hc => ?_) (fun hc => ?_)
    · have hjl : j < l.length := by omega
      rw [all_step hjl] at hw
      obtain ⟨ad, ha, hrd, _⟩ := (hr.at h hm).elem tV_len (List.getElem?_eq_getElem hjl) (by decide)
      refine ⟨by omega, by omega, ad, ha, _, _, by rw [Int.toNat_natCast]; exact hrd, ?_⟩
      intro w8
      have h8 := h.alloc (.cells #[.string (ByteArray.mk #[]), .float .f64 0] 268)
      refine ⟨rfl, wrOk_agg h8.at_blk (xs := tV l[j]) (by simp [tV]) (by intro u hu; simp [tV] at hu; rcases hu with rfl | rfl <;> rfl), ?_⟩
      intro w9
      have h9 : St E (blkL w.heap.size 268 (tV l[j]) :: L) w9 := h8.wr_agg0 (xs := tV l[j]) rfl
      refine ⟨_, rd_fld h9.at_blk (l := tV l[j]) rfl rfl, weight_spec (hl.2 _ (List.getElem_mem hjl)).2 ⟨_, rfl, ite_n (fun h1 => ?_) (fun h1 => ?_)⟩⟩
      · refine congI (k w9 h9.drop) ?_
        unfold Cm.chkT; rw [he, hw, h1]; rfl
      · rw [h1, Bool.true_and] at hw
        rw [succ_huge (by have := hl.1; omega)]
        exact ih hjl _ h9.drop hw
    · rw [List.drop_eq_nil_of_le (by omega), List.all_nil] at hw
      refine ite_d (fun h1 => congI (k w h) ?_) (fun h1 => congI (k w h) ?_)
      · unfold Cm.chkT; rw [he, hw, if_neg (by simp), if_neg (by simp), if_pos (by omega)]
      · unfold Cm.chkT; rw [he, hw, if_neg (by simp), if_neg (by simp), if_neg (by omega)]
/-! ### commands -/
def cmdL (c : Cm.Cmd) (s : Sl) : List Value := [.int .i64 c.act, .int .i64 c.client, .int .i64 c.seq, .int .i64 c.expect, .string (bs c.host), .string (bs c.pfx), .string (bs c.pool), .slice s.1 s.2.1 s.2.2]
def cmdV (c : Cm.Cmd) (s : Sl) : Value := .agg ⟨cmdL c s⟩
def okC (c : Cm.Cmd) : Prop := c.host.length ≤ huge ∧ c.pfx.length ≤ huge ∧ c.pool.length ≤ huge ∧ okTs c.tg
theorem ne_nil (s : Cm.Bs) : (!((bs s).toList == (ByteArray.mk #[]).toList)) = decide (s ≠ []) := by
  rw [bs_toList, toList_nil]; cases s <;> simp
theorem eq_dec (a b : Int) : (a == b) = decide (a = b) := by rw [Bool.eq_iff_iff]; simp
theorem ne_dec (a b : Int) : (a != b) = decide (a ≠ b) := by rw [Bool.eq_iff_iff]; simp
section
variable {Kn : Bool → World → Prop} {Kp : List PanicEntry → World → Prop} {c : Cm.Cmd} {b : Nat}
theorem u1 (h : St E (blkL b 27 (cmdL c s) :: L) w) (k : Kn (Cm.usesPool c.act) w) : T_conf_Check_1 ⟨b, 0, none⟩ w Kn Kp := by
  unfold T_conf_Check_1
  simp only [eq_dec]
  refine ⟨_, rd_cell h.at_blk rfl rfl, ite_d (fun h1 => cong k ?_) fun h1 => ⟨_, rd_cell h.at_blk rfl rfl, ite_d (fun h2 => cong k ?_) fun h2 => ⟨_, rd_cell h.at_blk rfl rfl, cong k ?_⟩⟩⟩ <;> simp [Cm.usesPool, *]
theorem u2 (h : St E (blkL b 27 (cmdL c s) :: L) w) (k : Kn (Cm.usesRoute c.act) w) : T_conf_Check_2 ⟨b, 0, none⟩ w Kn Kp := by
  unfold T_conf_Check_2
  simp only [eq_dec]
  refine ⟨_, rd_cell h.at_blk rfl rfl, ite_d (fun h1 => cong k ?_) fun h1 => ⟨_, rd_cell h.at_blk rfl rfl, cong k ?_⟩⟩ <;> simp [Cm.usesRoute, *]
theorem u3 (h : St E (blkL b 27 (cmdL c s) :: L) w) (k : Kn (Cm.seqOk c) w) : T_conf_Check_3 ⟨b, 0, none⟩ (c.seq == 0) (c.client != 0) w Kn Kp := by
  unfold T_conf_Check_3
  simp only [eq_dec, ne_dec]
  refine ite_d (fun h1 => ⟨_, rd_fld h.at_blk rfl rfl, ite_d (fun h2 => ⟨_, rd_fld h.at_blk rfl rfl, cong k ?_⟩) fun h2 => cong k ?_⟩) fun h1 => cong k ?_
  · rw [Cm.seqOk, if_neg h1, Bool.eq_iff_iff]; simp; omega
  · rw [Cm.seqOk, if_neg h1]; simp; omega
  · rw [Cm.seqOk, if_pos (by omega)]
theorem u6 (h : St E (blkL b 27 (cmdL c s) :: L) w) (k : Kn (decide (c.client < 0) || decide (32 < c.client)) w) : T_conf_Check_6 ⟨b, 0, none⟩ w Kn Kp := by
  unfold T_conf_Check_6
  refine ⟨_, rd_fld h.at_blk rfl rfl, ite_d (fun h1 => cong k ?_) fun h1 => ⟨_, rd_fld h.at_blk rfl rfl, cong k ?_⟩⟩ <;> simp [*]
theorem u7 (h : St E (blkL b 27 (cmdL c s) :: L) w) (k : Kn (decide (c.expect < -1) || decide (1099511627776 ≤ c.expect)) w) : T_conf_Check_7 ⟨b, 0, none⟩ w Kn Kp := by
  unfold T_conf_Check_7
  refine ⟨_, rd_fld h.at_blk rfl rfl, ite_d (fun h1 => cong k ?_) fun h1 => ⟨_, rd_fld h.at_blk rfl rfl, cong k ?_⟩⟩ <;> simp [*]
theorem u8 {p : Bool} (h : St E (blkL b 27 (cmdL c s) :: L) w) (k : Kn (!p && decide (c.pool ≠ [])) w) : T_conf_Check_8 ⟨b, 0, none⟩ p w Kn Kp := by
  unfold T_conf_Check_8
  refine ite_n (fun h1 => ⟨_, rd_fld h.at_blk rfl rfl, ?_⟩) fun h1 => cong k (by simp [h1])
  rw [ne_nil]; exact cong k (by simp [h1])
theorem u9 {p : Bool} (h : St E (blkL b 27 (cmdL c s) :: L) w) (k : Kn (!p && (decide (c.host ≠ []) || decide (c.pfx ≠ []))) w) : T_conf_Check_9 ⟨b, 0, none⟩ p w Kn Kp := by
  unfold T_conf_Check_9
  refine ite_n (fun h1 => ⟨_, rd_fld h.at_blk rfl rfl, ?_⟩) fun h1 => cong k (by simp [h1])
  rw [ne_nil]
  refine ite_b (fun h2 => cong k (by rw [h1, h2]; rfl)) fun h2 => ⟨_, rd_fld h.at_blk rfl rfl, ?_⟩
  rw [ne_nil]; exact cong k (by rw [h1, h2]; simp)
theorem u5 (h : St E (blkL b 27 (cmdL c s) :: L) w) (hn : c.tg.length = s.2.1) (k : Kn (Cm.argBad c) w) : T_conf_Check_5 ⟨b, 0, none⟩ (Cm.usesPool c.act) (Cm.usesRoute c.act) (Cm.seqOk c) (!Cm.usesPool c.act && !Cm.usesRoute c.act) w Kn Kp := by
  unfold T_conf_Check_5
  have hk : ∀ q, Cm.argBad c = q → Kn q w := fun q e => e ▸ k
  unfold Cm.argBad at hk
  refine ite_b (fun h1 => hk _ ?_) fun h1 => u6 h (ite_b (fun h2 => hk _ ?_) fun h2 => ite_n (fun h3 => hk _ ?_) fun h3 => u7 h (ite_b (fun h4 => hk _ ?_) fun h4 => u8 h (ite_b (fun h5 => hk _ ?_) fun h5 => u9 h (ite_b (fun h6 => hk _ ?_) fun h6 => ⟨_, rd_cell h.at_blk rfl rfl, ?_⟩))))
  · rw [h1]; simp
  · rw [Bool.or_eq_true] at h2; rcases h2 with h2 | h2 <;> rw [h2] <;> simp
  · rw [h3]; simp
  · rw [Bool.or_eq_true] at h4; rcases h4 with h4 | h4 <;> rw [h4] <;> simp
  · rw [h5]; simp
  · rw [h6]; simp
  · have e0 : ((!Cm.usesPool c.act && !Cm.usesRoute c.act) || decide (c.client < 0) || decide (32 < c.client) || !Cm.seqOk c || decide (c.expect < -1) || decide (1099511627776 ≤ c.expect) ||
        (!Cm.usesPool c.act && decide (c.pool ≠ [])) || (!Cm.usesRoute c.act && (decide (c.host ≠ []) || decide (c.pfx ≠ [])))) = false := by
      simp only [Bool.or_eq_false_iff] at h2 h4
      rw [h1, h2.1, h2.2, h3, h4.1, h4.2, h5, h6]; rfl
    rw [e0, Bool.false_or] at hk
    rw [ne_dec]
    refine ite_d (fun h7 => ⟨_, _, _, rd_fld h.at_blk rfl rfl, hk _ ?_⟩) fun h7 => hk _ ?_
    · rw [hn, decide_eq_true h7, Bool.true_and, Bool.eq_iff_iff]; simp
    · rw [decide_eq_false h7]; rfl
theorem u10 (h : St E (blkL b 27 (cmdL c s) :: L) w) (hc : okC c) (k : ∀ w', St E (blkL b 27 (cmdL c s) :: L) w' → Kn (Cm.usesPool c.act && !Cm.isName c.pool) w') : T_conf_Check_10 ⟨b, 0, none⟩ (Cm.usesPool c.act) w Kn Kp := by
  unfold T_conf_Check_10
  refine ite_b (fun h1 => ⟨_, rd_fld h.at_blk rfl rfl, poolName_spec h hc.2.2.1 fun w' h' => ⟨_, rfl, cong (k w' h') ?_⟩⟩) fun h1 => cong (k w h) ?_ <;> simp [h1]
end
theorem Check_spec {c : Cm.Cmd} (hm : kn F ∈ L) (h : St E L w) (hr : RdF F s.1 s.2.1 2 (c.tg.flatMap tV)) (hc : okC c) (k : ∀ w', St E L w' → R (.returned (.int .i64 (Cm.chk c))) w') :
    Calls Tryz.prog 198 #[cmdV c s] w R := by
  have hn := tgs_len hm h hr
  refine C_conf_Check ?_
  unfold T_conf_Check
  intro w9
  have h9 : St E (blkL w.heap.size 27 (cmdL c s) :: L) w9 := h.alloc (.cells ⟨cmdL c s⟩ 27)
  refine u1 h9 (u2 h9 ⟨_, rd_fld h9.at_blk rfl rfl, _, rd_fld h9.at_blk rfl rfl, u3 h9 ?_⟩)
  have fin : ∀ w' (q : Int), St E L w' → Cm.chk c = q → R (.returned (.int .i64 q)) w' := fun w' q h' e => e ▸ k w' h'
  have u4 : T_conf_Check_4 (Cm.usesPool c.act) (Cm.usesRoute c.act) w9 = fun Kn Kp => if (!Cm.usesPool c.act) = true then Kn (!Cm.usesRoute c.act) w9 else Kn false w9 := rfl
  have u4' : ∀ (Kn : Bool → World → Prop) (Kp), Kn (!Cm.usesPool c.act && !Cm.usesRoute c.act) w9 → T_conf_Check_4 (Cm.usesPool c.act) (Cm.usesRoute c.act) w9 Kn Kp := fun Kn Kp hk => by
    rw [u4]; exact ite_n (fun h1 => cong hk (by simp [h1])) fun h1 => cong hk (by simp [h1])
  refine u4' _ _ (u5 h9 hn (ite_b (fun h1 => fin _ _ h9.drop ?_) fun h1 => u10 h9 hc fun w1 hw1 => ?_))
  · unfold Cm.chk; rw [h1]; rfl
  · have tg : ∀ w2, St E (blkL w.heap.size 27 (cmdL c s) :: L) w2 → Cm.nameBad c = false → ∃ (s95a : Option Addr) (s95l s95c : Nat), rd w2 ((⟨w.heap.size, 0, none⟩ : Addr).add 7) (.slice s95a s95l s95c) ∧
        Calls Tryz.prog 100 #[.slice s95a s95l s95c] w2 (ret (fun r96 w97 => ∃ x98 : Int, r96 = .int .i64 x98 ∧ R (.returned (.int .i64 x98)) w97) (pan R)) := fun w2 hw2 e =>
      ⟨_, _, _, rd_fld hw2.at_blk rfl rfl, targets_spec (List.mem_cons_of_mem _ hm) hw2 hr hc.2.2.2 fun w3 hw3 => ⟨_, rfl, fin _ _ hw3.drop (by unfold Cm.chk; rw [h1, e]; rfl)⟩⟩
    refine ite_b (fun h2 => ite_b (fun _ => fin _ _ hw1.drop ?_) fun hh => by rw [h2] at hh; cases hh) fun h2 => ite_b (fun h3 => ⟨_, rd_fld hw1.at_blk rfl rfl, host_spec hw1 hc.1 fun w2 hw2 => ⟨_, rfl, ite_n (fun h4 => fin _ _ hw2.drop ?_) fun h4 => ⟨_, rd_fld hw2.at_blk rfl rfl, prefix_spec hw2 hc.2.1 fun w3 hw3 => ⟨_, rfl, ite_n (fun h5 => fin _ _ hw3.drop ?_) fun h5 => tg w3 hw3 ?_⟩⟩⟩⟩) fun h3 => tg w1 hw1 ?_
    · unfold Cm.chk Cm.nameBad; rw [h1, h2]; rfl
    · unfold Cm.chk Cm.nameBad; rw [h1, h2, h3, h4]; rfl
    · unfold Cm.chk Cm.nameBad; rw [h1, h2, h3, h4, h5]; rfl
    · unfold Cm.nameBad; rw [h2, h3, h4, h5]; rfl
    · unfold Cm.nameBad; rw [h2, h3]; rfl
/-! ### the document's -/
section
variable {Kn : Bool → World → Prop} {Kp : List PanicEntry → World → Prop} {c : Cm.Cmd} {b : Nat}
def bad1 (c : Cm.Cmd) : Bool := decide (c.act < 1) || (decide (4 < c.act) || (decide (c.client < 0) || (decide (32 < c.client) || (decide (c.expect < -1) || decide (1099511627776 ≤ c.expect)))))
end
theorem argBad_1 {c : Cm.Cmd} (h0 : bad1 c = true) : Cm.argBad c = true := by
  simp only [bad1, Bool.or_eq_true, decide_eq_true_eq] at h0
  simp only [Cm.argBad, Bool.or_eq_true]
  by_cases h1 : c.act < 1 ∨ 4 < c.act
  · have e : (!Cm.usesPool c.act && !Cm.usesRoute c.act) = true := by simp [Cm.usesPool, Cm.usesRoute]; omega
    simp [e]
  · by_cases h2 : c.client < 0
    · simp [h2]
    · by_cases h3 : 32 < c.client
      · simp [h3]
      · by_cases h4 : c.expect < -1
        · simp [h4]
        · have h5 : 1099511627776 ≤ c.expect := by omega
          simp [h5]
theorem argBad_2 {c : Cm.Cmd} (h0 : Cm.seqOk c = false) : Cm.argBad c = true := by simp [Cm.argBad, h0]
theorem argBad_3 {c : Cm.Cmd} (h0 : bad1 c = false) (h1 : Cm.seqOk c = true) : Cm.argBad c =
    ((!Cm.usesPool c.act && decide (c.pool ≠ [])) || (!Cm.usesRoute c.act && (decide (c.host ≠ []) || decide (c.pfx ≠ []))) || (decide (c.act ≠ 1) && decide (0 < c.tg.length))) := by
  simp only [bad1, Bool.or_eq_false_iff, decide_eq_false_iff_not] at h0
  obtain ⟨a1, a2, a3, a4, a5, a6⟩ := h0
  have e : (!Cm.usesPool c.act && !Cm.usesRoute c.act) = false := by simp [Cm.usesPool, Cm.usesRoute]; omega
  unfold Cm.argBad
  rw [e, decide_eq_false a3, decide_eq_false a4, h1, decide_eq_false a5, decide_eq_false a6]
  rfl
end
end Go.Vc

/-
  What the functions' code comes to; printed by a program of this claim's own.
-/
namespace Go.Proofs.YtaocnfjhfmapkaaGreatDoor
open Go Go.Vc
set_option maxRecDepth 100000
set_option linter.unusedVariables false
variable {w : World} {R : ERP}

/-! tollgate/conf.num -/
def T_conf_num (b1a : Option Addr) (b1l b1c : Nat) (n2 : Int) (w : World) (R : ERP) : Prop :=
  Calls Tryz.prog 160 #[.int .i64 n2] w (ret (fun r3 w4 => ∃ (s5a : Option Addr) (s5l s5c : Nat) (x6 : Int), r3 = .tuple #[.slice s5a s5l s5c, .int .i64 x6] ∧ runV Tryz.prog (Builtin.append_ #[58, 58] 58 #[.slice b1a b1l b1c, .slice s5a s5l s5c]) w4 (fun r7 w8 => ∃ (s9a : Option Addr) (s9l s9c : Nat), r7 = .slice s9a s9l s9c ∧ R (.returned (.slice s9a s9l s9c)) w8) (pan R)) (pan R))

theorem C_conf_num {b1a : Option Addr} {b1l b1c : Nat} {n2 : Int} (h : T_conf_num b1a b1l b1c n2 w R) : Calls Tryz.prog 172 #[.slice b1a b1l b1c, .int .i64 n2] w R := cc mixed Tryz.func172 hz h

/-! tollgate/conf.text -/
def T_conf_text (b1a : Option Addr) (b1l b1c : Nat) (s2 : ByteArray) (w : World) (R : ERP) : Prop :=
  Calls Tryz.prog 172 #[.slice b1a b1l b1c, .int .i64 (s2.size : Int)] w (ret (fun r3 w4 => ∃ (s5a : Option Addr) (s5l s5c : Nat), r3 = .slice s5a s5l s5c ∧ runV Tryz.prog (Builtin.append_ #[58, 9] 58 #[.slice s5a s5l s5c, .string s2]) w4 (fun r6 w7 => ∃ (s8a : Option Addr) (s8l s8c : Nat), r6 = .slice s8a s8l s8c ∧ R (.returned (.slice s8a s8l s8c)) w7) (pan R)) (pan R))

theorem C_conf_text {b1a : Option Addr} {b1l b1c : Nat} {s2 : ByteArray} (h : T_conf_text b1a b1l b1c s2 w R) : Calls Tryz.prog 175 #[.slice b1a b1l b1c, .string s2] w R := cc mixed Tryz.func175 hz h

/-! tollgate/conf.float -/
def T_conf_float_1_body (X : Option Addr → Nat → Nat → Int → WP) (b3a : Option Addr) (b3l b3c : Nat) (k4 : Int) (w5 : Nat) (w : World) (Kn : Option Addr → Nat → Nat → WP) (Kp : KP) : Prop :=
  if (decide ((k4 : Int) ≥ 0)) = true then (runV Tryz.prog (callFunc 293 #[.float .f64 w5]) w (nxv (fun r6 w7 => ∃ x8 : Int, r6 = .int .u64 x8 ∧ runV Tryz.prog (do eqGuard .shr 371 (.tmp 12) (.tmp 13) (.int .u64 x8) (.int .i64 k4); binOp .shr 371 (.int .u64 x8) (.int .i64 k4)) w7 (fun r9 w10 => ∃ x11 : Int, r9 = .int .u64 x11 ∧ let w12 := w10.alloc (.cells #[.int .u8 (IntKind.wrap .u8 x11)] 5)
  runV Tryz.prog (Builtin.append_ #[58, 58] 58 #[.slice b3a b3l b3c, .slice (some ⟨w10.heap.size, 0, none⟩) 1 1]) w12 (fun r13 w14 => ∃ (s15a : Option Addr) (s15l s15c : Nat), r13 = .slice s15a s15l s15c ∧ X s15a s15l s15c (IntKind.wrap .i64 ((k4 : Int) - 8)) w14) Kp) Kp)) Kp) else (Kn b3a b3l b3c w)

def T_conf_float_1 (b3a : Option Addr) (b3l b3c : Nat) (k4 : Int) (w5 : Nat) (w : World) (Kn : Option Addr → Nat → Nat → WP) (Kp : KP) : Prop :=
  ∀ X : Option Addr → Nat → Nat → Int → WP, (∀ (b3a : Option Addr) (b3l b3c : Nat) (k4 : Int) (w : World), T_conf_float_1_body X b3a b3l b3c k4 w5 w Kn Kp → X b3a b3l b3c k4 w) → X b3a b3l b3c k4 w

def H_conf_float_1 : Env → World → QT → Prop := unitHook 19 (ksOf [0, 5, 6, 7, 8, 9, 10, 11, 12, 13, 14, 15, 16, 17]) ([(0, .slice none 0 0), (5, .int .i64 0)] ++ [(1, .float .f64 0)]) (oF (some [(0, .slice none 0 0)]) none []) fun l w C => T_conf_float_1 (pA (nv l 0)) (pL (nv l 0)) (pC (nv l 0)) (pInt (nv l 1)) (pFlt (nv l 2)) w (fun b17a b17l b17c => C .normal [.slice b17a b17l b17c]) (fun ch => C (.panic ch) [])

theorem T_conf_float_1_ok : UnitOk Tryz.prog H_conf_float_1 (at_ (bodyOf Tryz.f228) [1, 0, 1]) 13 := lk 0 (B := fun C X l u w => T_conf_float_1_body (fun b3a b3l b3c k4 => X [.slice b3a b3l b3c, .int .i64 k4]) (pA (nv l 0)) (pL (nv l 0)) (pC (nv l 0)) (pInt (nv l 1)) (pFlt (nv u 0)) w (fun b18a b18l b18c => C .normal [.slice b18a b18l b18c]) (fun ch => C (.panic ch) [])) hz (fun l u w C => ⟨fun h X hX => h (fun b3a b3l b3c k4 => X [.slice b3a b3l b3c, .int .i64 k4]) fun b3a b3l b3c k4 w hb => hX [.slice b3a b3l b3c, .int .i64 k4] w hb, fun h X hX => h (fun l w => X (pA (nv l 0)) (pL (nv l 0)) (pC (nv l 0)) (pInt (nv l 1)) w) fun l w hb => hX (pA (nv l 0)) (pL (nv l 0)) (pC (nv l 0)) (pInt (nv l 1)) w hb⟩)

def T_conf_float (b1a : Option Addr) (b1l b1c w2 : Nat) (w : World) (R : ERP) : Prop :=
  T_conf_float_1 b1a b1l b1c 56 w2 w (fun b19a b19l b19c w20 => R (.returned (.slice b19a b19l b19c)) w20) (pan R)

theorem C_conf_float {b1a : Option Addr} {b1l b1c w2 : Nat} (h : T_conf_float b1a b1l b1c w2 w R) : Calls Tryz.prog 228 #[.slice b1a b1l b1c, .float .f64 w2] w R := cc mixed Tryz.func228 (hA (H := hookAt [(13, H_conf_float_1)]) (hc T_conf_float_1_ok hn)) h

/-! tollgate/conf.row -/
def T_conf_row_1_body (X : Option Addr → Nat → Nat → Int → WP) (b6a : Option Addr) (b6l b6c : Nat) (x7 : Int) (s8a : Option Addr) (s8l s8c : Nat) (x9 : Int) (w : World) (Kn : Option Addr → Nat → Nat → WP) (Kp : KP) : Prop :=
  if (decide ((x7 : Int) < x9)) = true then (0 ≤ (x7 : Int) ∧ (x7 : Int) < (s8l : Int) ∧ ∃ b10, s8a = some b10 ∧ ∃ (s11 : ByteArray) (f12 : Nat), rd w (b10.add ((x7 : Int).toNat * 2)) (.agg #[.string s11, .float .f64 f12]) ∧ let w13 := w.alloc (.cells #[.string (ByteArray.mk #[]), .float .f64 0] 268)
  (.agg #[.string s11, .float .f64 f12] : Value).cells.size = 2 ∧ wrOk w13 (⟨w.heap.size, 0, none⟩ : Addr) (.agg #[.string s11, .float .f64 f12]) ∧ let w14 := wr w13 (⟨w.heap.size, 0, none⟩ : Addr) (.agg #[.string s11, .float .f64 f12])
  let w15 := w14.drew
  ∃ s16 : ByteArray, rd w15 (⟨w.heap.size, 0, none⟩ : Addr) (.string s16) ∧ ∃ f17 : Nat, rd w15 ((⟨w.heap.size, 0, none⟩ : Addr).add 1) (.float .f64 f17) ∧ Calls Tryz.prog 175 #[.slice b6a b6l b6c, .string s16] w15 (ret (fun r18 w19 => ∃ (s20a : Option Addr) (s20l s20c : Nat), r18 = .slice s20a s20l s20c ∧ (rd w19 ((⟨w.heap.size, 0, none⟩ : Addr).add 1) (.float .f64 f17) ∧ True) ∧ Calls Tryz.prog 228 #[.slice s20a s20l s20c, .float .f64 f17] w19 (ret (fun r21 w22 => ∃ (s23a : Option Addr) (s23l s23c : Nat), r21 = .slice s23a s23l s23c ∧ (True) ∧ X s23a s23l s23c (IntKind.wrap .i64 ((x7 : Int) + 1)) w22) Kp)) Kp)) else (Kn b6a b6l b6c w)

def T_conf_row_1 (b6a : Option Addr) (b6l b6c : Nat) (x7 : Int) (s8a : Option Addr) (s8l s8c : Nat) (x9 : Int) (w : World) (Kn : Option Addr → Nat → Nat → WP) (Kp : KP) : Prop :=
  ∀ X : Option Addr → Nat → Nat → Int → WP, (∀ (b6a : Option Addr) (b6l b6c : Nat) (x7 : Int) (w : World), T_conf_row_1_body X b6a b6l b6c x7 s8a s8l s8c x9 w Kn Kp → X b6a b6l b6c x7 w) → X b6a b6l b6c x7 w

def H_conf_row_1 : Env → World → QT → Prop := unitHook 26 (ksOf [0, 6, 13, 14, 15, 16, 17, 18, 19, 20, 21, 22, 23, 24]) ([(0, .slice none 0 0), (13, .int .i64 0)] ++ [(11, .slice none 0 0), (12, .int .i64 0)]) (oF (some [(0, .slice none 0 0)]) none []) fun l w C => T_conf_row_1 (pA (nv l 0)) (pL (nv l 0)) (pC (nv l 0)) (pInt (nv l 1)) (pA (nv l 2)) (pL (nv l 2)) (pC (nv l 2)) (pInt (nv l 3)) w (fun b25a b25l b25c => C .normal [.slice b25a b25l b25c]) (fun ch => C (.panic ch) [])

theorem T_conf_row_1_ok : UnitOk Tryz.prog H_conf_row_1 (at_ (bodyOf Tryz.f174) [1, 1, 0, 1]) 29 := lk 0 (B := fun C X l u w => T_conf_row_1_body (fun b6a b6l b6c x7 => X [.slice b6a b6l b6c, .int .i64 x7]) (pA (nv l 0)) (pL (nv l 0)) (pC (nv l 0)) (pInt (nv l 1)) (pA (nv u 0)) (pL (nv u 0)) (pC (nv u 0)) (pInt (nv u 1)) w (fun b26a b26l b26c => C .normal [.slice b26a b26l b26c]) (fun ch => C (.panic ch) [])) hz (fun l u w C => ⟨fun h X hX => h (fun b6a b6l b6c x7 => X [.slice b6a b6l b6c, .int .i64 x7]) fun b6a b6l b6c x7 w hb => hX [.slice b6a b6l b6c, .int .i64 x7] w hb, fun h X hX => h (fun l w => X (pA (nv l 0)) (pL (nv l 0)) (pC (nv l 0)) (pInt (nv l 1)) w) fun l w hb => hX (pA (nv l 0)) (pL (nv l 0)) (pC (nv l 0)) (pInt (nv l 1)) w hb⟩)

def T_conf_row (b1a : Option Addr) (b1l b1c : Nat) (l2a : Option Addr) (l2l l2c : Nat) (w : World) (R : ERP) : Prop :=
  Calls Tryz.prog 172 #[.slice b1a b1l b1c, .int .i64 (l2l : Int)] w (ret (fun r3 w4 => ∃ (s5a : Option Addr) (s5l s5c : Nat), r3 = .slice s5a s5l s5c ∧ T_conf_row_1 s5a s5l s5c 0 l2a l2l l2c (l2l : Int) w4 (fun b27a b27l b27c w28 => R (.returned (.slice b27a b27l b27c)) w28) (pan R)) (pan R))

theorem C_conf_row {b1a : Option Addr} {b1l b1c : Nat} {l2a : Option Addr} {l2l l2c : Nat} (h : T_conf_row b1a b1l b1c l2a l2l l2c w R) : Calls Tryz.prog 174 #[.slice b1a b1l b1c, .slice l2a l2l l2c] w R := cc mixed Tryz.func174 (hA (H := hookAt [(29, H_conf_row_1)]) (hc T_conf_row_1_ok hn)) h

end Go.Proofs.YtaocnfjhfmapkaaGreatDoor

/-
  Numbers, texts, weights, targets as bytes: appended and taken; the program's functions and the document's.
-/
namespace Go.Vc
open Go Go.Proofs Go.Proofs.YtaocnfjhfmapkaaGreatDoor
set_option maxRecDepth 100000

/-! ### arithmetic -/
theorem ofInt_nat (n : Nat) (h : n < 18446744073709551616) : (BitVec.ofInt 64 (n : Int)).toNat = n := by
  rw [BitVec.toNat_ofInt]; omega
theorem and127 (n : Nat) (h : n < 18446744073709551616) : ((BitVec.ofInt (IntKind.bits .i64) (n : Int)) &&& (BitVec.ofInt (IntKind.bits .i64) 127)).toNat = n % 128 := by
  show ((BitVec.ofInt 64 (n : Int)) &&& (BitVec.ofInt 64 127)).toNat = _
  rw [BitVec.toNat_and, ofInt_nat n h, show (BitVec.ofInt 64 127).toNat = 2 ^ 7 - 1 from by decide, Nat.and_two_pow_sub_one_eq_mod]
theorem or128 : ∀ x : Fin 128, x.val ||| 128 = x.val + 128 := by decide
theorem wrap_nat {n : Nat} (h : n < 9223372036854775808) : IntKind.wrap .i64 (n : Int) = n := wrap_id (by omega) (by omega)
theorem wrap_u8 {n : Nat} (h : n < 256) : IntKind.wrap .u8 (n : Int) = n := by
  unfold IntKind.wrap
  simp [IntKind.signed, IntKind.bits]
  omega
theorem wrap_u8_mod (n : Nat) : IntKind.wrap .u8 (n : Int) = ((UInt8.ofNat n).toNat : Int) := by
  unfold IntKind.wrap
  simp [IntKind.signed, IntKind.bits]
theorem low7 (n : Nat) (h : n < 9223372036854775808) : IntKind.wrap .u8 (IntKind.wrap .i64 ((BitVec.ofInt (IntKind.bits .i64) (IntKind.wrap .i64 ((BitVec.ofInt (IntKind.bits .i64) (n : Int)) &&& (BitVec.ofInt (IntKind.bits .i64) 127)).toNat)) ||| (BitVec.ofInt (IntKind.bits .i64) 128)).toNat) = ((UInt8.ofNat (n % 128 + 128)).toNat : Int) := by
  rw [and127 n (by omega), wrap_nat (n := n % 128) (by omega)]
  have e : ((BitVec.ofInt (IntKind.bits .i64) ((n % 128 : Nat) : Int)) ||| (BitVec.ofInt (IntKind.bits .i64) 128)).toNat = n % 128 + 128 := by
    show ((BitVec.ofInt 64 ((n % 128 : Nat) : Int)) ||| (BitVec.ofInt 64 128)).toNat = _
    rw [BitVec.toNat_or, ofInt_nat _ (by omega), show (BitVec.ofInt 64 128).toNat = 128 from by decide]
    exact or128 ⟨n % 128, by omega⟩
  rw [e, wrap_nat (n := n % 128 + 128) (by omega), wrap_u8_mod]
theorem or_add {acc x k : Nat} (h : acc < 2 ^ k) (hb : x * 2 ^ k + acc < 9223372036854775808) : IntKind.wrap .i64 ((BitVec.ofInt (IntKind.bits .i64) (acc : Int)) ||| (BitVec.ofInt (IntKind.bits .i64) ((x * 2 ^ k : Nat) : Int))).toNat = ((acc + x * 2 ^ k : Nat) : Int) := by
  have e : ((BitVec.ofInt (IntKind.bits .i64) (acc : Int)) ||| (BitVec.ofInt (IntKind.bits .i64) ((x * 2 ^ k : Nat) : Int))).toNat = acc + x * 2 ^ k := by
    show ((BitVec.ofInt 64 (acc : Int)) ||| (BitVec.ofInt 64 ((x * 2 ^ k : Nat) : Int))).toNat = _
    rw [BitVec.toNat_or, ofInt_nat _ (by omega), ofInt_nat _ (by omega), Nat.or_comm, Nat.mul_comm x, ← Nat.two_pow_add_eq_or_of_lt h, Nat.add_comm]
  rw [e, wrap_nat (by omega)]

section
variable {E w : World} {L : List Asrt} {R : Ending → World → Prop} {F : Fz}

/-! ### bytes of ours -/
def byA (s : Sl) (xs : Cm.Bs) : Asrt := ownS s.1 s.2.1 s.2.2 5 1 (bytesV xs)
theorem St.by_len {s : Sl} {xs : Cm.Bs} (h : St E (byA s xs :: L) w) : xs.length = s.2.1 := by have := h.ownS_facts.1; rw [bytesV_len] at this; omega
theorem St.by_nil (h : St E L w) : St E (byA (none, 0, 0) [] :: L) w := h.ownS_nil
theorem St.by_new (h : St E L w) (xs : Cm.Bs) (hl : xs.length ≤ big) : St E (byA (some ⟨w.heap.size, 0, none⟩, xs.length, xs.length) xs :: L) (w.alloc (.cells ⟨bytesV xs⟩ 5)) :=
  (St.ownS_mk (xs := bytesV xs) (rest := []) (l := xs.length) (c := xs.length) (sz := 1) (by rw [List.append_nil]; exact h.alloc _) (by rw [bytesV_len]; omega) (Nat.le_refl _) (by unfold big at hl; unfold maxLen; omega) (by simp) :)
theorem app_b {s : Sl} {a2 : Option Addr} {l2 c2 : Nat} {xs ys : Cm.Bs} (h : St E (byA s xs :: L) w) (hro : RdS w a2 l2 1 (bytesV ys)) (hb : xs.length + ys.length ≤ big) :
    ∃ (s' : Sl) (w' : World), (Builtin.append_ #[58, 58] 58 #[.slice s.1 s.2.1 s.2.2, .slice a2 l2 c2]).run Tryz.prog w = .ok (.slice s'.1 s'.2.1 s'.2.2) w' ∧ St E (byA s' (xs ++ ys) :: L) w' := by
  have hl := h.by_len
  have hl2 : ys.length = l2 := by have := hro.1; rw [bytesV_len] at this; omega
  obtain ⟨a', c', w', hr, hs⟩ := append_own (P := Tryz.prog) (t := 58) (ty := 58) (e := 5) (i := Tryz.t5) (z := .int .u8 0) (by kernel_rfl) (by kernel_rfl) (by kernel_rfl) (by kernel_rfl) (by decide) (c2 := c2) h hro (bytesV_one ys)
    (by have : Tryz.t5.bytes = 1 := by kernel_rfl
        rw [this]; unfold big at hb; omega) (by unfold big at hb; unfold maxLen; omega)
  exact ⟨(a', s.2.1 + l2, c'), w', hr, by rw [byA, bytesV_app]; exact hs⟩
theorem app_1 {s : Sl} {xs : Cm.Bs} {x : UInt8} (h : St E (byA s xs :: L) w) (hb : xs.length + 1 ≤ big) :
    ∃ (s' : Sl) (w' : World), (Builtin.append_ #[58, 58] 58 #[.slice s.1 s.2.1 s.2.2, .slice (some ⟨w.heap.size, 0, none⟩) 1 1]).run Tryz.prog (w.alloc (.cells #[.int .u8 (x.toNat : Int)] 5)) = .ok (.slice s'.1 s'.2.1 s'.2.2) w' ∧ St E (byA s' (xs ++ [x]) :: L) w' := by
  have h2 : St E (byA (some ⟨w.heap.size, 0, none⟩, 1, 1) [x] :: byA s xs :: L) (w.alloc (.cells #[.int .u8 (x.toNat : Int)] 5)) := h.by_new [x] (show 1 ≤ big by decide)
  obtain ⟨s', w', hr, hs⟩ := app_b (c2 := 1) h2.f1 (St.rdS_own h2) (by simpa using hb)
  exact ⟨s', w', hr, hs.f1.drop⟩
theorem app_s {s : Sl} {xs ys : Cm.Bs} (h : St E (byA s xs :: L) w) (hb : xs.length + ys.length ≤ big) :
    ∃ (s' : Sl) (w' : World), (Builtin.append_ #[58, 9] 58 #[.slice s.1 s.2.1 s.2.2, .string (bs ys)]).run Tryz.prog w = .ok (.slice s'.1 s'.2.1 s'.2.2) w' ∧ St E (byA s' (xs ++ ys) :: L) w' := by
  have hl := h.by_len
  obtain ⟨a', c', w', hr, hs⟩ := append_str (P := Tryz.prog) (t := 58) (u := 9) (ty := 58) (e := 5) (i := Tryz.t5) (z := .int .u8 0) (by kernel_rfl) (by kernel_rfl) (by kernel_rfl) (by kernel_rfl) (by kernel_rfl) (by kernel_rfl) (by kernel_rfl) (s := bs ys) h
    (by rw [bs_size]; unfold big at hb; omega)
  exact ⟨(a', s.2.1 + (bs ys).size, c'), w', hr, by rw [byA, bytesV_app]; exact hs⟩

/-! ### numbers -/
theorem number_spec {s : Sl} {xs : Cm.Bs} (j : Nat) {n : Nat} (hn : n < 128 ^ (j + 1)) (hj : j ≤ 5) (h : St E (byA s xs :: L) w) (hb : xs.length + 6 ≤ big)
    (k : ∀ (w' : World) (s' : Sl), St E (byA s' (xs ++ Cm.encNF j n) :: L) w' → R (.returned (.slice s'.1 s'.2.1 s'.2.2)) w') : Calls Tryz.prog 178 #[.slice s.1 s.2.1 s.2.2, .int .i64 (n : Int)] w R := by
  refine C_wire_number ?_
  unfold T_wire_number T_wire_number_1
  intro X hX
  have go : ∀ (j : Nat) (n : Nat) (s : Sl) (ys : Cm.Bs) (w : World), n < 128 ^ (j + 1) → j ≤ 5 → ys.length + j + 1 ≤ big → St E (byA s ys :: L) w → (∀ (w' : World) (s' : Sl), St E (byA s' (ys ++ Cm.encNF j n) :: L) w' → R (.returned (.slice s'.1 s'.2.1 s'.2.2)) w') → X s.1 s.2.1 s.2.2 (n : Int) w := by
    intro j
    induction j with
    | zero =>
      intro n s ys w hn hj hb h k
      refine hX _ _ _ _ _ ?_
      unfold T_wire_number_1_body
      refine ite_d (fun hc => absurd hc (by have : n < 128 := by simpa using hn
                                            omega)) (fun hc => ?_)
      dsimp -zeta only
      intro w20
      obtain ⟨s', w', hr, hs⟩ := app_1 (x := UInt8.ofNat n) h (by omega)
      rw [← wrap_u8_mod] at hr
      exact runV_ok hr ⟨_, _, _, rfl, k _ _ hs⟩
    | succ j ih =>
      intro n s ys w hn hj hb h k
      refine hX _ _ _ _ _ ?_
      unfold T_wire_number_1_body
      have hn2 : n < 9223372036854775808 := Nat.lt_of_lt_of_le hn (Nat.le_trans (Nat.pow_le_pow_right (by decide) (by omega : j + 1 + 1 ≤ 6)) (by decide))
      refine ite_d (fun hc => ?_) (fun hc => ?_)
      · intro w5
        obtain ⟨s', w', hr, hs⟩ := app_1 (x := UInt8.ofNat (n % 128 + 128)) h (by omega)
        rw [← low7 n hn2] at hr
        refine runV_ok hr ⟨_, _, _, rfl, ?_⟩
        rw [show Int.fdiv (n : Int) (2 ^ 7) = ((n / 128 : Nat) : Int) from by
          rw [Int.fdiv_eq_ediv_of_nonneg _ (by decide)]; norm_cast]
        refine ih (n / 128) s' _ _ (by rw [Nat.div_lt_iff_lt_mul (by decide)]; rwa [Nat.pow_succ] at hn) (by omega) (by simp; omega) hs fun w2 s2 h2 => k w2 s2 ?_
        rw [Cm.encNF, if_neg (by omega)]
        simpa using h2
      · dsimp -zeta only
        intro w20
        obtain ⟨s', w', hr, hs⟩ := app_1 (x := UInt8.ofNat n) h (by omega)
        rw [← wrap_u8_mod] at hr
        refine runV_ok hr ⟨_, _, _, rfl, k _ _ ?_⟩
        rw [Cm.encNF, if_pos (by omega)]
        exact hs
  exact go j n s xs w hn hj (by omega) h k
theorem num_len (n : Int) : (Cm.num n).length ≤ 6 := by
  unfold Cm.num
  split
  · simp
  · have : ∀ j n, (Cm.encNF j n).length ≤ j + 1 := by
      intro j
      induction j with
      | zero => intro n; simp [Cm.encNF]
      | succ j ih => intro n; rw [Cm.encNF]; split <;> simp [ih]
    exact this 5 _
def numE (n : Int) : Int := if n < 0 ∨ 1099511627776 < n then 2 else 0
theorem Number_spec {n : Int} (h : St E L w) (k : ∀ (w' : World) (s' : Sl), St E (byA s' (Cm.num n) :: L) w' → R (.returned (.tuple #[.slice s'.1 s'.2.1 s'.2.2, .int .i64 (numE n)])) w') : Calls Tryz.prog 160 #[.int .i64 n] w R := by
  refine C_wire_Number ?_
  unfold T_wire_Number
  unfold numE Cm.num at k
  refine ite_d (fun h1 => ?_) fun h1 => ite_d (fun h2 => ?_) fun h2 => ?_
  · rw [if_pos (.inl h1), if_pos (.inl h1)] at k
    exact k w (none, 0, 0) h.by_nil
  · rw [if_pos (.inr (by omega)), if_pos (.inr (by omega))] at k
    exact k w (none, 0, 0) h.by_nil
  · rw [if_neg (by omega), if_neg (by omega)] at k
    obtain ⟨m, rfl⟩ := Int.eq_ofNat_of_zero_le (by omega : 0 ≤ n)
    exact number_spec (s := (none, 0, 0)) (xs := []) 5 (n := m) (by omega) (by omega) h.by_nil (by decide) fun w' s' h' => ⟨_, _, _, rfl, k w' s' (by simpa using h')⟩
section
variable {s : Sl} {xs : Cm.Bs}
theorem num_spec {n : Int} (h : St E (byA s xs :: L) w) (hb : xs.length + 6 ≤ big) (k : ∀ (w' : World) (s' : Sl), St E (byA s' (xs ++ Cm.num n) :: L) w' → R (.returned (.slice s'.1 s'.2.1 s'.2.2)) w') : Calls Tryz.prog 172 #[.slice s.1 s.2.1 s.2.2, .int .i64 n] w R := by
  refine C_conf_num ?_
  unfold T_conf_num
  refine Number_spec h fun w' s' h' => ⟨_, _, _, _, rfl, ?_⟩
  obtain ⟨s2, w2, hr, hs⟩ := app_b (c2 := s'.2.2) h'.f1 (St.rdS_own h') (by have := num_len n; omega)
  exact runV_ok hr ⟨_, _, _, rfl, k w2 s2 hs.f1.drop⟩
theorem text_len (x : Cm.Bs) : (Cm.text x).length ≤ 6 + x.length := by have := num_len x.length; simp [Cm.text]; omega
theorem text_spec {x : Cm.Bs} (h : St E (byA s xs :: L) w) (hb : xs.length + 6 + x.length ≤ big) (k : ∀ (w' : World) (s' : Sl), St E (byA s' (xs ++ Cm.text x) :: L) w' → R (.returned (.slice s'.1 s'.2.1 s'.2.2)) w') : Calls Tryz.prog 175 #[.slice s.1 s.2.1 s.2.2, .string (bs x)] w R := by
  refine C_conf_text ?_
  unfold T_conf_text
  rw [bs_size]
  refine num_spec h (by omega) fun w' s' h' => ⟨_, _, _, rfl, ?_⟩
  obtain ⟨s2, w2, hr, hs⟩ := app_s (ys := x) h' (by have := num_len x.length; simp; omega)
  exact runV_ok hr ⟨_, _, _, rfl, k w2 s2 (by simpa [Cm.text] using hs)⟩
/-! ### weights, targets -/
theorem run_shr (t : TypeId) (x y : Operand) {v n : Nat} {q : IntKind} (hn : n < 64) : (do eqGuard .shr t x y (.int .u64 (v : Int)) (.int q (n : Int)); binOp .shr t (.int .u64 (v : Int)) (.int q (n : Int)) : Sem Value).run Tryz.prog w = .ok (.int .u64 ((v / 2 ^ n : Nat) : Int)) w := by
  have e : min (n : Int).toNat (IntKind.bits .u64) = n := by rw [Int.toNat_natCast]; exact Nat.min_eq_left (by show n ≤ 64; omega)
  have h0 : ¬ ((n : Int) < 0) := by omega
  simp only [eqGuard, binOp, Op.shift]
  rw [if_neg h0, e, Int.fdiv_eq_ediv_of_nonneg _ (by exact_mod_cast Nat.zero_le _)]
  simp
def f64n (v : Nat) (i : Nat) : UInt8 := UInt8.ofNat (v / 2 ^ (56 - 8 * i))
theorem f64_take (v : Nat) : ∀ i, i ≤ 8 → (Cm.f64 v).take i = (List.range i).map (f64n v) := by
  intro i hi
  match i, hi with
  | 0, _ => rfl
  | 1, _ => rfl
  | 2, _ => rfl
  | 3, _ => rfl
  | 4, _ => rfl
  | 5, _ => rfl
  | 6, _ => rfl
  | 7, _ => rfl
  | 8, _ => simp [Cm.f64, List.range_succ, f64n]
theorem float_spec {v : Nat} (h : St E (byA s xs :: L) w) (hb : xs.length + 8 ≤ big) (k : ∀ (w' : World) (s' : Sl), St E (byA s' (xs ++ Cm.f64 v) :: L) w' → R (.returned (.slice s'.1 s'.2.1 s'.2.2)) w') : Calls Tryz.prog 228 #[.slice s.1 s.2.1 s.2.2, .float .f64 v] w R := by
  refine C_conf_float ?_
  unfold T_conf_float T_conf_float_1
  intro X hX
  refine up_to 8 (Q := fun j => ∀ (w : World) (s : Sl), St E (byA s (xs ++ (Cm.f64 v).take j) :: L) w → X s.1 s.2.1 s.2.2 (56 - 8 * (j : Int)) w) ?_ w s (by simpa using h)
  intro j hj ih w s h
  refine hX _ _ _ _ _ ?_
  unfold T_conf_float_1_body
  refine ite_d (fun hc => ?_) (fun hc => ?_)
  · have hj8 : j < 8 := by omega
    refine fbits_ok ⟨_, rfl, ?_⟩
    rw [show (56 - 8 * (j : Int)) = ((56 - 8 * j : Nat) : Int) from by omega]
    refine runV_ok (run_shr _ _ _ (by omega)) ⟨_, rfl, ?_⟩
    intro w12
    obtain ⟨s', w', hr, hs⟩ := app_1 (x := f64n v j) h (by simp [f64_take v j (by omega)]; omega)
    unfold f64n at hr
    rw [← wrap_u8_mod] at hr
    refine runV_ok hr ⟨_, _, _, rfl, ?_⟩
    rw [wrap_id (by omega) (by omega), show ((56 - 8 * j : Nat) : Int) - 8 = 56 - 8 * ((j + 1 : Nat) : Int) from by omega]
    refine ih hj8 _ _ ?_
    rw [f64_take v (j + 1) (by omega), List.range_succ, List.map_append, ← f64_take v j (by omega)]
    simpa using hs
  · have : j = 8 := by omega
    subst this
    exact k _ _ h
theorem tgt_len (t : Cm.Tgt) : (Cm.tgt t).length ≤ 14 + t.addr.length := by have := text_len t.addr; simp [Cm.tgt, Cm.f64_len]; omega
def tgsMax (l : List Cm.Tgt) : Nat := 6 + (l.map fun t => 14 + t.addr.length).sum
theorem flat_tgt_len (l : List Cm.Tgt) : (l.flatMap Cm.tgt).length ≤ (l.map fun t => 14 + t.addr.length).sum := by
  induction l with
  | nil => simp
  | cons t r ih => have := tgt_len t; simp only [List.flatMap_cons, List.length_append, List.map_cons, List.sum_cons]; omega
theorem sum_take_le (f : Cm.Tgt → Nat) : ∀ (l : List Cm.Tgt) (j : Nat) (h : j < l.length), ((l.take j).map f).sum + f l[j] ≤ (l.map f).sum
  | [], _, h => by simp at h
  | t :: r, 0, _ => by simp
  | t :: r, j + 1, h => by
    have := sum_take_le f r j (by simpa using h)
    simp only [List.take_succ_cons, List.map_cons, List.sum_cons, List.getElem_cons_succ]; omega
theorem row_spec {q : Sl} {l : List Cm.Tgt} (hm : kn F ∈ L) (hr : RdF F q.1 q.2.1 2 (l.flatMap tV)) (hl : okTs l) (h : St E (byA s xs :: L) w) (hb : xs.length + tgsMax l ≤ big)
    (k : ∀ (w' : World) (s' : Sl), St E (byA s' (xs ++ Cm.tgs l) :: L) w' → R (.returned (.slice s'.1 s'.2.1 s'.2.2)) w') : Calls Tryz.prog 174 #[.slice s.1 s.2.1 s.2.2, .slice q.1 q.2.1 q.2.2] w R := by
  have hn := tgs_len hm h.drop hr
  unfold tgsMax at hb
  refine C_conf_row ?_
  unfold T_conf_row
  refine num_spec h (by omega) fun w1 s1 h1 => ⟨_, _, _, rfl, ?_⟩
  unfold T_conf_row_1
  intro X hX
  refine up_to l.length (Q := fun j => ∀ (w : World) (s : Sl), St E (byA s (xs ++ Cm.num l.length ++ (l.take j).flatMap Cm.tgt) :: L) w → X s.1 s.2.1 s.2.2 (j : Int) w) ?_ w1 s1 (by rw [← hn] at h1; simpa using h1)
  intro j hj ih w s h
  refine hX _ _ _ _ _ ?_
  unfold T_conf_row_1_body
  rw [← hn]
  refine ite_d (fun hc => ?_) (fun hc => ?_)
  · have hjl : j < l.length := by omega
    obtain ⟨ad, ha, hrd, _⟩ := (hr.at h (List.mem_cons_of_mem _ hm)).elem tV_len (List.getElem?_eq_getElem hjl) (by decide)
    have hs1 := sum_take_le (fun t => 14 + t.addr.length) l j hjl
    have hs2 := flat_tgt_len (l.take j)
    have hs3 := num_len l.length
    have hs4 := text_len l[j].addr
    refine ⟨by omega, by omega, ad, ha, _, _, by rw [Int.toNat_natCast]; exact hrd, ?_⟩
    intro w8
    have h8 := h.alloc (.cells #[.string (ByteArray.mk #[]), .float .f64 0] 268)
    refine ⟨rfl, wrOk_agg h8.at_blk (xs := tV l[j]) (by simp [tV]) (by intro u hu; simp [tV] at hu; rcases hu with rfl | rfl <;> rfl), ?_⟩
    intro w9 w10
    have h9 : St E (blkL w.heap.size 268 (tV l[j]) :: byA s (xs ++ Cm.num l.length ++ (l.take j).flatMap Cm.tgt) :: L) w10 := (h8.wr_agg0 (xs := tV l[j]) rfl).drew
    refine ⟨_, rd_cell h9.at_blk (l := tV l[j]) rfl rfl, _, rd_fld h9.at_blk (l := tV l[j]) rfl rfl, ?_⟩
    refine text_spec (x := l[j].addr) h9.f1 (by simp only [List.length_append]; omega) fun w2 s2 h2 => ⟨_, _, _, rfl, ⟨rd_fld h2.f1.at_blk (l := tV l[j]) rfl rfl, trivial⟩, ?_⟩
    refine float_spec h2 (by simp only [List.length_append]; omega) fun w3 s3 h3 => ⟨_, _, _, rfl, trivial, ?_⟩
    rw [succ_huge (by have := hl.1; omega)]
    refine ih hjl _ _ ?_
    rw [List.take_succ_eq_append_getElem hjl, List.flatMap_append]
    have := h3.f1.drop
    simpa [Cm.tgt] using this
  · refine k _ _ ?_
    rw [List.take_of_length_le (by omega)] at h
    simpa [Cm.tgs] using h
end
end
end Go.Vc

/-
  Structs held against each other.
-/
namespace Go.Vc
open Go
section
variable {P : Program} {t : TypeId} {w : World} {x y : Operand}
theorem run_ne_agg {a b : Array Value} {r : Bool} (hg : P.eqGuardType P.depth t = false) (he : (Op.equal t (.agg a) (.agg b)).run P w = .ok r w) :
    (do eqGuard .neq t x y (.agg a) (.agg b); binOp .neq t (.agg a) (.agg b) : Sem Value).run P w = .ok (.bool !r) w := by
  simp [eqGuard, program, Sem.run, hg, binOp, he]
theorem run_eq_agg {a b : Array Value} {r : Bool} (hg : P.eqGuardType P.depth t = false) (he : (Op.equal t (.agg a) (.agg b)).run P w = .ok r w) :
    (do eqGuard .eql t x y (.agg a) (.agg b); binOp .eql t (.agg a) (.agg b) : Sem Value).run P w = .ok (.bool r) w := by
  simp [eqGuard, program, Sem.run, hg, binOp, he]
theorem equal_str3 {f0 f1 f2 : Field} (hu : P.underlying t = some (.struct #[f0, f1, f2])) (h0 : P.underlying f0.type = some .string) (h1 : P.underlying f1.type = some .string) (h2 : P.underlying f2.type = some .string)
    (hn0 : f0.name ≠ "_") (hn1 : f1.name ≠ "_") (hn2 : f2.name ≠ "_") (ho0 : f0.offset = 0) (ho1 : f1.offset = 1) (ho2 : f2.offset = 2) (hst : P.stoodInHeld t = false) (a1 a2 a3 b1 b2 b3 : ByteArray) :
    (Op.equal t (.agg #[.string a1, .string a2, .string a3]) (.agg #[.string b1, .string b2, .string b3])).run P w = .ok (decide (a1 = b1) && (decide (a2 = b2) && decide (a3 = b3))) w := by
  have e0 : ∀ x y : ByteArray, (Op.equalIn 9999 f0.type (.string x) (.string y)).run P w = .ok (x == y) w := fun x y => equalIn_string (P := P) h0 x y 9998 w
  have e1 : ∀ x y : ByteArray, (Op.equalIn 9999 f1.type (.string x) (.string y)).run P w = .ok (x == y) w := fun x y => equalIn_string (P := P) h1 x y 9998 w
  have e2 : ∀ x y : ByteArray, (Op.equalIn 9999 f2.type (.string x) (.string y)).run P w = .ok (x == y) w := fun x y => equalIn_string (P := P) h2 x y 9998 w
  have hag : ∀ f : Field, P.underlying f.type = some .string → aggT P f.type = false := fun f hf => by simp [aggT, hf]
  have hp0 : ∀ x y z : Value, (part f0.type #[x, y, z] f0.offset).run P w = .ok x w := fun x y z => by simp [part, run_isAgg h0, hag f0 h0, ho0]
  have hp1 : ∀ x y z : Value, (part f1.type #[x, y, z] f1.offset).run P w = .ok y w := fun x y z => by simp [part, run_isAgg h1, hag f1 h1, ho1]
  have hp2 : ∀ x y z : Value, (part f2.type #[x, y, z] f2.offset).run P w = .ok z w := fun x y z => by simp [part, run_isAgg h2, hag f2 h2, ho2]
  show (Op.equalIn (9999 + 1) t _ _).run P w = _
  unfold Op.equalIn
  simp only [Sem.run_bind, run_underlying_ hu, Result.andThen_ok, program, Sem.run, hst]
  by_cases ha : a1 = b1
  · by_cases hb : a2 = b2
    · by_cases hc : a3 = b3
      · simp [hn0, hn1, hn2, hp0, hp1, hp2, e0, e1, e2, ha, hb, hc, bytes_beq]
      · simp [hn0, hn1, hn2, hp0, hp1, hp2, e0, e1, e2, ha, hb, hc, bytes_beq]
    · simp [hn0, hn1, hp0, hp1, e0, e1, ha, hb, bytes_beq]
  · simp [hn0, hp0, e0, ha, bytes_beq]
end
end Go.Vc

/-
  Rows of targets; targets and commands held against each other.
-/
namespace Go.Vc
open Go Go.Proofs Go.Proofs.YtaocnfjhfmapkaaGreatDoor
set_option maxRecDepth 100000
section
variable {E w : World} {L : List Asrt} {R : Ending → World → Prop} {F : Fz}
def tgA (s : Sl) (l : List Cm.Tgt) : Asrt := ownS s.1 s.2.1 s.2.2 268 2 (l.flatMap tV)
theorem app_t {s : Sl} {a2 : Option Addr} {l2 c2 : Nat} {xs ys : List Cm.Tgt} (h : St E (tgA s xs :: L) w) (hro : RdS w a2 l2 2 (ys.flatMap tV)) (hb : xs.length + ys.length ≤ 1000000) :
    ∃ (s' : Sl) (w' : World), (Builtin.append_ #[25, 25] 25 #[.slice s.1 s.2.1 s.2.2, .slice a2 l2 c2]).run Tryz.prog w = .ok (.slice s'.1 s'.2.1 s'.2.2) w' ∧ St E (tgA s' (xs ++ ys) :: L) w' := by
  have hl : xs.length = s.2.1 := h.rdS_own.count tV_len (by decide)
  have hl2 : ys.length = l2 := hro.count tV_len (by decide)
  obtain ⟨a', c', w', hr, hs⟩ := append_own (P := Tryz.prog) (t := 25) (ty := 25) (e := 268) (i := Tryz.t268) (z := .agg #[.string (ByteArray.mk #[]), .float .f64 0]) (by kernel_rfl) (by kernel_rfl) (by kernel_rfl) (by kernel_rfl) (by decide) (c2 := c2) h hro (tV_one ys)
    (by have : Tryz.t268.bytes = 24 := by kernel_rfl
        rw [this]; omega) (by unfold maxLen; omega)
  rw [show Tryz.t268.size = 2 from by kernel_rfl, ← List.flatMap_append] at hs
  exact ⟨(a', s.2.1 + l2, c'), w', hr, hs⟩
theorem app_t1 {s : Sl} {xs : List Cm.Tgt} {t : Cm.Tgt} (h : St E (tgA s xs :: L) w) (hb : xs.length + 1 ≤ 1000000) :
    ∃ (s' : Sl) (w' : World), (Builtin.append_ #[25, 25] 25 #[.slice s.1 s.2.1 s.2.2, .slice (some ⟨w.heap.size, 0, none⟩) 1 1]).run Tryz.prog (w.alloc (.cells #[.string (bs t.addr), .float .f64 t.w] 268)) = .ok (.slice s'.1 s'.2.1 s'.2.2) w' ∧ St E (tgA s' (xs ++ [t]) :: L) w' := by
  have h2 : St E (tgA (some ⟨w.heap.size, 0, none⟩, 1, 1) [t] :: tgA s xs :: L) (w.alloc (.cells #[.string (bs t.addr), .float .f64 t.w] 268)) :=
    (St.ownS_mk (xs := [t].flatMap tV) (rest := []) (l := 1) (c := 1) (sz := 2) (h.alloc _) rfl (Nat.le_refl _) (by decide) rfl :)
  obtain ⟨s', w', hr, hs⟩ := app_t (c2 := 1) h2.f1 (St.rdS_own h2) (by simpa using hb)
  exact ⟨s', w', hr, hs.f1.drop⟩
def zeroC : Cm.Cmd := ⟨0, 0, 0, 0, [], [], [], []⟩
def shortTs (l : List Cm.Tgt) : Prop := l.length ≤ 16 ∧ ∀ t ∈ l, t.addr.length ≤ 128 ∧ t.w < two64
theorem shortTs.ok {l : List Cm.Tgt} (h : shortTs l) : okTs l := ⟨by have := h.1; unfold huge; omega, fun t ht => ⟨by have := (h.2 t ht).1; unfold huge; omega, (h.2 t ht).2⟩⟩
theorem one_cmdL (c : Cm.Cmd) (s : Sl) : ∀ u ∈ cmdL c s, one u = true := by
  intro u hu
  simp only [cmdL, List.mem_cons, List.not_mem_nil, or_false] at hu
  rcases hu with rfl | rfl | rfl | rfl | rfl | rfl | rfl | rfl <;> rfl
theorem St.freezeT {s : Sl} {l : List Cm.Tgt} (h : St E (tgA s l :: kn F :: L) w) : ∃ G, Fz.le F G ∧ St E (kn G :: L) w ∧ RdF G s.1 s.2.1 2 (l.flatMap tV) := h.freezeS
theorem cell8 (c : Cm.Cmd) (s : Sl) : (cmdL c s).length = 8 := rfl
/-! ### the same -/
theorem str_beq (a b : Cm.Bs) : ((bs a).toList == (bs b).toList) = decide (a = b) := by
  rw [bs_toList, bs_toList, Bool.eq_iff_iff]; simp
theorem drop_step {α : Type} [DecidableEq α] {l1 l2 : List α} {j : Nat} (h1 : j < l1.length) (h2 : j < l2.length) : decide (l1.drop j = l2.drop j) = (decide (l1[j] = l2[j]) && decide (l1.drop (j + 1) = l2.drop (j + 1))) := by
  rw [List.drop_eq_getElem_cons h1, List.drop_eq_getElem_cons h2, Bool.eq_iff_iff, Bool.and_eq_true, decide_eq_true_eq, decide_eq_true_eq, decide_eq_true_eq, List.cons.injEq]
end
end Go.Vc

/-
  What the functions' code comes to; printed by a program of this claim's own.
-/
namespace Go.Proofs.YtaocnfjhfmapkaaGreatDoor
open Go Go.Vc
set_option maxRecDepth 100000
set_option linter.unusedVariables false
variable {w : World} {R : ERP}

/-! tollgate/conf.PutCommand -/
def T_conf_PutCommand (x1 x2 x3 x4 : Int) (s5 s6 s7 : ByteArray) (s8a : Option Addr) (s8l s8c : Nat) (w : World) (R : ERP) : Prop :=
  let w9 := w.alloc (.cells #[.int .i64 x1, .int .i64 x2, .int .i64 x3, .int .i64 x4, .string s5, .string s6, .string s7, .slice s8a s8l s8c] 27)
  ∃ (x10 x11 x12 x13 : Int) (s14 s15 s16 : ByteArray) (s17a : Option Addr) (s17l s17c : Nat), rd w9 (⟨w.heap.size, 0, none⟩ : Addr) (.agg #[.int .i64 x10, .int .i64 x11, .int .i64 x12, .int .i64 x13, .string s14, .string s15, .string s16, .slice s17a s17l s17c]) ∧ Calls Tryz.prog 198 #[.agg #[.int .i64 x10, .int .i64 x11, .int .i64 x12, .int .i64 x13, .string s14, .string s15, .string s16, .slice s17a s17l s17c]] w9 (ret (fun r18 w19 => ∃ x20 : Int, r18 = .int .i64 x20 ∧ if ((x20 : Int) != 0) = true then (R (.returned (.tuple #[.slice none 0 0, .int .i64 x20])) w19) else (let w21 := w19.drew
  ∃ x22 : Int, rd w21 (⟨w.heap.size, 0, none⟩ : Addr) (.int .i64 x22) ∧ ∃ x23 : Int, rd w21 ((⟨w.heap.size, 0, none⟩ : Addr).add 1) (.int .i64 x23) ∧ ∃ x24 : Int, rd w21 ((⟨w.heap.size, 0, none⟩ : Addr).add 2) (.int .i64 x24) ∧ ∃ x25 : Int, rd w21 ((⟨w.heap.size, 0, none⟩ : Addr).add 3) (.int .i64 x25) ∧ Calls Tryz.prog 172 #[.slice none 0 0, .int .i64 x22] w21 (ret (fun r26 w27 => ∃ (s28a : Option Addr) (s28l s28c : Nat), r26 = .slice s28a s28l s28c ∧ (rd w27 ((⟨w.heap.size, 0, none⟩ : Addr).add 3) (.int .i64 x25) ∧ rd w27 ((⟨w.heap.size, 0, none⟩ : Addr).add 2) (.int .i64 x24) ∧ rd w27 ((⟨w.heap.size, 0, none⟩ : Addr).add 1) (.int .i64 x23) ∧ True) ∧ Calls Tryz.prog 172 #[.slice s28a s28l s28c, .int .i64 x23] w27 (ret (fun r29 w30 => ∃ (s31a : Option Addr) (s31l s31c : Nat), r29 = .slice s31a s31l s31c ∧ (rd w30 ((⟨w.heap.size, 0, none⟩ : Addr).add 3) (.int .i64 x25) ∧ rd w30 ((⟨w.heap.size, 0, none⟩ : Addr).add 2) (.int .i64 x24) ∧ True) ∧ Calls Tryz.prog 172 #[.slice s31a s31l s31c, .int .i64 x24] w30 (ret (fun r32 w33 => ∃ (s34a : Option Addr) (s34l s34c : Nat), r32 = .slice s34a s34l s34c ∧ (rd w33 ((⟨w.heap.size, 0, none⟩ : Addr).add 3) (.int .i64 x25) ∧ True) ∧ Calls Tryz.prog 172 #[.slice s34a s34l s34c, .int .i64 (IntKind.wrap .i64 ((x25 : Int) + 1))] w33 (ret (fun r35 w36 => ∃ (s37a : Option Addr) (s37l s37c : Nat), r35 = .slice s37a s37l s37c ∧ (True) ∧ let w38 := w36.drew
  ∃ s39 : ByteArray, rd w38 ((⟨w.heap.size, 0, none⟩ : Addr).add 4) (.string s39) ∧ ∃ s40 : ByteArray, rd w38 ((⟨w.heap.size, 0, none⟩ : Addr).add 5) (.string s40) ∧ ∃ s41 : ByteArray, rd w38 ((⟨w.heap.size, 0, none⟩ : Addr).add 6) (.string s41) ∧ ∃ (s42a : Option Addr) (s42l s42c : Nat), rd w38 ((⟨w.heap.size, 0, none⟩ : Addr).add 7) (.slice s42a s42l s42c) ∧ Calls Tryz.prog 175 #[.slice s37a s37l s37c, .string s39] w38 (ret (fun r43 w44 => ∃ (s45a : Option Addr) (s45l s45c : Nat), r43 = .slice s45a s45l s45c ∧ (rd w44 ((⟨w.heap.size, 0, none⟩ : Addr).add 7) (.slice s42a s42l s42c) ∧ rd w44 ((⟨w.heap.size, 0, none⟩ : Addr).add 6) (.string s41) ∧ rd w44 ((⟨w.heap.size, 0, none⟩ : Addr).add 5) (.string s40) ∧ True) ∧ Calls Tryz.prog 175 #[.slice s45a s45l s45c, .string s40] w44 (ret (fun r46 w47 => ∃ (s48a : Option Addr) (s48l s48c : Nat), r46 = .slice s48a s48l s48c ∧ (rd w47 ((⟨w.heap.size, 0, none⟩ : Addr).add 7) (.slice s42a s42l s42c) ∧ rd w47 ((⟨w.heap.size, 0, none⟩ : Addr).add 6) (.string s41) ∧ True) ∧ Calls Tryz.prog 175 #[.slice s48a s48l s48c, .string s41] w47 (ret (fun r49 w50 => ∃ (s51a : Option Addr) (s51l s51c : Nat), r49 = .slice s51a s51l s51c ∧ (rd w50 ((⟨w.heap.size, 0, none⟩ : Addr).add 7) (.slice s42a s42l s42c) ∧ True) ∧ Calls Tryz.prog 174 #[.slice s51a s51l s51c, .slice s42a s42l s42c] w50 (ret (fun r52 w53 => ∃ (s54a : Option Addr) (s54l s54c : Nat), r52 = .slice s54a s54l s54c ∧ (True) ∧ R (.returned (.tuple #[.slice s54a s54l s54c, .int .i64 0])) w53) (pan R))) (pan R))) (pan R))) (pan R))) (pan R))) (pan R))) (pan R))) (pan R)))) (pan R))

theorem C_conf_PutCommand {x1 x2 x3 x4 : Int} {s5 s6 s7 : ByteArray} {s8a : Option Addr} {s8l s8c : Nat} (h : T_conf_PutCommand x1 x2 x3 x4 s5 s6 s7 s8a s8l s8c w R) : Calls Tryz.prog 127 #[.agg #[.int .i64 x1, .int .i64 x2, .int .i64 x3, .int .i64 x4, .string s5, .string s6, .string s7, .slice s8a s8l s8c]] w R := cc mixed Tryz.func127 hz h

end Go.Proofs.YtaocnfjhfmapkaaGreatDoor

/-
  A command's bytes: the program's PutCommand and the document's.
-/
namespace Go.Vc
open Go Go.Proofs Go.Proofs.YtaocnfjhfmapkaaGreatDoor
set_option maxRecDepth 100000
section
variable {E w : World} {L : List Asrt} {R : Ending → World → Prop} {F : Fz} {c : Cm.Cmd} {q : Sl}
def putCE (c : Cm.Cmd) : Cm.Bs := if Cm.chk c = 0 then Cm.putC c else []
theorem mem1' {A : Asrt} (hm : kn F ∈ L) : kn F ∈ A :: L := List.mem_cons_of_mem _ hm
theorem rd_cmdC {b : Nat} (h : St E (blkL b 27 (cmdL c q) :: L) w) : rd w ⟨b, 0, none⟩ (cmdV c q) := rd_agg (xs := cmdL c q) h.at_blk (by intro i u hu; rw [Nat.zero_add]; exact hu)
theorem tgs_short {l : List Cm.Tgt} (h : Cm.chkT l = 0) : tgsMax l ≤ 10000 := by
  have hz := Cm.chkT_zero h
  have key : ∀ l : List Cm.Tgt, (∀ t ∈ l, t.addr.length ≤ 128) → (l.map fun t => 14 + t.addr.length).sum ≤ l.length * 142 := by
    intro l
    induction l with
    | nil => intro _; simp
    | cons a r ih =>
      intro hl
      have := ih fun t ht => hl t (List.mem_cons_of_mem _ ht)
      have := hl a List.mem_cons_self
      simp only [List.map_cons, List.sum_cons, List.length_cons]; omega
  have := key l fun t ht => (Cm.chkT_good h t ht).1
  have := hz.2
  unfold tgsMax; omega
/-- PutCommand. -/
theorem PutCommand_spec (hm : kn F ∈ L) (h : St E L w) (hr : RdF F q.1 q.2.1 2 (c.tg.flatMap tV)) (hc : okC c)
    (k : ∀ (w' : World) (b : Sl), St E (byA b (putCE c) :: L) w' → R (.returned (.tuple #[.slice b.1 b.2.1 b.2.2, .int .i64 (Cm.chk c)])) w') : Calls Tryz.prog 127 #[cmdV c q] w R := by
  have hbig : big = 140737488355328 := rfl
  refine C_conf_PutCommand ?_
  unfold T_conf_PutCommand
  intro w9
  have h9 : St E (blkL w.heap.size 27 (cmdL c q) :: L) w9 := h.alloc (.cells ⟨cmdL c q⟩ 27)
  clear_value w9
  refine ⟨_, _, _, _, _, _, _, _, _, _, rd_cmdC h9, ?_⟩
  refine Check_spec (mem1' hm) h9 hr hc fun w19 h19 => ⟨_, rfl, ?_⟩
  refine ite_b (fun hh => ?_) fun hh => ?_
  · have e : Cm.chk c ≠ 0 := by simpa using hh
    refine k _ (none, 0, 0) ?_
    rw [show putCE c = [] from if_neg e]
    exact h19.drop.by_nil
  have e : Cm.chk c = 0 := by simpa using hh
  rw [show putCE c = Cm.putC c from if_pos e, e] at k
  have fn := Cm.chk_fine e
  have m1 := num_len c.act; have m2 := num_len c.client; have m3 := num_len c.seq; have m4 := num_len (c.expect + 1)
  have m5 := text_len c.host; have m6 := text_len c.pfx; have m7 := text_len c.pool
  have f1 := fn.h; have f2 := fn.p; have f3 := fn.o; have f4 := tgs_short fn.t
  intro w21
  have h21 : St E _ w21 := h19.drew
  clear_value w21
  refine ⟨_, rd_cell h21.at_blk rfl rfl, _, rd_fld h21.at_blk rfl rfl, _, rd_fld h21.at_blk rfl rfl, _, rd_fld h21.at_blk rfl rfl, ?_⟩
  refine num_spec (s := (none, 0, 0)) (xs := []) h21.by_nil (by rw [List.length_nil]; omega) fun w27 b27 h27 => ⟨_, _, _, rfl, ⟨rd_fld h27.f1.at_blk rfl rfl, rd_fld h27.f1.at_blk rfl rfl, rd_fld h27.f1.at_blk rfl rfl, trivial⟩, ?_⟩
  rw [List.nil_append] at h27
  refine num_spec h27 (by omega) fun w30 b30 h30 => ⟨_, _, _, rfl, ⟨rd_fld h30.f1.at_blk rfl rfl, rd_fld h30.f1.at_blk rfl rfl, trivial⟩, ?_⟩
  refine num_spec h30 (by simp only [List.length_append]; omega) fun w33 b33 h33 => ⟨_, _, _, rfl, ⟨rd_fld h33.f1.at_blk rfl rfl, trivial⟩, ?_⟩
  rw [wrap_id (by have := fn.ex; omega) (by have := fn.ex; omega)]
  refine num_spec h33 (by simp only [List.length_append]; omega) fun w36 b36 h36 => ⟨_, _, _, rfl, trivial, ?_⟩
  intro w38
  have h38 : St E _ w38 := h36.drew
  clear_value w38
  refine ⟨_, rd_fld h38.f1.at_blk rfl rfl, _, rd_fld h38.f1.at_blk rfl rfl, _, rd_fld h38.f1.at_blk rfl rfl, _, _, _, rd_fld h38.f1.at_blk rfl rfl, ?_⟩
  refine text_spec (x := c.host) h38 (by simp only [List.length_append]; omega) fun w44 b44 h44 => ⟨_, _, _, rfl, ⟨rd_fld h44.f1.at_blk rfl rfl, rd_fld h44.f1.at_blk rfl rfl, rd_fld h44.f1.at_blk rfl rfl, trivial⟩, ?_⟩
  refine text_spec (x := c.pfx) h44 (by simp only [List.length_append]; omega) fun w47 b47 h47 => ⟨_, _, _, rfl, ⟨rd_fld h47.f1.at_blk rfl rfl, rd_fld h47.f1.at_blk rfl rfl, trivial⟩, ?_⟩
  refine text_spec (x := c.pool) h47 (by simp only [List.length_append]; omega) fun w50 b50 h50 => ⟨_, _, _, rfl, ⟨rd_fld h50.f1.at_blk rfl rfl, trivial⟩, ?_⟩
  refine row_spec (q := q) (mem1' hm) hr hc.2.2.2 h50 (by simp only [List.length_append]; omega) fun w53 b53 h53 => ⟨_, _, _, rfl, trivial, k _ b53 ?_⟩
  have h54 := h53.f1.drop
  simpa [Cm.putC] using h54
end
end Go.Vc

/-
  What a crash keeps, and a command's bytes: two functions told of, where what comes in stands for itself.
-/
namespace Go.Ev
open Go Go.Vc Go.RowKit Go.Proofs.YtaocnfjhfmapkaaGreatDoor Go.Proofs
set_option maxRecDepth 100000
noncomputable def frmK (m : M) (k : Unit → Res) : Res := m.get 0 none fun o => match o with | .frm _ => k () | _ => none
section
variable [Tops] {E w : World} {φ : Phi} {m : M} {l0 : List (Value × M)}
theorem frmK_ok {k : Unit → Res} (hm : HR φ E m w) (h : Sub (frmK m k) l0) : Sub (k ()) l0 ∧ ∃ L, St E (old E :: L) w ∧ ∀ w', St E (old E :: L) w' → HR φ E m w' := by
  unfold frmK at h
  replace h := get_take' (H := []) hm.st h
  obtain ⟨o, ho, h, hs, hl⟩ := h
  split at h
  · exact ⟨h, _, hs, fun w' hs' => ⟨st_untake (F := OA E φ) (H := []) (t := m.t) (n := 0) (o := .frm _) hs' hl, hm.fresh⟩⟩
  · exact h.no

/-! ### a crash -/
noncomputable abbrev cB : Code := bodyOf Tryz.f60
abbrev cP : List Nat := [1, 0, 0, 1, 1, 0, 0]
noncomputable def isT {R : Type} (j : Nat) (v : Value) (d : R) (k : R) : R := match v with | .chan (some i) => bc (Nat.beq i j) k d | _ => d
abbrev crashK1 : List Nat := [18, 19, 20, 21]
abbrev crashK2 : List Nat := [6, 22, 23, 24, 25, 26]
/-- A file's part of a crash: how much is kept of it is left open. -/
noncomputable def crashHook (T : Ty) : Clo := ⟨fun call kr X k e m =>
  (comp Tryz.prog T noH 69 (at_ cB (cP ++ [0])) []).run call kr (fun i => bc (Nat.beq i (2 * 1)) k (X i)) (fun e m => (comp Tryz.prog T noH 69 (at_ cB (cP ++ [1, 0])) []).run call kr (fun i => bc (Nat.beq i (2 * 1)) k (X i)) (fun e m =>
    e.find 1 none fun v => isT 7 v none (e.find 4 none fun i => vInt i none fun ik i => bc (isK ik .i64) (iN i none fun _ => e.find 6 none fun c => vInt c none fun ck _ => bc (isK ck .i64) (frmK m fun _ =>
      (comp Tryz.prog T noH 69 (at_ cB (cP ++ [1, 1, 1])) []).run call kr (fun i => bc (Nat.beq i (2 * 1)) k (X i)) k (.put 6 (.chan (some 0)) (without crashK2 (without crashK1 e))) m) none) none)) e m) e m⟩
theorem Ends.block {φ : Phi} {nt : Nat} {D : List Deferred} {k kr : K} {X : Nat → K} {Qd : Exit → Act → World → Prop} {id : Nat} (hE : Ends E nt D φ k kr X l0 Qd) : Ends E nt D φ k kr (fun i => bc (Nat.beq i (2 * id)) k (X i)) l0 (Exit.inBlock id Qd) :=
  ⟨hE.norm, hE.ret, fun i => by
    by_cases hi : i = id
    · subst hi
      rw [show (bc (Nat.beq (2 * i) (2 * i)) k (X (2 * i)) : K) = k by rw [Nat.beq_refl]; rfl]
      show KOk E nt D φ k l0 (Exit.inBlock i Qd (.exit i))
      unfold Exit.inBlock
      simp only [if_true]
      exact hE.norm
    · rw [show (bc (Nat.beq (2 * i) (2 * id)) k (X (2 * i)) : K) = X (2 * i) by rw [beq_ne (by omega)]; rfl]
      unfold Exit.inBlock
      simp only [hi, if_false]
      exact hE.ex i, fun n => by
    rw [show (bc (Nat.beq (2 * n + 1) (2 * id)) k (X (2 * n + 1)) : K) = X (2 * n + 1) by rw [beq_ne (by omega)]; rfl]
    exact hE.go n⟩
theorem fr_keep {a a' : Act} {zs : List (Nat × Value)} {ks : List Nat} {t : Nat} {v : Value} (fr : Fr a' ⟨zs ++ strip (ksOf ks) (actE a).l, a.tmps.size, a.defers⟩) (hz : find zs t = none) (hk : memN t ks = false) (h : a.tmps[t]? = some v) : a'.tmps[t]? = some v :=
  fr.at_ t v (by
    show find (zs ++ _) t = _
    rw [find_append, hz]
    exact find_strip2 _ _ _ _ (by unfold ksOf; rw [hk]; rfl) (actE_find h))
theorem find_none1 {n t : Nat} {v : Value} (h : n ≠ t) : find [(n, v)] t = none := by rw [find_cons, if_neg h]; rfl
theorem isT_ {j : Nat} {v : Value} {x : Res} (h : Sub (isT j v none x) l0) : v = .chan (some j) ∧ Sub x l0 := by
  unfold isT at h
  split at h
  · replace h := h.bc_
    exact ⟨by rw [Nat.eq_of_beq_eq_true h.1], h.2⟩
  · exact h.no
variable {ka : Option Addr} {kl kc : Nat} {xs : List Int}
theorem crash_hook {call : CallT} {T : Ty} (hΘ : ∀ v, Tops.ok 7 v → v = .slice ka kl kc) (hr : RdF (fun b => E.heap[b]?) ka kl 1 (xs.flatMap fun x => [.int .i64 x])) : HookOk Tryz.prog T E call 69 [] (crashHook T) (.block 1 (at_ cB cP)) := by
  intro φ e a m w k kr X l0 Qd C hst h he hm hE
  have hc : at_ cB cP = .seq (at_ cB (cP ++ [0])) (.seq (at_ cB (cP ++ [1, 0])) (.seq (.seq (at_ cB (cP ++ [1, 1, 0, 0])) (at_ cB (cP ++ [1, 1, 0, 1]))) (at_ cB (cP ++ [1, 1, 1])))) := by kernel_rfl
  rw [hc]
  have hb := hE.block (id := 1)
  have h : Sub ((comp Tryz.prog T noH 69 (at_ cB (cP ++ [0])) []).run call kr (fun i => bc (Nat.beq i (2 * 1)) k (X i)) _ e m) l0 := h
  refine wp_block (wp_seq (comp_ok C _ [] HooksOk.none_ (by kernel_rfl) hst.inBlock_.then_ h he hm ⟨fun ψ e m a w hl h he hm => ?_, hb.ret, hb.ex, hb.go⟩))
  refine wp_seq (comp_ok C _ [] HooksOk.none_ (by kernel_rfl) hst.inBlock_.then_ h he hm ⟨fun ψ' e m a w hl' h he hm => ?_, (hb.mono hl).ret, (hb.mono hl).ex, (hb.mono hl).go⟩)
  replace h := h.find_
  obtain ⟨v, hv, h⟩ := h
  replace h := isT_ h
  obtain ⟨rfl, h⟩ := h
  replace h := h.find_
  obtain ⟨i, hi, h⟩ := h
  replace h := h.vInt_
  obtain ⟨ik, i, rfl, h⟩ := h
  replace h := h.bc_
  obtain ⟨hik, h⟩ := h
  have hik := isK_eq hik
  subst hik
  replace h := h.iN_
  obtain ⟨i, rfl, h⟩ := h
  replace h := h.find_
  obtain ⟨c, hcc, h⟩ := h
  replace h := h.vInt_
  obtain ⟨ck, c, rfl, h⟩ := h
  replace h := h.bc_
  obtain ⟨hck, h⟩ := h
  have hck := isK_eq hck
  subst hck
  replace h := frmK_ok hm h
  obtain ⟨h, L, hs, _⟩ := h
  obtain ⟨v1, hv1, hv2⟩ := he.at_ _ _ hv
  obtain ⟨i1, hi1, hi2⟩ := he.at_ _ _ hi
  obtain ⟨c1, hc1, hc2⟩ := he.at_ _ _ hcc
  have ev : v1 = .slice ka kl kc := by cases hv2 with
    | flat h => cases h
    | top ht => exact hΘ _ ht
  subst ev
  have ei := hi2.int_
  subst ei
  have ec := hc2.int_
  subst ec
  have hrd : RdS w ka kl 1 (xs.flatMap fun x => [.int .i64 x]) := hr w (St.know (F := fun b => E.heap[b]?) (L := kn (fun b => E.heap[b]?) :: L) hs (List.mem_cons_self ..))
  refine wp_seq (wp_seq ?_)
  refine unit_wp mixed T_disk_Disk_Crash_2_ok (by kernel_rfl) hst.inBlock_.then_.then_ (unitHook_mk (l := [.slice ka kl kc, .int .i64 i]) he.size he.ds ⟨actE_find hv1, rfl, actE_find hi1, rfl, trivial⟩ ?_)
  intro a2 fr
  have he2 := fr_without (ks := crashK1) he fr fun t ht => find_none1 (by intro e; subst e; cases ht)
  have h21 : a2.tmps[21]? = some (.bool (decide ((i : Int) < (kl : Int)))) := fr.at_ 21 _ rfl
  refine unit_wp mixed T_disk_Disk_Crash_3_ok (by kernel_rfl) hst.inBlock_.then_ (unitHook_mk (l := [.slice ka kl kc, .int .i64 i, .int .i64 c, .bool (decide ((i : Int) < (kl : Int)))]) he2.size he2.ds
    ⟨actE_find (fr_keep fr rfl rfl hv1), rfl, actE_find (fr_keep fr rfl rfl hi1), rfl, actE_find (fr_keep fr rfl rfl hc1), rfl, actE_find h21, rfl, trivial⟩ ?_)
  have fin : ∀ (k : Int) (a3 : Act), Fr a3 ⟨zipE [(6, .int .i64 0)] [.int .i64 k] ++ strip (ksOf crashK2) (actE a2).l, a2.tmps.size, a2.defers⟩ → (at_ cB (cP ++ [1, 1, 1])).wp Tryz.prog (Exit.inBlock 1 Qd) a3 w := fun k a3 fr3 => by
    have he3 := fr_without (ks := crashK2) he2 fr3 fun t ht => find_none1 (by intro e; subst e; cases ht)
    exact comp_ok C _ [] HooksOk.none_ (by kernel_rfl) hst.inBlock_ h (he3.known (fr3.at_ 6 _ rfl) (.top (Tops.any rfl))) hm ((hb.mono hl).mono hl')
  show T_disk_Disk_Crash_3 ka kl kc i c (decide ((i : Int) < (kl : Int))) w _ _
  unfold T_disk_Disk_Crash_3
  refine ite_d (fun hlt => ?_) fun _ => fin c
  have hkl : xs.length = kl := hrd.count (fun _ => rfl) (by decide)
  have hix : i < xs.length := by omega
  obtain ⟨ad, ha, hrdx, _⟩ := hrd.elem (fun _ => rfl) (List.getElem?_eq_getElem hix) (by decide)
  refine ⟨by omega, hlt, ad, ha, xs[i], ?_, fin _⟩
  rw [Int.toNat_natCast]
  intro j u hu
  exact hrdx j u (by simpa [Value.cells] using hu)
end
end Go.Ev

/-
  A command's bytes where the command stands for itself; the tables with both.
-/
namespace Go.Ev
open Go Go.Vc Go.RowKit Go.Proofs.YtaocnfjhfmapkaaGreatDoor Go.Proofs
set_option maxRecDepth 100000
theorem chk_range (c : Cm.Cmd) : 0 ≤ Cm.chk c ∧ Cm.chk c ≤ 15 := by
  unfold Cm.chk Cm.chkT
  split
  · decide
  · split
    · decide
    · split
      · decide
      · split
        · decide
        · split <;> decide
/-- From 1 to 15. -/
abbrev eJ : Nat := 340282366920938463509491467616042091511
noncomputable def putCl : FnClo := ⟨fun _ args m => match args with
  | [.agg ⟨[.chan (some 8), .chan (some 9), .chan (some 10), .chan (some 11), .chan (some 12), .chan (some 13), .chan (some 14), .chan (some 15)]⟩] => frmK m fun _ => some [(.tuple ⟨[.chan (some 0), .chan (some eJ)]⟩, m), (.tuple ⟨[.chan (some 0), .int .i64 0]⟩, m)]
  | _ => none⟩
theorem eJ_iv : iv eJ = some (9223372036854775809, 9223372036854775823) := by kernel_rfl
theorem eJ_ex : exId eJ = 0 := by kernel_rfl
section
variable [Tops] {E w : World} {φ : Phi} {m : M} {l0 : List (Value × M)} {c : Cm.Cmd} {q : Sl}
theorem top_only {j : Nat} {v u : Value} (h : VR φ (.chan (some j)) v) (hΘ : ∀ v, Tops.ok j v → v = u) : v = u := by
  cases h with
  | flat h => cases h
  | top h => exact hΘ _ h
theorem put_ok {call : CallT} (hΘ : ∀ (i : Nat) (u : Value), (cmdL c q)[i]? = some u → ∀ v, Tops.ok (i + 8) v → v = u) (hr : RdF (fun b => E.heap[b]?) q.1 q.2.1 2 (c.tg.flatMap tV)) (hc : okC c) : FnOk Tryz.prog E call 127 putCl := by
  intro φ args vs m w l hrun hv hm
  have h : Sub (putCl.run call args m) l := ⟨l, hrun, fun p hp => hp⟩
  unfold putCl at h
  dsimp only at h
  split at h
  · replace h := frmK_ok hm h
    obtain ⟨⟨l', hl', hmem⟩, L, hs, back⟩ := h
    injection hl' with hl'
    subst hl'
    cases hv with
    | cons hv hv2 =>
    cases hv2
    obtain ⟨ds, rfl, hd⟩ := hv.agg_
    cases hd with | cons k1 hd => cases hd with | cons k2 hd => cases hd with | cons k3 hd => cases hd with | cons k4 hd => cases hd with | cons k5 hd => cases hd with | cons k6 hd => cases hd with | cons k7 hd => cases hd with | cons k8 hd => cases hd with | nil =>
    have e1 := top_only k1 (hΘ 0 _ rfl)
    have e2 := top_only k2 (hΘ 1 _ rfl)
    have e3 := top_only k3 (hΘ 2 _ rfl)
    have e4 := top_only k4 (hΘ 3 _ rfl)
    have e5 := top_only k5 (hΘ 4 _ rfl)
    have e6 := top_only k6 (hΘ 5 _ rfl)
    have e7 := top_only k7 (hΘ 6 _ rfl)
    have e8 := top_only k8 (hΘ 7 _ rfl)
    subst e1 e2 e3 e4 e5 e6 e7 e8
    unfold Out
    rw [run_callFunc (by kernel_rfl)]
    refine PutCommand_spec (F := fun b => E.heap[b]?) (L := kn (fun b => E.heap[b]?) :: L) (List.mem_cons_self ..) hs hr hc fun w' b hs' => ?_
    have hm' := back w' hs'.drop
    obtain ⟨h0, h15⟩ := chk_range c
    by_cases hz : Cm.chk c = 0
    · rw [hz]
      exact ⟨_, hmem _ (List.mem_cons_of_mem _ (List.mem_cons_self ..)), φ, .refl φ, .tuple (.cons (.top (Tops.any rfl)) (.cons (.flat rfl) .nil)), hm'⟩
    · refine ⟨_, hmem _ (List.mem_cons_self ..), φ, .refl φ, .tuple (.cons (.top (Tops.any rfl)) (.cons (.top (Tops.ival eJ_ex ⟨rfl, fun lo hi e => ?_⟩)) .nil)), hm'⟩
      rw [eJ_iv] at e
      injection e with e
      injection e with e1 e2
      subst e1 e2
      exact ⟨_, rfl, by omega, by omega⟩
  · exact h.no
end

/-! ### the tables -/
noncomputable def hkC : Hooks := fun b => cond (Nat.beq b 1) (some (crashHook (tyT Tryz.prog))) none
noncomputable def fnK (f : Nat) : Option FnClo := cond (Nat.beq f 127) (some putCl) (cond (Nat.beq f 60) (fnC Tryz.prog (tyT Tryz.prog) hkC nCg f) (fnT f))
noncomputable def fs1 : Tr FnClo := mkT fnK 10 1 0
section
variable [Tops] {E : World} {c : Cm.Cmd} {q : Sl} {ka : Option Addr} {kl kc : Nat} {xs : List Int}
theorem hooksCrash {call : CallT} (hΘ : ∀ v, Tops.ok 7 v → v = .slice ka kl kc) (hr : RdF (fun b => E.heap[b]?) ka kl 1 (xs.flatMap fun x => [.int .i64 x])) : HooksOk Tryz.prog (tyT Tryz.prog) E call 69 [] hkC cB := by
  intro p hp h hh
  have hb : blocks cB = [(0, at_ cB [1, 0]), (1, at_ cB cP)] := by kernel_rfl
  rw [hb] at hp
  rcases List.mem_cons.1 hp with rfl | hp
  · cases hh
  · rcases List.mem_cons.1 hp with rfl | hp
    · injection hh with hh
      subst hh
      show HookOk Tryz.prog (tyT Tryz.prog) E call 69 [] (crashHook (tyT Tryz.prog)) (.block 1 (at_ cB cP))
      exact @crash_hook _ E ka kl kc xs call (tyT Tryz.prog) hΘ hr
    · cases hp
theorem fs1_fine (hΘ : ∀ (i : Nat) (u : Value), (cmdL c q)[i]? = some u → ∀ v, Tops.ok (i + 8) v → v = u) (hr : RdF (fun b => E.heap[b]?) q.1 q.2.1 2 (c.tg.flatMap tV)) (hc : okC c) (hΘ7 : ∀ v, Tops.ok 7 v → v = .slice ka kl kc) (hr7 : RdF (fun b => E.heap[b]?) ka kl 1 (xs.flatMap fun x => [.int .i64 x]))
    (g : Nat) (fc : FnClo) (h : fs1.look g = some fc) (call : CallT) (C : Ctx Tryz.prog (tyT Tryz.prog) E call) : FnOk Tryz.prog E call g fc := by
  have h := mkT_look h
  rw [Nat.one_mul, Nat.add_zero] at h
  unfold fnK at h
  cases h1 : Nat.beq g 127 <;> simp only [h1, cond] at h
  · cases h2 : Nat.beq g 60 <;> simp only [h2] at h
    · exact fn_fine g fc h C
    · have hg := Nat.eq_of_beq_eq_true h2
      subst hg
      refine fnC_ok C caught_fine (fun fn c hf hb => ?_) h
      have e1 : fn = Tryz.f60 := by have := Tryz.func60; rw [hf] at this; injection this
      subst e1
      have e2 : c = cB := by have : (Tryz.f60).body = some cB := (by kernel_rfl); rw [hb] at this; injection this
      subst e2
      exact ⟨hooksCrash hΘ7 hr7, .inl ⟨by kernel_rfl, by kernel_rfl⟩⟩
  · have hg := Nat.eq_of_beq_eq_true h1
    subst hg
    injection h with h
    subst h
    exact put_ok hΘ hr hc
end
end Go.Ev
