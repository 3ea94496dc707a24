/-
  Texts of this claim's own, laid into one: La, AdminLw, Gb, ConfC, VcEq, ConfPa, Gc, AdminAa, AdminAb, AdminAc, AdminAd, AdminNw, NodeNn, AdminNo, Gd, AdminAe, AdminAf, AdminAg.
-/
import Derived.Test.YtfkiolliegiocaaGreatProg
import Derived.KernelRfl
import Derived.Test.YtfkiolliegiocaaGreatXAdminNoneA
import Derived.Test.YtfkiolliegiocaaGreatXAdminNoneB
import Derived.Test.YtfkiolliegiocaaGreatXAdminNoneC
import Derived.Test.YtfkiolliegiocaaGreatXAdminNoneD
import Derived.Test.YtfkiolliegiocaaGreatXAdminNoneE
set_option linter.all false
/-
  What the functions' code comes to; printed by a program of this claim's own.
-/
namespace Go.Proofs.YtfkiolliegiocaaGreat
open Go Go.Vc
set_option maxRecDepth 100000
set_option linter.unusedVariables false
variable {w : World} {R : ERP}

/-! tollgate/tollgatelaw14.live -/
def T_law14_live_1 (d5 : Option Addr) (e6 : Int) (w : World) (Kn : Bool → WP) (Kp : KP) : Prop :=
  if ((e6 : Int) != 0) = true then (Kn true w) else (Kn d5.isNone w)

def H_law14_live_1 : Env → World → QT → Prop := unitHook 83 (ksOf [13, 14, 15, 16, 17, 18]) [(1, .pointer none), (2, .int .i64 0)] (oF (some [(18, .bool false)]) none []) fun l w C => T_law14_live_1 (pPtr (nv l 0)) (pInt (nv l 1)) w (fun b8 => C .normal [.bool b8]) (fun ch => C (.panic ch) [])

theorem T_law14_live_1_ok : UnitOk Tryz.prog H_law14_live_1 (at_ (bodyOf Tryz.f14) [1, 1, 0, 0]) 28 := uk hz

def T_law14_live_2_body (X : Int → WP) (i25 : Int) (d26 : Option Addr) (w : World) (Kn : WP) (Kp : KP) : Prop :=
  if (decide ((i25 : Int) < 13)) = true then (Calls Tryz.prog 6 #[.pointer d26, .agg #[.int .i64 1, .int .i64 1, .int .i64 0, .int .i64 0, .int .i64 0, .int .i64 0, .slice none 0 0, .int .i64 0, .int .i64 0, .int .i64 0, .int .i64 0, .string (ByteArray.mk #[]), .string (ByteArray.mk #[]), .string (ByteArray.mk #[]), .slice none 0 0, .int .i64 0, .int .i64 0]] w (ret (fun r27 w28 => ∃ (x29 x30 x31 x32 : Int) (s33a : Option Addr) (s33l s33c : Nat) (s34a : Option Addr) (s34l s34c : Nat) (s35a : Option Addr) (s35l s35c : Nat), r27 = .agg #[.int .i64 x29, .int .i64 x30, .int .i64 x31, .int .i64 x32, .slice s33a s33l s33c, .slice s34a s34l s34c, .slice s35a s35l s35c] ∧ X (IntKind.wrap .i64 ((i25 : Int) + 1)) w28) Kp)) else (Kn  w)

def T_law14_live_2 (i25 : Int) (d26 : Option Addr) (w : World) (Kn : WP) (Kp : KP) : Prop :=
  ∀ X : Int → WP, (∀ (i25 : Int) (w : World), T_law14_live_2_body X i25 d26 w Kn Kp → X i25 w) → X i25 w

def H_law14_live_2 : Env → World → QT → Prop := unitHook 83 (ksOf [5, 26, 27, 28, 29, 30, 31, 32]) ([(5, .int .i64 0)] ++ [(1, .pointer none)]) (oF (some []) none []) fun l w C => T_law14_live_2 (pInt (nv l 0)) (pPtr (nv l 1)) w (C .normal []) (fun ch => C (.panic ch) [])

theorem T_law14_live_2_ok : UnitOk Tryz.prog H_law14_live_2 (at_ (bodyOf Tryz.f14) [1, 1, 1, 1, 0, 1]) 125 := lk 0 (B := fun C X l u w => T_law14_live_2_body (fun i25 => X [.int .i64 i25]) (pInt (nv l 0)) (pPtr (nv u 0)) w (C .normal []) (fun ch => C (.panic ch) [])) hz (fun l u w C => ⟨fun h X hX => h (fun i25 => X [.int .i64 i25]) fun i25 w hb => hX [.int .i64 i25] w hb, fun h X hX => h (fun l w => X (pInt (nv l 0)) w) fun l w hb => hX (pInt (nv l 0)) w hb⟩)

def T_law14_live  (w : World) (R : ERP) : Prop :=
  Calls Tryz.prog 12 #[.int .i64 1, .int .i64 65536] w (ret (fun r1 w2 => ∃ (p3 : Option Addr) (x4 : Int), r1 = .tuple #[.pointer p3, .int .i64 x4] ∧ T_law14_live_1 p3 x4 w2 (fun b9 w10 => if b9 = true then (R (.returned (.bool false)) w10) else (Calls Tryz.prog 32 #[.string (ByteArray.mk #[97])] w10 (ret (fun r11 w12 => ∃ (x13 x14 x15 x16 : Int) (s17 s18 s19 : ByteArray) (s20a : Option Addr) (s20l s20c : Nat), r11 = .agg #[.int .i64 x13, .int .i64 x14, .int .i64 x15, .int .i64 x16, .string s17, .string s18, .string s19, .slice s20a s20l s20c] ∧ Calls Tryz.prog 4 #[.pointer p3, .int .i64 3, .agg #[.bool false, .int .i64 x13, .int .i64 x14, .int .i64 x15, .int .i64 x16, .string s17, .string s18, .string s19, .slice s20a s20l s20c]] w12 (ret (fun r21 w22 => ∃ (x23 x24 : Int), r21 = .tuple #[.int .i64 x23, .int .i64 x24] ∧ T_law14_live_2 0 p3 w22 (fun w36 => Calls Tryz.prog 5 #[.pointer p3, .int .i64 x23, .int .i64 1] w36 (ret (fun r37 w38 => ∃ (x39 x40 : Int), r37 = .tuple #[.int .i64 x39, .int .i64 x40] ∧ Calls Tryz.prog 7 #[.pointer p3] w38 (ret (fun r41 w42 => ∃ (s43a : Option Addr) (s43l s43c : Nat), r41 = .slice s43a s43l s43c ∧ if ((x24 : Int) == 0) = true then (if ((x23 : Int) == 1) = true then (if ((x40 : Int) == 0) = true then (if ((s43l : Int) == 1) = true then (0 ≤ (0 : Int) ∧ (0 : Int) < (s43l : Int) ∧ ∃ b44, s43a = some b44 ∧ ∃ x45 : Int, rd w42 ((b44.add ((0 : Int).toNat * 17)).add 11) (.int .i64 x45) ∧ if ((x45 : Int) == 2) = true then (0 ≤ (0 : Int) ∧ (0 : Int) < (s43l : Int) ∧ ∃ b46, s43a = some b46 ∧ ∃ (x47 x48 : Int), rd w42 ((b46.add ((0 : Int).toNat * 17)).add 12) (.agg #[.int .i64 x47, .int .i64 x48]) ∧ runV Tryz.prog (do eqGuard .eql 66 (.tmp 67) (.tmp 68) (.agg #[.int .i64 x47, .int .i64 x48]) (.agg #[.int .i64 0, .int .i64 1]); binOp .eql 66 (.agg #[.int .i64 x47, .int .i64 x48]) (.agg #[.int .i64 0, .int .i64 1])) w42 (fun r49 w50 => ∃ b51 : Bool, r49 = .bool b51 ∧ if b51 = true then (0 ≤ (0 : Int) ∧ (0 : Int) < (s43l : Int) ∧ ∃ b52, s43a = some b52 ∧ ∃ x53 : Int, rd w50 ((b52.add ((0 : Int).toNat * 17)).add 10) (.int .i64 x53) ∧ if ((x53 : Int) == 15) = true then (Calls Tryz.prog 9 #[.pointer p3] w50 (ret (fun r54 w55 => ∃ x56 : Int, r54 = .int .i64 x56 ∧ R (.returned (.bool ((x56 : Int) == 1))) w55) (pan R))) else (R (.returned (.bool false)) w50)) else (R (.returned (.bool false)) w50)) (pan R)) else (R (.returned (.bool false)) w42)) else (R (.returned (.bool false)) w42)) else (R (.returned (.bool false)) w42)) else (R (.returned (.bool false)) w42)) else (R (.returned (.bool false)) w42)) (pan R))) (pan R))) (pan R)) (pan R))) (pan R)))) (pan R)) (pan R))

theorem C_law14_live  (h : T_law14_live  w R) : Calls Tryz.prog 14 #[] w R := cc mixed Tryz.func14 (hA (H := hookAt [(28, H_law14_live_1), (125, H_law14_live_2)]) (hc T_law14_live_1_ok (hc T_law14_live_2_ok hn))) h

end Go.Proofs.YtfkiolliegiocaaGreat

/-
  The desk's first look: true.
-/
namespace Go.Ev
open Go Go.Vc Go.RowKit Go.Proofs.YtfkiolliegiocaaGreat Go.Proofs
set_option maxRecDepth 1000000
section
variable {E w : World} {φ : Phi} {b δ : Nat}
/-- The desk's memory is the k-th state; the desk is block b. -/
def SI (E : World) (b k : Nat) (w : World) : Prop := ∃ φ δ, HR φ E (mOf (aS k) (aS k).length) w ∧ φ 1 = some (b, δ)
theorem piece {g : Nat} {args vs : List Value} {v : (Nat → Nat) → Value → Bool} {k k' : Nat} (h : goK (kept v) (aS k') (aT k') (stp g args k) = true) (hb : hasBody Tryz.prog g = true) (hr : HR φ E (mOf (aS k) (aS k).length) w) (h1 : φ 1 = some (b, δ)) (hv : VRL φ args vs) :
    Calls Tryz.prog g ⟨vs⟩ w fun e w' => ∃ u, e = .returned u ∧ ∃ x ψ σ, v σ x = true ∧ VR ψ x u ∧ HR (fun i => ψ (σ i)) E (mOf (aS k') (aS k').length) w' ∧ ψ (σ 1) = some (b, δ) ∧ Le φ ψ :=
  (goK_ok (P := Tryz.prog) mixed (fs_fine E) h hb hv hr).mono fun e w' ⟨u, he, x, ψ, σ, hl, hx, hu, hr'⟩ => by
    simp only [kept, Bool.and_eq_true] at hx
    exact ⟨u, he, x, ψ, σ, hx.2, hu, hr', by rw [Nat.eq_of_beq_eq_true hx.1]; exact hl _ _ h1, hl⟩
theorem sl_any {φ : Phi} {a : Option Addr} {l c : Nat} {v : Value} (k : VR φ (.slice a l c) v) : ∃ a' l' c', v = .slice a' l' c' := by
  cases a with
  | none => exact ⟨_, _, _, k.sl_none⟩
  | some a => rcases k.sl_ with ⟨x, δ, _, ⟨_, rfl⟩ | ⟨_, rfl⟩⟩ | ⟨_, _, _, a', c', rfl⟩ <;> exact ⟨_, _, _, rfl⟩
theorem told_of {φ : Phi} {x u : Value} (h : isTold x = true) (hu : VR φ x u) : ∃ x1 x2 x3 x4 : Int, ∃ a1 l1 c1 a2 l2 c2 a3 l3 c3, u = .agg #[.int .i64 x1, .int .i64 x2, .int .i64 x3, .int .i64 x4, .slice a1 l1 c1, .slice a2 l2 c2, .slice a3 l3 c3] := by
  unfold isTold at h
  split at h
  · rename_i a x1 b x2 c x3 d x4 a1 l1 c1 a2 l2 c2 a3 l3 c3
    simp only [Bool.and_eq_true] at h
    obtain ⟨h1, h2, h3, h4⟩ := h
    have e1 := isK_eq h1
    have e2 := isK_eq h2
    have e3 := isK_eq h3
    have e4 := isK_eq h4
    subst e1 e2 e3 e4
    obtain ⟨ds, rfl, k⟩ := hu.agg_
    have sl : ∀ {a : Option Addr} {l c : Nat} {v : Value}, VR φ (.slice a l c) v → ∃ a' l' c', v = .slice a' l' c' := fun {a l c v} k => by
      cases a with
      | none => exact ⟨_, _, _, k.sl_none⟩
      | some a =>
        rcases k.sl_ with ⟨x, δ, _, ⟨_, rfl⟩ | ⟨_, rfl⟩⟩ | ⟨_, _, _, a', c', rfl⟩ <;> exact ⟨_, _, _, rfl⟩
    cases k with | cons k1 k => cases k with | cons k2 k => cases k with | cons k3 k => cases k with | cons k4 k => cases k with | cons k5 k => cases k with | cons k6 k => cases k with | cons k7 k => cases k with | nil =>
    obtain ⟨_, _, _, rfl⟩ := sl k5
    obtain ⟨_, _, _, rfl⟩ := sl k6
    obtain ⟨_, _, _, rfl⟩ := sl k7
    rw [k1.flat_eq rfl, k2.flat_eq rfl, k3.flat_eq rfl, k4.flat_eq rfl]
    exact ⟨_, _, _, _, _, _, _, _, _, _, _, _, _, rfl⟩
  · cases h
theorem tick_ok {k : Nat} (hk : k < 13) : goK (kept fun _ x => isTold x) (aS (k + 3)) (aT (k + 3)) (stp 6 [d1, aTick] (k + 2)) = true := by
  have : k = 0 ∨ k = 1 ∨ k = 2 ∨ k = 3 ∨ k = 4 ∨ k = 5 ∨ k = 6 ∨ k = 7 ∨ k = 8 ∨ k = 9 ∨ k = 10 ∨ k = 11 ∨ k = 12 := by omega
  rcases this with rfl | rfl | rfl | rfl | rfl | rfl | rfl | rfl | rfl | rfl | rfl | rfl | rfl
  · exact tick_run0
  · exact tick_run1
  · exact tick_run2
  · exact tick_run3
  · exact tick_run4
  · exact tick_run5
  · exact tick_run6
  · exact tick_run7
  · exact tick_run8
  · exact tick_run9
  · exact tick_run10
  · exact tick_run11
  · exact tick_run12
theorem tick_flat : flat aTick = true := by kernel_rfl
theorem loop_ok {Kn : World → Prop} {Kp : List PanicEntry → World → Prop} (h : SI E b 2 w) (k : ∀ w', SI E b 15 w' → Kn w') : T_law14_live_2 0 (some ⟨b, 0, none⟩) w Kn Kp := by
  unfold T_law14_live_2
  intro X hX
  have go : ∀ (m j : Nat) (w : World), m + j = 13 → SI E b (j + 2) w → X (j : Int) w := by
    intro m
    induction m with
    | zero =>
      intro j w hj h
      refine hX _ _ ?_
      unfold T_law14_live_2_body
      have : j = 13 := by omega
      subst this
      exact ite_d (fun hh => absurd hh (by omega)) fun _ => k _ h
    | succ m ih =>
      intro j w hj h
      refine hX _ _ ?_
      unfold T_law14_live_2_body
      refine ite_d (fun _ => ?_) fun hh => absurd hh (by omega)
      obtain ⟨φ, δ, hr, h1⟩ := h
      refine (piece (vs := [.pointer (some ⟨b, 0, none⟩), aTick]) (tick_ok (k := j) (by omega)) (by kernel_rfl) hr h1 (.cons (.ptr h1) (.cons (.flat tick_flat) .nil))).mono fun e w' ⟨u, he, x, ψ, σ, hx, hu, hr', h1', _⟩ => ?_
      subst he
      obtain ⟨x1, x2, x3, x4, a1, l1, c1, a2, l2, c2, a3, l3, c3, rfl⟩ := told_of hx hu
      refine ⟨_, _, _, _, _, _, _, _, _, _, _, _, _, rfl, ?_⟩
      rw [show ((j : Int) + 1) = ((j + 1 : Nat) : Int) from by omega, show IntKind.wrap .i64 ((j + 1 : Nat) : Int) = ((j + 1 : Nat) : Int) from Go.Vc.wrap_id (by omega) (by omega)]
      exact ih (j + 1) w' (by omega) ⟨_, _, hr', h1'⟩
  exact go 13 0 w rfl h
theorem VRL.at_ : ∀ {cs ys : List Value} {i : Nat} {u : Value}, VRL φ cs ys → cs[i]? = some u → ∃ v, ys[i]? = some v ∧ VR φ u v
  | _ :: _, _, 0, u, .cons k _, h => by
    injection h with h
    subst h
    exact ⟨_, rfl, k⟩
  | _ :: _, _, i + 1, u, .cons _ r, h => VRL.at_ (i := i) r h
def aRow : List Value := [.bool false, .int .i64 1, .int .i64 3, .int .i64 1, .int .i64 (-1), .string ⟨#[]⟩, .string ⟨#[]⟩, .string ⟨#[97]⟩, .slice (some ⟨7, 0, none⟩) 1 1, .int .i64 1, .int .i64 15, .int .i64 2, .int .i64 0, .int .i64 1, .int .i64 0, .slice none 0 0, .slice none 0 0]
theorem row_look : (mOf (aS 17) (aS 17).length).t.look 2 = some (.cells 2 68 17 aRow) := by kernel_rfl
theorem frm_look : (mOf (aS 18) (aS 18).length).get 0 false isFrm = true := by kernel_rfl
theorem res_eq (w : World) : (do eqGuard .eql 66 (.tmp 67) (.tmp 68) (.agg #[.int .i64 0, .int .i64 1]) (.agg #[.int .i64 0, .int .i64 1]); binOp .eql 66 (.agg #[.int .i64 0, .int .i64 1]) (.agg #[.int .i64 0, .int .i64 1]) : Sem Value).run Tryz.prog w = .ok (.bool true) w := by kernel_rfl
theorem live_true (w : World) : Calls Tryz.prog 14 #[] w fun e w' => e = .returned (.bool true) ∧ St w [old w] w' := by
  refine C_law14_live ?_
  unfold T_law14_live
  refine (goK_ok (P := Tryz.prog) mixed (fs_fine w) new_run (by kernel_rfl) (vs := [.int .i64 1, .int .i64 65536]) (.cons (.flat rfl) (.cons (.flat rfl) .nil)) (HR.start w)).mono fun e w2 ⟨u, he, x, ψ, σ, _, hx, hu, hr⟩ => ?_
  subst he
  obtain ⟨ds, rfl, kd⟩ := (eqR_ok hx hu).tup_
  cases kd with | cons k1 kd => cases kd with | cons k2 kd => cases kd with | nil =>
  obtain ⟨b, δ, h1, _, rfl⟩ := k1.ptr_
  rw [k2.flat_eq rfl]
  refine ⟨_, _, rfl, ?_⟩
  unfold T_law14_live_1
  refine ite_b (fun hh => absurd hh (by decide)) fun _ => ite_b (fun hh => by cases hh) fun _ => ?_
  refine (piece (vs := [.string ⟨#[97]⟩]) pool_run (by kernel_rfl) hr h1 (.cons (.flat rfl) .nil)).mono fun e w13 ⟨u, he, x, ψ2, σ2, hx, hu, hr2, h2, _⟩ => ?_
  subst he
  obtain ⟨ds, rfl, kd⟩ := (eqR_ok hx hu).agg_
  have kd' := kd
  cases kd with | cons k1 kd => cases kd with | cons k2 kd => cases kd with | cons k3 kd => cases kd with | cons k4 kd => cases kd with | cons k5 kd => cases kd with | cons k6 kd => cases kd with | cons k7 kd => cases kd with | cons k8 kd => cases kd with | nil =>
  have e1 := k1.flat_eq rfl
  have e2 := k2.flat_eq rfl
  have e3 := k3.flat_eq rfl
  have e4 := k4.flat_eq rfl
  have e5 := k5.flat_eq rfl
  have e6 := k6.flat_eq rfl
  have e7 := k7.flat_eq rfl
  subst e1 e2 e3 e4 e5 e6 e7
  obtain ⟨a8, l8, c8, rfl⟩ := sl_any k8
  refine ⟨_, _, _, _, _, _, _, _, _, _, rfl, ?_⟩
  refine (piece (vs := [.pointer (some ⟨b, 0, none⟩), .int .i64 3, .agg ⟨[.bool false, .int .i64 1, .int .i64 0, .int .i64 0, .int .i64 (-1), .string ⟨#[]⟩, .string ⟨#[]⟩, .string ⟨#[97]⟩, .slice a8 l8 c8]⟩]) ask_run (by kernel_rfl) hr2 h2 (.cons (.ptr h2) (.cons (.flat rfl) (.cons (.agg (.cons (.flat rfl) kd')) .nil)))).mono fun e w23 ⟨u, he, x, ψ3, σ3, hx, hu, hr3, h3, _⟩ => ?_
  subst he
  have ex := eqV_eq hx
  subst ex
  have eu := hu.flat_eq rfl
  subst eu
  refine ⟨_, _, rfl, ?_⟩
  refine loop_ok ⟨_, _, hr3, h3⟩ fun w37 ⟨φ4, δ4, hr4, h4⟩ => ?_
  refine (piece (vs := [.pointer (some ⟨b, 0, none⟩), .int .i64 1, .int .i64 1]) try_run (by kernel_rfl) hr4 h4 (.cons (.ptr h4) (.cons (.flat rfl) (.cons (.flat rfl) .nil)))).mono fun e w39 ⟨u, he, x, ψ5, σ5, hx, hu, hr5, h5, _⟩ => ?_
  subst he
  have ex := eqV_eq hx
  subst ex
  have eu := hu.flat_eq rfl
  subst eu
  refine ⟨_, _, rfl, ?_⟩
  refine (piece (vs := [.pointer (some ⟨b, 0, none⟩)]) hist_run (by kernel_rfl) hr5 h5 (.cons (.ptr h5) .nil)).mono fun e w43 ⟨u, he, x, ψ6, σ6, hx, hu, hr6, h6, _⟩ => ?_
  subst he
  obtain ⟨b2, δ2, g2, hu⟩ : ∃ b2 δ2, ψ6 (σ6 2) = some (b2, δ2) ∧ u = .slice (some ⟨b2, 0, none⟩) 1 (1 + δ2) := by
    rcases (eqR_ok hx hu).sl_ with ⟨x, δ, hx, ⟨_, e⟩ | ⟨h, _⟩⟩ | ⟨⟨_, h⟩, _⟩
    · exact ⟨x, δ, hx, e⟩
    · cases h
    · cases h
  subst hu
  refine ⟨_, _, _, rfl, ?_⟩
  obtain ⟨b3, δ3, ys, rest, g3, gy, _, _, _, hs⟩ := OA_cells_open (st_take (H := []) hr6.st row_look)
  have e3 : b3 = b2 := by have := g3.symm.trans g2; injection this with this; injection this
  subst e3
  have at_ : ∀ {i : Nat} {u : Value}, aRow[i]? = some u → flat u = true → (ys ++ rest)[i]? = some u := fun {i u} hi hf => by
    obtain ⟨v, hv, k⟩ := VRL.at_ gy hi
    rw [k.flat_eq hf] at hv
    rw [List.getElem?_append_left (List.getElem?_eq_some_iff.1 hv).1]
    exact hv
  refine ite_b (fun _ => ite_b (fun _ => ite_b (fun _ => ite_b (fun _ => ?_) fun hh => absurd hh (by decide)) fun hh => absurd hh (by decide)) fun hh => absurd hh (by decide)) fun hh => absurd hh (by decide)
  refine ⟨by decide, by decide, _, rfl, 2, rd_fld (k := 11) hs.at_blk (at_ rfl rfl) rfl, ite_b (fun _ => ?_) fun hh => absurd hh (by decide)⟩
  refine ⟨by decide, by decide, _, rfl, 0, 1, ?_, ?_⟩
  · show rd w43 ((⟨b3, 0, none⟩ : Addr).add 12) _
    rw [add_mk, Nat.zero_add]
    exact rd_agg (xs := [.int .i64 0, .int .i64 1]) hs.at_blk fun i u hu => by
      match i, hu with
      | 0, hu => injection hu with hu; subst hu; exact at_ rfl rfl
      | 1, hu => injection hu with hu; subst hu; exact at_ rfl rfl
  refine runV_ok (res_eq w43) ⟨_, rfl, ite_b (fun _ => ?_) fun hh => by cases hh⟩
  refine ⟨by decide, by decide, _, rfl, 15, rd_fld (k := 10) hs.at_blk (at_ rfl rfl) rfl, ite_b (fun _ => ?_) fun hh => absurd hh (by decide)⟩
  refine (piece (vs := [.pointer (some ⟨b, 0, none⟩)]) lead_run (by kernel_rfl) hr6 h6 (.cons (.ptr h6) .nil)).mono fun e w56 ⟨u, he, x, ψ7, σ7, hx, hu, hr7, h7, _⟩ => ?_
  subst he
  have ex := eqV_eq hx
  subst ex
  have eu := hu.flat_eq rfl
  subst eu
  exact ⟨_, rfl, rfl, frm_kept hr7 frm_look⟩
end
end Go.Ev

/-
  What the functions' code comes to; printed by a program of this claim's own.
-/
namespace Go.Proofs.YtfkiolliegiocaaGreat
open Go Go.Vc
set_option maxRecDepth 100000
set_option linter.unusedVariables false
variable {w : World} {R : ERP}

/-! tollgate/conf.num -/
def T_conf_num (b1a : Option Addr) (b1l b1c : Nat) (n2 : Int) (w : World) (R : ERP) : Prop :=
  Calls Tryz.prog 212 #[.int .i64 n2] w (ret (fun r3 w4 => ∃ (s5a : Option Addr) (s5l s5c : Nat) (x6 : Int), r3 = .tuple #[.slice s5a s5l s5c, .int .i64 x6] ∧ runV Tryz.prog (Builtin.append_ #[102, 102] 102 #[.slice b1a b1l b1c, .slice s5a s5l s5c]) w4 (fun r7 w8 => ∃ (s9a : Option Addr) (s9l s9c : Nat), r7 = .slice s9a s9l s9c ∧ R (.returned (.slice s9a s9l s9c)) w8) (pan R)) (pan R))

theorem C_conf_num {b1a : Option Addr} {b1l b1c : Nat} {n2 : Int} (h : T_conf_num b1a b1l b1c n2 w R) : Calls Tryz.prog 177 #[.slice b1a b1l b1c, .int .i64 n2] w R := cc mixed Tryz.func177 hz h

/-! tollgate/conf.text -/
def T_conf_text (b1a : Option Addr) (b1l b1c : Nat) (s2 : ByteArray) (w : World) (R : ERP) : Prop :=
  Calls Tryz.prog 177 #[.slice b1a b1l b1c, .int .i64 (s2.size : Int)] w (ret (fun r3 w4 => ∃ (s5a : Option Addr) (s5l s5c : Nat), r3 = .slice s5a s5l s5c ∧ runV Tryz.prog (Builtin.append_ #[102, 9] 102 #[.slice s5a s5l s5c, .string s2]) w4 (fun r6 w7 => ∃ (s8a : Option Addr) (s8l s8c : Nat), r6 = .slice s8a s8l s8c ∧ R (.returned (.slice s8a s8l s8c)) w7) (pan R)) (pan R))

theorem C_conf_text {b1a : Option Addr} {b1l b1c : Nat} {s2 : ByteArray} (h : T_conf_text b1a b1l b1c s2 w R) : Calls Tryz.prog 179 #[.slice b1a b1l b1c, .string s2] w R := cc mixed Tryz.func179 hz h

/-! tollgate/conf.float -/
def T_conf_float_1_body (X : Option Addr → Nat → Nat → Int → WP) (b3a : Option Addr) (b3l b3c : Nat) (k4 : Int) (w5 : Nat) (w : World) (Kn : Option Addr → Nat → Nat → WP) (Kp : KP) : Prop :=
  if (decide ((k4 : Int) ≥ 0)) = true then (runV Tryz.prog (callFunc 57 #[.float .f64 w5]) w (nxv (fun r6 w7 => ∃ x8 : Int, r6 = .int .u64 x8 ∧ runV Tryz.prog (do eqGuard .shr 137 (.tmp 12) (.tmp 13) (.int .u64 x8) (.int .i64 k4); binOp .shr 137 (.int .u64 x8) (.int .i64 k4)) w7 (fun r9 w10 => ∃ x11 : Int, r9 = .int .u64 x11 ∧ let w12 := w10.alloc (.cells #[.int .u8 (IntKind.wrap .u8 x11)] 5)
  runV Tryz.prog (Builtin.append_ #[102, 102] 102 #[.slice b3a b3l b3c, .slice (some ⟨w10.heap.size, 0, none⟩) 1 1]) w12 (fun r13 w14 => ∃ (s15a : Option Addr) (s15l s15c : Nat), r13 = .slice s15a s15l s15c ∧ X s15a s15l s15c (IntKind.wrap .i64 ((k4 : Int) - 8)) w14) Kp) Kp)) Kp) else (Kn b3a b3l b3c w)

def T_conf_float_1 (b3a : Option Addr) (b3l b3c : Nat) (k4 : Int) (w5 : Nat) (w : World) (Kn : Option Addr → Nat → Nat → WP) (Kp : KP) : Prop :=
  ∀ X : Option Addr → Nat → Nat → Int → WP, (∀ (b3a : Option Addr) (b3l b3c : Nat) (k4 : Int) (w : World), T_conf_float_1_body X b3a b3l b3c k4 w5 w Kn Kp → X b3a b3l b3c k4 w) → X b3a b3l b3c k4 w

def H_conf_float_1 : Env → World → QT → Prop := unitHook 19 (ksOf [0, 5, 6, 7, 8, 9, 10, 11, 12, 13, 14, 15, 16, 17]) ([(0, .slice none 0 0), (5, .int .i64 0)] ++ [(1, .float .f64 0)]) (oF (some [(0, .slice none 0 0)]) none []) fun l w C => T_conf_float_1 (pA (nv l 0)) (pL (nv l 0)) (pC (nv l 0)) (pInt (nv l 1)) (pFlt (nv l 2)) w (fun b17a b17l b17c => C .normal [.slice b17a b17l b17c]) (fun ch => C (.panic ch) [])

theorem T_conf_float_1_ok : UnitOk Tryz.prog H_conf_float_1 (at_ (bodyOf Tryz.f249) [1, 0, 1]) 13 := lk 0 (B := fun C X l u w => T_conf_float_1_body (fun b3a b3l b3c k4 => X [.slice b3a b3l b3c, .int .i64 k4]) (pA (nv l 0)) (pL (nv l 0)) (pC (nv l 0)) (pInt (nv l 1)) (pFlt (nv u 0)) w (fun b18a b18l b18c => C .normal [.slice b18a b18l b18c]) (fun ch => C (.panic ch) [])) hz (fun l u w C => ⟨fun h X hX => h (fun b3a b3l b3c k4 => X [.slice b3a b3l b3c, .int .i64 k4]) fun b3a b3l b3c k4 w hb => hX [.slice b3a b3l b3c, .int .i64 k4] w hb, fun h X hX => h (fun l w => X (pA (nv l 0)) (pL (nv l 0)) (pC (nv l 0)) (pInt (nv l 1)) w) fun l w hb => hX (pA (nv l 0)) (pL (nv l 0)) (pC (nv l 0)) (pInt (nv l 1)) w hb⟩)

def T_conf_float (b1a : Option Addr) (b1l b1c w2 : Nat) (w : World) (R : ERP) : Prop :=
  T_conf_float_1 b1a b1l b1c 56 w2 w (fun b19a b19l b19c w20 => R (.returned (.slice b19a b19l b19c)) w20) (pan R)

theorem C_conf_float {b1a : Option Addr} {b1l b1c w2 : Nat} (h : T_conf_float b1a b1l b1c w2 w R) : Calls Tryz.prog 249 #[.slice b1a b1l b1c, .float .f64 w2] w R := cc mixed Tryz.func249 (hA (H := hookAt [(13, H_conf_float_1)]) (hc T_conf_float_1_ok hn)) h

/-! tollgate/conf.row -/
def T_conf_row_1_body (X : Option Addr → Nat → Nat → Int → WP) (b6a : Option Addr) (b6l b6c : Nat) (x7 : Int) (s8a : Option Addr) (s8l s8c : Nat) (x9 : Int) (w : World) (Kn : Option Addr → Nat → Nat → WP) (Kp : KP) : Prop :=
  if (decide ((x7 : Int) < x9)) = true then (0 ≤ (x7 : Int) ∧ (x7 : Int) < (s8l : Int) ∧ ∃ b10, s8a = some b10 ∧ ∃ (s11 : ByteArray) (f12 : Nat), rd w (b10.add ((x7 : Int).toNat * 2)) (.agg #[.string s11, .float .f64 f12]) ∧ let w13 := w.alloc (.cells #[.string (ByteArray.mk #[]), .float .f64 0] 64)
  (.agg #[.string s11, .float .f64 f12] : Value).cells.size = 2 ∧ wrOk w13 (⟨w.heap.size, 0, none⟩ : Addr) (.agg #[.string s11, .float .f64 f12]) ∧ let w14 := wr w13 (⟨w.heap.size, 0, none⟩ : Addr) (.agg #[.string s11, .float .f64 f12])
  let w15 := w14.drew
  ∃ s16 : ByteArray, rd w15 (⟨w.heap.size, 0, none⟩ : Addr) (.string s16) ∧ ∃ f17 : Nat, rd w15 ((⟨w.heap.size, 0, none⟩ : Addr).add 1) (.float .f64 f17) ∧ Calls Tryz.prog 179 #[.slice b6a b6l b6c, .string s16] w15 (ret (fun r18 w19 => ∃ (s20a : Option Addr) (s20l s20c : Nat), r18 = .slice s20a s20l s20c ∧ (rd w19 ((⟨w.heap.size, 0, none⟩ : Addr).add 1) (.float .f64 f17) ∧ True) ∧ Calls Tryz.prog 249 #[.slice s20a s20l s20c, .float .f64 f17] w19 (ret (fun r21 w22 => ∃ (s23a : Option Addr) (s23l s23c : Nat), r21 = .slice s23a s23l s23c ∧ (True) ∧ X s23a s23l s23c (IntKind.wrap .i64 ((x7 : Int) + 1)) w22) Kp)) Kp)) else (Kn b6a b6l b6c w)

def T_conf_row_1 (b6a : Option Addr) (b6l b6c : Nat) (x7 : Int) (s8a : Option Addr) (s8l s8c : Nat) (x9 : Int) (w : World) (Kn : Option Addr → Nat → Nat → WP) (Kp : KP) : Prop :=
  ∀ X : Option Addr → Nat → Nat → Int → WP, (∀ (b6a : Option Addr) (b6l b6c : Nat) (x7 : Int) (w : World), T_conf_row_1_body X b6a b6l b6c x7 s8a s8l s8c x9 w Kn Kp → X b6a b6l b6c x7 w) → X b6a b6l b6c x7 w

def H_conf_row_1 : Env → World → QT → Prop := unitHook 26 (ksOf [0, 6, 13, 14, 15, 16, 17, 18, 19, 20, 21, 22, 23, 24]) ([(0, .slice none 0 0), (13, .int .i64 0)] ++ [(11, .slice none 0 0), (12, .int .i64 0)]) (oF (some [(0, .slice none 0 0)]) none []) fun l w C => T_conf_row_1 (pA (nv l 0)) (pL (nv l 0)) (pC (nv l 0)) (pInt (nv l 1)) (pA (nv l 2)) (pL (nv l 2)) (pC (nv l 2)) (pInt (nv l 3)) w (fun b25a b25l b25c => C .normal [.slice b25a b25l b25c]) (fun ch => C (.panic ch) [])

theorem T_conf_row_1_ok : UnitOk Tryz.prog H_conf_row_1 (at_ (bodyOf Tryz.f178) [1, 1, 0, 1]) 29 := lk 0 (B := fun C X l u w => T_conf_row_1_body (fun b6a b6l b6c x7 => X [.slice b6a b6l b6c, .int .i64 x7]) (pA (nv l 0)) (pL (nv l 0)) (pC (nv l 0)) (pInt (nv l 1)) (pA (nv u 0)) (pL (nv u 0)) (pC (nv u 0)) (pInt (nv u 1)) w (fun b26a b26l b26c => C .normal [.slice b26a b26l b26c]) (fun ch => C (.panic ch) [])) hz (fun l u w C => ⟨fun h X hX => h (fun b6a b6l b6c x7 => X [.slice b6a b6l b6c, .int .i64 x7]) fun b6a b6l b6c x7 w hb => hX [.slice b6a b6l b6c, .int .i64 x7] w hb, fun h X hX => h (fun l w => X (pA (nv l 0)) (pL (nv l 0)) (pC (nv l 0)) (pInt (nv l 1)) w) fun l w hb => hX (pA (nv l 0)) (pL (nv l 0)) (pC (nv l 0)) (pInt (nv l 1)) w hb⟩)

def T_conf_row (b1a : Option Addr) (b1l b1c : Nat) (l2a : Option Addr) (l2l l2c : Nat) (w : World) (R : ERP) : Prop :=
  Calls Tryz.prog 177 #[.slice b1a b1l b1c, .int .i64 (l2l : Int)] w (ret (fun r3 w4 => ∃ (s5a : Option Addr) (s5l s5c : Nat), r3 = .slice s5a s5l s5c ∧ T_conf_row_1 s5a s5l s5c 0 l2a l2l l2c (l2l : Int) w4 (fun b27a b27l b27c w28 => R (.returned (.slice b27a b27l b27c)) w28) (pan R)) (pan R))

theorem C_conf_row {b1a : Option Addr} {b1l b1c : Nat} {l2a : Option Addr} {l2l l2c : Nat} (h : T_conf_row b1a b1l b1c l2a l2l l2c w R) : Calls Tryz.prog 178 #[.slice b1a b1l b1c, .slice l2a l2l l2c] w R := cc mixed Tryz.func178 (hA (H := hookAt [(29, H_conf_row_1)]) (hc T_conf_row_1_ok hn)) h

/-! tollgate/admin.copied -/
def T_admin_copied (x1 x2 x3 x4 : Int) (s5 s6 s7 : ByteArray) (s8a : Option Addr) (s8l s8c : Nat) (w : World) (R : ERP) : Prop :=
  let w9 := w.alloc (.cells #[.int .i64 x1, .int .i64 x2, .int .i64 x3, .int .i64 x4, .string s5, .string s6, .string s7, .slice s8a s8l s8c] 25)
  let w10 := w9.alloc (.cells #[.int .i64 0, .int .i64 0, .int .i64 0, .int .i64 0, .string (ByteArray.mk #[]), .string (ByteArray.mk #[]), .string (ByteArray.mk #[]), .slice none 0 0] 25)
  ∃ (s11a : Option Addr) (s11l s11c : Nat), rd w10 ((⟨w.heap.size, 0, none⟩ : Addr).add 7) (.slice s11a s11l s11c) ∧ Calls Tryz.prog 34 #[.slice s11a s11l s11c] w10 (ret (fun r12 w13 => ∃ (s14a : Option Addr) (s14l s14c : Nat), r12 = .slice s14a s14l s14c ∧ (.slice s14a s14l s14c : Value).cells.size = 1 ∧ wrOk w13 ((⟨w.heap.size, 0, none⟩ : Addr).add 7) (.slice s14a s14l s14c) ∧ let w15 := wr w13 ((⟨w.heap.size, 0, none⟩ : Addr).add 7) (.slice s14a s14l s14c)
  ∃ (x16 x17 x18 x19 : Int) (s20 s21 s22 : ByteArray) (s23a : Option Addr) (s23l s23c : Nat), rd w15 (⟨w.heap.size, 0, none⟩ : Addr) (.agg #[.int .i64 x16, .int .i64 x17, .int .i64 x18, .int .i64 x19, .string s20, .string s21, .string s22, .slice s23a s23l s23c]) ∧ (.agg #[.int .i64 x16, .int .i64 x17, .int .i64 x18, .int .i64 x19, .string s20, .string s21, .string s22, .slice s23a s23l s23c] : Value).cells.size = 8 ∧ wrOk w15 (⟨w9.heap.size, 0, none⟩ : Addr) (.agg #[.int .i64 x16, .int .i64 x17, .int .i64 x18, .int .i64 x19, .string s20, .string s21, .string s22, .slice s23a s23l s23c]) ∧ let w24 := wr w15 (⟨w9.heap.size, 0, none⟩ : Addr) (.agg #[.int .i64 x16, .int .i64 x17, .int .i64 x18, .int .i64 x19, .string s20, .string s21, .string s22, .slice s23a s23l s23c])
  ∃ (x25 x26 x27 x28 : Int) (s29 s30 s31 : ByteArray) (s32a : Option Addr) (s32l s32c : Nat), rd w24 (⟨w9.heap.size, 0, none⟩ : Addr) (.agg #[.int .i64 x25, .int .i64 x26, .int .i64 x27, .int .i64 x28, .string s29, .string s30, .string s31, .slice s32a s32l s32c]) ∧ R (.returned (.agg #[.int .i64 x25, .int .i64 x26, .int .i64 x27, .int .i64 x28, .string s29, .string s30, .string s31, .slice s32a s32l s32c])) w24) (pan R))

theorem C_admin_copied {x1 x2 x3 x4 : Int} {s5 s6 s7 : ByteArray} {s8a : Option Addr} {s8l s8c : Nat} (h : T_admin_copied x1 x2 x3 x4 s5 s6 s7 s8a s8l s8c w R) : Calls Tryz.prog 18 #[.agg #[.int .i64 x1, .int .i64 x2, .int .i64 x3, .int .i64 x4, .string s5, .string s6, .string s7, .slice s8a s8l s8c]] w R := cc mixed Tryz.func18 hz h

/-! slices.IndexFunc[[]*tollgate/admin.record,*tollgate/admin.record] -/
def T_slices_IndexFunc_admin_record_admin_record_1_body (X : Int → WP) (x3 : Int) (s4a : Option Addr) (s4l s4c : Nat) (f5g : FuncId) (f5i f5c : Array Value) (x6 : Int) (w : World) (Kn : WP) (Kr : Int → WP) (Kp : KP) : Prop :=
  if (decide ((x3 : Int) < x6)) = true then (0 ≤ (x3 : Int) ∧ (x3 : Int) < (s4l : Int) ∧ ∃ b7, s4a = some b7 ∧ ∃ p8 : Option Addr, rd w (b7.add ((x3 : Int).toNat * 1)) (.pointer p8) ∧ hasBody Tryz.prog f5g = true ∧ Calls Tryz.prog f5g ⟨f5i.toList ++ ([.pointer p8] ++ f5c.toList)⟩ w (ret (fun r9 w10 => ∃ b11 : Bool, r9 = .bool b11 ∧ if b11 = true then (Kr x3 w10) else (X (IntKind.wrap .i64 ((x3 : Int) + 1)) w10)) Kp)) else (Kn  w)

def T_slices_IndexFunc_admin_record_admin_record_1 (x3 : Int) (s4a : Option Addr) (s4l s4c : Nat) (f5g : FuncId) (f5i f5c : Array Value) (x6 : Int) (w : World) (Kn : WP) (Kr : Int → WP) (Kp : KP) : Prop :=
  ∀ X : Int → WP, (∀ (x3 : Int) (w : World), T_slices_IndexFunc_admin_record_admin_record_1_body X x3 s4a s4l s4c f5g f5i f5c x6 w Kn Kr Kp → X x3 w) → X x3 w

def H_slices_IndexFunc_admin_record_admin_record_1 : Env → World → QT → Prop := unitHook 19 (ksOf [4, 5, 8, 9, 10, 11, 12, 13, 14, 15, 16, 17, 18]) ([(8, .int .i64 0)] ++ [(0, .slice none 0 0), (1, .func (.func 0) #[] #[]), (7, .int .i64 0)]) (oF (some []) (some [(4, .int .i64 0)]) []) fun l w C => T_slices_IndexFunc_admin_record_admin_record_1 (pInt (nv l 0)) (pA (nv l 1)) (pL (nv l 1)) (pC (nv l 1)) (pFn (nv l 2)) (pFi (nv l 2)) (pCa (nv l 2)) (pInt (nv l 3)) w (C .normal []) (fun x13 => C .ret [.int .i64 x13]) (fun ch => C (.panic ch) [])

theorem T_slices_IndexFunc_admin_record_admin_record_1_ok : UnitOk Tryz.prog H_slices_IndexFunc_admin_record_admin_record_1 (at_ (bodyOf Tryz.f33) [1, 0, 1]) 13 := lk 0 (B := fun C X l u w => T_slices_IndexFunc_admin_record_admin_record_1_body (fun x3 => X [.int .i64 x3]) (pInt (nv l 0)) (pA (nv u 0)) (pL (nv u 0)) (pC (nv u 0)) (pFn (nv u 1)) (pFi (nv u 1)) (pCa (nv u 1)) (pInt (nv u 2)) w (C .normal []) (fun x14 => C .ret [.int .i64 x14]) (fun ch => C (.panic ch) [])) hz (fun l u w C => ⟨fun h X hX => h (fun x3 => X [.int .i64 x3]) fun x3 w hb => hX [.int .i64 x3] w hb, fun h X hX => h (fun l w => X (pInt (nv l 0)) w) fun l w hb => hX (pInt (nv l 0)) w hb⟩)

def T_slices_IndexFunc_admin_record_admin_record (s1a : Option Addr) (s1l s1c : Nat) (f2g : FuncId) (f2i f2c : Array Value) (w : World) (R : ERP) : Prop :=
  T_slices_IndexFunc_admin_record_admin_record_1 0 s1a s1l s1c f2g f2i f2c (s1l : Int) w (fun w15 => R (.returned (.int .i64 (-1))) w15) (fun x16 w17 => R (.returned (.int .i64 x16)) w17) (pan R)

theorem C_slices_IndexFunc_admin_record_admin_record {s1a : Option Addr} {s1l s1c : Nat} {f2g : FuncId} {f2i f2c : Array Value} (h : T_slices_IndexFunc_admin_record_admin_record s1a s1l s1c f2g f2i f2c w R) : Calls Tryz.prog 33 #[.slice s1a s1l s1c, .func (.func f2g) f2i f2c] w R := cc mixed Tryz.func33 (hA (H := hookAt [(13, H_slices_IndexFunc_admin_record_admin_record_1)]) (hc T_slices_IndexFunc_admin_record_admin_record_1_ok hn)) h

/-! slices.ContainsFunc[[]*tollgate/admin.record,*tollgate/admin.record] -/
def T_slices_ContainsFunc_admin_record_admin_record (s1a : Option Addr) (s1l s1c : Nat) (f2g : FuncId) (f2i f2c : Array Value) (w : World) (R : ERP) : Prop :=
  Calls Tryz.prog 33 #[.slice s1a s1l s1c, .func (.func f2g) f2i f2c] w (ret (fun r3 w4 => ∃ x5 : Int, r3 = .int .i64 x5 ∧ R (.returned (.bool (decide ((x5 : Int) ≥ 0)))) w4) (pan R))

theorem C_slices_ContainsFunc_admin_record_admin_record {s1a : Option Addr} {s1l s1c : Nat} {f2g : FuncId} {f2i f2c : Array Value} (h : T_slices_ContainsFunc_admin_record_admin_record s1a s1l s1c f2g f2i f2c w R) : Calls Tryz.prog 16 #[.slice s1a s1l s1c, .func (.func f2g) f2i f2c] w R := cc mixed Tryz.func16 hz h

/-! slices.Clone[[]tollgate/api.Route,tollgate/api.Route] -/
def T_slices_Clone_api_Route (s1a : Option Addr) (s1l s1c : Nat) (w : World) (R : ERP) : Prop :=
  if s1a.isNone = true then (R (.returned (.slice none 0 0)) w) else (let w2 := w.alloc (.cells #[] 110)
  runV Tryz.prog (Builtin.append_ #[53, 53] 53 #[.slice (some ⟨w.heap.size, 0, none⟩) 0 0, .slice s1a s1l s1c]) w2 (fun r3 w4 => ∃ (s5a : Option Addr) (s5l s5c : Nat), r3 = .slice s5a s5l s5c ∧ R (.returned (.slice s5a s5l s5c)) w4) (pan R))

theorem C_slices_Clone_api_Route {s1a : Option Addr} {s1l s1c : Nat} (h : T_slices_Clone_api_Route s1a s1l s1c w R) : Calls Tryz.prog 55 #[.slice s1a s1l s1c] w R := cc mixed Tryz.func55 hz h

/-! slices.Clone[[]tollgate/api.Pool,tollgate/api.Pool] -/
def T_slices_Clone_api_Pool (s1a : Option Addr) (s1l s1c : Nat) (w : World) (R : ERP) : Prop :=
  if s1a.isNone = true then (R (.returned (.slice none 0 0)) w) else (let w2 := w.alloc (.cells #[] 107)
  runV Tryz.prog (Builtin.append_ #[54, 54] 54 #[.slice (some ⟨w.heap.size, 0, none⟩) 0 0, .slice s1a s1l s1c]) w2 (fun r3 w4 => ∃ (s5a : Option Addr) (s5l s5c : Nat), r3 = .slice s5a s5l s5c ∧ R (.returned (.slice s5a s5l s5c)) w4) (pan R))

theorem C_slices_Clone_api_Pool {s1a : Option Addr} {s1l s1c : Nat} (h : T_slices_Clone_api_Pool s1a s1l s1c w R) : Calls Tryz.prog 56 #[.slice s1a s1l s1c] w R := cc mixed Tryz.func56 hz h

/-! tollgate/admin.whole -/
def T_admin_whole_1_body (X : Int → WP) (x18 : Int) (c19 : Addr) (x20 : Int) (w : World) (Kn : WP) (Kp : KP) : Prop :=
  if (decide ((x18 : Int) < x20)) = true then (let w21 := w.drew
  ∃ (s22a : Option Addr) (s22l s22c : Nat), rd w21 (c19.add 2) (.slice s22a s22l s22c) ∧ ∃ (s23a : Option Addr) (s23l s23c : Nat), rd w21 (c19.add 2) (.slice s23a s23l s23c) ∧ 0 ≤ (x18 : Int) ∧ (x18 : Int) < (s23l : Int) ∧ ∃ b24, s23a = some b24 ∧ ∃ (s25a : Option Addr) (s25l s25c : Nat), rd w21 ((b24.add ((x18 : Int).toNat * 2)).add 1) (.slice s25a s25l s25c) ∧ Calls Tryz.prog 34 #[.slice s25a s25l s25c] w21 (ret (fun r26 w27 => ∃ (s28a : Option Addr) (s28l s28c : Nat), r26 = .slice s28a s28l s28c ∧ (rd w27 (c19.add 2) (.slice s23a s23l s23c) ∧ rd w27 (c19.add 2) (.slice s22a s22l s22c) ∧ True) ∧ 0 ≤ (x18 : Int) ∧ (x18 : Int) < (s22l : Int) ∧ ∃ b29, s22a = some b29 ∧ (.slice s28a s28l s28c : Value).cells.size = 1 ∧ wrOk w27 ((b29.add ((x18 : Int).toNat * 2)).add 1) (.slice s28a s28l s28c) ∧ let w30 := wr w27 ((b29.add ((x18 : Int).toNat * 2)).add 1) (.slice s28a s28l s28c)
  (True) ∧ X (IntKind.wrap .i64 ((x18 : Int) + 1)) w30) Kp)) else (Kn  w)

def T_admin_whole_1 (x18 : Int) (c19 : Addr) (x20 : Int) (w : World) (Kn : WP) (Kp : KP) : Prop :=
  ∀ X : Int → WP, (∀ (x18 : Int) (w : World), T_admin_whole_1_body X x18 c19 x20 w Kn Kp → X x18 w) → X x18 w

def H_admin_whole_1 : Env → World → QT → Prop := unitHook 32 (ksOf [3, 15, 16, 17, 18, 19, 20, 21, 22, 23, 24, 25, 26, 27, 28, 29, 30]) ([(15, .int .i64 0)] ++ [(1, .pointer (some ⟨0, 0, none⟩)), (14, .int .i64 0)]) (oF (some []) none []) fun l w C => T_admin_whole_1 (pInt (nv l 0)) (pAddr (nv l 1)) (pInt (nv l 2)) w (C .normal []) (fun ch => C (.panic ch) [])

theorem T_admin_whole_1_ok : UnitOk Tryz.prog H_admin_whole_1 (at_ (bodyOf Tryz.f25) [1, 1, 0, 1]) 29 := lk 0 (B := fun C X l u w => T_admin_whole_1_body (fun x18 => X [.int .i64 x18]) (pInt (nv l 0)) (pAddr (nv u 0)) (pInt (nv u 1)) w (C .normal []) (fun ch => C (.panic ch) [])) hz (fun l u w C => ⟨fun h X hX => h (fun x18 => X [.int .i64 x18]) fun x18 w hb => hX [.int .i64 x18] w hb, fun h X hX => h (fun l w => X (pInt (nv l 0)) w) fun l w hb => hX (pInt (nv l 0)) w hb⟩)

def T_admin_whole (x1 : Int) (s2a : Option Addr) (s2l s2c : Nat) (s3a : Option Addr) (s3l s3c : Nat) (w : World) (R : ERP) : Prop :=
  let w4 := w.alloc (.cells #[.int .i64 x1, .slice s2a s2l s2c, .slice s3a s3l s3c] 56)
  let w5 := w4.alloc (.cells #[.int .i64 0, .slice none 0 0, .slice none 0 0] 56)
  let w6 := w5.drew
  ∃ (s7a : Option Addr) (s7l s7c : Nat), rd w6 ((⟨w.heap.size, 0, none⟩ : Addr).add 1) (.slice s7a s7l s7c) ∧ ∃ (s8a : Option Addr) (s8l s8c : Nat), rd w6 ((⟨w.heap.size, 0, none⟩ : Addr).add 2) (.slice s8a s8l s8c) ∧ Calls Tryz.prog 55 #[.slice s7a s7l s7c] w6 (ret (fun r9 w10 => ∃ (s11a : Option Addr) (s11l s11c : Nat), r9 = .slice s11a s11l s11c ∧ (rd w10 ((⟨w.heap.size, 0, none⟩ : Addr).add 2) (.slice s8a s8l s8c) ∧ True) ∧ Calls Tryz.prog 56 #[.slice s8a s8l s8c] w10 (ret (fun r12 w13 => ∃ (s14a : Option Addr) (s14l s14c : Nat), r12 = .slice s14a s14l s14c ∧ (True) ∧ (.slice s11a s11l s11c : Value).cells.size = 1 ∧ wrOk w13 ((⟨w.heap.size, 0, none⟩ : Addr).add 1) (.slice s11a s11l s11c) ∧ let w15 := wr w13 ((⟨w.heap.size, 0, none⟩ : Addr).add 1) (.slice s11a s11l s11c)
  (True) ∧ (.slice s14a s14l s14c : Value).cells.size = 1 ∧ wrOk w15 ((⟨w.heap.size, 0, none⟩ : Addr).add 2) (.slice s14a s14l s14c) ∧ let w16 := wr w15 ((⟨w.heap.size, 0, none⟩ : Addr).add 2) (.slice s14a s14l s14c)
  (True) ∧ ∃ (s17a : Option Addr) (s17l s17c : Nat), rd w16 ((⟨w.heap.size, 0, none⟩ : Addr).add 2) (.slice s17a s17l s17c) ∧ T_admin_whole_1 0 (⟨w.heap.size, 0, none⟩ : Addr) (s17l : Int) w16 (fun w31 => ∃ (x32 : Int) (s33a : Option Addr) (s33l s33c : Nat) (s34a : Option Addr) (s34l s34c : Nat), rd w31 (⟨w.heap.size, 0, none⟩ : Addr) (.agg #[.int .i64 x32, .slice s33a s33l s33c, .slice s34a s34l s34c]) ∧ (.agg #[.int .i64 x32, .slice s33a s33l s33c, .slice s34a s34l s34c] : Value).cells.size = 3 ∧ wrOk w31 (⟨w4.heap.size, 0, none⟩ : Addr) (.agg #[.int .i64 x32, .slice s33a s33l s33c, .slice s34a s34l s34c]) ∧ let w35 := wr w31 (⟨w4.heap.size, 0, none⟩ : Addr) (.agg #[.int .i64 x32, .slice s33a s33l s33c, .slice s34a s34l s34c])
  ∃ (x36 : Int) (s37a : Option Addr) (s37l s37c : Nat) (s38a : Option Addr) (s38l s38c : Nat), rd w35 (⟨w4.heap.size, 0, none⟩ : Addr) (.agg #[.int .i64 x36, .slice s37a s37l s37c, .slice s38a s38l s38c]) ∧ R (.returned (.agg #[.int .i64 x36, .slice s37a s37l s37c, .slice s38a s38l s38c])) w35) (pan R)) (pan R))) (pan R))

theorem C_admin_whole {x1 : Int} {s2a : Option Addr} {s2l s2c : Nat} {s3a : Option Addr} {s3l s3c : Nat} (h : T_admin_whole x1 s2a s2l s2c s3a s3l s3c w R) : Calls Tryz.prog 25 #[.agg #[.int .i64 x1, .slice s2a s2l s2c, .slice s3a s3l s3c]] w R := cc mixed Tryz.func25 (hA (H := hookAt [(29, H_admin_whole_1)]) (hc T_admin_whole_1_ok hn)) h

/-! tollgate/tollgatelaw14.short -/
def T_law14_short (x1 : Array Value) (w : World) (R : ERP) : Prop :=
  let w2 := w.alloc (.cells x1 36)
  let w3 := w2.drew
  ∃ (x4 x5 x6 x7 : Int) (s8 s9 s10 : ByteArray) (s11a : Option Addr) (s11l s11c : Nat), rd w3 (((⟨w.heap.size, 0, none⟩ : Addr).add 4).add 1) (.agg #[.int .i64 x4, .int .i64 x5, .int .i64 x6, .int .i64 x7, .string s8, .string s9, .string s10, .slice s11a s11l s11c]) ∧ ∃ (x12 x13 x14 x15 : Int) (s16 s17 s18 : ByteArray) (s19a : Option Addr) (s19l s19c : Nat), rd w3 (((⟨w.heap.size, 0, none⟩ : Addr).add 13).add 7) (.agg #[.int .i64 x12, .int .i64 x13, .int .i64 x14, .int .i64 x15, .string s16, .string s17, .string s18, .slice s19a s19l s19c]) ∧ (let w20 := w3.alloc (.cells #[.int .i64 0, .int .i64 0, .int .i64 0, .int .i64 0, .string (ByteArray.mk #[]), .string (ByteArray.mk #[]), .string (ByteArray.mk #[]), .slice none 0 0] 25)
  (rd w20 (((⟨w.heap.size, 0, none⟩ : Addr).add 13).add 7) (.agg #[.int .i64 x12, .int .i64 x13, .int .i64 x14, .int .i64 x15, .string s16, .string s17, .string s18, .slice s19a s19l s19c]) ∧ rd w20 (((⟨w.heap.size, 0, none⟩ : Addr).add 4).add 1) (.agg #[.int .i64 x4, .int .i64 x5, .int .i64 x6, .int .i64 x7, .string s8, .string s9, .string s10, .slice s11a s11l s11c]) ∧ True) ∧ let w21 := w20.alloc (.cells #[.int .i64 0, .int .i64 0, .int .i64 0, .int .i64 0, .string (ByteArray.mk #[]), .string (ByteArray.mk #[]), .string (ByteArray.mk #[]), .slice none 0 0] 25)
  (rd w21 (((⟨w.heap.size, 0, none⟩ : Addr).add 13).add 7) (.agg #[.int .i64 x12, .int .i64 x13, .int .i64 x14, .int .i64 x15, .string s16, .string s17, .string s18, .slice s19a s19l s19c]) ∧ rd w21 (((⟨w.heap.size, 0, none⟩ : Addr).add 4).add 1) (.agg #[.int .i64 x4, .int .i64 x5, .int .i64 x6, .int .i64 x7, .string s8, .string s9, .string s10, .slice s11a s11l s11c]) ∧ True) ∧ (.agg #[.int .i64 x4, .int .i64 x5, .int .i64 x6, .int .i64 x7, .string s8, .string s9, .string s10, .slice s11a s11l s11c] : Value).cells.size = 8 ∧ wrOk w21 (⟨w3.heap.size, 0, none⟩ : Addr) (.agg #[.int .i64 x4, .int .i64 x5, .int .i64 x6, .int .i64 x7, .string s8, .string s9, .string s10, .slice s11a s11l s11c]) ∧ let w22 := wr w21 (⟨w3.heap.size, 0, none⟩ : Addr) (.agg #[.int .i64 x4, .int .i64 x5, .int .i64 x6, .int .i64 x7, .string s8, .string s9, .string s10, .slice s11a s11l s11c])
  (rd w22 (((⟨w.heap.size, 0, none⟩ : Addr).add 13).add 7) (.agg #[.int .i64 x12, .int .i64 x13, .int .i64 x14, .int .i64 x15, .string s16, .string s17, .string s18, .slice s19a s19l s19c]) ∧ True) ∧ (.agg #[.int .i64 x12, .int .i64 x13, .int .i64 x14, .int .i64 x15, .string s16, .string s17, .string s18, .slice s19a s19l s19c] : Value).cells.size = 8 ∧ wrOk w22 (⟨w20.heap.size, 0, none⟩ : Addr) (.agg #[.int .i64 x12, .int .i64 x13, .int .i64 x14, .int .i64 x15, .string s16, .string s17, .string s18, .slice s19a s19l s19c]) ∧ let w23 := wr w22 (⟨w20.heap.size, 0, none⟩ : Addr) (.agg #[.int .i64 x12, .int .i64 x13, .int .i64 x14, .int .i64 x15, .string s16, .string s17, .string s18, .slice s19a s19l s19c])
  (True) ∧ ∃ (s24a : Option Addr) (s24l s24c : Nat), rd w23 (((⟨w.heap.size, 0, none⟩ : Addr).add 13).add 6) (.slice s24a s24l s24c) ∧ if (decide ((s24l : Int) ≤ 50)) = true then (∃ (s25a : Option Addr) (s25l s25c : Nat), rd w23 ((⟨w3.heap.size, 0, none⟩ : Addr).add 7) (.slice s25a s25l s25c) ∧ ∃ (s26a : Option Addr) (s26l s26c : Nat), rd w23 ((⟨w20.heap.size, 0, none⟩ : Addr).add 7) (.slice s26a s26l s26c) ∧ if (decide ((IntKind.wrap .i64 ((s25l : Int) + (s26l : Int)) : Int) ≤ 100)) = true then (∃ s27 : ByteArray, rd w23 ((⟨w3.heap.size, 0, none⟩ : Addr).add 4) (.string s27) ∧ ∃ s28 : ByteArray, rd w23 ((⟨w3.heap.size, 0, none⟩ : Addr).add 5) (.string s28) ∧ ∃ s29 : ByteArray, rd w23 ((⟨w3.heap.size, 0, none⟩ : Addr).add 6) (.string s29) ∧ ∃ s30 : ByteArray, rd w23 ((⟨w20.heap.size, 0, none⟩ : Addr).add 4) (.string s30) ∧ ∃ s31 : ByteArray, rd w23 ((⟨w20.heap.size, 0, none⟩ : Addr).add 5) (.string s31) ∧ ∃ s32 : ByteArray, rd w23 ((⟨w20.heap.size, 0, none⟩ : Addr).add 6) (.string s32) ∧ R (.returned (.bool (decide ((IntKind.wrap .i64 ((IntKind.wrap .i64 ((IntKind.wrap .i64 ((IntKind.wrap .i64 ((IntKind.wrap .i64 ((s27.size : Int) + (s28.size : Int)) : Int) + (s29.size : Int)) : Int) + (s30.size : Int)) : Int) + (s31.size : Int)) : Int) + (s32.size : Int)) : Int) ≤ 2000)))) w23) else (R (.returned (.bool false)) w23)) else (R (.returned (.bool false)) w23)) ∧ (let w33 := w3.alloc (.cells #[.int .i64 0, .int .i64 0, .int .i64 0, .int .i64 0, .string (ByteArray.mk #[]), .string (ByteArray.mk #[]), .string (ByteArray.mk #[]), .slice none 0 0] 25)
  (rd w33 (((⟨w.heap.size, 0, none⟩ : Addr).add 13).add 7) (.agg #[.int .i64 x12, .int .i64 x13, .int .i64 x14, .int .i64 x15, .string s16, .string s17, .string s18, .slice s19a s19l s19c]) ∧ rd w33 (((⟨w.heap.size, 0, none⟩ : Addr).add 4).add 1) (.agg #[.int .i64 x4, .int .i64 x5, .int .i64 x6, .int .i64 x7, .string s8, .string s9, .string s10, .slice s11a s11l s11c]) ∧ True) ∧ let w34 := w33.alloc (.cells #[.int .i64 0, .int .i64 0, .int .i64 0, .int .i64 0, .string (ByteArray.mk #[]), .string (ByteArray.mk #[]), .string (ByteArray.mk #[]), .slice none 0 0] 25)
  (rd w34 (((⟨w.heap.size, 0, none⟩ : Addr).add 13).add 7) (.agg #[.int .i64 x12, .int .i64 x13, .int .i64 x14, .int .i64 x15, .string s16, .string s17, .string s18, .slice s19a s19l s19c]) ∧ rd w34 (((⟨w.heap.size, 0, none⟩ : Addr).add 4).add 1) (.agg #[.int .i64 x4, .int .i64 x5, .int .i64 x6, .int .i64 x7, .string s8, .string s9, .string s10, .slice s11a s11l s11c]) ∧ True) ∧ (.agg #[.int .i64 x4, .int .i64 x5, .int .i64 x6, .int .i64 x7, .string s8, .string s9, .string s10, .slice s11a s11l s11c] : Value).cells.size = 8 ∧ wrOk w34 (⟨w33.heap.size, 0, none⟩ : Addr) (.agg #[.int .i64 x4, .int .i64 x5, .int .i64 x6, .int .i64 x7, .string s8, .string s9, .string s10, .slice s11a s11l s11c]) ∧ let w35 := wr w34 (⟨w33.heap.size, 0, none⟩ : Addr) (.agg #[.int .i64 x4, .int .i64 x5, .int .i64 x6, .int .i64 x7, .string s8, .string s9, .string s10, .slice s11a s11l s11c])
  (rd w35 (((⟨w.heap.size, 0, none⟩ : Addr).add 13).add 7) (.agg #[.int .i64 x12, .int .i64 x13, .int .i64 x14, .int .i64 x15, .string s16, .string s17, .string s18, .slice s19a s19l s19c]) ∧ True) ∧ (.agg #[.int .i64 x12, .int .i64 x13, .int .i64 x14, .int .i64 x15, .string s16, .string s17, .string s18, .slice s19a s19l s19c] : Value).cells.size = 8 ∧ wrOk w35 (⟨w3.heap.size, 0, none⟩ : Addr) (.agg #[.int .i64 x12, .int .i64 x13, .int .i64 x14, .int .i64 x15, .string s16, .string s17, .string s18, .slice s19a s19l s19c]) ∧ let w36 := wr w35 (⟨w3.heap.size, 0, none⟩ : Addr) (.agg #[.int .i64 x12, .int .i64 x13, .int .i64 x14, .int .i64 x15, .string s16, .string s17, .string s18, .slice s19a s19l s19c])
  (True) ∧ ∃ (s37a : Option Addr) (s37l s37c : Nat), rd w36 (((⟨w.heap.size, 0, none⟩ : Addr).add 13).add 6) (.slice s37a s37l s37c) ∧ if (decide ((s37l : Int) ≤ 50)) = true then (∃ (s38a : Option Addr) (s38l s38c : Nat), rd w36 ((⟨w33.heap.size, 0, none⟩ : Addr).add 7) (.slice s38a s38l s38c) ∧ ∃ (s39a : Option Addr) (s39l s39c : Nat), rd w36 ((⟨w3.heap.size, 0, none⟩ : Addr).add 7) (.slice s39a s39l s39c) ∧ if (decide ((IntKind.wrap .i64 ((s38l : Int) + (s39l : Int)) : Int) ≤ 100)) = true then (∃ s40 : ByteArray, rd w36 ((⟨w33.heap.size, 0, none⟩ : Addr).add 4) (.string s40) ∧ ∃ s41 : ByteArray, rd w36 ((⟨w33.heap.size, 0, none⟩ : Addr).add 5) (.string s41) ∧ ∃ s42 : ByteArray, rd w36 ((⟨w33.heap.size, 0, none⟩ : Addr).add 6) (.string s42) ∧ ∃ s43 : ByteArray, rd w36 ((⟨w3.heap.size, 0, none⟩ : Addr).add 4) (.string s43) ∧ ∃ s44 : ByteArray, rd w36 ((⟨w3.heap.size, 0, none⟩ : Addr).add 5) (.string s44) ∧ ∃ s45 : ByteArray, rd w36 ((⟨w3.heap.size, 0, none⟩ : Addr).add 6) (.string s45) ∧ R (.returned (.bool (decide ((IntKind.wrap .i64 ((IntKind.wrap .i64 ((IntKind.wrap .i64 ((IntKind.wrap .i64 ((IntKind.wrap .i64 ((s40.size : Int) + (s41.size : Int)) : Int) + (s42.size : Int)) : Int) + (s43.size : Int)) : Int) + (s44.size : Int)) : Int) + (s45.size : Int)) : Int) ≤ 2000)))) w36) else (R (.returned (.bool false)) w36)) else (R (.returned (.bool false)) w36))

theorem C_law14_short {x1 : Array Value} (h : T_law14_short x1 w R) : Calls Tryz.prog 13 #[.agg x1] w R := cc mixed Tryz.func13 hz h

end Go.Proofs.YtfkiolliegiocaaGreat

/-
  Numbers, texts, weights, targets as bytes: appended and taken; the program's functions and the document's.
-/
namespace Go.Vc
open Go Go.Proofs Go.Proofs.YtfkiolliegiocaaGreat
set_option maxRecDepth 100000

/-! ### arithmetic -/
theorem ofInt_nat (n : Nat) (h : n < 18446744073709551616) : (BitVec.ofInt 64 (n : Int)).toNat = n := by
  rw [BitVec.toNat_ofInt]; omega
theorem and127 (n : Nat) (h : n < 18446744073709551616) : ((BitVec.ofInt (IntKind.bits .i64) (n : Int)) &&& (BitVec.ofInt (IntKind.bits .i64) 127)).toNat = n % 128 := by
  show ((BitVec.ofInt 64 (n : Int)) &&& (BitVec.ofInt 64 127)).toNat = _
  rw [BitVec.toNat_and, ofInt_nat n h, show (BitVec.ofInt 64 127).toNat = 2 ^ 7 - 1 from by decide, Nat.and_two_pow_sub_one_eq_mod]
theorem or128 : ∀ x : Fin 128, x.val ||| 128 = x.val + 128 := by decide
theorem wrap_nat {n : Nat} (h : n < 9223372036854775808) : IntKind.wrap .i64 (n : Int) = n := wrap_id (by omega) (by omega)
theorem wrap_u8 {n : Nat} (h : n < 256) : IntKind.wrap .u8 (n : Int) = n := by
  unfold IntKind.wrap
  simp [IntKind.signed, IntKind.bits]
  omega
theorem wrap_u8_mod (n : Nat) : IntKind.wrap .u8 (n : Int) = ((UInt8.ofNat n).toNat : Int) := by
  unfold IntKind.wrap
  simp [IntKind.signed, IntKind.bits]
theorem low7 (n : Nat) (h : n < 9223372036854775808) : IntKind.wrap .u8 (IntKind.wrap .i64 ((BitVec.ofInt (IntKind.bits .i64) (IntKind.wrap .i64 ((BitVec.ofInt (IntKind.bits .i64) (n : Int)) &&& (BitVec.ofInt (IntKind.bits .i64) 127)).toNat)) ||| (BitVec.ofInt (IntKind.bits .i64) 128)).toNat) = ((UInt8.ofNat (n % 128 + 128)).toNat : Int) := by
  rw [and127 n (by omega), wrap_nat (n := n % 128) (by omega)]
  have e : ((BitVec.ofInt (IntKind.bits .i64) ((n % 128 : Nat) : Int)) ||| (BitVec.ofInt (IntKind.bits .i64) 128)).toNat = n % 128 + 128 := by
    show ((BitVec.ofInt 64 ((n % 128 : Nat) : Int)) ||| (BitVec.ofInt 64 128)).toNat = _
    rw [BitVec.toNat_or, ofInt_nat _ (by omega), show (BitVec.ofInt 64 128).toNat = 128 from by decide]
    exact or128 ⟨n % 128, by omega⟩
  rw [e, wrap_nat (n := n % 128 + 128) (by omega), wrap_u8_mod]
theorem or_add {acc x k : Nat} (h : acc < 2 ^ k) (hb : x * 2 ^ k + acc < 9223372036854775808) : IntKind.wrap .i64 ((BitVec.ofInt (IntKind.bits .i64) (acc : Int)) ||| (BitVec.ofInt (IntKind.bits .i64) ((x * 2 ^ k : Nat) : Int))).toNat = ((acc + x * 2 ^ k : Nat) : Int) := by
  have e : ((BitVec.ofInt (IntKind.bits .i64) (acc : Int)) ||| (BitVec.ofInt (IntKind.bits .i64) ((x * 2 ^ k : Nat) : Int))).toNat = acc + x * 2 ^ k := by
    show ((BitVec.ofInt 64 (acc : Int)) ||| (BitVec.ofInt 64 ((x * 2 ^ k : Nat) : Int))).toNat = _
    rw [BitVec.toNat_or, ofInt_nat _ (by omega), ofInt_nat _ (by omega), Nat.or_comm, Nat.mul_comm x, ← Nat.two_pow_add_eq_or_of_lt h, Nat.add_comm]
  rw [e, wrap_nat (by omega)]

section
variable {E w : World} {L : List Asrt} {R : Ending → World → Prop} {F : Fz}

/-! ### bytes of ours -/
def byA (s : Sl) (xs : Cm.Bs) : Asrt := ownS s.1 s.2.1 s.2.2 5 1 (bytesV xs)
theorem St.by_len {s : Sl} {xs : Cm.Bs} (h : St E (byA s xs :: L) w) : xs.length = s.2.1 := by have := h.ownS_facts.1; rw [bytesV_len] at this; omega
theorem St.by_nil (h : St E L w) : St E (byA (none, 0, 0) [] :: L) w := h.ownS_nil
theorem St.by_new (h : St E L w) (xs : Cm.Bs) (hl : xs.length ≤ big) : St E (byA (some ⟨w.heap.size, 0, none⟩, xs.length, xs.length) xs :: L) (w.alloc (.cells ⟨bytesV xs⟩ 5)) :=
  (St.ownS_mk (xs := bytesV xs) (rest := []) (l := xs.length) (c := xs.length) (sz := 1) (by rw [List.append_nil]; exact h.alloc _) (by rw [bytesV_len]; omega) (Nat.le_refl _) (by unfold big at hl; unfold maxLen; omega) (by simp) :)
theorem app_b {s : Sl} {a2 : Option Addr} {l2 c2 : Nat} {xs ys : Cm.Bs} (h : St E (byA s xs :: L) w) (hro : RdS w a2 l2 1 (bytesV ys)) (hb : xs.length + ys.length ≤ big) :
    ∃ (s' : Sl) (w' : World), (Builtin.append_ #[102, 102] 102 #[.slice s.1 s.2.1 s.2.2, .slice a2 l2 c2]).run Tryz.prog w = .ok (.slice s'.1 s'.2.1 s'.2.2) w' ∧ St E (byA s' (xs ++ ys) :: L) w' := by
  have hl := h.by_len
  have hl2 : ys.length = l2 := by have := hro.1; rw [bytesV_len] at this; omega
  obtain ⟨a', c', w', hr, hs⟩ := append_own (P := Tryz.prog) (t := 102) (ty := 102) (e := 5) (i := Tryz.t5) (z := .int .u8 0) (by kernel_rfl) (by kernel_rfl) (by kernel_rfl) (by kernel_rfl) (by decide) (c2 := c2) h hro (bytesV_one ys)
    (by have : Tryz.t5.bytes = 1 := by kernel_rfl
        rw [this]; unfold big at hb; omega) (by unfold big at hb; unfold maxLen; omega)
  exact ⟨(a', s.2.1 + l2, c'), w', hr, by rw [byA, bytesV_app]; exact hs⟩
theorem app_1 {s : Sl} {xs : Cm.Bs} {x : UInt8} (h : St E (byA s xs :: L) w) (hb : xs.length + 1 ≤ big) :
    ∃ (s' : Sl) (w' : World), (Builtin.append_ #[102, 102] 102 #[.slice s.1 s.2.1 s.2.2, .slice (some ⟨w.heap.size, 0, none⟩) 1 1]).run Tryz.prog (w.alloc (.cells #[.int .u8 (x.toNat : Int)] 5)) = .ok (.slice s'.1 s'.2.1 s'.2.2) w' ∧ St E (byA s' (xs ++ [x]) :: L) w' := by
  have h2 : St E (byA (some ⟨w.heap.size, 0, none⟩, 1, 1) [x] :: byA s xs :: L) (w.alloc (.cells #[.int .u8 (x.toNat : Int)] 5)) := h.by_new [x] (show 1 ≤ big by decide)
  obtain ⟨s', w', hr, hs⟩ := app_b (c2 := 1) h2.f1 (St.rdS_own h2) (by simpa using hb)
  exact ⟨s', w', hr, hs.f1.drop⟩
theorem app_s {s : Sl} {xs ys : Cm.Bs} (h : St E (byA s xs :: L) w) (hb : xs.length + ys.length ≤ big) :
    ∃ (s' : Sl) (w' : World), (Builtin.append_ #[102, 9] 102 #[.slice s.1 s.2.1 s.2.2, .string (bs ys)]).run Tryz.prog w = .ok (.slice s'.1 s'.2.1 s'.2.2) w' ∧ St E (byA s' (xs ++ ys) :: L) w' := by
  have hl := h.by_len
  obtain ⟨a', c', w', hr, hs⟩ := append_str (P := Tryz.prog) (t := 102) (u := 9) (ty := 102) (e := 5) (i := Tryz.t5) (z := .int .u8 0) (by kernel_rfl) (by kernel_rfl) (by kernel_rfl) (by kernel_rfl) (by kernel_rfl) (by kernel_rfl) (by kernel_rfl) (s := bs ys) h
    (by rw [bs_size]; unfold big at hb; omega)
  exact ⟨(a', s.2.1 + (bs ys).size, c'), w', hr, by rw [byA, bytesV_app]; exact hs⟩

/-! ### numbers -/
theorem number_spec {s : Sl} {xs : Cm.Bs} (j : Nat) {n : Nat} (hn : n < 128 ^ (j + 1)) (hj : j ≤ 5) (h : St E (byA s xs :: L) w) (hb : xs.length + 6 ≤ big)
    (k : ∀ (w' : World) (s' : Sl), St E (byA s' (xs ++ Cm.encNF j n) :: L) w' → R (.returned (.slice s'.1 s'.2.1 s'.2.2)) w') : Calls Tryz.prog 219 #[.slice s.1 s.2.1 s.2.2, .int .i64 (n : Int)] w R := by
  refine C_wire_number ?_
  unfold T_wire_number T_wire_number_1
  intro X hX
  have go : ∀ (j : Nat) (n : Nat) (s : Sl) (ys : Cm.Bs) (w : World), n < 128 ^ (j + 1) → j ≤ 5 → ys.length + j + 1 ≤ big → St E (byA s ys :: L) w → (∀ (w' : World) (s' : Sl), St E (byA s' (ys ++ Cm.encNF j n) :: L) w' → R (.returned (.slice s'.1 s'.2.1 s'.2.2)) w') → X s.1 s.2.1 s.2.2 (n : Int) w := by
    intro j
    induction j with
    | zero =>
      intro n s ys w hn hj hb h k
      refine hX _ _ _ _ _ ?_
      unfold T_wire_number_1_body
      refine ite_d (fun hc => absurd hc (by have : n < 128 := by simpa using hn
                                            omega)) (fun hc => ?_)
      dsimp -zeta only
      intro w20
      obtain ⟨s', w', hr, hs⟩ := app_1 (x := UInt8.ofNat n) h (by omega)
      rw [← wrap_u8_mod] at hr
      exact runV_ok hr ⟨_, _, _, rfl, k _ _ hs⟩
    | succ j ih =>
      intro n s ys w hn hj hb h k
      refine hX _ _ _ _ _ ?_
      unfold T_wire_number_1_body
      have hn2 : n < 9223372036854775808 := Nat.lt_of_lt_of_le hn (Nat.le_trans (Nat.pow_le_pow_right (by decide) (by omega : j + 1 + 1 ≤ 6)) (by decide))
      refine ite_d (fun hc => ?_) (fun hc => ?_)
      · intro w5
        obtain ⟨s', w', hr, hs⟩ := app_1 (x := UInt8.ofNat (n % 128 + 128)) h (by omega)
        rw [← low7 n hn2] at hr
        refine runV_ok hr ⟨_, _, _, rfl, ?_⟩
        rw [show Int.fdiv (n : Int) (2 ^ 7) = ((n / 128 : Nat) : Int) from by
          rw [Int.fdiv_eq_ediv_of_nonneg _ (by decide)]; norm_cast]
        refine ih (n / 128) s' _ _ (by rw [Nat.div_lt_iff_lt_mul (by decide)]; rwa [Nat.pow_succ] at hn) (by omega) (by simp; omega) hs fun w2 s2 h2 => k w2 s2 ?_
        rw [Cm.encNF, if_neg (by omega)]
        simpa using h2
      · dsimp -zeta only
        intro w20
        obtain ⟨s', w', hr, hs⟩ := app_1 (x := UInt8.ofNat n) h (by omega)
        rw [← wrap_u8_mod] at hr
        refine runV_ok hr ⟨_, _, _, rfl, k _ _ ?_⟩
        rw [Cm.encNF, if_pos (by omega)]
        exact hs
  exact go j n s xs w hn hj (by omega) h k
theorem num_len (n : Int) : (Cm.num n).length ≤ 6 := by
  unfold Cm.num
  split
  · simp
  · have : ∀ j n, (Cm.encNF j n).length ≤ j + 1 := by
      intro j
      induction j with
      | zero => intro n; simp [Cm.encNF]
      | succ j ih => intro n; rw [Cm.encNF]; split <;> simp [ih]
    exact this 5 _
def numE (n : Int) : Int := if n < 0 ∨ 1099511627776 < n then 2 else 0
theorem Number_spec {n : Int} (h : St E L w) (k : ∀ (w' : World) (s' : Sl), St E (byA s' (Cm.num n) :: L) w' → R (.returned (.tuple #[.slice s'.1 s'.2.1 s'.2.2, .int .i64 (numE n)])) w') : Calls Tryz.prog 212 #[.int .i64 n] w R := by
  refine C_wire_Number ?_
  unfold T_wire_Number
  unfold numE Cm.num at k
  refine ite_d (fun h1 => ?_) fun h1 => ite_d (fun h2 => ?_) fun h2 => ?_
  · rw [if_pos (.inl h1), if_pos (.inl h1)] at k
    exact k w (none, 0, 0) h.by_nil
  · rw [if_pos (.inr (by omega)), if_pos (.inr (by omega))] at k
    exact k w (none, 0, 0) h.by_nil
  · rw [if_neg (by omega), if_neg (by omega)] at k
    obtain ⟨m, rfl⟩ := Int.eq_ofNat_of_zero_le (by omega : 0 ≤ n)
    exact number_spec (s := (none, 0, 0)) (xs := []) 5 (n := m) (by omega) (by omega) h.by_nil (by decide) fun w' s' h' => ⟨_, _, _, rfl, k w' s' (by simpa using h')⟩
section
variable {s : Sl} {xs : Cm.Bs}
theorem num_spec {n : Int} (h : St E (byA s xs :: L) w) (hb : xs.length + 6 ≤ big) (k : ∀ (w' : World) (s' : Sl), St E (byA s' (xs ++ Cm.num n) :: L) w' → R (.returned (.slice s'.1 s'.2.1 s'.2.2)) w') : Calls Tryz.prog 177 #[.slice s.1 s.2.1 s.2.2, .int .i64 n] w R := by
  refine C_conf_num ?_
  unfold T_conf_num
  refine Number_spec h fun w' s' h' => ⟨_, _, _, _, rfl, ?_⟩
  obtain ⟨s2, w2, hr, hs⟩ := app_b (c2 := s'.2.2) h'.f1 (St.rdS_own h') (by have := num_len n; omega)
  exact runV_ok hr ⟨_, _, _, rfl, k w2 s2 hs.f1.drop⟩
theorem text_len (x : Cm.Bs) : (Cm.text x).length ≤ 6 + x.length := by have := num_len x.length; simp [Cm.text]; omega
theorem text_spec {x : Cm.Bs} (h : St E (byA s xs :: L) w) (hb : xs.length + 6 + x.length ≤ big) (k : ∀ (w' : World) (s' : Sl), St E (byA s' (xs ++ Cm.text x) :: L) w' → R (.returned (.slice s'.1 s'.2.1 s'.2.2)) w') : Calls Tryz.prog 179 #[.slice s.1 s.2.1 s.2.2, .string (bs x)] w R := by
  refine C_conf_text ?_
  unfold T_conf_text
  rw [bs_size]
  refine num_spec h (by omega) fun w' s' h' => ⟨_, _, _, rfl, ?_⟩
  obtain ⟨s2, w2, hr, hs⟩ := app_s (ys := x) h' (by have := num_len x.length; simp; omega)
  exact runV_ok hr ⟨_, _, _, rfl, k w2 s2 (by simpa [Cm.text] using hs)⟩
/-! ### weights, targets -/
theorem run_shr (t : TypeId) (x y : Operand) {v n : Nat} {q : IntKind} (hn : n < 64) : (do eqGuard .shr t x y (.int .u64 (v : Int)) (.int q (n : Int)); binOp .shr t (.int .u64 (v : Int)) (.int q (n : Int)) : Sem Value).run Tryz.prog w = .ok (.int .u64 ((v / 2 ^ n : Nat) : Int)) w := by
  have e : min (n : Int).toNat (IntKind.bits .u64) = n := by rw [Int.toNat_natCast]; exact Nat.min_eq_left (by show n ≤ 64; omega)
  have h0 : ¬ ((n : Int) < 0) := by omega
  simp only [eqGuard, binOp, Op.shift]
  rw [if_neg h0, e, Int.fdiv_eq_ediv_of_nonneg _ (by exact_mod_cast Nat.zero_le _)]
  simp
def f64n (v : Nat) (i : Nat) : UInt8 := UInt8.ofNat (v / 2 ^ (56 - 8 * i))
theorem f64_take (v : Nat) : ∀ i, i ≤ 8 → (Cm.f64 v).take i = (List.range i).map (f64n v) := by
  intro i hi
  match i, hi with
  | 0, _ => rfl
  | 1, _ => rfl
  | 2, _ => rfl
  | 3, _ => rfl
  | 4, _ => rfl
  | 5, _ => rfl
  | 6, _ => rfl
  | 7, _ => rfl
  | 8, _ => simp [Cm.f64, List.range_succ, f64n]
theorem float_spec {v : Nat} (h : St E (byA s xs :: L) w) (hb : xs.length + 8 ≤ big) (k : ∀ (w' : World) (s' : Sl), St E (byA s' (xs ++ Cm.f64 v) :: L) w' → R (.returned (.slice s'.1 s'.2.1 s'.2.2)) w') : Calls Tryz.prog 249 #[.slice s.1 s.2.1 s.2.2, .float .f64 v] w R := by
  refine C_conf_float ?_
  unfold T_conf_float T_conf_float_1
  intro X hX
  refine up_to 8 (Q := fun j => ∀ (w : World) (s : Sl), St E (byA s (xs ++ (Cm.f64 v).take j) :: L) w → X s.1 s.2.1 s.2.2 (56 - 8 * (j : Int)) w) ?_ w s (by simpa using h)
  intro j hj ih w s h
  refine hX _ _ _ _ _ ?_
  unfold T_conf_float_1_body
  refine ite_d (fun hc => ?_) (fun hc => ?_)
  · have hj8 : j < 8 := by omega
    refine runV_ok run_fbits ⟨_, rfl, ?_⟩
    rw [show (56 - 8 * (j : Int)) = ((56 - 8 * j : Nat) : Int) from by omega]
    refine runV_ok (run_shr _ _ _ (by omega)) ⟨_, rfl, ?_⟩
    intro w12
    obtain ⟨s', w', hr, hs⟩ := app_1 (x := f64n v j) h (by simp [f64_take v j (by omega)]; omega)
    unfold f64n at hr
    rw [← wrap_u8_mod] at hr
    refine runV_ok hr ⟨_, _, _, rfl, ?_⟩
    rw [wrap_id (by omega) (by omega), show ((56 - 8 * j : Nat) : Int) - 8 = 56 - 8 * ((j + 1 : Nat) : Int) from by omega]
    refine ih hj8 _ _ ?_
    rw [f64_take v (j + 1) (by omega), List.range_succ, List.map_append, ← f64_take v j (by omega)]
    simpa using hs
  · have : j = 8 := by omega
    subst this
    exact k _ _ h
theorem tgt_len (t : Cm.Tgt) : (Cm.tgt t).length ≤ 14 + t.addr.length := by have := text_len t.addr; simp [Cm.tgt, Cm.f64_len]; omega
def tgsMax (l : List Cm.Tgt) : Nat := 6 + (l.map fun t => 14 + t.addr.length).sum
theorem flat_tgt_len (l : List Cm.Tgt) : (l.flatMap Cm.tgt).length ≤ (l.map fun t => 14 + t.addr.length).sum := by
  induction l with
  | nil => simp
  | cons t r ih => have := tgt_len t; simp only [List.flatMap_cons, List.length_append, List.map_cons, List.sum_cons]; omega
theorem sum_take_le (f : Cm.Tgt → Nat) : ∀ (l : List Cm.Tgt) (j : Nat) (h : j < l.length), ((l.take j).map f).sum + f l[j] ≤ (l.map f).sum
  | [], _, h => by simp at h
  | t :: r, 0, _ => by simp
  | t :: r, j + 1, h => by
    have := sum_take_le f r j (by simpa using h)
    simp only [List.take_succ_cons, List.map_cons, List.sum_cons, List.getElem_cons_succ]; omega
theorem row_spec {q : Sl} {l : List Cm.Tgt} (hm : kn F ∈ L) (hr : RdF F q.1 q.2.1 2 (l.flatMap tV)) (hl : okTs l) (h : St E (byA s xs :: L) w) (hb : xs.length + tgsMax l ≤ big)
    (k : ∀ (w' : World) (s' : Sl), St E (byA s' (xs ++ Cm.tgs l) :: L) w' → R (.returned (.slice s'.1 s'.2.1 s'.2.2)) w') : Calls Tryz.prog 178 #[.slice s.1 s.2.1 s.2.2, .slice q.1 q.2.1 q.2.2] w R := by
  have hn := tgs_len hm h.drop hr
  unfold tgsMax at hb
  refine C_conf_row ?_
  unfold T_conf_row
  refine num_spec h (by omega) fun w1 s1 h1 => ⟨_, _, _, rfl, ?_⟩
  unfold T_conf_row_1
  intro X hX
  refine up_to l.length (Q := fun j => ∀ (w : World) (s : Sl), St E (byA s (xs ++ Cm.num l.length ++ (l.take j).flatMap Cm.tgt) :: L) w → X s.1 s.2.1 s.2.2 (j : Int) w) ?_ w1 s1 (by rw [← hn] at h1; simpa using h1)
  intro j hj ih w s h
  refine hX _ _ _ _ _ ?_
  unfold T_conf_row_1_body
  rw [← hn]
  refine ite_d (fun hc => ?_) (fun hc => ?_)
  · have hjl : j < l.length := by omega
    obtain ⟨ad, ha, hrd, _⟩ := (hr.at h (List.mem_cons_of_mem _ hm)).elem tV_len (List.getElem?_eq_getElem hjl) (by decide)
    have hs1 := sum_take_le (fun t => 14 + t.addr.length) l j hjl
    have hs2 := flat_tgt_len (l.take j)
    have hs3 := num_len l.length
    have hs4 := text_len l[j].addr
    refine ⟨by omega, by omega, ad, ha, _, _, by rw [Int.toNat_natCast]; exact hrd, ?_⟩
    intro w8
    have h8 := h.alloc (.cells #[.string (ByteArray.mk #[]), .float .f64 0] 64)
    refine ⟨rfl, wrOk_agg h8.at_blk (xs := tV l[j]) (by simp [tV]) (by intro u hu; simp [tV] at hu; rcases hu with rfl | rfl <;> rfl), ?_⟩
    intro w9 w10
    have h9 : St E (blkL w.heap.size 64 (tV l[j]) :: byA s (xs ++ Cm.num l.length ++ (l.take j).flatMap Cm.tgt) :: L) w10 := (h8.wr_agg0 (xs := tV l[j]) rfl).drew
    refine ⟨_, rd_cell h9.at_blk (l := tV l[j]) rfl rfl, _, rd_fld h9.at_blk (l := tV l[j]) rfl rfl, ?_⟩
    refine text_spec (x := l[j].addr) h9.f1 (by simp only [List.length_append]; omega) fun w2 s2 h2 => ⟨_, _, _, rfl, ⟨rd_fld h2.f1.at_blk (l := tV l[j]) rfl rfl, trivial⟩, ?_⟩
    refine float_spec h2 (by simp only [List.length_append]; omega) fun w3 s3 h3 => ⟨_, _, _, rfl, trivial, ?_⟩
    rw [succ_huge (by have := hl.1; omega)]
    refine ih hjl _ _ ?_
    rw [List.take_succ_eq_append_getElem hjl, List.flatMap_append]
    have := h3.f1.drop
    simpa [Cm.tgt] using this
  · refine k _ _ ?_
    rw [List.take_of_length_le (by omega)] at h
    simpa [Cm.tgs] using h
end
end
end Go.Vc

/-
  Structs held against each other.
-/
namespace Go.Vc
open Go
section
variable {P : Program} {t : TypeId} {w : World} {x y : Operand}
theorem run_ne_agg {a b : Array Value} {r : Bool} (hg : P.eqGuardType P.depth t = false) (he : (Op.equal t (.agg a) (.agg b)).run P w = .ok r w) :
    (do eqGuard .neq t x y (.agg a) (.agg b); binOp .neq t (.agg a) (.agg b) : Sem Value).run P w = .ok (.bool !r) w := by
  simp [eqGuard, program, Sem.run, hg, binOp, he]
theorem run_eq_agg {a b : Array Value} {r : Bool} (hg : P.eqGuardType P.depth t = false) (he : (Op.equal t (.agg a) (.agg b)).run P w = .ok r w) :
    (do eqGuard .eql t x y (.agg a) (.agg b); binOp .eql t (.agg a) (.agg b) : Sem Value).run P w = .ok (.bool r) w := by
  simp [eqGuard, program, Sem.run, hg, binOp, he]
theorem equal_str3 {f0 f1 f2 : Field} (hu : P.underlying t = some (.struct #[f0, f1, f2])) (h0 : P.underlying f0.type = some .string) (h1 : P.underlying f1.type = some .string) (h2 : P.underlying f2.type = some .string)
    (hn0 : f0.name ≠ "_") (hn1 : f1.name ≠ "_") (hn2 : f2.name ≠ "_") (ho0 : f0.offset = 0) (ho1 : f1.offset = 1) (ho2 : f2.offset = 2) (hst : P.stoodInHeld t = false) (a1 a2 a3 b1 b2 b3 : ByteArray) :
    (Op.equal t (.agg #[.string a1, .string a2, .string a3]) (.agg #[.string b1, .string b2, .string b3])).run P w = .ok (decide (a1 = b1) && (decide (a2 = b2) && decide (a3 = b3))) w := by
  have e0 : ∀ x y : ByteArray, (Op.equalIn 9999 f0.type (.string x) (.string y)).run P w = .ok (x == y) w := fun x y => equalIn_string (P := P) h0 x y 9998 w
  have e1 : ∀ x y : ByteArray, (Op.equalIn 9999 f1.type (.string x) (.string y)).run P w = .ok (x == y) w := fun x y => equalIn_string (P := P) h1 x y 9998 w
  have e2 : ∀ x y : ByteArray, (Op.equalIn 9999 f2.type (.string x) (.string y)).run P w = .ok (x == y) w := fun x y => equalIn_string (P := P) h2 x y 9998 w
  have hag : ∀ f : Field, P.underlying f.type = some .string → aggT P f.type = false := fun f hf => by simp [aggT, hf]
  have hp0 : ∀ x y z : Value, (part f0.type #[x, y, z] f0.offset).run P w = .ok x w := fun x y z => by simp [part, run_isAgg h0, hag f0 h0, ho0]
  have hp1 : ∀ x y z : Value, (part f1.type #[x, y, z] f1.offset).run P w = .ok y w := fun x y z => by simp [part, run_isAgg h1, hag f1 h1, ho1]
  have hp2 : ∀ x y z : Value, (part f2.type #[x, y, z] f2.offset).run P w = .ok z w := fun x y z => by simp [part, run_isAgg h2, hag f2 h2, ho2]
  show (Op.equalIn (9999 + 1) t _ _).run P w = _
  unfold Op.equalIn
  simp only [Sem.run_bind, run_underlying_ hu, Result.andThen_ok, program, Sem.run, hst]
  by_cases ha : a1 = b1
  · by_cases hb : a2 = b2
    · by_cases hc : a3 = b3
      · simp [hn0, hn1, hn2, hp0, hp1, hp2, e0, e1, e2, ha, hb, hc, bytes_beq]
      · simp [hn0, hn1, hn2, hp0, hp1, hp2, e0, e1, e2, ha, hb, hc, bytes_beq]
    · simp [hn0, hn1, hp0, hp1, e0, e1, ha, hb, bytes_beq]
  · simp [hn0, hp0, e0, ha, bytes_beq]
end
end Go.Vc

/-
  Rows of targets; targets and commands held against each other.
-/
namespace Go.Vc
open Go Go.Proofs Go.Proofs.YtfkiolliegiocaaGreat
set_option maxRecDepth 100000
section
variable {E w : World} {L : List Asrt} {R : Ending → World → Prop} {F : Fz}
def tgA (s : Sl) (l : List Cm.Tgt) : Asrt := ownS s.1 s.2.1 s.2.2 64 2 (l.flatMap tV)
theorem app_t {s : Sl} {a2 : Option Addr} {l2 c2 : Nat} {xs ys : List Cm.Tgt} (h : St E (tgA s xs :: L) w) (hro : RdS w a2 l2 2 (ys.flatMap tV)) (hb : xs.length + ys.length ≤ 1000000) :
    ∃ (s' : Sl) (w' : World), (Builtin.append_ #[23, 23] 23 #[.slice s.1 s.2.1 s.2.2, .slice a2 l2 c2]).run Tryz.prog w = .ok (.slice s'.1 s'.2.1 s'.2.2) w' ∧ St E (tgA s' (xs ++ ys) :: L) w' := by
  have hl : xs.length = s.2.1 := h.rdS_own.count tV_len (by decide)
  have hl2 : ys.length = l2 := hro.count tV_len (by decide)
  obtain ⟨a', c', w', hr, hs⟩ := append_own (P := Tryz.prog) (t := 23) (ty := 23) (e := 64) (i := Tryz.t64) (z := .agg #[.string (ByteArray.mk #[]), .float .f64 0]) (by kernel_rfl) (by kernel_rfl) (by kernel_rfl) (by kernel_rfl) (by decide) (c2 := c2) h hro (tV_one ys)
    (by have : Tryz.t64.bytes = 24 := by kernel_rfl
        rw [this]; omega) (by unfold maxLen; omega)
  rw [show Tryz.t64.size = 2 from by kernel_rfl, ← List.flatMap_append] at hs
  exact ⟨(a', s.2.1 + l2, c'), w', hr, hs⟩
theorem app_t1 {s : Sl} {xs : List Cm.Tgt} {t : Cm.Tgt} (h : St E (tgA s xs :: L) w) (hb : xs.length + 1 ≤ 1000000) :
    ∃ (s' : Sl) (w' : World), (Builtin.append_ #[23, 23] 23 #[.slice s.1 s.2.1 s.2.2, .slice (some ⟨w.heap.size, 0, none⟩) 1 1]).run Tryz.prog (w.alloc (.cells #[.string (bs t.addr), .float .f64 t.w] 64)) = .ok (.slice s'.1 s'.2.1 s'.2.2) w' ∧ St E (tgA s' (xs ++ [t]) :: L) w' := by
  have h2 : St E (tgA (some ⟨w.heap.size, 0, none⟩, 1, 1) [t] :: tgA s xs :: L) (w.alloc (.cells #[.string (bs t.addr), .float .f64 t.w] 64)) :=
    (St.ownS_mk (xs := [t].flatMap tV) (rest := []) (l := 1) (c := 1) (sz := 2) (h.alloc _) rfl (Nat.le_refl _) (by decide) rfl :)
  obtain ⟨s', w', hr, hs⟩ := app_t (c2 := 1) h2.f1 (St.rdS_own h2) (by simpa using hb)
  exact ⟨s', w', hr, hs.f1.drop⟩
def zeroC : Cm.Cmd := ⟨0, 0, 0, 0, [], [], [], []⟩
def shortTs (l : List Cm.Tgt) : Prop := l.length ≤ 16 ∧ ∀ t ∈ l, t.addr.length ≤ 128 ∧ t.w < two64
theorem shortTs.ok {l : List Cm.Tgt} (h : shortTs l) : okTs l := ⟨by have := h.1; unfold huge; omega, fun t ht => ⟨by have := (h.2 t ht).1; unfold huge; omega, (h.2 t ht).2⟩⟩
theorem one_cmdL (c : Cm.Cmd) (s : Sl) : ∀ u ∈ cmdL c s, one u = true := by
  intro u hu
  simp only [cmdL, List.mem_cons, List.not_mem_nil, or_false] at hu
  rcases hu with rfl | rfl | rfl | rfl | rfl | rfl | rfl | rfl <;> rfl
theorem St.freezeT {s : Sl} {l : List Cm.Tgt} (h : St E (tgA s l :: kn F :: L) w) : ∃ G, Fz.le F G ∧ St E (kn G :: L) w ∧ RdF G s.1 s.2.1 2 (l.flatMap tV) := h.freezeS
theorem cell8 (c : Cm.Cmd) (s : Sl) : (cmdL c s).length = 8 := rfl
/-! ### the same -/
theorem str_beq (a b : Cm.Bs) : ((bs a).toList == (bs b).toList) = decide (a = b) := by
  rw [bs_toList, bs_toList, Bool.eq_iff_iff]; simp
theorem drop_step {α : Type} [DecidableEq α] {l1 l2 : List α} {j : Nat} (h1 : j < l1.length) (h2 : j < l2.length) : decide (l1.drop j = l2.drop j) = (decide (l1[j] = l2[j]) && decide (l1.drop (j + 1) = l2.drop (j + 1))) := by
  rw [List.drop_eq_getElem_cons h1, List.drop_eq_getElem_cons h2, Bool.eq_iff_iff, Bool.and_eq_true, decide_eq_true_eq, decide_eq_true_eq, decide_eq_true_eq, List.cons.injEq]
theorem SameTargets_spec {s1 s2 : Sl} {l1 l2 : List Cm.Tgt} (hm : kn F ∈ L) (h : St E L w) (r1 : RdF F s1.1 s1.2.1 2 (l1.flatMap tV)) (r2 : RdF F s2.1 s2.2.1 2 (l2.flatMap tV)) (hl : l1.length ≤ huge)
    (k : ∀ w', St E L w' → R (.returned (.bool (decide (l1 = l2)))) w') : Calls Tryz.prog 29 #[.slice s1.1 s1.2.1 s1.2.2, .slice s2.1 s2.2.1 s2.2.2] w R := by
  have n1 := tgs_len hm h r1
  have n2 := tgs_len hm h r2
  refine C_ref08_SameTargets ?_
  unfold T_ref08_SameTargets
  rw [← n1, ← n2, ne_dec]
  refine ite_d (fun hh => congB (k w h) ?_) fun hh => ?_
  · rw [decide_eq_false_iff_not]; rintro rfl; exact hh rfl
  have hll : l1.length = l2.length := by simp at hh; omega
  unfold T_ref08_SameTargets_1
  intro X hX
  refine up_to l1.length (Q := fun j => ∀ w, St E L w → decide (l1 = l2) = decide (l1.drop j = l2.drop j) → X (j : Int) w) ?_ w h rfl
  intro j hj ih w h he
  refine hX _ _ ?_
  unfold T_ref08_SameTargets_1_body
  refine ite_d (fun hc => ?_) fun hc => ?_
  · have hj1 : j < l1.length := by omega
    have hj2 : j < l2.length := by omega
    rw [drop_step hj1 hj2] at he
    intro w6
    have h6 := h.drew
    obtain ⟨a1, e1, _, d1⟩ := (r1.at h6 hm).elem tV_len (List.getElem?_eq_getElem hj1) (by decide)
    obtain ⟨a2, e2, _, d2⟩ := (r2.at h6 hm).elem tV_len (List.getElem?_eq_getElem hj2) (by decide)
    refine ⟨by omega, by omega, a1, e1, _, by rw [Int.toNat_natCast]; exact d1 0 _ rfl rfl, by omega, by omega, a2, e2, _, by rw [Int.toNat_natCast]; exact d2 0 _ rfl rfl, ?_⟩
    rw [str_beq]
    refine ite_n (fun h1 => ⟨trivial, trivial, congB (k _ h6) ?_⟩) fun h1 => ⟨by omega, by omega, a1, e1, _, by rw [Int.toNat_natCast]; exact d1 1 _ rfl rfl, by omega, by omega, a2, e2, _, by rw [Int.toNat_natCast]; exact d2 1 _ rfl rfl, runV_ok run_fbits ⟨_, rfl, ⟨by rw [Int.toNat_natCast]; exact d2 1 _ rfl rfl, trivial⟩, runV_ok run_fbits ⟨_, rfl, trivial, ?_⟩⟩⟩
    · rw [he, Bool.and_eq_false_iff]; refine .inl (decide_eq_false fun e => ?_)
      rw [e] at h1; simp at h1
    · rw [ne_dec]
      refine ite_d (fun h2 => congB (k _ h6) ?_) fun h2 => ?_
      · rw [he, Bool.and_eq_false_iff]; refine .inl (decide_eq_false fun e => ?_)
        rw [e] at h2; exact h2 rfl
      · rw [succ_huge (by omega)]
        refine ih hj1 _ h6 ?_
        rw [he]
        have e : l1[j] = l2[j] := by
          have h1' : l1[j].addr = l2[j].addr := by simpa using h1
          have h2' : l1[j].w = l2[j].w := by simp at h2; omega
          cases hh1 : l1[j]; cases hh2 : l2[j]; simp_all
        rw [decide_eq_true e, Bool.true_and]
  · have : j = l1.length := by omega
    subst this
    rw [List.drop_length, List.drop_of_length_le (by omega)] at he
    exact congB (k w h) (by rw [he]; rfl)
theorem SameCommand_spec {c1 c2 : Cm.Cmd} {s1 s2 : Sl} (hm : kn F ∈ L) (h : St E L w) (r1 : RdF F s1.1 s1.2.1 2 (c1.tg.flatMap tV)) (r2 : RdF F s2.1 s2.2.1 2 (c2.tg.flatMap tV)) (hl : c1.tg.length ≤ huge)
    (k : ∀ w', St E L w' → R (.returned (.bool (decide (c1 = c2)))) w') : Calls Tryz.prog 15 #[cmdV c1 s1, cmdV c2 s2] w R := by
  refine C_ref08_SameCommand ?_
  unfold T_ref08_SameCommand
  intro w17 w18
  have h17 : St E (blkL w.heap.size 25 (cmdL c1 s1) :: L) w17 := h.alloc (.cells ⟨cmdL c1 s1⟩ 25)
  have h18 : St E (blkL w17.heap.size 25 (cmdL c2 s2) :: blkL w.heap.size 25 (cmdL c1 s1) :: L) w18 := h17.alloc (.cells ⟨cmdL c2 s2⟩ 25)
  have fin : ∀ w' (v : Bool), St E L w' → decide (c1 = c2) = v → R (.returned (.bool v)) w' := fun w' v h' e => e ▸ k w' h'
  have no : ∀ w', St E L w' → ¬ c1 = c2 → R (.returned (.bool false)) w' := fun w' h' e => fin w' _ h' (decide_eq_false e)
  have a1 := h18.f1.at_blk
  have a2 := h18.at_blk
  simp -zeta only [eq_dec]
  refine ⟨_, rd_cell a1 rfl rfl, _, rd_cell a2 rfl rfl, ite_d (fun e1 => ⟨_, rd_fld a1 rfl rfl, _, rd_fld a2 rfl rfl, ite_d (fun e2 => ⟨_, rd_fld a1 rfl rfl, _, rd_fld a2 rfl rfl, ite_d (fun e3 => ⟨_, rd_fld a1 rfl rfl, _, rd_fld a2 rfl rfl, ite_d (fun e4 => ⟨_, rd_fld a1 rfl rfl, _, rd_fld a2 rfl rfl, ?_⟩) fun hh => no _ h18.drop.drop fun e => hh (by rw [e])⟩) fun hh => no _ h18.drop.drop fun e => hh (by rw [e])⟩) fun hh => no _ h18.drop.drop fun e => hh (by rw [e])⟩) fun hh => no _ h18.drop.drop fun e => hh (by rw [e])⟩
  rw [str_beq]
  refine ite_d (fun e5 => ⟨_, rd_fld a1 rfl rfl, _, rd_fld a2 rfl rfl, ?_⟩) fun hh => no _ h18.drop.drop fun e => hh (by rw [e])
  rw [str_beq]
  refine ite_d (fun e6 => ⟨_, rd_fld a1 rfl rfl, _, rd_fld a2 rfl rfl, ?_⟩) fun hh => no _ h18.drop.drop fun e => hh (by rw [e])
  rw [str_beq]
  refine ite_d (fun e7 => ⟨_, _, _, rd_fld a1 rfl rfl, _, _, _, rd_fld a2 rfl rfl, SameTargets_spec (F := F) (List.mem_cons_of_mem _ (List.mem_cons_of_mem _ hm)) h18 r1 r2 hl fun w' h' => ⟨_, rfl, fin _ _ h'.drop.drop ?_⟩⟩) fun hh => no _ h18.drop.drop fun e => hh (by rw [e])
  cases c1; cases c2
  simp only at e1 e2 e3 e4 e5 e6 e7
  subst e1; subst e2; subst e3; subst e4; subst e5; subst e6; subst e7
  simp
end
end Go.Vc

/-
  What the functions' code comes to; printed by a program of this claim's own.
-/
namespace Go.Proofs.YtfkiolliegiocaaGreat
open Go Go.Vc
set_option maxRecDepth 100000
set_option linter.unusedVariables false
variable {w : World} {R : ERP}

/-! (*tollgate/admin.Desk).Ask -/
def T_admin_Desk_Ask_1 (client18 : Addr) (w : World) (Kn : Bool → WP) (Kp : KP) : Prop :=
  ∃ x19 : Int, rd w client18 (.int .i64 x19) ∧ if (decide ((x19 : Int) < 1)) = true then (Kn true w) else (∃ x20 : Int, rd w client18 (.int .i64 x20) ∧ Kn (decide ((x20 : Int) > 32)) w)

def H_admin_Desk_Ask_1 : Env → World → QT → Prop := unitHook 86 (ksOf [18, 19, 20, 21, 22, 23]) [(4, .pointer (some ⟨0, 0, none⟩))] (oF (some [(23, .bool false)]) none []) fun l w C => T_admin_Desk_Ask_1 (pAddr (nv l 0)) w (fun b22 => C .normal [.bool b22]) (fun ch => C (.panic ch) [])

theorem T_admin_Desk_Ask_1_ok : UnitOk Tryz.prog H_admin_Desk_Ask_1 (at_ (bodyOf Tryz.f4) [1, 1, 1, 0, 0]) 60 := uk hz

def T_admin_Desk_Ask_2 (d31 : Option Addr) (client32 op33 : Addr) (b34 : Bool) (w : World) (Kn : WP) (Kr : Int → Int → WP) (Kp : KP) : Prop :=
  if b34 = true then ((.agg #[.int .i64 0, .int .i64 0, .int .i64 0, .int .i64 0, .string (ByteArray.mk #[]), .string (ByteArray.mk #[]), .string (ByteArray.mk #[]), .slice none 0 0] : Value).cells.size = 8 ∧ wrOk w (op33.add 1) (.agg #[.int .i64 0, .int .i64 0, .int .i64 0, .int .i64 0, .string (ByteArray.mk #[]), .string (ByteArray.mk #[]), .string (ByteArray.mk #[]), .slice none 0 0]) ∧ let w35 := wr w (op33.add 1) (.agg #[.int .i64 0, .int .i64 0, .int .i64 0, .int .i64 0, .string (ByteArray.mk #[]), .string (ByteArray.mk #[]), .string (ByteArray.mk #[]), .slice none 0 0])
  Kn  w35) else (∃ (x36 x37 x38 x39 : Int) (s40 s41 s42 : ByteArray) (s43a : Option Addr) (s43l s43c : Nat), rd w (op33.add 1) (.agg #[.int .i64 x36, .int .i64 x37, .int .i64 x38, .int .i64 x39, .string s40, .string s41, .string s42, .slice s43a s43l s43c]) ∧ Calls Tryz.prog 18 #[.agg #[.int .i64 x36, .int .i64 x37, .int .i64 x38, .int .i64 x39, .string s40, .string s41, .string s42, .slice s43a s43l s43c]] w (ret (fun r44 w45 => ∃ (x46 x47 x48 x49 : Int) (s50 s51 s52 : ByteArray) (s53a : Option Addr) (s53l s53c : Nat), r44 = .agg #[.int .i64 x46, .int .i64 x47, .int .i64 x48, .int .i64 x49, .string s50, .string s51, .string s52, .slice s53a s53l s53c] ∧ (.agg #[.int .i64 x46, .int .i64 x47, .int .i64 x48, .int .i64 x49, .string s50, .string s51, .string s52, .slice s53a s53l s53c] : Value).cells.size = 8 ∧ wrOk w45 (op33.add 1) (.agg #[.int .i64 x46, .int .i64 x47, .int .i64 x48, .int .i64 x49, .string s50, .string s51, .string s52, .slice s53a s53l s53c]) ∧ let w54 := wr w45 (op33.add 1) (.agg #[.int .i64 x46, .int .i64 x47, .int .i64 x48, .int .i64 x49, .string s50, .string s51, .string s52, .slice s53a s53l s53c])
  let w55 := w54.drew
  ∃ x56 : Int, rd w55 client32 (.int .i64 x56) ∧ ∃ a57, d31 = some a57 ∧ ∃ m58 : Option Nat, rd w55 (a57.add 5) (.map m58) ∧ ∃ x59 : Int, rd w55 client32 (.int .i64 x59) ∧ (runV Tryz.prog (Instr.lookup 73 (.map m58) (.int .i64 x59) false) w55 (fun r60 w61 => ∃ x62 : Int, r60 = .int .i64 x62 ∧ (rd w61 client32 (.int .i64 x56) ∧ True) ∧ (.int .i64 x56 : Value).cells.size = 1 ∧ wrOk w61 ((op33.add 1).add 1) (.int .i64 x56) ∧ let w63 := wr w61 ((op33.add 1).add 1) (.int .i64 x56)
  (True) ∧ (.int .i64 (IntKind.wrap .i64 ((x62 : Int) + 1)) : Value).cells.size = 1 ∧ wrOk w63 ((op33.add 1).add 2) (.int .i64 (IntKind.wrap .i64 ((x62 : Int) + 1))) ∧ let w64 := wr w63 ((op33.add 1).add 2) (.int .i64 (IntKind.wrap .i64 ((x62 : Int) + 1)))
  (True) ∧ ∃ (x65 x66 x67 x68 : Int) (s69 s70 s71 : ByteArray) (s72a : Option Addr) (s72l s72c : Nat), rd w64 (op33.add 1) (.agg #[.int .i64 x65, .int .i64 x66, .int .i64 x67, .int .i64 x68, .string s69, .string s70, .string s71, .slice s72a s72l s72c]) ∧ Calls Tryz.prog 19 #[.agg #[.int .i64 x65, .int .i64 x66, .int .i64 x67, .int .i64 x68, .string s69, .string s70, .string s71, .slice s72a s72l s72c]] w64 (ret (fun r73 w74 => ∃ x75 : Int, r73 = .int .i64 x75 ∧ if ((x75 : Int) != 0) = true then (Kr 0 x75 w74) else (let w76 := w74.drew
  ∃ a77, d31 = some a77 ∧ ∃ m78 : Option Nat, rd w76 (a77.add 5) (.map m78) ∧ ∃ x79 : Int, rd w76 client32 (.int .i64 x79) ∧ runV Tryz.prog (Instr.lookup 73 (.map m78) (.int .i64 x79) false) w76 (fun r80 w81 => ∃ x82 : Int, r80 = .int .i64 x82 ∧ (True) ∧ runV Tryz.prog (Instr.mapUpdate 73 (.map m78) (.int .i64 x79) (.int .i64 (IntKind.wrap .i64 ((x82 : Int) + 1)))) w81 (fun _ w83 => (True) ∧ Kn  w83) Kp) Kp)) Kp)) Kp) ∧ ((.int .i64 x56 : Value).cells.size = 1 ∧ wrOk w55 ((op33.add 1).add 1) (.int .i64 x56) ∧ let w84 := wr w55 ((op33.add 1).add 1) (.int .i64 x56)
  (rd w84 client32 (.int .i64 x59) ∧ rd w84 (a57.add 5) (.map m58) ∧ True) ∧ runV Tryz.prog (Instr.lookup 73 (.map m58) (.int .i64 x59) false) w84 (fun r85 w86 => ∃ x87 : Int, r85 = .int .i64 x87 ∧ (True) ∧ (.int .i64 (IntKind.wrap .i64 ((x87 : Int) + 1)) : Value).cells.size = 1 ∧ wrOk w86 ((op33.add 1).add 2) (.int .i64 (IntKind.wrap .i64 ((x87 : Int) + 1))) ∧ let w88 := wr w86 ((op33.add 1).add 2) (.int .i64 (IntKind.wrap .i64 ((x87 : Int) + 1)))
  (True) ∧ ∃ (x89 x90 x91 x92 : Int) (s93 s94 s95 : ByteArray) (s96a : Option Addr) (s96l s96c : Nat), rd w88 (op33.add 1) (.agg #[.int .i64 x89, .int .i64 x90, .int .i64 x91, .int .i64 x92, .string s93, .string s94, .string s95, .slice s96a s96l s96c]) ∧ Calls Tryz.prog 19 #[.agg #[.int .i64 x89, .int .i64 x90, .int .i64 x91, .int .i64 x92, .string s93, .string s94, .string s95, .slice s96a s96l s96c]] w88 (ret (fun r97 w98 => ∃ x99 : Int, r97 = .int .i64 x99 ∧ if ((x99 : Int) != 0) = true then (Kr 0 x99 w98) else (let w100 := w98.drew
  ∃ a101, d31 = some a101 ∧ ∃ m102 : Option Nat, rd w100 (a101.add 5) (.map m102) ∧ ∃ x103 : Int, rd w100 client32 (.int .i64 x103) ∧ runV Tryz.prog (Instr.lookup 73 (.map m102) (.int .i64 x103) false) w100 (fun r104 w105 => ∃ x106 : Int, r104 = .int .i64 x106 ∧ (True) ∧ runV Tryz.prog (Instr.mapUpdate 73 (.map m102) (.int .i64 x103) (.int .i64 (IntKind.wrap .i64 ((x106 : Int) + 1)))) w105 (fun _ w107 => (True) ∧ Kn  w107) Kp) Kp)) Kp)) Kp)) Kp))

def H_admin_Desk_Ask_2 : Env → World → QT → Prop := unitHook 86 (ksOf [6, 7, 8, 32, 33, 34, 35, 36, 37, 38, 39, 40, 41, 42, 43, 44, 45, 46, 47, 48, 49, 50, 51, 52, 53, 54, 55, 56, 57, 58, 59, 60, 61, 62]) [(0, .pointer none), (4, .pointer (some ⟨0, 0, none⟩)), (5, .pointer (some ⟨0, 0, none⟩)), (31, .bool false)] (oF (some []) (some [(6, .int .i64 0), (7, .int .i64 0)]) []) fun l w C => T_admin_Desk_Ask_2 (pPtr (nv l 0)) (pAddr (nv l 1)) (pAddr (nv l 2)) (pBool (nv l 3)) w (C .normal []) (fun x110 x111 => C .ret [.int .i64 x110, .int .i64 x111]) (fun ch => C (.panic ch) [])

theorem T_admin_Desk_Ask_2_ok : UnitOk Tryz.prog H_admin_Desk_Ask_2 (at_ (bodyOf Tryz.f4) [1, 1, 1, 1, 1, 0, 1]) 253 := uk hz

def T_admin_Desk_Ask (d1 : Option Addr) (client2 : Int) (b3 : Bool) (x4 x5 x6 x7 : Int) (s8 s9 s10 : ByteArray) (s11a : Option Addr) (s11l s11c : Nat) (w : World) (R : ERP) : Prop :=
  let w12 := w.alloc (.cells #[.int .i64 client2] 3)
  let w13 := w12.alloc (.cells #[.bool b3, .int .i64 x4, .int .i64 x5, .int .i64 x6, .int .i64 x7, .string s8, .string s9, .string s10, .slice s11a s11l s11c] 27)
  if d1.isNone = true then (R (.returned (.tuple #[.int .i64 0, .int .i64 1])) w13) else (∃ a14, d1 = some a14 ∧ ∃ x15 : Int, rd w13 (a14.add 1) (.int .i64 x15) ∧ ∃ a16, d1 = some a16 ∧ (.int .i64 (IntKind.wrap .i64 ((x15 : Int) + 1)) : Value).cells.size = 1 ∧ wrOk w13 (a16.add 1) (.int .i64 (IntKind.wrap .i64 ((x15 : Int) + 1))) ∧ let w17 := wr w13 (a16.add 1) (.int .i64 (IntKind.wrap .i64 ((x15 : Int) + 1)))
  T_admin_Desk_Ask_1 (⟨w.heap.size, 0, none⟩ : Addr) w17 (fun b23 w24 => if b23 = true then (R (.returned (.tuple #[.int .i64 0, .int .i64 2])) w24) else (∃ a25, d1 = some a25 ∧ ∃ (s26a : Option Addr) (s26l s26c : Nat), rd w24 (a25.add 3) (.slice s26a s26l s26c) ∧ Calls Tryz.prog 16 #[.slice s26a s26l s26c, .func (.func 17) #[] #[.pointer (some ⟨w.heap.size, 0, none⟩)]] w24 (ret (fun r27 w28 => ∃ b29 : Bool, r27 = .bool b29 ∧ if b29 = true then (R (.returned (.tuple #[.int .i64 0, .int .i64 13])) w28) else (∃ b30 : Bool, rd w28 (⟨w12.heap.size, 0, none⟩ : Addr) (.bool b30) ∧ T_admin_Desk_Ask_2 d1 (⟨w.heap.size, 0, none⟩ : Addr) (⟨w12.heap.size, 0, none⟩ : Addr) b30 w28 (fun w112 => let w113 := w112.drew
  ∃ a114, d1 = some a114 ∧ ∃ (s115a : Option Addr) (s115l s115c : Nat), rd w113 (a114.add 3) (.slice s115a s115l s115c) ∧ ∃ (b116 : Bool) (x117 x118 x119 x120 : Int) (s121 s122 s123 : ByteArray) (s124a : Option Addr) (s124l s124c : Nat), rd w113 (⟨w12.heap.size, 0, none⟩ : Addr) (.agg #[.bool b116, .int .i64 x117, .int .i64 x118, .int .i64 x119, .int .i64 x120, .string s121, .string s122, .string s123, .slice s124a s124l s124c]) ∧ ∃ a125, d1 = some a125 ∧ ∃ x126 : Int, rd w113 (a125.add 1) (.int .i64 x126) ∧ ∃ x127 : Int, rd w113 (⟨w.heap.size, 0, none⟩ : Addr) (.int .i64 x127) ∧ let w128 := w113.alloc (.cells #[.bool b116, .int .i64 x117, .int .i64 x118, .int .i64 x119, .int .i64 x120, .string s121, .string s122, .string s123, .slice s124a s124l s124c, .int .i64 x126, .int .i64 0, .int .i64 0, .int .i64 0, .int .i64 0, .int .i64 0, .slice none 0 0, .slice none 0 0, .int .i64 x127, .slice none 0 0] 80)
  (rd w128 (a114.add 3) (.slice s115a s115l s115c) ∧ True) ∧ let w129 := w128.alloc (.cells #[.pointer (some ⟨w113.heap.size, 0, none⟩)] 77)
  (rd w129 (a114.add 3) (.slice s115a s115l s115c) ∧ True) ∧ runV Tryz.prog (Builtin.append_ #[72, 72] 72 #[.slice s115a s115l s115c, .slice (some ⟨w128.heap.size, 0, none⟩) 1 1]) w129 (fun r130 w131 => ∃ (s132a : Option Addr) (s132l s132c : Nat), r130 = .slice s132a s132l s132c ∧ (True) ∧ ∃ a133, d1 = some a133 ∧ (.slice s132a s132l s132c : Value).cells.size = 1 ∧ wrOk w131 (a133.add 3) (.slice s132a s132l s132c) ∧ let w134 := wr w131 (a133.add 3) (.slice s132a s132l s132c)
  (True) ∧ ∃ a135, d1 = some a135 ∧ ∃ (s136a : Option Addr) (s136l s136c : Nat), rd w134 (a135.add 3) (.slice s136a s136l s136c) ∧ R (.returned (.tuple #[.int .i64 (s136l : Int), .int .i64 0])) w134) (pan R)) (fun x137 x138 w139 => R (.returned (.tuple #[.int .i64 x137, .int .i64 x138])) w139) (pan R))) (pan R)))) (pan R))

theorem C_admin_Desk_Ask {d1 : Option Addr} {client2 : Int} {b3 : Bool} {x4 x5 x6 x7 : Int} {s8 s9 s10 : ByteArray} {s11a : Option Addr} {s11l s11c : Nat} (h : T_admin_Desk_Ask d1 client2 b3 x4 x5 x6 x7 s8 s9 s10 s11a s11l s11c w R) : Calls Tryz.prog 4 #[.pointer d1, .int .i64 client2, .agg #[.bool b3, .int .i64 x4, .int .i64 x5, .int .i64 x6, .int .i64 x7, .string s8, .string s9, .string s10, .slice s11a s11l s11c]] w R := cc mixed Tryz.func4 (hA (H := hookAt [(60, H_admin_Desk_Ask_1), (253, H_admin_Desk_Ask_2)]) (hc T_admin_Desk_Ask_1_ok (hc T_admin_Desk_Ask_2_ok hn))) h

/-! (*tollgate/admin.Desk).History -/
def T_admin_Desk_History_1_body (X : Option Addr → Nat → Nat → Int → WP) (out4a : Option Addr) (out4l out4c : Nat) (x5 : Int) (s6a : Option Addr) (s6l s6c : Nat) (x7 : Int) (w : World) (Kn : Option Addr → Nat → Nat → WP) (Kp : KP) : Prop :=
  if (decide ((x5 : Int) < x7)) = true then (0 ≤ (x5 : Int) ∧ (x5 : Int) < (s6l : Int) ∧ ∃ b8, s6a = some b8 ∧ ∃ p9 : Option Addr, rd w (b8.add ((x5 : Int).toNat * 1)) (.pointer p9) ∧ ∃ a10, p9 = some a10 ∧ ∃ xs11 : Array Value, xs11.size = 17 ∧ rd w a10 (.agg xs11) ∧ let w12 := w.alloc (.cells (zc Tryz.prog 68) 68)
  (.agg xs11 : Value).cells.size = 17 ∧ wrOk w12 (⟨w.heap.size, 0, none⟩ : Addr) (.agg xs11) ∧ let w13 := wr w12 (⟨w.heap.size, 0, none⟩ : Addr) (.agg xs11)
  ∃ (x14 x15 x16 x17 : Int) (s18 s19 s20 : ByteArray) (s21a : Option Addr) (s21l s21c : Nat), rd w13 ((⟨w.heap.size, 0, none⟩ : Addr).add 1) (.agg #[.int .i64 x14, .int .i64 x15, .int .i64 x16, .int .i64 x17, .string s18, .string s19, .string s20, .slice s21a s21l s21c]) ∧ Calls Tryz.prog 18 #[.agg #[.int .i64 x14, .int .i64 x15, .int .i64 x16, .int .i64 x17, .string s18, .string s19, .string s20, .slice s21a s21l s21c]] w13 (ret (fun r22 w23 => ∃ (x24 x25 x26 x27 : Int) (s28 s29 s30 : ByteArray) (s31a : Option Addr) (s31l s31c : Nat), r22 = .agg #[.int .i64 x24, .int .i64 x25, .int .i64 x26, .int .i64 x27, .string s28, .string s29, .string s30, .slice s31a s31l s31c] ∧ (.agg #[.int .i64 x24, .int .i64 x25, .int .i64 x26, .int .i64 x27, .string s28, .string s29, .string s30, .slice s31a s31l s31c] : Value).cells.size = 8 ∧ wrOk w23 ((⟨w.heap.size, 0, none⟩ : Addr).add 1) (.agg #[.int .i64 x24, .int .i64 x25, .int .i64 x26, .int .i64 x27, .string s28, .string s29, .string s30, .slice s31a s31l s31c]) ∧ let w32 := wr w23 ((⟨w.heap.size, 0, none⟩ : Addr).add 1) (.agg #[.int .i64 x24, .int .i64 x25, .int .i64 x26, .int .i64 x27, .string s28, .string s29, .string s30, .slice s31a s31l s31c])
  ∃ (x33 : Int) (s34a : Option Addr) (s34l s34c : Nat) (s35a : Option Addr) (s35l s35c : Nat), rd w32 ((⟨w.heap.size, 0, none⟩ : Addr).add 14) (.agg #[.int .i64 x33, .slice s34a s34l s34c, .slice s35a s35l s35c]) ∧ Calls Tryz.prog 25 #[.agg #[.int .i64 x33, .slice s34a s34l s34c, .slice s35a s35l s35c]] w32 (ret (fun r36 w37 => ∃ (x38 : Int) (s39a : Option Addr) (s39l s39c : Nat) (s40a : Option Addr) (s40l s40c : Nat), r36 = .agg #[.int .i64 x38, .slice s39a s39l s39c, .slice s40a s40l s40c] ∧ (.agg #[.int .i64 x38, .slice s39a s39l s39c, .slice s40a s40l s40c] : Value).cells.size = 3 ∧ wrOk w37 ((⟨w.heap.size, 0, none⟩ : Addr).add 14) (.agg #[.int .i64 x38, .slice s39a s39l s39c, .slice s40a s40l s40c]) ∧ let w41 := wr w37 ((⟨w.heap.size, 0, none⟩ : Addr).add 14) (.agg #[.int .i64 x38, .slice s39a s39l s39c, .slice s40a s40l s40c])
  ∃ xs42 : Array Value, xs42.size = 17 ∧ rd w41 (⟨w.heap.size, 0, none⟩ : Addr) (.agg xs42) ∧ (match bsCells Tryz.prog 68 1 #[(0, .agg xs42)] with | some cs43 => (let w44 := w41.alloc (.cells cs43 68)
  runV Tryz.prog (Builtin.append_ #[48, 48] 48 #[.slice out4a out4l out4c, .slice (some ⟨w41.heap.size, 0, none⟩) 1 1]) w44 (fun r45 w46 => ∃ (s47a : Option Addr) (s47l s47c : Nat), r45 = .slice s47a s47l s47c ∧ X s47a s47l s47c (IntKind.wrap .i64 ((x5 : Int) + 1)) w46) Kp) | none => False)) Kp)) Kp)) else (Kn out4a out4l out4c w)

def T_admin_Desk_History_1 (out4a : Option Addr) (out4l out4c : Nat) (x5 : Int) (s6a : Option Addr) (s6l s6c : Nat) (x7 : Int) (w : World) (Kn : Option Addr → Nat → Nat → WP) (Kp : KP) : Prop :=
  ∀ X : Option Addr → Nat → Nat → Int → WP, (∀ (out4a : Option Addr) (out4l out4c : Nat) (x5 : Int) (w : World), T_admin_Desk_History_1_body X out4a out4l out4c x5 s6a s6l s6c x7 w Kn Kp → X out4a out4l out4c x5 w) → X out4a out4l out4c x5 w

def H_admin_Desk_History_1 : Env → World → QT → Prop := unitHook 38 (ksOf [3, 5, 6, 14, 15, 16, 17, 18, 19, 20, 21, 22, 23, 24, 25, 26, 27, 28, 29, 30, 31, 32, 33, 34, 35, 36]) ([(3, .slice none 0 0), (14, .int .i64 0)] ++ [(12, .slice none 0 0), (13, .int .i64 0)]) (oF (some [(3, .slice none 0 0)]) none []) fun l w C => T_admin_Desk_History_1 (pA (nv l 0)) (pL (nv l 0)) (pC (nv l 0)) (pInt (nv l 1)) (pA (nv l 2)) (pL (nv l 2)) (pC (nv l 2)) (pInt (nv l 3)) w (fun out49a out49l out49c => C .normal [.slice out49a out49l out49c]) (fun ch => C (.panic ch) [])

theorem T_admin_Desk_History_1_ok : UnitOk Tryz.prog H_admin_Desk_History_1 (at_ (bodyOf Tryz.f7) [1, 1, 1, 0, 1]) 61 := lk 0 (B := fun C X l u w => T_admin_Desk_History_1_body (fun out4a out4l out4c x5 => X [.slice out4a out4l out4c, .int .i64 x5]) (pA (nv l 0)) (pL (nv l 0)) (pC (nv l 0)) (pInt (nv l 1)) (pA (nv u 0)) (pL (nv u 0)) (pC (nv u 0)) (pInt (nv u 1)) w (fun out50a out50l out50c => C .normal [.slice out50a out50l out50c]) (fun ch => C (.panic ch) [])) hz (fun l u w C => ⟨fun h X hX => h (fun out4a out4l out4c x5 => X [.slice out4a out4l out4c, .int .i64 x5]) fun out4a out4l out4c x5 w hb => hX [.slice out4a out4l out4c, .int .i64 x5] w hb, fun h X hX => h (fun l w => X (pA (nv l 0)) (pL (nv l 0)) (pC (nv l 0)) (pInt (nv l 1)) w) fun l w hb => hX (pA (nv l 0)) (pL (nv l 0)) (pC (nv l 0)) (pInt (nv l 1)) w hb⟩)

def T_admin_Desk_History (d1 : Option Addr) (w : World) (R : ERP) : Prop :=
  if d1.isNone = true then (R (.returned (.slice none 0 0)) w) else (∃ a2, d1 = some a2 ∧ ∃ (s3a : Option Addr) (s3l s3c : Nat), rd w (a2.add 3) (.slice s3a s3l s3c) ∧ T_admin_Desk_History_1 none 0 0 0 s3a s3l s3c (s3l : Int) w (fun out51a out51l out51c w52 => R (.returned (.slice out51a out51l out51c)) w52) (pan R))

theorem C_admin_Desk_History {d1 : Option Addr} (h : T_admin_Desk_History d1 w R) : Calls Tryz.prog 7 #[.pointer d1] w R := cc mixed Tryz.func7 (hA (H := hookAt [(61, H_admin_Desk_History_1)]) (hc T_admin_Desk_History_1_ok hn)) h

end Go.Proofs.YtfkiolliegiocaaGreat

/-
  Commands in new memory; a configuration of nothing.
-/
namespace Go.Vc
open Go Go.Proofs Go.Proofs.YtfkiolliegiocaaGreat
set_option maxRecDepth 100000
section
variable {E w : World} {L : List Asrt} {R : Ending → World → Prop} {F G : Fz} {c : Cm.Cmd} {q : Sl} {b : Nat}
abbrev nl : Sl := (none, 0, 0)
theorem mm {A : Asrt} (hm : kn F ∈ L) : kn F ∈ A :: L := List.mem_cons_of_mem _ hm
theorem rd_cm {ty : Nat} (h : St E (blkL b ty (cmdL c q) :: L) w) : rd w ⟨b, 0, none⟩ (cmdV c q) := rd_agg (xs := cmdL c q) h.at_blk (by intro i u hu; rw [Nat.zero_add]; exact hu)
/-- Where L stands, whatever stands before it, the slice reads so. -/
def Reads (E : World) (L : List Asrt) (q : Sl) (tg : List Cm.Tgt) : Prop := ∀ (As : List Asrt) (w : World), St E (As ++ L) w → RdS w q.1 q.2.1 2 (tg.flatMap tV)
theorem Reads.of_kn {tg : List Cm.Tgt} (hm : kn F ∈ L) (hr : RdF F q.1 q.2.1 2 (tg.flatMap tV)) : Reads E L q tg := fun As w h => hr.at h (List.mem_append_right _ hm)
theorem Reads.cons {tg : List Cm.Tgt} {A : Asrt} (h : Reads E L q tg) : Reads E (A :: L) q tg := fun As w hs => h (As ++ [A]) w (by rw [List.append_assoc]; exact hs)
theorem Clone_spec {tg : List Cm.Tgt} (h : St E L w) (hr : Reads E L q tg) (hl : tg.length ≤ 1000) (k : ∀ (q' : Sl) w', St E (tgA q' tg :: L) w' → R (.returned (.slice q'.1 q'.2.1 q'.2.2)) w') :
    Calls Tryz.prog 34 #[.slice q.1 q.2.1 q.2.2] w R := by
  have hn : tg.length = q.2.1 := (hr [] w h).count tV_len (by decide)
  obtain ⟨a, l, cc⟩ := q
  refine C_slices_Clone_api_Target ?_
  unfold T_slices_Clone_api_Target
  cases a with
  | none =>
    have : tg = [] := by
      rcases (hr [] w h).2 with h0 | ⟨g, off, ha, _⟩
      · exact List.eq_nil_of_length_eq_zero (hn.trans h0)
      · cases ha
    subst this
    exact ite_none (k (none, 0, 0) w h.ownS_nil)
  | some ad =>
    refine ite_some ?_
    intro w2
    have h2 : St E (tgA (some ⟨w.heap.size, 0, none⟩, 0, 0) [] :: L) w2 := St.ownS_mk (rest := []) (h.alloc _) rfl (Nat.le_refl _) (Nat.zero_le _) rfl
    obtain ⟨s', w', hr2, hs⟩ := app_t (c2 := cc) h2 (hr [_] _ h2) (by simp; omega)
    exact runV_ok hr2 ⟨_, _, _, rfl, k s' w' (by simpa using hs)⟩
theorem copied_spec (h : St E L w) (hr : Reads E L q c.tg) (hl : c.tg.length ≤ 1000) (k : ∀ (q' : Sl) w', St E (tgA q' c.tg :: L) w' → R (.returned (cmdV c q')) w') :
    Calls Tryz.prog 18 #[cmdV c q] w R := by
  refine C_admin_copied ?_
  unfold T_admin_copied
  intro w9
  have h9 : St E (blkL w.heap.size 25 (cmdL c q) :: L) w9 := h.alloc (.cells ⟨cmdL c q⟩ 25)
  clear_value w9
  generalize w.heap.size = b1 at *
  intro w10
  have h10 : St E (blkL w9.heap.size 25 (cmdL zeroC nl) :: blkL b1 25 (cmdL c q) :: L) w10 := h9.alloc (.cells ⟨cmdL zeroC nl⟩ 25)
  clear_value w10
  generalize w9.heap.size = b2 at *
  refine ⟨q.1, q.2.1, q.2.2, rd_fld h10.f1.at_blk rfl rfl, Clone_spec h10 hr.cons.cons hl fun q' w13 h13 => ⟨_, _, _, rfl, rfl, wrOk_fld h13.f2.at_blk (by simp [cmdL]) rfl, ?_⟩⟩
  intro w15
  have h15 : St E (blkL b1 25 (cmdL c q') :: tgA q' c.tg :: blkL b2 25 (cmdL zeroC nl) :: L) w15 := h13.f2.wr_fld (k := 7) (v := .slice q'.1 q'.2.1 q'.2.2) rfl
  clear_value w15
  refine ⟨_, _, _, _, _, _, _, _, _, _, rd_cm h15, rfl, wrOk_agg (xs := cmdL c q') h15.f2.at_blk (by simp [cmdL]) (one_cmdL _ _), ?_⟩
  intro w24
  have h24 : St E (blkL b2 25 (cmdL c q') :: blkL b1 25 (cmdL c q') :: tgA q' c.tg :: L) w24 := h15.f2.wr_agg0 (xs := cmdL c q') rfl
  exact ⟨_, _, _, _, _, _, _, _, _, _, rd_cm h24, k q' _ h24.drop.drop⟩
theorem contains_spec {g : FuncId} {fi ca : Array Value} {cc : Nat} (k : R (.returned (.bool false)) w) : Calls Tryz.prog 16 #[.slice none 0 cc, .func (.func g) fi ca] w R := by
  refine C_slices_ContainsFunc_admin_record_admin_record ?_
  unfold T_slices_ContainsFunc_admin_record_admin_record
  refine C_slices_IndexFunc_admin_record_admin_record ?_
  unfold T_slices_IndexFunc_admin_record_admin_record T_slices_IndexFunc_admin_record_admin_record_1
  intro X hX
  refine hX _ _ ?_
  unfold T_slices_IndexFunc_admin_record_admin_record_1_body
  exact ite_d (fun hh => absurd hh (by decide)) fun _ => ⟨_, rfl, k⟩
def cfL : List Value := [.int .i64 0, .slice none 0 0, .slice none 0 0]
theorem whole_spec (h : St E L w) (k : ∀ w', St E L w' → R (.returned (.agg ⟨cfL⟩)) w') : Calls Tryz.prog 25 #[.agg #[.int .i64 0, .slice none 0 0, .slice none 0 0]] w R := by
  refine C_admin_whole ?_
  unfold T_admin_whole
  intro w4
  have h4 : St E (blkL w.heap.size 56 cfL :: L) w4 := h.alloc (.cells ⟨cfL⟩ 56)
  clear_value w4
  generalize w.heap.size = b1 at *
  intro w5
  have h5 : St E (blkL w4.heap.size 56 cfL :: blkL b1 56 cfL :: L) w5 := h4.alloc (.cells ⟨cfL⟩ 56)
  clear_value w5
  generalize w4.heap.size = b2 at *
  intro w6
  have h6 : St E (blkL b1 56 cfL :: blkL b2 56 cfL :: L) w6 := h5.f1.drew
  clear_value w6
  refine ⟨none, 0, 0, rd_fld h6.at_blk rfl rfl, none, 0, 0, rd_fld h6.at_blk rfl rfl, ?_⟩
  refine C_slices_Clone_api_Route ?_
  unfold T_slices_Clone_api_Route
  refine ite_none ⟨_, _, _, rfl, ⟨rd_fld h6.at_blk rfl rfl, trivial⟩, ?_⟩
  refine C_slices_Clone_api_Pool ?_
  unfold T_slices_Clone_api_Pool
  refine ite_none ⟨_, _, _, rfl, trivial, rfl, wrOk_fld h6.at_blk (by simp [cfL]) rfl, ?_⟩
  intro w15
  have h15 : St E (blkL b1 56 cfL :: blkL b2 56 cfL :: L) w15 := h6.wr_fld (k := 1) (v := .slice none 0 0) rfl
  clear_value w15
  refine ⟨trivial, rfl, wrOk_fld h15.at_blk (by simp [cfL]) rfl, ?_⟩
  intro w16
  have h16 : St E (blkL b1 56 cfL :: blkL b2 56 cfL :: L) w16 := h15.wr_fld (k := 2) (v := .slice none 0 0) rfl
  clear_value w16
  refine ⟨trivial, none, 0, 0, rd_fld h16.at_blk rfl rfl, ?_⟩
  unfold T_admin_whole_1
  intro X hX
  refine hX _ _ ?_
  unfold T_admin_whole_1_body
  refine ite_d (fun hh => absurd hh (by decide)) fun _ => ?_
  have rdc : ∀ {b : Nat} {L : List Asrt} {w : World}, St E (blkL b 56 cfL :: L) w → rd w ⟨b, 0, none⟩ (.agg ⟨cfL⟩) := fun h => rd_agg (xs := cfL) h.at_blk (by intro i u hu; rw [Nat.zero_add]; exact hu)
  refine ⟨_, _, _, _, _, _, _, rdc h16, rfl, wrOk_agg (xs := cfL) h16.f1.at_blk (by simp [cfL]) (by intro u hu; simp only [cfL, List.mem_cons, List.not_mem_nil, or_false] at hu; rcases hu with rfl | rfl | rfl <;> rfl), ?_⟩
  intro w35
  have h35 : St E (blkL b2 56 cfL :: blkL b1 56 cfL :: L) w35 := h16.f1.wr_agg0 (xs := cfL) rfl
  exact ⟨_, _, _, _, _, _, _, rdc h35, k _ h35.drop.drop⟩
end
end Go.Vc

/-
  An operation is asked for.
-/
namespace Go.Vc
open Go Go.Proofs Go.Proofs.YtfkiolliegiocaaGreat
set_option maxRecDepth 100000
def encN_ : Int → Value := fun n => .int .i64 n
theorem intLaw : KeyLaw Tryz.prog 3 (.int .i64) encN_ := keyLaw_int (t := 3) (by kernel_rfl)
theorem und_asked : Tryz.prog.underlying 73 = some (.map 3 3) := by kernel_rfl
theorem tm_int : tmpl Tryz.prog 3 = some (.int .i64 0) := by kernel_rfl
def cA (c : Cm.Cmd) : Cm.Cmd := { c with client := 5, seq := 1 }
def deskL (cp : Option Addr × List Value) (now : Int) (l : Sl) (m : Nat) : List Value := [.pointer cp.1, .int .i64 now, .int .i64 0, .slice l.1 l.2.1 l.2.2, .slice none 0 0, .map (some m)] ++ cp.2
def opL (b : Bool) (c : Cm.Cmd) (q : Sl) : List Value := .bool b :: cmdL c q
def recL (c : Cm.Cmd) (q : Sl) : List Value := .bool false :: cmdL c q ++ [.int .i64 1, .int .i64 0, .int .i64 0, .int .i64 0, .int .i64 0, .int .i64 0, .slice none 0 0, .slice none 0 0, .int .i64 5, .slice none 0 0]
section
variable {E w : World} {L : List Asrt} {R : Ending → World → Prop} {F G : Fz} {c c' : Cm.Cmd} {q q' : Sl} {g ty d m : Nat} {b : Bool} {cp : Option Addr × List Value}
theorem rd_op (h : St E (blkL g ty (opL b c q) :: L) w) : rd w ((⟨g, 0, none⟩ : Addr).add 1) (cmdV c q) := by
  rw [add_mk, Nat.zero_add]
  exact rd_agg (xs := cmdL c q) h.at_blk (by intro i u hu; rw [Nat.add_comm]; exact hu)
theorem rd_op0 (h : St E (blkL g ty (opL b c q) :: L) w) : rd w ⟨g, 0, none⟩ (.agg ⟨opL b c q⟩) := rd_agg (xs := opL b c q) h.at_blk (by intro i u hu; rw [Nat.zero_add]; exact hu)
theorem wrOk_op (h : St E (blkL g ty (opL b c q) :: L) w) : wrOk w ((⟨g, 0, none⟩ : Addr).add 1) (cmdV c' q') := by
  rw [add_mk, Nat.zero_add]
  exact wrOk_agg (xs := cmdL c' q') h.at_blk (by simp [opL, cmdL]) (one_cmdL _ _)
theorem wr_op (h : St E (blkL g ty (opL b c q) :: L) w) : St E (blkL g ty (opL b c' q') :: L) (wr w ((⟨g, 0, none⟩ : Addr).add 1) (cmdV c' q')) := by
  rw [add_mk, Nat.zero_add]
  exact h.wr_agg (off := 1) (xs := cmdL c' q') (by simp [opL, cmdL])
theorem asked_run (h : St E (mapA m encN_ (id : Value → Value) [] :: L) w) (a : Int) : (Instr.lookup 73 (.map (some m)) (.int .i64 a) false).run Tryz.prog w = .ok (.int .i64 0) w := lookup_run intLaw und_asked tm_int h a
theorem Ask_spec (hr : Reads E L q c.tg) (hc : okC c) (hl : c.tg.length ≤ 1000)
    (h : St E (blkL d 75 (deskL cp 0 nl m) :: mapA m encN_ (id : Value → Value) [] :: kn F :: L) w)
    (k0 : ∀ G w', Fz.le F G → Cm.chk (cA c) ≠ 0 → St E (blkL d 75 (deskL cp 1 nl m) :: kn G :: L) w' → R (.returned (.tuple #[.int .i64 0, .int .i64 (Cm.chk (cA c))])) w')
    (k1 : ∀ G w' (l : Sl) (rb : Nat) (q' : Sl), Fz.le F G → Cm.chk (cA c) = 0 → l.2.1 = 1 → RdF G q'.1 q'.2.1 2 (c.tg.flatMap tV) → St E (blkL d 75 (deskL cp 1 l m) :: ownS l.1 l.2.1 l.2.2 77 1 [.pointer (some ⟨rb, 0, none⟩)] :: blkL rb 80 (recL (cA c) q') :: kn G :: L) w' → R (.returned (.tuple #[.int .i64 1, .int .i64 0])) w') :
    Calls Tryz.prog 4 #[.pointer (some ⟨d, 0, none⟩), .int .i64 5, .agg ⟨opL false c q⟩] w R := by
  refine C_admin_Desk_Ask ?_
  unfold T_admin_Desk_Ask
  intro w12
  have h12 : St E (blkL w.heap.size 3 [.int .i64 5] :: blkL d 75 (deskL cp 0 nl m) :: mapA m encN_ (id : Value → Value) [] :: kn F :: L) w12 := h.alloc _
  clear_value w12
  generalize w.heap.size = bC at *
  intro w13
  have h13 : St E (blkL w12.heap.size 27 (opL false c q) :: blkL bC 3 [.int .i64 5] :: blkL d 75 (deskL cp 0 nl m) :: mapA m encN_ (id : Value → Value) [] :: kn F :: L) w13 := h12.alloc (.cells ⟨opL false c q⟩ 27)
  clear_value w13
  generalize w12.heap.size = bO at *
  refine ite_some ⟨_, rfl, 0, rd_fld h13.f2.at_blk rfl rfl, _, rfl, rfl, wrOk_fld h13.f2.at_blk (by simp only [deskL, List.length_append, List.length_cons, List.length_nil]; omega) rfl, ?_⟩
  intro w17
  have h17 : St E (blkL d 75 (deskL cp 1 nl m) :: blkL bO 27 (opL false c q) :: blkL bC 3 [.int .i64 5] :: mapA m encN_ (id : Value → Value) [] :: kn F :: L) w17 := h13.f2.wr_fld (k := 1) (v := .int .i64 1) rfl
  clear_value w17
  unfold T_admin_Desk_Ask_1
  refine ⟨5, rd_cell h17.f2.at_blk rfl rfl, ite_d (fun hh => absurd hh (by decide)) fun _ => ⟨5, rd_cell h17.f2.at_blk rfl rfl, ite_b (fun hh => absurd hh (by decide)) fun _ => ?_⟩⟩
  refine ⟨_, rfl, none, 0, 0, rd_fld h17.at_blk rfl rfl, contains_spec ⟨_, rfl, ite_b (fun hh => by cases hh) fun _ => ⟨false, rd_cell h17.f1.at_blk rfl rfl, ?_⟩⟩⟩
  unfold T_admin_Desk_Ask_2
  refine ite_b (fun hh => by cases hh) fun _ => ?_
  refine ⟨_, _, _, _, _, _, _, _, _, _, rd_op h17.f1, copied_spec h17 hr.cons.cons.cons.cons.cons hl fun q' w46 h46 => ⟨_, _, _, _, _, _, _, _, _, _, rfl, rfl, wrOk_op h46.f2, ?_⟩⟩
  intro w55
  have h55 : St E (blkL bO 27 (opL false c q') :: tgA q' c.tg :: blkL d 75 (deskL cp 1 nl m) :: blkL bC 3 [.int .i64 5] :: mapA m encN_ (id : Value → Value) [] :: kn F :: L) w55 := wr_op h46.f2
  clear_value w55
  have h55a : St E (tgA q' c.tg :: kn F :: blkL bO 27 (opL false c q') :: blkL d 75 (deskL cp 1 nl m) :: blkL bC 3 [.int .i64 5] :: mapA m encN_ (id : Value → Value) [] :: L) w55 := h55.sel 6 [1, 5, 0, 2, 3, 4] (by simp only [List.length_cons]; omega)
  obtain ⟨G, hG, h55b, hrG⟩ := h55a.freezeT
  have h56 : St E (blkL bO 27 (opL false c q') :: blkL bC 3 [.int .i64 5] :: blkL d 75 (deskL cp 1 nl m) :: mapA m encN_ (id : Value → Value) [] :: kn G :: L) w55 := h55b.sel 5 [1, 3, 2, 4, 0] (by simp only [List.length_cons]; omega)
  clear h55 h55a h55b
  intro w56
  replace h56 := h56.drew
  refine ⟨5, rd_cell h56.f1.at_blk rfl rfl, _, rfl, some m, rd_fld h56.f2.at_blk rfl rfl, 5, rd_cell h56.f1.at_blk rfl rfl, ?_, ?_⟩
  · refine runV_ok (asked_run h56.f3 5) ⟨_, rfl, ⟨rd_cell h56.f1.at_blk rfl rfl, trivial⟩, rfl, wrOk_fld (k := 2) h56.at_blk (by simp [opL, cmdL]) rfl, ?_⟩
    intro w64
    have h64 : St E (blkL bO 27 (opL false { c with client := 5 } q') :: blkL bC 3 [.int .i64 5] :: blkL d 75 (deskL cp 1 nl m) :: mapA m encN_ (id : Value → Value) [] :: kn G :: L) w64 := h56.wr_fld (k := 2) (v := .int .i64 5) rfl
    refine ⟨trivial, rfl, wrOk_fld (k := 3) h64.at_blk (by simp [opL, cmdL]) rfl, ?_⟩
    intro w65
    have h65 : St E (blkL bO 27 (opL false (cA c) q') :: blkL bC 3 [.int .i64 5] :: blkL d 75 (deskL cp 1 nl m) :: mapA m encN_ (id : Value → Value) [] :: kn G :: L) w65 := h64.wr_fld (k := 3) (v := .int .i64 1) rfl
    refine ⟨trivial, ?_⟩
    refine ⟨_, _, _, _, _, _, _, _, _, _, rd_op h65, Check_spec (c := cA c) (s := q') (F := G) (by simp) h65 hrG hc fun w75 h75 => ⟨_, rfl, ?_⟩⟩
    rw [ne_dec]
    refine ite_d (fun hne => k0 G w75 hG hne (h75.sel 5 [2, 4] (by simp only [List.length_cons]; omega))) fun he => ?_
    intro w77
    have h77 := h75.drew
    refine ⟨_, rfl, some m, rd_fld h77.f2.at_blk rfl rfl, 5, rd_cell h77.f1.at_blk rfl rfl, runV_ok (asked_run h77.f3 5) ⟨_, rfl, trivial, ?_⟩⟩
    obtain ⟨w84, hr84, h84⟩ := mapUpdate_run intLaw und_asked h77.f3 (5 : Int) (.int .i64 (IntKind.wrap .i64 ((0 : Int) + 1)))
    refine runV_ok hr84 ⟨trivial, ?_⟩
    have he : Cm.chk (cA c) = 0 := by simpa using he
    have h115 : St E (blkL bO 27 (opL false (cA c) q') :: blkL bC 3 [.int .i64 5] :: blkL d 75 (deskL cp 1 nl m) :: kn G :: L) w84 := h84.drop
    dsimp -zeta only
    intro w116
    have h116 : St E (blkL bO 27 (opL false (cA c) q') :: blkL bC 3 [.int .i64 5] :: blkL d 75 (deskL cp 1 nl m) :: kn G :: L) w116 := h115.drew
    clear_value w116
    refine ⟨_, rfl, none, 0, 0, rd_fld h116.f2.at_blk rfl rfl, false, _, _, _, _, _, _, _, _, _, _, rd_op0 h116, _, rfl, 1, rd_fld h116.f2.at_blk rfl rfl, 5, rd_cell h116.f1.at_blk rfl rfl, ?_⟩
    intro w131
    have h131 : St E (blkL w116.heap.size 80 (recL (cA c) q') :: blkL bO 27 (opL false (cA c) q') :: blkL bC 3 [.int .i64 5] :: blkL d 75 (deskL cp 1 nl m) :: kn G :: L) w131 := h116.alloc (.cells ⟨recL (cA c) q'⟩ 80)
    clear_value w131
    generalize w116.heap.size = rb at *
    refine ⟨⟨rd_fld h131.f3.at_blk rfl rfl, trivial⟩, ?_⟩
    intro w132
    have h132 : St E (ownS (some ⟨w131.heap.size, 0, none⟩) 1 1 77 1 [.pointer (some ⟨rb, 0, none⟩)] :: blkL rb 80 (recL (cA c) q') :: blkL bO 27 (opL false (cA c) q') :: blkL bC 3 [.int .i64 5] :: blkL d 75 (deskL cp 1 nl m) :: kn G :: L) w132 :=
      St.ownS_mk (xs := [.pointer (some ⟨rb, 0, none⟩)]) (rest := []) (l := 1) (c := 1) (sz := 1) (h131.alloc (.cells #[.pointer (some ⟨rb, 0, none⟩)] 77)) rfl (Nat.le_refl _) (by decide) rfl
    clear_value w132
    generalize w131.heap.size = rp at *
    refine ⟨⟨rd_fld h132.f4.at_blk rfl rfl, trivial⟩, ?_⟩
    obtain ⟨a', c', w', hr5, h5⟩ := append_own (P := Tryz.prog) (t := 72) (ty := 72) (e := 77) (i := Tryz.t77) (z := .pointer none) (by kernel_rfl) (by kernel_rfl) (by kernel_rfl) (by kernel_rfl) (by decide) (c2 := 1) h132.ownS_nil (St.rdS_own h132) (by intro u hu; simp at hu; subst hu; rfl)
      (by rw [show Tryz.t77.bytes = 8 by kernel_rfl]; omega) (by unfold maxLen; omega)
    rw [show Tryz.t77.size = 1 by kernel_rfl] at h5
    refine runV_ok hr5 ⟨_, _, _, rfl, trivial, _, rfl, rfl, wrOk_fld h5.f5.at_blk (by simp only [deskL, List.length_append, List.length_cons, List.length_nil]; omega) rfl, ?_⟩
    intro w137
    have h137 : St E (blkL d 75 (deskL cp 1 (a', 1, c') m) :: ownS a' 1 c' 77 1 [.pointer (some ⟨rb, 0, none⟩)] :: ownS (some ⟨rp, 0, none⟩) 1 1 77 1 [.pointer (some ⟨rb, 0, none⟩)] :: blkL rb 80 (recL (cA c) q') :: blkL bO 27 (opL false (cA c) q') :: blkL bC 3 [.int .i64 5] :: kn G :: L) w137 := h5.f5.wr_fld (k := 3) (v := .slice a' 1 c') rfl
    refine ⟨trivial, _, rfl, _, _, _, rd_fld h137.at_blk rfl rfl, ?_⟩
    exact k1 G w137 (a', 1, c') rb q' hG he rfl hrG (h137.sel 7 [0, 1, 3, 6] (by simp only [List.length_cons]; omega))
  · refine ⟨rfl, wrOk_fld (k := 2) h56.at_blk (by simp [opL, cmdL]) rfl, ?_⟩
    intro w64
    have h64 : St E (blkL bO 27 (opL false { c with client := 5 } q') :: blkL bC 3 [.int .i64 5] :: blkL d 75 (deskL cp 1 nl m) :: mapA m encN_ (id : Value → Value) [] :: kn G :: L) w64 := h56.wr_fld (k := 2) (v := .int .i64 5) rfl
    refine ⟨⟨rd_cell h64.f1.at_blk rfl rfl, rd_fld h64.f2.at_blk rfl rfl, trivial⟩, ?_⟩
    refine runV_ok (asked_run h64.f3 5) ⟨_, rfl, trivial, rfl, wrOk_fld (k := 3) h64.at_blk (by simp [opL, cmdL]) rfl, ?_⟩
    intro w65
    have h65 : St E (blkL bO 27 (opL false (cA c) q') :: blkL bC 3 [.int .i64 5] :: blkL d 75 (deskL cp 1 nl m) :: mapA m encN_ (id : Value → Value) [] :: kn G :: L) w65 := h64.wr_fld (k := 3) (v := .int .i64 1) rfl
    refine ⟨trivial, ?_⟩
    refine ⟨_, _, _, _, _, _, _, _, _, _, rd_op h65, Check_spec (c := cA c) (s := q') (F := G) (by simp) h65 hrG hc fun w75 h75 => ⟨_, rfl, ?_⟩⟩
    rw [ne_dec]
    refine ite_d (fun hne => k0 G w75 hG hne (h75.sel 5 [2, 4] (by simp only [List.length_cons]; omega))) fun he => ?_
    intro w77
    have h77 := h75.drew
    refine ⟨_, rfl, some m, rd_fld h77.f2.at_blk rfl rfl, 5, rd_cell h77.f1.at_blk rfl rfl, runV_ok (asked_run h77.f3 5) ⟨_, rfl, trivial, ?_⟩⟩
    obtain ⟨w84, hr84, h84⟩ := mapUpdate_run intLaw und_asked h77.f3 (5 : Int) (.int .i64 (IntKind.wrap .i64 ((0 : Int) + 1)))
    refine runV_ok hr84 ⟨trivial, ?_⟩
    have he : Cm.chk (cA c) = 0 := by simpa using he
    have h115 : St E (blkL bO 27 (opL false (cA c) q') :: blkL bC 3 [.int .i64 5] :: blkL d 75 (deskL cp 1 nl m) :: kn G :: L) w84 := h84.drop
    dsimp -zeta only
    intro w116
    have h116 : St E (blkL bO 27 (opL false (cA c) q') :: blkL bC 3 [.int .i64 5] :: blkL d 75 (deskL cp 1 nl m) :: kn G :: L) w116 := h115.drew
    clear_value w116
    refine ⟨_, rfl, none, 0, 0, rd_fld h116.f2.at_blk rfl rfl, false, _, _, _, _, _, _, _, _, _, _, rd_op0 h116, _, rfl, 1, rd_fld h116.f2.at_blk rfl rfl, 5, rd_cell h116.f1.at_blk rfl rfl, ?_⟩
    intro w131
    have h131 : St E (blkL w116.heap.size 80 (recL (cA c) q') :: blkL bO 27 (opL false (cA c) q') :: blkL bC 3 [.int .i64 5] :: blkL d 75 (deskL cp 1 nl m) :: kn G :: L) w131 := h116.alloc (.cells ⟨recL (cA c) q'⟩ 80)
    clear_value w131
    generalize w116.heap.size = rb at *
    refine ⟨⟨rd_fld h131.f3.at_blk rfl rfl, trivial⟩, ?_⟩
    intro w132
    have h132 : St E (ownS (some ⟨w131.heap.size, 0, none⟩) 1 1 77 1 [.pointer (some ⟨rb, 0, none⟩)] :: blkL rb 80 (recL (cA c) q') :: blkL bO 27 (opL false (cA c) q') :: blkL bC 3 [.int .i64 5] :: blkL d 75 (deskL cp 1 nl m) :: kn G :: L) w132 :=
      St.ownS_mk (xs := [.pointer (some ⟨rb, 0, none⟩)]) (rest := []) (l := 1) (c := 1) (sz := 1) (h131.alloc (.cells #[.pointer (some ⟨rb, 0, none⟩)] 77)) rfl (Nat.le_refl _) (by decide) rfl
    clear_value w132
    generalize w131.heap.size = rp at *
    refine ⟨⟨rd_fld h132.f4.at_blk rfl rfl, trivial⟩, ?_⟩
    obtain ⟨a', c', w', hr5, h5⟩ := append_own (P := Tryz.prog) (t := 72) (ty := 72) (e := 77) (i := Tryz.t77) (z := .pointer none) (by kernel_rfl) (by kernel_rfl) (by kernel_rfl) (by kernel_rfl) (by decide) (c2 := 1) h132.ownS_nil (St.rdS_own h132) (by intro u hu; simp at hu; subst hu; rfl)
      (by rw [show Tryz.t77.bytes = 8 by kernel_rfl]; omega) (by unfold maxLen; omega)
    rw [show Tryz.t77.size = 1 by kernel_rfl] at h5
    refine runV_ok hr5 ⟨_, _, _, rfl, trivial, _, rfl, rfl, wrOk_fld h5.f5.at_blk (by simp only [deskL, List.length_append, List.length_cons, List.length_nil]; omega) rfl, ?_⟩
    intro w137
    have h137 : St E (blkL d 75 (deskL cp 1 (a', 1, c') m) :: ownS a' 1 c' 77 1 [.pointer (some ⟨rb, 0, none⟩)] :: ownS (some ⟨rp, 0, none⟩) 1 1 77 1 [.pointer (some ⟨rb, 0, none⟩)] :: blkL rb 80 (recL (cA c) q') :: blkL bO 27 (opL false (cA c) q') :: blkL bC 3 [.int .i64 5] :: kn G :: L) w137 := h5.f5.wr_fld (k := 3) (v := .slice a' 1 c') rfl
    refine ⟨trivial, _, rfl, _, _, _, rd_fld h137.at_blk rfl rfl, ?_⟩
    exact k1 G w137 (a', 1, c') rb q' hG he rfl hrG (h137.sel 7 [0, 1, 3, 6] (by simp only [List.length_cons]; omega))
end
end Go.Vc

/-
  The history: of nothing, and of one record.
-/
namespace Go.Vc
open Go Go.Proofs Go.Proofs.YtfkiolliegiocaaGreat
set_option maxRecDepth 100000
def hrL (c : Cm.Cmd) (q : Sl) : List Value := .bool false :: cmdL c q ++ [.int .i64 1, .int .i64 0, .int .i64 0, .int .i64 0, .int .i64 0, .int .i64 0, .slice none 0 0, .slice none 0 0]
def hrZ : List Value := [.bool false, .int .i64 0, .int .i64 0, .int .i64 0, .int .i64 0, .string (ByteArray.mk #[]), .string (ByteArray.mk #[]), .string (ByteArray.mk #[]), .slice none 0 0, .int .i64 0, .int .i64 0, .int .i64 0, .int .i64 0, .int .i64 0, .int .i64 0, .slice none 0 0, .slice none 0 0]
section
variable {E w : World} {L : List Asrt} {R : Ending → World → Prop} {F G : Fz} {c c' : Cm.Cmd} {q q' l : Sl} {g ty d m rb : Nat} {b : Bool} {cp : Option Addr × List Value} {now : Int}
theorem recL_eq (c : Cm.Cmd) (q : Sl) : recL c q = hrL c q ++ [.int .i64 5, .slice none 0 0] := rfl
theorem zc_rec : zc Tryz.prog 68 = ⟨hrZ⟩ := by kernel_rfl
theorem bs_rec (c : Cm.Cmd) (q : Sl) : bsCells Tryz.prog 68 1 #[(0, .agg ⟨hrL c q⟩)] = some ⟨hrL c q⟩ := by kernel_rfl
theorem hrL_one : ∀ u ∈ hrL c q, one u = true := by
  intro u hu
  simp only [hrL, List.cons_append, List.mem_cons, List.mem_append, List.not_mem_nil, or_false] at hu
  rcases hu with rfl | hu | rfl | rfl | rfl | rfl | rfl | rfl | rfl | rfl <;> first | rfl | exact one_cmdL _ _ _ hu
theorem rd_hr {post : List Value} (h : St E (blkL g ty (hrL c q ++ post) :: L) w) : rd w ⟨g, 0, none⟩ (.agg ⟨hrL c q⟩) := rd_agg (xs := hrL c q) h.at_blk (by
  intro i u hu
  rw [Nat.zero_add, List.getElem?_append_left (List.getElem?_eq_some_iff.1 hu).1]
  exact hu)
theorem rd_hr0 (h : St E (blkL g ty (hrL c q) :: L) w) : rd w ⟨g, 0, none⟩ (.agg ⟨hrL c q⟩) := rd_agg (xs := hrL c q) h.at_blk (by intro i u hu; rw [Nat.zero_add]; exact hu)
theorem rd_hrc (h : St E (blkL g ty (hrL c q) :: L) w) : rd w ((⟨g, 0, none⟩ : Addr).add 1) (cmdV c q) := by
  rw [add_mk, Nat.zero_add]
  refine rd_agg (xs := cmdL c q) h.at_blk fun i u hu => ?_
  rw [Nat.add_comm]
  show (cmdL c q ++ _)[i]? = some u
  rw [List.getElem?_append_left (List.getElem?_eq_some_iff.1 hu).1]
  exact hu
theorem rd_hrf (h : St E (blkL g ty (hrL c q) :: L) w) : rd w ((⟨g, 0, none⟩ : Addr).add 14) (.agg ⟨cfL⟩) := by
  rw [add_mk, Nat.zero_add]
  refine rd_agg (xs := cfL) h.at_blk fun i u hu => ?_
  match i, hu with
  | 0, hu => exact hu
  | 1, hu => exact hu
  | 2, hu => exact hu
theorem wrOk_hr {k : Nat} {xs : List Value} (h : St E (blkL g ty (hrL c q) :: L) w) (hk : k + xs.length ≤ 17) (ho : ∀ u ∈ xs, one u = true) : wrOk w ((⟨g, 0, none⟩ : Addr).add k) (.agg ⟨xs⟩) := by
  rw [add_mk, Nat.zero_add]
  exact wrOk_agg (xs := xs) h.at_blk (by simp [hrL, cmdL]; omega) ho
theorem wr_hrc (h : St E (blkL g ty (hrL c q) :: L) w) : St E (blkL g ty (hrL c q') :: L) (wr w ((⟨g, 0, none⟩ : Addr).add 1) (cmdV c q')) := by
  rw [add_mk, Nat.zero_add]
  exact h.wr_agg (off := 1) (xs := cmdL c q') (by simp [hrL, cmdL])
theorem wr_hrf (h : St E (blkL g ty (hrL c q) :: L) w) : St E (blkL g ty (hrL c q) :: L) (wr w ((⟨g, 0, none⟩ : Addr).add 14) (.agg ⟨cfL⟩)) := by
  rw [add_mk, Nat.zero_add]
  exact h.wr_agg (off := 14) (xs := cfL) (by simp [hrL, cmdL, cfL])
theorem hist0_spec (h : St E (blkL d 75 (deskL cp now nl m) :: L) w) (k : R (.returned (.slice none 0 0)) w) : Calls Tryz.prog 7 #[.pointer (some ⟨d, 0, none⟩)] w R := by
  refine C_admin_Desk_History ?_
  unfold T_admin_Desk_History
  refine ite_some ⟨_, rfl, none, 0, 0, rd_fld h.at_blk rfl rfl, ?_⟩
  unfold T_admin_Desk_History_1
  intro X hX
  refine hX _ _ _ _ _ ?_
  unfold T_admin_Desk_History_1_body
  exact ite_d (fun hh => absurd hh (by decide)) fun _ => k
theorem hist1_spec (hr : RdF G q.1 q.2.1 2 (c.tg.flatMap tV)) (hl : c.tg.length ≤ 1000) (hll : l.2.1 = 1)
    (h : St E (blkL d 75 (deskL cp now l m) :: ownS l.1 l.2.1 l.2.2 77 1 [.pointer (some ⟨rb, 0, none⟩)] :: blkL rb 80 (recL c q) :: kn G :: L) w)
    (k : ∀ w' (o q2 : Sl), o.2.1 = 1 → St E (ownS o.1 o.2.1 o.2.2 68 17 (hrL c q2) :: tgA q2 c.tg :: blkL d 75 (deskL cp now l m) :: ownS l.1 l.2.1 l.2.2 77 1 [.pointer (some ⟨rb, 0, none⟩)] :: blkL rb 80 (recL c q) :: kn G :: L) w' → R (.returned (.slice o.1 o.2.1 o.2.2)) w') :
    Calls Tryz.prog 7 #[.pointer (some ⟨d, 0, none⟩)] w R := by
  refine C_admin_Desk_History ?_
  unfold T_admin_Desk_History
  refine ite_some ⟨_, rfl, l.1, l.2.1, l.2.2, rd_fld h.at_blk rfl rfl, ?_⟩
  rw [hll]
  unfold T_admin_Desk_History_1
  intro X hX
  refine hX _ _ _ _ _ ?_
  unfold T_admin_Desk_History_1_body
  refine ite_d (fun _ => ?_) fun hh => absurd hh (by decide)
  have hro := St.rdS_own h.f1
  obtain ⟨ad, had, _, hcell⟩ := hro.cells (by omega)
  refine ⟨by decide, by decide, ad, had, some ⟨rb, 0, none⟩, hro.rd_cell had (i := 0) (by omega) (v := .pointer (some ⟨rb, 0, none⟩)) rfl rfl, _, rfl, ⟨hrL c q⟩, rfl, rd_hr h.f2, ?_⟩
  intro w12
  have h12 : St E (blkL w.heap.size 68 hrZ :: blkL d 75 (deskL cp now l m) :: ownS l.1 l.2.1 l.2.2 77 1 [.pointer (some ⟨rb, 0, none⟩)] :: blkL rb 80 (recL c q) :: kn G :: L) w12 := by
    have := h.alloc (.cells (zc Tryz.prog 68) 68)
    rw [zc_rec] at this
    show St E _ (w.alloc (.cells (zc Tryz.prog 68) 68))
    rw [zc_rec]
    exact this
  clear_value w12
  generalize w.heap.size = bh at *
  refine ⟨rfl, wrOk_agg (xs := hrL c q) h12.at_blk (by simp [hrL, hrZ, cmdL]) hrL_one, ?_⟩
  intro w13
  have h13 : St E (blkL bh 68 (hrL c q) :: blkL d 75 (deskL cp now l m) :: ownS l.1 l.2.1 l.2.2 77 1 [.pointer (some ⟨rb, 0, none⟩)] :: blkL rb 80 (recL c q) :: kn G :: L) w13 := h12.wr_agg0 (xs := hrL c q) rfl
  clear_value w13
  refine ⟨_, _, _, _, _, _, _, _, _, _, rd_hrc h13, copied_spec h13 (Reads.of_kn (F := G) (by simp) hr) hl fun q2 w23 h23 => ⟨_, _, _, _, _, _, _, _, _, _, rfl, rfl, wrOk_hr h23.f1 (by simp [cmdL]) (one_cmdL _ _), ?_⟩⟩
  intro w32
  have h32 := wr_hrc (q' := q2) h23.f1
  refine ⟨_, _, _, _, _, _, _, rd_hrf h32, whole_spec h32 fun w37 h37 => ⟨_, _, _, _, _, _, _, rfl, rfl, wrOk_hr (xs := cfL) h37 (by simp [cfL]) (by intro u hu; simp only [cfL, List.mem_cons, List.not_mem_nil, or_false] at hu; rcases hu with rfl | rfl | rfl <;> rfl), ?_⟩⟩
  intro w41
  have h41 := wr_hrf h37
  refine ⟨⟨hrL c q2⟩, rfl, rd_hr0 h41, ?_⟩
  rw [bs_rec]
  dsimp -zeta only
  intro w44
  have h44 : St E (ownS (some ⟨w41.heap.size, 0, none⟩) 1 1 68 17 (hrL c q2) :: blkL bh 68 (hrL c q2) :: tgA q2 c.tg :: blkL d 75 (deskL cp now l m) :: ownS l.1 l.2.1 l.2.2 77 1 [.pointer (some ⟨rb, 0, none⟩)] :: blkL rb 80 (recL c q) :: kn G :: L) w44 :=
    St.ownS_mk (xs := hrL c q2) (rest := []) (l := 1) (c := 1) (sz := 17) (by rw [List.append_nil]; exact h41.alloc (.cells ⟨hrL c q2⟩ 68)) rfl (Nat.le_refl _) (by decide) rfl
  obtain ⟨a', c', w', hr5, h5⟩ := append_own (P := Tryz.prog) (t := 48) (ty := 48) (e := 68) (i := Tryz.t68) (z := .agg ⟨hrZ⟩) (by kernel_rfl) (by kernel_rfl) (by kernel_rfl) (by kernel_rfl) (by decide) (c2 := 1) h44.ownS_nil (St.rdS_own h44) hrL_one
    (Nat.le_trans (Nat.mul_le_mul_left _ (show Tryz.t68.bytes ≤ 1000 by decide)) (by omega)) (by unfold maxLen; omega)
  rw [show Tryz.t68.size = 17 by kernel_rfl] at h5
  refine runV_ok hr5 ⟨_, _, _, rfl, ?_⟩
  refine hX _ _ _ _ _ ?_
  unfold T_admin_Desk_History_1_body
  refine ite_d (fun hh => absurd hh (by decide)) fun _ => ?_
  exact k w' (a', 1, c') q2 rfl (h5.sel 8 [0, 3, 4, 5, 6, 7] (by simp only [List.length_cons]; omega))
end
end Go.Vc

/-
  Which calls are short.
-/
namespace Go.Vc
open Go Go.Proofs Go.Proofs.YtfkiolliegiocaaGreat
set_option maxRecDepth 100000
def callZ (c : Cm.Cmd) (q : Sl) : List Value := [.int .i64 0, .int .i64 0, .int .i64 0, .int .i64 0, .bool false] ++ cmdL c q ++ [.int .i64 0, .int .i64 0, .int .i64 0, .int .i64 0, .int .i64 0, .int .i64 0, .slice none 0 0, .int .i64 0, .int .i64 0, .int .i64 0, .int .i64 0, .string (ByteArray.mk #[]), .string (ByteArray.mk #[]), .string (ByteArray.mk #[]), .slice none 0 0, .int .i64 0, .int .i64 0]
section
variable {E w : World} {L : List Asrt} {R : Ending → World → Prop} {F G : Fz} {c : Cm.Cmd} {q : Sl} {g ty : Nat}
theorem rd_cz (h : St E (blkL g ty (callZ c q) :: L) w) : rd w (((⟨g, 0, none⟩ : Addr).add 4).add 1) (cmdV c q) := by
  show rd w (⟨g, 5, none⟩ : Addr) _
  refine rd_agg (xs := cmdL c q) h.at_blk fun i u hu => ?_
  rw [show 5 + i = i + 5 by omega]
  show (cmdL c q ++ _)[i]? = some u
  rw [List.getElem?_append_left (List.getElem?_eq_some_iff.1 hu).1]
  exact hu
theorem rd_cz0 (h : St E (blkL g ty (callZ c q) :: L) w) : rd w (((⟨g, 0, none⟩ : Addr).add 13).add 7) (cmdV zeroC nl) := by
  show rd w (⟨g, 20, none⟩ : Addr) _
  refine rd_agg (xs := cmdL zeroC nl) h.at_blk fun i u hu => ?_
  rw [show 20 + i = i + 20 by omega]
  show (cmdL zeroC nl ++ [.int .i64 0, .int .i64 0])[i]? = some u
  rw [List.getElem?_append_left (List.getElem?_eq_some_iff.1 hu).1]
  exact hu
theorem rd_czk (h : St E (blkL g ty (callZ c q) :: L) w) : rd w (((⟨g, 0, none⟩ : Addr).add 13).add 6) (.slice none 0 0) := rd_cell (off := 19) h.at_blk rfl rfl
theorem short_spec (hm : kn F ∈ L) (hr : RdF F q.1 q.2.1 2 (c.tg.flatMap tV)) (hc : okC c) (h : St E L w) (k : ∀ w' (v : Bool), (v = true → c.tg.length ≤ 100) → St E L w' → R (.returned (.bool v)) w') : Calls Tryz.prog 13 #[.agg ⟨callZ c q⟩] w R := by
  have hn := tgs_len hm h hr
  have hh : q.2.1 ≤ huge := by rw [← hn]; exact hc.2.2.2.1
  refine C_law14_short ?_
  unfold T_law14_short
  intro w2
  have h2 : St E (blkL w.heap.size 36 (callZ c q) :: L) w2 := h.alloc (.cells ⟨callZ c q⟩ 36)
  clear_value w2
  generalize w.heap.size = b1 at *
  intro w3
  have h3 : St E (blkL b1 36 (callZ c q) :: L) w3 := h2.drew
  clear_value w3
  refine ⟨_, _, _, _, _, _, _, _, _, _, rd_cz h3, _, _, _, _, _, _, _, _, _, _, rd_cz0 h3, ?_, ?_⟩
  · intro w20
    have h20 : St E (blkL w3.heap.size 25 (cmdL zeroC nl) :: blkL b1 36 (callZ c q) :: L) w20 := h3.alloc (.cells ⟨cmdL zeroC nl⟩ 25)
    clear_value w20
    generalize w3.heap.size = b2 at *
    refine ⟨⟨rd_cz0 h20.f1, rd_cz h20.f1, trivial⟩, ?_⟩
    intro w21
    have h21 : St E (blkL w20.heap.size 25 (cmdL zeroC nl) :: blkL b2 25 (cmdL zeroC nl) :: blkL b1 36 (callZ c q) :: L) w21 := h20.alloc (.cells ⟨cmdL zeroC nl⟩ 25)
    clear_value w21
    generalize w20.heap.size = b3 at *
    refine ⟨⟨rd_cz0 h21.f2, rd_cz h21.f2, trivial⟩, rfl, wrOk_agg (xs := cmdL c q) h21.f1.at_blk (by simp [cmdL]) (one_cmdL _ _), ?_⟩
    intro w22
    have h22 : St E (blkL b2 25 (cmdL c q) :: blkL b3 25 (cmdL zeroC nl) :: blkL b1 36 (callZ c q) :: L) w22 := h21.f1.wr_agg0 (xs := cmdL c q) rfl
    clear_value w22
    refine ⟨⟨rd_cz0 h22.f2, trivial⟩, rfl, wrOk_agg (xs := cmdL zeroC nl) h22.f1.at_blk (by simp [cmdL]) (one_cmdL _ _), ?_⟩
    intro w23
    have h23 : St E (blkL b3 25 (cmdL zeroC nl) :: blkL b2 25 (cmdL c q) :: blkL b1 36 (callZ c q) :: L) w23 := h22.f1.wr_agg0 (xs := cmdL zeroC nl) rfl
    clear_value w23
    refine ⟨trivial, none, 0, 0, rd_czk h23.f2, ite_d (fun _ => ?_) fun hh => absurd hh (by decide)⟩
    refine ⟨q.1, q.2.1, q.2.2, rd_fld h23.f1.at_blk rfl rfl, none, 0, 0, rd_fld h23.at_blk rfl rfl, ite_d (fun hle => ?_) fun _ => k _ false (fun hh => by cases hh) h23.drop.drop.drop⟩
    refine ⟨_, rd_fld h23.f1.at_blk rfl rfl, _, rd_fld h23.f1.at_blk rfl rfl, _, rd_fld h23.f1.at_blk rfl rfl, _, rd_fld h23.at_blk rfl rfl, _, rd_fld h23.at_blk rfl rfl, _, rd_fld h23.at_blk rfl rfl, k _ _ (fun _ => ?_) h23.drop.drop.drop⟩
    rw [show ((0 : Nat) : Int) = 0 from rfl, Int.add_zero, wrap_id (by omega) (by unfold huge at hh; omega)] at hle
    omega
  · intro w20
    have h20 : St E (blkL w3.heap.size 25 (cmdL zeroC nl) :: blkL b1 36 (callZ c q) :: L) w20 := h3.alloc (.cells ⟨cmdL zeroC nl⟩ 25)
    clear_value w20
    generalize w3.heap.size = b2 at *
    refine ⟨⟨rd_cz0 h20.f1, rd_cz h20.f1, trivial⟩, ?_⟩
    intro w21
    have h21 : St E (blkL w20.heap.size 25 (cmdL zeroC nl) :: blkL b2 25 (cmdL zeroC nl) :: blkL b1 36 (callZ c q) :: L) w21 := h20.alloc (.cells ⟨cmdL zeroC nl⟩ 25)
    clear_value w21
    generalize w20.heap.size = b3 at *
    refine ⟨⟨rd_cz0 h21.f2, rd_cz h21.f2, trivial⟩, rfl, wrOk_agg (xs := cmdL c q) h21.at_blk (by simp [cmdL]) (one_cmdL _ _), ?_⟩
    intro w22
    have h22 : St E (blkL b3 25 (cmdL c q) :: blkL b2 25 (cmdL zeroC nl) :: blkL b1 36 (callZ c q) :: L) w22 := h21.wr_agg0 (xs := cmdL c q) rfl
    clear_value w22
    refine ⟨⟨rd_cz0 h22.f2, trivial⟩, rfl, wrOk_agg (xs := cmdL zeroC nl) h22.f1.at_blk (by simp [cmdL]) (one_cmdL _ _), ?_⟩
    intro w23
    have h23 : St E (blkL b2 25 (cmdL zeroC nl) :: blkL b3 25 (cmdL c q) :: blkL b1 36 (callZ c q) :: L) w23 := h22.f1.wr_agg0 (xs := cmdL zeroC nl) rfl
    clear_value w23
    refine ⟨trivial, none, 0, 0, rd_czk h23.f2, ite_d (fun _ => ?_) fun hh => absurd hh (by decide)⟩
    refine ⟨q.1, q.2.1, q.2.2, rd_fld h23.f1.at_blk rfl rfl, none, 0, 0, rd_fld h23.at_blk rfl rfl, ite_d (fun hle => ?_) fun _ => k _ false (fun hh => by cases hh) h23.drop.drop.drop⟩
    refine ⟨_, rd_fld h23.f1.at_blk rfl rfl, _, rd_fld h23.f1.at_blk rfl rfl, _, rd_fld h23.f1.at_blk rfl rfl, _, rd_fld h23.at_blk rfl rfl, _, rd_fld h23.at_blk rfl rfl, _, rd_fld h23.at_blk rfl rfl, k _ _ (fun _ => ?_) h23.drop.drop.drop⟩
    rw [show ((0 : Nat) : Int) = 0 from rfl, Int.add_zero, wrap_id (by omega) (by unfold huge at hh; omega)] at hle
    omega
end
end Go.Vc

/-
  A new desk.
-/
namespace Go.Ev
open Go Go.Vc Go.RowKit Go.Proofs.YtfkiolliegiocaaGreat Go.Proofs
set_option maxRecDepth 1000000
section
variable {E w : World} {L : List Asrt} {R : Ending → World → Prop}
theorem Own.mapA_ {κ ν : Type} {b : Nat} {kv : κ → Value} {vv : ν → Value} {m : List (κ × ν)} : Own (mapA b kv vv m) := fun h ⟨es, clock, hA, h2⟩ => by
  refine ⟨fun c => if c = b then some (true, .map es clock) else none, ⟨es, clock, by simp, h2⟩, fun c f u hc => ?_⟩
  by_cases e : c = b
  · subst e
    simp at hc
    obtain ⟨rfl, rfl⟩ := hc
    exact ⟨rfl, hA⟩
  · simp [e] at hc
def newL : List AO := [.cells 1 75 1 [.pointer (some ⟨2, 0, none⟩), .int .i64 0, .int .i64 0, .slice none 0 0, .slice none 0 0, .map (some 3)], .map 3 (.int .i64) [], .frm 0]
theorem new_takes : takes (fun i => i) newL (mOf (aS 0) (aS 0).length).t = true := by kernel_rfl
theorem New_spec (h : St E L w) (k : ∀ (w' : World) (d m : Nat) (cp : Option Addr × List Value), St E (blkL d 75 (deskL cp 0 Go.Vc.nl m) :: mapA m encN_ (id : Value → Value) [] :: L) w' → R (.returned (.tuple #[.pointer (some ⟨d, 0, none⟩), .int .i64 0])) w') :
    Calls Tryz.prog 12 #[.int .i64 1, .int .i64 65536] w R := by
  refine (goK_ok (P := Tryz.prog) mixed (fs_fine w) new_run (by kernel_rfl) (vs := [.int .i64 1, .int .i64 65536]) (.cons (.flat rfl) (.cons (.flat rfl) .nil)) (HR.start w)).mono fun e w2 ⟨u, he, x, ψ, σ, _, hx, hu, hr⟩ => ?_
  subst he
  obtain ⟨ds, rfl, kd⟩ := (eqR_ok hx hu).tup_
  cases kd with | cons k1 kd => cases kd with | cons k2 kd => cases kd with | nil =>
  obtain ⟨b, δ, h1, _, rfl⟩ := k1.ptr_
  rw [k2.flat_eq rfl]
  have a := takes_st (H := []) newL _ new_takes hr.st
  have a : St w [OA w (fun i => ψ (σ i)) (.cells 1 75 1 [.pointer (some ⟨2, 0, none⟩), .int .i64 0, .int .i64 0, .slice none 0 0, .slice none 0 0, .map (some 3)]), OA w (fun i => ψ (σ i)) (.map 3 (.int .i64) []), old w] w2 := a
  obtain ⟨b', δ', ys, rest, g1, gy, _, _, _, a⟩ := OA_cells_open a
  have eb : b' = b := by have := g1.symm.trans h1; injection this with this; injection this
  subst eb
  cases gy with | cons y1 gy => cases gy with | cons y2 gy => cases gy with | cons y3 gy => cases gy with | cons y4 gy => cases gy with | cons y5 gy => cases gy with | cons y6 gy => cases gy with | nil =>
  obtain ⟨b2, δ2, _, _, rfl⟩ := y1.ptr_
  obtain ⟨b3, δ3, g3, rfl⟩ := y6.map_
  rw [y2.flat_eq rfl, y3.flat_eq rfl, y4.sl_none, y5.sl_none] at a
  have a2 : St w (mapA b3 encN_ (id : Value → Value) [] :: blk b' (.cells ⟨deskL (some ⟨b2, 0, none⟩, rest) 0 Go.Vc.nl b3⟩ 75 (0, 0)) :: [old w]) w2 := a.f1.mono fun x hx => by
    obtain ⟨b4, δ4, g4, m, m', hm, he, hp⟩ := hx
    have e4 : b4 = b3 := by have := g4.symm.trans g3; injection this with this; injection this
    subst e4
    have he : m' = [] := he
    subst he
    have := hp.nil_eq
    subst this
    exact hm
  exact k w2 b' b3 (some ⟨b2, 0, none⟩, rest) (Go.Ev.St.glue (As := [blkL b' 75 (deskL (some ⟨b2, 0, none⟩, rest) 0 Go.Vc.nl b3), mapA b3 encN_ (id : Value → Value) []]) (fun A hA => by
    simp only [List.mem_cons, List.not_mem_nil, or_false] at hA
    rcases hA with rfl | rfl
    · exact Own.blk_
    · exact Own.mapA_) h a2.f1)
end
end Go.Ev

/-
  Calls on a nil node: closed runs whose other arguments stand for anything.
-/
namespace Go.Ev
open Go Go.Vc Go.RowKit Go.Proofs.YtfkiolliegiocaaGreat Go.Proofs
set_option maxRecDepth 1000000
noncomputable def okV (v : Value) (r : Res) : Bool := match r with | some l => l.all fun p => eqV p.1 v && p.2.get 0 false isFrm | none => false
theorem closedA {g : Nat} {args vs : List Value} {v : Value} (h : okV v (callN ⟨Tryz.prog, tyT Tryz.prog, fs0⟩ 100 g args m0) = true) (hb : hasBody Tryz.prog g = true) (hf : flat v = true) (hv : VRL (fun _ => none) args vs) (w : World) : Calls Tryz.prog g ⟨vs⟩ w fun e w' => e = .returned v ∧ St w [old w] w' := by
  unfold okV at h
  split at h
  · rename_i l hl
    have := callN_ok (E := w) mixed (fs_fine w) 100 (fun _ => none) g args vs m0 w l hl hv (HR.start w)
    unfold Out at this
    rw [run_callFunc hb] at this
    refine Calls.mono this fun e w' he => ?_
    cases e with
    | returned u =>
      obtain ⟨p, hp, ψ, _, hv, hmr⟩ := he
      have hb := List.all_eq_true.1 h p hp
      simp only [Bool.and_eq_true] at hb
      have e1 := eqV_eq hb.1
      rw [e1] at hv
      have e2 := hv.flat_eq hf
      exact ⟨by rw [e2], frm_kept hmr hb.2⟩
    | panicked ch => exact he.elim
    | outgrown => exact he.elim
  · cases h
theorem same_call {E w : World} {L : List Asrt} {g : Nat} {args : Array Value} {v : Value} {R : Ending → World → Prop} (hc : Calls Tryz.prog g args w fun e w' => e = .returned v ∧ St w [old w] w') (h : St E L w) (k : ∀ w', St E L w' → R (.returned v) w') : Calls Tryz.prog g args w R :=
  hc.mono fun e w' ⟨he, hs⟩ => by
    subst he
    exact k w' (h.same hs.1 fun c hc => by rw [hs.at_old (Array.getElem?_eq_getElem hc), Array.getElem?_eq_getElem hc])
abbrev an : Value := .chan (some 0)
end Go.Ev

/-
  What a nil desk tells.
-/
namespace Go.Ev
open Go Go.Vc Go.RowKit Go.Proofs.YtfkiolliegiocaaGreat Go.Proofs
set_option maxRecDepth 1000000
abbrev ans : Nat → List Value
  | 0 => []
  | n + 1 => an :: ans n
abbrev errT : Value := .tuple ⟨[.int .i64 0, .int .i64 1]⟩
abbrev toldE : Value := .agg #[.int .i64 1, .int .i64 0, .int .i64 0, .int .i64 0, .slice none 0 0, .slice none 0 0, .slice none 0 0]
abbrev cfgZ : Value := .agg #[.int .i64 0, .slice none 0 0, .slice none 0 0]
theorem VRL.tops {φ : Phi} : ∀ {l : List Value}, (∀ v ∈ l, one v = true) → VRL φ (ans l.length) l
  | [], _ => .nil
  | v :: r, h => .cons (.top (Tops.any (h v List.mem_cons_self))) (VRL.tops fun u hu => h u (List.mem_cons_of_mem _ hu))
theorem ask0_run : okV errT (callN ⟨Tryz.prog, tyT Tryz.prog, fs0⟩ 100 4 [.pointer none, an, .agg ⟨ans 9⟩] m0) = true := by kernel_rfl
theorem try0_run : okV errT (callN ⟨Tryz.prog, tyT Tryz.prog, fs0⟩ 100 5 [.pointer none, an, an] m0) = true := by kernel_rfl
theorem do0_run : okV toldE (callN ⟨Tryz.prog, tyT Tryz.prog, fs0⟩ 100 6 [.pointer none, .agg ⟨ans 17⟩] m0) = true := by kernel_rfl
theorem hist0_run : okV (.slice none 0 0) (callN ⟨Tryz.prog, tyT Tryz.prog, fs0⟩ 100 7 [.pointer none] m0) = true := by kernel_rfl
theorem log0_run : okV (.slice none 0 0) (callN ⟨Tryz.prog, tyT Tryz.prog, fs0⟩ 100 8 [.pointer none] m0) = true := by kernel_rfl
theorem lead0_run : okV (.int .i64 0) (callN ⟨Tryz.prog, tyT Tryz.prog, fs0⟩ 100 9 [.pointer none] m0) = true := by kernel_rfl
theorem conf0_run : okV cfgZ (callN ⟨Tryz.prog, tyT Tryz.prog, fs0⟩ 100 11 [.pointer none, an] m0) = true := by kernel_rfl
theorem same0_run : okV (.bool true) (callN ⟨Tryz.prog, tyT Tryz.prog, fs0⟩ 100 10 [cfgZ, cfgZ] m0) = true := by kernel_rfl
theorem ask_nil (c : Int) {op : List Value} (hl : op.length = 9) (h1 : ∀ v ∈ op, one v = true) (w : World) : Calls Tryz.prog 4 #[.pointer none, .int .i64 c, .agg ⟨op⟩] w fun e w' => e = .returned errT ∧ St w [old w] w' :=
  closedA ask0_run (by kernel_rfl) rfl (.cons (.flat rfl) (.cons (.top (Tops.any rfl)) (.cons (.agg (by have := VRL.tops (φ := fun _ => none) h1; rwa [hl] at this)) .nil))) w
theorem try_nil (a b : Int) (w : World) : Calls Tryz.prog 5 #[.pointer none, .int .i64 a, .int .i64 b] w fun e w' => e = .returned errT ∧ St w [old w] w' := closedA try0_run (by kernel_rfl) rfl (.cons (.flat rfl) (.cons (.top (Tops.any rfl)) (.cons (.top (Tops.any rfl)) .nil))) w
theorem do_nil {s : List Value} (hl : s.length = 17) (h1 : ∀ v ∈ s, one v = true) (w : World) : Calls Tryz.prog 6 #[.pointer none, .agg ⟨s⟩] w fun e w' => e = .returned toldE ∧ St w [old w] w' :=
  closedA do0_run (by kernel_rfl) rfl (.cons (.flat rfl) (.cons (.agg (by have := VRL.tops (φ := fun _ => none) h1; rwa [hl] at this)) .nil)) w
theorem hist_nil (w : World) : Calls Tryz.prog 7 #[.pointer none] w fun e w' => e = .returned (.slice none 0 0) ∧ St w [old w] w' := closedA hist0_run (by kernel_rfl) rfl (.cons (.flat rfl) .nil) w
theorem log_nil (w : World) : Calls Tryz.prog 8 #[.pointer none] w fun e w' => e = .returned (.slice none 0 0) ∧ St w [old w] w' := closedA log0_run (by kernel_rfl) rfl (.cons (.flat rfl) .nil) w
theorem lead_nil (w : World) : Calls Tryz.prog 9 #[.pointer none] w fun e w' => e = .returned (.int .i64 0) ∧ St w [old w] w' := closedA lead0_run (by kernel_rfl) rfl (.cons (.flat rfl) .nil) w
theorem conf_nil (n : Int) (w : World) : Calls Tryz.prog 11 #[.pointer none, .int .i64 n] w fun e w' => e = .returned cfgZ ∧ St w [old w] w' := closedA conf0_run (by kernel_rfl) rfl (.cons (.flat rfl) (.cons (.top (Tops.any rfl)) .nil)) w
theorem same_nil (w : World) : Calls Tryz.prog 10 #[cfgZ, cfgZ] w fun e w' => e = .returned (.bool true) ∧ St w [old w] w' := closedA same0_run (by kernel_rfl) rfl (.cons (.flat rfl) (.cons (.flat rfl) .nil)) w
end Go.Ev

/-
  What the functions' code comes to; printed by a program of this claim's own.
-/
namespace Go.Proofs.YtfkiolliegiocaaGreat
open Go Go.Vc
set_option maxRecDepth 100000
set_option linter.unusedVariables false
variable {w : World} {R : ERP}

/-! tollgate/tollgatelaw14.AdminNone -/
def T_law14_AdminNone_1 (x32 : Addr) (d33 : Option Addr) (n34 e35 m36 f37 : Int) (w : World) (Kn : Bool → WP) (Kp : KP) : Prop :=
  if ((n34 : Int) != 0) = true then (Kn true w) else (if ((m36 : Int) != 0) = true then (Kn true w) else (if ((e35 : Int) != 1) = true then (Kn true w) else (if ((f37 : Int) != 1) = true then (Kn true w) else (∃ xs38 : Array Value, xs38.size = 17 ∧ rd w (x32.add 13) (.agg xs38) ∧ Calls Tryz.prog 6 #[.pointer d33, .agg xs38] w (ret (fun r39 w40 => ∃ (x41 x42 x43 x44 : Int) (s45a : Option Addr) (s45l s45c : Nat) (s46a : Option Addr) (s46l s46c : Nat) (s47a : Option Addr) (s47l s47c : Nat), r39 = .agg #[.int .i64 x41, .int .i64 x42, .int .i64 x43, .int .i64 x44, .slice s45a s45l s45c, .slice s46a s46l s46c, .slice s47a s47l s47c] ∧ if ((x41 : Int) != 1) = true then (Kn true w40) else (Calls Tryz.prog 7 #[.pointer d33] w40 (ret (fun r48 w49 => ∃ (s50a : Option Addr) (s50l s50c : Nat), r48 = .slice s50a s50l s50c ∧ if ((s50l : Int) != 0) = true then (Kn true w49) else (Calls Tryz.prog 8 #[.pointer d33] w49 (ret (fun r51 w52 => ∃ (s53a : Option Addr) (s53l s53c : Nat), r51 = .slice s53a s53l s53c ∧ if ((s53l : Int) != 0) = true then (Kn true w52) else (Calls Tryz.prog 9 #[.pointer d33] w52 (ret (fun r54 w55 => ∃ x56 : Int, r54 = .int .i64 x56 ∧ if ((x56 : Int) != 0) = true then (Kn true w55) else (∃ x57 : Int, rd w55 (x32.add 3) (.int .i64 x57) ∧ Calls Tryz.prog 11 #[.pointer d33, .int .i64 x57] w55 (ret (fun r58 w59 => ∃ (x60 : Int) (s61a : Option Addr) (s61l s61c : Nat) (s62a : Option Addr) (s62l s62c : Nat), r58 = .agg #[.int .i64 x60, .slice s61a s61l s61c, .slice s62a s62l s62c] ∧ Calls Tryz.prog 10 #[.agg #[.int .i64 x60, .slice s61a s61l s61c, .slice s62a s62l s62c], .agg #[.int .i64 0, .slice none 0 0, .slice none 0 0]] w59 (ret (fun r63 w64 => ∃ b65 : Bool, r63 = .bool b65 ∧ Kn (!b65) w64) Kp)) Kp))) Kp))) Kp))) Kp))) Kp)))))

def H_law14_AdminNone_1 : Env → World → QT → Prop := unitHook 184 (ksOf [36, 37, 38, 39, 40, 41, 42, 43, 44, 45, 46, 47, 48, 49, 50, 51, 52, 53, 54, 55, 56, 57, 58, 59, 60, 61, 62, 63, 64, 65, 66, 67, 68, 69, 70, 71, 72, 73, 74, 75, 76, 77, 78, 79, 80, 81, 82, 83]) [(2, .pointer (some ⟨0, 0, none⟩)), (5, .pointer none), (6, .int .i64 0), (7, .int .i64 0), (8, .int .i64 0), (9, .int .i64 0)] (oF (some [(83, .bool false)]) none []) fun l w C => T_law14_AdminNone_1 (pAddr (nv l 0)) (pPtr (nv l 1)) (pInt (nv l 2)) (pInt (nv l 3)) (pInt (nv l 4)) (pInt (nv l 5)) w (fun b67 => C .normal [.bool b67]) (fun ch => C (.panic ch) [])

theorem T_law14_AdminNone_1_ok : UnitOk Tryz.prog H_law14_AdminNone_1 (at_ (bodyOf Tryz.f3) [1, 1, 1, 1, 0, 0]) 124 := uk hz

def T_law14_AdminNone_2 (c74 : Addr) (y75 : Option Addr) (g76 : Int) (w : World) (Kn : Bool → WP) (Kp : KP) : Prop :=
  if ((g76 : Int) != 0) = true then (Kn true w) else (if y75.isNone = true then (Kn true w) else (∃ (x77 x78 x79 x80 : Int) (s81 s82 s83 : ByteArray) (s84a : Option Addr) (s84l s84c : Nat), rd w c74 (.agg #[.int .i64 x77, .int .i64 x78, .int .i64 x79, .int .i64 x80, .string s81, .string s82, .string s83, .slice s84a s84l s84c]) ∧ Calls Tryz.prog 13 #[.agg #[.int .i64 0, .int .i64 0, .int .i64 0, .int .i64 0, .bool false, .int .i64 x77, .int .i64 x78, .int .i64 x79, .int .i64 x80, .string s81, .string s82, .string s83, .slice s84a s84l s84c, .int .i64 0, .int .i64 0, .int .i64 0, .int .i64 0, .int .i64 0, .int .i64 0, .slice none 0 0, .int .i64 0, .int .i64 0, .int .i64 0, .int .i64 0, .string (ByteArray.mk #[]), .string (ByteArray.mk #[]), .string (ByteArray.mk #[]), .slice none 0 0, .int .i64 0, .int .i64 0]] w (ret (fun r85 w86 => ∃ b87 : Bool, r85 = .bool b87 ∧ Kn (!b87) w86) Kp)))

def H_law14_AdminNone_2 : Env → World → QT → Prop := unitHook 184 (ksOf [88, 89, 90, 91, 92, 93, 94, 95, 96, 97, 98, 99, 100]) [(3, .pointer (some ⟨0, 0, none⟩)), (10, .pointer none), (11, .int .i64 0)] (oF (some [(100, .bool false)]) none []) fun l w C => T_law14_AdminNone_2 (pAddr (nv l 0)) (pPtr (nv l 1)) (pInt (nv l 2)) w (fun b89 => C .normal [.bool b89]) (fun ch => C (.panic ch) [])

theorem T_law14_AdminNone_2_ok : UnitOk Tryz.prog H_law14_AdminNone_2 (at_ (bodyOf Tryz.f3) [1, 1, 1, 1, 1, 1, 0, 0]) 508 := uk hz

def T_law14_AdminNone_3 (g92 : Int) (w : World) (Kn : Bool → WP) (Kp : KP) : Prop :=
  if ((g92 : Int) == 0) = true then (Calls Tryz.prog 14 #[] w (ret (fun r93 w94 => ∃ b95 : Bool, r93 = .bool b95 ∧ Kn b95 w94) Kp)) else (Kn false w)

def H_law14_AdminNone_3 : Env → World → QT → Prop := unitHook 184 (ksOf [4, 101, 102, 103, 104, 105]) [(11, .int .i64 0)] (oF (some [(4, .bool false)]) none []) fun l w C => T_law14_AdminNone_3 (pInt (nv l 0)) w (fun b97 => C .normal [.bool b97]) (fun ch => C (.panic ch) [])

theorem T_law14_AdminNone_3_ok : UnitOk Tryz.prog H_law14_AdminNone_3 (at_ (bodyOf Tryz.f3) [1, 1, 1, 1, 1, 1, 0, 1, 0, 0]) 2036 := uk hz

def T_law14_AdminNone_4_body (X : Int → WP) (i128 : Int) (own129 : Addr) (w : World) (Kn : WP) (Kp : KP) : Prop :=
  ∃ (s130a : Option Addr) (s130l s130c : Nat), rd w (own129.add 7) (.slice s130a s130l s130c) ∧ if (decide ((i128 : Int) < (s130l : Int))) = true then (∃ (s131a : Option Addr) (s131l s131c : Nat), rd w (own129.add 7) (.slice s131a s131l s131c) ∧ 0 ≤ (i128 : Int) ∧ (i128 : Int) < (s131l : Int) ∧ ∃ b132, s131a = some b132 ∧ (.string (ByteArray.mk #[63]) : Value).cells.size = 1 ∧ wrOk w (b132.add ((i128 : Int).toNat * 2)) (.string (ByteArray.mk #[63])) ∧ let w133 := wr w (b132.add ((i128 : Int).toNat * 2)) (.string (ByteArray.mk #[63]))
  X (IntKind.wrap .i64 ((i128 : Int) + 1)) w133) else (Kn  w)

def T_law14_AdminNone_4 (i128 : Int) (own129 : Addr) (w : World) (Kn : WP) (Kp : KP) : Prop :=
  ∀ X : Int → WP, (∀ (i128 : Int) (w : World), T_law14_AdminNone_4_body X i128 own129 w Kn Kp → X i128 w) → X i128 w

def H_law14_AdminNone_4 : Env → World → QT → Prop := unitHook 184 (ksOf [15, 119, 120, 121, 122, 123, 124, 125, 126, 127, 128, 129, 130]) ([(15, .int .i64 0)] ++ [(12, .pointer (some ⟨0, 0, none⟩))]) (oF (some []) none []) fun l w C => T_law14_AdminNone_4 (pInt (nv l 0)) (pAddr (nv l 1)) w (C .normal []) (fun ch => C (.panic ch) [])

theorem T_law14_AdminNone_4_ok : UnitOk Tryz.prog H_law14_AdminNone_4 (at_ (bodyOf Tryz.f3) [1, 1, 1, 1, 1, 1, 1, 1, 1, 1, 0, 1]) 8189 := lk 0 (B := fun C X l u w => T_law14_AdminNone_4_body (fun i128 => X [.int .i64 i128]) (pInt (nv l 0)) (pAddr (nv u 0)) w (C .normal []) (fun ch => C (.panic ch) [])) hz (fun l u w C => ⟨fun h X hX => h (fun i128 => X [.int .i64 i128]) fun i128 w hb => hX [.int .i64 i128] w hb, fun h X hX => h (fun l w => X (pInt (nv l 0)) w) fun l w hb => hX (pInt (nv l 0)) w hb⟩)

def T_law14_AdminNone_5 (y135 : Option Addr) (k136 : Int) (w : World) (Kn : Bool → WP) (Kp : KP) : Prop :=
  Calls Tryz.prog 14 #[] w (ret (fun r137 w138 => ∃ b139 : Bool, r137 = .bool b139 ∧ if b139 = true then (if ((k136 : Int) == 0) = true then (Calls Tryz.prog 7 #[.pointer y135] w138 (ret (fun r140 w141 => ∃ (s142a : Option Addr) (s142l s142c : Nat), r140 = .slice s142a s142l s142c ∧ Kn ((s142l : Int) == 0) w141) Kp)) else (Kn false w138)) else (Kn false w138)) Kp)

def H_law14_AdminNone_5 : Env → World → QT → Prop := unitHook 184 (ksOf [4, 133, 134, 135, 136, 137, 138, 139, 140, 141, 142, 143]) [(10, .pointer none), (13, .int .i64 0)] (oF (some [(4, .bool false)]) none []) fun l w C => T_law14_AdminNone_5 (pPtr (nv l 0)) (pInt (nv l 1)) w (fun b144 => C .normal [.bool b144]) (fun ch => C (.panic ch) [])

theorem T_law14_AdminNone_5_ok : UnitOk Tryz.prog H_law14_AdminNone_5 (at_ (bodyOf Tryz.f3) [1, 1, 1, 1, 1, 1, 1, 1, 1, 1, 1, 0, 1, 0, 0]) 65524 := uk hz

def T_law14_AdminNone_6_body (X : Int → WP) (i150 : Int) (l151a : Option Addr) (l151l l151c : Nat) (w : World) (Kn : WP) (Kp : KP) : Prop :=
  0 ≤ (0 : Int) ∧ (0 : Int) < (l151l : Int) ∧ ∃ b152, l151a = some b152 ∧ ∃ (s153a : Option Addr) (s153l s153c : Nat), rd w (((b152.add ((0 : Int).toNat * 17)).add 1).add 7) (.slice s153a s153l s153c) ∧ if (decide ((i150 : Int) < (s153l : Int))) = true then (0 ≤ (0 : Int) ∧ (0 : Int) < (l151l : Int) ∧ ∃ b154, l151a = some b154 ∧ ∃ (s155a : Option Addr) (s155l s155c : Nat), rd w (((b154.add ((0 : Int).toNat * 17)).add 1).add 7) (.slice s155a s155l s155c) ∧ 0 ≤ (i150 : Int) ∧ (i150 : Int) < (s155l : Int) ∧ ∃ b156, s155a = some b156 ∧ (.string (ByteArray.mk #[33]) : Value).cells.size = 1 ∧ wrOk w (b156.add ((i150 : Int).toNat * 2)) (.string (ByteArray.mk #[33])) ∧ let w157 := wr w (b156.add ((i150 : Int).toNat * 2)) (.string (ByteArray.mk #[33]))
  X (IntKind.wrap .i64 ((i150 : Int) + 1)) w157) else (Kn  w)

def T_law14_AdminNone_6 (i150 : Int) (l151a : Option Addr) (l151l l151c : Nat) (w : World) (Kn : WP) (Kp : KP) : Prop :=
  ∀ X : Int → WP, (∀ (i150 : Int) (w : World), T_law14_AdminNone_6_body X i150 l151a l151l l151c w Kn Kp → X i150 w) → X i150 w

def H_law14_AdminNone_6 : Env → World → QT → Prop := unitHook 184 (ksOf [17, 146, 147, 148, 149, 150, 151, 152, 153, 154, 155, 156, 157, 158, 159, 160, 161, 162, 163, 164, 165]) ([(17, .int .i64 0)] ++ [(16, .slice none 0 0)]) (oF (some []) none []) fun l w C => T_law14_AdminNone_6 (pInt (nv l 0)) (pA (nv l 1)) (pL (nv l 1)) (pC (nv l 1)) w (C .normal []) (fun ch => C (.panic ch) [])

theorem T_law14_AdminNone_6_ok : UnitOk Tryz.prog H_law14_AdminNone_6 (at_ (bodyOf Tryz.f3) [1, 1, 1, 1, 1, 1, 1, 1, 1, 1, 1, 1, 1, 0, 1]) 65533 := lk 2 (B := fun C X l u w => T_law14_AdminNone_6_body (fun i150 => X [.int .i64 i150]) (pInt (nv l 0)) (pA (nv u 0)) (pL (nv u 0)) (pC (nv u 0)) w (C .normal []) (fun ch => C (.panic ch) [])) hz (fun l u w C => ⟨fun h X hX => h (fun i150 => X [.int .i64 i150]) fun i150 w hb => hX [.int .i64 i150] w hb, fun h X hX => h (fun l w => X (pInt (nv l 0)) w) fun l w hb => hX (pInt (nv l 0)) w hb⟩)

def T_law14_AdminNone (x1 : Array Value) (x2 x3 x4 x5 : Int) (s6 s7 s8 : ByteArray) (s9a : Option Addr) (s9l s9c : Nat) (w : World) (R : ERP) : Prop :=
  let w10 := w.alloc (.cells x1 36)
  let w11 := w10.alloc (.cells #[.int .i64 x2, .int .i64 x3, .int .i64 x4, .int .i64 x5, .string s6, .string s7, .string s8, .slice s9a s9l s9c] 25)
  ∃ x12 : Int, rd w11 ((⟨w.heap.size, 0, none⟩ : Addr).add 1) (.int .i64 x12) ∧ ∃ (b13 : Bool) (x14 x15 x16 x17 : Int) (s18 s19 s20 : ByteArray) (s21a : Option Addr) (s21l s21c : Nat), rd w11 ((⟨w.heap.size, 0, none⟩ : Addr).add 4) (.agg #[.bool b13, .int .i64 x14, .int .i64 x15, .int .i64 x16, .int .i64 x17, .string s18, .string s19, .string s20, .slice s21a s21l s21c]) ∧ Calls Tryz.prog 4 #[.pointer none, .int .i64 x12, .agg #[.bool b13, .int .i64 x14, .int .i64 x15, .int .i64 x16, .int .i64 x17, .string s18, .string s19, .string s20, .slice s21a s21l s21c]] w11 (ret (fun r22 w23 => ∃ (x24 x25 : Int), r22 = .tuple #[.int .i64 x24, .int .i64 x25] ∧ ∃ x26 : Int, rd w23 ((⟨w.heap.size, 0, none⟩ : Addr).add 2) (.int .i64 x26) ∧ ∃ x27 : Int, rd w23 ((⟨w.heap.size, 0, none⟩ : Addr).add 3) (.int .i64 x27) ∧ Calls Tryz.prog 5 #[.pointer none, .int .i64 x26, .int .i64 x27] w23 (ret (fun r28 w29 => ∃ (x30 x31 : Int), r28 = .tuple #[.int .i64 x30, .int .i64 x31] ∧ T_law14_AdminNone_1 (⟨w.heap.size, 0, none⟩ : Addr) none x24 x25 x30 x31 w29 (fun b68 w69 => if b68 = true then (R (.returned (.bool false)) w69) else (Calls Tryz.prog 12 #[.int .i64 1, .int .i64 65536] w69 (ret (fun r70 w71 => ∃ (p72 : Option Addr) (x73 : Int), r70 = .tuple #[.pointer p72, .int .i64 x73] ∧ T_law14_AdminNone_2 (⟨w10.heap.size, 0, none⟩ : Addr) p72 x73 w71 (fun b90 w91 => if b90 = true then (T_law14_AdminNone_3 x73 w91 (fun b98 w99 => R (.returned (.bool b98)) w99) (pan R)) else (∃ (x100 x101 x102 x103 : Int) (s104 s105 s106 : ByteArray) (s107a : Option Addr) (s107l s107c : Nat), rd w91 (⟨w10.heap.size, 0, none⟩ : Addr) (.agg #[.int .i64 x100, .int .i64 x101, .int .i64 x102, .int .i64 x103, .string s104, .string s105, .string s106, .slice s107a s107l s107c]) ∧ let w108 := w91.alloc (.cells #[.int .i64 0, .int .i64 0, .int .i64 0, .int .i64 0, .string (ByteArray.mk #[]), .string (ByteArray.mk #[]), .string (ByteArray.mk #[]), .slice none 0 0] 25)
  (.agg #[.int .i64 x100, .int .i64 x101, .int .i64 x102, .int .i64 x103, .string s104, .string s105, .string s106, .slice s107a s107l s107c] : Value).cells.size = 8 ∧ wrOk w108 (⟨w91.heap.size, 0, none⟩ : Addr) (.agg #[.int .i64 x100, .int .i64 x101, .int .i64 x102, .int .i64 x103, .string s104, .string s105, .string s106, .slice s107a s107l s107c]) ∧ let w109 := wr w108 (⟨w91.heap.size, 0, none⟩ : Addr) (.agg #[.int .i64 x100, .int .i64 x101, .int .i64 x102, .int .i64 x103, .string s104, .string s105, .string s106, .slice s107a s107l s107c])
  let w110 := w109.alloc (.cells #[] 64)
  ∃ (s111a : Option Addr) (s111l s111c : Nat), rd w110 ((⟨w10.heap.size, 0, none⟩ : Addr).add 7) (.slice s111a s111l s111c) ∧ runV Tryz.prog (Builtin.append_ #[23, 23] 23 #[.slice (some ⟨w109.heap.size, 0, none⟩) 0 0, .slice s111a s111l s111c]) w110 (fun r112 w113 => ∃ (s114a : Option Addr) (s114l s114c : Nat), r112 = .slice s114a s114l s114c ∧ (.slice s114a s114l s114c : Value).cells.size = 1 ∧ wrOk w113 ((⟨w91.heap.size, 0, none⟩ : Addr).add 7) (.slice s114a s114l s114c) ∧ let w115 := wr w113 ((⟨w91.heap.size, 0, none⟩ : Addr).add 7) (.slice s114a s114l s114c)
  ∃ (x116 x117 x118 x119 : Int) (s120 s121 s122 : ByteArray) (s123a : Option Addr) (s123l s123c : Nat), rd w115 (⟨w91.heap.size, 0, none⟩ : Addr) (.agg #[.int .i64 x116, .int .i64 x117, .int .i64 x118, .int .i64 x119, .string s120, .string s121, .string s122, .slice s123a s123l s123c]) ∧ Calls Tryz.prog 4 #[.pointer p72, .int .i64 5, .agg #[.bool false, .int .i64 x116, .int .i64 x117, .int .i64 x118, .int .i64 x119, .string s120, .string s121, .string s122, .slice s123a s123l s123c]] w115 (ret (fun r124 w125 => ∃ (x126 x127 : Int), r124 = .tuple #[.int .i64 x126, .int .i64 x127] ∧ T_law14_AdminNone_4 0 (⟨w91.heap.size, 0, none⟩ : Addr) w125 (fun w134 => if ((x127 : Int) != 0) = true then (T_law14_AdminNone_5 p72 x126 w134 (fun b145 w146 => R (.returned (.bool b145)) w146) (pan R)) else (Calls Tryz.prog 7 #[.pointer p72] w134 (ret (fun r147 w148 => ∃ (s149a : Option Addr) (s149l s149c : Nat), r147 = .slice s149a s149l s149c ∧ T_law14_AdminNone_6 0 s149a s149l s149c w148 (fun w158 => (.int .i64 5 : Value).cells.size = 1 ∧ wrOk w158 ((⟨w10.heap.size, 0, none⟩ : Addr).add 1) (.int .i64 5) ∧ let w159 := wr w158 ((⟨w10.heap.size, 0, none⟩ : Addr).add 1) (.int .i64 5)
  (.int .i64 1 : Value).cells.size = 1 ∧ wrOk w159 ((⟨w10.heap.size, 0, none⟩ : Addr).add 2) (.int .i64 1) ∧ let w160 := wr w159 ((⟨w10.heap.size, 0, none⟩ : Addr).add 2) (.int .i64 1)
  let w161 := w160.drew
  Calls Tryz.prog 14 #[] w161 (ret (fun r162 w163 => ∃ b164 : Bool, r162 = .bool b164 ∧ (True) ∧ if b164 = true then (if ((s149l : Int) == 1) = true then (∃ (x165 x166 x167 x168 : Int) (s169 s170 s171 : ByteArray) (s172a : Option Addr) (s172l s172c : Nat), rd w163 (⟨w10.heap.size, 0, none⟩ : Addr) (.agg #[.int .i64 x165, .int .i64 x166, .int .i64 x167, .int .i64 x168, .string s169, .string s170, .string s171, .slice s172a s172l s172c]) ∧ Calls Tryz.prog 7 #[.pointer p72] w163 (ret (fun r173 w174 => ∃ (s175a : Option Addr) (s175l s175c : Nat), r173 = .slice s175a s175l s175c ∧ (rd w174 (⟨w10.heap.size, 0, none⟩ : Addr) (.agg #[.int .i64 x165, .int .i64 x166, .int .i64 x167, .int .i64 x168, .string s169, .string s170, .string s171, .slice s172a s172l s172c]) ∧ True) ∧ 0 ≤ (0 : Int) ∧ (0 : Int) < (s175l : Int) ∧ ∃ b176, s175a = some b176 ∧ ∃ (x177 x178 x179 x180 : Int) (s181 s182 s183 : ByteArray) (s184a : Option Addr) (s184l s184c : Nat), rd w174 ((b176.add ((0 : Int).toNat * 17)).add 1) (.agg #[.int .i64 x177, .int .i64 x178, .int .i64 x179, .int .i64 x180, .string s181, .string s182, .string s183, .slice s184a s184l s184c]) ∧ Calls Tryz.prog 15 #[.agg #[.int .i64 x177, .int .i64 x178, .int .i64 x179, .int .i64 x180, .string s181, .string s182, .string s183, .slice s184a s184l s184c], .agg #[.int .i64 x165, .int .i64 x166, .int .i64 x167, .int .i64 x168, .string s169, .string s170, .string s171, .slice s172a s172l s172c]] w174 (ret (fun r185 w186 => ∃ b187 : Bool, r185 = .bool b187 ∧ (True) ∧ R (.returned (.bool b187)) w186) (pan R))) (pan R))) else ((True) ∧ (True) ∧ R (.returned (.bool false)) w163)) else ((True) ∧ (True) ∧ R (.returned (.bool false)) w163)) (pan R))) (pan R)) (pan R)))) (pan R)) (pan R))) (pan R))) (pan R)) (pan R)))) (pan R)) (pan R))) (pan R))

theorem C_law14_AdminNone {x1 : Array Value} {x2 x3 x4 x5 : Int} {s6 s7 s8 : ByteArray} {s9a : Option Addr} {s9l s9c : Nat} (h : T_law14_AdminNone x1 x2 x3 x4 x5 s6 s7 s8 s9a s9l s9c w R) : Calls Tryz.prog 3 #[.agg x1, .agg #[.int .i64 x2, .int .i64 x3, .int .i64 x4, .int .i64 x5, .string s6, .string s7, .string s8, .slice s9a s9l s9c]] w R := cc mixed Tryz.func3 (hA (H := hookAt [(124, H_law14_AdminNone_1), (508, H_law14_AdminNone_2), (2036, H_law14_AdminNone_3), (8189, H_law14_AdminNone_4), (65524, H_law14_AdminNone_5), (65533, H_law14_AdminNone_6)]) (hc T_law14_AdminNone_1_ok (hc T_law14_AdminNone_2_ok (hc T_law14_AdminNone_3_ok (hc T_law14_AdminNone_4_ok (hc T_law14_AdminNone_5_ok (hc T_law14_AdminNone_6_ok hn))))))) h

end Go.Proofs.YtfkiolliegiocaaGreat

/-
  What was asked with is overwritten; what was told is overwritten.
-/
namespace Go.Vc
open Go Go.Proofs Go.Proofs.YtfkiolliegiocaaGreat
set_option maxRecDepth 100000
section
variable {E w : World} {L : List Asrt} {R : Ending → World → Prop} {F G : Fz} {c : Cm.Cmd} {q s o q2 : Sl} {bo g ty : Nat}
theorem Reads.of_own {tg : List Cm.Tgt} : Reads E (tgA q tg :: L) q tg := fun As w h => St.rdS_own (h.perm List.perm_middle)
theorem clob4 {Kn : World → Prop} {Kp : List PanicEntry → World → Prop} {xs : List Value} (h : St E (blkL bo 25 (cmdL c s) :: ownS s.1 s.2.1 s.2.2 64 2 xs :: L) w) (hl : s.2.1 ≤ 1000) (k : ∀ w', St E (blkL bo 25 (cmdL c s) :: L) w' → Kn w') :
    T_law14_AdminNone_4 0 ⟨bo, 0, none⟩ w Kn Kp := by
  unfold T_law14_AdminNone_4
  intro X hX
  have go : ∀ (m j : Nat) (xs : List Value) (w : World), m + j = s.2.1 → St E (blkL bo 25 (cmdL c s) :: ownS s.1 s.2.1 s.2.2 64 2 xs :: L) w → X (j : Int) w := by
    intro m
    induction m with
    | zero =>
      intro j xs w hj h
      refine hX _ _ ?_
      unfold T_law14_AdminNone_4_body
      exact ⟨s.1, s.2.1, s.2.2, rd_fld h.at_blk rfl rfl, ite_d (fun hh => absurd hh (by omega)) fun _ => k _ h.f1.drop⟩
    | succ m ih =>
      intro j xs w hj h
      refine hX _ _ ?_
      unfold T_law14_AdminNone_4_body
      have hx := h.f1.ownS_facts.1
      obtain ⟨ad, had, _, _⟩ := (St.rdS_own h.f1).cells (by omega)
      have hw := h.f1.ownS_set had (i := j * 2) (by omega) (v := .string (ByteArray.mk #[63])) rfl
      refine ⟨s.1, s.2.1, s.2.2, rd_fld h.at_blk rfl rfl, ite_d (fun _ => ⟨s.1, s.2.1, s.2.2, rd_fld h.at_blk rfl rfl, by omega, by omega, ad, had, rfl, ?_, ?_⟩) fun hh => absurd hh (by omega)⟩
      · rw [Int.toNat_natCast]; exact hw.1
      · rw [Int.toNat_natCast, show ((j : Int) + 1) = ((j + 1 : Nat) : Int) from by omega, wrap_nat (n := j + 1) (by omega)]
        exact ih (j + 1) _ _ (by omega) hw.2.f1
  exact go s.2.1 0 xs w rfl h
theorem clob6 {Kn : World → Prop} {Kp : List PanicEntry → World → Prop} {xs : List Value} (ho : o.2.1 = 1) (h : St E (ownS o.1 o.2.1 o.2.2 68 17 (hrL c q2) :: ownS q2.1 q2.2.1 q2.2.2 64 2 xs :: L) w) (hl : q2.2.1 ≤ 1000) (k : ∀ w', St E L w' → Kn w') :
    T_law14_AdminNone_6 0 o.1 o.2.1 o.2.2 w Kn Kp := by
  unfold T_law14_AdminNone_6
  intro X hX
  have go : ∀ (m j : Nat) (xs : List Value) (w : World), m + j = q2.2.1 → St E (ownS o.1 o.2.1 o.2.2 68 17 (hrL c q2) :: ownS q2.1 q2.2.1 q2.2.2 64 2 xs :: L) w → X (j : Int) w := by
    intro m j xs w hj h
    induction m generalizing j xs w with
    | zero =>
      obtain ⟨b, hb, _, _⟩ := (St.rdS_own h).cells (by omega)
      refine hX _ _ ?_
      unfold T_law14_AdminNone_6_body
      exact ⟨by decide, by rw [ho]; decide, b, hb, q2.1, q2.2.1, q2.2.2, (St.rdS_own h).rd_cell hb (i := 8) (by omega) (v := .slice q2.1 q2.2.1 q2.2.2) rfl rfl, ite_d (fun hh => absurd hh (by omega)) fun _ => k _ h.drop.drop⟩
    | succ m ih =>
      obtain ⟨b, hb, _, _⟩ := (St.rdS_own h).cells (by omega)
      have hx := h.f1.ownS_facts.1
      obtain ⟨ad, had, _, _⟩ := (St.rdS_own h.f1).cells (by omega)
      have hw := h.f1.ownS_set had (i := j * 2) (by omega) (v := .string (ByteArray.mk #[33])) rfl
      have hrd := (St.rdS_own h).rd_cell hb (i := 8) (by omega) (v := .slice q2.1 q2.2.1 q2.2.2) rfl rfl
      refine hX _ _ ?_
      unfold T_law14_AdminNone_6_body
      refine ⟨by decide, by rw [ho]; decide, b, hb, q2.1, q2.2.1, q2.2.2, hrd, ite_d (fun _ => ⟨by decide, by rw [ho]; decide, b, hb, q2.1, q2.2.1, q2.2.2, hrd, by omega, by omega, ad, had, rfl, ?_, ?_⟩) fun hh => absurd hh (by omega)⟩
      · rw [Int.toNat_natCast]; exact hw.1
      · rw [Int.toNat_natCast, show ((j : Int) + 1) = ((j + 1 : Nat) : Int) from by omega, wrap_nat (n := j + 1) (by omega)]
        exact ih (j + 1) _ _ (by omega) hw.2.f1
  exact go q2.2.1 0 xs w rfl h
end
end Go.Vc

/-
  A nil desk answers so; what is told is new memory: the walk.
-/
namespace Go.Vc
open Go Go.Proofs Go.Proofs.YtfkiolliegiocaaGreat Go.Ev
set_option maxRecDepth 100000
structure CallI where
  kind : Int
  client : Int
  number : Int
  node : Int
  look : Bool
  cmd : Cm.Cmd
  cq : Sl
  step : List Value
def callL (x : CallI) : List Value := [.int .i64 x.kind, .int .i64 x.client, .int .i64 x.number, .int .i64 x.node] ++ opL x.look x.cmd x.cq ++ x.step
section
variable {E w : World} {L : List Asrt} {R : Ending → World → Prop} {F G : Fz} {c : Cm.Cmd} {q : Sl} {g ty : Nat} {x : CallI}
theorem opL_one {b : Bool} : ∀ u ∈ opL b c q, one u = true := by
  intro u hu
  rcases List.mem_cons.1 hu with rfl | hu
  · rfl
  · exact one_cmdL _ _ _ hu
theorem rd_cop (h : St E (blkL g ty (callL x) :: L) w) : rd w ((⟨g, 0, none⟩ : Addr).add 4) (.agg ⟨opL x.look x.cmd x.cq⟩) := by
  rw [add_mk, Nat.zero_add]
  refine rd_agg (xs := opL x.look x.cmd x.cq) h.at_blk fun i u hu => ?_
  rw [Nat.add_comm]
  show (opL x.look x.cmd x.cq ++ x.step)[i]? = some u
  rw [List.getElem?_append_left (List.getElem?_eq_some_iff.1 hu).1]
  exact hu
theorem rd_cst (h : St E (blkL g ty (callL x) :: L) w) : rd w ((⟨g, 0, none⟩ : Addr).add 13) (.agg ⟨x.step⟩) := by
  rw [add_mk, Nat.zero_add]
  refine rd_agg (xs := x.step) h.at_blk fun i u hu => ?_
  rw [Nat.add_comm]
  exact hu
set_option maxHeartbeats 2000000 in
theorem admin_walk (hst : x.step.length = 17) (h1 : ∀ u ∈ x.step, one u = true) (hr : RdF F q.1 q.2.1 2 (c.tg.flatMap tV)) (hc : okC c) (h : St E (kn F :: L) w) (k : ∀ G w', Fz.le F G → St E (kn G :: L) w' → R (.returned (.bool true)) w') :
    Calls Tryz.prog 3 #[.agg ⟨callL x⟩, cmdV c q] w R := by
  refine C_law14_AdminNone ?_
  unfold T_law14_AdminNone
  intro w10
  have h10 : St E (blkL w.heap.size 36 (callL x) :: kn F :: L) w10 := h.alloc (.cells ⟨callL x⟩ 36)
  clear_value w10
  generalize w.heap.size = bx at *
  intro w11
  have h11 : St E (blkL bx 36 (callL x) :: blkL w10.heap.size 25 (cmdL c q) :: kn F :: L) w11 := (h10.alloc (.cells ⟨cmdL c q⟩ 25)).f1
  clear_value w11
  generalize w10.heap.size = bc at *
  refine ⟨x.client, rd_fld h11.at_blk rfl rfl, x.look, _, _, _, _, _, _, _, _, _, _, rd_cop h11, ?_⟩
  refine same_call (ask_nil x.client (op := opL x.look x.cmd x.cq) rfl opL_one w11) h11 fun w23 h23 => ⟨_, _, rfl, x.number, rd_fld h23.at_blk rfl rfl, x.node, rd_fld h23.at_blk rfl rfl, ?_⟩
  refine same_call (try_nil x.number x.node w23) h23 fun w29 h29 => ⟨_, _, rfl, ?_⟩
  unfold T_law14_AdminNone_1
  refine ite_b (fun hh => absurd hh (by decide)) fun _ => ite_b (fun hh => absurd hh (by decide)) fun _ => ite_b (fun hh => absurd hh (by decide)) fun _ => ite_b (fun hh => absurd hh (by decide)) fun _ => ?_
  refine ⟨⟨x.step⟩, hst, rd_cst h29, same_call (do_nil hst h1 w29) h29 fun w40 h40 => ⟨_, _, _, _, _, _, _, _, _, _, _, _, _, rfl, ite_b (fun hh => absurd hh (by decide)) fun _ => ?_⟩⟩
  refine same_call (hist_nil w40) h40 fun w49 h49 => ⟨_, _, _, rfl, ite_b (fun hh => absurd hh (by decide)) fun _ => ?_⟩
  refine same_call (log_nil w49) h49 fun w52 h52 => ⟨_, _, _, rfl, ite_b (fun hh => absurd hh (by decide)) fun _ => ?_⟩
  refine same_call (lead_nil w52) h52 fun w55 h55 => ⟨_, rfl, ite_b (fun hh => absurd hh (by decide)) fun _ => ?_⟩
  refine ⟨x.node, rd_fld h55.at_blk rfl rfl, same_call (Go.Ev.conf_nil x.node w55) h55 fun w59 h59 => ⟨_, _, _, _, _, _, _, rfl, same_call (Go.Ev.same_nil w59) h59 fun w64 h64 => ⟨_, rfl, ite_b (fun hh => absurd hh (by decide)) fun _ => ?_⟩⟩⟩
  refine New_spec h64.drop fun w72 d m cp h72 => ⟨_, _, rfl, ?_⟩
  unfold T_law14_AdminNone_2
  refine ite_b (fun hh => absurd hh (by decide)) fun _ => ite_some ⟨_, _, _, _, _, _, _, _, _, _, rd_cm h72.f2, short_spec (F := F) (by simp) hr hc h72 fun w87 v hv h87 => ⟨_, rfl, ?_⟩⟩
  cases v with
  | false =>
    refine ite_b (fun _ => ?_) fun hh => by cases hh
    unfold T_law14_AdminNone_3
    exact ite_b (fun _ => same_call (live_true w87) h87 fun w96 h96 => ⟨_, rfl, k F w96 (Fz.le_refl F) h96.drop.drop.drop⟩) fun hh => absurd hh (by decide)
  | true =>
  have hl := hv rfl
  refine ite_b (fun hh => by cases hh) fun _ => ?_
  refine ⟨_, _, _, _, _, _, _, _, _, _, rd_cm h87.f2, ?_⟩
  intro w111
  have h111 : St E (blkL w87.heap.size 25 (cmdL zeroC nl) :: blkL d 75 (deskL cp 0 nl m) :: mapA m encN_ (id : Value → Value) [] :: blkL bc 25 (cmdL c q) :: kn F :: L) w111 := h87.alloc (.cells ⟨cmdL zeroC nl⟩ 25)
  clear_value w111
  generalize w87.heap.size = bo at *
  refine ⟨rfl, wrOk_agg (xs := cmdL c q) h111.at_blk (by simp [cmdL]) (one_cmdL _ _), ?_⟩
  intro w112
  have h112 : St E (blkL bo 25 (cmdL c q) :: blkL d 75 (deskL cp 0 nl m) :: mapA m encN_ (id : Value → Value) [] :: blkL bc 25 (cmdL c q) :: kn F :: L) w112 := h111.wr_agg0 (xs := cmdL c q) rfl
  clear_value w112
  intro w113
  have h113 : St E (tgA (some ⟨w112.heap.size, 0, none⟩, 0, 0) [] :: blkL bo 25 (cmdL c q) :: blkL d 75 (deskL cp 0 nl m) :: mapA m encN_ (id : Value → Value) [] :: blkL bc 25 (cmdL c q) :: kn F :: L) w113 := St.ownS_mk (rest := []) (h112.alloc _) rfl (Nat.le_refl _) (Nat.zero_le _) rfl
  obtain ⟨s', w', hr2, h2⟩ := app_t (c2 := q.2.2) h113 (hr.at h113 (by simp)) (by simp; omega)
  rw [List.nil_append] at h2
  refine ⟨q.1, q.2.1, q.2.2, rd_fld h113.f4.at_blk rfl rfl, runV_ok hr2 ⟨_, _, _, rfl, rfl, wrOk_fld h2.f1.at_blk (by simp [cmdL]) rfl, ?_⟩⟩
  intro w118
  have h118 : St E (blkL bo 25 (cmdL c s') :: tgA s' c.tg :: blkL d 75 (deskL cp 0 nl m) :: mapA m encN_ (id : Value → Value) [] :: blkL bc 25 (cmdL c q) :: kn F :: L) w118 := h2.f1.wr_fld (k := 7) (v := .slice s'.1 s'.2.1 s'.2.2) rfl
  clear_value w118
  have hs' : s'.2.1 ≤ 1000 := by have := (St.rdS_own h118.f1).count tV_len (by decide); omega
  have h119 : St E (blkL d 75 (deskL cp 0 nl m) :: mapA m encN_ (id : Value → Value) [] :: kn F :: blkL bo 25 (cmdL c s') :: tgA s' c.tg :: blkL bc 25 (cmdL c q) :: L) w118 := h118.sel 6 [2, 3, 5, 0, 1, 4] (by simp only [List.length_cons]; omega)
  refine ⟨_, _, _, _, _, _, _, _, _, _, rd_cm h118, Ask_spec (F := F) Reads.of_own.cons hc (by omega) h119 (fun G w128 hG hne h128 => ⟨_, _, rfl, ?_⟩) fun G w128 l rb q' hG he hll hrq h128 => ⟨_, _, rfl, ?_⟩⟩
  · have h129 : St E (blkL bo 25 (cmdL c s') :: ownS s'.1 s'.2.1 s'.2.2 64 2 (c.tg.flatMap tV) :: blkL d 75 (deskL cp 1 nl m) :: kn G :: L) w128 := h128.sel 5 [2, 3, 0, 1] (by simp only [List.length_cons]; omega)
    refine clob4 h129 hs' fun w137 h137 => ?_
    rw [ne_dec]
    refine ite_d (fun _ => ?_) fun hh => absurd hne hh
    unfold T_law14_AdminNone_5
    refine same_call (live_true w137) h137 fun w141 h141 => ⟨_, rfl, ite_b (fun _ => ite_b (fun _ => ?_) fun hh => absurd hh (by decide)) fun hh => by cases hh⟩
    exact hist0_spec h141.f1 ⟨_, _, _, rfl, k G _ hG h141.drop.drop⟩
  · have h129 : St E (blkL bo 25 (cmdL c s') :: ownS s'.1 s'.2.1 s'.2.2 64 2 (c.tg.flatMap tV) :: blkL d 75 (deskL cp 1 l m) :: ownS l.1 l.2.1 l.2.2 77 1 [.pointer (some ⟨rb, 0, none⟩)] :: blkL rb 80 (recL (cA c) q') :: kn G :: blkL bc 25 (cmdL c q) :: L) w128 := h128.sel 7 [4, 5, 0, 1, 2, 3, 6] (by simp only [List.length_cons]; omega)
    refine clob4 h129 hs' fun w137 h137 => ?_
    refine ite_b (fun hh => absurd hh (by decide)) fun _ => ?_
    have h138 := h137.drop
    refine hist1_spec (c := cA c) hrq (show c.tg.length ≤ 1000 by omega) hll h138 fun w152 o q2 ho h152 => ⟨_, _, _, rfl, ?_⟩
    have hq2 : q2.2.1 ≤ 1000 := by have := (St.rdS_own h152.f1).count tV_len (by decide); have e : (cA c).tg.length = c.tg.length := rfl; omega
    refine clob6 (xs := (cA c).tg.flatMap tV) ho h152 hq2 fun w162 h162 => ?_
    have h162b : St E (blkL bc 25 (cmdL c q) :: blkL d 75 (deskL cp 1 l m) :: ownS l.1 l.2.1 l.2.2 77 1 [.pointer (some ⟨rb, 0, none⟩)] :: blkL rb 80 (recL (cA c) q') :: kn G :: L) w162 := h162.sel 5 [4, 0, 1, 2, 3] (by simp only [List.length_cons]; omega)
    refine ⟨rfl, wrOk_fld h162b.at_blk (by simp [cmdL]) rfl, ?_⟩
    intro w163
    have h163 : St E (blkL bc 25 (cmdL { c with client := 5 } q) :: blkL d 75 (deskL cp 1 l m) :: ownS l.1 l.2.1 l.2.2 77 1 [.pointer (some ⟨rb, 0, none⟩)] :: blkL rb 80 (recL (cA c) q') :: kn G :: L) w163 := h162b.wr_fld (k := 1) (v := .int .i64 5) rfl
    refine ⟨rfl, wrOk_fld h163.at_blk (by simp [cmdL]) rfl, ?_⟩
    intro w164
    have h164 : St E (blkL bc 25 (cmdL (cA c) q) :: blkL d 75 (deskL cp 1 l m) :: ownS l.1 l.2.1 l.2.2 77 1 [.pointer (some ⟨rb, 0, none⟩)] :: blkL rb 80 (recL (cA c) q') :: kn G :: L) w164 := h163.wr_fld (k := 2) (v := .int .i64 1) rfl
    intro w165
    have h165 := h164.drew
    refine same_call (live_true w165) h165 fun w167 h167 => ⟨_, rfl, trivial, ite_b (fun _ => ite_b (fun _ => ?_) fun hh => absurd hh (by rw [ho]; decide)) fun hh => by cases hh⟩
    refine ⟨_, _, _, _, _, _, _, _, _, _, rd_cm h167, ?_⟩
    have h168 : St E (blkL d 75 (deskL cp 1 l m) :: ownS l.1 l.2.1 l.2.2 77 1 [.pointer (some ⟨rb, 0, none⟩)] :: blkL rb 80 (recL (cA c) q') :: kn G :: blkL bc 25 (cmdL (cA c) q) :: L) w167 := h167.sel 5 [1, 2, 3, 4, 0] (by simp only [List.length_cons]; omega)
    refine hist1_spec (c := cA c) hrq (show c.tg.length ≤ 1000 by omega) hll h168 fun w178 o2 q3 ho2 h178 => ⟨_, _, _, rfl, ⟨rd_cm (h178.sel 7 [6] (by simp only [List.length_cons]; omega)), trivial⟩, by decide, by rw [ho2]; decide, ?_⟩
    obtain ⟨b3, hb3, hsp, hcl⟩ := (St.rdS_own h178).cells (by omega)
    have h179 : St E (tgA q3 (cA c).tg :: kn G :: ownS o2.1 o2.2.1 o2.2.2 68 17 (hrL (cA c) q3) :: blkL d 75 (deskL cp 1 l m) :: ownS l.1 l.2.1 l.2.2 77 1 [.pointer (some ⟨rb, 0, none⟩)] :: blkL rb 80 (recL (cA c) q') :: blkL bc 25 (cmdL (cA c) q) :: L) w178 := h178.sel 7 [1, 5, 0, 2, 3, 4, 6] (by simp only [List.length_cons]; omega)
    obtain ⟨G2, hG2, h180, r3⟩ := St.freezeT h179
    have hrd : rd w178 ((b3.add (Int.toNat 0 * 17)).add 1) (cmdV (cA c) q3) := by
      intro i u hu
      have hu' : (cmdL (cA c) q3)[i]? = some u := by simpa [Value.cells, cmdV, cmdL] using hu
      obtain ⟨bb, off, sp⟩ := b3
      cases hsp
      have := hcl (1 + i) u (by rw [Nat.add_comm]; show (cmdL (cA c) q3 ++ _)[i]? = some u; rw [List.getElem?_append_left (List.getElem?_eq_some_iff.1 hu').1]; exact hu')
      rw [add_mk] at this ⊢
      rw [add_mk, add_mk]
      simpa [Nat.add_assoc] using this
    refine ⟨b3, hb3, _, _, _, _, _, _, _, _, _, _, hrd, ?_⟩
    exact SameCommand_spec (c1 := cA c) (c2 := cA c) (s1 := q3) (s2 := q) at0 h180 r3 (hr.mono (Fz.le_trans hG hG2)) (by have e : (cA c).tg.length = c.tg.length := rfl; unfold huge; omega) fun w190 h190 => ⟨_, rfl, trivial, congB (k G2 _ (Fz.le_trans hG hG2) (h190.sel 6 [0])) (by simp)⟩
end
end Go.Vc

/-
  A call that came in: what stands in it; the law.
-/
namespace Go.Vc
open Go Go.Proofs Go.Proofs.YtfkiolliegiocaaGreat
set_option maxRecDepth 100000
section
variable {H : Type} {enc : TypeId × Value → H} {W : World}
theorem int_cell {fuel : Nat} {t : TypeId} {k : IntKind} {v : Value} {x : DataW H × List MemPlace} (ht : Tryz.prog.underlying t = some (.int k)) (h : DataW.trod enc Tryz.prog W 0 (fun _ => true) true fuel t [v] = some x) : ∃ n, v = .int k n := by
  obtain ⟨n, e, _⟩ := DataW.trod_int ht h
  simp at e
  exact ⟨n, e⟩
theorem bool_cell {fuel : Nat} {t : TypeId} {v : Value} {x : DataW H × List MemPlace} (ht : Tryz.prog.underlying t = some .bool) (h : DataW.trod enc Tryz.prog W 0 (fun _ => true) true fuel t [v] = some x) : ∃ b, v = .bool b := by
  obtain ⟨n, e, _⟩ := DataW.trod_bool ht h
  simp at e
  exact ⟨n, e⟩
theorem open_op {fuel : Nat} {cs : List Value} {x : DataW H × List MemPlace} (hx : DataW.trod enc Tryz.prog W 0 (fun _ => true) true fuel 27 cs = some x) :
    ∃ (b : Bool) (c : Cm.Cmd) (q : Sl), cs = opL b c q := by
  obtain ⟨xs, m, _, _, hcl, hxl, hfs⟩ := DataW.trod_struct Tryz.underlying27 hx
  rw [show Tryz.prog.cellsOf 27 = 9 by kernel_rfl] at hcl
  have hxl8 : xs.length = 2 := hxl
  have c1 : Tryz.prog.cellsOf 4 = 1 := by kernel_rfl
  have c2 : Tryz.prog.cellsOf 25 = 8 := by kernel_rfl
  match cs, hcl with
  | [v0, v1, v2, v3, v4, v5, v6, v7, v8], _ =>
    have f0 := hfs 0 _ rfl
    have f1 := hfs 1 _ rfl
    simp only [List.getElem_toArray, List.getElem_cons_zero, List.getElem_cons_succ, c1, c2, List.drop_zero, List.drop_succ_cons, List.take_succ_cons, List.take_zero] at f0 f1
    rw [List.getElem?_eq_getElem (by omega)] at f0 f1
    obtain ⟨b, rfl⟩ := bool_cell Tryz.underlying4 f0
    obtain ⟨d, e, _, _⟩ := open_cmd f1
    exact ⟨b, d.1, d.2, by unfold opL; rw [← e]⟩
theorem open_step {fuel : Nat} {cs : List Value} {x : DataW H × List MemPlace} (hx : DataW.trod enc Tryz.prog W 0 (fun _ => true) true fuel 34 cs = some x) :
    cs.length = 17 ∧ ∀ u ∈ cs, one u = true := by
  obtain ⟨xs, m, _, _, hcl, hxl, hfs⟩ := DataW.trod_struct Tryz.underlying34 hx
  rw [show Tryz.prog.cellsOf 34 = 17 by kernel_rfl] at hcl
  have hxl8 : xs.length = 9 := hxl
  have c1 : Tryz.prog.cellsOf 3 = 1 := by kernel_rfl
  have c2 : Tryz.prog.cellsOf 25 = 8 := by kernel_rfl
  have c3 : Tryz.prog.cellsOf 29 = 1 := by kernel_rfl
  have c4 : Tryz.prog.cellsOf 32 = 2 := by kernel_rfl
  have c5 : Tryz.prog.cellsOf 28 = 1 := by kernel_rfl
  have c6 : Tryz.prog.cellsOf 30 = 1 := by kernel_rfl
  refine ⟨hcl, ?_⟩
  match cs, hcl with
  | [v0, v1, v2, v3, v4, v5, v6, v7, v8, v9, v10, v11, v12, v13, v14, v15, v16], _ =>
    have f0 := hfs 0 _ rfl
    have f1 := hfs 1 _ rfl
    have f2 := hfs 2 _ rfl
    have f3 := hfs 3 _ rfl
    have f4 := hfs 4 _ rfl
    have f5 := hfs 5 _ rfl
    have f6 := hfs 6 _ rfl
    have f7 := hfs 7 _ rfl
    have f8 := hfs 8 _ rfl
    simp only [List.getElem_toArray, List.getElem_cons_zero, List.getElem_cons_succ, c1, c2, c3, c4, c5, List.drop_zero, List.drop_succ_cons, List.take_succ_cons, List.take_zero] at f0 f1 f2 f3 f4 f5 f6 f7 f8
    rw [List.getElem?_eq_getElem (by omega)] at f0 f1 f2 f3 f4 f5 f6 f7 f8
    obtain ⟨n0, rfl⟩ := int_cell Tryz.underlying28 f0
    obtain ⟨n1, rfl⟩ := int_cell Tryz.underlying3 f1
    obtain ⟨n2, rfl⟩ := int_cell Tryz.underlying3 f2
    obtain ⟨n3, rfl⟩ := int_cell Tryz.underlying3 f3
    obtain ⟨n4, rfl⟩ := int_cell Tryz.underlying3 f4
    obtain ⟨n5, rfl⟩ := int_cell Tryz.underlying3 f5
    obtain ⟨a6, l6, k6, rfl, _⟩ := sl_of Tryz.underlying29 f6
    obtain ⟨d, e, _, _⟩ := open_cmd f7
    obtain ⟨ys, m4, _, _, _, hyl, hgs⟩ := DataW.trod_struct Tryz.underlying32 f8
    have hyl2 : ys.length = 2 := hyl
    have g0 := hgs 0 _ rfl
    have g1 := hgs 1 _ rfl
    simp only [List.getElem_toArray, List.getElem_cons_zero, List.getElem_cons_succ, c1, c6, List.drop_zero, List.drop_succ_cons, List.take_succ_cons, List.take_zero] at g0 g1
    rw [List.getElem?_eq_getElem (by omega)] at g0 g1
    obtain ⟨n7, rfl⟩ := int_cell Tryz.underlying30 g0
    obtain ⟨n8, rfl⟩ := int_cell Tryz.underlying3 g1
    have hc := one_cmdL d.1 d.2
    rw [← e] at hc
    intro u hu
    simp only [List.mem_cons, List.not_mem_nil, or_false] at hu hc
    rcases hu with rfl | rfl | rfl | rfl | rfl | rfl | rfl | hu
    · rfl
    · rfl
    · rfl
    · rfl
    · rfl
    · rfl
    · rfl
    rcases hu with h | h | h | h | h | h | h | h | rfl | rfl
    · exact hc u (.inl h)
    · exact hc u (.inr (.inl h))
    · exact hc u (.inr (.inr (.inl h)))
    · exact hc u (.inr (.inr (.inr (.inl h))))
    · exact hc u (.inr (.inr (.inr (.inr (.inl h)))))
    · exact hc u (.inr (.inr (.inr (.inr (.inr (.inl h))))))
    · exact hc u (.inr (.inr (.inr (.inr (.inr (.inr (.inl h)))))))
    · exact hc u (.inr (.inr (.inr (.inr (.inr (.inr (.inr h)))))))
    · rfl
    · rfl
theorem open_call {cs : Array Value} {d : DataW H} {ps : List MemPlace} (h : DataW.Trod enc Tryz.prog W 0 (fun _ => true) true 36 (.agg cs) d ps) :
    ∃ x : CallI, cs = ⟨callL x⟩ ∧ x.step.length = 17 ∧ ∀ u ∈ x.step, one u = true := by
  obtain ⟨fuel, hf⟩ := h
  have hf : DataW.trod enc Tryz.prog W 0 (fun _ => true) true fuel 36 cs.toList = some (d, ps) := hf
  obtain ⟨xs, m, _, _, hcl, hxl, hfs⟩ := DataW.trod_struct Tryz.underlying36 hf
  rw [show Tryz.prog.cellsOf 36 = 30 by kernel_rfl] at hcl
  have hxl8 : xs.length = 6 := hxl
  have c1 : Tryz.prog.cellsOf 3 = 1 := by kernel_rfl
  have c2 : Tryz.prog.cellsOf 27 = 9 := by kernel_rfl
  have c3 : Tryz.prog.cellsOf 34 = 17 := by kernel_rfl
  obtain ⟨cl⟩ := cs
  match cl, hcl, hfs with
  | v0 :: v1 :: v2 :: v3 :: r, hcl, hfs =>
    have f0 := hfs 0 _ rfl
    have f1 := hfs 1 _ rfl
    have f2 := hfs 2 _ rfl
    have f3 := hfs 3 _ rfl
    have f4 := hfs 4 _ rfl
    have f5 := hfs 5 _ rfl
    simp only [List.getElem_toArray, List.getElem_cons_zero, List.getElem_cons_succ, c1, c2, c3, List.drop_zero, List.drop_succ_cons, List.take_succ_cons, List.take_zero] at f0 f1 f2 f3 f4 f5
    rw [List.getElem?_eq_getElem (by omega)] at f0 f1 f2 f3 f4 f5
    obtain ⟨n0, rfl⟩ := int_cell Tryz.underlying3 f0
    obtain ⟨n1, rfl⟩ := int_cell Tryz.underlying3 f1
    obtain ⟨n2, rfl⟩ := int_cell Tryz.underlying3 f2
    obtain ⟨n3, rfl⟩ := int_cell Tryz.underlying3 f3
    obtain ⟨b, c, q, e4⟩ := open_op f4
    obtain ⟨hl, h1⟩ := open_step f5
    have hr : r.length = 26 := by simpa using hcl
    have e5 : (r.drop 9).take 17 = r.drop 9 := List.take_of_length_le (by rw [List.length_drop]; omega)
    rw [e5] at hl h1
    refine ⟨⟨n0, n1, n2, n3, b, c, q, r.drop 9⟩, ?_, hl, h1⟩
    unfold callL
    dsimp only
    rw [← e4, List.append_assoc, List.take_append_drop]
    rfl
end
theorem admin_law {H : Type} {enc : TypeId × Value → H} {W : World} {cs ds : Array Value} {d e : DataW H} {ps qs : List MemPlace} (h : DataW.Trod enc Tryz.prog W 0 (fun _ => true) true 36 (.agg cs) d ps) (h' : DataW.Trod enc Tryz.prog W 0 (fun _ => true) true 25 (.agg ds) e qs) :
    Calls Tryz.prog 3 #[.agg cs, .agg ds] W fun e w' => e = .returned (.bool true) ∧ RowKit.Below W.heap.size W w' := by
  obtain ⟨x, rfl, hl, h1⟩ := open_call h
  obtain ⟨c, q, e, hc, hr⟩ := open_one h'
  rw [e]
  exact admin_walk hl h1 hr hc (St.start_kn W) fun G w' hG h' => ⟨rfl, h'.below_kn hG⟩
end Go.Vc
