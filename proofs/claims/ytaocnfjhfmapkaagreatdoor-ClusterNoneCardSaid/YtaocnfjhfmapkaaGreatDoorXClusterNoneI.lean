/-
  Texts of this claim's own, laid into one: ClusGo.
-/
import Derived.Test.YtaocnfjhfmapkaaGreatDoorXClusterNoneA
import Derived.Test.YtaocnfjhfmapkaaGreatDoorXClusterNoneB
import Derived.Test.YtaocnfjhfmapkaaGreatDoorXClusterNoneC
import Derived.Test.YtaocnfjhfmapkaaGreatDoorXClusterNoneD
import Derived.Test.YtaocnfjhfmapkaaGreatDoorXClusterNoneE
import Derived.Test.YtaocnfjhfmapkaaGreatDoorXClusterNoneF
import Derived.Test.YtaocnfjhfmapkaaGreatDoorXClusterNoneG
import Derived.Test.YtaocnfjhfmapkaaGreatDoorXClusterNoneH
set_option linter.all false
/-
  A new cluster of two nodes beside what was there, and one step of it.
-/
namespace Go.Ev
open Go Go.Vc Go.RowKit Go.Proofs.YtaocnfjhfmapkaaGreatDoor Go.Proofs
set_option maxRecDepth 1000000
theorem knew_run : goK (fun σ x => eqR σ (.tuple ⟨[k1, .int .i64 0]⟩) x) (kS 0) (kT 0) (callN ⟨Tryz.prog, tyT Tryz.prog, fs0⟩ 100 5 [.int .i64 2, .int .i64 4000] m0) = true := by kernel_rfl
theorem knew_takes : takes (fun i => i) (kS 0) (mOf (kS 0) (kS 0).length).t = true := by kernel_rfl
def isCM : AO → Bool
  | .cells _ _ _ _ => true
  | .map _ _ _ => true
  | _ => false
theorem kS_cm : ((kS 0).tail.all isCM) = true := by kernel_rfl
theorem kS_eq : kS 0 = .frm 0 :: (kS 0).tail := by kernel_rfl
section
variable [Tops] {E E' w : World} {L : List Asrt} {R : Ending → World → Prop} {φ : Phi}
theorem Own.OA_ {o : AO} (h : isCM o = true) : Own (OA E φ o) := by
  cases o with
  | cells i t z cs =>
    intro x ⟨b, δ, ys, rest, h1, h2, h3, h4, h5, hA⟩
    obtain ⟨x', hA', hp⟩ := Own.blk_ (b := b) (o := .cells ⟨ys ++ rest⟩ t (0, 0)) x hA
    exact ⟨x', ⟨b, δ, ys, rest, h1, h2, h3, h4, h5, hA'⟩, hp⟩
  | map i kd es =>
    intro x ⟨b, δ, h1, hA⟩
    cases kd with
    | int k => obtain ⟨m, m', hm, h2⟩ := hA; obtain ⟨x', hA', hp⟩ := own_mapA x hm; exact ⟨x', ⟨b, δ, h1, m, m', hA', h2⟩, hp⟩
    | str => obtain ⟨m, m', hm, h2⟩ := hA; obtain ⟨x', hA', hp⟩ := own_mapA x hm; exact ⟨x', ⟨b, δ, h1, m, m', hA', h2⟩, hp⟩
    | int2 k => obtain ⟨m, m', hm, h2⟩ := hA; obtain ⟨x', hA', hp⟩ := own_mapA x hm; exact ⟨x', ⟨b, δ, h1, m, m', hA', h2⟩, hp⟩
    | str2 => obtain ⟨m, m', hm, h2⟩ := hA; obtain ⟨x', hA', hp⟩ := own_mapA x hm; exact ⟨x', ⟨b, δ, h1, m, m', hA', h2⟩, hp⟩
  | walk => cases h
  | iter => cases h
  | frm => cases h
theorem OA_E {o : AO} (h : isCM o = true) : OA E φ o = OA E' φ o := by
  cases o with
  | cells => rfl
  | map => rfl
  | walk => cases h
  | iter => cases h
  | frm => cases h
abbrev kL (E : World) (φ : Phi) : List Asrt := (kS 0).tail.map (OA E φ)
theorem knew_spec (h : St E L w) (k : ∀ (w' : World) (φ : Phi) (b δ : Nat), φ 1 = some (b, δ) → (∀ i, (kS 0).length ≤ i → φ i = none) → St E (kL E φ ++ L) w' → R (.returned (.tuple #[.pointer (some ⟨b, 0, none⟩), .int .i64 0])) w') :
    Calls Tryz.prog 5 #[.int .i64 2, .int .i64 4000] w R := by
  refine (goK_ok (P := Tryz.prog) mixed (fs_fine w) knew_run (by kernel_rfl) (vs := [.int .i64 2, .int .i64 4000]) (.cons (.flat rfl) (.cons (.flat rfl) .nil)) (HR.start w)).mono fun e w2 ⟨u, he, x, ψ, σ, _, hx, hu, hr⟩ => ?_
  subst he
  obtain ⟨ds, rfl, kd⟩ := (eqR_ok hx hu).tup_
  cases kd with | cons k1 kd => cases kd with | cons k2 kd => cases kd with | nil =>
  obtain ⟨b, δ, h1, _, rfl⟩ := k1.ptr_
  rw [k2.flat_eq rfl]
  have a := takes_st (H := []) (kS 0) _ knew_takes hr.st
  rw [kS_eq] at a
  have a : St w (old w :: (kS 0).tail.map (OA w fun i => ψ (σ i))) w2 := a
  have a2 := a.perm (List.perm_append_comm (l₁ := [old w]) (l₂ := (kS 0).tail.map (OA w fun i => ψ (σ i))))
  have g := Go.Ev.St.glue (As := (kS 0).tail.map (OA w fun i => ψ (σ i))) (fun A hA => by
    obtain ⟨o, ho, rfl⟩ := List.mem_map.1 hA
    exact Own.OA_ (List.all_eq_true.1 kS_cm o ho)) h a2
  have e : (kS 0).tail.map (OA w fun i => ψ (σ i)) = kL E fun i => ψ (σ i) := List.map_congr_left fun o ho => OA_E (List.all_eq_true.1 kS_cm o ho)
  rw [e] at g
  exact k w2 _ b δ h1 hr.fresh g
end

/-! ### one step -/
def DoC (x : StepI) (e : Int) : Prop := if x.kind = 2 ∨ x.kind = 3 ∨ x.kind = 4 then e = 8 else (x.kind = 5 ∨ x.kind = 6 ∨ x.node = 1 ∨ x.node = 2 ∨ e ≠ 0)
def Ran (x : StepI) : Prop := ∃ (c : Value → Bool) (a b d e f g : Value), okS c a b d e f g = true ∧ (∀ φ, @VRL (stT x) φ (stA a b d e f g) (stepL x)) ∧ ∀ φ v n, c v = true → @VR (stT x) φ v (.int .i64 n) → DoC x n
section
variable {x : StepI} {φ : Phi}
theorem natT {i n : Nat} {m : Int} (h : m = (n : Int)) : @VR (stT x) φ (nX n) (.int .i64 m) := by subst h; exact @VR.flat (stT x) φ _ rfl
theorem loT {i : Nat} {n : Int} (m : Nat) (h : (stepL x)[i]? = some (.int .i64 n)) (hn : in64 n) (hm : n ≤ m)
    (hv : iv (1000 + ((i + 1) * 36893488147419103232 + 0) * 36893488147419103232 + (9223372036854775808 + m)) = some (0, 9223372036854775808 + m) := by kernel_rfl) (he : exId (1000 + ((i + 1) * 36893488147419103232 + 0) * 36893488147419103232 + (9223372036854775808 + m)) = i + 1 := by kernel_rfl) : @VR (stT x) φ (loX i m) (.int .i64 n) :=
  itT h (by have := hn.1; omega) (by omega) hv he
theorem hiT {i : Nat} {n : Int} (m : Nat) (h : (stepL x)[i]? = some (.int .i64 n)) (hn : in64 n) (hm : (m : Int) ≤ n)
    (hv : iv (1000 + ((i + 1) * 36893488147419103232 + (9223372036854775808 + m)) * 36893488147419103232 + 18446744073709551615) = some (9223372036854775808 + m, 18446744073709551615) := by kernel_rfl) (he : exId (1000 + ((i + 1) * 36893488147419103232 + (9223372036854775808 + m)) * 36893488147419103232 + 18446744073709551615) = i + 1 := by kernel_rfl) : @VR (stT x) φ (hiX i m) (.int .i64 n) :=
  itT h (by omega) (by have := hn.2; omega) hv he
theorem ran_of {c : Value → Bool} {a b d e f g : Value} (hx : StepOk x) (h : okS c a b d e f g = true) (ha : ∀ φ, @VR (stT x) φ a (.int .i64 x.kind)) (hb : ∀ φ, @VR (stT x) φ b (.int .i64 x.node)) (hd : ∀ φ, @VR (stT x) φ d (.int .i64 x.to)) (he : ∀ φ, @VR (stT x) φ e (.int .i64 x.at_)) (hf : ∀ φ, @VR (stT x) φ f (.int .i64 x.chd)) (hg : ∀ φ, @VR (stT x) φ g (.int .i64 x.chn))
    (hc : ∀ φ v n, c v = true → @VR (stT x) φ v (.int .i64 n) → DoC x n) : Ran x := ⟨c, a, b, d, e, f, g, h, fun φ => stA_ok hx (ha φ) (hb φ) (hd φ) (he φ) (hf φ) (hg φ), hc⟩
theorem ran (hx : StepOk x) : Ran x := by
  have f1 := fun φ => fullT (φ := φ) (x := x) (i := 1) rfl hx.node
  have f2 := fun φ => fullT (φ := φ) (x := x) (i := 2) rfl hx.to
  have f3 := fun φ => fullT (φ := φ) (x := x) (i := 3) rfl hx.at_
  have f15 := fun φ => fullT (φ := φ) (x := x) (i := 15) rfl hx.chd
  have f16 := fun φ => fullT (φ := φ) (x := x) (i := 16) rfl hx.chn
  have nz : (x.kind ≠ 2 ∧ x.kind ≠ 3 ∧ x.kind ≠ 4) → ∀ φ v n, notZ v = true → @VR (stT x) φ v (.int .i64 n) → DoC x n := fun hk φ v n h hv => by
    unfold DoC
    rw [if_neg (by omega)]
    exact .inr (.inr (.inr (.inr (@notZ_ (stT x) φ v n h hv))))
  have ny : (x.kind ≠ 2 ∧ x.kind ≠ 3 ∧ x.kind ≠ 4) → (x.kind = 5 ∨ x.kind = 6 ∨ x.node = 1 ∨ x.node = 2) → ∀ φ v n, anyE v = true → @VR (stT x) φ v (.int .i64 n) → DoC x n := fun hk hn φ v n _ _ => by
    unfold DoC
    rw [if_neg (by omega)]
    omega
  have rk := run_kind
  simp only [Bool.and_eq_true] at rk
  by_cases k0 : x.kind ≤ 0
  · exact ran_of hx rk.1 (fun φ => loT (i := 0) 0 rfl hx.kind k0) f1 f2 f3 f15 f16 (nz (by omega))
  by_cases k12 : 12 ≤ x.kind
  · exact ran_of hx rk.2 (fun φ => hiT (i := 0) 12 rfl hx.kind k12) f1 f2 f3 f15 f16 (nz (by omega))
  obtain ⟨K, hK⟩ : ∃ K : Nat, x.kind = (K : Int) := ⟨x.kind.toNat, by omega⟩
  have tK := fun φ => natT (φ := φ) (x := x) (i := 0) hK
  by_cases g : K = 2 ∨ K = 3 ∨ K = 4
  · have hr := List.all_eq_true.1 run_gone K (by simp only [List.mem_cons, List.not_mem_nil, or_false]; exact g)
    simp only [Bool.and_eq_true] at hr
    have e8 : ∀ φ v n, isE 8 v = true → @VR (stT x) φ v (.int .i64 n) → DoC x n := fun φ v n h hv => by
      unfold DoC
      rw [if_pos (by omega)]
      exact @isE_ (stT x) φ 8 v n h hv
    by_cases a0 : 0 ≤ x.at_
    · exact ran_of hx hr.2 tK f1 f2 (fun φ => hiT (i := 3) 0 rfl hx.at_ a0) f15 f16 e8
    · exact ran_of hx hr.1 tK f1 f2 (fun φ => itT (i := 3) rfl (by have := hx.at_.1; omega) (by omega)) f15 f16 e8
  by_cases p : K = 5 ∨ K = 6
  · have hr := List.all_eq_true.1 run_part K (by simp only [List.mem_cons, List.not_mem_nil, or_false]; exact p)
    simp only [Bool.and_eq_true] at hr
    have hny := ny (by omega) (by omega)
    by_cases n0 : x.node ≤ 0
    · exact ran_of hx hr.1.1 tK (fun φ => loT (i := 1) 0 rfl hx.node n0) f2 f3 f15 f16 hny
    by_cases n10 : 10 ≤ x.node
    · exact ran_of hx hr.1.2 tK (fun φ => hiT (i := 1) 10 rfl hx.node n10) f2 f3 f15 f16 hny
    obtain ⟨N, hN⟩ : ∃ N : Nat, x.node = (N : Int) := ⟨x.node.toNat, by omega⟩
    have tN := fun φ => natT (φ := φ) (x := x) (i := 0) hN
    have hr2 := List.all_eq_true.1 hr.2 N (by simp only [nine, List.mem_cons, List.not_mem_nil, or_false]; omega)
    simp only [Bool.and_eq_true] at hr2
    by_cases o0 : x.to ≤ 0
    · exact ran_of hx hr2.1.1 tK tN (fun φ => loT (i := 2) 0 rfl hx.to o0) f3 f15 f16 hny
    by_cases o10 : 10 ≤ x.to
    · exact ran_of hx hr2.1.2 tK tN (fun φ => hiT (i := 2) 10 rfl hx.to o10) f3 f15 f16 hny
    obtain ⟨O, hO⟩ : ∃ O : Nat, x.to = (O : Int) := ⟨x.to.toNat, by omega⟩
    exact ran_of hx (List.all_eq_true.1 hr2.2 O (by simp only [nine, List.mem_cons, List.not_mem_nil, or_false]; omega)) tK tN (fun φ => natT (i := 0) hO) f3 f15 f16 hny
  have hk : x.kind ≠ 2 ∧ x.kind ≠ 3 ∧ x.kind ≠ 4 := by omega
  have hn := List.all_eq_true.1 run_node K (by simp only [List.mem_cons, List.not_mem_nil, or_false]; omega)
  simp only [Bool.and_eq_true] at hn
  by_cases n0 : x.node ≤ 0
  · exact ran_of hx hn.1 tK (fun φ => loT (i := 1) 0 rfl hx.node n0) f2 f3 f15 f16 (nz hk)
  by_cases n3 : 3 ≤ x.node
  · exact ran_of hx hn.2 tK (fun φ => hiT (i := 1) 3 rfl hx.node n3) f2 f3 f15 f16 (nz hk)
  obtain ⟨N, hN⟩ : ∃ N : Nat, x.node = (N : Int) := ⟨x.node.toNat, by omega⟩
  have tN := fun φ => natT (φ := φ) (x := x) (i := 0) hN
  have hny := ny hk (by omega)
  have m12 : N ∈ [1, 2] := by simp only [List.mem_cons, List.not_mem_nil, or_false]; omega
  by_cases k10 : K = 10
  · have hr := List.all_eq_true.1 run_refo N m12
    simp only [Bool.and_eq_true] at hr
    subst k10
    by_cases d0 : x.chd ≤ 0
    · exact ran_of hx hr.1.1 tK tN f2 f3 (fun φ => loT (i := 15) 0 rfl hx.chd d0) f16 hny
    by_cases d5 : 5 ≤ x.chd
    · exact ran_of hx hr.1.2 tK tN f2 f3 (fun φ => hiT (i := 15) 5 rfl hx.chd d5) f16 hny
    obtain ⟨D, hD⟩ : ∃ D : Nat, x.chd = (D : Int) := ⟨x.chd.toNat, by omega⟩
    have tD := fun φ => natT (φ := φ) (x := x) (i := 0) hD
    have hr2 := List.all_eq_true.1 hr.2 D (by simp only [List.mem_cons, List.not_mem_nil, or_false]; omega)
    simp only [Bool.and_eq_true] at hr2
    by_cases c0 : x.chn ≤ 0
    · exact ran_of hx hr2.1.1 tK tN f2 f3 tD (fun φ => loT (i := 16) 0 rfl hx.chn c0) hny
    by_cases c10 : 10 ≤ x.chn
    · exact ran_of hx hr2.1.2 tK tN f2 f3 tD (fun φ => hiT (i := 16) 10 rfl hx.chn c10) hny
    by_cases c1 : x.chn = 1
    · exact ran_of hx hr2.2.1 tK tN f2 f3 tD (fun φ => natT (i := 0) (n := 1) c1) hny
    by_cases c2 : x.chn = 2
    · exact ran_of hx hr2.2.2.1 tK tN f2 f3 tD (fun φ => natT (i := 0) (n := 2) c2) hny
    · exact ran_of hx hr2.2.2.2 tK tN f2 f3 tD (fun φ => itT (i := 16) rfl (by omega) (by omega)) hny
  · have hr := List.all_eq_true.1 (List.all_eq_true.1 run_good K (by simp only [List.mem_cons, List.not_mem_nil, or_false]; omega)) N m12
    exact ran_of hx hr tK tN f2 f3 f15 f16 hny
end
end Go.Ev
