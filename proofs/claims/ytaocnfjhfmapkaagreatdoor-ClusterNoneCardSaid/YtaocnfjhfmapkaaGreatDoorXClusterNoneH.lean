/-
  Texts of this claim's own, laid into one: ClusDo.
-/
import Derived.Test.YtaocnfjhfmapkaaGreatDoorXClusterNoneA
import Derived.Test.YtaocnfjhfmapkaaGreatDoorXClusterNoneB
import Derived.Test.YtaocnfjhfmapkaaGreatDoorXClusterNoneC
import Derived.Test.YtaocnfjhfmapkaaGreatDoorXClusterNoneD
import Derived.Test.YtaocnfjhfmapkaaGreatDoorXClusterNoneE
import Derived.Test.YtaocnfjhfmapkaaGreatDoorXClusterNoneF
import Derived.Test.YtaocnfjhfmapkaaGreatDoorXClusterNoneG
set_option linter.all false
/-
  A new cluster of two nodes beside what was there, and one step of it.
-/
namespace Go.Ev
open Go Go.Vc Go.RowKit Go.Proofs.YtaocnfjhfmapkaaGreatDoor Go.Proofs
set_option maxRecDepth 1000000
theorem own_mapA {κ ν : Type} {b : Nat} {kv : κ → Value} {vv : ν → Value} {m : List (κ × ν)} : Own (mapA b kv vv m) := fun h ⟨es, clock, hA, h2⟩ => by
  refine ⟨fun c => if c = b then some (true, .map es clock) else none, ⟨es, clock, by simp, h2⟩, fun c f u hc => ?_⟩
  by_cases e : c = b
  · subst e
    simp at hc
    obtain ⟨rfl, rfl⟩ := hc
    exact ⟨rfl, hA⟩
  · simp [e] at hc
/-! ### a step -/
structure StepI where
  kind : Int
  node : Int
  to : Int
  at_ : Int
  draw : Int
  tag : Int
  keep : Sl
  cmd : Cm.Cmd
  cq : Sl
  chd : Int
  chn : Int
def stepL (x : StepI) : List Value := [.int .i64 x.kind, .int .i64 x.node, .int .i64 x.to, .int .i64 x.at_, .int .i64 x.draw, .int .i64 x.tag, .slice x.keep.1 x.keep.2.1 x.keep.2.2] ++ cmdL x.cmd x.cq ++ [.int .i64 x.chd, .int .i64 x.chn]
def in64 (n : Int) : Prop := -9223372036854775808 ≤ n ∧ n ≤ 9223372036854775807
structure StepOk (x : StepI) : Prop where
  kind : in64 x.kind
  node : in64 x.node
  to : in64 x.to
  at_ : in64 x.at_
  draw : in64 x.draw
  tag : in64 x.tag
  chd : in64 x.chd
  chn : in64 x.chn
theorem one_stepL (x : StepI) : ∀ u ∈ stepL x, one u = true := by
  intro u hu
  unfold stepL cmdL at hu
  simp only [List.cons_append, List.nil_append, List.mem_cons, List.not_mem_nil, or_false] at hu
  rcases hu with rfl | rfl | rfl | rfl | rfl | rfl | rfl | rfl | rfl | rfl | rfl | rfl | rfl | rfl | rfl | rfl | rfl <;> rfl
abbrev stT (x : StepI) : Tops := topsOf fun j => ((stepL x)[j - 1]?).getD .nilFunc
section
variable {x : StepI} {φ : Phi}
theorem stT_ok {i : Nat} {u v : Value} (h : (stepL x)[i]? = some u) (hi : i + 1 < 1000) (hv : @Tops.ok (stT x) (i + 1) v) : v = u := by
  have e : exId (i + 1) = i + 1 := by unfold exId; rw [show Nat.blt (i + 1) 1000 = true by rw [Nat.blt_eq]; exact hi]; rfl
  have := hv.2 (by rw [e]; omega)
  rw [e] at this
  replace this : v = ((stepL x)[i]?).getD .nilFunc := this
  rw [h] at this
  exact this
theorem exT {i : Nat} {v : Value} (h : (stepL x)[i]? = some v) (hi : i + 1 < 1000) : @VR (stT x) φ (eX i) v := by
  have e : exId (i + 1) = i + 1 := by unfold exId; rw [show Nat.blt (i + 1) 1000 = true by rw [Nat.blt_eq]; exact hi]; rfl
  have n : iv (i + 1) = none := by unfold iv; rw [show Nat.blt (i + 1) 1000 = true by rw [Nat.blt_eq]; exact hi]; rfl
  refine @VR.top (stT x) φ (i + 1) v ⟨⟨one_stepL x v (List.mem_of_getElem? h), fun lo hi' e' => by rw [n] at e'; cases e'⟩, fun _ => ?_⟩
  rw [e]
  show v = ((stepL x)[i]?).getD .nilFunc
  rw [h]
  rfl
theorem itT {i lo hi : Nat} {n : Int} (h : (stepL x)[i]? = some (.int .i64 n)) (h1 : (lo : Int) ≤ n + 9223372036854775808) (h2 : n + 9223372036854775808 ≤ (hi : Int))
    (hv : iv (1000 + ((i + 1) * 36893488147419103232 + lo) * 36893488147419103232 + hi) = some (lo, hi) := by kernel_rfl) (he : exId (1000 + ((i + 1) * 36893488147419103232 + lo) * 36893488147419103232 + hi) = i + 1 := by kernel_rfl) : @VR (stT x) φ (iX i lo hi) (.int .i64 n) := by
  refine @VR.top (stT x) φ _ _ ⟨⟨rfl, fun lo' hi' e' => ?_⟩, fun _ => ?_⟩
  · rw [hv] at e'
    injection e' with e'
    injection e' with e1 e2
    subst e1 e2
    exact ⟨n, rfl, h1, h2⟩
  · rw [he]
    show _ = ((stepL x)[i]?).getD .nilFunc
    rw [h]
    rfl
theorem fullT {i : Nat} {n : Int} (h : (stepL x)[i]? = some (.int .i64 n)) (hn : in64 n)
    (hv : iv (1000 + ((i + 1) * 36893488147419103232 + 0) * 36893488147419103232 + 18446744073709551615) = some (0, 18446744073709551615) := by kernel_rfl) (he : exId (1000 + ((i + 1) * 36893488147419103232 + 0) * 36893488147419103232 + 18446744073709551615) = i + 1 := by kernel_rfl) : @VR (stT x) φ (aX i) (.int .i64 n) :=
  itT h (by have := hn.1; omega) (by have := hn.2; omega) hv he
/-- A step as it is told of, its first four cells and the last two in some way. -/
theorem stA_ok {a b c d e f : Value} (hx : StepOk x) (ha : @VR (stT x) φ a (.int .i64 x.kind)) (hb : @VR (stT x) φ b (.int .i64 x.node)) (hc : @VR (stT x) φ c (.int .i64 x.to)) (hd : @VR (stT x) φ d (.int .i64 x.at_)) (he : @VR (stT x) φ e (.int .i64 x.chd)) (hf : @VR (stT x) φ f (.int .i64 x.chn)) :
    @VRL (stT x) φ (stA a b c d e f) (stepL x) := by
  letI : Tops := stT x
  exact .cons ha (.cons hb (.cons hc (.cons hd (.cons (fullT (i := 4) rfl hx.draw) (.cons (fullT (i := 5) rfl hx.tag) (.cons (exT (i := 6) rfl (by decide)) (.cons (exT (i := 7) rfl (by decide)) (.cons (exT (i := 8) rfl (by decide)) (.cons (exT (i := 9) rfl (by decide)) (.cons (exT (i := 10) rfl (by decide)) (.cons (exT (i := 11) rfl (by decide)) (.cons (exT (i := 12) rfl (by decide)) (.cons (exT (i := 13) rfl (by decide)) (.cons (exT (i := 14) rfl (by decide)) (.cons he (.cons hf .nil))))))))))))))))
end

/-! ### what is told -/
section
variable [Tops] {φ : Phi}
theorem intish_ {v u : Value} (h : intish v = true) (hv : VR φ v u) : ∃ n : Int, u = .int .i64 n := by
  unfold intish at h
  split at h
  · rw [hv.int_, isK_eq h]; exact ⟨_, rfl⟩
  · rename_i j
    cases hj : iv j with
    | none => rw [hj] at h; cases h
    | some p =>
      cases hv with
      | flat h => cases h
      | top ht => obtain ⟨n, e, _⟩ := (Tops.base ht).2 p.1 p.2 hj; exact ⟨n, e⟩
  · cases h
theorem sl_any2 {a : Option Addr} {l c : Nat} {v : Value} (k : VR φ (.slice a l c) v) : ∃ a' l' c', v = .slice a' l' c' := by
  cases a with
  | none => exact ⟨_, _, _, k.sl_none⟩
  | some a => rcases k.sl_ with ⟨x, δ, _, ⟨_, rfl⟩ | ⟨_, rfl⟩⟩ | ⟨_, _, _, a', c', rfl⟩ <;> exact ⟨_, _, _, rfl⟩
def ToldV (C : Int → Prop) (u : Value) : Prop := ∃ (e n i t : Int) (s1 s2 s3 : Sl), u = .agg #[.int .i64 e, .int .i64 n, .int .i64 i, .int .i64 t, .slice s1.1 s1.2.1 s1.2.2, .slice s2.1 s2.2.1 s2.2.2, .slice s3.1 s3.2.1 s3.2.2] ∧ C e
theorem tells_ {c : Value → Bool} {C : Int → Prop} {x u : Value} (hC : ∀ (v : Value) (e : Int), c v = true → VR φ v (.int .i64 e) → C e) (h : tellsE c x = true) (hu : VR φ x u) : ToldV C u := by
  unfold tellsE at h
  split at h
  · rename_i a b d e a1 l1 c1 a2 l2 c2 a3 l3 c3
    simp only [Bool.and_eq_true] at h
    obtain ⟨⟨hc, ha⟩, hb, hd, he⟩ := h
    obtain ⟨ds, rfl, k⟩ := hu.agg_
    cases k with | cons q1 k => cases k with | cons q2 k => cases k with | cons q3 k => cases k with | cons q4 k => cases k with | cons q5 k => cases k with | cons q6 k => cases k with | cons q7 k => cases k with | nil =>
    obtain ⟨n1, rfl⟩ := intish_ ha q1
    obtain ⟨n2, rfl⟩ := intish_ hb q2
    obtain ⟨n3, rfl⟩ := intish_ hd q3
    obtain ⟨n4, rfl⟩ := intish_ he q4
    obtain ⟨_, _, _, rfl⟩ := sl_any2 q5
    obtain ⟨_, _, _, rfl⟩ := sl_any2 q6
    obtain ⟨_, _, _, rfl⟩ := sl_any2 q7
    exact ⟨n1, n2, n3, n4, (_, _, _), (_, _, _), (_, _, _), rfl, hC _ _ hc q1⟩
  · cases h
theorem notZ_ (v : Value) (e : Int) (h : notZ v = true) (hv : VR φ v (.int .i64 e)) : e ≠ 0 := by
  unfold notZ at h
  split at h
  · rename_i lo hi hi'
    obtain ⟨n, e', h1, h2⟩ := ivV_ok hi' hv
    injection e' with _ e'
    subst e'
    simp only [Bool.or_eq_true, Nat.blt_eq] at h
    omega
  · cases h
theorem isE_ {n : Nat} (v : Value) (e : Int) (h : isE n v = true) (hv : VR φ v (.int .i64 e)) : e = n := by
  unfold isE at h
  split at h
  · rename_i k m
    simp only [Bool.and_eq_true] at h
    have := hv.int_
    injection this with _ this
    rw [this, Nat.eq_of_beq_eq_true h.2]
    rfl
  · cases h
end
end Go.Ev
