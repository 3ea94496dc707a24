/-
  Rows of targets; targets and commands held against each other.
-/
import Derived.Test.YtcpmfjclkdjfmaaGreatConfC
import Derived.Test.YtcpmfjclkdjfmaaGreatVcEq
namespace Go.Vc
open Go Go.Proofs Go.Proofs.YtcpmfjclkdjfmaaGreat
set_option maxRecDepth 100000
section
variable {E w : World} {L : List Asrt} {R : Ending → World → Prop} {F : Fz}
def tgA (s : Sl) (l : List Cm.Tgt) : Asrt := ownS s.1 s.2.1 s.2.2 64 2 (l.flatMap tV)
theorem app_t {s : Sl} {a2 : Option Addr} {l2 c2 : Nat} {xs ys : List Cm.Tgt} (h : St E (tgA s xs :: L) w) (hro : RdS w a2 l2 2 (ys.flatMap tV)) (hb : xs.length + ys.length ≤ 1000000) :
    ∃ (s' : Sl) (w' : World), (Builtin.append_ #[32, 32] 32 #[.slice s.1 s.2.1 s.2.2, .slice a2 l2 c2]).run Tryz.prog w = .ok (.slice s'.1 s'.2.1 s'.2.2) w' ∧ St E (tgA s' (xs ++ ys) :: L) w' := by
  have hl : xs.length = s.2.1 := h.rdS_own.count tV_len (by decide)
  have hl2 : ys.length = l2 := hro.count tV_len (by decide)
  obtain ⟨a', c', w', hr, hs⟩ := append_own (P := Tryz.prog) (t := 32) (ty := 32) (e := 64) (i := Tryz.t64) (z := .agg #[.string (ByteArray.mk #[]), .float .f64 0]) (by kernel_rfl) (by kernel_rfl) (by kernel_rfl) (by kernel_rfl) (by decide) (c2 := c2) h hro (tV_one ys)
    (by have : Tryz.t64.bytes = 24 := by kernel_rfl
        rw [this]; omega) (by unfold maxLen; omega)
  rw [show Tryz.t64.size = 2 from by kernel_rfl, ← List.flatMap_append] at hs
  exact ⟨(a', s.2.1 + l2, c'), w', hr, hs⟩
theorem app_t1 {s : Sl} {xs : List Cm.Tgt} {t : Cm.Tgt} (h : St E (tgA s xs :: L) w) (hb : xs.length + 1 ≤ 1000000) :
    ∃ (s' : Sl) (w' : World), (Builtin.append_ #[32, 32] 32 #[.slice s.1 s.2.1 s.2.2, .slice (some ⟨w.heap.size, 0, none⟩) 1 1]).run Tryz.prog (w.alloc (.cells #[.string (bs t.addr), .float .f64 t.w] 64)) = .ok (.slice s'.1 s'.2.1 s'.2.2) w' ∧ St E (tgA s' (xs ++ [t]) :: L) w' := by
  have h2 : St E (tgA (some ⟨w.heap.size, 0, none⟩, 1, 1) [t] :: tgA s xs :: L) (w.alloc (.cells #[.string (bs t.addr), .float .f64 t.w] 64)) :=
    (St.ownS_mk (xs := [t].flatMap tV) (rest := []) (l := 1) (c := 1) (sz := 2) (h.alloc _) rfl (Nat.le_refl _) (by decide) rfl :)
  obtain ⟨s', w', hr, hs⟩ := app_t (c2 := 1) h2.f1 (St.rdS_own h2) (by simpa using hb)
  exact ⟨s', w', hr, hs.f1.drop⟩
def zeroC : Cm.Cmd := ⟨0, 0, 0, 0, [], [], [], []⟩
def shortTs (l : List Cm.Tgt) : Prop := l.length ≤ 16 ∧ ∀ t ∈ l, t.addr.length ≤ 128 ∧ t.w < two64
theorem shortTs.ok {l : List Cm.Tgt} (h : shortTs l) : okTs l := ⟨by have := h.1; unfold huge; omega, fun t ht => ⟨by have := (h.2 t ht).1; unfold huge; omega, (h.2 t ht).2⟩⟩
theorem one_cmdL (c : Cm.Cmd) (s : Sl) : ∀ u ∈ cmdL c s, one u = true := by
  intro u hu
  simp only [cmdL, List.mem_cons, List.not_mem_nil, or_false] at hu
  rcases hu with rfl | rfl | rfl | rfl | rfl | rfl | rfl | rfl <;> rfl
theorem St.freezeT {s : Sl} {l : List Cm.Tgt} (h : St E (tgA s l :: kn F :: L) w) : ∃ G, Fz.le F G ∧ St E (kn G :: L) w ∧ RdF G s.1 s.2.1 2 (l.flatMap tV) := h.freezeS
theorem cell8 (c : Cm.Cmd) (s : Sl) : (cmdL c s).length = 8 := rfl
/-! ### the same -/
theorem str_beq (a b : Cm.Bs) : ((bs a).toList == (bs b).toList) = decide (a = b) := by
  rw [bs_toList, bs_toList, Bool.eq_iff_iff]; simp
theorem drop_step {α : Type} [DecidableEq α] {l1 l2 : List α} {j : Nat} (h1 : j < l1.length) (h2 : j < l2.length) : decide (l1.drop j = l2.drop j) = (decide (l1[j] = l2[j]) && decide (l1.drop (j + 1) = l2.drop (j + 1))) := by
  rw [List.drop_eq_getElem_cons h1, List.drop_eq_getElem_cons h2, Bool.eq_iff_iff, Bool.and_eq_true, decide_eq_true_eq, decide_eq_true_eq, decide_eq_true_eq, List.cons.injEq]
theorem SameTargets_spec {s1 s2 : Sl} {l1 l2 : List Cm.Tgt} (hm : kn F ∈ L) (h : St E L w) (r1 : RdF F s1.1 s1.2.1 2 (l1.flatMap tV)) (r2 : RdF F s2.1 s2.2.1 2 (l2.flatMap tV)) (hl : l1.length ≤ huge)
    (k : ∀ w', St E L w' → R (.returned (.bool (decide (l1 = l2)))) w') : Calls Tryz.prog 42 #[.slice s1.1 s1.2.1 s1.2.2, .slice s2.1 s2.2.1 s2.2.2] w R := by
  have n1 := tgs_len hm h r1
  have n2 := tgs_len hm h r2
  refine C_ref08_SameTargets ?_
  unfold T_ref08_SameTargets
  rw [← n1, ← n2, ne_dec]
  refine ite_d (fun hh => congB (k w h) ?_) fun hh => ?_
  · rw [decide_eq_false_iff_not]; rintro rfl; exact hh rfl
  have hll : l1.length = l2.length := by simp at hh; omega
  unfold T_ref08_SameTargets_1
  intro X hX
  refine up_to l1.length (Q := fun j => ∀ w, St E L w → decide (l1 = l2) = decide (l1.drop j = l2.drop j) → X (j : Int) w) ?_ w h rfl
  intro j hj ih w h he
  refine hX _ _ ?_
  unfold T_ref08_SameTargets_1_body
  refine ite_d (fun hc => ?_) fun hc => ?_
  · have hj1 : j < l1.length := by omega
    have hj2 : j < l2.length := by omega
    rw [drop_step hj1 hj2] at he
    intro w6
    have h6 := h.drew
    obtain ⟨a1, e1, _, d1⟩ := (r1.at h6 hm).elem tV_len (List.getElem?_eq_getElem hj1) (by decide)
    obtain ⟨a2, e2, _, d2⟩ := (r2.at h6 hm).elem tV_len (List.getElem?_eq_getElem hj2) (by decide)
    refine ⟨by omega, by omega, a1, e1, _, by rw [Int.toNat_natCast]; exact d1 0 _ rfl rfl, by omega, by omega, a2, e2, _, by rw [Int.toNat_natCast]; exact d2 0 _ rfl rfl, ?_⟩
    rw [str_beq]
    refine ite_n (fun h1 => ⟨trivial, trivial, congB (k _ h6) ?_⟩) fun h1 => ⟨by omega, by omega, a1, e1, _, by rw [Int.toNat_natCast]; exact d1 1 _ rfl rfl, by omega, by omega, a2, e2, _, by rw [Int.toNat_natCast]; exact d2 1 _ rfl rfl, runV_ok run_fbits ⟨_, rfl, ⟨by rw [Int.toNat_natCast]; exact d2 1 _ rfl rfl, trivial⟩, runV_ok run_fbits ⟨_, rfl, trivial, ?_⟩⟩⟩
    · rw [he, Bool.and_eq_false_iff]; refine .inl (decide_eq_false fun e => ?_)
      rw [e] at h1; simp at h1
    · rw [ne_dec]
      refine ite_d (fun h2 => congB (k _ h6) ?_) fun h2 => ?_
      · rw [he, Bool.and_eq_false_iff]; refine .inl (decide_eq_false fun e => ?_)
        rw [e] at h2; exact h2 rfl
      · rw [succ_huge (by omega)]
        refine ih hj1 _ h6 ?_
        rw [he]
        have e : l1[j] = l2[j] := by
          have h1' : l1[j].addr = l2[j].addr := by simpa using h1
          have h2' : l1[j].w = l2[j].w := by simp at h2; omega
          cases hh1 : l1[j]; cases hh2 : l2[j]; simp_all
        rw [decide_eq_true e, Bool.true_and]
  · have : j = l1.length := by omega
    subst this
    rw [List.drop_length, List.drop_of_length_le (by omega)] at he
    exact congB (k w h) (by rw [he]; rfl)
theorem SameCommand_spec {c1 c2 : Cm.Cmd} {s1 s2 : Sl} (hm : kn F ∈ L) (h : St E L w) (r1 : RdF F s1.1 s1.2.1 2 (c1.tg.flatMap tV)) (r2 : RdF F s2.1 s2.2.1 2 (c2.tg.flatMap tV)) (hl : c1.tg.length ≤ huge)
    (k : ∀ w', St E L w' → R (.returned (.bool (decide (c1 = c2)))) w') : Calls Tryz.prog 32 #[cmdV c1 s1, cmdV c2 s2] w R := by
  refine C_ref08_SameCommand ?_
  unfold T_ref08_SameCommand
  intro w17 w18
  have h17 : St E (blkL w.heap.size 42 (cmdL c1 s1) :: L) w17 := h.alloc (.cells ⟨cmdL c1 s1⟩ 42)
  have h18 : St E (blkL w17.heap.size 42 (cmdL c2 s2) :: blkL w.heap.size 42 (cmdL c1 s1) :: L) w18 := h17.alloc (.cells ⟨cmdL c2 s2⟩ 42)
  have fin : ∀ w' (v : Bool), St E L w' → decide (c1 = c2) = v → R (.returned (.bool v)) w' := fun w' v h' e => e ▸ k w' h'
  have no : ∀ w', St E L w' → ¬ c1 = c2 → R (.returned (.bool false)) w' := fun w' h' e => fin w' _ h' (decide_eq_false e)
  have a1 := h18.f1.at_blk
  have a2 := h18.at_blk
  simp -zeta only [eq_dec]
  refine ⟨_, rd_cell a1 rfl rfl, _, rd_cell a2 rfl rfl, ite_d (fun e1 => ⟨_, rd_fld a1 rfl rfl, _, rd_fld a2 rfl rfl, ite_d (fun e2 => ⟨_, rd_fld a1 rfl rfl, _, rd_fld a2 rfl rfl, ite_d (fun e3 => ⟨_, rd_fld a1 rfl rfl, _, rd_fld a2 rfl rfl, ite_d (fun e4 => ⟨_, rd_fld a1 rfl rfl, _, rd_fld a2 rfl rfl, ?_⟩) fun hh => no _ h18.drop.drop fun e => hh (by rw [e])⟩) fun hh => no _ h18.drop.drop fun e => hh (by rw [e])⟩) fun hh => no _ h18.drop.drop fun e => hh (by rw [e])⟩) fun hh => no _ h18.drop.drop fun e => hh (by rw [e])⟩
  rw [str_beq]
  refine ite_d (fun e5 => ⟨_, rd_fld a1 rfl rfl, _, rd_fld a2 rfl rfl, ?_⟩) fun hh => no _ h18.drop.drop fun e => hh (by rw [e])
  rw [str_beq]
  refine ite_d (fun e6 => ⟨_, rd_fld a1 rfl rfl, _, rd_fld a2 rfl rfl, ?_⟩) fun hh => no _ h18.drop.drop fun e => hh (by rw [e])
  rw [str_beq]
  refine ite_d (fun e7 => ⟨_, _, _, rd_fld a1 rfl rfl, _, _, _, rd_fld a2 rfl rfl, SameTargets_spec (F := F) (List.mem_cons_of_mem _ (List.mem_cons_of_mem _ hm)) h18 r1 r2 hl fun w' h' => ⟨_, rfl, fin _ _ h'.drop.drop ?_⟩⟩) fun hh => no _ h18.drop.drop fun e => hh (by rw [e])
  cases c1; cases c2
  simp only at e1 e2 e3 e4 e5 e6 e7
  subst e1; subst e2; subst e3; subst e4; subst e5; subst e6; subst e7
  simp
end
end Go.Vc
