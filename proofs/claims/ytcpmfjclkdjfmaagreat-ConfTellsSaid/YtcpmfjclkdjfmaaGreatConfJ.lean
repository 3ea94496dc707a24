/-
  The program's store does a command that is right.
-/
import Derived.Test.YtcpmfjclkdjfmaaGreatConfI
namespace Go.Vc
open Go Go.Proofs Go.Proofs.YtcpmfjclkdjfmaaGreat
set_option maxRecDepth 100000
section
variable {E w : World} {L : List Asrt} {R : Ending → World → Prop} {F G : Fz} {p : Nat} {s : Cm.Sm} {c : Cm.Cmd} {q : Sl}
theorem Clone_spec {tg : List Cm.Tgt} (hm : kn F ∈ L) (h : St E L w) (hr : RdF F q.1 q.2.1 2 (tg.flatMap tV)) (hl : tg.length ≤ 1000) (k : ∀ (q' : Sl) w', St E (tgA q' tg :: L) w' → R (.returned (.slice q'.1 q'.2.1 q'.2.2)) w') :
    Calls Tryz.prog 39 #[.slice q.1 q.2.1 q.2.2] w R := by
  have hn := tgs_len hm h hr
  obtain ⟨a, l, cc⟩ := q
  refine C_slices_Clone_api_Target ?_
  unfold T_slices_Clone_api_Target
  cases a with
  | none =>
    have : tg = [] := by
      rcases (hr.at h hm).2 with h0 | ⟨g, off, ha, _⟩
      · exact List.eq_nil_of_length_eq_zero (hn.trans h0)
      · cases ha
    subst this
    exact ite_none (k (none, 0, 0) w h.ownS_nil)
  | some ad =>
    refine ite_some ?_
    intro w2
    have h2 : St E (tgA (some ⟨w.heap.size, 0, none⟩, 0, 0) [] :: L) w2 := St.ownS_mk (rest := []) (h.alloc _) rfl (Nat.le_refl _) (Nat.zero_le _) rfl
    obtain ⟨s', w', hr2, hs⟩ := app_t (c2 := cc) h2 (hr.at h2 (List.mem_cons_of_mem _ hm)) (by simp; omega)
    exact runV_ok hr2 ⟨_, _, _, rfl, k s' w' (by simpa using hs)⟩

abbrev actL (bp bc : Nat) (c : Cm.Cmd) (q : Sl) (L : List Asrt) : List Asrt := blkL bp 89 (celP (c.host, c.pfx)) :: blkL bc 42 (cmdL c q) :: L
theorem act1_spec {bp bc mp mr mc : Nat} {Mp : List (Cm.Bs × PV)} {Mr : List (Pr × Cm.Bs)} {Mc : List (Int × LV)} {b : Bool} {Kn : Bool → World → Prop} {Kp : List PanicEntry → World → Prop} (hp : poolsR F Mp s.pools)
    (h : St E (actL bp bc c q (st4 p s.ver mp mr mc Mp Mr Mc L)) w) (k : Kn (!b && decide (32 ≤ s.pools.length)) w) : T_conf_Store_act_1 (some ⟨p, 0, none⟩) b w Kn Kp := by
  have hl : Mp.length = s.pools.length := by have := hp.2.length_eq; simpa using this
  unfold T_conf_Store_act_1
  refine ite_n (fun hb => ⟨_, rfl, _, rd_fld h.f2.at_blk rfl rfl, runV_ok (lenMap_run und_pools h.f3 _ _ rfl) ⟨_, rfl, cong k ?_⟩⟩) (fun hb => cong k (by simp [hb]))
  rw [hl, hb, Bool.eq_iff_iff]; simp; omega
theorem act3_spec {bp bc mp mr mc : Nat} {Mp : List (Cm.Bs × PV)} {Mr : List (Pr × Cm.Bs)} {Mc : List (Int × LV)} {b : Bool} {Kn : Bool → World → Prop} {Kp : List PanicEntry → World → Prop} (hr : routesR Mr s.routes)
    (h : St E (actL bp bc c q (st4 p s.ver mp mr mc Mp Mr Mc L)) w) (k : Kn (!b && decide (64 ≤ s.routes.length)) w) : T_conf_Store_act_3 (some ⟨p, 0, none⟩) b w Kn Kp := by
  have hl : Mr.length = s.routes.length := by have := List.Perm.length_eq hr; simpa using this
  unfold T_conf_Store_act_3
  refine ite_n (fun hb => ⟨_, rfl, _, rd_fld h.f2.at_blk rfl rfl, runV_ok (lenMap_run und_routes h.f4 _ _ rfl) ⟨_, rfl, cong k ?_⟩⟩) (fun hb => cong k (by simp [hb]))
  rw [hl, hb, Bool.eq_iff_iff]; simp; omega
/-- The walk through the routes: is there one of this pool? -/
theorem act2_spec {bp bc mp mr mc it : Nat} {Mp : List (Cm.Bs × PV)} {Mr : List (Pr × Cm.Bs)} {Mc : List (Int × LV)} {Kn : World → Prop} {Kr : Int → World → Prop} {Kp : List PanicEntry → World → Prop} (hr : routesR Mr s.routes)
    (h : St E (iterA it mr encP encS Mr Mr :: actL bp bc c q (blkL p 79 (stL s.ver mp mr mc) :: mapA mp encS pvV Mp :: mapA mc encI lvV Mc :: L)) w)
    (k1 : Cm.used s c.pool = true → ∀ w', St E (actL bp bc c q (st4 p s.ver mp mr mc Mp Mr Mc L)) w' → Kr 13 w')
    (k2 : Cm.used s c.pool = false → ∀ w', St E (actL bp bc c q (st4 p s.ver mp mr mc Mp Mr Mc L)) w' → Kn w') :
    T_conf_Store_act_2 ⟨bc, 0, none⟩ ⟨it, 0, none⟩ w Kn Kr Kp := by
  unfold T_conf_Store_act_2
  intro X hX
  have fin : ∀ {w : World} {rest : List (Pr × Cm.Bs)}, St E (iterA it mr encP encS Mr rest :: actL bp bc c q (blkL p 79 (stL s.ver mp mr mc) :: mapA mp encS pvV Mp :: mapA mc encI lvV Mc :: L)) w → St E (actL bp bc c q (st4 p s.ver mp mr mc Mp Mr Mc L)) w :=
    fun h => h.iter_done.sel 6 [1, 2, 3, 4, 0, 5]
  have hu : Cm.used s c.pool = Mr.any fun e => decide (e.2 = c.pool) := by
    rw [Bool.eq_iff_iff, List.any_eq_true]
    unfold Cm.used
    rw [List.any_eq_true]
    constructor
    · rintro ⟨r, hr1, hr2⟩
      exact ⟨rtK r, hr.mem_iff.2 (List.mem_map_of_mem hr1), hr2⟩
    · rintro ⟨e, he1, he2⟩
      obtain ⟨r, hr1, rfl⟩ := List.mem_map.1 (hr.mem_iff.1 he1)
      exact ⟨r, hr1, he2⟩
  have key : ∀ (n : Nat) (rest : List (Pr × Cm.Bs)) (w : World), rest.length = n → (∀ e ∈ rest, e ∈ Mr) → (∀ e ∈ Mr, e ∉ rest → e.2 ≠ c.pool) →
      St E (iterA it mr encP encS Mr rest :: actL bp bc c q (blkL p 79 (stL s.ver mp mr mc) :: mapA mp encS pvV Mp :: mapA mc encI lvV Mc :: L)) w → X w := by
    intro n
    induction n with
    | zero =>
      intro rest w hn hin hout h
      have hnil : rest = [] := List.eq_nil_of_length_eq_zero hn
      subst hnil
      refine hX _ ?_
      unfold T_conf_Store_act_2_body
      rcases next_run (P := Tryz.prog) 0 h with ⟨_, hrun⟩ | ⟨r1, e, r2, w', hrest, _⟩
      · refine runV_ok hrun ⟨_, _, rfl, ite_b (fun hh => by cases hh) fun _ => k2 ?_ _ (fin h)⟩
        rw [hu, List.any_eq_false]
        intro e he
        simpa using hout e he (by simp)
      · simp at hrest
    | succ n ih =>
      intro rest w hn hin hout h
      refine hX _ ?_
      unfold T_conf_Store_act_2_body
      rcases next_run (P := Tryz.prog) 0 h with ⟨hnil, hrun⟩ | ⟨r1, e, r2, w', hrest, hrun, h', hent⟩
      · rw [hnil] at hn; cases hn
      · refine runV_ok hrun ⟨_, _, rfl, ite_b (fun _ => ?_) fun hh => by cases hh⟩
        refine runV_ok hent ⟨_, _, rfl, _, rfl, _, rd_fld h'.f2.at_blk rfl rfl, ite_b (fun h1 => k1 ?_ _ (fin h')) fun h1 => ?_⟩
        · rw [hu, List.any_eq_true]
          exact ⟨e, hin e (by rw [hrest]; simp), by rw [show ({ data := e.2.toArray } : ByteArray) = bs e.2 from rfl, str_beq] at h1; exact h1⟩
        · rw [show ({ data := e.2.toArray } : ByteArray) = bs e.2 from rfl, str_beq, decide_eq_false_iff_not] at h1
          refine ih (r1 ++ r2) _ (by rw [hrest] at hn; simp at hn; simp; omega) (fun x hx => hin x (by rw [hrest]; simp only [List.mem_append, List.mem_cons] at hx ⊢; exact hx.elim .inl fun h => .inr (.inr h))) (fun x hx hnx => ?_) h'
          by_cases hxe : x = e
          · rw [hxe]; exact h1
          · exact hout x hx (by rw [hrest]; simp only [List.mem_append, List.mem_cons, not_or] at hnx ⊢; exact ⟨hnx.1, hxe, hnx.2⟩)
  exact key _ Mr w rfl (fun e he => he) (fun e he hn => absurd he hn) h
end
end Go.Vc
