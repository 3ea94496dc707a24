/-
  The law ConfTells.
-/
import Derived.Test.YtcpmfjclkdjfmaaGreatConfCk
import Derived.Test.YtcpmfjclkdjfmaaGreatGTells
namespace Go.Vc
open Go Go.Proofs Go.Proofs.YtcpmfjclkdjfmaaGreat Go.RowKit
set_option maxRecDepth 100000
section
variable {E w : World} {L : List Asrt} {R : Ending → World → Prop} {F G : Fz} {s : Cm.Sm} {c : Cm.Cmd} {q : Sl} {p : Nat} {h pf : Cm.Bs}
theorem doC_zero (hc : Cm.chk c = 0) (hcl : c.client = 0) : Cm.doC s c = ({ (Cm.step s c).1 with ver := Cm.vers (Cm.step s c) }, (Cm.step s c).2, Cm.vers (Cm.step s c)) := by
  unfold Cm.doC
  rw [if_neg (by rw [hc]; simp), if_neg (fun h => by omega), if_neg (fun h => by omega)]
  simp only
  rw [if_neg (by omega)]
theorem doC_err (I : Cm.Inv s) (hcl : c.client = 0) (he : (Cm.doC s c).2.1 ≠ 0) : (Cm.doC s c).1 = s := by
  by_cases hc : Cm.chk c = 0
  · rw [doC_zero hc hcl] at he ⊢
    obtain ⟨_, h2, _, h4, _, _⟩ := Cm.step_keeps I hc
    have he : (Cm.step s c).2 ≠ 0 := he
    have hv : Cm.vers (Cm.step s c) = s.ver := by unfold Cm.vers; rw [if_neg he, h2]
    rw [hv, h4 he]
  · unfold Cm.doC
    rw [if_pos hc]
theorem doC_14 (I : Cm.Inv s) (hcl : c.client = 0) (he : (Cm.doC s c).2.1 = 14) : Cm.chk c = 14 := by
  by_cases hc : Cm.chk c = 0
  · rw [doC_zero hc hcl] at he
    have := (Cm.step_keeps I hc).2.2.2.2.1
    rw [show (Cm.step s c).2 = 14 from he] at this
    cases this
  · unfold Cm.doC at he
    rw [if_pos hc] at he
    exact he
theorem doC_ver (I : Cm.Inv s) (c : Cm.Cmd) : (Cm.doC s c).1.ver ≤ s.ver + 1 := by
  unfold Cm.doC
  by_cases hc : Cm.chk c = 0
  · rw [if_neg (by simpa using hc)]
    split
    · simp only; omega
    · split
      · simp only; omega
      · obtain ⟨_, _, h3⟩ := Cm.vers_ok I hc
        have hv : Cm.vers (Cm.step s c) ≤ s.ver + 1 := by rw [h3]; split <;> omega
        simp only
        split
        · exact hv
        · exact hv
  · rw [if_pos hc]; simp only; omega
theorem chk_route : Cm.chk (routeC h pf [113]) = if (Cm.isHost h && Cm.isPfx pf) = true then 0 else 14 := by
  have a : Cm.argBad (routeC h pf [113]) = false := by unfold Cm.argBad routeC; simp [Cm.usesPool, Cm.usesRoute, Cm.seqOk]
  have q : Cm.isName [113] = true := by kernel_rfl
  have b : Cm.nameBad (routeC h pf [113]) = (!Cm.isHost h || !Cm.isPfx pf) := by unfold Cm.nameBad routeC; simp [Cm.usesPool, Cm.usesRoute, q]
  have d : Cm.chkT (routeC h pf [113]).tg = 0 := by kernel_rfl
  unfold Cm.chk
  rw [a, b, d]
  cases Cm.isHost h <;> cases Cm.isPfx pf <;> rfl
def drC (h pf : Cm.Bs) : Cm.Cmd := ⟨4, 0, 0, -1, h, pf, [], []⟩
theorem chk_drC : Cm.chk (drC h pf) = if (Cm.isHost h && Cm.isPfx pf) = true then 0 else 14 := by
  have a : Cm.argBad (drC h pf) = false := by unfold Cm.argBad drC; simp [Cm.usesPool, Cm.usesRoute, Cm.seqOk]
  have b : Cm.nameBad (drC h pf) = (!Cm.isHost h || !Cm.isPfx pf) := by unfold Cm.nameBad drC; simp [Cm.usesPool, Cm.usesRoute]
  have d : Cm.chkT (drC h pf).tg = 0 := by kernel_rfl
  unfold Cm.chk
  rw [a, b, d]
  cases Cm.isHost h <;> cases Cm.isPfx pf <;> rfl
theorem ok_drC (h1 : h.length ≤ huge) (h2 : pf.length ≤ huge) : okC (drC h pf) := ⟨h1, h2, Nat.zero_le _, Nat.zero_le _, fun t ht => by simp [drC] at ht⟩
theorem step_route (he : (Cm.step s (routeC h pf [113])).2 = 0) : Cm.step s (routeC h pf [113]) = ({ s with routes := Cm.put Cm.rtLt (Cm.butRoute s h pf) ⟨h, pf, [113]⟩ }, 0) := by
  unfold Cm.step at he ⊢
  rw [if_neg (fun hx => absurd hx.1 (by simp [routeC]))] at he ⊢
  split at he
  · cases he
  · rename_i hv
    rw [if_neg hv]
    unfold Cm.act at he ⊢
    rw [if_neg (by simp [routeC]), if_neg (by simp [routeC]), if_pos (show (routeC h pf [113]).act = 3 from rfl)] at he ⊢
    split at he
    · cases he
    · rename_i h1
      rw [if_neg h1]
      split at he
      · cases he
      · rename_i h2
        rw [if_neg h2]
        unfold Cm.fit at he ⊢
        split at he
        · cases he
        · rename_i h3
          rw [if_neg h3]
          rfl
def puR (s : Cm.Sm) (x : Cm.Rt) : Cm.Sm := { s with routes := Cm.put Cm.rtLt (Cm.butRoute s x.host x.pfx) x, ver := s.ver + 1 }
theorem doC_routed (he : (Cm.doC s (routeC h pf [113])).2.1 = 0) : Cm.isHost h = true ∧ Cm.isPfx pf = true ∧ (Cm.doC s (routeC h pf [113])).1 = puR s ⟨h, pf, [113]⟩ := by
  have hc : Cm.chk (routeC h pf [113]) = 0 := by
    by_cases hc : Cm.chk (routeC h pf [113]) = 0
    · exact hc
    · unfold Cm.doC at he
      rw [if_pos hc] at he
      exact he
  rw [doC_zero hc rfl] at he ⊢
  have hst := step_route he
  rw [chk_route] at hc
  rw [hst]
  cases h1 : Cm.isHost h <;> cases h2 : Cm.isPfx pf <;> rw [h1, h2] at hc <;> first | (exact ⟨rfl, rfl, rfl⟩) | (simp at hc)
theorem doC_dropped (I : Cm.Inv s) (h1 : Cm.isHost h = true) (h2 : Cm.isPfx pf = true) (hk : Cm.known s h pf = true) (hv : s.ver ≠ 1099511627776) : Cm.doC s (drC h pf) = ({ s with routes := Cm.butRoute s h pf, ver := s.ver + 1 }, 0, s.ver + 1) := by
  have hst : Cm.step s (drC h pf) = ({ s with routes := Cm.butRoute s h pf }, 0) := by
    unfold Cm.step
    rw [if_neg (fun hx => absurd hx.1 (by simp [drC])), if_neg hv]
    unfold Cm.act
    rw [if_neg (by simp [drC]), if_neg (by simp [drC]), if_neg (by simp [drC])]
    show (if (!Cm.known s h pf) = true then (s, 8) else Cm.fit s { s with routes := Cm.butRoute s h pf }) = _
    rw [hk, if_neg (by simp), Cm.fit_butRoute I]
  rw [doC_zero (by rw [chk_drC, h1, h2]; rfl) rfl, hst]
  rfl
theorem doC_gone (h1 : Cm.isHost h = true) (h2 : Cm.isPfx pf = true) (hk : Cm.known s h pf = false) (hv : s.ver ≠ 1099511627776) : Cm.doC s (drC h pf) = (s, 8, s.ver) := by
  have hst : Cm.step s (drC h pf) = (s, 8) := by
    unfold Cm.step
    rw [if_neg (fun hx => absurd hx.1 (by simp [drC])), if_neg hv]
    unfold Cm.act
    rw [if_neg (by simp [drC]), if_neg (by simp [drC]), if_neg (by simp [drC])]
    show (if (!Cm.known s h pf) = true then (s, 8) else Cm.fit s { s with routes := Cm.butRoute s h pf }) = _
    rw [hk]
    rfl
  rw [doC_zero (by rw [chk_drC, h1, h2]; rfl) rfl, hst]
  rfl
theorem isAt_self (t : Cm.Bs) : Cm.isAt h pf ⟨h, pf, t⟩ = true := by simp [Cm.isAt]
theorem butR_none : (Cm.butRoute s h pf).countP (Cm.isAt h pf) = 0 := by
  refine List.countP_eq_zero.2 fun r hr hx => ?_
  have := (List.mem_filter.1 hr).2
  rw [hx] at this
  cases this
theorem puR_count (t : Cm.Bs) : (puR s ⟨h, pf, t⟩).routes.countP (Cm.isAt h pf) = 1 := by
  have := Cm.put_butR_perm (s := s) ⟨h, pf, t⟩
  show (Cm.put Cm.rtLt (Cm.butRoute s h pf) ⟨h, pf, t⟩).countP (Cm.isAt h pf) = 1
  rw [this.countP_eq, List.countP_cons_of_pos (isAt_self t)]
  have e : (Cm.butRoute s (Cm.Rt.mk h pf t).host (Cm.Rt.mk h pf t).pfx).countP (Cm.isAt h pf) = 0 := butR_none
  rw [e]
theorem puR_mem {t : Cm.Bs} {r : Cm.Rt} (hr : r ∈ (puR s ⟨h, pf, t⟩).routes) : r = ⟨h, pf, t⟩ ∨ r ∈ s.routes ∧ Cm.isAt h pf r = false := by
  have := (Cm.put_butR_perm (s := s) ⟨h, pf, t⟩).mem_iff.1 hr
  rcases List.mem_cons.1 this with h1 | h1
  · exact .inl h1
  · have := List.mem_filter.1 h1
    exact .inr ⟨this.1, by simpa using this.2⟩
theorem puR_known (t : Cm.Bs) : Cm.known (puR s ⟨h, pf, t⟩) h pf = true :=
  List.any_eq_true.2 ⟨_, (Cm.put_butR_perm (s := s) ⟨h, pf, t⟩).mem_iff.2 List.mem_cons_self, isAt_self t⟩
theorem butR_known : Cm.known { s with routes := Cm.butRoute s h pf, ver := s.ver + 1 } h pf = false := by
  unfold Cm.known
  rw [List.any_eq_false]
  intro r hr hx
  have := (List.mem_filter.1 hr).2
  rw [hx] at this
  cases this
theorem butR_length (hc : s.routes.countP (Cm.isAt h pf) = 1) : (Cm.butRoute s h pf).length + 1 = s.routes.length := by
  have h1 := List.length_eq_countP_add_countP (Cm.isAt h pf) (l := s.routes)
  have h2 : (Cm.butRoute s h pf).length = s.routes.countP (fun r => !Cm.isAt h pf r) := by rw [List.countP_eq_length_filter]; rfl
  have h3 : s.routes.countP (fun r => !Cm.isAt h pf r) = s.routes.countP (fun r => decide (¬ Cm.isAt h pf r = true)) := by
    congr 1
    funext r
    cases Cm.isAt h pf r <;> rfl
  omega
theorem any_step2 {α : Type} {g : α → Bool} {l : List α} {j : Nat} (hj : j < l.length) : (l.take (j + 1)).any g = ((l.take j).any g || g l[j]) := by
  rw [List.take_succ_eq_append_getElem hj, List.any_append]; simp
theorem count_step {α : Type} {g : α → Bool} {l : List α} {j : Nat} (hj : j < l.length) : (l.take (j + 1)).countP g = (l.take j).countP g + (if g l[j] = true then 1 else 0) := by
  rw [List.take_succ_eq_append_getElem hj, List.countP_append, List.countP_singleton]
variable {v v2 : Int} {ra pa ra2 pa2 : Sl} {bw bn bx : Nat} {rs rs2 : List Cm.Rt} {x : Cm.Rt}
set_option maxHeartbeats 2000000 in
theorem tells6_spec {Kn : Bool → World → Prop} {Kp : List PanicEntry → World → Prop} (hm : kn F ∈ L) (rr : RdF F ra.1 ra.2.1 3 (rs.flatMap rcV)) (hl : rs.length ≤ 1000)
    (h : St E (blkL bx 36 (rcV x) :: blkL bw 30 (cfgL v ra pa) :: L) w) (k : ∀ w', St E (blkL bx 36 (rcV x) :: blkL bw 30 (cfgL v ra pa) :: L) w' → Kn (rs.any fun y => decide (y = x)) w') :
    T_law08_ConfTells_6 false 0 ⟨bw, 0, none⟩ ⟨bx, 0, none⟩ w Kn Kp := by
  have n1 := rr.count rcV_len (by decide) h (mem2 hm)
  unfold T_law08_ConfTells_6
  intro X hX
  refine up_to rs.length (Q := fun j => ∀ w, St E (blkL bx 36 (rcV x) :: blkL bw 30 (cfgL v ra pa) :: L) w → X ((rs.take j).any fun y => decide (y = x)) (j : Int) w) ?_ w (by simpa using h)
  intro j hj ih w h
  refine hX _ _ _ ?_
  unfold T_law08_ConfTells_6_body
  refine ⟨_, _, _, rd_fld h.f1.at_blk rfl rfl, ?_⟩
  rw [← n1]
  refine ite_d (fun hc => ?_) fun hc => ?_
  · have hjl : j < rs.length := by omega
    have hs := any_step2 (g := fun y : Cm.Rt => decide (y = x)) hjl
    intro w59
    have h59 : St E _ w59 := h.drew
    clear_value w59
    have nx := ih hjl w59 h59
    rw [hs] at nx
    rw [succ_big (by unfold big; omega)]
    refine ite_b (fun h1 => ?_) fun h1 => ?_
    · rw [h1, Bool.true_or] at nx
      exact ⟨trivial, nx⟩
    · rw [h1, Bool.false_or] at nx
      obtain ⟨ad, ha, hg, _⟩ := rt_at (rr.at h59 (mem2 hm)) hjl
      refine ⟨_, _, _, rd_fld h59.f1.at_blk rfl rfl, by omega, by omega, ad, ha, _, _, _, by rw [Int.toNat_natCast]; exact hg, _, _, _, rd_agg (xs := rcV x) h59.at_blk (by intro i u hu; rw [Nat.zero_add]; exact hu), ?_⟩
      exact runV_ok (run_eq_agg (by kernel_rfl) (route_eq rs[j] x)) ⟨_, rfl, trivial, nx⟩
  · rw [List.take_of_length_le (by omega)]
    exact k _ h
set_option maxHeartbeats 2000000 in
theorem tells4_spec {Kn : Int → World → Prop} {Kr : Bool → World → Prop} {Kp : List PanicEntry → World → Prop} (hm : kn F ∈ L) (r1 : RdF F ra.1 ra.2.1 3 (rs.flatMap rcV)) (r2 : RdF F ra2.1 ra2.2.1 3 (rs2.flatMap rcV)) (hl1 : rs.length ≤ 1000) (hl2 : rs2.length ≤ 1000)
    (hat : ∀ r ∈ rs2, Cm.isAt h pf r = true → r.pool = [113]) (hin : ∀ r ∈ rs2, Cm.isAt h pf r = false → r ∈ rs)
    (h0 : St E (blkL bn 30 (cfgL v2 ra2 pa2) :: blkL bw 30 (cfgL v ra pa) :: L) w) (k : ∀ w', St E (blkL bn 30 (cfgL v2 ra2 pa2) :: blkL bw 30 (cfgL v ra pa) :: L) w' → Kn ((rs2.countP (Cm.isAt h pf) : Nat) : Int) w') :
    T_law08_ConfTells_4 0 0 (bs h) (bs pf) ⟨bw, 0, none⟩ ⟨bn, 0, none⟩ w Kn Kr Kp := by
  have n1 := r2.count rcV_len (by decide) h0 (mem2 hm)
  unfold T_law08_ConfTells_4
  intro X hX
  refine up_to rs2.length (Q := fun j => ∀ w, St E (blkL bn 30 (cfgL v2 ra2 pa2) :: blkL bw 30 (cfgL v ra pa) :: L) w → X (((rs2.take j).countP (Cm.isAt h pf) : Nat) : Int) (j : Int) w) ?_ w (by simpa using h0)
  intro j hj ih w h0
  refine hX _ _ _ ?_
  unfold T_law08_ConfTells_4_body
  refine ⟨_, _, _, rd_fld h0.at_blk rfl rfl, ?_⟩
  rw [← n1]
  refine ite_d (fun hc => ?_) fun hc => ?_
  · have hjl : j < rs2.length := by omega
    have hcl : (rs2.take j).countP (Cm.isAt h pf) ≤ j := Nat.le_trans List.countP_le_length (by simp; omega)
    obtain ⟨ad, ha, hg, _⟩ := rt_at (r2.at h0 (mem2 hm)) hjl
    refine ⟨_, _, _, rd_fld h0.at_blk rfl rfl, by omega, by omega, ad, ha, _, _, _, by rw [Int.toNat_natCast]; exact hg, ?_⟩
    intro w115
    have h115 := h0.alloc (.cells #[.string (ByteArray.mk #[]), .string (ByteArray.mk #[]), .string (ByteArray.mk #[])] 36)
    refine ⟨rfl, wrOk_agg h115.at_blk (xs := rcV rs2[j]) (by simp [rcV]) (by intro u hu; simp [rcV] at hu; rcases hu with rfl | rfl | rfl <;> rfl), ?_⟩
    intro w116
    have h116 : St E (blkL w.heap.size 36 (rcV rs2[j]) :: blkL bn 30 (cfgL v2 ra2 pa2) :: blkL bw 30 (cfgL v ra pa) :: L) w116 := h115.wr_agg0 (xs := rcV rs2[j]) rfl
    clear_value w116
    clear h115
    clear_value w115
    generalize w.heap.size = bx at *
    have hs := count_step (g := Cm.isAt h pf) hjl
    have no : Cm.isAt h pf rs2[j] = false → T_law08_ConfTells_6 false 0 ⟨bw, 0, none⟩ ⟨bx, 0, none⟩ w116 (fun kept149 w150 => if (!kept149) = true then (Kr false w150) else (X (((rs2.take j).countP (Cm.isAt h pf) : Nat) : Int) (IntKind.wrap .i64 ((j : Int) + 1)) w150)) Kp := fun hx => by
      refine tells6_spec (rs := rs) (x := rs2[j]) (L := blkL bn 30 (cfgL v2 ra2 pa2) :: L) (mem1 hm) r1 hl1 (h116.sel 3 [0, 2, 1]) fun w150 h150 => ?_
      have hany : (rs.any fun y => decide (y = rs2[j])) = true := List.any_eq_true.2 ⟨_, hin _ (List.getElem_mem hjl) hx, by simp⟩
      rw [hany]
      refine ite_n (fun hh => by cases hh) fun _ => ?_
      rw [succ_big (by unfold big; omega)]
      have nx := ih hjl w150 (St.sel (L := blkL bx 36 (rcV rs2[j]) :: blkL bw 30 (cfgL v ra pa) :: blkL bn 30 (cfgL v2 ra2 pa2) :: L) h150 3 [2, 1])
      rw [hs, hx] at nx
      exact nx
    unfold T_law08_ConfTells_5
    refine ⟨_, rd_cell h116.at_blk rfl rfl, ?_⟩
    rw [str_beq]
    refine ite_d (fun h1 => ⟨_, rd_fld h116.at_blk rfl rfl, ?_⟩) fun h1 => ite_b (fun hh => by cases hh) fun _ => no (by simp [Cm.isAt, h1])
    rw [str_beq]
    refine ite_d (fun h2 => ⟨_, rd_fld h116.at_blk rfl rfl, ?_⟩) fun h2 => no (by simp [Cm.isAt, h2])
    have hx : Cm.isAt h pf rs2[j] = true := by simp [Cm.isAt, h1, h2]
    rw [show (ByteArray.mk #[113]) = bs [113] from rfl, str_beq]
    refine ite_n (fun hh => ?_) fun _ => ?_
    · have := hat _ (List.getElem_mem hjl) hx
      simp [this] at hh
    · rw [succ_big (by unfold big; omega), succ_big (by unfold big; omega)]
      have nx := ih hjl w116 h116.drop
      rw [hs, hx] at nx
      exact nx
  · rw [List.take_of_length_le (by omega)]
    exact k _ h0
end
end Go.Vc
