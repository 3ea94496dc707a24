/-
  The law ConfSorted.
-/
import Derived.Test.YtcpmfjclkdjfmaaGreatConfCk
import Derived.Test.YtcpmfjclkdjfmaaGreatGSorted
namespace Go.Vc
open Go Go.Proofs Go.Proofs.YtcpmfjclkdjfmaaGreat Go.RowKit
set_option maxRecDepth 100000
section
variable {E w : World} {L : List Asrt} {R : Ending → World → Prop} {F G : Fz} {s : Cm.Sm} {p : Nat}
variable {bc : Nat} {v : Int} {ra pa : Sl} {xs : List PlS}
set_option maxHeartbeats 1000000 in
theorem sorted2_spec {Kn : World → Prop} {Kr : Bool → World → Prop} {Kp : List PanicEntry → World → Prop} (I : Cm.Inv s) (hm : kn F ∈ L) (hxs : xs.map (·.2) = s.pools) (r : RdF F pa.1 pa.2.1 2 (xs.flatMap pcV)) (t : ∀ x ∈ xs, RdF F x.1.1 x.1.2.1 2 (x.2.tg.flatMap tV))
    (h : St E (blkL bc 30 (cfgL v ra pa) :: L) w) (k : ∀ w', St E (blkL bc 30 (cfgL v ra pa) :: L) w' → Kn w') : T_law08_ConfSorted_2 0 ⟨bc, 0, none⟩ w Kn Kr Kp := by
  have n1 := r.count pcV_len (by decide) h (mem1 hm)
  have hxl : xs.length = s.pools.length := by rw [← hxs]; simp
  have hpn := I.pn
  have hat : ∀ j (hj : j < xs.length), xs[j].2 = s.pools[j]'(by omega) := fun j hj => by
    have : (xs.map (·.2))[j]'(by simpa using hj) = s.pools[j]'(by omega) := by simp [hxs]
    simpa using this
  have hpw := (Cm.rises_iff Cm.plOrd _).1 I.pr
  unfold T_law08_ConfSorted_2
  intro X hX
  refine up_to xs.length (Q := fun j => ∀ w, St E (blkL bc 30 (cfgL v ra pa) :: L) w → X (j : Int) w) ?_ w h
  intro j hj ih w h
  refine hX _ _ ?_
  unfold T_law08_ConfSorted_2_body
  refine ⟨_, _, _, rd_fld h.at_blk rfl rfl, ?_⟩
  rw [← n1]
  refine ite_d (fun hc => ?_) fun hc => k _ h
  have hjl : j < xs.length := by omega
  intro w26
  have h26 : St E _ w26 := h.drew
  clear_value w26
  obtain ⟨ad, ha, hn, hs, _⟩ := pl_at (r.at h26 (mem1 hm)) hjl
  have hlen : xs[j].1.2.1 ≤ 16 := by
    have h1 := (t _ (List.getElem_mem hjl)).count tV_len (by decide) h26 (mem1 hm)
    have h2 := (I.pl _ (List.getElem_mem (show j < s.pools.length by omega))).2
    rw [hat j hjl] at h1
    have := (Cm.chkT_zero h2).2
    omega
  have nx := ih hjl w26 h26
  have tail : ∃ s33a : Option Addr, ∃ s33l : Nat, ∃ s33c : Nat, rd w26 ((⟨bc, 0, none⟩ : Addr).add 2) (.slice s33a s33l s33c) ∧ 0 ≤ (j : Int) ∧ (j : Int) < ((s33l : Nat) : Int) ∧ ∃ b34, s33a = some b34 ∧ ∃ s35a : Option Addr, ∃ s35l : Nat, ∃ s35c : Nat, rd w26 ((b34.add ((j : Int).toNat * 2)).add 1) (.slice s35a s35l s35c) ∧ if (decide (((s35l : Nat) : Int) > 16)) = true then (Kr false w26) else (X (IntKind.wrap .i64 ((j : Int) + 1)) w26) := by
    refine ⟨_, _, _, rd_fld h26.at_blk rfl rfl, by omega, by omega, ad, ha, _, _, _, by rw [Int.toNat_natCast]; exact hs, ite_d (fun h1 => absurd h1 (by omega)) fun _ => ?_⟩
    rw [succ_big (by unfold big; omega)]
    exact nx
  refine ite_d (fun h0 => ?_) fun _ => tail
  have h0 : 0 < j := by omega
  obtain ⟨ad2, ha2, hn2, _, _⟩ := pl_at (r.at h26 (mem1 hm)) (show j - 1 < xs.length by omega)
  rw [wrap_pred h0 (by omega)]
  refine ⟨_, _, _, rd_fld h26.at_blk rfl rfl, by omega, by omega, ad2, ha2, _, by rw [Int.toNat_natCast]; exact hn2, _, _, _, rd_fld h26.at_blk rfl rfl, by omega, by omega, ad, ha, _, by rw [Int.toNat_natCast]; exact hn, ?_⟩
  have hlt : xs[j - 1].2.name < xs[j].2.name := by
    rw [hat (j - 1) (by omega), hat j hjl]
    exact of_decide_eq_true (pw_at hpw (show j - 1 < j by omega) (by omega))
  rw [bs_toList, bs_toList, bytesLess_eq, decide_eq_true hlt]
  exact ite_b (fun hh => by cases hh) fun _ => tail
set_option maxHeartbeats 1000000 in
theorem sorted4_spec {Kn : Bool → World → Prop} {Kp : List PanicEntry → World → Prop} {bx : Nat} {x : Cm.Rt} (I : Cm.Inv s) (hm : kn F ∈ L) (hxs : xs.map (·.2) = s.pools) (r : RdF F pa.1 pa.2.1 2 (xs.flatMap pcV))
    (h : St E (blkL bx 36 (rcV x) :: blkL bc 30 (cfgL v ra pa) :: L) w) (k : ∀ w', St E (blkL bx 36 (rcV x) :: blkL bc 30 (cfgL v ra pa) :: L) w' → Kn (Cm.there s x.pool) w') : T_law08_ConfSorted_4 false 0 ⟨bc, 0, none⟩ ⟨bx, 0, none⟩ w Kn Kp := by
  have n1 := r.count pcV_len (by decide) h (mem2 hm)
  have hxl : xs.length = s.pools.length := by rw [← hxs]; simp
  have hpn := I.pn
  unfold T_law08_ConfSorted_4
  intro X hX
  refine up_to xs.length (Q := fun j => ∀ w, St E (blkL bx 36 (rcV x) :: blkL bc 30 (cfgL v ra pa) :: L) w → X ((xs.take j).any fun y => decide (y.2.name = x.pool)) (j : Int) w) ?_ w (by simpa using h)
  intro j hj ih w h
  refine hX _ _ _ ?_
  unfold T_law08_ConfSorted_4_body
  refine ⟨_, _, _, rd_fld h.f1.at_blk rfl rfl, ?_⟩
  rw [← n1]
  refine ite_d (fun hc => ?_) fun hc => ?_
  · have hjl : j < xs.length := by omega
    have hs := any_step (p := fun y : PlS => decide (y.2.name = x.pool)) hjl
    intro w59
    have h59 : St E _ w59 := h.drew
    clear_value w59
    have nx := ih hjl w59 h59
    rw [hs] at nx
    rw [succ_big (by unfold big; omega)]
    refine ite_b (fun h1 => ?_) fun h1 => ?_
    · rw [h1, Bool.true_or] at nx
      exact nx
    · rw [h1, Bool.false_or] at nx
      obtain ⟨ad, ha, hn, _, _⟩ := pl_at (r.at h59 (mem2 hm)) hjl
      refine ⟨_, _, _, rd_fld h59.f1.at_blk rfl rfl, by omega, by omega, ad, ha, _, by rw [Int.toNat_natCast]; exact hn, _, rd_fld h59.at_blk rfl rfl, ?_⟩
      rw [str_beq]
      exact nx
  · rw [List.take_of_length_le (by omega), there_map hxs]
    exact k _ h
set_option maxHeartbeats 2000000 in
theorem sorted3_spec {Kn : World → Prop} {Kr : Bool → World → Prop} {Kp : List PanicEntry → World → Prop} (I : Cm.Inv s) (hm : kn F ∈ L) (hxs : xs.map (·.2) = s.pools) (r : RdF F pa.1 pa.2.1 2 (xs.flatMap pcV)) (rr : RdF F ra.1 ra.2.1 3 (s.routes.flatMap rcV))
    (h : St E (blkL bc 30 (cfgL v ra pa) :: L) w) (k : ∀ w', St E (blkL bc 30 (cfgL v ra pa) :: L) w' → Kn w') : T_law08_ConfSorted_3 0 ⟨bc, 0, none⟩ w Kn Kr Kp := by
  have n1 := rr.count rcV_len (by decide) h (mem1 hm)
  have hrn := I.rn
  have hpw := (Cm.rises_iff Cm.rtOrd _).1 I.rr
  unfold T_law08_ConfSorted_3
  intro X hX
  refine up_to s.routes.length (Q := fun j => ∀ w, St E (blkL bc 30 (cfgL v ra pa) :: L) w → X (j : Int) w) ?_ w h
  intro j hj ih w h
  refine hX _ _ ?_
  unfold T_law08_ConfSorted_3_body
  refine ⟨_, _, _, rd_fld h.at_blk rfl rfl, ?_⟩
  rw [← n1]
  refine ite_d (fun hc => ?_) fun hc => k _ h
  have hjl : j < s.routes.length := by omega
  obtain ⟨ad, ha, hg, _⟩ := rt_at (rr.at h (mem1 hm)) hjl
  refine ⟨_, _, _, rd_fld h.at_blk rfl rfl, by omega, by omega, ad, ha, _, _, _, by rw [Int.toNat_natCast]; exact hg, ?_⟩
  intro w52
  have h52 := h.alloc (.cells #[.string (ByteArray.mk #[]), .string (ByteArray.mk #[]), .string (ByteArray.mk #[])] 36)
  refine ⟨rfl, wrOk_agg h52.at_blk (xs := rcV s.routes[j]) (by simp [rcV]) (by intro u hu; simp [rcV] at hu; rcases hu with rfl | rfl | rfl <;> rfl), ?_⟩
  intro w53
  have h53 : St E (blkL w.heap.size 36 (rcV s.routes[j]) :: blkL bc 30 (cfgL v ra pa) :: L) w53 := h52.wr_agg0 (xs := rcV s.routes[j]) rfl
  clear_value w53
  clear h52
  clear_value w52
  generalize w.heap.size = bx at *
  refine sorted4_spec (x := s.routes[j]) I hm hxs r h53 fun w69 h69 => ?_
  rw [(I.rt _ (List.getElem_mem hjl)).1]
  intro w70
  have h70 : St E _ w70 := h69.drew
  clear_value w70
  have nx := ih hjl w70 h70.drop
  rw [succ_big (by unfold big; omega)]
  refine ite_n (fun hh => by cases hh) fun _ => ite_d (fun h0 => ?_) fun _ => nx
  have h0 : 0 < j := by omega
  obtain ⟨ad2, ha2, _, hk2⟩ := rt_at (rr.at h70 (mem2 hm)) (show j - 1 < s.routes.length by omega)
  rw [wrap_pred h0 (by omega)]
  have hlt : Cm.rtLt (s.routes[j - 1]'(by omega)) s.routes[j] = true := pw_at hpw (show j - 1 < j by omega) hjl
  rw [Int.toNat_natCast]
  refine ⟨_, _, _, rd_fld h70.f1.at_blk rfl rfl, by omega, by omega, ad2, ha2, _, hk2 0 _ rfl rfl, _, rd_cell h70.at_blk rfl rfl, ?_⟩
  rw [str_beq, bs_toList, bs_toList, bytesLess_eq]
  have h1 : (s.routes[j - 1]'(by omega)).host < s.routes[j].host ∨ (s.routes[j - 1]'(by omega)).host = s.routes[j].host ∧ (s.routes[j - 1]'(by omega)).pfx < s.routes[j].pfx := by simpa [Cm.rtLt] using hlt
  refine ite_n (fun hh => ?_) fun _ => ⟨_, _, _, rd_fld h70.f1.at_blk rfl rfl, by omega, by omega, ad2, ha2, _, hk2 0 _ rfl rfl, _, rd_cell h70.at_blk rfl rfl, ?_⟩
  · simp only [Bool.or_eq_false_iff, decide_eq_false_iff_not] at hh
    rcases h1 with h1 | h1
    · exact absurd h1 hh.1
    · exact absurd h1.1 hh.2
  · rw [str_beq]
    refine ite_d (fun h2 => ⟨_, _, _, rd_fld h70.f1.at_blk rfl rfl, by omega, by omega, ad2, ha2, _, hk2 1 _ rfl rfl, _, rd_fld h70.at_blk rfl rfl, ?_⟩) fun _ => nx
    rw [bs_toList, bs_toList, bytesLess_eq]
    refine ite_n (fun hh => ?_) fun _ => nx
    have hh : ¬ (s.routes[j - 1]'(by omega)).pfx < s.routes[j].pfx := by simpa using hh
    rcases h1 with h1 | h1
    · rw [h2] at h1; exact absurd h1 (Cm.slt_irrefl _)
    · exact absurd h1.2 hh
theorem sorted_walk {a : Option Addr} {l cc : Nat} {ds : List (Cm.Cmd × Sl)} (hd : CmdsR F a l ds) (h : St E (kn F :: L) w) (k : ∀ G w', Fz.le F G → St E (kn G :: L) w' → R (.returned (.bool true)) w') : Calls Tryz.prog 3 #[.slice a l cc] w R := by
  refine C_law08_ConfSorted ?_
  unfold T_law08_ConfSorted
  refine play_spec hd h fun G1 p r s w3 hG1 I h3 => ⟨_, _, _, rfl, ?_⟩
  refine Config_kn (Sz.of I) (h3.sel 3 [0, 2, 1]) fun G2 w8 ra pa hG2 hcf h8 => ⟨_, _, _, _, _, _, _, rfl, ?_⟩
  have h8 : St E (stA G2 p s :: kn G2 :: refA G1 r s :: L) w8 := h8
  obtain ⟨rr, xs, hxs, rp, rt⟩ := hcf
  intro w12
  have h12 := h8.alloc (.cells ⟨cfgL 0 (none, 0, 0) (none, 0, 0)⟩ 30)
  refine ⟨rfl, ok_cfg h12 rfl s.ver ra pa, ?_⟩
  intro w13
  have h13 : St E (blkL w8.heap.size 30 (cfgL s.ver ra pa) :: stA G2 p s :: kn G2 :: refA G1 r s :: L) w13 := St.wr_cfg h12 rfl s.ver ra pa
  clear_value w13
  clear h12
  clear_value w12
  generalize w8.heap.size = bc at *
  have n1 := rp.count pcV_len (by decide) h13 at2
  have n2 := rr.count rcV_len (by decide) h13 at2
  have hxl : xs.length = s.pools.length := by rw [← hxs]; simp
  have hpn := I.pn
  have hrn := I.rn
  unfold T_law08_ConfSorted_1
  refine ite_n (fun hh => by cases hh) fun _ => ⟨_, _, _, rd_fld h13.at_blk rfl rfl, ?_⟩
  rw [← n1]
  refine ite_d (fun hh => absurd hh (by omega)) fun _ => ⟨_, _, _, rd_fld h13.at_blk rfl rfl, ?_⟩
  rw [← n2]
  refine ite_d (fun hh => absurd hh (by omega)) fun _ => ?_
  refine sorted2_spec I at1 hxs rp rt h13 fun w43 h43 => ?_
  refine sorted3_spec I at1 hxs rp rr h43 fun w87 h87 => ?_
  refine live_spec (h87.f2) fun G3 w89 hG3 h89 => ⟨_, rfl, k G3 _ (Fz.le_trans hG1 (Fz.le_trans hG2 hG3)) (h89.sel 4 [0])⟩
theorem sorted_law {H : Type} {enc : TypeId × Value → H} {W : World} {a : Option Addr} {l c : Nat} {d : DataW H} {ps : List MemPlace} (h : DataW.Trod enc Tryz.prog W 0 (fun _ => true) true 22 (.slice a l c) d ps) :
    Calls Tryz.prog 3 #[.slice a l c] W fun e w' => e = .returned (.bool true) ∧ RowKit.Below W.heap.size W w' := by
  obtain ⟨ds, hd, _⟩ := open_cmds h
  exact sorted_walk hd (St.start_kn W) fun G w' hG h' => ⟨rfl, h'.below_kn hG⟩
end
end Go.Vc
