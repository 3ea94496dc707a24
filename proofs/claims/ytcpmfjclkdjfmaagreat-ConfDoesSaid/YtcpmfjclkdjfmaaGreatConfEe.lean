/-
  The document's configuration in new memory, its bytes; whether both stores tell the same; the law ConfDoes.
-/
import Derived.Test.YtcpmfjclkdjfmaaGreatConfCk
import Derived.Test.YtcpmfjclkdjfmaaGreatGDoes
namespace Go.Vc
open Go Go.Proofs Go.Proofs.YtcpmfjclkdjfmaaGreat Go.RowKit
set_option maxRecDepth 100000
section
variable {E w : World} {L : List Asrt} {R : Ending → World → Prop} {F G : Fz} {s : Cm.Sm} {p r : Nat} {ra pa la : Sl} {v : Int}
set_option maxHeartbeats 2000000 in
theorem copy_l1 {Kn : World → Prop} {Kp : List PanicEntry → World → Prop} {bc bo : Nat} {A : Asrt} {xs : List PlS} (S : Sz s) (hxs : xs.map (·.2) = s.pools) (rp : RdF F pa.1 pa.2.1 2 (xs.flatMap pcV)) (rt : ∀ x ∈ xs, RdF F x.1.1 x.1.2.1 2 (x.2.tg.flatMap tV))
    {ro : Sl} (h : St E (blkL bo 30 (cfgL v ro (none, 0, 0)) :: plA (none, 0, 0) [] :: tgO [] :: A :: blkL bc 30 (cfgL v ra pa) :: kn F :: L) w)
    (k : ∀ (w : World) (po : Sl) (ys : List PlS), ys.map (·.2) = s.pools → St E (blkL bo 30 (cfgL v ro po) :: plA po ys :: tgO ys :: A :: blkL bc 30 (cfgL v ra pa) :: kn F :: L) w → Kn w) :
    T_ref08_CopyConfig_1 0 ⟨bc, 0, none⟩ ⟨bo, 0, none⟩ w Kn Kp := by
  have hbig : big = 140737488355328 := rfl
  have hpn := S.pn
  have hxl : xs.length = s.pools.length := by rw [← hxs]; simp
  have hat : ∀ j (hj : j < xs.length), xs[j].2 = s.pools[j]'(by omega) := fun j hj => by
    have : (xs.map (·.2))[j]'(by simpa using hj) = s.pools[j]'(by omega) := by simp [hxs]
    simpa using this
  have hm5 : ∀ {A B C D H : Asrt}, kn F ∈ A :: B :: C :: D :: H :: kn F :: L := at5
  have n1 := rp.count pcV_len (by decide) h hm5
  unfold T_ref08_CopyConfig_1
  intro X hX
  refine up_to xs.length (Q := fun j => ∀ (w : World) (po : Sl) (ys : List PlS), ys.map (·.2) = s.pools.take j → St E (blkL bo 30 (cfgL v ro po) :: plA po ys :: tgO ys :: A :: blkL bc 30 (cfgL v ra pa) :: kn F :: L) w → X (j : Int) w) ?_ w (none, 0, 0) [] (by simp) h
  intro j hj ih w po ys hys h
  have hyl : ys.length ≤ 64 := by have := congrArg List.length hys; simp at this; omega
  refine hX _ _ ?_
  unfold T_ref08_CopyConfig_1_body
  refine ⟨_, _, _, rd_fld h.f4.at_blk rfl rfl, ?_⟩
  rw [← n1]
  refine ite_d (fun hc => ?_) fun hc => ?_
  · have hjl : j < xs.length := by omega
    intro w19
    have h19 : St E _ w19 := h.drew
    clear_value w19
    obtain ⟨ad, ha, hn, hs, _⟩ := pl_at (rp.at h19 hm5) hjl
    have still : ∀ {w : World} {L' : List Asrt}, kn F ∈ L' → St E L' w → rd w (ad.add (j * 2)) (.string (bs xs[j].2.name)) ∧ rd w ((ad.add (j * 2)).add 1) (.slice xs[j].1.1 xs[j].1.2.1 xs[j].1.2.2) := fun hmm h => by
      obtain ⟨ad', ha', hn', hs', _⟩ := pl_at (rp.at h hmm) hjl
      rw [ha] at ha'
      injection ha' with ha'
      subst ha'
      exact ⟨hn', hs'⟩
    rw [Int.toNat_natCast]
    refine ⟨_, _, _, rd_fld h19.at_blk rfl rfl, _, _, _, rd_fld h19.f4.at_blk rfl rfl, by omega, by omega, ad, ha, _, hn, _, _, _, rd_fld h19.f4.at_blk rfl rfl, by omega, by omega, ad, ha, _, _, _, hs, ?_⟩
    intro w27
    have h27 : St E (tgA (some ⟨w19.heap.size, 0, none⟩, 0, 0) [] :: blkL bo 30 (cfgL v ro po) :: plA po ys :: tgO ys :: A :: blkL bc 30 (cfgL v ra pa) :: kn F :: L) w27 := St.ownS_mk (rest := []) (h19.alloc _) rfl (Nat.le_refl _) (Nat.zero_le _) rfl
    clear_value w27
    refine ⟨⟨(still at6 h27).2, rd_fld h27.f5.at_blk rfl rfl, (still at6 h27).1, rd_fld h27.f5.at_blk rfl rfl, rd_fld h27.f1.at_blk rfl rfl, trivial⟩, ?_⟩
    have hsx := (S.pl _ (List.getElem_mem (show j < s.pools.length by omega))).2.1
    have hsz : xs[j].2.tg.length ≤ 16 := by rw [hat j hjl]; exact hsx
    obtain ⟨q', w29, hr29, h29⟩ := app_t (c2 := xs[j].1.2.2) h27 ((rt _ (List.getElem_mem hjl)).at h27 at6) (by simp; omega)
    rw [List.nil_append] at h29
    refine runV_ok hr29 ⟨_, _, _, rfl, ⟨rd_fld h29.f5.at_blk rfl rfl, (still at6 h29).1, rd_fld h29.f5.at_blk rfl rfl, rd_fld h29.f1.at_blk rfl rfl, trivial⟩, ?_⟩
    intro w31
    have h31 : St E (plA (some ⟨w29.heap.size, 0, none⟩, 1, 1) [(q', xs[j].2)] :: tgA q' xs[j].2.tg :: blkL bo 30 (cfgL v ro po) :: plA po ys :: tgO ys :: A :: blkL bc 30 (cfgL v ra pa) :: kn F :: L) w31 := h29.pl_new (q', xs[j].2)
    refine ⟨⟨rd_fld (St.sel h31 7 [6, 0, 1, 2, 3, 4, 5]).at_blk rfl rfl, rd_fld (St.sel h31 7 [6, 0, 1, 2, 3, 4, 5]).at_blk rfl rfl, rd_fld h31.f2.at_blk rfl rfl, trivial⟩, ?_⟩
    obtain ⟨po', w33, hr33, h33⟩ := app_pl1 (x := (q', xs[j].2)) h29.f2 (by omega)
    have h33 : St E (plA po' (ys ++ [(q', xs[j].2)]) :: tgA q' xs[j].2.tg :: blkL bo 30 (cfgL v ro po) :: tgO ys :: A :: blkL bc 30 (cfgL v ra pa) :: kn F :: L) w33 := h33
    refine runV_ok hr33 ⟨_, _, _, rfl, ⟨rd_fld h33.f5.at_blk rfl rfl, rd_fld h33.f5.at_blk rfl rfl, trivial⟩, rfl, wrOk_fld h33.f2.at_blk (by show 2 < 3; decide) rfl, ?_⟩
    intro w35
    have h35 := h33.f2.wr_fld (k := 2) (v := .slice po'.1 po'.2.1 po'.2.2) rfl
    refine ⟨trivial, ?_⟩
    rw [succ_big (by omega)]
    refine ih hjl _ po' (ys ++ [(q', xs[j].2)]) (by rw [List.map_append, hys, List.take_succ_eq_append_getElem (show j < s.pools.length by omega)]; simp [hat j hjl]) ?_
    have h36 : St E (blkL bo 30 (cfgL v ro po') :: plA po' (ys ++ [(q', xs[j].2)]) :: tgA q' xs[j].2.tg :: tgO ys :: A :: blkL bc 30 (cfgL v ra pa) :: kn F :: L) w35 := h35
    exact St.sel (L := _ :: _ :: _ :: A :: _ :: kn F :: L) (St.tgO_put (x := (q', xs[j].2)) (h36.sel 4 [2, 3, 0, 1])) 3 [1, 2, 0]
  · rw [List.take_of_length_le (by omega)] at hys
    exact k _ _ _ hys h
set_option maxHeartbeats 4000000 in
/-- CopyConfig. -/
theorem Copy_spec (S : Sz s) (cf : cfgR F ra pa s.routes s.pools) (h : St E (kn F :: L) w) (k : ∀ (G : Fz) (w' : World) (ra' pa' : Sl), Fz.le F G → cfgR G ra' pa' s.routes s.pools → St E (kn G :: L) w' → R (.returned (cfgV v ra' pa')) w') :
    Calls Tryz.prog 59 #[cfgV v ra pa] w R := by
  obtain ⟨rr, xs, hxs, rp, rt⟩ := cf
  have hrn := S.rn
  refine C_ref08_CopyConfig ?_
  unfold T_ref08_CopyConfig
  intro w4
  have h4 : St E (blkL w.heap.size 30 (cfgL v ra pa) :: kn F :: L) w4 := h.alloc _
  intro w5
  have h5 : St E (blkL w4.heap.size 30 (cfgL 0 (none, 0, 0) (none, 0, 0)) :: blkL w.heap.size 30 (cfgL v ra pa) :: kn F :: L) w5 := h4.alloc _
  intro w6
  have h6 : St E _ w6 := h5.drew
  clear_value w6
  clear h5 h4
  clear_value w5 w4
  generalize w4.heap.size = bt at *
  generalize w.heap.size = bc at *
  -- behind the copy of the pools
  have tail : ∀ {w : World} {bo : Nat} {ro po : Sl} {ys : List PlS}, ys.map (·.2) = s.pools → St E (blkL bo 30 (cfgL v ro po) :: plA po ys :: tgO ys :: rtA ro s.routes :: blkL bc 30 (cfgL v ra pa) :: kn F :: blkL bt 30 (cfgL 0 (none, 0, 0) (none, 0, 0)) :: L) w →
      (∃ x37 : Int, ∃ s38a : Option Addr, ∃ s38l : Nat, ∃ s38c : Nat, ∃ s39a : Option Addr, ∃ s39l : Nat, ∃ s39c : Nat, rd w (⟨bo, 0, none⟩ : Addr) (.agg #[.int .i64 x37, .slice s38a s38l s38c, .slice s39a s39l s39c]) ∧ (.agg #[.int .i64 x37, .slice s38a s38l s38c, .slice s39a s39l s39c] : Value).cells.size = 3 ∧ wrOk w (⟨bt, 0, none⟩ : Addr) (.agg #[.int .i64 x37, .slice s38a s38l s38c, .slice s39a s39l s39c]) ∧ let w40 : World := wr w (⟨bt, 0, none⟩ : Addr) (.agg #[.int .i64 x37, .slice s38a s38l s38c, .slice s39a s39l s39c])
      ∃ x41 : Int, ∃ s42a : Option Addr, ∃ s42l : Nat, ∃ s42c : Nat, ∃ s43a : Option Addr, ∃ s43l : Nat, ∃ s43c : Nat, rd w40 (⟨bt, 0, none⟩ : Addr) (.agg #[.int .i64 x41, .slice s42a s42l s42c, .slice s43a s43l s43c]) ∧ R (.returned (.agg #[.int .i64 x41, .slice s42a s42l s42c, .slice s43a s43l s43c])) w40) := fun {w bo ro po ys} hys h => by
    have h7 : St E (blkL bt 30 (cfgL 0 (none, 0, 0) (none, 0, 0)) :: rtA ro s.routes :: plA po ys :: tgO ys :: kn F :: L) w := h.sel 7 [6, 3, 1, 2, 5]
    refine ⟨_, _, _, _, _, _, _, rd_cfg h, rfl, ok_cfg h7 rfl v ro po, ?_⟩
    intro w40
    have h8 := St.wr_cfg h7 rfl v ro po
    obtain ⟨G, hG, h9, hc⟩ := St.cfg_freeze hys h8.drop
    exact ⟨_, _, _, _, _, _, _, rd_cfg h8, k G _ ro po hG hc h9⟩
  have hm2 : ∀ {A B : Asrt}, kn F ∈ A :: B :: kn F :: L := at2
  refine ⟨_, rd_cell h6.f1.at_blk rfl rfl, _, _, _, rd_fld h6.f1.at_blk rfl rfl, ⟨?_, ?_⟩⟩
  · intro w9
    have h9 : St E (rtA (some ⟨w6.heap.size, 0, none⟩, 0, 0) [] :: blkL bt 30 (cfgL 0 (none, 0, 0) (none, 0, 0)) :: blkL bc 30 (cfgL v ra pa) :: kn F :: L) w9 := h6.rt_zero
    clear_value w9
    refine ⟨⟨rd_fld h9.f2.at_blk rfl rfl, rd_cell h9.f2.at_blk rfl rfl, trivial⟩, ⟨?_, ?_⟩⟩
    · obtain ⟨ro, w11, hr, h11⟩ := app_rt (c2 := ra.2.2) h9 (rr.at h9 at3) (by simp; omega)
      rw [List.nil_append] at h11
      refine runV_ok hr ⟨_, _, _, rfl, ⟨rd_cell h11.f2.at_blk rfl rfl, trivial⟩, ?_⟩
      intro w13
      have h13 := h11.alloc (.cells ⟨cfgL 0 (none, 0, 0) (none, 0, 0)⟩ 30)
      refine ⟨⟨rd_cell h13.f3.at_blk rfl rfl, trivial⟩, rfl, ok_cfg h13 rfl v ro (none, 0, 0), ?_⟩
      intro w14
      have h14 := St.wr_cfg h13 rfl v ro (none, 0, 0)
      refine ⟨trivial, copy_l1 (A := rtA ro s.routes) (L := blkL bt 30 (cfgL 0 (none, 0, 0) (none, 0, 0)) :: L) S hxs rp rt ((h14.tgO_nil.pl_nil).sel 7 [2, 0, 1, 3, 5, 6, 4]) fun w36 po ys hys h36 => tail hys h36⟩
    · intro w44
      have h44 : St E (blkL w9.heap.size 30 (cfgL 0 (none, 0, 0) (none, 0, 0)) :: rtA (some ⟨w6.heap.size, 0, none⟩, 0, 0) [] :: blkL bt 30 (cfgL 0 (none, 0, 0) (none, 0, 0)) :: blkL bc 30 (cfgL v ra pa) :: kn F :: L) w44 := h9.alloc _
      clear_value w44
      generalize w9.heap.size = bo at *
      refine ⟨⟨rd_fld h44.f3.at_blk rfl rfl, rd_cell h44.f3.at_blk rfl rfl, trivial⟩, ?_⟩
      obtain ⟨ro, w11, hr, h11⟩ := app_rt (c2 := ra.2.2) h44.f1 (rr.at h44 at4) (by simp; omega)
      rw [List.nil_append] at h11
      refine runV_ok hr ⟨_, _, _, rfl, ⟨rd_cell h11.f3.at_blk rfl rfl, trivial⟩, rfl, ok_cfg h11.f1 rfl v ro (none, 0, 0), ?_⟩
      intro w14
      have h14 := St.wr_cfg h11.f1 rfl v ro (none, 0, 0)
      refine ⟨trivial, copy_l1 (A := rtA ro s.routes) (L := blkL bt 30 (cfgL 0 (none, 0, 0) (none, 0, 0)) :: L) S hxs rp rt ((h14.tgO_nil.pl_nil).sel 7 [2, 0, 1, 3, 5, 6, 4]) fun w36 po ys hys h36 => tail hys h36⟩
  · intro w57
    have h57 : St E (blkL w6.heap.size 30 (cfgL 0 (none, 0, 0) (none, 0, 0)) :: blkL bt 30 (cfgL 0 (none, 0, 0) (none, 0, 0)) :: blkL bc 30 (cfgL v ra pa) :: kn F :: L) w57 := h6.alloc _
    refine ⟨⟨rd_fld h57.f2.at_blk rfl rfl, rd_cell h57.f2.at_blk rfl rfl, trivial⟩, ?_⟩
    intro w58
    have h58 : St E (rtA (some ⟨w57.heap.size, 0, none⟩, 0, 0) [] :: blkL w6.heap.size 30 (cfgL 0 (none, 0, 0) (none, 0, 0)) :: blkL bt 30 (cfgL 0 (none, 0, 0) (none, 0, 0)) :: blkL bc 30 (cfgL v ra pa) :: kn F :: L) w58 := h57.rt_zero
    clear_value w58
    clear h57
    clear_value w57
    generalize w6.heap.size = bo at *
    refine ⟨⟨rd_fld h58.f3.at_blk rfl rfl, rd_cell h58.f3.at_blk rfl rfl, trivial⟩, ?_⟩
    obtain ⟨ro, w11, hr, h11⟩ := app_rt (c2 := ra.2.2) h58 (rr.at h58 at4) (by simp; omega)
    rw [List.nil_append] at h11
    refine runV_ok hr ⟨_, _, _, rfl, ⟨rd_cell h11.f3.at_blk rfl rfl, trivial⟩, rfl, ok_cfg h11.f1 rfl v ro (none, 0, 0), ?_⟩
    intro w14
    have h14 := St.wr_cfg h11.f1 rfl v ro (none, 0, 0)
    refine ⟨trivial, copy_l1 (A := rtA ro s.routes) (L := blkL bt 30 (cfgL 0 (none, 0, 0) (none, 0, 0)) :: L) S hxs rp rt ((h14.tgO_nil.pl_nil).sel 7 [2, 0, 1, 3, 5, 6, 4]) fun w36 po ys hys h36 => tail hys h36⟩
theorem rd_rf {ra pa la : Sl} (h : St E (blkL r 108 (rfL v ra pa la) :: L) w) : rd w ⟨r, 0, none⟩ (cfgV v ra pa) := rd_agg (xs := cfgL v ra pa) h.at_blk (by intro i u hu; rw [Nat.zero_add]; match i, hu with | 0, hu => exact hu | 1, hu => exact hu | 2, hu => exact hu | n + 3, hu => simp at hu)
theorem RConfig_spec (S : Sz s) (h : St E (refA F r s :: kn F :: L) w) (k : ∀ (G : Fz) (w' : World) (ra pa : Sl), Fz.le F G → cfgR G ra pa s.routes s.pools → St E (refA G r s :: kn G :: L) w' → R (.returned (cfgV s.ver ra pa)) w') : Calls Tryz.prog 53 #[.pointer (some ⟨r, 0, none⟩)] w R := by
  obtain ⟨ra, pa, la, hc, hl, h⟩ := h.rf_open
  refine C_ref08_Store_Config ?_
  unfold T_ref08_Store_Config
  intro w2
  have h2 : St E (blkL w.heap.size 30 (cfgL 0 (none, 0, 0) (none, 0, 0)) :: blkL r 108 (rfL s.ver ra pa la) :: kn F :: L) w2 := h.alloc _
  clear_value w2
  generalize w.heap.size = bt at *
  refine ite_some ⟨_, rfl, _, _, _, _, _, _, _, rd_rf h2.f1, ?_⟩
  refine Copy_spec (s := s) (L := blkL bt 30 (cfgL 0 (none, 0, 0) (none, 0, 0)) :: blkL r 108 (rfL s.ver ra pa la) :: L) S hc h2.f2 fun G w12 ra' pa' hG hc' h12 => ⟨_, _, _, _, _, _, _, rfl, rfl, ok_cfg h12.f1 rfl s.ver ra' pa', ?_⟩
  intro w16
  have h16 := St.wr_cfg h12.f1 rfl s.ver ra' pa'
  refine ⟨_, _, _, _, _, _, _, rd_cfg h16, k G _ ra' pa' hG hc' ?_⟩
  exact St.rf_mk (hc.mono hG) (RdF.mono hl hG) (St.sel (L := blkL bt 30 (cfgL s.ver ra' pa') :: kn G :: blkL r 108 (rfL s.ver ra pa la) :: L) h16 3 [2, 1])
end
end Go.Vc
