/-
  Texts of this claim's own, laid into one: ConfEe, ConfGg, ConfSs, GForks, ConfTt.
-/
import Derived.Laws.Externs
import Derived.Test.YtcpmfjclkdjfmaaGreatProg
import Derived.KernelRfl
import Derived.Test.YtcpmfjclkdjfmaaGreatXConfForksA
import Derived.Test.YtcpmfjclkdjfmaaGreatXConfForksB
import Derived.Test.YtcpmfjclkdjfmaaGreatXConfForksC
import Derived.Test.YtcpmfjclkdjfmaaGreatXConfForksD
import Derived.Test.YtcpmfjclkdjfmaaGreatXConfForksE
import Derived.Test.YtcpmfjclkdjfmaaGreatXConfForksF
set_option linter.all false
/-
  The document's configuration in new memory, its bytes; whether both stores tell the same; the law ConfDoes.
-/
namespace Go.Vc
open Go Go.Proofs Go.Proofs.YtcpmfjclkdjfmaaGreat Go.RowKit
set_option maxRecDepth 100000
section
variable {E w : World} {L : List Asrt} {R : Ending → World → Prop} {F G : Fz} {s : Cm.Sm} {p r : Nat} {ra pa la : Sl} {v : Int}
set_option maxHeartbeats 2000000 in
theorem copy_l1 {Kn : World → Prop} {Kp : List PanicEntry → World → Prop} {bc bo : Nat} {A : Asrt} {xs : List PlS} (S : Sz s) (hxs : xs.map (·.2) = s.pools) (rp : RdF F pa.1 pa.2.1 2 (xs.flatMap pcV)) (rt : ∀ x ∈ xs, RdF F x.1.1 x.1.2.1 2 (x.2.tg.flatMap tV))
    {ro : Sl} (h : St E (blkL bo 30 (cfgL v ro (none, 0, 0)) :: plA (none, 0, 0) [] :: tgO [] :: A :: blkL bc 30 (cfgL v ra pa) :: kn F :: L) w)
    (k : ∀ (w : World) (po : Sl) (ys : List PlS), ys.map (·.2) = s.pools → St E (blkL bo 30 (cfgL v ro po) :: plA po ys :: tgO ys :: A :: blkL bc 30 (cfgL v ra pa) :: kn F :: L) w → Kn w) :
    T_ref08_CopyConfig_1 0 ⟨bc, 0, none⟩ ⟨bo, 0, none⟩ w Kn Kp := by
  have hbig : big = 140737488355328 := rfl
  have hpn := S.pn
  have hxl : xs.length = s.pools.length := by rw [← hxs]; simp
  have hat : ∀ j (hj : j < xs.length), xs[j].2 = s.pools[j]'(by omega) := fun j hj => by
    have : (xs.map (·.2))[j]'(by simpa using hj) = s.pools[j]'(by omega) := by simp [hxs]
    simpa using this
  have hm5 : ∀ {A B C D H : Asrt}, kn F ∈ A :: B :: C :: D :: H :: kn F :: L := at5
  have n1 := rp.count pcV_len (by decide) h hm5
  unfold T_ref08_CopyConfig_1
  intro X hX
  refine up_to xs.length (Q := fun j => ∀ (w : World) (po : Sl) (ys : List PlS), ys.map (·.2) = s.pools.take j → St E (blkL bo 30 (cfgL v ro po) :: plA po ys :: tgO ys :: A :: blkL bc 30 (cfgL v ra pa) :: kn F :: L) w → X (j : Int) w) ?_ w (none, 0, 0) [] (by simp) h
  intro j hj ih w po ys hys h
  have hyl : ys.length ≤ 64 := by have := congrArg List.length hys; simp at this; omega
  refine hX _ _ ?_
  unfold T_ref08_CopyConfig_1_body
  refine ⟨_, _, _, rd_fld h.f4.at_blk rfl rfl, ?_⟩
  rw [← n1]
  refine ite_d (fun hc => ?_) fun hc => ?_
  · have hjl : j < xs.length := by omega
    intro w19
    have h19 : St E _ w19 := h.drew
    clear_value w19
    obtain ⟨ad, ha, hn, hs, _⟩ := pl_at (rp.at h19 hm5) hjl
    have still : ∀ {w : World} {L' : List Asrt}, kn F ∈ L' → St E L' w → rd w (ad.add (j * 2)) (.string (bs xs[j].2.name)) ∧ rd w ((ad.add (j * 2)).add 1) (.slice xs[j].1.1 xs[j].1.2.1 xs[j].1.2.2) := fun hmm h => by
      obtain ⟨ad', ha', hn', hs', _⟩ := pl_at (rp.at h hmm) hjl
      rw [ha] at ha'
      injection ha' with ha'
      subst ha'
      exact ⟨hn', hs'⟩
    rw [Int.toNat_natCast]
    refine ⟨_, _, _, rd_fld h19.at_blk rfl rfl, _, _, _, rd_fld h19.f4.at_blk rfl rfl, by omega, by omega, ad, ha, _, hn, _, _, _, rd_fld h19.f4.at_blk rfl rfl, by omega, by omega, ad, ha, _, _, _, hs, ?_⟩
    intro w27
    have h27 : St E (tgA (some ⟨w19.heap.size, 0, none⟩, 0, 0) [] :: blkL bo 30 (cfgL v ro po) :: plA po ys :: tgO ys :: A :: blkL bc 30 (cfgL v ra pa) :: kn F :: L) w27 := St.ownS_mk (rest := []) (h19.alloc _) rfl (Nat.le_refl _) (Nat.zero_le _) rfl
    clear_value w27
    refine ⟨⟨(still at6 h27).2, rd_fld h27.f5.at_blk rfl rfl, (still at6 h27).1, rd_fld h27.f5.at_blk rfl rfl, rd_fld h27.f1.at_blk rfl rfl, trivial⟩, ?_⟩
    have hsx := (S.pl _ (List.getElem_mem (show j < s.pools.length by omega))).2.1
    have hsz : xs[j].2.tg.length ≤ 16 := by rw [hat j hjl]; exact hsx
    obtain ⟨q', w29, hr29, h29⟩ := app_t (c2 := xs[j].1.2.2) h27 ((rt _ (List.getElem_mem hjl)).at h27 at6) (by simp; omega)
    rw [List.nil_append] at h29
    refine runV_ok hr29 ⟨_, _, _, rfl, ⟨rd_fld h29.f5.at_blk rfl rfl, (still at6 h29).1, rd_fld h29.f5.at_blk rfl rfl, rd_fld h29.f1.at_blk rfl rfl, trivial⟩, ?_⟩
    intro w31
    have h31 : St E (plA (some ⟨w29.heap.size, 0, none⟩, 1, 1) [(q', xs[j].2)] :: tgA q' xs[j].2.tg :: blkL bo 30 (cfgL v ro po) :: plA po ys :: tgO ys :: A :: blkL bc 30 (cfgL v ra pa) :: kn F :: L) w31 := h29.pl_new (q', xs[j].2)
    refine ⟨⟨rd_fld (St.sel h31 7 [6, 0, 1, 2, 3, 4, 5]).at_blk rfl rfl, rd_fld (St.sel h31 7 [6, 0, 1, 2, 3, 4, 5]).at_blk rfl rfl, rd_fld h31.f2.at_blk rfl rfl, trivial⟩, ?_⟩
    obtain ⟨po', w33, hr33, h33⟩ := app_pl1 (x := (q', xs[j].2)) h29.f2 (by omega)
    have h33 : St E (plA po' (ys ++ [(q', xs[j].2)]) :: tgA q' xs[j].2.tg :: blkL bo 30 (cfgL v ro po) :: tgO ys :: A :: blkL bc 30 (cfgL v ra pa) :: kn F :: L) w33 := h33
    refine runV_ok hr33 ⟨_, _, _, rfl, ⟨rd_fld h33.f5.at_blk rfl rfl, rd_fld h33.f5.at_blk rfl rfl, trivial⟩, rfl, wrOk_fld h33.f2.at_blk (by show 2 < 3; decide) rfl, ?_⟩
    intro w35
    have h35 := h33.f2.wr_fld (k := 2) (v := .slice po'.1 po'.2.1 po'.2.2) rfl
    refine ⟨trivial, ?_⟩
    rw [succ_big (by omega)]
    refine ih hjl _ po' (ys ++ [(q', xs[j].2)]) (by rw [List.map_append, hys, List.take_succ_eq_append_getElem (show j < s.pools.length by omega)]; simp [hat j hjl]) ?_
    have h36 : St E (blkL bo 30 (cfgL v ro po') :: plA po' (ys ++ [(q', xs[j].2)]) :: tgA q' xs[j].2.tg :: tgO ys :: A :: blkL bc 30 (cfgL v ra pa) :: kn F :: L) w35 := h35
    exact St.sel (L := _ :: _ :: _ :: A :: _ :: kn F :: L) (St.tgO_put (x := (q', xs[j].2)) (h36.sel 4 [2, 3, 0, 1])) 3 [1, 2, 0]
  · rw [List.take_of_length_le (by omega)] at hys
    exact k _ _ _ hys h
set_option maxHeartbeats 4000000 in
/-- CopyConfig. -/
theorem Copy_spec (S : Sz s) (cf : cfgR F ra pa s.routes s.pools) (h : St E (kn F :: L) w) (k : ∀ (G : Fz) (w' : World) (ra' pa' : Sl), Fz.le F G → cfgR G ra' pa' s.routes s.pools → St E (kn G :: L) w' → R (.returned (cfgV v ra' pa')) w') :
    Calls Tryz.prog 59 #[cfgV v ra pa] w R := by
  obtain ⟨rr, xs, hxs, rp, rt⟩ := cf
  have hrn := S.rn
  refine C_ref08_CopyConfig ?_
  unfold T_ref08_CopyConfig
  intro w4
  have h4 : St E (blkL w.heap.size 30 (cfgL v ra pa) :: kn F :: L) w4 := h.alloc _
  intro w5
  have h5 : St E (blkL w4.heap.size 30 (cfgL 0 (none, 0, 0) (none, 0, 0)) :: blkL w.heap.size 30 (cfgL v ra pa) :: kn F :: L) w5 := h4.alloc _
  intro w6
  have h6 : St E _ w6 := h5.drew
  clear_value w6
  clear h5 h4
  clear_value w5 w4
  generalize w4.heap.size = bt at *
  generalize w.heap.size = bc at *
  -- behind the copy of the pools
  have tail : ∀ {w : World} {bo : Nat} {ro po : Sl} {ys : List PlS}, ys.map (·.2) = s.pools → St E (blkL bo 30 (cfgL v ro po) :: plA po ys :: tgO ys :: rtA ro s.routes :: blkL bc 30 (cfgL v ra pa) :: kn F :: blkL bt 30 (cfgL 0 (none, 0, 0) (none, 0, 0)) :: L) w →
      (∃ x37 : Int, ∃ s38a : Option Addr, ∃ s38l : Nat, ∃ s38c : Nat, ∃ s39a : Option Addr, ∃ s39l : Nat, ∃ s39c : Nat, rd w (⟨bo, 0, none⟩ : Addr) (.agg #[.int .i64 x37, .slice s38a s38l s38c, .slice s39a s39l s39c]) ∧ (.agg #[.int .i64 x37, .slice s38a s38l s38c, .slice s39a s39l s39c] : Value).cells.size = 3 ∧ wrOk w (⟨bt, 0, none⟩ : Addr) (.agg #[.int .i64 x37, .slice s38a s38l s38c, .slice s39a s39l s39c]) ∧ let w40 : World := wr w (⟨bt, 0, none⟩ : Addr) (.agg #[.int .i64 x37, .slice s38a s38l s38c, .slice s39a s39l s39c])
      ∃ x41 : Int, ∃ s42a : Option Addr, ∃ s42l : Nat, ∃ s42c : Nat, ∃ s43a : Option Addr, ∃ s43l : Nat, ∃ s43c : Nat, rd w40 (⟨bt, 0, none⟩ : Addr) (.agg #[.int .i64 x41, .slice s42a s42l s42c, .slice s43a s43l s43c]) ∧ R (.returned (.agg #[.int .i64 x41, .slice s42a s42l s42c, .slice s43a s43l s43c])) w40) := fun {w bo ro po ys} hys h => by
    have h7 : St E (blkL bt 30 (cfgL 0 (none, 0, 0) (none, 0, 0)) :: rtA ro s.routes :: plA po ys :: tgO ys :: kn F :: L) w := h.sel 7 [6, 3, 1, 2, 5]
    refine ⟨_, _, _, _, _, _, _, rd_cfg h, rfl, ok_cfg h7 rfl v ro po, ?_⟩
    intro w40
    have h8 := St.wr_cfg h7 rfl v ro po
    obtain ⟨G, hG, h9, hc⟩ := St.cfg_freeze hys h8.drop
    exact ⟨_, _, _, _, _, _, _, rd_cfg h8, k G _ ro po hG hc h9⟩
  have hm2 : ∀ {A B : Asrt}, kn F ∈ A :: B :: kn F :: L := at2
  refine ⟨_, rd_cell h6.f1.at_blk rfl rfl, _, _, _, rd_fld h6.f1.at_blk rfl rfl, ⟨?_, ?_⟩⟩
  · intro w9
    have h9 : St E (rtA (some ⟨w6.heap.size, 0, none⟩, 0, 0) [] :: blkL bt 30 (cfgL 0 (none, 0, 0) (none, 0, 0)) :: blkL bc 30 (cfgL v ra pa) :: kn F :: L) w9 := h6.rt_zero
    clear_value w9
    refine ⟨⟨rd_fld h9.f2.at_blk rfl rfl, rd_cell h9.f2.at_blk rfl rfl, trivial⟩, ⟨?_, ?_⟩⟩
    · obtain ⟨ro, w11, hr, h11⟩ := app_rt (c2 := ra.2.2) h9 (rr.at h9 at3) (by simp; omega)
      rw [List.nil_append] at h11
      refine runV_ok hr ⟨_, _, _, rfl, ⟨rd_cell h11.f2.at_blk rfl rfl, trivial⟩, ?_⟩
      intro w13
      have h13 := h11.alloc (.cells ⟨cfgL 0 (none, 0, 0) (none, 0, 0)⟩ 30)
      refine ⟨⟨rd_cell h13.f3.at_blk rfl rfl, trivial⟩, rfl, ok_cfg h13 rfl v ro (none, 0, 0), ?_⟩
      intro w14
      have h14 := St.wr_cfg h13 rfl v ro (none, 0, 0)
      refine ⟨trivial, copy_l1 (A := rtA ro s.routes) (L := blkL bt 30 (cfgL 0 (none, 0, 0) (none, 0, 0)) :: L) S hxs rp rt ((h14.tgO_nil.pl_nil).sel 7 [2, 0, 1, 3, 5, 6, 4]) fun w36 po ys hys h36 => tail hys h36⟩
    · intro w44
      have h44 : St E (blkL w9.heap.size 30 (cfgL 0 (none, 0, 0) (none, 0, 0)) :: rtA (some ⟨w6.heap.size, 0, none⟩, 0, 0) [] :: blkL bt 30 (cfgL 0 (none, 0, 0) (none, 0, 0)) :: blkL bc 30 (cfgL v ra pa) :: kn F :: L) w44 := h9.alloc _
      clear_value w44
      generalize w9.heap.size = bo at *
      refine ⟨⟨rd_fld h44.f3.at_blk rfl rfl, rd_cell h44.f3.at_blk rfl rfl, trivial⟩, ?_⟩
      obtain ⟨ro, w11, hr, h11⟩ := app_rt (c2 := ra.2.2) h44.f1 (rr.at h44 at4) (by simp; omega)
      rw [List.nil_append] at h11
      refine runV_ok hr ⟨_, _, _, rfl, ⟨rd_cell h11.f3.at_blk rfl rfl, trivial⟩, rfl, ok_cfg h11.f1 rfl v ro (none, 0, 0), ?_⟩
      intro w14
      have h14 := St.wr_cfg h11.f1 rfl v ro (none, 0, 0)
      refine ⟨trivial, copy_l1 (A := rtA ro s.routes) (L := blkL bt 30 (cfgL 0 (none, 0, 0) (none, 0, 0)) :: L) S hxs rp rt ((h14.tgO_nil.pl_nil).sel 7 [2, 0, 1, 3, 5, 6, 4]) fun w36 po ys hys h36 => tail hys h36⟩
  · intro w57
    have h57 : St E (blkL w6.heap.size 30 (cfgL 0 (none, 0, 0) (none, 0, 0)) :: blkL bt 30 (cfgL 0 (none, 0, 0) (none, 0, 0)) :: blkL bc 30 (cfgL v ra pa) :: kn F :: L) w57 := h6.alloc _
    refine ⟨⟨rd_fld h57.f2.at_blk rfl rfl, rd_cell h57.f2.at_blk rfl rfl, trivial⟩, ?_⟩
    intro w58
    have h58 : St E (rtA (some ⟨w57.heap.size, 0, none⟩, 0, 0) [] :: blkL w6.heap.size 30 (cfgL 0 (none, 0, 0) (none, 0, 0)) :: blkL bt 30 (cfgL 0 (none, 0, 0) (none, 0, 0)) :: blkL bc 30 (cfgL v ra pa) :: kn F :: L) w58 := h57.rt_zero
    clear_value w58
    clear h57
    clear_value w57
    generalize w6.heap.size = bo at *
    refine ⟨⟨rd_fld h58.f3.at_blk rfl rfl, rd_cell h58.f3.at_blk rfl rfl, trivial⟩, ?_⟩
    obtain ⟨ro, w11, hr, h11⟩ := app_rt (c2 := ra.2.2) h58 (rr.at h58 at4) (by simp; omega)
    rw [List.nil_append] at h11
    refine runV_ok hr ⟨_, _, _, rfl, ⟨rd_cell h11.f3.at_blk rfl rfl, trivial⟩, rfl, ok_cfg h11.f1 rfl v ro (none, 0, 0), ?_⟩
    intro w14
    have h14 := St.wr_cfg h11.f1 rfl v ro (none, 0, 0)
    refine ⟨trivial, copy_l1 (A := rtA ro s.routes) (L := blkL bt 30 (cfgL 0 (none, 0, 0) (none, 0, 0)) :: L) S hxs rp rt ((h14.tgO_nil.pl_nil).sel 7 [2, 0, 1, 3, 5, 6, 4]) fun w36 po ys hys h36 => tail hys h36⟩
theorem rd_rf {ra pa la : Sl} (h : St E (blkL r 108 (rfL v ra pa la) :: L) w) : rd w ⟨r, 0, none⟩ (cfgV v ra pa) := rd_agg (xs := cfgL v ra pa) h.at_blk (by intro i u hu; rw [Nat.zero_add]; match i, hu with | 0, hu => exact hu | 1, hu => exact hu | 2, hu => exact hu | n + 3, hu => simp at hu)
theorem RConfig_spec (S : Sz s) (h : St E (refA F r s :: kn F :: L) w) (k : ∀ (G : Fz) (w' : World) (ra pa : Sl), Fz.le F G → cfgR G ra pa s.routes s.pools → St E (refA G r s :: kn G :: L) w' → R (.returned (cfgV s.ver ra pa)) w') : Calls Tryz.prog 53 #[.pointer (some ⟨r, 0, none⟩)] w R := by
  obtain ⟨ra, pa, la, hc, hl, h⟩ := h.rf_open
  refine C_ref08_Store_Config ?_
  unfold T_ref08_Store_Config
  intro w2
  have h2 : St E (blkL w.heap.size 30 (cfgL 0 (none, 0, 0) (none, 0, 0)) :: blkL r 108 (rfL s.ver ra pa la) :: kn F :: L) w2 := h.alloc _
  clear_value w2
  generalize w.heap.size = bt at *
  refine ite_some ⟨_, rfl, _, _, _, _, _, _, _, rd_rf h2.f1, ?_⟩
  refine Copy_spec (s := s) (L := blkL bt 30 (cfgL 0 (none, 0, 0) (none, 0, 0)) :: blkL r 108 (rfL s.ver ra pa la) :: L) S hc h2.f2 fun G w12 ra' pa' hG hc' h12 => ⟨_, _, _, _, _, _, _, rfl, rfl, ok_cfg h12.f1 rfl s.ver ra' pa', ?_⟩
  intro w16
  have h16 := St.wr_cfg h12.f1 rfl s.ver ra' pa'
  refine ⟨_, _, _, _, _, _, _, rd_cfg h16, k G _ ra' pa' hG hc' ?_⟩
  exact St.rf_mk (hc.mono hG) (RdF.mono hl hG) (St.sel (L := blkL bt 30 (cfgL s.ver ra' pa') :: kn G :: blkL r 108 (rfL s.ver ra pa la) :: L) h16 3 [2, 1])
end
end Go.Vc

/-
  The document's store's bytes; whether both stores tell the same; the law ConfDoes.
-/
namespace Go.Vc
open Go Go.Proofs Go.Proofs.YtcpmfjclkdjfmaaGreat Go.RowKit
set_option maxRecDepth 100000
section
variable {E w : World} {L : List Asrt} {R : Ending → World → Prop} {F G : Fz} {s : Cm.Sm} {p r : Nat} {ra pa la : Sl} {v : Int}
set_option maxHeartbeats 2000000 in
theorem rput_l {Kn : Option Addr → Nat → Nat → World → Prop} {Kp : List PanicEntry → World → Prop} {xs : Cm.Bs} {b : Sl} (hm : kn F ∈ L) (hln : s.l.length ≤ 64) (hl : RdF F la.1 la.2.1 4 (s.l.flatMap lcV))
    (h : St E (byA b xs :: blkL r 108 (rfL v ra pa la) :: L) w) (hx : xs.length ≤ 1000000)
    (k : ∀ (w : World) (b : Sl), St E (byA b (xs ++ s.l.flatMap Cm.laB) :: blkL r 108 (rfL v ra pa la) :: L) w → Kn b.1 b.2.1 b.2.2 w) :
    T_ref08_Store_Put_1 b.1 b.2.1 b.2.2 0 (some ⟨r, 0, none⟩) w Kn Kp := by
  have hbig : big = 140737488355328 := rfl
  have n1 := hl.count lcV_len (by decide) h (mem2 hm)
  unfold T_ref08_Store_Put_1
  intro X hX
  refine up_to s.l.length (Q := fun j => ∀ (w : World) (b : Sl), St E (byA b (xs ++ (s.l.take j).flatMap Cm.laB) :: blkL r 108 (rfL v ra pa la) :: L) w → X b.1 b.2.1 b.2.2 (j : Int) w) ?_ w b (by simpa using h)
  intro j hj ih w b h
  refine hX _ _ _ _ _ ?_
  unfold T_ref08_Store_Put_1_body
  refine ⟨_, rfl, _, _, _, rd_fld h.f1.at_blk rfl rfl, ?_⟩
  rw [← n1]
  refine ite_d (fun hc => ?_) fun hc => ?_
  · have hjl : j < s.l.length := by omega
    have hl1 := las_len hln j
    have m1 := num_len s.l[j].client; have m2 := num_len s.l[j].seq; have m3 := num_len s.l[j].e; have m4 := num_len s.l[j].ver
    intro w25
    have h25 : St E _ w25 := h.drew
    clear_value w25
    obtain ⟨ad, ha, _, hk, _⟩ := la_at (hl.at h25 (mem2 hm)) hjl
    have rr : ∀ {w : World} {A B : Asrt}, St E (A :: B :: L) w → ∀ k v, (lcV s.l[j])[k]? = some v → one v = true → rd w ((ad.add (j * 4)).add k) v := fun h k v h1 h2 => by
      obtain ⟨ad', ha', _, hk', _⟩ := la_at (hl.at h (mem2 hm)) hjl
      rw [ha] at ha'
      injection ha' with ha'
      subst ha'
      exact hk' k v h1 h2
    have hsp : ((ad.add (j * 4)).add 2).add 1 = (ad.add (j * 4)).add 3 := by
      have hz := (hl.at h25 (mem2 hm)).cells (by omega)
      obtain ⟨ad', ha', hs', _⟩ := hz
      rw [ha] at ha'
      injection ha' with ha'
      subst ha'
      obtain ⟨bb, oo, sp⟩ := ad
      simp only at hs'
      subst hs'
      rw [add_mk, add_mk, add_mk, add_mk]
    rw [Int.toNat_natCast]
    refine ⟨_, rfl, _, _, _, rd_fld h25.f1.at_blk rfl rfl, by omega, by omega, ad, ha, _, rr h25 0 _ rfl rfl, _, rfl, _, _, _, rd_fld h25.f1.at_blk rfl rfl, by omega, by omega, ad, ha, _, rr h25 1 _ rfl rfl, ?_⟩
    refine Rnum_spec (n := s.l[j].client) h25 (by simp only [List.length_append]; omega) fun w35 b35 h35 => ⟨_, _, _, rfl, ⟨rr h35 1 _ rfl rfl, rd_fld h35.f1.at_blk rfl rfl, rd_fld h35.f1.at_blk rfl rfl, trivial⟩, ?_⟩
    refine Rnum_spec (n := s.l[j].seq) h35 (by simp only [List.length_append]; omega) fun w38 b38 h38 => ⟨_, _, _, rfl, ⟨rd_fld h38.f1.at_blk rfl rfl, rd_fld h38.f1.at_blk rfl rfl, trivial⟩, ?_⟩
    intro w40
    have h40 : St E _ w40 := h38.drew
    clear_value w40
    refine ⟨_, rfl, _, _, _, rd_fld h40.f1.at_blk rfl rfl, by omega, by omega, ad, ha, _, rr h40 2 _ rfl rfl, _, rfl, _, _, _, rd_fld h40.f1.at_blk rfl rfl, by omega, by omega, ad, ha, _, by rw [hsp]; exact rr h40 3 _ rfl rfl, ?_⟩
    refine Rnum_spec (n := s.l[j].e) h40 (by simp only [List.length_append]; omega) fun w50 b50 h50 => ⟨_, _, _, rfl, ⟨by rw [hsp]; exact rr h50 3 _ rfl rfl, rd_fld h50.f1.at_blk rfl rfl, rd_fld h50.f1.at_blk rfl rfl, trivial⟩, ?_⟩
    refine Rnum_spec (n := s.l[j].ver) h50 (by simp only [List.length_append]; omega) fun w53 b53 h53 => ⟨_, _, _, rfl, ⟨rd_fld h53.f1.at_blk rfl rfl, rd_fld h53.f1.at_blk rfl rfl, trivial⟩, ?_⟩
    rw [succ_big (by omega)]
    refine ih hjl _ _ ?_
    rw [List.take_succ_eq_append_getElem hjl, List.flatMap_append]
    simpa [Cm.laB] using h53
  · rw [List.take_of_length_le (by omega)] at h
    exact k _ _ h
/-- (*Store).Put, in the document's words. -/
theorem RPut_spec (hm : kn F ∈ L) (S : Sz s) (hln : s.l.length ≤ 64) (h : St E (refA F r s :: L) w)
    (k : ∀ (w' : World) (b' : Sl), St E (byA b' (Cm.putS s) :: refA F r s :: L) w' → R (.returned (.slice b'.1 b'.2.1 b'.2.2)) w') : Calls Tryz.prog 54 #[.pointer (some ⟨r, 0, none⟩)] w R := by
  have hbig : big = 140737488355328 := rfl
  obtain ⟨ra, pa, la, hc, hl, h⟩ := h.rf_open
  have hcb := confB_len S
  have hn1 := num_len s.ver
  have hn2 := num_len s.l.length
  have nl := hl.count lcV_len (by decide) h (mem1 hm)
  refine C_ref08_Store_Put ?_
  unfold T_ref08_Store_Put
  refine ite_some ?_
  intro w2
  have h2 : St E _ w2 := h.drew
  clear_value w2
  refine ⟨_, rfl, _, rd_cell h2.at_blk rfl rfl, _, rfl, _, _, _, _, _, _, _, rd_rf h2, _, rfl, _, _, _, rd_fld h2.at_blk rfl rfl, ?_⟩
  refine Rnum_spec (s := (none, 0, 0)) (xs := []) h2.by_nil (by rw [List.length_nil]; omega) fun w12 b12 h12 => ⟨_, _, _, rfl, ⟨rd_fld h12.f1.at_blk rfl rfl, rd_rf h12.f1, trivial⟩, ?_⟩
  rw [List.nil_append] at h12
  refine Rconfig_spec (mem1 hm) S hc h12 (by omega) fun w15 b15 h15 => ⟨_, _, _, rfl, ⟨rd_fld h15.f1.at_blk rfl rfl, trivial⟩, ?_⟩
  rw [← nl]
  refine Rnum_spec h15 (by simp only [List.length_append]; omega) fun w18 b18 h18 => ⟨_, _, _, rfl, trivial, ?_⟩
  refine rput_l hm hln hl h18 (by simp only [List.length_append]; omega) fun w60 b60 h60 => k _ _ ?_
  have h9 : St E (byA b60 (Cm.putS s) :: blkL r 108 (rfL s.ver ra pa la) :: L) w60 := by simpa [Cm.putS] using h60
  exact (St.rf_mk hc hl h9.f1).f1
theorem conv_by {b : Sl} {xs : Cm.Bs} (h : St E (byA b xs :: L) w) : (convert 56 9 (.slice b.1 b.2.1 b.2.2)).run Tryz.prog w = .ok (.string (bs xs)) w :=
  convert_string (e := 5) (by kernel_rfl) (by kernel_rfl) (by kernel_rfl) h.rdS_own
set_option maxHeartbeats 4000000 in
/-- same: both at the same state: they tell the same. -/
theorem same_spec (I : Cm.Inv s) (h : St E (stA F p s :: refA F r s :: kn F :: L) w) (k : ∀ (G : Fz) (w' : World), Fz.le F G → St E (stA G p s :: refA G r s :: kn G :: L) w' → R (.returned (.bool true)) w') :
    Calls Tryz.prog 26 #[.pointer (some ⟨p, 0, none⟩), .pointer (some ⟨r, 0, none⟩)] w R := by
  have S := Sz.of I
  have hpn := I.pn
  have hrn := I.rn
  have hln := I.ln
  refine C_law08_same ?_
  unfold T_law08_same T_law08_same_1
  intro w5
  have h5 : St E (stA F p s :: refA F r s :: kn F :: L) w5 := h.drew
  clear_value w5
  refine Config_kn S (h5.sel 3 [0, 2, 1]) fun G1 w7 ra pa hG1 hc1 h7 => ⟨_, _, _, _, _, _, _, rfl, trivial, ?_⟩
  have h8 : St E (refA G1 r s :: kn G1 :: stA G1 p s :: L) w7 := (St.sel (L := stA G1 p s :: kn G1 :: refA F r s :: L) h7 3 [2, 1, 0]).rf_mono hG1
  refine RConfig_spec S h8 fun G2 w12 ra2 pa2 hG2 hc2 h12 => ⟨_, _, _, _, _, _, _, rfl, trivial, ?_⟩
  have l2 := Fz.le_trans hG1 hG2
  have h13 : St E (stA G2 p s :: refA G2 r s :: kn G2 :: L) w12 := (St.sel (L := refA G2 r s :: kn G2 :: stA G1 p s :: L) h12 3 [2, 0, 1]).st_mono hG2
  refine SameConfig_spec (v1 := s.ver) (v2 := s.ver) at2 h13 (hc1.mono hG2) hc2 (by omega) (by omega) (fun x hx => by have := (S.pl x hx).2.1; unfold huge; omega) fun w17 h17 => ⟨_, rfl, trivial, ite_n (fun hh => by simp at hh) fun _ => ?_⟩
  have fin : ∀ {w : World} {x y : Bool}, x = false → St E (stA G2 p s :: refA G2 r s :: kn G2 :: L) w → (fun b49 w50 => if b49 = true then (R (.returned (.bool false)) w50) else (T_law08_same_2 (-1) (some ⟨p, 0, none⟩) (some ⟨r, 0, none⟩) w50 (fun w79 => R (.returned (.bool true)) w79) (fun b80 w81 => R (.returned (.bool b80)) w81) (pan R))) x w := fun {w x y} hx h => by
    subst hx
    refine ite_b (fun hh => by cases hh) fun _ => ?_
    unfold T_law08_same_2
    intro X hX
    have key : ∀ (n : Nat) (i : Int) (w : World), i = 34 - (n : Int) → n ≤ 35 → St E (stA G2 p s :: refA G2 r s :: kn G2 :: L) w → X i w := by
      intro n
      induction n with
      | zero =>
        intro i w hi _ h
        refine hX _ _ ?_
        unfold T_law08_same_2_body
        exact ite_d (fun hh => absurd hh (by omega)) fun _ => k G2 _ l2 h
      | succ n ih =>
        intro i w hi hn h
        refine hX _ _ ?_
        unfold T_law08_same_2_body
        refine ite_d (fun _ => ?_) fun hh => absurd hh (by omega)
        refine Seen_spec h fun w55 h55 => ⟨_, _, _, rfl, ?_⟩
        generalize hq : Cm.seenC s i = sq at *
        intro w59
        have h59 := h55.alloc (.cells #[.int .i64 0, .int .i64 0] 45)
        refine ⟨rfl, ok_res h59 rfl sq.2.1 sq.2.2, ?_⟩
        intro w60
        have h60 : St E (blkL w55.heap.size 45 (rsL sq.2.1 sq.2.2) :: stA G2 p s :: refA G2 r s :: kn G2 :: L) w60 := h59.wr_res rfl sq.2.1 sq.2.2
        clear_value w60
        clear h59
        clear_value w59
        generalize w55.heap.size = b1 at *
        refine RSeen_spec (L := blkL b1 45 (rsL sq.2.1 sq.2.2) :: stA G2 p s :: kn G2 :: L) at2 (by omega) (h60.sel 4 [2, 0, 1, 3]) fun w62 h62 => ?_
        rw [hq]
        refine ⟨_, _, _, rfl, ?_⟩
        intro w66
        have h66 := h62.alloc (.cells #[.int .i64 0, .int .i64 0] 45)
        refine ⟨rfl, ok_res h66 rfl sq.2.1 sq.2.2, ?_⟩
        intro w67
        have h67 : St E (blkL w62.heap.size 45 (rsL sq.2.1 sq.2.2) :: refA G2 r s :: blkL b1 45 (rsL sq.2.1 sq.2.2) :: stA G2 p s :: kn G2 :: L) w67 := h66.wr_res rfl sq.2.1 sq.2.2
        clear_value w67
        refine ite_b (fun hh => by simp at hh) fun _ => ⟨_, _, rd_res h67.f2, _, _, rd_res h67, ?_⟩
        refine runV_ok (res_ne _ _ _ _ _ _) ?_
        refine ⟨_, rfl, ?_⟩
        refine ite_b (fun hh => ?_) fun _ => ?_
        · simp at hh
        · rw [wrap_id (by omega) (by omega)]
          exact ih (i + 1) _ (by omega) (by omega) (h67.sel 5 [3, 1, 4])
    exact key 35 (-1) w (by omega) (by omega) h
  have hne : (!((bs (Cm.putS s)).toList == (bs (Cm.putS s)).toList)) = false := by simp
  refine Put_spec (L := refA G2 r s :: kn G2 :: L) at1 S I.lr (by omega) h17 fun w20 b20 h20 => ⟨_, _, _, rfl, trivial, ⟨?_, ?_⟩⟩
  · refine runV_ok (conv_by h20) ⟨_, rfl, trivial, ?_⟩
    refine RPut_spec (L := byA b20 (Cm.putS s) :: stA G2 p s :: kn G2 :: L) at2 S (by omega) (h20.sel 4 [2, 0, 1, 3]) fun w26 b26 h26 => ⟨_, _, _, rfl, trivial, ?_⟩
    refine runV_ok (conv_by h26) ⟨_, rfl, trivial, ?_⟩
    exact fin (y := true) hne (St.sel (L := byA b26 (Cm.putS s) :: refA G2 r s :: byA b20 (Cm.putS s) :: stA G2 p s :: kn G2 :: L) h26 5 [3, 1, 4])
  · refine RPut_spec (L := byA b20 (Cm.putS s) :: stA G2 p s :: kn G2 :: L) at2 S (by omega) (h20.sel 4 [2, 0, 1, 3]) fun w26 b26 h26 => ⟨_, _, _, rfl, trivial, ⟨?_, ?_⟩⟩
    · refine runV_ok (conv_by h26.f2) ⟨_, rfl, trivial, ?_⟩
      refine runV_ok (conv_by h26) ⟨_, rfl, trivial, ?_⟩
      exact fin (y := true) hne (St.sel (L := byA b26 (Cm.putS s) :: refA G2 r s :: byA b20 (Cm.putS s) :: stA G2 p s :: kn G2 :: L) h26 5 [3, 1, 4])
    · refine runV_ok (conv_by h26) ⟨_, rfl, trivial, ?_⟩
      refine runV_ok (conv_by h26.f2) ⟨_, rfl, trivial, ?_⟩
      exact fin (y := true) hne (St.sel (L := byA b26 (Cm.putS s) :: refA G2 r s :: byA b20 (Cm.putS s) :: stA G2 p s :: kn G2 :: L) h26 5 [3, 1, 4])
end
end Go.Vc

/-
  Fork: the program's and the document's.
-/
namespace Go.Vc
open Go Go.Proofs Go.Proofs.YtcpmfjclkdjfmaaGreat Go.RowKit
set_option maxRecDepth 100000
section
variable {E w : World} {L : List Asrt} {R : Ending → World → Prop} {F G : Fz} {s : Cm.Sm} {p r : Nat}
theorem run_clone_map {b : Nat} {es : Array MapEntry} {clock : Nat} (t : TypeId) (hb : w.heap[b]? = some (.map es clock)) :
    (callFunc 96 #[.iface t (.map (some b))]).run Tryz.prog w = .ok (.value (.iface t (.map (some w.heap.size)))) (w.alloc (.map es clock)) := by
  have e : Extern.MapsClone.clone #[.iface t (.map (some b))] = (getObj b >>= fun o => match o with
      | .map entries clock => (newObj (.map entries clock) >>= fun n => pure (.iface t (.map (some n))))
      | _ => stuck "maps.clone: a map expected") := rfl
  rw [run_callFunc_extern Tryz.func96 (e := Extern.MapsClone.clone) (by kernel_rfl) (by kernel_rfl) (by kernel_rfl) (by kernel_rfl), e]
  simp [run_getObj_map hb, Result.andThen, newObj, Sem.run]
theorem run_assert_map {t k e : TypeId} (ht : Tryz.prog.underlying t = some (.map k e)) (m : Option Nat) : (Instr.typeAssert (.iface t (.map m)) 20 t false).run Tryz.prog w = .ok (.map m) w := by
  simp [Instr.typeAssert, run_underlying_ ht, Result.andThen]
section
variable {κ ν : Type} [DecidableEq κ] {kv : κ → Value} {vv : ν → Value} {m : List (κ × ν)} {b : Nat}
theorem St.clone (h : St E (mapA b kv vv m :: L) w) : ∃ es clock, w.heap[b]? = some (.map es clock) ∧ St E (mapA w.heap.size kv vv m :: mapA b kv vv m :: L) (w.alloc (.map es clock)) := by
  obtain ⟨es, clock, hs, he, hn⟩ := h.mapA_open
  have h2 := hs.alloc (.map es clock)
  exact ⟨es, clock, hs.at_blk, St.mapA_mk (St.mapA_mk h2.f1 he hn).f1 he hn⟩
end
theorem cloneP_spec {m : List (Cm.Bs × PV)} {b : Nat} (h : St E (mapA b encS pvV m :: L) w) (k : ∀ w' b', St E (mapA b' encS pvV m :: mapA b encS pvV m :: L) w' → R (.returned (.map (some b'))) w') :
    Calls Tryz.prog 56 #[.map (some b)] w R := by
  refine C_maps_Clone_map_string_api_Target_string_api_Target ?_
  unfold T_maps_Clone_map_string_api_Target_string_api_Target
  obtain ⟨es, clock, hb, h2⟩ := h.clone
  refine ite_some (runV_ok (run_clone_map 75 hb) ⟨_, rfl, rfl, ?_⟩)
  exact runV_ok (run_assert_map und_pools _) ⟨_, rfl, k _ _ h2⟩
theorem cloneR_spec {m : List (Pr × Cm.Bs)} {b : Nat} (h : St E (mapA b encP encS m :: L) w) (k : ∀ w' b', St E (mapA b' encP encS m :: mapA b encP encS m :: L) w' → R (.returned (.map (some b'))) w') :
    Calls Tryz.prog 57 #[.map (some b)] w R := by
  refine C_maps_Clone_string ?_
  unfold T_maps_Clone_string
  obtain ⟨es, clock, hb, h2⟩ := h.clone
  refine ite_some (runV_ok (run_clone_map 76 hb) ⟨_, rfl, rfl, ?_⟩)
  exact runV_ok (run_assert_map und_routes _) ⟨_, rfl, k _ _ h2⟩
theorem cloneC_spec {m : List (Int × LV)} {b : Nat} (h : St E (mapA b encI lvV m :: L) w) (k : ∀ w' b', St E (mapA b' encI lvV m :: mapA b encI lvV m :: L) w' → R (.returned (.map (some b'))) w') :
    Calls Tryz.prog 58 #[.map (some b)] w R := by
  refine C_maps_Clone_conf_seen ?_
  unfold T_maps_Clone_conf_seen
  obtain ⟨es, clock, hb, h2⟩ := h.clone
  refine ite_some (runV_ok (run_clone_map 77 hb) ⟨_, rfl, rfl, ?_⟩)
  exact runV_ok (run_assert_map und_clients _) ⟨_, rfl, k _ _ h2⟩
/-- (*Store).Fork. -/
theorem Fork_spec (h : St E (stA F p s :: L) w) (k : ∀ w' p', St E (stA F p' s :: stA F p s :: L) w' → R (.returned (.pointer (some ⟨p', 0, none⟩))) w') : Calls Tryz.prog 27 #[.pointer (some ⟨p, 0, none⟩)] w R := by
  obtain ⟨mp, mr, mc, Mp, Mr, Mc, hp, hr, hc, h⟩ := h.st_open
  refine C_conf_Store_Fork ?_
  unfold T_conf_Store_Fork
  refine ite_some ?_
  intro w2
  have h2 : St E (st4 p s.ver mp mr mc Mp Mr Mc L) w2 := h.drew
  clear_value w2
  refine ⟨_, rfl, _, rd_cell h2.at_blk rfl rfl, _, rfl, _, rd_fld h2.at_blk rfl rfl, _, rfl, _, rd_fld h2.at_blk rfl rfl, _, rfl, _, rd_fld h2.at_blk rfl rfl, ?_⟩
  refine cloneP_spec (L := blkL p 79 (stL s.ver mp mr mc) :: mapA mr encP encS Mr :: mapA mc encI lvV Mc :: L) h2.f1 fun w12 mp' h12 => ⟨_, rfl, ⟨rd_fld h12.f2.at_blk rfl rfl, rd_fld h12.f2.at_blk rfl rfl, rd_cell h12.f2.at_blk rfl rfl, trivial⟩, ?_⟩
  refine cloneR_spec (L := mapA mp' encS pvV Mp :: mapA mp encS pvV Mp :: blkL p 79 (stL s.ver mp mr mc) :: mapA mc encI lvV Mc :: L) h12.f3 fun w15 mr' h15 => ⟨_, rfl, ⟨rd_fld h15.f4.at_blk rfl rfl, rd_cell h15.f4.at_blk rfl rfl, trivial⟩, ?_⟩
  refine cloneC_spec (L := mapA mr' encP encS Mr :: mapA mr encP encS Mr :: mapA mp' encS pvV Mp :: mapA mp encS pvV Mp :: blkL p 79 (stL s.ver mp mr mc) :: L) h15.f5 fun w18 mc' h18 => ⟨_, rfl, ⟨rd_cell (St.sel (L := _ :: _ :: _ :: _ :: _ :: _ :: _ :: L) h18 7 [6]).at_blk rfl rfl, trivial⟩, ?_⟩
  intro w20
  have h20 := h18.alloc (.cells #[.int .i64 s.ver, .map (some mp'), .map (some mr'), .map (some mc')] 79)
  refine ⟨trivial, k _ w18.heap.size ?_⟩
  have h21 : St E (st4 w18.heap.size s.ver mp' mr' mc' Mp Mr Mc (st4 p s.ver mp mr mc Mp Mr Mc L)) w20 := St.sel (L := _ :: _ :: _ :: _ :: _ :: _ :: _ :: _ :: L) h20 8 [0, 5, 3, 1, 7, 6, 4, 2]
  have h22 : St E (stA F w18.heap.size s :: st4 p s.ver mp mr mc Mp Mr Mc L) w20 := St.st_mk hp hr hc h21
  have h23 : St E (st4 p s.ver mp mr mc Mp Mr Mc (stA F w18.heap.size s :: L)) w20 := St.sel (L := _ :: _ :: _ :: _ :: _ :: L) h22 5 [1, 2, 3, 4, 0]
  exact (St.st_mk hp hr hc h23).f1
/-- The document's. -/
theorem RFork_spec (I : Cm.Inv s) (h : St E (refA F r s :: kn F :: L) w) (k : ∀ G w' r', Fz.le F G → St E (refA G r' s :: refA G r s :: kn G :: L) w' → R (.returned (.pointer (some ⟨r', 0, none⟩))) w') : Calls Tryz.prog 28 #[.pointer (some ⟨r, 0, none⟩)] w R := by
  have S := Sz.of I
  have hln := I.ln
  obtain ⟨ra, pa, la, hc, hl, h⟩ := h.rf_open
  refine C_ref08_Store_Fork ?_
  unfold T_ref08_Store_Fork
  refine ite_some ?_
  intro w2
  have h2 : St E (blkL r 108 (rfL s.ver ra pa la) :: kn F :: L) w2 := h.drew
  clear_value w2
  have fin : ∀ {w : World} {G : Fz} {ra' pa' la' : Sl}, Fz.le F G → cfgR G ra' pa' s.routes s.pools → St E (laA la' s.l :: kn G :: blkL r 108 (rfL s.ver ra pa la) :: L) w →
      R (.returned (.pointer (some (⟨w.heap.size, 0, none⟩ : Addr)))) (w.alloc (.cells #[.int .i64 s.ver, .slice ra'.1 ra'.2.1 ra'.2.2, .slice pa'.1 pa'.2.1 pa'.2.2, .slice la'.1 la'.2.1 la'.2.2] 108)) := fun {w G ra' pa' la'} hG hc' h => by
    obtain ⟨G2, hG2, h1, hla⟩ := St.freeze_la h
    have h2 : St E (blkL w.heap.size 108 (rfL s.ver ra' pa' la') :: kn G2 :: blkL r 108 (rfL s.ver ra pa la) :: L) (w.alloc (.cells #[.int .i64 s.ver, .slice ra'.1 ra'.2.1 ra'.2.2, .slice pa'.1 pa'.2.1 pa'.2.2, .slice la'.1 la'.2.1 la'.2.2] 108)) := h1.alloc _
    refine k G2 _ _ (Fz.le_trans hG hG2) ?_
    have h3 := St.rf_mk (hc'.mono hG2) hla h2
    have h4 : St E (blkL r 108 (rfL s.ver ra pa la) :: refA G2 w.heap.size s :: kn G2 :: L) _ := St.sel (L := _ :: _ :: _ :: L) h3 3 [2, 0, 1]
    exact (St.rf_mk (hc.mono (Fz.le_trans hG hG2)) (RdF.mono hl (Fz.le_trans hG hG2)) h4).f1
  refine ⟨_, rfl, _, _, _, _, _, _, _, rd_rf h2, _, rfl, _, _, _, rd_fld h2.at_blk rfl rfl, ⟨?_, ?_⟩⟩
  · refine Copy_spec (s := s) (L := blkL r 108 (rfL s.ver ra pa la) :: L) S hc h2.f1 fun G w10 ra' pa' hG hc' h10 => ⟨_, _, _, _, _, _, _, rfl, ⟨rd_fld h10.f1.at_blk rfl rfl, trivial⟩, ?_⟩
    intro w14
    have h14 := h10.la_zero
    refine ⟨⟨rd_fld h14.f2.at_blk rfl rfl, trivial⟩, ?_⟩
    obtain ⟨la', w16, hrun, h16⟩ := app_la (c2 := la.2.2) h14 ((RdF.mono hl hG).at h14 at1) (by simp; omega)
    rw [List.nil_append] at h16
    exact runV_ok hrun ⟨_, _, _, rfl, trivial, trivial, fin hG hc' h16⟩
  · intro w19
    have h19 : St E (laA (some ⟨w2.heap.size, 0, none⟩, 0, 0) [] :: blkL r 108 (rfL s.ver ra pa la) :: kn F :: L) w19 := h2.la_zero
    clear_value w19
    refine ⟨⟨rd_fld h19.f1.at_blk rfl rfl, rd_rf h19.f1, trivial⟩, ?_⟩
    refine Copy_spec (s := s) (L := laA (some ⟨w2.heap.size, 0, none⟩, 0, 0) [] :: blkL r 108 (rfL s.ver ra pa la) :: L) S hc h19.f2 fun G w21 ra' pa' hG hc' h21 => ⟨_, _, _, _, _, _, _, rfl, ⟨rd_fld h21.f2.at_blk rfl rfl, trivial⟩, ?_⟩
    obtain ⟨la', w16, hrun, h16⟩ := app_la (c2 := la.2.2) h21.f1 ((RdF.mono hl hG).at h21 at0) (by simp; omega)
    rw [List.nil_append] at h16
    exact runV_ok hrun ⟨_, _, _, rfl, trivial, trivial, fin hG hc' h16⟩
end
end Go.Vc

/-
  What the functions' code comes to; printed by a program of this claim's own.
-/
namespace Go.Proofs.YtcpmfjclkdjfmaaGreat
open Go Go.Vc
set_option maxRecDepth 100000
set_option linter.unusedVariables false

/-! tollgate/tollgatelaw08.ConfForks -/
def T_law08_ConfForks_2 (more18a : Option Addr) (more18l : Nat) (more18c : Nat) (i19 : Int) (w : World) (Kn : Bool → World → Prop) (Kp : List PanicEntry → World → Prop) : Prop :=
  if (decide ((i19 : Int) < ((more18l : Nat) : Int))) = true then (Kn (decide ((i19 : Int) < 150)) w) else (Kn false w)

def T_law08_ConfForks_2_outs : Exit → Option (List (Nat × Value)) := fun x => match x with | .normal => some [(36, .bool false)] | .panic _ => some [] | _ => none

def T_law08_ConfForks_2_ks : Nat → Bool := ksOf [29, 30, 31, 32, 33, 34, 35, 36]

def H_law08_ConfForks_2 : Env → World → QT → Prop := unitHook 127 T_law08_ConfForks_2_ks [(1, .slice none 0 0), (10, .int .i64 0)] T_law08_ConfForks_2_outs fun l w C => match l with | [v0, v1] => T_law08_ConfForks_2 (pA v0) (pL v0) (pC v0) (pInt v1) w (fun b21 w => C .normal [.bool b21] w) (fun ch w => C (.panic ch) [] w) | _ => False

theorem T_law08_ConfForks_2_hl : allP (hokL Tryz.prog (hookAt []) (at_ (bodyOf Tryz.f8) [1, 1, 1, 1, 0, 1, 0, 0, 0, 0]) 2000) = (True) := by kernel_rfl
theorem T_law08_ConfForks_2_hok : HOk Tryz.prog (hookAt []) (at_ (bodyOf Tryz.f8) [1, 1, 1, 1, 0, 1, 0, 0, 0, 0]) 2000 := HOk_of _ _ (by rw [T_law08_ConfForks_2_hl]; exact trivial)

theorem T_law08_ConfForks_2_eq (C : Conts) (more18a : Option Addr) (more18l : Nat) (more18c : Nat) (i19 : Int) (w : World) : vcCode Tryz.prog (hookAt []) (at_ (bodyOf Tryz.f8) [1, 1, 1, 1, 0, 1, 0, 0, 0, 0]) 2000 ⟨[(1, .slice more18a more18l more18c), (10, .int .i64 i19)], 127, []⟩ w (unitQ T_law08_ConfForks_2_outs C) = T_law08_ConfForks_2 more18a more18l more18c i19 w (fun b22 w => C .normal [.bool b22] w) (fun ch w => C (.panic ch) [] w) := by kernel_rfl

theorem T_law08_ConfForks_2_ok : UnitOk Tryz.prog H_law08_ConfForks_2 (at_ (bodyOf Tryz.f8) [1, 1, 1, 1, 0, 1, 0, 0, 0, 0]) 2000 := unit_ok (H := (hookAt [])) (by kernel_rfl) T_law08_ConfForks_2_hok fun l w C hk => by
    obtain ⟨v0, l_v0, rfl, k_v0, hk_v0⟩ := Kinds.cons_ hk
    obtain ⟨more18a, more18l, more18c, rfl⟩ := kind_slice k_v0
    obtain ⟨v1, l_v1, rfl, k_v1, hk_v1⟩ := Kinds.cons_ hk_v0
    obtain ⟨i19, rfl⟩ := kind_int k_v1
    obtain rfl := Kinds.nil_ hk_v1
    exact T_law08_ConfForks_2_eq C more18a more18l more18c i19 w

def T_law08_ConfForks_1_body (X : Int → World → Prop) (i14 : Int) (more15a : Option Addr) (more15l : Nat) (more15c : Nat) (f16 : Option Addr) (g17 : Option Addr) (w : World) (Kn : World → Prop) (Kr : Bool → World → Prop) (Kp : List PanicEntry → World → Prop)  : Prop :=
  T_law08_ConfForks_2 more15a more15l more15c i14 w (fun b23 w24 => if b23 = true then (let w25 : World := w24.drew
  0 ≤ (i14 : Int) ∧ (i14 : Int) < ((more15l : Nat) : Int) ∧ ∃ b26, more15a = some b26 ∧ ∃ x27 : Int, ∃ x28 : Int, ∃ x29 : Int, ∃ x30 : Int, ∃ s31 : ByteArray, ∃ s32 : ByteArray, ∃ s33 : ByteArray, ∃ s34a : Option Addr, ∃ s34l : Nat, ∃ s34c : Nat, rd w25 (b26.add ((i14 : Int).toNat * 8)) (.agg #[.int .i64 x27, .int .i64 x28, .int .i64 x29, .int .i64 x30, .string s31, .string s32, .string s33, .slice s34a s34l s34c]) ∧ Calls Tryz.prog 16 #[.agg #[.int .i64 x27, .int .i64 x28, .int .i64 x29, .int .i64 x30, .string s31, .string s32, .string s33, .slice s34a s34l s34c]] w25 (ret (fun r35 w36 => ∃ b37 : Bool, r35 = .bool b37 ∧ (True) ∧ if b37 = true then (0 ≤ (i14 : Int) ∧ (i14 : Int) < ((more15l : Nat) : Int) ∧ ∃ b38, more15a = some b38 ∧ ∃ x39 : Int, ∃ x40 : Int, ∃ x41 : Int, ∃ x42 : Int, ∃ s43 : ByteArray, ∃ s44 : ByteArray, ∃ s45 : ByteArray, ∃ s46a : Option Addr, ∃ s46l : Nat, ∃ s46c : Nat, rd w36 (b38.add ((i14 : Int).toNat * 8)) (.agg #[.int .i64 x39, .int .i64 x40, .int .i64 x41, .int .i64 x42, .string s43, .string s44, .string s45, .slice s46a s46l s46c]) ∧ 0 ≤ (i14 : Int) ∧ (i14 : Int) < ((more15l : Nat) : Int) ∧ ∃ b47, more15a = some b47 ∧ ∃ x48 : Int, ∃ x49 : Int, ∃ x50 : Int, ∃ x51 : Int, ∃ s52 : ByteArray, ∃ s53 : ByteArray, ∃ s54 : ByteArray, ∃ s55a : Option Addr, ∃ s55l : Nat, ∃ s55c : Nat, rd w36 (b47.add ((i14 : Int).toNat * 8)) (.agg #[.int .i64 x48, .int .i64 x49, .int .i64 x50, .int .i64 x51, .string s52, .string s53, .string s54, .slice s55a s55l s55c]) ∧ Calls Tryz.prog 17 #[.pointer f16, .agg #[.int .i64 x39, .int .i64 x40, .int .i64 x41, .int .i64 x42, .string s43, .string s44, .string s45, .slice s46a s46l s46c]] w36 (ret (fun r56 w57 => ∃ x58 : Int, ∃ x59 : Int, r56 = .agg #[.int .i64 x58, .int .i64 x59] ∧ (rd w57 (b47.add ((i14 : Int).toNat * 8)) (.agg #[.int .i64 x48, .int .i64 x49, .int .i64 x50, .int .i64 x51, .string s52, .string s53, .string s54, .slice s55a s55l s55c]) ∧ True) ∧ Calls Tryz.prog 29 #[.pointer g17, .agg #[.int .i64 x48, .int .i64 x49, .int .i64 x50, .int .i64 x51, .string s52, .string s53, .string s54, .slice s55a s55l s55c]] w57 (ret (fun r60 w61 => ∃ x62 : Int, ∃ x63 : Int, r60 = .agg #[.int .i64 x62, .int .i64 x63] ∧ (True) ∧ runV Tryz.prog (do eqGuard .neq 45 (.tmp 50) (.tmp 56) (.agg #[.int .i64 x58, .int .i64 x59]) (.agg #[.int .i64 x62, .int .i64 x63]); binOp .neq 45 (.agg #[.int .i64 x58, .int .i64 x59]) (.agg #[.int .i64 x62, .int .i64 x63])) w61 (fun r64 w65 => ∃ b66 : Bool, r64 = .bool b66 ∧ (True) ∧ if b66 = true then (Kr false w65) else (X (IntKind.wrap .i64 ((i14 : Int) + 1)) w65)) Kp) Kp)) Kp)) else ((True) ∧ (True) ∧ (True) ∧ X (IntKind.wrap .i64 ((i14 : Int) + 1)) w36)) Kp)) else (Kn  w24)) Kp

def T_law08_ConfForks_1 (i14 : Int) (more15a : Option Addr) (more15l : Nat) (more15c : Nat) (f16 : Option Addr) (g17 : Option Addr) (w : World) (Kn : World → Prop) (Kr : Bool → World → Prop) (Kp : List PanicEntry → World → Prop) : Prop :=
  ∀ X : Int → World → Prop, (∀ (i14 : Int) (w : World), T_law08_ConfForks_1_body X i14 more15a more15l more15c f16 g17 w Kn Kr Kp → X i14 w) → X i14 w

def T_law08_ConfForks_1_outs : Exit → Option (List (Nat × Value)) := fun x => match x with | .normal => some [] | .ret => some [(4, .bool false)] | .panic _ => some [] | _ => none

def T_law08_ConfForks_1_ks : Nat → Bool := ksOf [4, 10, 29, 30, 31, 32, 33, 34, 35, 36, 37, 38, 39, 40, 41, 42, 43, 44, 45, 46, 47, 48, 49, 50, 51, 52, 53, 54, 55, 56, 57, 58]

def H_law08_ConfForks_1 : Env → World → QT → Prop := unitHook 127 T_law08_ConfForks_1_ks [(10, .int .i64 0), (1, .slice none 0 0), (8, .pointer none), (9, .pointer none)] T_law08_ConfForks_1_outs fun l w C => match l with | [v0, v1, v2, v3] => T_law08_ConfForks_1 (pInt v0) (pA v1) (pL v1) (pC v1) (pPtr v2) (pPtr v3) w (fun w => C .normal [] w) (fun b68 w => C .ret [.bool b68] w) (fun ch w => C (.panic ch) [] w) | _ => False

theorem T_law08_ConfForks_1_hl : allP (hokL Tryz.prog (hookAt [(2000, H_law08_ConfForks_2)]) (at_ (bodyOf Tryz.f8) [1, 1, 1, 1, 0, 1, 0, 0]) 500) = (UnitOk Tryz.prog H_law08_ConfForks_2 (at_ (bodyOf Tryz.f8) [1, 1, 1, 1, 0, 1, 0, 0, 0, 0]) 2000 ∧ True) := by kernel_rfl
theorem T_law08_ConfForks_1_hok : HOk Tryz.prog (hookAt [(2000, H_law08_ConfForks_2)]) (at_ (bodyOf Tryz.f8) [1, 1, 1, 1, 0, 1, 0, 0]) 500 := HOk_of _ _ (by rw [T_law08_ConfForks_1_hl]; exact ⟨T_law08_ConfForks_2_ok, trivial⟩)

theorem T_law08_ConfForks_1_eq (C : Conts) (X : List Value → World → Prop) (i14 : Int) (more15a : Option Addr) (more15l : Nat) (more15c : Nat) (f16 : Option Addr) (g17 : Option Addr) (w : World) : vcCode Tryz.prog (hookAt [(2000, H_law08_ConfForks_2)]) (at_ (bodyOf Tryz.f8) [1, 1, 1, 1, 0, 1, 0, 0]) 500 ⟨[(10, .int .i64 i14)] ++ [(1, .slice more15a more15l more15c), (8, .pointer f16), (9, .pointer g17)], 127, []⟩ w (seqQ (fun e w => takeAll e [(10, .int .i64 0)] fun l => X l w) (blockQ 0 (unitQ T_law08_ConfForks_1_outs C))) = T_law08_ConfForks_1_body (fun i14 w => X [.int .i64 i14] w) i14 more15a more15l more15c f16 g17 w (fun w => C .normal [] w) (fun b69 w => C .ret [.bool b69] w) (fun ch w => C (.panic ch) [] w) := by kernel_rfl

theorem T_law08_ConfForks_1_ok : UnitOk Tryz.prog H_law08_ConfForks_1 (at_ (bodyOf Tryz.f8) [1, 1, 1, 1, 0, 1]) 125 := by
  have hc : at_ (bodyOf Tryz.f8) [1, 1, 1, 1, 0, 1] = .block 0 (.loop (at_ (bodyOf Tryz.f8) [1, 1, 1, 1, 0, 1, 0, 0])) := by kernel_rfl
  rw [hc]
  refine loop_unit_ok (carr := [(10, .int .i64 0)]) (fix := [(1, .slice none 0 0), (8, .pointer none), (9, .pointer none)]) (ks := T_law08_ConfForks_1_ks) (H := (hookAt [(2000, H_law08_ConfForks_2)])) (B := fun C X l u w => match l, u with | [v0], [v1, v2, v3] => T_law08_ConfForks_1_body (fun i14 w => X [.int .i64 i14] w) (pInt v0) (pA v1) (pL v1) (pC v1) (pPtr v2) (pPtr v3) w (fun w => C .normal [] w) (fun b70 w => C .ret [.bool b70] w) (fun ch w => C (.panic ch) [] w) | _, _ => False) (by kernel_rfl) (by kernel_rfl) T_law08_ConfForks_1_hok ?_ ?_
  · intro C X l u w hl hu
    obtain ⟨v0, l_v0, rfl, k_v0, hl_v0⟩ := Kinds.cons_ hl
    obtain ⟨i14, rfl⟩ := kind_int k_v0
    obtain rfl := Kinds.nil_ hl_v0
    obtain ⟨v1, l_v1, rfl, k_v1, hu_v1⟩ := Kinds.cons_ hu
    obtain ⟨more15a, more15l, more15c, rfl⟩ := kind_slice k_v1
    obtain ⟨v2, l_v2, rfl, k_v2, hu_v2⟩ := Kinds.cons_ hu_v1
    obtain ⟨f16, rfl⟩ := kind_pointer k_v2
    obtain ⟨v3, l_v3, rfl, k_v3, hu_v3⟩ := Kinds.cons_ hu_v2
    obtain ⟨g17, rfl⟩ := kind_pointer k_v3
    obtain rfl := Kinds.nil_ hu_v3
    exact T_law08_ConfForks_1_eq C X i14 more15a more15l more15c f16 g17 w
  · intro l u w C hl hu
    obtain ⟨v0, l_v0, rfl, k_v0, hl_v0⟩ := Kinds.cons_ hl
    obtain ⟨i14, rfl⟩ := kind_int k_v0
    obtain rfl := Kinds.nil_ hl_v0
    obtain ⟨v1, l_v1, rfl, k_v1, hu_v1⟩ := Kinds.cons_ hu
    obtain ⟨more15a, more15l, more15c, rfl⟩ := kind_slice k_v1
    obtain ⟨v2, l_v2, rfl, k_v2, hu_v2⟩ := Kinds.cons_ hu_v1
    obtain ⟨f16, rfl⟩ := kind_pointer k_v2
    obtain ⟨v3, l_v3, rfl, k_v3, hu_v3⟩ := Kinds.cons_ hu_v2
    obtain ⟨g17, rfl⟩ := kind_pointer k_v3
    obtain rfl := Kinds.nil_ hu_v3
    constructor
    · intro h X hX
      exact h (fun i14 w => X [.int .i64 i14] w) (fun i14 w hb => hX [.int .i64 i14] w ⟨rfl, trivial⟩ hb)
    · intro h X hX
      exact h (fun l w => match l with | [v0] => X (pInt v0) w | _ => True) (fun l w hl hb => by
        obtain ⟨v0, l_v0, rfl, k_v0, hl_v0⟩ := Kinds.cons_ hl
        obtain ⟨i14, rfl⟩ := kind_int k_v0
        obtain rfl := Kinds.nil_ hl_v0
        exact hX i14 w hb)

def T_law08_ConfForks_4_body (X : Int → World → Prop) (k85 : Int) (c86 : Addr) (i87 : Int) (w : World) (Kn : World → Prop) (Kp : List PanicEntry → World → Prop)  : Prop :=
  ∃ s88a : Option Addr, ∃ s88l : Nat, ∃ s88c : Nat, rd w (c86.add 2) (.slice s88a s88l s88c) ∧ 0 ≤ (i87 : Int) ∧ (i87 : Int) < ((s88l : Nat) : Int) ∧ ∃ b89, s88a = some b89 ∧ ∃ s90a : Option Addr, ∃ s90l : Nat, ∃ s90c : Nat, rd w ((b89.add ((i87 : Int).toNat * 2)).add 1) (.slice s90a s90l s90c) ∧ if (decide ((k85 : Int) < ((s90l : Nat) : Int))) = true then (∃ s91a : Option Addr, ∃ s91l : Nat, ∃ s91c : Nat, rd w (c86.add 2) (.slice s91a s91l s91c) ∧ 0 ≤ (i87 : Int) ∧ (i87 : Int) < ((s91l : Nat) : Int) ∧ ∃ b92, s91a = some b92 ∧ ∃ s93a : Option Addr, ∃ s93l : Nat, ∃ s93c : Nat, rd w ((b92.add ((i87 : Int).toNat * 2)).add 1) (.slice s93a s93l s93c) ∧ 0 ≤ (k85 : Int) ∧ (k85 : Int) < ((s93l : Nat) : Int) ∧ ∃ b94, s93a = some b94 ∧ (.string (ByteArray.mk #[63]) : Value).cells.size = 1 ∧ wrOk w (b94.add ((k85 : Int).toNat * 2)) (.string (ByteArray.mk #[63])) ∧ let w95 : World := wr w (b94.add ((k85 : Int).toNat * 2)) (.string (ByteArray.mk #[63]))
  X (IntKind.wrap .i64 ((k85 : Int) + 1)) w95) else (Kn  w)

def T_law08_ConfForks_4 (k85 : Int) (c86 : Addr) (i87 : Int) (w : World) (Kn : World → Prop) (Kp : List PanicEntry → World → Prop) : Prop :=
  ∀ X : Int → World → Prop, (∀ (k85 : Int) (w : World), T_law08_ConfForks_4_body X k85 c86 i87 w Kn Kp → X k85 w) → X k85 w

def T_law08_ConfForks_4_outs : Exit → Option (List (Nat × Value)) := fun x => match x with | .normal => some [] | .panic _ => some [] | _ => none

def T_law08_ConfForks_4_ks : Nat → Bool := ksOf [13, 73, 74, 75, 76, 77, 78, 79, 80, 81, 82, 83, 84, 85, 86, 87, 88, 89, 90, 91, 92]

def H_law08_ConfForks_4 : Env → World → QT → Prop := unitHook 127 T_law08_ConfForks_4_ks [(13, .int .i64 0), (11, .pointer (some ⟨0, 0, none⟩)), (12, .int .i64 0)] T_law08_ConfForks_4_outs fun l w C => match l with | [v0, v1, v2] => T_law08_ConfForks_4 (pInt v0) (pAddr v1) (pInt v2) w (fun w => C .normal [] w) (fun ch w => C (.panic ch) [] w) | _ => False

theorem T_law08_ConfForks_4_hl : allP (hokL Tryz.prog (hookAt []) (at_ (bodyOf Tryz.f8) [1, 1, 1, 1, 1, 1, 0, 1, 0, 0, 1, 0, 0, 1, 1, 0, 0]) 260684) = (True) := by kernel_rfl
theorem T_law08_ConfForks_4_hok : HOk Tryz.prog (hookAt []) (at_ (bodyOf Tryz.f8) [1, 1, 1, 1, 1, 1, 0, 1, 0, 0, 1, 0, 0, 1, 1, 0, 0]) 260684 := HOk_of _ _ (by rw [T_law08_ConfForks_4_hl]; exact trivial)

theorem T_law08_ConfForks_4_eq (C : Conts) (X : List Value → World → Prop) (k85 : Int) (c86 : Addr) (i87 : Int) (w : World) : vcCode Tryz.prog (hookAt []) (at_ (bodyOf Tryz.f8) [1, 1, 1, 1, 1, 1, 0, 1, 0, 0, 1, 0, 0, 1, 1, 0, 0]) 260684 ⟨[(13, .int .i64 k85)] ++ [(11, .pointer (some c86)), (12, .int .i64 i87)], 127, []⟩ w (seqQ (fun e w => takeAll e [(13, .int .i64 0)] fun l => X l w) (blockQ 4 (unitQ T_law08_ConfForks_4_outs C))) = T_law08_ConfForks_4_body (fun k85 w => X [.int .i64 k85] w) k85 c86 i87 w (fun w => C .normal [] w) (fun ch w => C (.panic ch) [] w) := by kernel_rfl

theorem T_law08_ConfForks_4_ok : UnitOk Tryz.prog H_law08_ConfForks_4 (at_ (bodyOf Tryz.f8) [1, 1, 1, 1, 1, 1, 0, 1, 0, 0, 1, 0, 0, 1, 1]) 65171 := by
  have hc : at_ (bodyOf Tryz.f8) [1, 1, 1, 1, 1, 1, 0, 1, 0, 0, 1, 0, 0, 1, 1] = .block 4 (.loop (at_ (bodyOf Tryz.f8) [1, 1, 1, 1, 1, 1, 0, 1, 0, 0, 1, 0, 0, 1, 1, 0, 0])) := by kernel_rfl
  rw [hc]
  refine loop_unit_ok (carr := [(13, .int .i64 0)]) (fix := [(11, .pointer (some ⟨0, 0, none⟩)), (12, .int .i64 0)]) (ks := T_law08_ConfForks_4_ks) (H := (hookAt [])) (B := fun C X l u w => match l, u with | [v0], [v1, v2] => T_law08_ConfForks_4_body (fun k85 w => X [.int .i64 k85] w) (pInt v0) (pAddr v1) (pInt v2) w (fun w => C .normal [] w) (fun ch w => C (.panic ch) [] w) | _, _ => False) (by kernel_rfl) (by kernel_rfl) T_law08_ConfForks_4_hok ?_ ?_
  · intro C X l u w hl hu
    obtain ⟨v0, l_v0, rfl, k_v0, hl_v0⟩ := Kinds.cons_ hl
    obtain ⟨k85, rfl⟩ := kind_int k_v0
    obtain rfl := Kinds.nil_ hl_v0
    obtain ⟨v1, l_v1, rfl, k_v1, hu_v1⟩ := Kinds.cons_ hu
    obtain ⟨c86, rfl⟩ := kind_addr k_v1
    obtain ⟨v2, l_v2, rfl, k_v2, hu_v2⟩ := Kinds.cons_ hu_v1
    obtain ⟨i87, rfl⟩ := kind_int k_v2
    obtain rfl := Kinds.nil_ hu_v2
    exact T_law08_ConfForks_4_eq C X k85 c86 i87 w
  · intro l u w C hl hu
    obtain ⟨v0, l_v0, rfl, k_v0, hl_v0⟩ := Kinds.cons_ hl
    obtain ⟨k85, rfl⟩ := kind_int k_v0
    obtain rfl := Kinds.nil_ hl_v0
    obtain ⟨v1, l_v1, rfl, k_v1, hu_v1⟩ := Kinds.cons_ hu
    obtain ⟨c86, rfl⟩ := kind_addr k_v1
    obtain ⟨v2, l_v2, rfl, k_v2, hu_v2⟩ := Kinds.cons_ hu_v1
    obtain ⟨i87, rfl⟩ := kind_int k_v2
    obtain rfl := Kinds.nil_ hu_v2
    constructor
    · intro h X hX
      exact h (fun k85 w => X [.int .i64 k85] w) (fun k85 w hb => hX [.int .i64 k85] w ⟨rfl, trivial⟩ hb)
    · intro h X hX
      exact h (fun l w => match l with | [v0] => X (pInt v0) w | _ => True) (fun l w hl hb => by
        obtain ⟨v0, l_v0, rfl, k_v0, hl_v0⟩ := Kinds.cons_ hl
        obtain ⟨k85, rfl⟩ := kind_int k_v0
        obtain rfl := Kinds.nil_ hl_v0
        exact hX k85 w hb)

def T_law08_ConfForks_3_body (X : Int → World → Prop) (i79 : Int) (c80 : Addr) (w : World) (Kn : World → Prop) (Kp : List PanicEntry → World → Prop)  : Prop :=
  ∃ s81a : Option Addr, ∃ s81l : Nat, ∃ s81c : Nat, rd w (c80.add 2) (.slice s81a s81l s81c) ∧ if (decide ((i79 : Int) < ((s81l : Nat) : Int))) = true then (∃ s82a : Option Addr, ∃ s82l : Nat, ∃ s82c : Nat, rd w (c80.add 2) (.slice s82a s82l s82c) ∧ 0 ≤ (i79 : Int) ∧ (i79 : Int) < ((s82l : Nat) : Int) ∧ ∃ b83, s82a = some b83 ∧ (.string (ByteArray.mk #[63]) : Value).cells.size = 1 ∧ wrOk w (b83.add ((i79 : Int).toNat * 2)) (.string (ByteArray.mk #[63])) ∧ let w84 : World := wr w (b83.add ((i79 : Int).toNat * 2)) (.string (ByteArray.mk #[63]))
  T_law08_ConfForks_4 0 c80 i79 w84 (fun w96 => X (IntKind.wrap .i64 ((i79 : Int) + 1)) w96) Kp) else (Kn  w)

def T_law08_ConfForks_3 (i79 : Int) (c80 : Addr) (w : World) (Kn : World → Prop) (Kp : List PanicEntry → World → Prop) : Prop :=
  ∀ X : Int → World → Prop, (∀ (i79 : Int) (w : World), T_law08_ConfForks_3_body X i79 c80 w Kn Kp → X i79 w) → X i79 w

def T_law08_ConfForks_3_outs : Exit → Option (List (Nat × Value)) := fun x => match x with | .normal => some [] | .panic _ => some [] | _ => none

def T_law08_ConfForks_3_ks : Nat → Bool := ksOf [12, 13, 61, 62, 63, 64, 65, 66, 67, 68, 69, 70, 71, 72, 73, 74, 75, 76, 77, 78, 79, 80, 81, 82, 83, 84, 85, 86, 87, 88, 89, 90, 91, 92]

def H_law08_ConfForks_3 : Env → World → QT → Prop := unitHook 127 T_law08_ConfForks_3_ks [(12, .int .i64 0), (11, .pointer (some ⟨0, 0, none⟩))] T_law08_ConfForks_3_outs fun l w C => match l with | [v0, v1] => T_law08_ConfForks_3 (pInt v0) (pAddr v1) w (fun w => C .normal [] w) (fun ch w => C (.panic ch) [] w) | _ => False

theorem T_law08_ConfForks_3_hl : allP (hokL Tryz.prog (hookAt [(65171, H_law08_ConfForks_4)]) (at_ (bodyOf Tryz.f8) [1, 1, 1, 1, 1, 1, 0, 1, 0, 0]) 2036) = (UnitOk Tryz.prog H_law08_ConfForks_4 (at_ (bodyOf Tryz.f8) [1, 1, 1, 1, 1, 1, 0, 1, 0, 0, 1, 0, 0, 1, 1]) 65171 ∧ True) := by kernel_rfl
theorem T_law08_ConfForks_3_hok : HOk Tryz.prog (hookAt [(65171, H_law08_ConfForks_4)]) (at_ (bodyOf Tryz.f8) [1, 1, 1, 1, 1, 1, 0, 1, 0, 0]) 2036 := HOk_of _ _ (by rw [T_law08_ConfForks_3_hl]; exact ⟨T_law08_ConfForks_4_ok, trivial⟩)

theorem T_law08_ConfForks_3_eq (C : Conts) (X : List Value → World → Prop) (i79 : Int) (c80 : Addr) (w : World) : vcCode Tryz.prog (hookAt [(65171, H_law08_ConfForks_4)]) (at_ (bodyOf Tryz.f8) [1, 1, 1, 1, 1, 1, 0, 1, 0, 0]) 2036 ⟨[(12, .int .i64 i79)] ++ [(11, .pointer (some c80))], 127, []⟩ w (seqQ (fun e w => takeAll e [(12, .int .i64 0)] fun l => X l w) (blockQ 2 (unitQ T_law08_ConfForks_3_outs C))) = T_law08_ConfForks_3_body (fun i79 w => X [.int .i64 i79] w) i79 c80 w (fun w => C .normal [] w) (fun ch w => C (.panic ch) [] w) := by kernel_rfl

theorem T_law08_ConfForks_3_ok : UnitOk Tryz.prog H_law08_ConfForks_3 (at_ (bodyOf Tryz.f8) [1, 1, 1, 1, 1, 1, 0, 1]) 509 := by
  have hc : at_ (bodyOf Tryz.f8) [1, 1, 1, 1, 1, 1, 0, 1] = .block 2 (.loop (at_ (bodyOf Tryz.f8) [1, 1, 1, 1, 1, 1, 0, 1, 0, 0])) := by kernel_rfl
  rw [hc]
  refine loop_unit_ok (carr := [(12, .int .i64 0)]) (fix := [(11, .pointer (some ⟨0, 0, none⟩))]) (ks := T_law08_ConfForks_3_ks) (H := (hookAt [(65171, H_law08_ConfForks_4)])) (B := fun C X l u w => match l, u with | [v0], [v1] => T_law08_ConfForks_3_body (fun i79 w => X [.int .i64 i79] w) (pInt v0) (pAddr v1) w (fun w => C .normal [] w) (fun ch w => C (.panic ch) [] w) | _, _ => False) (by kernel_rfl) (by kernel_rfl) T_law08_ConfForks_3_hok ?_ ?_
  · intro C X l u w hl hu
    obtain ⟨v0, l_v0, rfl, k_v0, hl_v0⟩ := Kinds.cons_ hl
    obtain ⟨i79, rfl⟩ := kind_int k_v0
    obtain rfl := Kinds.nil_ hl_v0
    obtain ⟨v1, l_v1, rfl, k_v1, hu_v1⟩ := Kinds.cons_ hu
    obtain ⟨c80, rfl⟩ := kind_addr k_v1
    obtain rfl := Kinds.nil_ hu_v1
    exact T_law08_ConfForks_3_eq C X i79 c80 w
  · intro l u w C hl hu
    obtain ⟨v0, l_v0, rfl, k_v0, hl_v0⟩ := Kinds.cons_ hl
    obtain ⟨i79, rfl⟩ := kind_int k_v0
    obtain rfl := Kinds.nil_ hl_v0
    obtain ⟨v1, l_v1, rfl, k_v1, hu_v1⟩ := Kinds.cons_ hu
    obtain ⟨c80, rfl⟩ := kind_addr k_v1
    obtain rfl := Kinds.nil_ hu_v1
    constructor
    · intro h X hX
      exact h (fun i79 w => X [.int .i64 i79] w) (fun i79 w hb => hX [.int .i64 i79] w ⟨rfl, trivial⟩ hb)
    · intro h X hX
      exact h (fun l w => match l with | [v0] => X (pInt v0) w | _ => True) (fun l w hl hb => by
        obtain ⟨v0, l_v0, rfl, k_v0, hl_v0⟩ := Kinds.cons_ hl
        obtain ⟨i79, rfl⟩ := kind_int k_v0
        obtain rfl := Kinds.nil_ hl_v0
        exact hX i79 w hb)

def T_law08_ConfForks_5_body (X : Int → World → Prop) (i98 : Int) (c99 : Addr) (w : World) (Kn : World → Prop) (Kp : List PanicEntry → World → Prop)  : Prop :=
  ∃ s100a : Option Addr, ∃ s100l : Nat, ∃ s100c : Nat, rd w (c99.add 1) (.slice s100a s100l s100c) ∧ if (decide ((i98 : Int) < ((s100l : Nat) : Int))) = true then (∃ s101a : Option Addr, ∃ s101l : Nat, ∃ s101c : Nat, rd w (c99.add 1) (.slice s101a s101l s101c) ∧ 0 ≤ (i98 : Int) ∧ (i98 : Int) < ((s101l : Nat) : Int) ∧ ∃ b102, s101a = some b102 ∧ (.string (ByteArray.mk #[63]) : Value).cells.size = 1 ∧ wrOk w (b102.add ((i98 : Int).toNat * 3)) (.string (ByteArray.mk #[63])) ∧ let w103 : World := wr w (b102.add ((i98 : Int).toNat * 3)) (.string (ByteArray.mk #[63]))
  X (IntKind.wrap .i64 ((i98 : Int) + 1)) w103) else (Kn  w)

def T_law08_ConfForks_5 (i98 : Int) (c99 : Addr) (w : World) (Kn : World → Prop) (Kp : List PanicEntry → World → Prop) : Prop :=
  ∀ X : Int → World → Prop, (∀ (i98 : Int) (w : World), T_law08_ConfForks_5_body X i98 c99 w Kn Kp → X i98 w) → X i98 w

def T_law08_ConfForks_5_outs : Exit → Option (List (Nat × Value)) := fun x => match x with | .normal => some [] | .panic _ => some [] | _ => none

def T_law08_ConfForks_5_ks : Nat → Bool := ksOf [14, 93, 94, 95, 96, 97, 98, 99, 100, 101, 102, 103, 104]

def H_law08_ConfForks_5 : Env → World → QT → Prop := unitHook 127 T_law08_ConfForks_5_ks [(14, .int .i64 0), (11, .pointer (some ⟨0, 0, none⟩))] T_law08_ConfForks_5_outs fun l w C => match l with | [v0, v1] => T_law08_ConfForks_5 (pInt v0) (pAddr v1) w (fun w => C .normal [] w) (fun ch w => C (.panic ch) [] w) | _ => False

theorem T_law08_ConfForks_5_hl : allP (hokL Tryz.prog (hookAt []) (at_ (bodyOf Tryz.f8) [1, 1, 1, 1, 1, 1, 1, 0, 1, 0, 0]) 4084) = (True) := by kernel_rfl
theorem T_law08_ConfForks_5_hok : HOk Tryz.prog (hookAt []) (at_ (bodyOf Tryz.f8) [1, 1, 1, 1, 1, 1, 1, 0, 1, 0, 0]) 4084 := HOk_of _ _ (by rw [T_law08_ConfForks_5_hl]; exact trivial)

theorem T_law08_ConfForks_5_eq (C : Conts) (X : List Value → World → Prop) (i98 : Int) (c99 : Addr) (w : World) : vcCode Tryz.prog (hookAt []) (at_ (bodyOf Tryz.f8) [1, 1, 1, 1, 1, 1, 1, 0, 1, 0, 0]) 4084 ⟨[(14, .int .i64 i98)] ++ [(11, .pointer (some c99))], 127, []⟩ w (seqQ (fun e w => takeAll e [(14, .int .i64 0)] fun l => X l w) (blockQ 6 (unitQ T_law08_ConfForks_5_outs C))) = T_law08_ConfForks_5_body (fun i98 w => X [.int .i64 i98] w) i98 c99 w (fun w => C .normal [] w) (fun ch w => C (.panic ch) [] w) := by kernel_rfl

theorem T_law08_ConfForks_5_ok : UnitOk Tryz.prog H_law08_ConfForks_5 (at_ (bodyOf Tryz.f8) [1, 1, 1, 1, 1, 1, 1, 0, 1]) 1021 := by
  have hc : at_ (bodyOf Tryz.f8) [1, 1, 1, 1, 1, 1, 1, 0, 1] = .block 6 (.loop (at_ (bodyOf Tryz.f8) [1, 1, 1, 1, 1, 1, 1, 0, 1, 0, 0])) := by kernel_rfl
  rw [hc]
  refine loop_unit_ok (carr := [(14, .int .i64 0)]) (fix := [(11, .pointer (some ⟨0, 0, none⟩))]) (ks := T_law08_ConfForks_5_ks) (H := (hookAt [])) (B := fun C X l u w => match l, u with | [v0], [v1] => T_law08_ConfForks_5_body (fun i98 w => X [.int .i64 i98] w) (pInt v0) (pAddr v1) w (fun w => C .normal [] w) (fun ch w => C (.panic ch) [] w) | _, _ => False) (by kernel_rfl) (by kernel_rfl) T_law08_ConfForks_5_hok ?_ ?_
  · intro C X l u w hl hu
    obtain ⟨v0, l_v0, rfl, k_v0, hl_v0⟩ := Kinds.cons_ hl
    obtain ⟨i98, rfl⟩ := kind_int k_v0
    obtain rfl := Kinds.nil_ hl_v0
    obtain ⟨v1, l_v1, rfl, k_v1, hu_v1⟩ := Kinds.cons_ hu
    obtain ⟨c99, rfl⟩ := kind_addr k_v1
    obtain rfl := Kinds.nil_ hu_v1
    exact T_law08_ConfForks_5_eq C X i98 c99 w
  · intro l u w C hl hu
    obtain ⟨v0, l_v0, rfl, k_v0, hl_v0⟩ := Kinds.cons_ hl
    obtain ⟨i98, rfl⟩ := kind_int k_v0
    obtain rfl := Kinds.nil_ hl_v0
    obtain ⟨v1, l_v1, rfl, k_v1, hu_v1⟩ := Kinds.cons_ hu
    obtain ⟨c99, rfl⟩ := kind_addr k_v1
    obtain rfl := Kinds.nil_ hu_v1
    constructor
    · intro h X hX
      exact h (fun i98 w => X [.int .i64 i98] w) (fun i98 w hb => hX [.int .i64 i98] w ⟨rfl, trivial⟩ hb)
    · intro h X hX
      exact h (fun l w => match l with | [v0] => X (pInt v0) w | _ => True) (fun l w hl hb => by
        obtain ⟨v0, l_v0, rfl, k_v0, hl_v0⟩ := Kinds.cons_ hl
        obtain ⟨i98, rfl⟩ := kind_int k_v0
        obtain rfl := Kinds.nil_ hl_v0
        exact hX i98 w hb)

def T_law08_ConfForks_6_body (X : Int → World → Prop) (i108 : Int) (b109a : Option Addr) (b109l : Nat) (b109c : Nat) (w : World) (Kn : World → Prop) (Kp : List PanicEntry → World → Prop)  : Prop :=
  if (decide ((i108 : Int) < ((b109l : Nat) : Int))) = true then (0 ≤ (i108 : Int) ∧ (i108 : Int) < ((b109l : Nat) : Int) ∧ ∃ b110, b109a = some b110 ∧ (.int .u8 255 : Value).cells.size = 1 ∧ wrOk w (b110.add ((i108 : Int).toNat * 1)) (.int .u8 255) ∧ let w111 : World := wr w (b110.add ((i108 : Int).toNat * 1)) (.int .u8 255)
  X (IntKind.wrap .i64 ((i108 : Int) + 1)) w111) else (Kn  w)

def T_law08_ConfForks_6 (i108 : Int) (b109a : Option Addr) (b109l : Nat) (b109c : Nat) (w : World) (Kn : World → Prop) (Kp : List PanicEntry → World → Prop) : Prop :=
  ∀ X : Int → World → Prop, (∀ (i108 : Int) (w : World), T_law08_ConfForks_6_body X i108 b109a b109l b109c w Kn Kp → X i108 w) → X i108 w

def T_law08_ConfForks_6_outs : Exit → Option (List (Nat × Value)) := fun x => match x with | .normal => some [] | .panic _ => some [] | _ => none

def T_law08_ConfForks_6_ks : Nat → Bool := ksOf [16, 107, 108, 109, 110, 111, 112, 113, 114, 115]

def H_law08_ConfForks_6 : Env → World → QT → Prop := unitHook 127 T_law08_ConfForks_6_ks [(16, .int .i64 0), (15, .slice none 0 0)] T_law08_ConfForks_6_outs fun l w C => match l with | [v0, v1] => T_law08_ConfForks_6 (pInt v0) (pA v1) (pL v1) (pC v1) w (fun w => C .normal [] w) (fun ch w => C (.panic ch) [] w) | _ => False

theorem T_law08_ConfForks_6_hl : allP (hokL Tryz.prog (hookAt []) (at_ (bodyOf Tryz.f8) [1, 1, 1, 1, 1, 1, 1, 1, 1, 0, 1, 0, 0]) 16372) = (True) := by kernel_rfl
theorem T_law08_ConfForks_6_hok : HOk Tryz.prog (hookAt []) (at_ (bodyOf Tryz.f8) [1, 1, 1, 1, 1, 1, 1, 1, 1, 0, 1, 0, 0]) 16372 := HOk_of _ _ (by rw [T_law08_ConfForks_6_hl]; exact trivial)

theorem T_law08_ConfForks_6_eq (C : Conts) (X : List Value → World → Prop) (i108 : Int) (b109a : Option Addr) (b109l : Nat) (b109c : Nat) (w : World) : vcCode Tryz.prog (hookAt []) (at_ (bodyOf Tryz.f8) [1, 1, 1, 1, 1, 1, 1, 1, 1, 0, 1, 0, 0]) 16372 ⟨[(16, .int .i64 i108)] ++ [(15, .slice b109a b109l b109c)], 127, []⟩ w (seqQ (fun e w => takeAll e [(16, .int .i64 0)] fun l => X l w) (blockQ 8 (unitQ T_law08_ConfForks_6_outs C))) = T_law08_ConfForks_6_body (fun i108 w => X [.int .i64 i108] w) i108 b109a b109l b109c w (fun w => C .normal [] w) (fun ch w => C (.panic ch) [] w) := by kernel_rfl

theorem T_law08_ConfForks_6_ok : UnitOk Tryz.prog H_law08_ConfForks_6 (at_ (bodyOf Tryz.f8) [1, 1, 1, 1, 1, 1, 1, 1, 1, 0, 1]) 4093 := by
  have hc : at_ (bodyOf Tryz.f8) [1, 1, 1, 1, 1, 1, 1, 1, 1, 0, 1] = .block 8 (.loop (at_ (bodyOf Tryz.f8) [1, 1, 1, 1, 1, 1, 1, 1, 1, 0, 1, 0, 0])) := by kernel_rfl
  rw [hc]
  refine loop_unit_ok (carr := [(16, .int .i64 0)]) (fix := [(15, .slice none 0 0)]) (ks := T_law08_ConfForks_6_ks) (H := (hookAt [])) (B := fun C X l u w => match l, u with | [v0], [v1] => T_law08_ConfForks_6_body (fun i108 w => X [.int .i64 i108] w) (pInt v0) (pA v1) (pL v1) (pC v1) w (fun w => C .normal [] w) (fun ch w => C (.panic ch) [] w) | _, _ => False) (by kernel_rfl) (by kernel_rfl) T_law08_ConfForks_6_hok ?_ ?_
  · intro C X l u w hl hu
    obtain ⟨v0, l_v0, rfl, k_v0, hl_v0⟩ := Kinds.cons_ hl
    obtain ⟨i108, rfl⟩ := kind_int k_v0
    obtain rfl := Kinds.nil_ hl_v0
    obtain ⟨v1, l_v1, rfl, k_v1, hu_v1⟩ := Kinds.cons_ hu
    obtain ⟨b109a, b109l, b109c, rfl⟩ := kind_slice k_v1
    obtain rfl := Kinds.nil_ hu_v1
    exact T_law08_ConfForks_6_eq C X i108 b109a b109l b109c w
  · intro l u w C hl hu
    obtain ⟨v0, l_v0, rfl, k_v0, hl_v0⟩ := Kinds.cons_ hl
    obtain ⟨i108, rfl⟩ := kind_int k_v0
    obtain rfl := Kinds.nil_ hl_v0
    obtain ⟨v1, l_v1, rfl, k_v1, hu_v1⟩ := Kinds.cons_ hu
    obtain ⟨b109a, b109l, b109c, rfl⟩ := kind_slice k_v1
    obtain rfl := Kinds.nil_ hu_v1
    constructor
    · intro h X hX
      exact h (fun i108 w => X [.int .i64 i108] w) (fun i108 w hb => hX [.int .i64 i108] w ⟨rfl, trivial⟩ hb)
    · intro h X hX
      exact h (fun l w => match l with | [v0] => X (pInt v0) w | _ => True) (fun l w hl hb => by
        obtain ⟨v0, l_v0, rfl, k_v0, hl_v0⟩ := Kinds.cons_ hl
        obtain ⟨i108, rfl⟩ := kind_int k_v0
        obtain rfl := Kinds.nil_ hl_v0
        exact hX i108 w hb)

def T_law08_ConfForks (l1a : Option Addr) (l1l : Nat) (l1c : Nat) (more2a : Option Addr) (more2l : Nat) (more2c : Nat) (w : World) (R : Ending → World → Prop) : Prop :=
  Calls Tryz.prog 13 #[.slice l1a l1l l1c] w (ret (fun r3 w4 => ∃ p5 : Option Addr, ∃ p6 : Option Addr, ∃ b7 : Bool, r3 = .tuple #[.pointer p5, .pointer p6, .bool b7] ∧ if (!b7) = true then (R (.returned (.bool false)) w4) else (Calls Tryz.prog 27 #[.pointer p5] w4 (ret (fun r8 w9 => ∃ p10 : Option Addr, r8 = .pointer p10 ∧ Calls Tryz.prog 28 #[.pointer p6] w9 (ret (fun r11 w12 => ∃ p13 : Option Addr, r11 = .pointer p13 ∧ T_law08_ConfForks_1 0 more2a more2l more2c p10 p13 w12 (fun w71 => Calls Tryz.prog 14 #[.pointer p5] w71 (ret (fun r72 w73 => ∃ x74 : Int, ∃ s75a : Option Addr, ∃ s75l : Nat, ∃ s75c : Nat, ∃ s76a : Option Addr, ∃ s76l : Nat, ∃ s76c : Nat, r72 = .agg #[.int .i64 x74, .slice s75a s75l s75c, .slice s76a s76l s76c] ∧ let w77 : World := w73.alloc (.cells #[.int .i64 0, .slice none 0 0, .slice none 0 0] 30)
  (.agg #[.int .i64 x74, .slice s75a s75l s75c, .slice s76a s76l s76c] : Value).cells.size = 3 ∧ wrOk w77 (⟨w73.heap.size, 0, none⟩ : Addr) (.agg #[.int .i64 x74, .slice s75a s75l s75c, .slice s76a s76l s76c]) ∧ let w78 : World := wr w77 (⟨w73.heap.size, 0, none⟩ : Addr) (.agg #[.int .i64 x74, .slice s75a s75l s75c, .slice s76a s76l s76c])
  T_law08_ConfForks_3 0 (⟨w73.heap.size, 0, none⟩ : Addr) w78 (fun w97 => T_law08_ConfForks_5 0 (⟨w73.heap.size, 0, none⟩ : Addr) w97 (fun w104 => Calls Tryz.prog 25 #[.pointer p5] w104 (ret (fun r105 w106 => ∃ s107a : Option Addr, ∃ s107l : Nat, ∃ s107c : Nat, r105 = .slice s107a s107l s107c ∧ T_law08_ConfForks_6 0 s107a s107l s107c w106 (fun w112 => Calls Tryz.prog 15 #[] w112 (ret (fun r113 w114 => ∃ b115 : Bool, r113 = .bool b115 ∧ if b115 = true then (Calls Tryz.prog 26 #[.pointer p5, .pointer p6] w114 (ret (fun r116 w117 => ∃ b118 : Bool, r116 = .bool b118 ∧ if b118 = true then (Calls Tryz.prog 26 #[.pointer p10, .pointer p13] w117 (ret (fun r119 w120 => ∃ b121 : Bool, r119 = .bool b121 ∧ R (.returned (.bool b121)) w120) (pan R))) else (R (.returned (.bool false)) w117)) (pan R))) else (R (.returned (.bool false)) w114)) (pan R))) (pan R)) (pan R))) (pan R)) (pan R)) (pan R))) (fun b122 w123 => R (.returned (.bool b122)) w123) (pan R)) (pan R))) (pan R)))) (pan R))

theorem T_law08_ConfForks_hl : allP (hokL Tryz.prog (hookAt [(125, H_law08_ConfForks_1), (509, H_law08_ConfForks_3), (1021, H_law08_ConfForks_5), (4093, H_law08_ConfForks_6)]) (bodyOf Tryz.f8) 1) = (UnitOk Tryz.prog H_law08_ConfForks_1 (at_ (bodyOf Tryz.f8) [1, 1, 1, 1, 0, 1]) 125 ∧ UnitOk Tryz.prog H_law08_ConfForks_3 (at_ (bodyOf Tryz.f8) [1, 1, 1, 1, 1, 1, 0, 1]) 509 ∧ UnitOk Tryz.prog H_law08_ConfForks_5 (at_ (bodyOf Tryz.f8) [1, 1, 1, 1, 1, 1, 1, 0, 1]) 1021 ∧ UnitOk Tryz.prog H_law08_ConfForks_6 (at_ (bodyOf Tryz.f8) [1, 1, 1, 1, 1, 1, 1, 1, 1, 0, 1]) 4093 ∧ True) := by kernel_rfl

theorem T_law08_ConfForks_eq (l1a : Option Addr) (l1l : Nat) (l1c : Nat) (more2a : Option Addr) (more2l : Nat) (more2c : Nat) (w : World) (R : Ending → World → Prop) : vcCode Tryz.prog (hookAt [(125, H_law08_ConfForks_1), (509, H_law08_ConfForks_3), (1021, H_law08_ConfForks_5), (4093, H_law08_ConfForks_6)]) (bodyOf Tryz.f8) 1 ⟨argEnv [.slice l1a l1l l1c, .slice more2a more2l more2c] 0, Tryz.f8.ntmps, []⟩ w (finQ Tryz.prog Tryz.f8.results.toList R) = T_law08_ConfForks l1a l1l l1c more2a more2l more2c w R := by kernel_rfl

theorem T_law08_ConfForks_b : Tryz.f8.body = some (bodyOf Tryz.f8) := by kernel_rfl
theorem T_law08_ConfForks_s : (quietSel (bodyOf Tryz.f8) && Nat.ble 2 Tryz.f8.ntmps) = true := by kernel_rfl

theorem C_law08_ConfForks {l1a : Option Addr} {l1l : Nat} {l1c : Nat} {more2a : Option Addr} {more2l : Nat} {more2c : Nat} {w : World} {R : Ending → World → Prop} (h : T_law08_ConfForks l1a l1l l1c more2a more2l more2c w R) : Calls Tryz.prog 8 #[.slice l1a l1l l1c, .slice more2a more2l more2c] w R :=
  calls_of_text (args := [.slice l1a l1l l1c, .slice more2a more2l more2c]) mixed Tryz.func8 T_law08_ConfForks_b T_law08_ConfForks_s (HOk_of _ _ (by rw [T_law08_ConfForks_hl]; exact ⟨T_law08_ConfForks_1_ok, T_law08_ConfForks_3_ok, T_law08_ConfForks_5_ok, T_law08_ConfForks_6_ok, trivial⟩)) (by rw [T_law08_ConfForks_eq]; exact h)

end Go.Proofs.YtcpmfjclkdjfmaaGreat

/-
  The law ConfForks: what becomes of a Fork changes nothing; what is told is new memory.
-/
namespace Go.Vc
open Go Go.Proofs Go.Proofs.YtcpmfjclkdjfmaaGreat Go.RowKit
set_option maxRecDepth 100000
theorem flat_setk {α : Type} {f : α → List Value} {sz : Nat} (hf : ∀ q, (f q).length = sz) {v : Value} : ∀ (qs : List α) (j k : Nat) (q q' : α), qs[j]? = some q → k < sz → f q' = (f q).set k v →
    (qs.flatMap f).set (j * sz + k) v = (qs.set j q').flatMap f
  | [], j, k, q, q', h, _, _ => by simp at h
  | x :: r, 0, k, q, q', h, hk, he => by
    simp at h; subst h
    rw [List.flatMap_cons, Nat.zero_mul, Nat.zero_add, List.set_append_left _ _ (by rw [hf]; exact hk), ← he, List.set_cons_zero, List.flatMap_cons]
  | x :: r, j + 1, k, q, q', h, hk, he => by
    rw [List.flatMap_cons, List.set_append_right _ _ (by rw [hf, Nat.add_mul]; omega), hf, show (j + 1) * sz + k - sz = j * sz + k from by rw [Nat.add_mul]; omega, flat_setk hf r j k q q' (by simpa using h) hk he, List.set_cons_succ, List.flatMap_cons]
section
variable {E w : World} {L : List Asrt} {R : Ending → World → Prop} {F G : Fz} {s : Cm.Sm} {p r bc : Nat} {v : Int} {ra pa : Sl}
/-- The first cell of element j of a row of ours is written. -/
theorem St.set_first {α : Type} {f : α → List Value} {sz : Nat} (hf : ∀ q, (f q).length = sz) (h0 : 0 < sz) {a : Option Addr} {l c : Nat} {e : TypeId} {qs : List α} {x : Value} (q' : α) (h : St E (ownS a l c e sz (qs.flatMap f) :: L) w) {j : Nat} (hj : j < qs.length) (ho : one x = true) (he : f q' = (f qs[j]).set 0 x) :
    ∃ ad, a = some ad ∧ wrOk w (ad.add (j * sz)) x ∧ St E (ownS a l c e sz ((qs.set j q').flatMap f) :: L) (wr w (ad.add (j * sz)) x) := by
  have hc := h.rdS_own.count hf h0
  obtain ⟨ad, ha, _, _⟩ := h.rdS_own.cells (by omega)
  have hlt : j * sz < (qs.flatMap f).length := by
    rw [flat_len hf]
    have : (j + 1) * sz ≤ qs.length * sz := Nat.mul_le_mul_right _ (by omega)
    rw [Nat.add_mul] at this; omega
  obtain ⟨h1, h2⟩ := h.ownS_set ha hlt ho
  have e := flat_setk hf qs j 0 qs[j] q' (v := x) (List.getElem?_eq_getElem hj) h0 he
  rw [Nat.add_zero] at e
  rw [e] at h2
  exact ⟨ad, ha, h1, h2⟩
set_option maxHeartbeats 4000000 in
theorem forks1 {Kn : World → Prop} {Kr : Bool → World → Prop} {Kp : List PanicEntry → World → Prop} {a : Option Addr} {l cc : Nat} {ds : List (Cm.Cmd × Sl)} (hd : CmdsR F a l ds) (I : Cm.Inv s) (h : St E (stA F p s :: refA F r s :: kn F :: L) w)
    (k : ∀ (G : Fz) (s : Cm.Sm) (w' : World), Fz.le F G → Cm.Inv s → St E (stA G p s :: refA G r s :: kn G :: L) w' → Kn w') : T_law08_ConfForks_1 0 a l cc (some ⟨p, 0, none⟩) (some ⟨r, 0, none⟩) w Kn Kr Kp := by
  have n1 := hd.1.count cmdL_len (by decide) h at2
  unfold T_law08_ConfForks_1
  intro X hX
  refine up_to (min l 150) (Q := fun j => ∀ (w : World) (G : Fz) (s : Cm.Sm), Fz.le F G → Cm.Inv s → St E (stA G p s :: refA G r s :: kn G :: L) w → X (j : Int) w) ?_ w F s (Fz.le_refl F) I h
  intro j hj ih w G s hG I h
  refine hX _ _ ?_
  unfold T_law08_ConfForks_1_body T_law08_ConfForks_2
  refine ite_d (fun h1 => ?_) fun h1 => ite_b (fun hh => by cases hh) fun _ => k G s _ hG I h
  refine ite_b (fun h2 => ?_) fun h2 => k G s _ hG I h
  have h2 : (j : Int) < 150 := of_decide_eq_true h2
  have hjl : j < ds.length := by omega
  obtain ⟨hok, hrd⟩ := hd.2 _ (List.getElem_mem hjl)
  intro w23
  have h23 : St E _ w23 := h.drew
  clear_value w23
  obtain ⟨ad, ha, hc⟩ := cmd_at ((RdF.mono hd.1 hG).at h23 at2) hjl
  rw [Int.toNat_natCast, succ_big (by unfold big; omega)]
  refine ⟨by omega, by omega, ad, ha, _, _, _, _, _, _, _, _, _, _, hc, short_spec h23 fun w34 h34 => ⟨_, rfl, trivial, ite_b (fun hs => ?_) fun hs => ⟨trivial, trivial, trivial, ih (by omega) _ G s hG I h34⟩⟩⟩
  obtain ⟨ad2, ha2, hc2⟩ := cmd_at ((RdF.mono hd.1 hG).at h34 at2) hjl
  rw [ha] at ha2
  injection ha2 with ha2
  subst ha2
  refine ⟨by omega, by omega, ad, ha, _, _, _, _, _, _, _, _, _, _, hc2, by omega, by omega, ad, ha, _, _, _, _, _, _, _, _, _, _, hc2, ?_⟩
  refine Do_spec (c := ds[j].1) (q := ds[j].2) (L := refA G r s :: L) I (RdF.mono hrd hG) hok (h34.sel 3 [0, 2, 1]) fun G1 w55 hG1 h55 => ⟨_, _, rfl, ⟨?_, trivial⟩, ?_⟩
  · obtain ⟨ad3, ha3, hc3⟩ := cmd_at ((RdF.mono hd.1 (Fz.le_trans hG hG1)).at h55 at1) hjl
    rw [ha] at ha3
    injection ha3 with ha3
    subst ha3
    exact hc3
  · refine RDo_spec (c := ds[j].1) (q := ds[j].2) (L := stA G1 p (Cm.doC s ds[j].1).1 :: L) I (RdF.mono hrd (Fz.le_trans hG hG1)) hok (St.rf_mono (h55.sel 3 [2, 1, 0]) hG1) fun G2 w59 hG2 h59 => ⟨_, _, rfl, trivial, ?_⟩
    refine runV_ok (res_ne _ _ _ _ _ _) ?_
    refine ⟨_, rfl, trivial, ?_⟩
    refine ite_b (fun hh => ?_) fun _ => ?_
    · simp at hh
    refine ih (by omega) _ G2 (Cm.doC s ds[j].1).1 (Fz.le_trans hG (Fz.le_trans hG1 hG2)) (Cm.doC_keeps I ds[j].1) ?_
    have h60 : St E (stA G1 p (Cm.doC s ds[j].1).1 :: refA G2 r (Cm.doC s ds[j].1).1 :: kn G2 :: L) w59 := h59.sel 3 [2, 0, 1]
    exact h60.st_mono hG2
/-- One of the pools' targets by itself. -/
theorem St.tgO_take {l1 l2 : List PlS} {x : PlS} (h : St E (tgO (l1 ++ x :: l2) :: L) w) : St E (tgA x.1 x.2.tg :: tgO (l1 ++ l2) :: L) w := by
  have h1 : St E (((l1 ++ x :: l2).map fun x => tgA x.1 x.2.tg) ++ L) w := St.open_ (L1 := (l1 ++ x :: l2).map fun x => tgA x.1 x.2.tg) h
  rw [List.map_append, List.map_cons] at h1
  have h2 : St E (tgA x.1 x.2.tg :: (((l1 ++ l2).map fun x => tgA x.1 x.2.tg) ++ L)) w := h1.perm (by
    rw [List.append_assoc, List.cons_append, List.map_append, List.append_assoc]
    exact List.perm_middle)
  have h3 : St E ((((l1 ++ l2).map fun x => tgA x.1 x.2.tg)) ++ (tgA x.1 x.2.tg :: L)) w := h2.perm List.perm_middle.symm
  exact (St.shut (L1 := (l1 ++ l2).map fun x => tgA x.1 x.2.tg) h3).f1
theorem St.tgO_back {l1 l2 : List PlS} {x : PlS} (h : St E (tgA x.1 x.2.tg :: tgO (l1 ++ l2) :: L) w) : St E (tgO (l1 ++ x :: l2) :: L) w := by
  have h1 : St E (((l1 ++ l2).map fun x => tgA x.1 x.2.tg) ++ (tgA x.1 x.2.tg :: L)) w := St.open_ (L1 := (l1 ++ l2).map fun x => tgA x.1 x.2.tg) h.f1
  refine St.shut (L1 := (l1 ++ x :: l2).map fun x => tgA x.1 x.2.tg) (h1.perm ?_)
  rw [List.map_append, List.map_append, List.map_cons, List.append_assoc, List.append_assoc, List.cons_append]
  exact List.Perm.append_left _ List.perm_middle
abbrev qm : Cm.Bs := [63]
set_option maxHeartbeats 1000000 in
/-- The targets of one pool are turned. -/
theorem forks4 {Kn : World → Prop} {Kp : List PanicEntry → World → Prop} {xs : List PlS} {tq : Sl} {i : Nat} {tg : List Cm.Tgt} (hi : i < xs.length) (hq : xs[i].1 = tq) (hl : xs.length ≤ 1000) (ht : tg.length ≤ 1000) (h : St E (tgA tq tg :: plA pa xs :: blkL bc 30 (cfgL v ra pa) :: L) w)
    (k : ∀ w' tg', tg'.length = tg.length → St E (tgA tq tg' :: plA pa xs :: blkL bc 30 (cfgL v ra pa) :: L) w' → Kn w') : T_law08_ConfForks_4 0 ⟨bc, 0, none⟩ (i : Int) w Kn Kp := by
  have np := h.f1.pl_len
  have nt : tg.length = tq.2.1 := h.rdS_own.count tV_len (by decide)
  unfold T_law08_ConfForks_4
  intro X hX
  refine up_to tg.length (Q := fun j => ∀ (w : World) (tg' : List Cm.Tgt), tg'.length = tg.length → St E (tgA tq tg' :: plA pa xs :: blkL bc 30 (cfgL v ra pa) :: L) w → X (j : Int) w) ?_ w tg rfl h
  intro j hj ih w tg' hlen h
  refine hX _ _ ?_
  unfold T_law08_ConfForks_4_body
  obtain ⟨ad, ha, _, hk⟩ := h.f1.rdS_own.elem pcV_len (List.getElem?_eq_getElem hi) (by decide)
  have hsl : rd w ((ad.add (i * 2)).add 1) (.slice tq.1 tq.2.1 tq.2.2) := by
    have := hk 1 (.slice xs[i].1.1 xs[i].1.2.1 xs[i].1.2.2) rfl rfl
    rwa [hq] at this
  rw [Int.toNat_natCast, Int.toNat_natCast]
  refine ⟨_, _, _, rd_fld h.f2.at_blk rfl rfl, by omega, by omega, ad, ha, _, _, _, hsl, ?_⟩
  rw [← nt]
  refine ite_d (fun hc => ?_) fun hc => k w tg' hlen h
  have hjl : j < tg'.length := by omega
  obtain ⟨ad2, ha2, hw, h2⟩ := St.set_first (f := tV) tV_len (by decide) (⟨qm, tg'[j].w⟩ : Cm.Tgt) h hjl (x := .string (ByteArray.mk #[63])) rfl rfl
  refine ⟨_, _, _, rd_fld h.f2.at_blk rfl rfl, by omega, by omega, ad, ha, _, _, _, hsl, by omega, by omega, ad2, ha2, rfl, hw, ?_⟩
  rw [succ_big (by unfold big; omega)]
  exact ih (by omega) _ (tg'.set j ⟨qm, tg'[j].w⟩) (by rw [List.length_set]; exact hlen) h2
set_option maxHeartbeats 1000000 in
/-- The pools of a configuration that was told are turned. -/
theorem forks3 {Kn : World → Prop} {Kp : List PanicEntry → World → Prop} {xs : List PlS} (hl : xs.length ≤ 1000) (ht : ∀ x ∈ xs, x.2.tg.length ≤ 1000) (h : St E (plA pa xs :: tgO xs :: blkL bc 30 (cfgL v ra pa) :: L) w)
    (k : ∀ w', St E (blkL bc 30 (cfgL v ra pa) :: L) w' → Kn w') : T_law08_ConfForks_3 0 ⟨bc, 0, none⟩ w Kn Kp := by
  have np := h.pl_len
  unfold T_law08_ConfForks_3
  intro X hX
  refine up_to xs.length (Q := fun j => ∀ (w : World) (ys zs : List PlS), ys.map (·.1) = zs.map (·.1) → ys.length = xs.length → (∀ x ∈ zs, x.2.tg.length ≤ 1000) → St E (plA pa ys :: tgO zs :: blkL bc 30 (cfgL v ra pa) :: L) w → X (j : Int) w) ?_ w xs xs rfl rfl ht h
  intro j hj ih w ys zs hyz hlen htz h
  have nz : zs.length = ys.length := by have := congrArg List.length hyz; simpa using this.symm
  refine hX _ _ ?_
  unfold T_law08_ConfForks_3_body
  refine ⟨_, _, _, rd_fld h.f2.at_blk rfl rfl, ?_⟩
  rw [← np]
  refine ite_d (fun hc => ?_) fun hc => k w h.drop.drop
  have hjl : j < ys.length := by omega
  obtain ⟨ad, ha, hw, h2⟩ := St.set_first (f := pcV) pcV_len (by decide) ((ys[j].1, ⟨qm, ys[j].2.tg⟩) : PlS) h hjl (x := .string (ByteArray.mk #[63])) rfl rfl
  rw [Int.toNat_natCast]
  refine ⟨_, _, _, rd_fld h.f2.at_blk rfl rfl, by omega, by omega, ad, ha, rfl, hw, ?_⟩
  intro w84
  have h3 : St E (plA pa (ys.set j (ys[j].1, ⟨qm, ys[j].2.tg⟩)) :: tgO zs :: blkL bc 30 (cfgL v ra pa) :: L) w84 := h2
  clear_value w84
  have hs1 : (ys.set j (ys[j].1, ⟨qm, ys[j].2.tg⟩)).map (·.1) = ys.map (·.1) := by
    rw [List.map_set]
    refine List.ext_getElem (by simp) fun n h1 h2 => ?_
    rw [List.getElem_set]
    split
    · rename_i e; subst e; simp
    · rfl
  generalize hys : ys.set j (ys[j].1, ⟨qm, ys[j].2.tg⟩) = ys2 at *
  have ly : ys2.length = xs.length := by rw [← hys, List.length_set]; exact hlen
  have hjz : j < zs.length := by omega
  have hz : zs = zs.take j ++ zs[j] :: zs.drop (j + 1) := by rw [List.getElem_cons_drop, List.take_append_drop]
  have hq : (ys2[j]'(by omega)).1 = zs[j].1 := by
    have e1 : (ys2.map (·.1))[j]? = (zs.map (·.1))[j]? := by rw [hs1, hyz]
    rw [List.getElem?_map, List.getElem?_map, List.getElem?_eq_getElem (by omega), List.getElem?_eq_getElem hjz] at e1
    simpa using e1
  have htj := htz _ (List.getElem_mem hjz)
  generalize zs[j] = z at *
  rw [hz] at h3
  have h4 := St.tgO_take (h3.f1)
  have h5 : St E (tgA z.1 z.2.tg :: plA pa ys2 :: blkL bc 30 (cfgL v ra pa) :: tgO (zs.take j ++ zs.drop (j + 1)) :: L) w84 := St.sel (L := _ :: _ :: _ :: _ :: L) h4 4 [0, 2, 3, 1]
  refine forks4 (by omega) hq (by omega) htj h5 fun w96 tg' hl' h96 => ?_
  rw [succ_big (by unfold big; omega)]
  have h97 := St.tgO_back (x := ((z.1, ⟨z.2.name, tg'⟩) : PlS)) (St.sel (L := tgA z.1 tg' :: plA pa ys2 :: blkL bc 30 (cfgL v ra pa) :: tgO (zs.take j ++ zs.drop (j + 1)) :: L) h96 4 [0, 3, 1, 2])
  have h98 : St E (plA pa ys2 :: tgO (zs.take j ++ (z.1, ⟨z.2.name, tg'⟩) :: zs.drop (j + 1)) :: blkL bc 30 (cfgL v ra pa) :: L) w96 := St.f1 h97
  refine ih (by omega) _ ys2 (zs.take j ++ (z.1, ⟨z.2.name, tg'⟩) :: zs.drop (j + 1)) ?_ ly ?_ h98
  · rw [hs1, hyz]
    conv => lhs; rw [hz]
    simp
  · intro x hx
    rcases List.mem_append.1 hx with hx | hx
    · exact htz x (List.mem_of_mem_take hx)
    · rcases List.mem_cons.1 hx with rfl | hx
      · show tg'.length ≤ 1000; omega
      · exact htz x (List.mem_of_mem_drop hx)
/-- The routes of a configuration that was told are turned. -/
theorem forks5 {Kn : World → Prop} {Kp : List PanicEntry → World → Prop} {xs : List Cm.Rt} (hl : xs.length ≤ 1000) (h : St E (rtA ra xs :: blkL bc 30 (cfgL v ra pa) :: L) w)
    (k : ∀ w', St E L w' → Kn w') : T_law08_ConfForks_5 0 ⟨bc, 0, none⟩ w Kn Kp := by
  have np := h.rt_len
  unfold T_law08_ConfForks_5
  intro X hX
  refine up_to xs.length (Q := fun j => ∀ (w : World) (ys : List Cm.Rt), ys.length = xs.length → St E (rtA ra ys :: blkL bc 30 (cfgL v ra pa) :: L) w → X (j : Int) w) ?_ w xs rfl h
  intro j hj ih w ys hlen h
  refine hX _ _ ?_
  unfold T_law08_ConfForks_5_body
  refine ⟨_, _, _, rd_fld h.f1.at_blk rfl rfl, ?_⟩
  rw [← np]
  refine ite_d (fun hc => ?_) fun hc => k w h.drop.drop
  have hjl : j < ys.length := by omega
  obtain ⟨ad, ha, hw, h2⟩ := St.set_first (f := rcV) rcV_len (by decide) (⟨qm, ys[j].pfx, ys[j].pool⟩ : Cm.Rt) h hjl (x := .string (ByteArray.mk #[63])) rfl rfl
  rw [Int.toNat_natCast]
  refine ⟨_, _, _, rd_fld h.f1.at_blk rfl rfl, by omega, by omega, ad, ha, rfl, hw, ?_⟩
  rw [succ_big (by unfold big; omega)]
  exact ih (by omega) _ _ (by rw [List.length_set]; exact hlen) h2
/-- Bytes that were told are turned. -/
theorem forks6 {Kn : World → Prop} {Kp : List PanicEntry → World → Prop} {b : Sl} {xs : Cm.Bs} (hl : xs.length ≤ 1000000) (h : St E (byA b xs :: L) w) (k : ∀ w', St E L w' → Kn w') : T_law08_ConfForks_6 0 b.1 b.2.1 b.2.2 w Kn Kp := by
  have np := h.by_len
  unfold T_law08_ConfForks_6
  intro X hX
  refine up_to xs.length (Q := fun j => ∀ (w : World) (ys : List Value), ys.length = xs.length → St E (ownS b.1 b.2.1 b.2.2 5 1 ys :: L) w → X (j : Int) w) ?_ w (bytesV xs) (bytesV_len xs) h
  intro j hj ih w ys hlen h
  refine hX _ _ ?_
  unfold T_law08_ConfForks_6_body
  rw [← np]
  refine ite_d (fun hc => ?_) fun hc => k w h.drop
  obtain ⟨ad, ha, _, _⟩ := h.rdS_own.cells (by omega)
  obtain ⟨hw, h2⟩ := h.ownS_set ha (i := j) (v := .int .u8 255) (by omega) rfl
  rw [Int.toNat_natCast, Nat.mul_one]
  refine ⟨by omega, by omega, ad, ha, rfl, hw, ?_⟩
  rw [succ_big (by unfold big; omega)]
  exact ih (by omega) _ (ys.set j (.int .u8 255)) (by rw [List.length_set]; exact hlen) h2
set_option maxHeartbeats 2000000 in
theorem forks_walk {a a2 : Option Addr} {l cc l2 c2 : Nat} {ds ds2 : List (Cm.Cmd × Sl)} (hd : CmdsR F a l ds) (hd2 : CmdsR F a2 l2 ds2) (h : St E (kn F :: L) w) (k : ∀ G w', Fz.le F G → St E (kn G :: L) w' → R (.returned (.bool true)) w') : Calls Tryz.prog 8 #[.slice a l cc, .slice a2 l2 c2] w R := by
  refine C_law08_ConfForks ?_
  unfold T_law08_ConfForks
  refine play_spec hd h fun G1 p r s w4 hG1 I h4 => ⟨_, _, _, rfl, ite_n (fun hh => by cases hh) fun _ => ?_⟩
  have S := Sz.of I
  refine Fork_spec h4 fun w9 pf h9 => ⟨_, rfl, ?_⟩
  have h10 : St E (refA G1 r s :: kn G1 :: stA G1 pf s :: stA G1 p s :: L) w9 := St.sel (L := stA G1 pf s :: stA G1 p s :: refA G1 r s :: kn G1 :: L) h9 4 [2, 3, 0, 1]
  refine RFork_spec I h10 fun G2 w12 rf hG2 h12 => ⟨_, rfl, ?_⟩
  have h13 : St E (stA G1 pf s :: refA G2 rf s :: kn G2 :: refA G2 r s :: stA G1 p s :: L) w12 := St.sel (L := refA G2 rf s :: refA G2 r s :: kn G2 :: stA G1 pf s :: stA G1 p s :: L) h12 5 [3, 0, 2, 1, 4]
  have l2' := Fz.le_trans hG1 hG2
  refine forks1 (CmdsR.mono hd2 l2') I (h13.st_mono hG2) fun G3 sf w71 hG3 If h71 => ?_
  have h72 : St E (stA G1 p s :: refA G2 r s :: stA G3 pf sf :: refA G3 rf sf :: kn G3 :: L) w71 := St.sel (L := stA G3 pf sf :: refA G3 rf sf :: kn G3 :: refA G2 r s :: stA G1 p s :: L) h71 5 [4, 3, 0, 1, 2]
  have h72 : St E (stA G3 p s :: refA G2 r s :: stA G3 pf sf :: refA G3 rf sf :: kn G3 :: L) w71 := h72.st_mono (Fz.le_trans hG2 hG3)
  refine Config_spec (L := refA G2 r s :: stA G3 pf sf :: refA G3 rf sf :: kn G3 :: L) at3 S h72 fun w73 ra pa xs hxs h73 => ⟨_, _, _, _, _, _, _, rfl, ?_⟩
  intro w77
  have h77 := h73.alloc (.cells #[.int .i64 0, .slice none 0 0, .slice none 0 0] 30)
  refine ⟨rfl, ok_cfg h77 rfl s.ver ra pa, ?_⟩
  intro w78
  have h78 : St E (blkL w73.heap.size 30 (cfgL s.ver ra pa) :: rtA ra s.routes :: plA pa xs :: tgO xs :: stA G3 p s :: refA G2 r s :: stA G3 pf sf :: refA G3 rf sf :: kn G3 :: L) w78 := St.wr_cfg h77 rfl s.ver ra pa
  clear h77
  clear_value w78 w77
  generalize w73.heap.size = bc at *
  have lx : xs.length = s.pools.length := by rw [← hxs, List.length_map]
  have hpn := I.pn
  have hrn := I.rn
  have h79 : St E (plA pa xs :: tgO xs :: blkL bc 30 (cfgL s.ver ra pa) :: rtA ra s.routes :: stA G3 p s :: refA G2 r s :: stA G3 pf sf :: refA G3 rf sf :: kn G3 :: L) w78 := h78.sel 4 [2, 3, 0, 1]
  refine forks3 (by omega) (fun x hx => by have := (S.pl x.2 (by rw [← hxs]; exact List.mem_map_of_mem hx)).2.1; omega) h79 fun w97 h97 => ?_
  refine forks5 (by omega) h97.f1 fun w104 h104 => ?_
  have hln := I.ln
  refine Put_spec (L := refA G2 r s :: stA G3 pf sf :: refA G3 rf sf :: kn G3 :: L) at3 S I.lr (by omega) h104 fun w106 b h106 => ⟨_, _, _, rfl, ?_⟩
  have hput : (Cm.putS s).length ≤ 1000000 := by
    have h1 := confB_len S
    have h2 := num_len s.ver
    have h3 := num_len s.l.length
    have h4 := las_len (l := s.l) (by omega) s.l.length
    rw [List.take_length] at h4
    simp only [Cm.putS, List.length_append]; omega
  refine forks6 hput h106 fun w112 h112 => ?_
  have h113 : St E (kn G3 :: stA G3 p s :: refA G2 r s :: stA G3 pf sf :: refA G3 rf sf :: L) w112 := St.sel (L := stA G3 p s :: refA G2 r s :: stA G3 pf sf :: refA G3 rf sf :: kn G3 :: L) h112 5 [4, 0, 1, 2, 3]
  refine live_spec h113 fun G4 w114 hG4 h114 => ⟨_, rfl, ite_b (fun _ => ?_) fun hh => by cases hh⟩
  have h115 : St E (stA G3 p s :: refA G2 r s :: kn G4 :: stA G3 pf sf :: refA G3 rf sf :: L) w114 := St.sel (L := _ :: _ :: _ :: _ :: _ :: L) h114 3 [1, 2, 0]
  have h116 : St E (stA G4 p s :: refA G4 r s :: kn G4 :: stA G3 pf sf :: refA G3 rf sf :: L) w114 := ((h115.st_mono hG4).f1.rf_mono (Fz.le_trans hG3 hG4)).f1
  refine same_spec I h116 fun G5 w117 hG5 h117 => ⟨_, rfl, ite_b (fun _ => ?_) fun hh => by cases hh⟩
  have h118 : St E (stA G3 pf sf :: refA G3 rf sf :: kn G5 :: L) w117 := St.sel (L := stA G5 p s :: refA G5 r s :: kn G5 :: stA G3 pf sf :: refA G3 rf sf :: L) h117 5 [3, 4, 2]
  have h119 : St E (stA G5 pf sf :: refA G5 rf sf :: kn G5 :: L) w117 := ((h118.st_mono (Fz.le_trans hG4 hG5)).f1.rf_mono (Fz.le_trans hG4 hG5)).f1
  refine same_spec If h119 fun G6 w120 hG6 h120 => ⟨_, rfl, k G6 _ ?_ (h120.sel 3 [2])⟩
  exact Fz.le_trans l2' (Fz.le_trans hG3 (Fz.le_trans hG4 (Fz.le_trans hG5 hG6)))
theorem forks_law {H : Type} {enc : TypeId × Value → H} {W : World} {a a2 : Option Addr} {l c l2 c2 : Nat} {d d2 : DataW H} {ps ps2 : List MemPlace} (h : DataW.Trod enc Tryz.prog W 0 (fun _ => true) true 22 (.slice a l c) d ps)
    (h2 : DataW.Trod enc Tryz.prog W 0 (fun _ => true) true 22 (.slice a2 l2 c2) d2 ps2) :
    Calls Tryz.prog 8 #[.slice a l c, .slice a2 l2 c2] W fun e w' => e = .returned (.bool true) ∧ RowKit.Below W.heap.size W w' := by
  obtain ⟨ds, hd, _⟩ := open_cmds h
  obtain ⟨ds2, hd2, _⟩ := open_cmds h2
  exact forks_walk hd hd2 (St.start_kn W) fun G w' hG h' => ⟨rfl, h'.below_kn hG⟩
end
end Go.Vc
