/-
  The document's store: what a client was told, and what it does with a command.
-/
import Derived.Test.YtcpmfjclkdjfmaaGreatConfZ
namespace Go.Vc
open Go Go.Proofs Go.Proofs.YtcpmfjclkdjfmaaGreat
set_option maxRecDepth 100000
section
variable {E w : World} {L : List Asrt} {R : Ending → World → Prop} {F G : Fz} {s : Cm.Sm} {c : Cm.Cmd} {q : Sl} {r : Nat}
abbrev rfL (v : Int) (ra pa la : Sl) : List Value := [.int .i64 v, .slice ra.1 ra.2.1 ra.2.2, .slice pa.1 pa.2.1 pa.2.2, .slice la.1 la.2.1 la.2.2]
/-- The document's store at r is s; its lists are known for good. -/
def refA (F : Fz) (r : Nat) (s : Cm.Sm) : Asrt := fun h => ∃ x : Sl × Sl × Sl, cfgR F x.1 x.2.1 s.routes s.pools ∧ RdF F x.2.2.1 x.2.2.2.1 4 (s.l.flatMap lcV) ∧ blkL r 108 (rfL s.ver x.1 x.2.1 x.2.2) h
theorem St.rf_open (h : St E (refA F r s :: L) w) : ∃ ra pa la, cfgR F ra pa s.routes s.pools ∧ RdF F la.1 la.2.1 4 (s.l.flatMap lcV) ∧ St E (blkL r 108 (rfL s.ver ra pa la) :: L) w := by
  obtain ⟨en, x, ⟨h1, h2, d, rfl, ⟨y, ho1, ho2, hs⟩, hL⟩, hl⟩ := h
  exact ⟨_, _, _, ho1, ho2, en, _, ⟨h1, h2, d, rfl, hs, hL⟩, hl⟩
theorem St.rf_mk {ra pa la : Sl} (h1 : cfgR F ra pa s.routes s.pools) (h2 : RdF F la.1 la.2.1 4 (s.l.flatMap lcV)) (h : St E (blkL r 108 (rfL s.ver ra pa la) :: L) w) : St E (refA F r s :: L) w := h.mono fun _ hx => ⟨(ra, pa, la), h1, h2, hx⟩
theorem St.rf_mono (h : St E (refA F r s :: L) w) (k : Fz.le F G) : St E (refA G r s :: L) w := h.mono fun _ ⟨y, h1, h2, h3⟩ => ⟨y, h1.mono k, RdF.mono h2 k, h3⟩
theorem RNew_spec (F : Fz) (h : St E L w) (k : ∀ r w', St E (refA F r Cm.new :: L) w' → R (.returned (.pointer (some ⟨r, 0, none⟩))) w') : Calls Tryz.prog 36 #[] w R := by
  refine C_ref08_New ?_
  unfold T_ref08_New
  intro w1
  exact k _ _ (St.rf_mk (s := Cm.new) (ra := (none, 0, 0)) (pa := (none, 0, 0)) (la := (none, 0, 0)) (cfgR_nil F) (RdF.nil F none) (h.alloc _))
theorem la_at {xs : List Cm.Last} {a : Option Addr} {l : Nat} (h : RdS w a l 4 (xs.flatMap lcV)) {j : Nat} (hj : j < xs.length) : ∃ ad, a = some ad ∧ rd w (ad.add (j * 4)) (.agg #[.int .i64 xs[j].client, .int .i64 xs[j].seq, .int .i64 xs[j].e, .int .i64 xs[j].ver]) ∧ (∀ k v, (lcV xs[j])[k]? = some v → one v = true → rd w ((ad.add (j * 4)).add k) v) ∧ rd w ((ad.add (j * 4)).add 2) (.agg #[.int .i64 xs[j].e, .int .i64 xs[j].ver]) := by
  obtain ⟨ad, ha, h1, h2⟩ := h.elem (f := lcV) lcV_len (List.getElem?_eq_getElem hj) (by decide)
  refine ⟨ad, ha, h1, h2, ?_⟩
  have hl : 0 < l := by have := h.count lcV_len (by decide); omega
  have := h.rd_agg ha hl (o := j * 4 + 2) (vs := [.int .i64 xs[j].e, .int .i64 xs[j].ver]) fun i u hu => by
    match i, hu with
    | 0, hu => rw [Nat.add_zero, flat_get lcV_len xs j 2 xs[j] (List.getElem?_eq_getElem hj) (by decide)]; exact hu
    | 1, hu => rw [Nat.add_assoc, flat_get lcV_len xs j (2 + 1) xs[j] (List.getElem?_eq_getElem hj) (by decide)]; exact hu
    | n + 2, hu => simp at hu
  have e : (ad.add (j * 4)).add 2 = ad.add (j * 4 + 2) := by
    obtain ⟨ad', ha', hsp, _⟩ := h.cells hl
    rw [ha] at ha'
    injection ha' with ha'
    subst ha'
    obtain ⟨b, o, sp⟩ := ad
    simp only at hsp
    subst hsp
    rw [add_mk, add_mk, add_mk, Nat.add_assoc]
  rw [e]
  exact this
set_option maxHeartbeats 1000000 in
theorem RSeen_spec {n : Int} (hm : kn F ∈ L) (hb : s.l.length ≤ 1000) (h : St E (refA F r s :: L) w) (k : ∀ w', St E (refA F r s :: L) w' → R (.returned (.tuple #[.int .i64 (Cm.seenC s n).1, .agg #[.int .i64 (Cm.seenC s n).2.1, .int .i64 (Cm.seenC s n).2.2]])) w') :
    Calls Tryz.prog 55 #[.pointer (some ⟨r, 0, none⟩), .int .i64 n] w R := by
  have hbig : big = 140737488355328 := rfl
  obtain ⟨ra, pa, la, hcf, hl, h⟩ := h.rf_open
  refine C_ref08_Store_Seen ?_
  unfold T_ref08_Store_Seen
  intro w3
  have h3 := h.alloc (.cells #[.int .i64 0, .int .i64 0] 45)
  have h3 : St E (blkL w.heap.size 45 (rsL 0 0) :: blkL r 108 (rfL s.ver ra pa la) :: L) w3 := h3
  clear_value w3
  generalize w.heap.size = br at *
  have n1 := hl.count lcV_len (by decide) h3 (mem2 hm)
  unfold T_ref08_Store_Seen_1
  intro X hX
  refine up_to s.l.length (Q := fun j => ∀ w : World, (s.l.find? fun x => decide (x.client = n)) = ((s.l.drop j).find? fun x => decide (x.client = n)) → St E (blkL br 45 (rsL 0 0) :: blkL r 108 (rfL s.ver ra pa la) :: L) w → X (j : Int) w) ?_ w3 (by simp) h3
  intro j hj ih w hf h
  refine hX _ _ ?_
  unfold T_ref08_Store_Seen_1_body T_ref08_Store_Seen_2
  refine ite_n (fun _ => ⟨_, rfl, _, _, _, rd_fld h.f1.at_blk rfl rfl, ?_⟩) fun hh => by cases hh
  rw [← n1]
  refine ite_d (fun hc => ?_) fun hc => ?_
  · have hjl : j < s.l.length := by omega
    obtain ⟨ad, ha, _, hk, hg⟩ := la_at (hl.at h (mem2 hm)) hjl
    rw [Int.toNat_natCast]
    refine ⟨_, rfl, _, _, _, rd_fld h.f1.at_blk rfl rfl, by omega, by omega, ad, ha, _, hk 0 _ rfl rfl, ite_b (fun h1 => ?_) fun h1 => ?_⟩
    · have h1 : s.l[j].client = n := by simpa using h1
      intro w21
      have h21 : St E _ w21 := h.drew
      clear_value w21
      obtain ⟨ad2, ha2, _, hk2, hg2⟩ := la_at (hl.at h21 (mem2 hm)) hjl
      refine ⟨_, rfl, _, _, _, rd_fld h21.f1.at_blk rfl rfl, by omega, by omega, ad2, ha2, _, hk2 1 _ rfl rfl, _, rfl, _, _, _, rd_fld h21.f1.at_blk rfl rfl, by omega, by omega, ad2, ha2, _, _, hg2, rfl, ok_res h21 rfl _ _, ?_⟩
      intro w31
      have h31 := h21.wr_res rfl s.l[j].e s.l[j].ver
      have hs : Cm.seenC s n = (s.l[j].seq, s.l[j].e, s.l[j].ver) := by
        unfold Cm.seenC
        rw [hf, List.drop_eq_getElem_cons hjl, List.find?_cons_of_pos (by simpa using h1)]
      refine ⟨trivial, _, _, rd_res h31, ?_⟩
      rw [hs] at k
      exact k _ (St.rf_mk hcf hl h31.drop)
    · have h1 : s.l[j].client ≠ n := by simpa using h1
      rw [succ_big (by omega)]
      refine ih hjl _ ?_ h
      rw [hf, List.drop_eq_getElem_cons hjl, List.find?_cons_of_neg (by simpa using h1)]
  · have hs : Cm.seenC s n = (0, 0, 0) := by
      unfold Cm.seenC
      rw [hf, List.drop_eq_nil_of_le (by omega)]
      rfl
    rw [hs] at k
    refine ⟨rfl, ok_res h rfl 0 0, ?_⟩
    intro w37
    have h37 := h.wr_res rfl 0 0
    exact ⟨_, _, rd_res h37, k _ (St.rf_mk hcf hl h37.drop)⟩
theorem one_lc (x : Cm.Last) : ∀ u ∈ lcV x, one u = true := by intro u hu; simp [lcV] at hu; rcases hu with rfl | rfl | rfl | rfl <;> rfl
set_option maxHeartbeats 2000000 in
/-- (*Store).note. -/
theorem Rnote_spec {x : Cm.Last} (hb : s.l.length ≤ 1000) (h : St E (refA F r s :: kn F :: L) w) (k : ∀ G w', Fz.le F G → St E (refA G r (Cm.note s x) :: kn G :: L) w' → R (.returned (.tuple #[])) w') :
    Calls Tryz.prog 62 #[.pointer (some ⟨r, 0, none⟩), .agg #[.int .i64 x.client, .int .i64 x.seq, .int .i64 x.e, .int .i64 x.ver]] w R := by
  have hbig : big = 140737488355328 := rfl
  obtain ⟨ra, pa, la, hc, hl, h⟩ := h.rf_open
  refine C_ref08_Store_note ?_
  unfold T_ref08_Store_note
  intro w4
  have h4 : St E (blkL w.heap.size 113 (lcV x) :: blkL r 108 (rfL s.ver ra pa la) :: kn F :: L) w4 := h.alloc _
  intro w5
  have h5 : St E (laA (some ⟨w4.heap.size, 0, none⟩, 0, 0) [] :: blkL w.heap.size 113 (lcV x) :: blkL r 108 (rfL s.ver ra pa la) :: kn F :: L) w5 := h4.la_zero
  clear_value w5
  clear h4
  clear_value w4
  generalize w.heap.size = bx at *
  have hm : ∀ {A B C : Asrt}, kn F ∈ A :: B :: C :: kn F :: L := at3
  have n1 := hl.count lcV_len (by decide) h5 hm
  unfold T_ref08_Store_note_1
  intro X hX
  refine up_to s.l.length (Q := fun j => ∀ (w : World) (o : Sl), St E (laA o ((s.l.take j).filter fun y => Cm.laLt y x) :: blkL bx 113 (lcV x) :: blkL r 108 (rfL s.ver ra pa la) :: kn F :: L) w → X o.1 o.2.1 o.2.2 (j : Int) w) ?_ w5 (some ⟨w4.heap.size, 0, none⟩, 0, 0) h5
  intro j hj ih w o h
  refine hX _ _ _ _ _ ?_
  unfold T_ref08_Store_note_1_body
  refine ⟨_, rfl, _, _, _, rd_fld h.f2.at_blk rfl rfl, ?_⟩
  rw [← n1]
  refine ite_d (fun hc => ?_) fun hc2 => ?_
  · have hjl : j < s.l.length := by omega
    intro w10
    have h10 : St E _ w10 := h.drew
    clear_value w10
    obtain ⟨ad, ha, hg, hk, _⟩ := la_at (hl.at h10 hm) hjl
    have hfl : ((s.l.take j).filter fun y => Cm.laLt y x).length ≤ 1000 := Nat.le_trans (List.length_filter_le ..) (by simp; omega)
    rw [Int.toNat_natCast, succ_big (by omega)]
    refine ⟨_, rfl, _, _, _, rd_fld h10.f2.at_blk rfl rfl, by omega, by omega, ad, ha, _, hk 0 _ rfl rfl, _, rd_cell h10.f1.at_blk rfl rfl, ?_⟩
    refine ite_d (fun h1 => ⟨_, rfl, _, _, _, rd_fld h10.f2.at_blk rfl rfl, by omega, by omega, ad, ha, _, _, _, _, hg, ?_⟩) fun h1 => ?_
    · intro w17
      obtain ⟨o', w19, hr, h19⟩ := app_la1 (x := s.l[j]) h10 (by omega)
      refine runV_ok hr ⟨_, _, _, rfl, ih hjl _ o' ?_⟩
      rw [filter_step hjl, if_pos (show Cm.laLt s.l[j] x = true from decide_eq_true h1)]
      exact h19
    · refine ih hjl _ o ?_
      rw [filter_step hjl, if_neg (by unfold Cm.laLt; simpa using h1), List.append_nil]
      exact h10
  · rw [List.take_of_length_le (by omega)] at h
    have hfl : (s.l.filter fun y => Cm.laLt y x).length ≤ 1000 := Nat.le_trans (List.length_filter_le ..) hb
    refine ⟨_, _, _, _, rd_agg (xs := lcV x) h.f1.at_blk (by intro i u hu; rw [Nat.zero_add]; exact hu), ?_⟩
    intro w29
    obtain ⟨o', w31, hr, h31⟩ := app_la1 (x := x) h (by omega)
    refine runV_ok hr ⟨_, _, _, rfl, ?_⟩
    unfold T_ref08_Store_note_2
    intro X hX
    refine up_to s.l.length (Q := fun j => ∀ (w : World) (o : Sl), St E (laA o ((s.l.filter fun y => Cm.laLt y x) ++ [x] ++ (s.l.take j).filter fun y => Cm.laLt x y) :: blkL bx 113 (lcV x) :: blkL r 108 (rfL s.ver ra pa la) :: kn F :: L) w → X o.1 o.2.1 o.2.2 (j : Int) w) ?_ w31 o' (by simpa using h31)
    intro j hj ih w o h
    refine hX _ _ _ _ _ ?_
    unfold T_ref08_Store_note_2_body
    refine ⟨_, rfl, _, _, _, rd_fld h.f2.at_blk rfl rfl, ?_⟩
    rw [← n1]
    refine ite_d (fun hc => ?_) fun hc3 => ?_
    · have hjl : j < s.l.length := by omega
      intro w10
      have h10 : St E _ w10 := h.drew
      clear_value w10
      obtain ⟨ad, ha, hg, hk, _⟩ := la_at (hl.at h10 hm) hjl
      have hfl2 : ((s.l.take j).filter fun y => Cm.laLt x y).length ≤ 1000 := Nat.le_trans (List.length_filter_le ..) (by simp; omega)
      rw [Int.toNat_natCast, succ_big (by omega)]
      refine ⟨_, rfl, _, _, _, rd_fld h10.f2.at_blk rfl rfl, by omega, by omega, ad, ha, _, hk 0 _ rfl rfl, _, rd_cell h10.f1.at_blk rfl rfl, ?_⟩
      refine ite_d (fun h1 => ⟨_, rfl, _, _, _, rd_fld h10.f2.at_blk rfl rfl, by omega, by omega, ad, ha, _, _, _, _, hg, ?_⟩) fun h1 => ?_
      · intro w17
        obtain ⟨o', w19, hr, h19⟩ := app_la1 (x := s.l[j]) h10 (by simp only [List.length_append, List.length_singleton]; omega)
        refine runV_ok hr ⟨_, _, _, rfl, ih hjl _ o' ?_⟩
        rw [filter_step hjl, if_pos (show Cm.laLt x s.l[j] = true from decide_eq_true h1), ← List.append_assoc]
        exact h19
      · refine ih hjl _ o ?_
        rw [filter_step hjl, if_neg (by unfold Cm.laLt; simpa using h1), List.append_nil]
        exact h10
    · rw [List.take_of_length_le (by omega)] at h
      obtain ⟨G, hG, h2, hr2⟩ := St.freeze_la (h.sel 4 [0, 3, 1, 2])
      have h3 := St.wr_fld (k := 3) (v := .slice o.1 o.2.1 o.2.2) (St.sel (L := kn G :: blkL bx 113 (lcV x) :: blkL r 108 (rfL s.ver ra pa la) :: L) h2 3 [2, 0]) rfl
      refine ⟨_, rfl, rfl, wrOk_fld h.f2.at_blk (by show 3 < 4; decide) rfl, ?_⟩
      intro w75
      refine k G _ hG (St.rf_mk (s := Cm.note s x) (ra := ra) (pa := pa) (la := o) (hc.mono hG) ?_ h3)
      have e : (Cm.note s x).l = (s.l.filter fun y => Cm.laLt y x) ++ [x] ++ s.l.filter fun y => Cm.laLt x y := by simp [Cm.note, Cm.put]
      rw [e]
      exact hr2
set_option maxHeartbeats 2000000 in
theorem rdo1_spec {br bc : Nat} {e v : Int} {Kn Kr : World → Prop} {Kp : List PanicEntry → World → Prop} (hm : kn F ∈ L) (hb : s.l.length ≤ 1000)
    (h : St E (doL br bc e v c q (refA F r s :: L)) w)
    (k1 : ¬ (0 < c.client ∧ c.seq = (Cm.seenC s c.client).1) → ¬ (0 < c.client ∧ c.seq < (Cm.seenC s c.client).1) → ∀ w', St E (doL br bc e v c q (refA F r s :: L)) w' → Kn w')
    (k2 : 0 < c.client ∧ c.seq = (Cm.seenC s c.client).1 → ∀ w', St E (doL br bc (Cm.seenC s c.client).2.1 (Cm.seenC s c.client).2.2 c q (refA F r s :: L)) w' → Kr w')
    (k3 : ¬ (0 < c.client ∧ c.seq = (Cm.seenC s c.client).1) → 0 < c.client ∧ c.seq < (Cm.seenC s c.client).1 → ∀ w', St E (doL br bc 12 s.ver c q (refA F r s :: L)) w' → Kr w') :
    T_ref08_Store_Do_1 (some ⟨r, 0, none⟩) ⟨bc, 0, none⟩ ⟨br, 0, none⟩ (decide (c.client > 0)) w Kn Kr Kp := by
  unfold T_ref08_Store_Do_1
  refine ite_b (fun hb1 => ?_) fun hb1 => k1 (fun hx => ?_) (fun hx => ?_) _ h
  · have hcc : 0 < c.client := of_decide_eq_true hb1
    refine ⟨_, rd_fld h.f1.at_blk rfl rfl, RSeen_spec (mem2 hm) hb (h.sel 3 [2, 0, 1]) fun w38 h38 => ⟨_, _, _, rfl, ?_⟩⟩
    generalize hq : Cm.seenC s c.client = sq at *
    have h38 : St E (doL br bc e v c q (refA F r s :: L)) w38 := St.sel (L := refA F r s :: blkL br 45 (rsL e v) :: blkL bc 42 (cmdL c q) :: L) h38 3 [1, 2, 0]
    intro w42
    have h42 := h38.alloc (.cells #[.int .i64 0, .int .i64 0] 45)
    refine ⟨rfl, ok_res h42 rfl sq.2.1 sq.2.2, ?_⟩
    intro w43
    have h43 : St E (blkL w38.heap.size 45 (rsL sq.2.1 sq.2.2) :: doL br bc e v c q (refA F r s :: L)) w43 := h42.wr_res rfl sq.2.1 sq.2.2
    clear h42
    clear_value w43 w42
    generalize w38.heap.size = b2 at *
    refine ⟨_, rd_fld h43.f2.at_blk rfl rfl, ite_b (fun h1 => ?_) fun h1 => ?_⟩
    · refine ⟨_, _, rd_res h43, rfl, ok_res h43.f1 rfl _ _, ?_⟩
      intro w47
      exact k2 ⟨hcc, by simpa using h1⟩ _ (h43.f1.wr_res rfl _ _).f1.drop
    · have hne : ¬ (0 < c.client ∧ c.seq = sq.1) := fun hx => by rw [hx.2] at h1; simp at h1
      refine ⟨_, rd_fld h43.f2.at_blk rfl rfl, ite_d (fun h2 => ?_) fun h2 => k1 hne (fun hx => h2 hx.2) _ h43.drop⟩
      obtain ⟨ra, pa, la, _, _, h44⟩ := h43.f3.rf_open
      refine ⟨_, rfl, _, rd_cell h44.at_blk rfl rfl, rfl, ok_res h43.f1 rfl _ _, ?_⟩
      intro w51
      exact k3 hne ⟨hcc, h2⟩ _ (h43.f1.wr_res rfl _ _).f1.drop
  · exact absurd hx.1 (of_decide_eq_false hb1)
  · exact absurd hx.1 (of_decide_eq_false hb1)
set_option maxHeartbeats 2000000 in
theorem rdo2_spec {br bc : Nat} {e v : Int} {Kn : Int → World → Prop} {Kp : List PanicEntry → World → Prop} (I : Cm.Inv s) (hc : Cm.chk c = 0) (hr : RdF F q.1 q.2.1 2 (c.tg.flatMap tV))
    (h : St E (doL br bc e v c q (refA F r s :: kn F :: L)) w)
    (k : ∀ G w', Fz.le F G → St E (doL br bc e v c q (refA G r (Cm.step s c).1 :: kn G :: L)) w' → Kn (Cm.step s c).2 w') :
    T_ref08_Store_Do_2 (some ⟨r, 0, none⟩) ⟨bc, 0, none⟩ w (fun b w => T_ref08_Store_Do_3 (some ⟨r, 0, none⟩) ⟨bc, 0, none⟩ b w Kn Kp) Kp := by
  have nf : ∀ {w : World} {er : Int}, Cm.step s c = (s, er) → St E (doL br bc e v c q (refA F r s :: kn F :: L)) w → Kn er w := fun hs h => by
    rw [hs] at k
    exact k F _ (Fz.le_refl F) h
  have go : ∀ {w : World} (b : Bool), (b = true ↔ (0 ≤ c.expect ∧ c.expect ≠ s.ver)) → St E (doL br bc e v c q (refA F r s :: kn F :: L)) w → T_ref08_Store_Do_3 (some ⟨r, 0, none⟩) ⟨bc, 0, none⟩ b w Kn Kp := fun {w} b hb h => by
    unfold T_ref08_Store_Do_3
    refine ite_b (fun h1 => nf (by unfold Cm.step; rw [if_pos (hb.1 h1)]) h) fun h1 => ?_
    have hne : ¬ (0 ≤ c.expect ∧ c.expect ≠ s.ver) := fun hx => by rw [hb.2 hx] at h1; cases h1
    obtain ⟨ra, pa, la, hcf, hla, h2⟩ := (h.f2).rf_open
    refine ⟨_, rfl, _, rd_cell h2.at_blk rfl rfl, ite_b (fun h3 => nf (by unfold Cm.step; rw [if_neg hne, if_pos (by simpa using h3)]) h) fun h3 => ?_⟩
    have hst : Cm.step s c = Cm.act s c := by unfold Cm.step; rw [if_neg hne, if_neg (by simpa using h3)]
    rw [hst] at k
    intro w70
    have h70 : St E (blkL r 108 (rfL s.ver ra pa la) :: blkL br 45 (rsL e v) :: blkL bc 42 (cmdL c q) :: kn F :: L) w70 := h2.drew
    clear_value w70
    refine ⟨_, rfl, _, _, _, _, _, _, _, rd_agg (xs := cfgL s.ver ra pa) h70.at_blk (by intro i u hu; rw [Nat.zero_add]; match i, hu with | 0, hu => exact hu | 1, hu => exact hu | 2, hu => exact hu | n + 3, hu => simp at hu), _, _, _, _, _, _, _, _, _, _, rd_cmd h70.f2, ?_⟩
    refine Ract_spec (L := blkL r 108 (rfL s.ver ra pa la) :: blkL br 45 (rsL e v) :: blkL bc 42 (cmdL c q) :: L) I hc hr hcf (h70.sel 4 [3, 0, 1, 2]) fun G w84 ra' pa' hG hcf' h84 => ⟨_, _, _, _, _, _, _, _, rfl, trivial, _, rfl, rfl, ?_, ?_⟩
    · exact wrOk_agg h84.f1.at_blk (xs := cfgL s.ver ra' pa') (by simp) (one_cfg _ _ _)
    · intro w90
      obtain ⟨_, hv, hll, _, _⟩ := Cm.act_keeps I hc
      have h90 := St.wr_agg (off := 0) (xs := cfgL s.ver ra' pa') h84.f1 (by simp)
      have h91 : St E (blkL r 108 (rfL (Cm.act s c).1.ver ra' pa' la) :: kn G :: blkL br 45 (rsL e v) :: blkL bc 42 (cmdL c q) :: L) w90 := by rw [hv]; exact h90
      refine ⟨trivial, k G _ hG ?_⟩
      have h92 : St E (refA G r (Cm.act s c).1 :: kn G :: blkL br 45 (rsL e v) :: blkL bc 42 (cmdL c q) :: L) w90 := St.rf_mk hcf' (by rw [hll]; exact RdF.mono hla hG) h91
      exact h92.sel 4 [2, 3, 0, 1]
  unfold T_ref08_Store_Do_2
  intro w55
  have h55 : St E _ w55 := h.drew
  clear_value w55
  refine ⟨_, rd_fld h55.f1.at_blk rfl rfl, ite_d (fun h1 => ?_) fun h1 => go false ⟨fun hh => (by cases hh), fun hx => absurd hx.1 h1⟩ h55⟩
  obtain ⟨ra, pa, la, hcf, hla, h2⟩ := (h55.f2).rf_open
  refine ⟨_, rd_fld h55.f1.at_blk rfl rfl, _, rfl, _, rd_cell h2.at_blk rfl rfl, go _ ?_ h55⟩
  rw [ne_dec]
  simp only [decide_eq_true_eq]
  exact ⟨fun hh => ⟨h1, hh⟩, fun hh => hh.2⟩
set_option maxHeartbeats 4000000 in
/-- (*Store).Do, in the document's words. -/
theorem RDo_spec (I : Cm.Inv s) (hr : RdF F q.1 q.2.1 2 (c.tg.flatMap tV)) (ho : okC c) (h : St E (refA F r s :: kn F :: L) w)
    (k : ∀ G w', Fz.le F G → St E (refA G r (Cm.doC s c).1 :: kn G :: L) w' → R (.returned (.agg #[.int .i64 (Cm.doC s c).2.1, .int .i64 (Cm.doC s c).2.2])) w') : Calls Tryz.prog 29 #[.pointer (some ⟨r, 0, none⟩), cmdV c q] w R := by
  have hln := I.ln
  refine C_ref08_Store_Do ?_
  unfold T_ref08_Store_Do
  intro w10
  have h10 : St E (blkL w.heap.size 42 (cmdL c q) :: refA F r s :: kn F :: L) w10 := h.alloc _
  intro w11
  have h11 : St E (doL w10.heap.size w.heap.size 0 0 c q (refA F r s :: kn F :: L)) w11 := h10.alloc _
  clear_value w11
  clear h10
  clear_value w10
  generalize w10.heap.size = br at *
  generalize w.heap.size = bc at *
  have done : ∀ {w : World} {e v : Int} {s' : Cm.Sm} {G : Fz}, Fz.le F G → Cm.doC s c = (s', e, v) → St E (doL br bc e v c q (refA G r s' :: kn G :: L)) w →
      ∃ x136 : Int, ∃ x137 : Int, rd w ⟨br, 0, none⟩ (.agg #[.int .i64 x136, .int .i64 x137]) ∧ R (.returned (.agg #[.int .i64 x136, .int .i64 x137])) w := fun hFG hd h => by
    rw [hd] at k
    exact ⟨_, _, rd_res h, k _ _ hFG h.drop.drop⟩
  refine ite_some ⟨_, _, _, _, _, _, _, _, _, _, rd_cmd h11.f1, RCheck_spec (mem2 at1) h11 hr ho fun w24 h24 => ⟨_, rfl, ite_b (fun h1 => ?_) fun h1 => ?_⟩⟩
  · have h1 : Cm.chk c ≠ 0 := by simpa using h1
    obtain ⟨ra, pa, la, _, _, h25⟩ := h24.f2.rf_open
    refine ⟨_, rfl, _, rd_cell h25.at_blk rfl rfl, rfl, ok_res h24 rfl _ _, ?_⟩
    intro w28
    exact done (Fz.le_refl F) (by unfold Cm.doC; rw [if_pos h1]) (h24.wr_res rfl _ _)
  · have hc : Cm.chk c = 0 := by simpa using h1
    refine ⟨_, rd_fld h24.f1.at_blk rfl rfl, rdo1_spec (L := kn F :: L) at0 (by omega) h24 (fun n1 n2 w74 h74 => ?_) (fun y1 w74 h74 => ?_) (fun n1 y2 w74 h74 => ?_)⟩
    · refine rdo2_spec I hc hr h74 fun G w107 hFG h107 => ?_
      have hd : Cm.doC s c = (if 0 < c.client then Cm.note { (Cm.step s c).1 with ver := Cm.vers (Cm.step s c) } ⟨c.client, c.seq, (Cm.step s c).2, Cm.vers (Cm.step s c)⟩ else { (Cm.step s c).1 with ver := Cm.vers (Cm.step s c) }, (Cm.step s c).2, Cm.vers (Cm.step s c)) := by
        unfold Cm.doC; rw [if_neg (by simpa using hc), if_neg n1, if_neg n2]
      obtain ⟨J, hv, hl, _, _, hz⟩ := Cm.step_keeps I hc
      generalize hst : Cm.step s c = st at *
      obtain ⟨s', er⟩ := st
      simp only at *
      obtain ⟨ra, pa, la, hcf, hla, h108⟩ := (h107.f2).rf_open
      have fin : ∀ {w : World}, St E (refA G r { s' with ver := Cm.vers (s', er) } :: kn G :: doL br bc 0 0 c q L) w → (∃ a103, some (⟨r, 0, none⟩ : Addr) = some a103 ∧ ∃ x104 : Int, rd w a103 (.int .i64 x104) ∧ let w105 : World := w.alloc (.cells #[.int .i64 0, .int .i64 0] 45)
          (.agg #[.int .i64 er, .int .i64 x104] : Value).cells.size = 2 ∧ wrOk w105 (⟨w.heap.size, 0, none⟩ : Addr) (.agg #[.int .i64 er, .int .i64 x104]) ∧ let w106 : World := wr w105 (⟨w.heap.size, 0, none⟩ : Addr) (.agg #[.int .i64 er, .int .i64 x104])
          ∃ x107 : Int, rd w106 ((⟨bc, 0, none⟩ : Addr).add 1) (.int .i64 x107) ∧ if (decide ((x107 : Int) > 0)) = true then (∃ x108 : Int, rd w106 ((⟨bc, 0, none⟩ : Addr).add 1) (.int .i64 x108) ∧ ∃ x109 : Int, rd w106 ((⟨bc, 0, none⟩ : Addr).add 2) (.int .i64 x109) ∧ ∃ x110 : Int, ∃ x111 : Int, rd w106 (⟨w.heap.size, 0, none⟩ : Addr) (.agg #[.int .i64 x110, .int .i64 x111]) ∧ Calls Tryz.prog 62 #[.pointer (some (⟨r, 0, none⟩ : Addr)), .agg #[.int .i64 x108, .int .i64 x109, .int .i64 x110, .int .i64 x111]] w106 (ret (fun r112 w113 => r112 = .tuple #[] ∧ ∃ x114 : Int, ∃ x115 : Int, rd w113 (⟨w.heap.size, 0, none⟩ : Addr) (.agg #[.int .i64 x114, .int .i64 x115]) ∧ (.agg #[.int .i64 x114, .int .i64 x115] : Value).cells.size = 2 ∧ wrOk w113 (⟨br, 0, none⟩ : Addr) (.agg #[.int .i64 x114, .int .i64 x115]) ∧ let w116 : World := wr w113 (⟨br, 0, none⟩ : Addr) (.agg #[.int .i64 x114, .int .i64 x115])
          ∃ x117 : Int, ∃ x118 : Int, rd w116 (⟨br, 0, none⟩ : Addr) (.agg #[.int .i64 x117, .int .i64 x118]) ∧ R (.returned (.agg #[.int .i64 x117, .int .i64 x118])) w116) (pan R))) else (∃ x119 : Int, ∃ x120 : Int, rd w106 (⟨w.heap.size, 0, none⟩ : Addr) (.agg #[.int .i64 x119, .int .i64 x120]) ∧ (.agg #[.int .i64 x119, .int .i64 x120] : Value).cells.size = 2 ∧ wrOk w106 (⟨br, 0, none⟩ : Addr) (.agg #[.int .i64 x119, .int .i64 x120]) ∧ let w121 : World := wr w106 (⟨br, 0, none⟩ : Addr) (.agg #[.int .i64 x119, .int .i64 x120])
          ∃ x122 : Int, ∃ x123 : Int, rd w121 (⟨br, 0, none⟩ : Addr) (.agg #[.int .i64 x122, .int .i64 x123]) ∧ R (.returned (.agg #[.int .i64 x122, .int .i64 x123])) w121)) := fun {w} h => by
        obtain ⟨ra, pa, la, _, _, hv0⟩ := h.rf_open
        refine ⟨_, rfl, _, rd_cell hv0.at_blk rfl rfl, ?_⟩
        clear hv0
        intro w117
        have h117 := h.alloc (.cells #[.int .i64 0, .int .i64 0] 45)
        refine ⟨rfl, ok_res h117 rfl er (Cm.vers (s', er)), ?_⟩
        intro w118
        have h118 : St E (blkL w.heap.size 45 (rsL er (Cm.vers (s', er))) :: refA G r { s' with ver := Cm.vers (s', er) } :: kn G :: doL br bc 0 0 c q L) w118 := h117.wr_res rfl _ _
        clear_value w118
        clear h117
        clear_value w117
        generalize w.heap.size = b2 at *
        refine ⟨_, rd_fld h118.f4.at_blk rfl rfl, ite_d (fun hcc => ?_) fun hcc => ?_⟩
        · refine ⟨_, rd_fld h118.f4.at_blk rfl rfl, _, rd_fld h118.f4.at_blk rfl rfl, _, _, rd_res h118, ?_⟩
          have hlen : { s' with ver := Cm.vers (s', er) : Cm.Sm }.l.length ≤ 1000 := by have := J.ln; show s'.l.length ≤ 1000; omega
          refine Rnote_spec (x := ⟨c.client, c.seq, er, Cm.vers (s', er)⟩) (L := blkL b2 45 (rsL er (Cm.vers (s', er))) :: doL br bc 0 0 c q L) hlen (h118.sel 3 [1, 2, 0]) fun G2 w113 hG2 h113 => ⟨rfl, ?_⟩
          refine ⟨_, _, rd_res h113.f2, rfl, ok_res h113.f3 rfl _ _, ?_⟩
          intro w116
          have h116 := h113.f3.wr_res rfl er (Cm.vers (s', er))
          refine done (Fz.le_trans hFG hG2) hd ?_
          rw [if_pos hcc]
          exact St.sel (L := _ :: _ :: _ :: _ :: _ :: L) h116 5 [0, 4, 1, 2]
        · refine ⟨_, _, rd_res h118, rfl, ok_res h118.f3 rfl _ _, ?_⟩
          intro w121
          have h121 := h118.f3.wr_res rfl er (Cm.vers (s', er))
          refine done hFG hd ?_
          rw [if_neg hcc]
          exact St.sel (L := _ :: _ :: _ :: _ :: _ :: L) h121 5 [0, 4, 2, 3]
      have arr : ∀ {w : World} {v : Int}, v = Cm.vers (s', er) → St E (blkL r 108 (rfL v ra pa la) :: blkL br 45 (rsL 0 0) :: blkL bc 42 (cmdL c q) :: kn G :: L) w → St E (refA G r { s' with ver := Cm.vers (s', er) } :: kn G :: doL br bc 0 0 c q L) w := fun hv h => by
        subst hv
        exact St.sel (L := refA G r { s' with ver := Cm.vers (s', er) } :: _ :: _ :: kn G :: L) (St.rf_mk (s := { s' with ver := Cm.vers (s', er) }) hcf hla h) 4 [0, 3, 1, 2]
      unfold T_ref08_Store_Do_4
      refine ite_b (fun h0 => ?_) fun h0 => ?_
      · have h0 : er = 0 := by simpa using h0
        have hver : Cm.vers (s', er) = s'.ver + 1 := by unfold Cm.vers; rw [if_pos h0]
        have hw : IntKind.wrap .i64 (s'.ver + 1) = s'.ver + 1 := by
          have := hz h0
          have := J.v0
          exact wrap_id (by omega) (by omega)
        refine ⟨_, rfl, _, rd_cell h108.at_blk rfl rfl, _, rfl, rfl, wrOk_cell h108.at_blk (by simp) rfl, ?_⟩
        intro w113
        have := h108.wr_cell (off := 0) (v := .int .i64 (IntKind.wrap .i64 (s'.ver + 1))) rfl
        rw [show (rfL s'.ver ra pa la).set 0 (.int .i64 (IntKind.wrap .i64 (s'.ver + 1))) = rfL (s'.ver + 1) ra pa la from by rw [hw]; rfl] at this
        exact fin (arr hver.symm this)
      · have h0 : er ≠ 0 := by simpa using h0
        have hver : Cm.vers (s', er) = s'.ver := by unfold Cm.vers; rw [if_neg h0]
        exact fin (arr hver.symm h108)
    · exact done (Fz.le_refl F) (by unfold Cm.doC; rw [if_neg (by simpa using hc), if_pos y1]) h74
    · exact done (Fz.le_refl F) (by unfold Cm.doC; rw [if_neg (by simpa using hc), if_neg n1, if_pos y2]) h74
end
end Go.Vc
