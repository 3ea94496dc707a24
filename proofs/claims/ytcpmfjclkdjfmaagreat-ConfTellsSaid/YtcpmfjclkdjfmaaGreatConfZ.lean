/-
  The document's store does a command that is right: as the lists say.
-/
import Derived.Test.YtcpmfjclkdjfmaaGreatConfY
namespace Go.Vc
open Go Go.Proofs Go.Proofs.YtcpmfjclkdjfmaaGreat
set_option maxRecDepth 100000
section
variable {E w : World} {L : List Asrt} {R : Ending → World → Prop} {F G : Fz} {s : Cm.Sm} {c : Cm.Cmd} {q ra pa : Sl} {v : Int}
abbrev raL (br bc ba : Nat) (v0 : Int) (r0 p0 : Sl) (c : Cm.Cmd) (q : Sl) (v : Int) (ra pa : Sl) (L : List Asrt) : List Asrt := blkL br 30 (cfgL v0 r0 p0) :: blkL bc 42 (cmdL c q) :: blkL ba 30 (cfgL v ra pa) :: L
theorem any_step {α : Type} {p : α → Bool} {l : List α} {j : Nat} (hj : j < l.length) : (l.take (j + 1)).any p = ((l.take j).any p || p l[j]) := by
  rw [List.take_succ_eq_append_getElem hj, List.any_append]; simp
set_option maxHeartbeats 1000000 in
theorem ract1_spec {Kn : Bool → Option Addr → Nat → Nat → World → Prop} {Kp : List PanicEntry → World → Prop} {br bc ba : Nat} {v0 : Int} {r0 p0 o : Sl} {ps : List PlS} (hm : kn F ∈ L) (r : RdF F pa.1 pa.2.1 2 (ps.flatMap pcV)) (hl : ps.length ≤ 1000)
    (h : St E (plA o [] :: raL br bc ba v0 r0 p0 c q v ra pa L) w)
    (k : ∀ (w : World) (o : Sl), St E (plA o (ps.filter fun x => !decide (x.2.name = c.pool)) :: raL br bc ba v0 r0 p0 c q v ra pa L) w → Kn (ps.any fun x => decide (x.2.name = c.pool)) o.1 o.2.1 o.2.2 w) :
    T_ref08_act_1 false o.1 o.2.1 o.2.2 0 ⟨ba, 0, none⟩ ⟨bc, 0, none⟩ w Kn Kp := by
  have hbig : big = 140737488355328 := rfl
  have n1 := r.count pcV_len (by decide) h (mem4 hm)
  unfold T_ref08_act_1
  intro X hX
  refine up_to ps.length (Q := fun j => ∀ (w : World) (o : Sl), St E (plA o ((ps.take j).filter fun x => !decide (x.2.name = c.pool)) :: raL br bc ba v0 r0 p0 c q v ra pa L) w → X ((ps.take j).any fun x => decide (x.2.name = c.pool)) o.1 o.2.1 o.2.2 (j : Int) w) ?_ w o (by simpa using h)
  intro j hj ih w o h
  refine hX _ _ _ _ _ _ ?_
  unfold T_ref08_act_1_body
  refine ⟨_, _, _, rd_fld h.f3.at_blk rfl rfl, ?_⟩
  rw [← n1]
  refine ite_d (fun hc => ?_) fun hc => ?_
  · have hjl : j < ps.length := by omega
    intro w10
    have h10 : St E _ w10 := h.drew
    clear_value w10
    obtain ⟨ad, ha, hn, _, hg⟩ := pl_at (r.at h10 (mem4 hm)) hjl
    have hfl : ((ps.take j).filter fun x => !decide (x.2.name = c.pool)).length ≤ 1000 := Nat.le_trans (List.length_filter_le ..) (by simp; omega)
    rw [Int.toNat_natCast, succ_big (by omega)]
    refine ⟨_, _, _, rd_fld h10.f3.at_blk rfl rfl, by omega, by omega, ad, ha, _, hn, _, rd_fld h10.f2.at_blk rfl rfl, ?_⟩
    rw [str_beq]
    have hs := any_step (p := fun x : PlS => decide (x.2.name = c.pool)) hjl
    refine ite_d (fun h1 => ?_) fun h1 => ⟨_, _, _, rd_fld h10.f3.at_blk rfl rfl, by omega, by omega, ad, ha, _, _, _, _, hg, ?_⟩
    · have := ih hjl w10 o (by rw [filter_step hjl, if_neg (by simp [h1]), List.append_nil]; exact h10)
      rw [hs] at this
      simpa [h1] using this
    · intro w17
      obtain ⟨o', w19, hr, h19⟩ := app_pl1 (x := ps[j]) h10 (by omega)
      refine runV_ok hr ⟨_, _, _, rfl, ?_⟩
      have := ih hjl w19 o' (by rw [filter_step hjl, if_pos (by simp [h1])]; exact h19)
      rw [hs] at this
      simpa [h1] using this
  · rw [List.take_of_length_le (by omega)] at h ⊢
    exact k _ _ h
set_option maxHeartbeats 2000000 in
theorem ract2_spec {Kn : Bool → Bool → Option Addr → Nat → Nat → World → Prop} {Kp : List PanicEntry → World → Prop} {A : Asrt} {br bc ba : Nat} {v0 : Int} {r0 p0 o : Sl} {rs : List Cm.Rt} (hm : kn F ∈ L) (r : RdF F ra.1 ra.2.1 3 (rs.flatMap rcV)) (hl : rs.length ≤ 1000)
    (h : St E (rtA o [] :: A :: raL br bc ba v0 r0 p0 c q v ra pa L) w)
    (k : ∀ (w : World) (o : Sl), St E (rtA o (rs.filter fun x => !Cm.isAt c.host c.pfx x) :: A :: raL br bc ba v0 r0 p0 c q v ra pa L) w → Kn (rs.any fun x => decide (x.pool = c.pool)) (rs.any (Cm.isAt c.host c.pfx)) o.1 o.2.1 o.2.2 w) :
    T_ref08_act_2 false false o.1 o.2.1 o.2.2 0 ⟨ba, 0, none⟩ ⟨bc, 0, none⟩ w Kn Kp := by
  have hbig : big = 140737488355328 := rfl
  have n1 := r.count rcV_len (by decide) h (mem1 (mem4 hm))
  unfold T_ref08_act_2
  intro X hX
  refine up_to rs.length (Q := fun j => ∀ (w : World) (o : Sl), St E (rtA o ((rs.take j).filter fun x => !Cm.isAt c.host c.pfx x) :: A :: raL br bc ba v0 r0 p0 c q v ra pa L) w → X ((rs.take j).any fun x => decide (x.pool = c.pool)) ((rs.take j).any (Cm.isAt c.host c.pfx)) o.1 o.2.1 o.2.2 (j : Int) w) ?_ w o (by simpa using h)
  intro j hj ih w o h
  refine hX _ _ _ _ _ _ _ ?_
  unfold T_ref08_act_2_body
  refine ⟨_, _, _, rd_fld h.f4.at_blk rfl rfl, ?_⟩
  rw [← n1]
  refine ite_d (fun hc => ?_) fun hc => ?_
  · have hjl : j < rs.length := by omega
    have hs := any_step (p := fun x : Cm.Rt => decide (x.pool = c.pool)) hjl
    have hs2 := any_step (p := Cm.isAt c.host c.pfx) hjl
    have hfl : ((rs.take j).filter fun x => !Cm.isAt c.host c.pfx x).length ≤ 1000 := Nat.le_trans (List.length_filter_le ..) (by simp; omega)
    have rest : ∀ w, St E (rtA o ((rs.take j).filter fun x => !Cm.isAt c.host c.pfx x) :: A :: raL br bc ba v0 r0 p0 c q v ra pa L) w → T_ref08_act_4 ⟨ba, 0, none⟩ ⟨bc, 0, none⟩ (j : Int) w (fun b83 w84 => if b83 = true then (X ((rs.take (j + 1)).any fun x => decide (x.pool = c.pool)) true o.1 o.2.1 o.2.2 (IntKind.wrap .i64 ((j : Int) + 1)) w84) else (∃ s85a : Option Addr, ∃ s85l : Nat, ∃ s85c : Nat, rd w84 ((⟨ba, 0, none⟩ : Addr).add 1) (.slice s85a s85l s85c) ∧ 0 ≤ (j : Int) ∧ (j : Int) < ((s85l : Nat) : Int) ∧ ∃ b86, s85a = some b86 ∧ ∃ s87 : ByteArray, ∃ s88 : ByteArray, ∃ s89 : ByteArray, rd w84 (b86.add ((j : Int).toNat * 3)) (.agg #[.string s87, .string s88, .string s89]) ∧ let w90 : World := w84.alloc (.cells #[.string s87, .string s88, .string s89] 36)
        runV Tryz.prog (Builtin.append_ #[27, 27] 27 #[.slice o.1 o.2.1 o.2.2, .slice (some (⟨w84.heap.size, 0, none⟩ : Addr)) 1 1]) w90 (fun r91 w92 => ∃ s93a : Option Addr, ∃ s93l : Nat, ∃ s93c : Nat, r91 = .slice s93a s93l s93c ∧ X ((rs.take (j + 1)).any fun x => decide (x.pool = c.pool)) ((rs.take j).any (Cm.isAt c.host c.pfx)) s93a s93l s93c (IntKind.wrap .i64 ((j : Int) + 1)) w92) Kp)) Kp := by
      intro w h
      have key : ∀ (w : World), St E (rtA o ((rs.take j).filter fun x => !Cm.isAt c.host c.pfx x) :: A :: raL br bc ba v0 r0 p0 c q v ra pa L) w → Cm.isAt c.host c.pfx rs[j] = false → (∃ s85a : Option Addr, ∃ s85l : Nat, ∃ s85c : Nat, rd w ((⟨ba, 0, none⟩ : Addr).add 1) (.slice s85a s85l s85c) ∧ 0 ≤ (j : Int) ∧ (j : Int) < ((s85l : Nat) : Int) ∧ ∃ b86, s85a = some b86 ∧ ∃ s87 : ByteArray, ∃ s88 : ByteArray, ∃ s89 : ByteArray, rd w (b86.add ((j : Int).toNat * 3)) (.agg #[.string s87, .string s88, .string s89]) ∧ let w90 : World := w.alloc (.cells #[.string s87, .string s88, .string s89] 36)
        runV Tryz.prog (Builtin.append_ #[27, 27] 27 #[.slice o.1 o.2.1 o.2.2, .slice (some (⟨w.heap.size, 0, none⟩ : Addr)) 1 1]) w90 (fun r91 w92 => ∃ s93a : Option Addr, ∃ s93l : Nat, ∃ s93c : Nat, r91 = .slice s93a s93l s93c ∧ X ((rs.take (j + 1)).any fun x => decide (x.pool = c.pool)) ((rs.take j).any (Cm.isAt c.host c.pfx)) s93a s93l s93c (IntKind.wrap .i64 ((j : Int) + 1)) w92) Kp) := by
        intro w h h1
        obtain ⟨ad, ha, hg, _⟩ := rt_at (r.at h (mem1 (mem4 hm))) hjl
        rw [Int.toNat_natCast, succ_big (by omega)]
        refine ⟨_, _, _, rd_fld h.f4.at_blk rfl rfl, by omega, by omega, ad, ha, _, _, _, hg, ?_⟩
        intro w17
        obtain ⟨o', w19, hr, h19⟩ := app_rt1 (x := rs[j]) h (by omega)
        refine runV_ok hr ⟨_, _, _, rfl, ?_⟩
        have := ih hjl w19 o' (by rw [filter_step hjl, if_pos (by simp [h1])]; exact h19)
        rw [hs2, h1, Bool.or_false] at this
        exact this
      unfold T_ref08_act_4
      intro w71
      have h71 : St E _ w71 := h.drew
      clear_value w71
      obtain ⟨ad, ha, _, hk⟩ := rt_at (r.at h71 (mem1 (mem4 hm))) hjl
      refine ⟨_, _, _, rd_fld h71.f4.at_blk rfl rfl, by omega, by omega, ad, ha, _, by rw [Int.toNat_natCast]; exact hk 0 _ rfl rfl, _, rd_fld h71.f3.at_blk rfl rfl, ?_⟩
      rw [str_beq]
      refine ite_d (fun h1 => ⟨_, _, _, rd_fld h71.f4.at_blk rfl rfl, by omega, by omega, ad, ha, _, by rw [Int.toNat_natCast]; exact hk 1 _ rfl rfl, _, rd_fld h71.f3.at_blk rfl rfl, ?_⟩) fun h1 => ite_b (fun hh => by cases hh) fun _ => key _ h71 (by simp [Cm.isAt, h1])
      rw [str_beq]
      refine ite_d (fun h2 => ?_) fun h2 => key _ h71 (by simp [Cm.isAt, h2])
      have hat : Cm.isAt c.host c.pfx rs[j] = true := by simp [Cm.isAt, h1, h2]
      rw [succ_big (by omega)]
      have := ih hjl w71 o (by rw [filter_step hjl, if_neg (by simp [hat]), List.append_nil]; exact h71)
      rw [hs2, hat, Bool.or_true] at this
      exact this
    unfold T_ref08_act_3
    intro w58
    have h58 : St E _ w58 := h.drew
    clear_value w58
    refine ite_b (fun hu => ?_) fun hu => ?_
    · have := rest w58 h58
      rw [hs, hu, Bool.true_or] at this
      exact this
    · obtain ⟨ad, ha, _, hk⟩ := rt_at (r.at h58 (mem1 (mem4 hm))) hjl
      refine ⟨_, _, _, rd_fld h58.f4.at_blk rfl rfl, by omega, by omega, ad, ha, _, by rw [Int.toNat_natCast]; exact hk 2 _ rfl rfl, _, rd_fld h58.f3.at_blk rfl rfl, ?_⟩
      rw [str_beq]
      have := rest w58 h58
      rw [hs, hu, Bool.false_or] at this
      exact this
  · rw [List.take_of_length_le (by omega)] at h ⊢
    exact k _ _ h
theorem put_map {l : List PlS} {p : PlS} : (Cm.put pcLt l p).map (·.2) = Cm.put Cm.plLt (l.map (·.2)) p.2 := by
  unfold Cm.put
  rw [List.map_append, List.map_cons, List.filter_map, List.filter_map]
  rfl
theorem but_map {l : List PlS} (hl : l.map (·.2) = s.pools) (n : Cm.Bs) : (l.filter fun x => !decide (x.2.name = n)).map (·.2) = Cm.butPool s n := by
  unfold Cm.butPool
  rw [← hl, List.filter_map]
  rfl
theorem there_map {l : List PlS} (hl : l.map (·.2) = s.pools) (n : Cm.Bs) : (l.any fun x => decide (x.2.name = n)) = Cm.there s n := by
  unfold Cm.there
  rw [← hl, List.any_map]
  rfl
theorem Sz.but (S : Sz s) (n : Cm.Bs) : Sz { s with pools := Cm.butPool s n } := { S with pl := fun p hp => S.pl p (List.mem_filter.1 hp).1, pr := Cm.filter_rises Cm.plOrd S.pr _, pn := Nat.le_trans (List.length_filter_le ..) S.pn }
theorem Sz.butR (S : Sz s) (h' p' : Cm.Bs) : Sz { s with routes := Cm.butRoute s h' p' } := { S with rt := fun p hp => S.rt p (List.mem_filter.1 hp).1, rr := Cm.filter_rises Cm.rtOrd S.rr _, rn := Nat.le_trans (List.length_filter_le ..) S.rn }
set_option maxHeartbeats 4000000 in
theorem ract5_spec {Kn : World → Prop} {Kr : Int → World → Prop} {Kp : List PanicEntry → World → Prop} {br bc ba bo : Nat} {po ro : Sl} {ps : List PlS} (I : Cm.Inv s) (hc : Cm.chk c = 0) (hr : RdF F q.1 q.2.1 2 (c.tg.flatMap tV))
    (hps : ps.map (·.2) = s.pools) (hra : RdF F ra.1 ra.2.1 3 (s.routes.flatMap rcV)) (hpa : RdF F pa.1 pa.2.1 2 (ps.flatMap pcV)) (ht : ∀ x ∈ ps, RdF F x.1.1 x.1.2.1 2 (x.2.tg.flatMap tV))
    (hpo : RdF F po.1 po.2.1 2 ((ps.filter fun x => !decide (x.2.name = c.pool)).flatMap pcV)) (hro : RdF F ro.1 ro.2.1 3 ((Cm.butRoute s c.host c.pfx).flatMap rcV))
    (h : St E (kn F :: blkL bo 30 (cfgL v ra pa) :: raL br bc ba 0 (none, 0, 0) (none, 0, 0) c q v ra pa L) w)
    (k1 : ∀ (G : Fz) (w' : World) (ra' pa' : Sl) (s' : Cm.Sm), Fz.le F G → Cm.act s c = Cm.fit s s' → Sz s' → cfgR G ra' pa' s'.routes s'.pools → St E (kn G :: blkL bo 30 (cfgL v ra' pa') :: raL br bc ba 0 (none, 0, 0) (none, 0, 0) c q v ra pa L) w' → Kn w')
    (k2 : ∀ (w' : World) (e : Int), Cm.act s c = (s, e) → St E (kn F :: blkL bo 30 (cfgL v ra pa) :: raL br bc ba v ra pa c q v ra pa L) w' → Kr e w') :
    T_ref08_act_5 ⟨ba, 0, none⟩ ⟨bc, 0, none⟩ ⟨br, 0, none⟩ (Cm.there s c.pool) (Cm.used s c.pool) po.1 po.2.1 po.2.2 (Cm.known s c.host c.pfx) ro.1 ro.2.1 ro.2.2 ⟨bo, 0, none⟩ c.act w Kn Kr Kp := by
  have ff := Cm.chk_fine hc
  have S := Sz.of I
  have npa := hpa.count pcV_len (by decide) h at0
  have nra := hra.count rcV_len (by decide) h at0
  have hpl : ps.length = s.pools.length := by rw [← hps]; simp
  have hpn := I.pn
  have hrn := I.rn
  -- back with an error: what was there, told
  have bad : ∀ {w : World} {e : Int}, Cm.act s c = (s, e) → St E (kn F :: blkL bo 30 (cfgL v ra pa) :: raL br bc ba 0 (none, 0, 0) (none, 0, 0) c q v ra pa L) w →
      (∃ x134 : Int, ∃ s135a : Option Addr, ∃ s135l : Nat, ∃ s135c : Nat, ∃ s136a : Option Addr, ∃ s136l : Nat, ∃ s136c : Nat, rd w ⟨ba, 0, none⟩ (.agg #[.int .i64 x134, .slice s135a s135l s135c, .slice s136a s136l s136c]) ∧ (.agg #[.int .i64 x134, .slice s135a s135l s135c, .slice s136a s136l s136c] : Value).cells.size = 3 ∧ wrOk w ⟨br, 0, none⟩ (.agg #[.int .i64 x134, .slice s135a s135l s135c, .slice s136a s136l s136c]) ∧ let w137 : World := wr w ⟨br, 0, none⟩ (.agg #[.int .i64 x134, .slice s135a s135l s135c, .slice s136a s136l s136c])
        Kr e w137) := fun he h => by
    refine ⟨_, _, _, _, _, _, _, rd_cfg h.f4, rfl, ok_cfg h.f2 rfl v ra pa, ?_⟩
    intro w137
    exact k2 _ _ he (St.sel (L := _ :: _ :: _ :: _ :: _ :: L) (St.wr_cfg h.f2 rfl v ra pa) 5 [1, 2, 0, 3, 4])
  unfold T_ref08_act_5
  refine ite_b (fun h1 => ?_) fun h1 => ite_b (fun h2 => ?_) fun h2 => ite_b (fun h3 => ?_) fun h3 => ?_
  · have h1 : c.act = 1 := by simpa using h1
    have lim : ∀ {K : Bool → World → Prop}, K (!Cm.there s c.pool && decide (32 ≤ s.pools.length)) w → T_ref08_act_6 ⟨ba, 0, none⟩ (Cm.there s c.pool) w K Kp := fun {K} kk => by
      unfold T_ref08_act_6
      refine ite_n (fun hb => ⟨_, _, _, rd_fld h.f4.at_blk rfl rfl, cong kk ?_⟩) (fun hb => cong kk (by simp [hb]))
      rw [← npa, hpl, hb, Bool.eq_iff_iff]; simp; omega
    refine lim (ite_b (fun hb => bad (by unfold Cm.act; rw [if_pos h1, if_pos hb]) h) fun hb => ?_)
    intro w138
    have h138 : St E _ w138 := h.drew
    clear_value w138
    refine ⟨_, rd_fld h138.f3.at_blk rfl rfl, _, _, _, rd_fld h138.f3.at_blk rfl rfl, ?_⟩
    intro w141
    have h141 : St E (tgA (some ⟨w138.heap.size, 0, none⟩, 0, 0) [] :: kn F :: blkL bo 30 (cfgL v ra pa) :: raL br bc ba 0 (none, 0, 0) (none, 0, 0) c q v ra pa L) w141 := St.ownS_mk (rest := []) (h138.alloc _) rfl (Nat.le_refl _) (Nat.zero_le _) rfl
    clear_value w141
    refine ⟨⟨rd_fld h141.f4.at_blk rfl rfl, rd_fld h141.f4.at_blk rfl rfl, trivial⟩, ?_⟩
    obtain ⟨q', w143, hr143, h143⟩ := app_t (c2 := q.2.2) h141 (hr.at h141 at1) (by have := (short_of ff.t).1; simp; omega)
    rw [List.nil_append] at h143
    refine runV_ok hr143 ⟨_, _, _, rfl, ⟨rd_fld h143.f4.at_blk rfl rfl, trivial⟩, ?_⟩
    obtain ⟨G1, hG1, h144, r144⟩ := h143.freezeT
    refine RwithPool_spec (p := (q', ⟨c.pool, c.tg⟩)) (L := kn G1 :: blkL bo 30 (cfgL v ra pa) :: raL br bc ba 0 (none, 0, 0) (none, 0, 0) c q v ra pa L) at0 (RdF.mono hpo hG1) (by have := List.length_filter_le (fun x : PlS => !decide (x.2.name = c.pool)) ps; omega) h144 fun w146 q2 h146 => ⟨_, _, _, rfl, trivial, rfl, wrOk_fld h146.f2.at_blk (by show 2 < 3; decide) rfl, ?_⟩
    intro w148
    obtain ⟨G2, hG2, h149, r149⟩ := St.freeze_pl h146
    have h150 := St.wr_fld (k := 2) (v := .slice q2.1 q2.2.1 q2.2.2) h149.f1 rfl
    refine ⟨trivial, k1 G2 _ ra q2 (putP s c.pool c.tg) (Fz.le_trans hG1 hG2) (by unfold Cm.act; rw [if_pos h1, if_neg (by simp [hb])]; rfl) (sz_putP I hc) ⟨RdF.mono hra (Fz.le_trans hG1 hG2), _, ?_, r149, fun x hx => ?_⟩ h150.f1⟩
    · rw [put_map, but_map hps]; rfl
    · have hx := (List.mem_append.1 hx)
      rcases hx with hx | hx
      · exact RdF.mono (ht x (List.mem_filter.1 (List.mem_filter.1 hx).1).1) (Fz.le_trans hG1 hG2)
      · rcases List.mem_cons.1 hx with rfl | hx
        · exact RdF.mono r144 hG2
        · exact RdF.mono (ht x (List.mem_filter.1 (List.mem_filter.1 hx).1).1) (Fz.le_trans hG1 hG2)
  · have h1 : c.act ≠ 1 := by simpa using h1
    have h2 : c.act = 2 := by simpa using h2
    refine ite_n (fun hth => bad (by unfold Cm.act; rw [if_neg h1, if_pos h2, if_pos (by simp [hth])]) h) fun hth => ite_b (fun hu => bad (by unfold Cm.act; rw [if_neg h1, if_pos h2, if_neg (by simp [hth]), if_pos hu]) h) fun hu => ?_
    refine ⟨rfl, wrOk_fld h.f1.at_blk (by show 2 < 3; decide) rfl, ?_⟩
    intro w157
    have h150 := St.wr_fld (k := 2) (v := .slice po.1 po.2.1 po.2.2) h.f1 rfl
    exact k1 F _ ra po { s with pools := Cm.butPool s c.pool } (Fz.le_refl F) (by unfold Cm.act; rw [if_neg h1, if_pos h2, if_neg (by simp [hth]), if_neg (by simp [hu])]) (S.but _) ⟨hra, _, but_map hps _, hpo, fun x hx => ht x (List.mem_filter.1 hx).1⟩ h150.f1
  · have h1 : c.act ≠ 1 := by simpa using h1
    have h2 : c.act ≠ 2 := by simpa using h2
    have h3 : c.act = 3 := by simpa using h3
    refine ite_n (fun hth => bad (by unfold Cm.act; rw [if_neg h1, if_neg h2, if_pos h3, if_pos (by simp [hth])]) h) fun hth => ?_
    have lim : ∀ {K : Bool → World → Prop}, K (!Cm.known s c.host c.pfx && decide (64 ≤ s.routes.length)) w → T_ref08_act_7 ⟨ba, 0, none⟩ (Cm.known s c.host c.pfx) w K Kp := fun {K} kk => by
      unfold T_ref08_act_7
      refine ite_n (fun hb => ⟨_, _, _, rd_fld h.f4.at_blk rfl rfl, cong kk ?_⟩) (fun hb => cong kk (by simp [hb]))
      rw [← nra, hb, Bool.eq_iff_iff]; simp; omega
    refine lim (ite_b (fun hb => bad (by unfold Cm.act; rw [if_neg h1, if_neg h2, if_pos h3, if_neg (by simp [hth]), if_pos hb]) h) fun hb => ?_)
    refine ⟨_, rd_fld h.f3.at_blk rfl rfl, _, rd_fld h.f3.at_blk rfl rfl, _, rd_fld h.f3.at_blk rfl rfl, ?_⟩
    refine RwithRoute_spec (p := ⟨c.host, c.pfx, c.pool⟩) (L := kn F :: blkL bo 30 (cfgL v ra pa) :: raL br bc ba 0 (none, 0, 0) (none, 0, 0) c q v ra pa L) at0 hro (by have : (Cm.butRoute s c.host c.pfx).length ≤ s.routes.length := List.length_filter_le ..; omega) h fun w146 q2 h146 => ⟨_, _, _, rfl, rfl, wrOk_fld h146.f2.at_blk (by show 1 < 3; decide) rfl, ?_⟩
    intro w148
    obtain ⟨G2, hG2, h149, r149⟩ := St.freeze_rt h146
    have h150 := St.wr_fld (k := 1) (v := .slice q2.1 q2.2.1 q2.2.2) h149.f1 rfl
    exact k1 G2 _ q2 pa (putR s ⟨c.host, c.pfx, c.pool⟩) hG2 (by unfold Cm.act; rw [if_neg h1, if_neg h2, if_pos h3, if_neg (by simp [hth]), if_neg (by simp [hb])]; rfl) (sz_putR I hc) ⟨r149, ps, hps, RdF.mono hpa hG2, fun x hx => RdF.mono (ht x hx) hG2⟩ h150.f1
  · have h1 : c.act ≠ 1 := by simpa using h1
    have h2 : c.act ≠ 2 := by simpa using h2
    have h3 : c.act ≠ 3 := by simpa using h3
    refine ite_n (fun hkn => bad (by unfold Cm.act; rw [if_neg h1, if_neg h2, if_neg h3, if_pos (by simp [hkn])]) h) fun hkn => ?_
    refine ⟨rfl, wrOk_fld h.f1.at_blk (by show 1 < 3; decide) rfl, ?_⟩
    intro w185
    have h150 := St.wr_fld (k := 1) (v := .slice ro.1 ro.2.1 ro.2.2) h.f1 rfl
    exact k1 F _ ro pa { s with routes := Cm.butRoute s c.host c.pfx } (Fz.le_refl F) (by unfold Cm.act; rw [if_neg h1, if_neg h2, if_neg h3, if_neg (by simp [hkn])]) (S.butR _ _) ⟨hro, ps, hps, hpa, ht⟩ h150.f1
set_option maxHeartbeats 4000000 in
/-- act. -/
theorem Ract_spec (I : Cm.Inv s) (hc : Cm.chk c = 0) (hr : RdF F q.1 q.2.1 2 (c.tg.flatMap tV)) (cf : cfgR F ra pa s.routes s.pools) (h : St E (kn F :: L) w)
    (k : ∀ (G : Fz) (w' : World) (ra' pa' : Sl), Fz.le F G → cfgR G ra' pa' (Cm.act s c).1.routes (Cm.act s c).1.pools → St E (kn G :: L) w' → R (.returned (.tuple #[cfgV v ra' pa', .int .i64 (Cm.act s c).2])) w') :
    Calls Tryz.prog 61 #[cfgV v ra pa, cmdV c q] w R := by
  have hpn := I.pn
  have hrn := I.rn
  have cf0 := cf
  obtain ⟨hra, ps, hps, hpa, ht⟩ := cf
  have hpl : ps.length = s.pools.length := by rw [← hps]; simp
  refine C_ref08_act ?_
  unfold T_ref08_act
  intro w12
  have h12 : St E (blkL w.heap.size 30 (cfgL v ra pa) :: kn F :: L) w12 := h.alloc _
  intro w13
  have h13 : St E (blkL w12.heap.size 42 (cmdL c q) :: blkL w.heap.size 30 (cfgL v ra pa) :: kn F :: L) w13 := h12.alloc _
  intro w14
  have h14 : St E (raL w13.heap.size w12.heap.size w.heap.size 0 (none, 0, 0) (none, 0, 0) c q v ra pa (kn F :: L)) w14 := h13.alloc _
  intro w15
  have h15 : St E (plA (some ⟨w14.heap.size, 0, none⟩, 0, 0) [] :: raL w13.heap.size w12.heap.size w.heap.size 0 (none, 0, 0) (none, 0, 0) c q v ra pa (kn F :: L)) w15 := h14.pl_zero
  clear_value w15
  clear h14 h13 h12
  clear_value w14 w13 w12
  generalize w13.heap.size = br at *
  generalize w12.heap.size = bc at *
  generalize w.heap.size = ba at *
  refine ract1_spec (o := (some ⟨w14.heap.size, 0, none⟩, 0, 0)) at0 hpa (by omega) h15 fun w45 po h45 => ?_
  rw [there_map hps]
  intro w46
  have h46 := h45.rt_zero
  refine ract2_spec (o := (some ⟨w45.heap.size, 0, none⟩, 0, 0)) at0 hra (by omega) h46 fun w109 ro h109 => ?_
  obtain ⟨G1, hG1, h110, r110⟩ := St.freeze_rt (St.sel h109 6 [0, 5, 1, 2, 3, 4])
  obtain ⟨G2, hG2, h111, r111⟩ := St.freeze_pl (St.sel (L := kn G1 :: plA po (ps.filter fun x => !decide (x.2.name = c.pool)) :: raL br bc ba 0 (none, 0, 0) (none, 0, 0) c q v ra pa L) h110 2 [1, 0])
  have hF2 := Fz.le_trans hG1 hG2
  have h111 : St E (kn G2 :: raL br bc ba 0 (none, 0, 0) (none, 0, 0) c q v ra pa L) w109 := h111
  refine ⟨_, _, _, _, _, _, _, rd_cfg h111.f3, ?_⟩
  intro w113
  have h113 := h111.alloc (.cells ⟨cfgL 0 (none, 0, 0) (none, 0, 0)⟩ 30)
  refine ⟨rfl, ok_cfg h113 rfl v ra pa, ?_⟩
  intro w114
  have h114 : St E (blkL w109.heap.size 30 (cfgL v ra pa) :: kn G2 :: raL br bc ba 0 (none, 0, 0) (none, 0, 0) c q v ra pa L) w114 := St.wr_cfg h113 rfl v ra pa
  clear_value w114
  clear h113
  clear_value w113
  generalize w109.heap.size = bo at *
  refine ⟨_, rd_cell h114.f3.at_blk rfl rfl, ?_⟩
  refine ract5_spec (ps := ps) I hc (RdF.mono hr hF2) hps (RdF.mono hra hF2) (RdF.mono hpa hF2) (fun x hx => RdF.mono (ht x hx) hF2) r111 (RdF.mono r110 hG2) h114.f1 (fun G w189 ra' pa' s' hG hact S' cf' h189 => ?_) fun w211 e hact h211 => ?_
  · refine ⟨_, _, _, _, _, _, _, rd_cfg h189.f1, ?_⟩
    refine Rconfig_spec (b := (none, 0, 0)) (xs := []) (L := kn G :: blkL bo 30 (cfgL v ra' pa') :: raL br bc ba 0 (none, 0, 0) (none, 0, 0) c q v ra pa L) at0 S' cf' h189.by_nil (by simp) fun w194 b' h194 => ⟨_, _, _, rfl, ?_⟩
    have hlen := h194.by_len
    rw [List.nil_append] at hlen h194
    have h195 := h194.drop
    refine ite_d (fun hgt => ?_) fun hgt => ?_
    · have e2 : Cm.act s c = (s, 6) := by rw [hact]; unfold Cm.fit; rw [if_pos (by omega)]
      rw [e2] at k
      refine ⟨_, _, _, _, _, _, _, rd_cfg h195.f4, rfl, ok_cfg h195.f2 rfl v ra pa, ?_⟩
      intro w199
      have h199 := St.wr_cfg h195.f2 rfl v ra pa
      refine ⟨_, _, _, _, _, _, _, rd_cfg h199, k G _ ra pa (Fz.le_trans hF2 hG) (cf0.mono (Fz.le_trans hF2 hG)) ?_⟩
      exact St.sel (L := _ :: kn G :: _ :: _ :: _ :: L) h199 5 [1]
    · have e2 : Cm.act s c = (s', 0) := by rw [hact]; unfold Cm.fit; rw [if_neg (by omega)]
      rw [e2] at k
      refine ⟨_, _, _, _, _, _, _, rd_cfg h195.f1, rfl, ok_cfg h195.f2 rfl v ra' pa', ?_⟩
      intro w206
      have h206 := St.wr_cfg h195.f2 rfl v ra' pa'
      refine ⟨_, _, _, _, _, _, _, rd_cfg h206, k G _ ra' pa' (Fz.le_trans hF2 hG) cf' ?_⟩
      exact St.sel (L := _ :: kn G :: _ :: _ :: _ :: L) h206 5 [1]
  · rw [hact] at k
    refine ⟨_, _, _, _, _, _, _, rd_cfg h211.f2, k G2 _ ra pa hF2 (cf0.mono hF2) ?_⟩
    exact St.sel (L := kn G2 :: _ :: _ :: _ :: _ :: L) h211 5 [0]
end
end Go.Vc
