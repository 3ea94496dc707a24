/-
  The program's store does a command that is right: as the lists say.
-/
import Derived.Test.YtcpmfjclkdjfmaaGreatConfJ
namespace Go.Vc
open Go Go.Proofs Go.Proofs.YtcpmfjclkdjfmaaGreat
set_option maxRecDepth 100000
section
variable {E w : World} {L : List Asrt} {R : Ending → World → Prop} {F G : Fz} {p : Nat} {s : Cm.Sm} {c : Cm.Cmd} {q : Sl} {n : Cm.Bs}
def putP (s : Cm.Sm) (n : Cm.Bs) (tg : List Cm.Tgt) : Cm.Sm := { s with pools := Cm.put Cm.plLt (Cm.butPool s n) ⟨n, tg⟩ }
def putR (s : Cm.Sm) (x : Cm.Rt) : Cm.Sm := { s with routes := Cm.put Cm.rtLt (Cm.butRoute s x.host x.pfx) x }
theorem sz_putP (I : Cm.Inv s) (hc : Cm.chk c = 0) : Sz (putP s c.pool c.tg) := by
  have f := Cm.chk_fine hc
  have S := Sz.of I
  have hp := Cm.put_but_perm (s := s) ⟨c.pool, c.tg⟩
  refine { S with pl := fun x hx => ?_, pr := Cm.put_rises Cm.plOrd (Cm.filter_rises Cm.plOrd I.pr _) _, pn := ?_ }
  · rcases List.mem_cons.1 (hp.mem_iff.1 hx) with rfl | hx
    · exact ⟨by have := f.o; simp only; omega, short_of f.t⟩
    · exact S.pl x (List.mem_filter.1 hx).1
  · have h1 := hp.length_eq
    have h2 : (Cm.butPool s c.pool).length ≤ s.pools.length := List.length_filter_le ..
    have := I.pn
    show (Cm.put Cm.plLt (Cm.butPool s c.pool) ⟨c.pool, c.tg⟩).length ≤ 64
    rw [h1, List.length_cons]
    show (Cm.butPool s c.pool).length + 1 ≤ 64
    omega
theorem sz_putR (I : Cm.Inv s) (hc : Cm.chk c = 0) : Sz (putR s ⟨c.host, c.pfx, c.pool⟩) := by
  have f := Cm.chk_fine hc
  have S := Sz.of I
  have hp := Cm.put_butR_perm (s := s) ⟨c.host, c.pfx, c.pool⟩
  refine { S with rt := fun x hx => ?_, rr := Cm.put_rises Cm.rtOrd (Cm.filter_rises Cm.rtOrd I.rr _) _, rn := ?_ }
  · rcases List.mem_cons.1 (hp.mem_iff.1 hx) with rfl | hx
    · exact ⟨by have := f.h; simp only; omega, by have := f.p; simp only; omega, by have := f.o; simp only; omega⟩
    · exact S.rt x (List.mem_filter.1 hx).1
  · have h1 := hp.length_eq
    have h2 : (Cm.butRoute s c.host c.pfx).length ≤ s.routes.length := List.length_filter_le ..
    have := I.rn
    show (Cm.put Cm.rtLt (Cm.butRoute s c.host c.pfx) ⟨c.host, c.pfx, c.pool⟩).length ≤ 128
    rw [h1, List.length_cons]
    show (Cm.butRoute s c.host c.pfx).length + 1 ≤ 128
    omega
theorem but_put {tg : List Cm.Tgt} : (Cm.butPool (putP s n tg) n).Perm (Cm.butPool s n) := by
  have := (Cm.put_but_perm (s := s) ⟨n, tg⟩).filter fun p => !decide (p.name = n)
  refine List.Perm.trans this ?_
  rw [List.filter_cons, if_neg (by simp)]
  exact List.Perm.of_eq (List.filter_eq_self.2 fun e he => (List.mem_filter.1 he).2)
theorem but_putR {x : Cm.Rt} : (Cm.butRoute (putR s x) x.host x.pfx).Perm (Cm.butRoute s x.host x.pfx) := by
  have := (Cm.put_butR_perm (s := s) x).filter fun r => !Cm.isAt x.host x.pfx r
  refine List.Perm.trans this ?_
  rw [List.filter_cons, if_neg (by simp [Cm.isAt])]
  exact List.Perm.of_eq (List.filter_eq_self.2 fun e he => (List.mem_filter.1 he).2)
theorem del_pools {M : List (Cm.Bs × PV)} (h : poolsR F M s.pools) (hn : (M.map (·.1)).Nodup) : poolsR F (mdel M n) (Cm.butPool s n) := by
  rw [mdel_eq hn]; exact but_pools h
theorem poolsR.to {M : List (Cm.Bs × PV)} {ps ps' : List Cm.Pl} (h : poolsR F M ps) (hp : ps.Perm ps') : poolsR F M ps' := ⟨h.1, h.2.trans hp⟩
theorem but_none (h : Cm.there s n = false) : Cm.butPool s n = s.pools := List.filter_eq_self.2 fun e he => by
  have := List.any_eq_false.1 h e he
  simpa using this
theorem but_noneR {h' p' : Cm.Bs} (h : Cm.known s h' p' = false) : Cm.butRoute s h' p' = s.routes := List.filter_eq_self.2 fun e he => by
  have := List.any_eq_false.1 h e he
  simpa using this
theorem back_pools {M M2 : List (Cm.Bs × PV)} {tg : List Cm.Tgt} {v : PV} (h2 : poolsR G M2 (putP s n tg).pools) (hn2 : (M2.map (·.1)).Nodup) (h : poolsR F M s.pools) (hn : (M.map (·.1)).Nodup) (hFG : Fz.le F G) (hv : mget M n = some v) :
    poolsR G (mset (mdel M2 n) n v) s.pools := by
  have hd := del_pools (s := putP s n tg) (n := n) h2 hn2
  have hp := mset_perm (nodup_mdel hn2 n) n v
  refine ⟨fun e he => ?_, ?_⟩
  · rcases List.mem_cons.1 (hp.mem_iff.1 he) with rfl | he
    · exact RdF.mono (h.1 _ (mget_some hv)) hFG
    · exact hd.1 e (List.mem_filter.1 he).1
  · refine (hp.map plOf).trans ?_
    have h3 : ((butM (mdel M2 n) n).map plOf).Perm (Cm.butPool s n) := by
      have := (but_pools (s := { putP s n tg with pools := Cm.butPool (putP s n tg) n }) (n := n) hd).2
      refine this.trans ?_
      refine List.Perm.trans (List.Perm.of_eq (List.filter_eq_self.2 fun e he => (List.mem_filter.1 he).2)) but_put
    have h4 := ((but_back hn hv).map plOf).trans h.2
    refine List.Perm.trans (List.Perm.cons _ h3) (List.Perm.trans (List.Perm.cons _ ?_) h4)
    exact (but_pools h).2.symm
theorem routesR.to {M : List (Pr × Cm.Bs)} {rs rs' : List Cm.Rt} (h : routesR M rs) (hp : rs.Perm rs') : routesR M rs' := h.trans (hp.map rtK)
theorem del_routes {M : List (Pr × Cm.Bs)} {h' p' : Cm.Bs} (h : routesR M s.routes) (hn : (M.map (·.1)).Nodup) : routesR (mdel M (h', p')) (Cm.butRoute s h' p') := by
  rw [mdel_eq hn]; exact but_routes h
theorem back_routes {M M2 : List (Pr × Cm.Bs)} {x : Cm.Rt} {v : Cm.Bs} (h2 : routesR M2 (putR s x).routes) (hn2 : (M2.map (·.1)).Nodup) (h : routesR M s.routes) (hn : (M.map (·.1)).Nodup) (hv : mget M (x.host, x.pfx) = some v) :
    routesR (mset (mdel M2 (x.host, x.pfx)) (x.host, x.pfx) v) s.routes := by
  have hd : routesR (mdel M2 (x.host, x.pfx)) (Cm.butRoute s x.host x.pfx) := routesR.to (del_routes (s := putR s x) h2 hn2) but_putR
  refine (mset_perm (nodup_mdel hn2 _) _ v).trans ?_
  have h3 : (butM (mdel M2 (x.host, x.pfx)) (x.host, x.pfx)).Perm (butM M (x.host, x.pfx)) := by
    rw [mdel_eq hn2]
    refine List.Perm.trans (List.Perm.of_eq (List.filter_eq_self.2 fun e he => (List.mem_filter.1 he).2)) ?_
    rw [← mdel_eq hn2]
    exact List.Perm.trans hd (but_routes h).symm
  exact (List.Perm.cons _ h3).trans ((but_back hn hv).trans h)
theorem look_pool_ok {mp : Nat} {Mp : List (Cm.Bs × PV)} (hp : poolsR F Mp s.pools) (h : St E (mapA mp encS pvV Mp :: L) w) (n : Cm.Bs) :
    (Instr.lookup 75 (.map (some mp)) (.string (bs n)) true).run Tryz.prog w = .ok (.tuple #[pvV ((mget Mp n).getD ((none, 0, 0), [])), .bool (Cm.there s n)]) w := by
  have := lookup_ok_run strLaw und_pools tm_tgs h n
  rw [← there_get hp]
  cases hv : mget Mp n <;> rw [hv] at this <;> exact this
theorem look_route_ok {mr : Nat} {Mr : List (Pr × Cm.Bs)} (hr : routesR Mr s.routes) (h : St E (mapA mr encP encS Mr :: L) w) (h' p' : Cm.Bs) :
    (Instr.lookup 76 (.map (some mr)) (.agg #[.string (bs h'), .string (bs p')]) true).run Tryz.prog w = .ok (.tuple #[.string (bs ((mget Mr (h', p')).getD [])), .bool (Cm.known s h' p')]) w := by
  have := lookup_ok_run placeLaw und_routes tm_str h (h', p')
  rw [← known_get hr]
  cases hv : mget Mr (h', p') <;> rw [hv] at this <;> exact this
set_option maxHeartbeats 8000000 in
/-- (*Store).act. -/
theorem act_spec (I : Cm.Inv s) (hc : Cm.chk c = 0) (hr : RdF F q.1 q.2.1 2 (c.tg.flatMap tV)) (h : St E (stA F p s :: kn F :: L) w)
    (k : ∀ G w', Fz.le F G → St E (stA G p (Cm.act s c).1 :: kn G :: L) w' → R (.returned (.int .i64 (Cm.act s c).2)) w') : Calls Tryz.prog 41 #[.pointer (some ⟨p, 0, none⟩), cmdV c q] w R := by
  have ff := Cm.chk_fine hc
  obtain ⟨mp, mr, mc, Mp, Mr, Mc, hp, hrr, hcl, h⟩ := h.st_open
  have hnp := h.f1.nodup
  have hnr := h.f2.nodup
  refine C_conf_Store_act ?_
  unfold T_conf_Store_act
  intro w10
  have h10 : St E (blkL w.heap.size 42 (cmdL c q) :: st4 p s.ver mp mr mc Mp Mr Mc (kn F :: L)) w10 := h.alloc _
  refine ⟨_, rd_fld h10.at_blk rfl rfl, _, rd_fld h10.at_blk rfl rfl, ?_⟩
  intro w13
  have h13 := h10.alloc (.cells #[.string (ByteArray.mk #[]), .string (ByteArray.mk #[])] 89)
  refine ⟨rfl, wrOk_agg h13.at_blk (xs := celP (c.host, c.pfx)) (by simp [celP]) (by intro u hu; simp [celP] at hu; rcases hu with rfl | rfl <;> rfl), ?_⟩
  intro w14 w15
  have h15 : St E (actL w10.heap.size w.heap.size c q (st4 p s.ver mp mr mc Mp Mr Mc (kn F :: L))) w15 := (h13.wr_agg0 (xs := celP (c.host, c.pfx)) rfl).drew
  clear_value w15
  clear h13 h10
  clear_value w14 w13 w10
  generalize w10.heap.size = bp at *
  generalize w.heap.size = bc at *
  refine ⟨_, rfl, _, rd_fld h15.f2.at_blk rfl rfl, _, rd_fld h15.f1.at_blk rfl rfl, runV_ok (look_pool_ok hp h15.f3 c.pool) ⟨_, _, _, _, rfl, trivial, ?_⟩⟩
  intro w23
  have h23 : St E _ w23 := h15.drew
  clear_value w23
  refine ⟨_, rfl, _, rd_fld h23.f2.at_blk rfl rfl, _, _, rd_agg (xs := celP (c.host, c.pfx)) h23.at_blk (by intro i u hu; rw [Nat.zero_add]; exact hu), runV_ok (look_route_ok hrr h23.f4 c.host c.pfx) ⟨_, _, rfl, trivial, _, rd_cell h23.f1.at_blk rfl rfl, ?_⟩⟩
  refine ite_b (fun h1 => ?_) fun h1 => ite_b (fun h2 => ?_) fun h2 => ite_b (fun h3 => ?_) fun h3 => ?_
  · have h1 : c.act = 1 := by simpa using h1
    refine act1_spec hp h23 (ite_b (fun hb => ?_) fun hb => ?_)
    · have e : Cm.act s c = (s, 6) := by unfold Cm.act; rw [if_pos h1, if_pos hb]
      rw [e] at k
      exact k F _ (Fz.le_refl F) (St.st_mk hp hrr hcl h23.drop.drop)
    · have e : Cm.act s c = Cm.fit s (putP s c.pool c.tg) := by unfold Cm.act; rw [if_pos h1, if_neg (by simp [hb])]; rfl
      rw [e] at k
      intro w45
      have h45 : St E _ w45 := h23.drew
      clear_value w45
      refine ⟨_, rfl, _, rd_fld h45.f2.at_blk rfl rfl, _, rd_fld h45.f1.at_blk rfl rfl, _, _, _, rd_fld h45.f1.at_blk rfl rfl, Clone_spec (List.mem_cons_of_mem _ (List.mem_cons_of_mem _ at4)) h45 hr (by have := (short_of ff.t).1; omega) fun q' w51 h51 => ⟨_, _, _, rfl, ⟨rd_fld h51.f2.at_blk rfl rfl, rd_fld h51.f3.at_blk rfl rfl, trivial⟩, ?_⟩⟩
      obtain ⟨w53, hr53, h53⟩ := mapUpdate_run strLaw und_pools h51.f4 c.pool (q', c.tg)
      refine runV_ok hr53 ⟨trivial, ?_⟩
      obtain ⟨G, hFG, h54, hrG⟩ := St.freezeT (h53.sel 8 [1, 7, 0, 2, 3, 4, 5, 6])
      have hpG : poolsR G (mset Mp c.pool (q', c.tg)) (putP s c.pool c.tg).pools := put_pools (hp.mono hFG) hnp hrG
      have h55 : St E (stA G p (putP s c.pool c.tg) :: kn G :: blkL bc 42 (cmdL c q) :: L) w53 := St.st_mk (s := putP s c.pool c.tg) hpG hrr hcl (St.sel (L := kn G :: mapA mp encS pvV (mset Mp c.pool (q', c.tg)) :: blkL bp 89 (celP (c.host, c.pfx)) :: blkL bc 42 (cmdL c q) :: blkL p 79 (stL s.ver mp mr mc) :: mapA mr encP encS Mr :: mapA mc encI lvV Mc :: L) h54 7 [4, 1, 5, 6, 0, 3])
      refine config_spec (b := (none, 0, 0)) (xs := []) at0 (sz_putP I hc) h55.by_nil (by simp) fun w55 b' h56 => ⟨_, _, _, rfl, ?_⟩
      have hlen := h56.by_len
      rw [List.nil_append] at hlen h56
      refine ite_d (fun hgt => ?_) fun hgt => ?_
      · have e2 : Cm.fit s (putP s c.pool c.tg) = (s, 6) := by unfold Cm.fit; rw [if_pos (by omega)]
        rw [e2] at k
        intro w57
        have h57 : St E _ w57 := h56.drop.drew
        clear_value w57
        obtain ⟨mp2, mr2, mc2, Mp2, Mr2, Mc2, hp2, hr2, hc2, h58⟩ := h57.st_open
        have hn2 := h58.f1.nodup
        refine ⟨_, rfl, _, rd_fld h58.at_blk rfl rfl, _, rd_fld h58.f5.at_blk rfl rfl, ?_⟩
        obtain ⟨w62, hr62, h62⟩ := delete_run strLaw und_pools h58.f1 c.pool #[75, 9] 0 rfl
        refine runV_ok hr62 ⟨trivial, ite_b (fun hth => ?_) fun hth => ?_⟩
        · intro w63
          have h63 : St E _ w63 := h62.drew
          clear_value w63
          refine ⟨_, rfl, _, rd_fld h63.f1.at_blk rfl rfl, _, rd_fld h63.f5.at_blk rfl rfl, ?_⟩
          rw [← there_get hp] at hth
          obtain ⟨v, hv⟩ := Option.isSome_iff_exists.1 hth
          rw [hv]
          obtain ⟨w67, hr67, h67⟩ := mapUpdate_run strLaw und_pools h63 c.pool v
          exact runV_ok hr67 ⟨trivial, k G _ hFG (St.st_mk (back_pools hp2 hn2 hp hnp hFG hv) hr2 hc2 (h67.sel 6 [1, 0, 2, 3, 4]))⟩
        · have hd : poolsR G (mdel Mp2 c.pool) s.pools := by
            have := poolsR.to (del_pools (n := c.pool) hp2 hn2) but_put
            rwa [but_none hth] at this
          exact k G _ hFG (St.st_mk hd hr2 hc2 (h62.sel 6 [1, 0, 2, 3, 4]))
      · have e2 : Cm.fit s (putP s c.pool c.tg) = (putP s c.pool c.tg, 0) := by unfold Cm.fit; rw [if_neg (by omega)]
        rw [e2] at k
        exact k G _ hFG (h56.drop.sel 3 [0, 1])
  · have h1 : c.act ≠ 1 := by simpa using h1
    have h2 : c.act = 2 := by simpa using h2
    refine ite_n (fun hth => ?_) fun hth => ?_
    · have e : Cm.act s c = (s, 8) := by unfold Cm.act; rw [if_neg h1, if_pos h2, if_pos (by simp [hth])]
      rw [e] at k
      exact k F _ (Fz.le_refl F) (St.st_mk hp hrr hcl h23.drop.drop)
    · obtain ⟨w71, hr71, h71⟩ := range_run und_routes h23.f4
      refine ⟨_, rfl, _, rd_fld h23.f2.at_blk rfl rfl, runV_ok hr71 ⟨_, rfl, act2_spec hrr (L := kn F :: L) h71 (fun hu w' h' => ?_) fun hu w89 h89 => ?_⟩⟩
      · have e : Cm.act s c = (s, 13) := by unfold Cm.act; rw [if_neg h1, if_pos h2, if_neg (by simp [hth]), if_pos hu]
        rw [e] at k
        exact k F _ (Fz.le_refl F) (St.st_mk hp hrr hcl h'.drop.drop)
      · have e : Cm.act s c = ({ s with pools := Cm.butPool s c.pool }, 0) := by unfold Cm.act; rw [if_neg h1, if_pos h2, if_neg (by simp [hth]), if_neg (by simp [hu]), Cm.fit_butPool I]
        rw [e] at k
        intro w90
        have h90 : St E _ w90 := h89.drew
        clear_value w90
        refine ⟨_, rfl, _, rd_fld h90.f2.at_blk rfl rfl, _, rd_fld h90.f1.at_blk rfl rfl, ?_⟩
        obtain ⟨w95, hr95, h95⟩ := delete_run strLaw und_pools h90.f3 c.pool #[75, 9] 0 rfl
        exact runV_ok hr95 ⟨trivial, k F _ (Fz.le_refl F) (St.st_mk (s := { s with pools := Cm.butPool s c.pool }) (del_pools hp hnp) hrr hcl (h95.sel 6 [3, 0, 4, 5]))⟩
  · have h1 : c.act ≠ 1 := by simpa using h1
    have h2 : c.act ≠ 2 := by simpa using h2
    have h3 : c.act = 3 := by simpa using h3
    refine ite_n (fun hth => ?_) fun hth => ?_
    · have e : Cm.act s c = (s, 8) := by unfold Cm.act; rw [if_neg h1, if_neg h2, if_pos h3, if_pos (by simp [hth])]
      rw [e] at k
      exact k F _ (Fz.le_refl F) (St.st_mk hp hrr hcl h23.drop.drop)
    · refine act3_spec hrr h23 (ite_b (fun hb => ?_) fun hb => ?_)
      · have e : Cm.act s c = (s, 6) := by unfold Cm.act; rw [if_neg h1, if_neg h2, if_pos h3, if_neg (by simp [hth]), if_pos hb]
        rw [e] at k
        exact k F _ (Fz.le_refl F) (St.st_mk hp hrr hcl h23.drop.drop)
      · have e : Cm.act s c = Cm.fit s (putR s ⟨c.host, c.pfx, c.pool⟩) := by unfold Cm.act; rw [if_neg h1, if_neg h2, if_pos h3, if_neg (by simp [hth]), if_neg (by simp [hb])]; rfl
        rw [e] at k
        intro w110
        have h110 : St E _ w110 := h23.drew
        clear_value w110
        refine ⟨_, rfl, _, rd_fld h110.f2.at_blk rfl rfl, _, _, rd_agg (xs := celP (c.host, c.pfx)) h110.at_blk (by intro i u hu; rw [Nat.zero_add]; exact hu), _, rd_fld h110.f1.at_blk rfl rfl, ?_⟩
        obtain ⟨w116, hr116, h116⟩ := mapUpdate_run placeLaw und_routes h110.f4 (c.host, c.pfx) c.pool
        refine runV_ok hr116 ⟨trivial, ?_⟩
        have h117 : St E (stA F p (putR s ⟨c.host, c.pfx, c.pool⟩) :: kn F :: blkL bp 89 (celP (c.host, c.pfx)) :: L) w116 := St.st_mk (s := putR s ⟨c.host, c.pfx, c.pool⟩) hp (put_routes (x := ⟨c.host, c.pfx, c.pool⟩) hrr hnr) hcl (St.sel (L := mapA mr encP encS (mset Mr (c.host, c.pfx) c.pool) :: blkL bp 89 (celP (c.host, c.pfx)) :: blkL bc 42 (cmdL c q) :: blkL p 79 (stL s.ver mp mr mc) :: mapA mp encS pvV Mp :: mapA mc encI lvV Mc :: kn F :: L) h116 7 [3, 4, 0, 5, 6, 1])
        refine config_spec (b := (none, 0, 0)) (xs := []) at0 (sz_putR I hc) h117.by_nil (by simp) fun w55 b' h56 => ⟨_, _, _, rfl, ?_⟩
        have hlen := h56.by_len
        rw [List.nil_append] at hlen h56
        refine ite_d (fun hgt => ?_) fun hgt => ?_
        · have e2 : Cm.fit s (putR s ⟨c.host, c.pfx, c.pool⟩) = (s, 6) := by unfold Cm.fit; rw [if_pos (by omega)]
          rw [e2] at k
          intro w57
          have h57 : St E _ w57 := h56.drop.drew
          clear_value w57
          obtain ⟨mp2, mr2, mc2, Mp2, Mr2, Mc2, hp2, hr2, hc2, h58⟩ := h57.st_open
          have hn2 := h58.f2.nodup
          refine ⟨_, rfl, _, rd_fld h58.at_blk rfl rfl, _, _, rd_agg (xs := celP (c.host, c.pfx)) h58.f5.at_blk (by intro i u hu; rw [Nat.zero_add]; exact hu), ?_⟩
          obtain ⟨w62, hr62, h62⟩ := delete_run placeLaw und_routes h58.f2 (c.host, c.pfx) #[76, 89] 0 rfl
          refine runV_ok hr62 ⟨trivial, ite_b (fun hkn => ?_) fun hkn => ?_⟩
          · intro w63
            have h63 : St E _ w63 := h62.drew
            clear_value w63
            refine ⟨_, rfl, _, rd_fld h63.f1.at_blk rfl rfl, _, _, rd_agg (xs := celP (c.host, c.pfx)) h63.f5.at_blk (by intro i u hu; rw [Nat.zero_add]; exact hu), ?_⟩
            rw [← known_get hrr] at hkn
            obtain ⟨v, hv⟩ := Option.isSome_iff_exists.1 hkn
            rw [hv]
            obtain ⟨w67, hr67, h67⟩ := mapUpdate_run placeLaw und_routes h63 (c.host, c.pfx) v
            exact runV_ok hr67 ⟨trivial, k F _ (Fz.le_refl F) (St.st_mk hp2 (back_routes (x := ⟨c.host, c.pfx, c.pool⟩) hr2 hn2 hrr hnr hv) hc2 (h67.sel 6 [1, 2, 0, 3, 4]))⟩
          · have hd : routesR (mdel Mr2 (c.host, c.pfx)) s.routes := by
              have := routesR.to (del_routes (s := putR s ⟨c.host, c.pfx, c.pool⟩) (h' := c.host) (p' := c.pfx) hr2 hn2) (but_putR (x := ⟨c.host, c.pfx, c.pool⟩))
              rwa [but_noneR hkn] at this
            exact k F _ (Fz.le_refl F) (St.st_mk hp2 hd hc2 (h62.sel 6 [1, 2, 0, 3, 4]))
        · have e2 : Cm.fit s (putR s ⟨c.host, c.pfx, c.pool⟩) = (putR s ⟨c.host, c.pfx, c.pool⟩, 0) := by unfold Cm.fit; rw [if_neg (by omega)]
          rw [e2] at k
          exact k F _ (Fz.le_refl F) (h56.drop.sel 3 [0, 1])
  · have h1 : c.act ≠ 1 := by simpa using h1
    have h2 : c.act ≠ 2 := by simpa using h2
    have h3 : c.act ≠ 3 := by simpa using h3
    refine ite_n (fun hkn => ?_) fun hkn => ?_
    · have e : Cm.act s c = (s, 8) := by unfold Cm.act; rw [if_neg h1, if_neg h2, if_neg h3, if_pos (by simp [hkn])]
      rw [e] at k
      exact k F _ (Fz.le_refl F) (St.st_mk hp hrr hcl h23.drop.drop)
    · have e : Cm.act s c = ({ s with routes := Cm.butRoute s c.host c.pfx }, 0) := by unfold Cm.act; rw [if_neg h1, if_neg h2, if_neg h3, if_neg (by simp [hkn]), Cm.fit_butRoute I]
      rw [e] at k
      intro w133
      have h133 : St E _ w133 := h23.drew
      clear_value w133
      refine ⟨_, rfl, _, rd_fld h133.f2.at_blk rfl rfl, _, _, rd_agg (xs := celP (c.host, c.pfx)) h133.at_blk (by intro i u hu; rw [Nat.zero_add]; exact hu), ?_⟩
      obtain ⟨w139, hr139, h139⟩ := delete_run placeLaw und_routes h133.f4 (c.host, c.pfx) #[76, 89] 0 rfl
      exact runV_ok hr139 ⟨trivial, k F _ (Fz.le_refl F) (St.st_mk (s := { s with routes := Cm.butRoute s c.host c.pfx }) hp (del_routes hrr hnr) hcl (h139.sel 6 [3, 4, 0, 5]))⟩
end
end Go.Vc
