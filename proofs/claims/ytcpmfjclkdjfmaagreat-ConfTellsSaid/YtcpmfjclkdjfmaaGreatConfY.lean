/-
  The document's store: lists that rise; a configuration's bytes, lists with one at its place.
-/
import Derived.Test.YtcpmfjclkdjfmaaGreatConfU
import Derived.Test.YtcpmfjclkdjfmaaGreatGh
namespace Go.Vc
open Go Go.Proofs Go.Proofs.YtcpmfjclkdjfmaaGreat
set_option maxRecDepth 100000
section
variable {E w : World} {L : List Asrt} {R : Ending → World → Prop} {F G : Fz} {s : Cm.Sm} {xs : Cm.Bs} {b ra pa : Sl}
theorem mem1 {A : Asrt} (hm : kn F ∈ L) : kn F ∈ A :: L := List.mem_cons_of_mem _ hm
theorem mem2 {A B : Asrt} (hm : kn F ∈ L) : kn F ∈ A :: B :: L := mem1 (mem1 hm)
theorem mem3 {A B C : Asrt} (hm : kn F ∈ L) : kn F ∈ A :: B :: C :: L := mem1 (mem2 hm)
theorem mem4 {A B C D : Asrt} (hm : kn F ∈ L) : kn F ∈ A :: B :: C :: D :: L := mem1 (mem3 hm)
set_option maxHeartbeats 1000000 in
theorem rconf_l1 {Kn : Option Addr → Nat → Nat → World → Prop} {Kp : List PanicEntry → World → Prop} {bc : Nat} {v : Int} {ps : List PlS} (hm : kn F ∈ L) (hp : ps.map (·.2) = s.pools) (S : Sz s) (r : RdF F pa.1 pa.2.1 2 (ps.flatMap pcV)) (t : ∀ x ∈ ps, RdF F x.1.1 x.1.2.1 2 (x.2.tg.flatMap tV))
    (h : St E (byA b xs :: blkL bc 30 (cfgL v ra pa) :: L) w) (hx : xs.length ≤ 1200000)
    (k : ∀ (w : World) (b : Sl), St E (byA b (xs ++ s.pools.flatMap Cm.plB) :: blkL bc 30 (cfgL v ra pa) :: L) w → Kn b.1 b.2.1 b.2.2 w) :
    T_ref08_config_1 b.1 b.2.1 b.2.2 0 ⟨bc, 0, none⟩ w Kn Kp := by
  have hbig : big = 140737488355328 := rfl
  have hpl : ps.length = s.pools.length := by rw [← hp]; simp
  have n1 := r.count pcV_len (by decide) h (mem2 hm)
  have hpn := S.pn
  unfold T_ref08_config_1
  intro X hX
  refine up_to s.pools.length (Q := fun j => ∀ (w : World) (b : Sl), St E (byA b (xs ++ (s.pools.take j).flatMap Cm.plB) :: blkL bc 30 (cfgL v ra pa) :: L) w → X b.1 b.2.1 b.2.2 (j : Int) w) ?_ w b (by simpa using h)
  intro j hj ih w b h
  refine hX _ _ _ _ _ ?_
  unfold T_ref08_config_1_body
  refine ⟨_, _, _, rd_fld h.f1.at_blk rfl rfl, ?_⟩
  rw [← n1, hpl]
  refine ite_d (fun hc => ?_) fun hc => ?_
  · have hjl : j < s.pools.length := by omega
    have hjp : j < ps.length := by omega
    intro w14
    have h14 : St E _ w14 := h.drew
    clear_value w14
    obtain ⟨ad, ha, hn, hs, _⟩ := pl_at (r.at h14 (mem2 hm)) hjp
    have e2 : ps[j].2 = s.pools[j] := by
      have : (ps.map (·.2))[j]'(by simpa using hjp) = s.pools[j] := by simp [hp]
      simpa using this
    have ht := t _ (List.getElem_mem hjp)
    rw [e2] at hn ht
    obtain ⟨hx3, hx4⟩ := S.pl _ (List.getElem_mem hjl)
    have hx5 := tgsMax_short hx4
    have hx6 := text_len s.pools[j].name
    have hx1 := pls_len S j
    refine ⟨_, _, _, rd_fld h14.f1.at_blk rfl rfl, by omega, by omega, ad, ha, _, by rw [Int.toNat_natCast]; exact hn, _, _, _, rd_fld h14.f1.at_blk rfl rfl, by omega, by omega, ad, ha, _, _, _, by rw [Int.toNat_natCast]; exact hs, ?_⟩
    refine Rtext_spec (x := s.pools[j].name) h14 (by simp only [List.length_append]; omega) fun w22 b22 h22 => ⟨_, _, _, rfl, ⟨?_, rd_fld h22.f1.at_blk rfl rfl, rd_fld h22.f1.at_blk rfl rfl, trivial⟩, ?_⟩
    · obtain ⟨ad', ha', _, hs', _⟩ := pl_at (r.at h22 (mem2 hm)) hjp
      rw [ha] at ha'
      injection ha' with ha'
      subst ha'
      rw [Int.toNat_natCast]; exact hs'
    · refine Rtargets_spec (q := ps[j].1) (mem1 hm) ht hx4.ok h22 (by simp only [List.length_append]; omega) fun w25 b25 h25 => ⟨_, _, _, rfl, ⟨rd_fld h25.f1.at_blk rfl rfl, rd_fld h25.f1.at_blk rfl rfl, trivial⟩, ?_⟩
      rw [succ_big (by omega)]
      refine ih hjl _ _ ?_
      rw [List.take_succ_eq_append_getElem hjl, List.flatMap_append]
      simpa [Cm.plB] using h25
  · rw [List.take_of_length_le (by omega)] at h
    exact k _ _ h
set_option maxHeartbeats 1000000 in
theorem rconf_l2 {Kn : Option Addr → Nat → Nat → World → Prop} {Kp : List PanicEntry → World → Prop} {bc : Nat} {v : Int} (hm : kn F ∈ L) (S : Sz s) (r : RdF F ra.1 ra.2.1 3 (s.routes.flatMap rcV))
    (h : St E (byA b xs :: blkL bc 30 (cfgL v ra pa) :: L) w) (hx : xs.length ≤ 1500000)
    (k : ∀ (w : World) (b : Sl), St E (byA b (xs ++ s.routes.flatMap Cm.rtB) :: blkL bc 30 (cfgL v ra pa) :: L) w → Kn b.1 b.2.1 b.2.2 w) :
    T_ref08_config_2 b.1 b.2.1 b.2.2 0 ⟨bc, 0, none⟩ w Kn Kp := by
  have hbig : big = 140737488355328 := rfl
  have n1 := r.count rcV_len (by decide) h (mem2 hm)
  have hrn := S.rn
  unfold T_ref08_config_2
  intro X hX
  refine up_to s.routes.length (Q := fun j => ∀ (w : World) (b : Sl), St E (byA b (xs ++ (s.routes.take j).flatMap Cm.rtB) :: blkL bc 30 (cfgL v ra pa) :: L) w → X b.1 b.2.1 b.2.2 (j : Int) w) ?_ w b (by simpa using h)
  intro j hj ih w b h
  refine hX _ _ _ _ _ ?_
  unfold T_ref08_config_2_body
  refine ⟨_, _, _, rd_fld h.f1.at_blk rfl rfl, ?_⟩
  rw [← n1]
  refine ite_d (fun hc => ?_) fun hc => ?_
  · have hjl : j < s.routes.length := by omega
    intro w14
    have h14 : St E _ w14 := h.drew
    clear_value w14
    obtain ⟨ad, ha, _, hk⟩ := rt_at (r.at h14 (mem2 hm)) hjl
    have rr : ∀ {w : World} {A B : Asrt}, St E (A :: B :: L) w → ∀ k v, (rcV s.routes[j])[k]? = some v → one v = true → rd w ((ad.add (j * 3)).add k) v := fun h k v h1 h2 => by
      obtain ⟨ad', ha', _, hk'⟩ := rt_at (r.at h (mem2 hm)) hjl
      rw [ha] at ha'
      injection ha' with ha'
      subst ha'
      exact hk' k v h1 h2
    obtain ⟨hx3, hx4, hx5⟩ := S.rt _ (List.getElem_mem hjl)
    have e1 := text_len s.routes[j].host
    have e2 := text_len s.routes[j].pfx
    have e3 := text_len s.routes[j].pool
    have hx1 := rts_len S j
    rw [Int.toNat_natCast]
    refine ⟨_, _, _, rd_fld h14.f1.at_blk rfl rfl, by omega, by omega, ad, ha, _, rr h14 0 _ rfl rfl, _, _, _, rd_fld h14.f1.at_blk rfl rfl, by omega, by omega, ad, ha, _, rr h14 1 _ rfl rfl, _, _, _, rd_fld h14.f1.at_blk rfl rfl, by omega, by omega, ad, ha, _, rr h14 2 _ rfl rfl, ?_⟩
    refine Rtext_spec (x := s.routes[j].host) h14 (by simp only [List.length_append]; omega) fun w22 b22 h22 => ⟨_, _, _, rfl, ⟨rr h22 2 _ rfl rfl, rd_fld h22.f1.at_blk rfl rfl, rr h22 1 _ rfl rfl, rd_fld h22.f1.at_blk rfl rfl, rd_fld h22.f1.at_blk rfl rfl, trivial⟩, ?_⟩
    refine Rtext_spec (x := s.routes[j].pfx) h22 (by simp only [List.length_append]; omega) fun w23 b23 h23 => ⟨_, _, _, rfl, ⟨rr h23 2 _ rfl rfl, rd_fld h23.f1.at_blk rfl rfl, rd_fld h23.f1.at_blk rfl rfl, rd_fld h23.f1.at_blk rfl rfl, trivial⟩, ?_⟩
    refine Rtext_spec (x := s.routes[j].pool) h23 (by simp only [List.length_append]; omega) fun w25 b25 h25 => ⟨_, _, _, rfl, ⟨rd_fld h25.f1.at_blk rfl rfl, rd_fld h25.f1.at_blk rfl rfl, rd_fld h25.f1.at_blk rfl rfl, trivial⟩, ?_⟩
    rw [succ_big (by omega)]
    refine ih hjl _ _ ?_
    rw [List.take_succ_eq_append_getElem hjl, List.flatMap_append]
    simpa [Cm.rtB] using h25
  · rw [List.take_of_length_le (by omega)] at h
    exact k _ _ h
/-- config: a configuration's bytes, behind others. -/
theorem Rconfig_spec {v : Int} (hm : kn F ∈ L) (S : Sz s) (c : cfgR F ra pa s.routes s.pools) (h : St E (byA b xs :: L) w) (hx : xs.length ≤ 1000000)
    (k : ∀ (w' : World) (b' : Sl), St E (byA b' (xs ++ Cm.confB s.pools s.routes) :: L) w' → R (.returned (.slice b'.1 b'.2.1 b'.2.2)) w') : Calls Tryz.prog 95 #[.slice b.1 b.2.1 b.2.2, cfgV v ra pa] w R := by
  have hbig : big = 140737488355328 := rfl
  obtain ⟨rr, ps, hps, rp, rt⟩ := c
  have hy1 := pls_len S s.pools.length
  rw [List.take_length] at hy1
  have hy2 := num_len s.pools.length
  have hy3 := num_len s.routes.length
  refine C_ref08_config ?_
  unfold T_ref08_config
  intro w5
  have h5 : St E (blkL w.heap.size 30 (cfgL v ra pa) :: byA b xs :: L) w5 := h.alloc _
  clear_value w5
  generalize w.heap.size = bc at *
  have n1 := rp.count pcV_len (by decide) h5 (mem2 hm)
  have n2 := rr.count rcV_len (by decide) h5 (mem2 hm)
  have hpl : ps.length = s.pools.length := by rw [← hps]; simp
  refine ⟨_, _, _, rd_fld h5.at_blk rfl rfl, ?_⟩
  rw [← n1, hpl]
  refine Rnum_spec h5.f1 (by omega) fun w8 b8 h8 => ⟨_, _, _, rfl, ?_⟩
  refine rconf_l1 hm hps S rp rt h8 (by simp only [List.length_append]; omega) fun w32 b32 h32 => ⟨_, _, _, rd_fld h32.f1.at_blk rfl rfl, ?_⟩
  rw [← n2]
  refine Rnum_spec h32 (by simp only [List.length_append]; omega) fun w35 b35 h35 => ⟨_, _, _, rfl, ?_⟩
  refine rconf_l2 hm S rr h35 (by simp only [List.length_append]; omega) fun w65 b65 h65 => k _ _ ?_
  have := h65.f1.drop
  simpa [Cm.confB] using this
/-- less. -/
theorem Rless_spec {x y : Cm.Rt} (h : St E L w) (k : ∀ w', St E L w' → R (.returned (.bool (Cm.rtLt x y))) w') :
    Calls Tryz.prog 107 #[.agg #[.string (bs x.host), .string (bs x.pfx), .string (bs x.pool)], .agg #[.string (bs y.host), .string (bs y.pfx), .string (bs y.pool)]] w R := by
  refine C_ref08_less ?_
  unfold T_ref08_less
  intro w7
  have h7 : St E (blkL w.heap.size 36 (rcV x) :: L) w7 := h.alloc _
  intro w8
  have h8 : St E (blkL w7.heap.size 36 (rcV y) :: blkL w.heap.size 36 (rcV x) :: L) w8 := h7.alloc _
  clear_value w8
  have e : ∀ a b : Cm.Bs, Op.bytesLess (bs a).toList (bs b).toList = decide (a < b) := fun a b => by rw [bs_toList, bs_toList, bytesLess_eq]
  refine ⟨_, rd_cell h8.f1.at_blk rfl rfl, _, rd_cell h8.at_blk rfl rfl, ?_⟩
  rw [e]
  refine ite_d (fun h1 => congB (k _ h8.drop.drop) (by simp [Cm.rtLt, h1])) fun h1 => ⟨_, rd_cell h8.f1.at_blk rfl rfl, _, rd_cell h8.at_blk rfl rfl, ?_⟩
  rw [str_beq]
  refine ite_d (fun h2 => ⟨_, rd_fld h8.f1.at_blk rfl rfl, _, rd_fld h8.at_blk rfl rfl, congB (k _ h8.drop.drop) ?_⟩) fun h2 => congB (k _ h8.drop.drop) (by simp [Cm.rtLt, h1, h2])
  rw [e]
  unfold Cm.rtLt
  rw [decide_eq_false h1, decide_eq_true h2, Bool.false_or, Bool.true_and]
theorem filter_step {α : Type} {p : α → Bool} {l : List α} {j : Nat} (hj : j < l.length) : (l.take (j + 1)).filter p = (l.take j).filter p ++ (if p l[j] = true then [l[j]] else []) := by
  rw [List.take_succ_eq_append_getElem hj, List.filter_append]
  congr 1
  split <;> simp [*]
def pcLt (x y : PlS) : Bool := decide (x.2.name < y.2.name)
set_option maxHeartbeats 1000000 in
/-- withPool. -/
theorem RwithPool_spec {q : Sl} {l : List PlS} {p : PlS} (hm : kn F ∈ L) (r : RdF F q.1 q.2.1 2 (l.flatMap pcV)) (hl : l.length ≤ 1000) (h : St E L w)
    (k : ∀ (w' : World) (q' : Sl), St E (plA q' (Cm.put pcLt l p) :: L) w' → R (.returned (.slice q'.1 q'.2.1 q'.2.2)) w') :
    Calls Tryz.prog 99 #[.slice q.1 q.2.1 q.2.2, .agg #[.string (bs p.2.name), .slice p.1.1 p.1.2.1 p.1.2.2]] w R := by
  have hbig : big = 140737488355328 := rfl
  have n1 := r.count pcV_len (by decide) h hm
  refine C_ref08_withPool ?_
  unfold T_ref08_withPool
  intro w4
  have h4 : St E (blkL w.heap.size 34 (pcV p) :: L) w4 := h.alloc _
  intro w5
  have h5 : St E (plA (some ⟨w4.heap.size, 0, none⟩, 0, 0) [] :: blkL w.heap.size 34 (pcV p) :: L) w5 := h4.pl_zero
  clear_value w5
  clear h4
  clear_value w4
  generalize w.heap.size = bp at *
  have e : ∀ a b : Cm.Bs, Op.bytesLess (bs a).toList (bs b).toList = decide (a < b) := fun a b => by rw [bs_toList, bs_toList, bytesLess_eq]
  unfold T_ref08_withPool_1
  intro X hX
  refine up_to l.length (Q := fun j => ∀ (w : World) (o : Sl), St E (plA o ((l.take j).filter fun x => pcLt x p) :: blkL bp 34 (pcV p) :: L) w → X o.1 o.2.1 o.2.2 (j : Int) w) ?_ w5 (some ⟨w4.heap.size, 0, none⟩, 0, 0) h5
  intro j hj ih w o h
  refine hX _ _ _ _ _ ?_
  unfold T_ref08_withPool_1_body
  rw [← n1]
  refine ite_d (fun hc => ?_) fun hc => ?_
  · have hjl : j < l.length := by omega
    intro w10
    have h10 : St E _ w10 := h.drew
    clear_value w10
    obtain ⟨ad, ha, hn, _, hg⟩ := pl_at (r.at h10 (mem2 hm)) hjl
    have hfl : ((l.take j).filter fun x => pcLt x p).length ≤ 1000 := Nat.le_trans (List.length_filter_le ..) (by simp; omega)
    rw [Int.toNat_natCast, succ_big (by omega)]
    refine ⟨by omega, by omega, ad, ha, _, hn, _, rd_cell h10.f1.at_blk rfl rfl, ?_⟩
    rw [e]
    refine ite_d (fun h1 => ⟨by omega, by omega, ad, ha, _, _, _, _, hg, ?_⟩) fun h1 => ?_
    · intro w17
      obtain ⟨o', w19, hr, h19⟩ := app_pl1 (x := l[j]) h10 (by omega)
      refine runV_ok hr ⟨_, _, _, rfl, ih hjl _ o' ?_⟩
      rw [filter_step hjl, if_pos (show pcLt l[j] p = true from decide_eq_true h1)]
      exact h19
    · refine ih hjl _ o ?_
      rw [filter_step hjl, if_neg (by unfold pcLt; simpa using h1), List.append_nil]
      exact h10
  · rw [List.take_of_length_le (by omega)] at h
    have hfl : (l.filter fun x => pcLt x p).length ≤ 1000 := Nat.le_trans (List.length_filter_le ..) hl
    refine ⟨_, _, _, _, rd_agg (xs := pcV p) h.f1.at_blk (by intro i u hu; rw [Nat.zero_add]; exact hu), ?_⟩
    intro w29
    obtain ⟨o', w31, hr, h31⟩ := app_pl1 (x := p) h (by omega)
    refine runV_ok hr ⟨_, _, _, rfl, ?_⟩
    unfold T_ref08_withPool_2
    intro X hX
    refine up_to l.length (Q := fun j => ∀ (w : World) (o : Sl), St E (plA o ((l.filter fun x => pcLt x p) ++ [p] ++ (l.take j).filter fun x => pcLt p x) :: blkL bp 34 (pcV p) :: L) w → X o.1 o.2.1 o.2.2 (j : Int) w) ?_ w31 o' (by simpa using h31)
    intro j hj ih w o h
    refine hX _ _ _ _ _ ?_
    unfold T_ref08_withPool_2_body
    refine ite_d (fun hc => ?_) fun hc => ?_
    · have hjl : j < l.length := by omega
      intro w10
      have h10 : St E _ w10 := h.drew
      clear_value w10
      obtain ⟨ad, ha, hn, _, hg⟩ := pl_at (r.at h10 (mem2 hm)) hjl
      have hfl2 : ((l.take j).filter fun x => pcLt p x).length ≤ 1000 := Nat.le_trans (List.length_filter_le ..) (by simp; omega)
      rw [Int.toNat_natCast, succ_big (by omega)]
      refine ⟨by omega, by omega, ad, ha, _, hn, _, rd_cell h10.f1.at_blk rfl rfl, ?_⟩
      have eg : (!(Op.bytesLess (bs l[j].2.name).toList (bs p.2.name).toList || (bs l[j].2.name).toList == (bs p.2.name).toList)) = decide (p.2.name < l[j].2.name) := by
        rw [e, str_beq, Bool.eq_iff_iff]
        simp only [Bool.not_eq_true', Bool.or_eq_false_iff, decide_eq_false_iff_not, decide_eq_true_eq]
        constructor
        · rintro ⟨h1, h2⟩
          rcases Cm.slt_tri l[j].2.name p.2.name with h3 | h3 | h3
          · exact absurd h3 h1
          · exact absurd h3 h2
          · exact h3
        · intro h1
          exact ⟨fun h2 => Cm.slt_irrefl _ (Cm.slt_trans h1 h2), fun h2 => by rw [h2] at h1; exact Cm.slt_irrefl _ h1⟩
      rw [eg]
      refine ite_d (fun h1 => ⟨by omega, by omega, ad, ha, _, _, _, _, hg, ?_⟩) fun h1 => ?_
      · intro w17
        obtain ⟨o', w19, hr, h19⟩ := app_pl1 (x := l[j]) h10 (by simp only [List.length_append, List.length_singleton]; omega)
        refine runV_ok hr ⟨_, _, _, rfl, ih hjl _ o' ?_⟩
        rw [filter_step hjl, if_pos (show pcLt p l[j] = true from decide_eq_true h1), ← List.append_assoc]
        exact h19
      · refine ih hjl _ o ?_
        rw [filter_step hjl, if_neg (by unfold pcLt; simpa using h1), List.append_nil]
        exact h10
    · rw [List.take_of_length_le (by omega)] at h
      refine k _ _ ?_
      have := h.f1.drop
      simpa [Cm.put] using this
set_option maxHeartbeats 1000000 in
/-- withRoute. -/
theorem RwithRoute_spec {q : Sl} {l : List Cm.Rt} {p : Cm.Rt} (hm : kn F ∈ L) (r : RdF F q.1 q.2.1 3 (l.flatMap rcV)) (hl : l.length ≤ 1000) (h : St E L w)
    (k : ∀ (w' : World) (q' : Sl), St E (rtA q' (Cm.put Cm.rtLt l p) :: L) w' → R (.returned (.slice q'.1 q'.2.1 q'.2.2)) w') :
    Calls Tryz.prog 100 #[.slice q.1 q.2.1 q.2.2, .agg #[.string (bs p.host), .string (bs p.pfx), .string (bs p.pool)]] w R := by
  have hbig : big = 140737488355328 := rfl
  have n1 := r.count rcV_len (by decide) h hm
  refine C_ref08_withRoute ?_
  unfold T_ref08_withRoute
  intro w4
  have h4 : St E (blkL w.heap.size 36 (rcV p) :: L) w4 := h.alloc _
  intro w5
  have h5 : St E (rtA (some ⟨w4.heap.size, 0, none⟩, 0, 0) [] :: blkL w.heap.size 36 (rcV p) :: L) w5 := h4.rt_zero
  clear_value w5
  clear h4
  clear_value w4
  generalize w.heap.size = bp at *
  unfold T_ref08_withRoute_1
  intro X hX
  refine up_to l.length (Q := fun j => ∀ (w : World) (o : Sl), St E (rtA o ((l.take j).filter fun x => Cm.rtLt x p) :: blkL bp 36 (rcV p) :: L) w → X o.1 o.2.1 o.2.2 (j : Int) w) ?_ w5 (some ⟨w4.heap.size, 0, none⟩, 0, 0) h5
  intro j hj ih w o h
  refine hX _ _ _ _ _ ?_
  unfold T_ref08_withRoute_1_body
  rw [← n1]
  refine ite_d (fun hc => ?_) fun hc => ?_
  · have hjl : j < l.length := by omega
    intro w10
    have h10 : St E _ w10 := h.drew
    clear_value w10
    obtain ⟨ad, ha, hg, _⟩ := rt_at (r.at h10 (mem2 hm)) hjl
    have hfl : ((l.take j).filter fun x => Cm.rtLt x p).length ≤ 1000 := Nat.le_trans (List.length_filter_le ..) (by simp; omega)
    rw [Int.toNat_natCast, succ_big (by omega)]
    refine ⟨by omega, by omega, ad, ha, _, _, _, hg, _, _, _, rd_agg (xs := rcV p) h10.f1.at_blk (by intro i u hu; rw [Nat.zero_add]; exact hu), ?_⟩
    refine Rless_spec (x := l[j]) (y := p) h10 fun w20 h20 => ⟨_, rfl, trivial, ?_⟩
    obtain ⟨ad2, ha2, hg2, _⟩ := rt_at (r.at h20 (mem2 hm)) hjl
    refine ite_b (fun h1 => ⟨by omega, by omega, ad2, ha2, _, _, _, hg2, ?_⟩) fun h1 => ?_
    · intro w17
      obtain ⟨o', w19, hr, h19⟩ := app_rt1 (x := l[j]) h20 (by omega)
      refine runV_ok hr ⟨_, _, _, rfl, ih hjl _ o' ?_⟩
      rw [filter_step hjl, if_pos h1]
      exact h19
    · refine ih hjl _ o ?_
      rw [filter_step hjl, if_neg (by simp [h1]), List.append_nil]
      exact h20
  · rw [List.take_of_length_le (by omega)] at h
    have hfl : (l.filter fun x => Cm.rtLt x p).length ≤ 1000 := Nat.le_trans (List.length_filter_le ..) hl
    refine ⟨_, _, _, rd_agg (xs := rcV p) h.f1.at_blk (by intro i u hu; rw [Nat.zero_add]; exact hu), ?_⟩
    intro w29
    obtain ⟨o', w31, hr, h31⟩ := app_rt1 (x := p) h (by omega)
    refine runV_ok hr ⟨_, _, _, rfl, ?_⟩
    unfold T_ref08_withRoute_2
    intro X hX
    refine up_to l.length (Q := fun j => ∀ (w : World) (o : Sl), St E (rtA o ((l.filter fun x => Cm.rtLt x p) ++ [p] ++ (l.take j).filter fun x => Cm.rtLt p x) :: blkL bp 36 (rcV p) :: L) w → X o.1 o.2.1 o.2.2 (j : Int) w) ?_ w31 o' (by simpa using h31)
    intro j hj ih w o h
    refine hX _ _ _ _ _ ?_
    unfold T_ref08_withRoute_2_body
    refine ite_d (fun hc => ?_) fun hc => ?_
    · have hjl : j < l.length := by omega
      intro w10
      have h10 : St E _ w10 := h.drew
      clear_value w10
      obtain ⟨ad, ha, hg, _⟩ := rt_at (r.at h10 (mem2 hm)) hjl
      have hfl2 : ((l.take j).filter fun x => Cm.rtLt p x).length ≤ 1000 := Nat.le_trans (List.length_filter_le ..) (by simp; omega)
      rw [Int.toNat_natCast, succ_big (by omega)]
      refine ⟨_, _, _, rd_agg (xs := rcV p) h10.f1.at_blk (by intro i u hu; rw [Nat.zero_add]; exact hu), by omega, by omega, ad, ha, _, _, _, hg, ?_⟩
      refine Rless_spec (x := p) (y := l[j]) h10 fun w20 h20 => ⟨_, rfl, trivial, ?_⟩
      obtain ⟨ad2, ha2, hg2, _⟩ := rt_at (r.at h20 (mem2 hm)) hjl
      refine ite_b (fun h1 => ⟨by omega, by omega, ad2, ha2, _, _, _, hg2, ?_⟩) fun h1 => ?_
      · intro w17
        obtain ⟨o', w19, hr, h19⟩ := app_rt1 (x := l[j]) h20 (by simp only [List.length_append, List.length_singleton]; omega)
        refine runV_ok hr ⟨_, _, _, rfl, ih hjl _ o' ?_⟩
        rw [filter_step hjl, if_pos h1, ← List.append_assoc]
        exact h19
      · refine ih hjl _ o ?_
        rw [filter_step hjl, if_neg (by simp [h1]), List.append_nil]
        exact h20
    · rw [List.take_of_length_le (by omega)] at h
      refine k _ _ ?_
      have := h.f1.drop
      simpa [Cm.put] using this
end
end Go.Vc
