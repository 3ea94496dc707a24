/-
  The program's store: the bytes of a configuration.
-/
import Derived.Test.YtcpmfjclkdjfmaaGreatConfF
namespace Go.Vc
open Go Go.Proofs Go.Proofs.YtcpmfjclkdjfmaaGreat
set_option maxRecDepth 100000
section
variable {E w : World} {L : List Asrt} {R : Ending → World → Prop} {F G : Fz} {p : Nat} {s : Cm.Sm} {xs : Cm.Bs} {b : Sl}
theorem look_pool {mp : Nat} {Mp : List (Cm.Bs × PV)} {n : Cm.Bs} {v : PV} (h : St E (mapA mp encS pvV Mp :: L) w) (hv : mget Mp n = some v) :
    (Instr.lookup 75 (.map (some mp)) (.string (bs n)) false).run Tryz.prog w = .ok (.slice v.1.1 v.1.2.1 v.1.2.2) w := by
  have := lookup_run strLaw und_pools tm_tgs h n
  rw [hv] at this
  exact this
theorem look_route {mr : Nat} {Mr : List (Pr × Cm.Bs)} {n : Pr} {v : Cm.Bs} (h : St E (mapA mr encP encS Mr :: L) w) (hv : mget Mr n = some v) :
    (Instr.lookup 76 (.map (some mr)) (.agg #[.string (bs n.1), .string (bs n.2)]) false).run Tryz.prog w = .ok (.string (bs v)) w := by
  have := lookup_run placeLaw und_routes tm_str h n
  rw [hv] at this
  exact this
theorem place_at {a : Option Addr} {ks : List Pr} (h : RdS w a ks.length 2 (ks.flatMap celP)) {j : Nat} (hj : j < ks.length) : ∃ ad, a = some ad ∧ rd w (ad.add (j * 2)) (.agg #[.string (bs ks[j].1), .string (bs ks[j].2)]) := by
  obtain ⟨ad, ha, hk, _⟩ := h.elem (f := celP) (fun _ => rfl) (List.getElem?_eq_getElem hj) (by decide)
  exact ⟨ad, ha, hk⟩
theorem config_l1 {Kn : Option Addr → Nat → Nat → World → Prop} {Kp : List PanicEntry → World → Prop} {ka : Option Addr} {kc mp mr mc : Nat} {Mp : List (Cm.Bs × PV)} {Mr : List (Pr × Cm.Bs)} {Mc : List (Int × LV)} (hm : kn F ∈ L) (S : Sz s) (hp : poolsR F Mp s.pools)
    (h : St E (byA b xs :: ownS ka (s.pools.map nmK).length kc 9 1 ((s.pools.map nmK).flatMap celS) :: st4 p s.ver mp mr mc Mp Mr Mc L) w) (hx : xs.length ≤ 1200000)
    (k : ∀ (w : World) (b : Sl), St E (byA b (xs ++ s.pools.flatMap Cm.plB) :: ownS ka (s.pools.map nmK).length kc 9 1 ((s.pools.map nmK).flatMap celS) :: st4 p s.ver mp mr mc Mp Mr Mc L) w → Kn b.1 b.2.1 b.2.2 w) :
    T_conf_Store_config_1 b.1 b.2.1 b.2.2 0 (some ⟨p, 0, none⟩) ka (s.pools.map nmK).length kc (((s.pools.map nmK).length : Nat) : Int) w Kn Kp := by
  have hbig : big = 140737488355328 := rfl
  have hpn := S.pn
  unfold T_conf_Store_config_1
  intro X hX
  refine up_to s.pools.length (Q := fun j => ∀ (w : World) (b : Sl), St E (byA b (xs ++ (s.pools.take j).flatMap Cm.plB) :: ownS ka (s.pools.map nmK).length kc 9 1 ((s.pools.map nmK).flatMap celS) :: st4 p s.ver mp mr mc Mp Mr Mc L) w → X b.1 b.2.1 b.2.2 (j : Int) w) ?_ w b (by simpa using h)
  intro j hj ih w b h
  refine hX _ _ _ _ _ ?_
  unfold T_conf_Store_config_1_body
  rw [List.length_map]
  refine ite_d (fun hc => ?_) (fun hc => ?_)
  · have hjl : j < s.pools.length := by omega
    obtain ⟨ad, ha, hrd⟩ := key_at (ks := s.pools.map nmK) h.f1.rdS_own (j := j) (by simpa using hjl)
    rw [List.getElem_map] at hrd
    refine ⟨by omega, by omega, ad, ha, _, by rw [Int.toNat_natCast]; exact hrd, ?_⟩
    intro w4
    have h4 : St E _ w4 := h.drew
    have hx1 := pls_len S j
    obtain ⟨hx3, hx4⟩ := S.pl _ (List.getElem_mem hjl)
    have hx5 := tgsMax_short hx4
    have hx6 := text_len (nmK s.pools[j])
    have hx7 : (nmK s.pools[j]).length ≤ 128 := hx3
    obtain ⟨v, hv, hvt, hvg⟩ := pool_get hp h.f3.nodup (List.getElem_mem hjl)
    have hvg : RdF F v.1.1 v.1.2.1 2 (s.pools[j].tg.flatMap tV) := hvt ▸ hvg
    have fin : ∀ (w : World) (b : Sl), St E (byA b (xs ++ (s.pools.take j).flatMap Cm.plB ++ Cm.text (nmK s.pools[j]) ++ Cm.tgs s.pools[j].tg) :: ownS ka (s.pools.map nmK).length kc 9 1 ((s.pools.map nmK).flatMap celS) :: st4 p s.ver mp mr mc Mp Mr Mc L) w → X b.1 b.2.1 b.2.2 (IntKind.wrap .i64 ((j : Int) + 1)) w := fun w b h => by
      rw [succ_big (by omega)]
      refine ih hjl _ _ ?_
      rw [List.take_succ_eq_append_getElem hjl, List.flatMap_append]
      simpa [Cm.plB, nmK] using h
    have hm5 : ∀ {A B C D H : Asrt}, kn F ∈ A :: B :: C :: D :: H :: L := List.mem_cons_of_mem _ (List.mem_cons_of_mem _ (List.mem_cons_of_mem _ (List.mem_cons_of_mem _ (List.mem_cons_of_mem _ hm))))
    refine ⟨_, rfl, _, rd_fld h4.f2.at_blk rfl rfl, ?_, ?_⟩
    · refine text_spec (x := nmK s.pools[j]) h4 (by simp only [List.length_append]; omega) fun w5 b5 h5 => ⟨_, _, _, rfl, ⟨rd_fld h5.f2.at_blk rfl rfl, trivial⟩, runV_ok (look_pool h5.f3 hv) ⟨_, _, _, rfl, trivial, ?_⟩⟩
      exact row_spec hm5 hvg hx4.ok h5 (by simp only [List.length_append]; omega) fun w6 b6 h6 => ⟨_, _, _, rfl, trivial, fin _ _ h6⟩
    · refine runV_ok (look_pool h4.f3 hv) ⟨_, _, _, rfl, trivial, ?_⟩
      refine text_spec (x := nmK s.pools[j]) h4 (by simp only [List.length_append]; omega) fun w5 b5 h5 => ⟨_, _, _, rfl, trivial, ?_⟩
      exact row_spec hm5 hvg hx4.ok h5 (by simp only [List.length_append]; omega) fun w6 b6 h6 => ⟨_, _, _, rfl, trivial, fin _ _ h6⟩
  · rw [List.take_of_length_le (by omega)] at h
    exact k _ _ h
set_option maxHeartbeats 2000000 in
theorem config_l2 {Kn : Option Addr → Nat → Nat → World → Prop} {Kp : List PanicEntry → World → Prop} {ka : Option Addr} {kc mp mr mc : Nat} {Mp : List (Cm.Bs × PV)} {Mr : List (Pr × Cm.Bs)} {Mc : List (Int × LV)} (S : Sz s) (hr : routesR Mr s.routes)
    (h : St E (byA b xs :: ownS ka (s.routes.map plK).length kc 89 2 ((s.routes.map plK).flatMap celP) :: st4 p s.ver mp mr mc Mp Mr Mc L) w) (hx : xs.length ≤ 1500000)
    (k : ∀ (w : World) (b : Sl), St E (byA b (xs ++ s.routes.flatMap Cm.rtB) :: ownS ka (s.routes.map plK).length kc 89 2 ((s.routes.map plK).flatMap celP) :: st4 p s.ver mp mr mc Mp Mr Mc L) w → Kn b.1 b.2.1 b.2.2 w) :
    T_conf_Store_config_2 b.1 b.2.1 b.2.2 0 (some ⟨p, 0, none⟩) ka (s.routes.map plK).length kc (((s.routes.map plK).length : Nat) : Int) w Kn Kp := by
  have hbig : big = 140737488355328 := rfl
  have hrn := S.rn
  unfold T_conf_Store_config_2
  intro X hX
  refine up_to s.routes.length (Q := fun j => ∀ (w : World) (b : Sl), St E (byA b (xs ++ (s.routes.take j).flatMap Cm.rtB) :: ownS ka (s.routes.map plK).length kc 89 2 ((s.routes.map plK).flatMap celP) :: st4 p s.ver mp mr mc Mp Mr Mc L) w → X b.1 b.2.1 b.2.2 (j : Int) w) ?_ w b (by simpa using h)
  intro j hj ih w b h
  refine hX _ _ _ _ _ ?_
  unfold T_conf_Store_config_2_body
  rw [List.length_map]
  refine ite_d (fun hc => ?_) (fun hc => ?_)
  · have hjl : j < s.routes.length := by omega
    obtain ⟨ad, ha, hrd⟩ := place_at (ks := s.routes.map plK) h.f1.rdS_own (j := j) (by simpa using hjl)
    rw [List.getElem_map] at hrd
    refine ⟨by omega, by omega, ad, ha, _, _, by rw [Int.toNat_natCast]; exact hrd, ?_⟩
    have hx1 := rts_len S j
    obtain ⟨hx3, hx4, hx5⟩ := S.rt _ (List.getElem_mem hjl)
    have e1 := text_len s.routes[j].host
    have e2 := text_len s.routes[j].pfx
    have e3 := text_len s.routes[j].pool
    have hv := route_get hr h.f4.nodup (List.getElem_mem hjl)
    intro w8
    have h8 := h.alloc (.cells #[.string (ByteArray.mk #[]), .string (ByteArray.mk #[])] 89)
    refine ⟨rfl, wrOk_agg h8.at_blk (xs := celP (plK s.routes[j])) (by simp [celP]) (by intro u hu; simp [celP] at hu; rcases hu with rfl | rfl <;> rfl), ?_⟩
    intro w9 w10
    have h10 : St E (blkL w.heap.size 89 (celP (plK s.routes[j])) :: byA b (xs ++ (s.routes.take j).flatMap Cm.rtB) :: ownS ka (s.routes.map plK).length kc 89 2 ((s.routes.map plK).flatMap celP) :: st4 p s.ver mp mr mc Mp Mr Mc L) w10 := (h8.wr_agg0 (xs := celP (plK s.routes[j])) rfl).drew
    generalize w.heap.size = bk at *
    have h10 : St E (byA b (xs ++ (s.routes.take j).flatMap Cm.rtB) :: blkL bk 89 (celP (plK s.routes[j])) :: ownS ka (s.routes.map plK).length kc 89 2 ((s.routes.map plK).flatMap celP) :: st4 p s.ver mp mr mc Mp Mr Mc L) w10 := h10.f1
    clear_value w10
    have lk : ∀ {w : World} {ys : Cm.Bs} {b : Sl}, St E (byA b ys :: blkL bk 89 (celP (plK s.routes[j])) :: ownS ka (s.routes.map plK).length kc 89 2 ((s.routes.map plK).flatMap celP) :: st4 p s.ver mp mr mc Mp Mr Mc L) w →
        (Instr.lookup 76 (.map (some mr)) (.agg #[.string (bs s.routes[j].host), .string (bs s.routes[j].pfx)]) false).run Tryz.prog w = .ok (.string (bs s.routes[j].pool)) w := fun h => look_route h.f5 hv
    have r0 : ∀ {w : World} {ys : Cm.Bs} {b : Sl}, St E (byA b ys :: blkL bk 89 (celP (plK s.routes[j])) :: ownS ka (s.routes.map plK).length kc 89 2 ((s.routes.map plK).flatMap celP) :: st4 p s.ver mp mr mc Mp Mr Mc L) w →
        rd w ⟨bk, 0, none⟩ (.string (bs s.routes[j].host)) := fun h => rd_cell h.f1.at_blk rfl rfl
    have r1 : ∀ {w : World} {ys : Cm.Bs} {b : Sl}, St E (byA b ys :: blkL bk 89 (celP (plK s.routes[j])) :: ownS ka (s.routes.map plK).length kc 89 2 ((s.routes.map plK).flatMap celP) :: st4 p s.ver mp mr mc Mp Mr Mc L) w →
        rd w ((⟨bk, 0, none⟩ : Addr).add 1) (.string (bs s.routes[j].pfx)) := fun h => rd_fld h.f1.at_blk rfl rfl
    have ra : ∀ {w : World} {ys : Cm.Bs} {b : Sl}, St E (byA b ys :: blkL bk 89 (celP (plK s.routes[j])) :: ownS ka (s.routes.map plK).length kc 89 2 ((s.routes.map plK).flatMap celP) :: st4 p s.ver mp mr mc Mp Mr Mc L) w →
        rd w ⟨bk, 0, none⟩ (.agg #[.string (bs s.routes[j].host), .string (bs s.routes[j].pfx)]) := fun h => rd_agg (xs := celP (plK s.routes[j])) h.f1.at_blk (by intro i u hu; rw [Nat.zero_add]; exact hu)
    have rm : ∀ {w : World} {ys : Cm.Bs} {b : Sl}, St E (byA b ys :: blkL bk 89 (celP (plK s.routes[j])) :: ownS ka (s.routes.map plK).length kc 89 2 ((s.routes.map plK).flatMap celP) :: st4 p s.ver mp mr mc Mp Mr Mc L) w →
        rd w ((⟨p, 0, none⟩ : Addr).add 2) (.map (some mr)) := fun h => rd_fld h.f3.at_blk rfl rfl
    have fin : ∀ (w : World) (b : Sl), St E (byA b (xs ++ (s.routes.take j).flatMap Cm.rtB ++ Cm.text s.routes[j].host ++ Cm.text s.routes[j].pfx ++ Cm.text s.routes[j].pool) :: blkL bk 89 (celP (plK s.routes[j])) :: ownS ka (s.routes.map plK).length kc 89 2 ((s.routes.map plK).flatMap celP) :: st4 p s.ver mp mr mc Mp Mr Mc L) w → X b.1 b.2.1 b.2.2 (IntKind.wrap .i64 ((j : Int) + 1)) w := fun w b h => by
      rw [succ_big (by omega)]
      refine ih hjl _ _ ?_
      rw [List.take_succ_eq_append_getElem hjl, List.flatMap_append]
      have := h.f1.drop
      simpa [Cm.rtB] using this
    refine ⟨_, r0 h10, _, r1 h10, _, rfl, _, rm h10, _, _, ra h10, ?_, ?_⟩
    · refine text_spec (x := s.routes[j].host) h10 (by simp only [List.length_append]; omega) fun w1 b1 h1 => ⟨_, _, _, rfl, ⟨ra h1, rm h1, r1 h1, trivial⟩, ?_, ?_⟩
      · refine text_spec (x := s.routes[j].pfx) h1 (by simp only [List.length_append]; omega) fun w2 b2 h2 => ⟨_, _, _, rfl, ⟨ra h2, rm h2, trivial⟩, runV_ok (lk h2) ⟨_, rfl, trivial, ?_⟩⟩
        exact text_spec (x := s.routes[j].pool) h2 (by simp only [List.length_append]; omega) fun w3 b3 h3 => ⟨_, _, _, rfl, trivial, fin _ _ h3⟩
      · refine runV_ok (lk h1) ⟨_, rfl, ⟨r1 h1, trivial⟩, ?_⟩
        refine text_spec (x := s.routes[j].pfx) h1 (by simp only [List.length_append]; omega) fun w2 b2 h2 => ⟨_, _, _, rfl, trivial, ?_⟩
        exact text_spec (x := s.routes[j].pool) h2 (by simp only [List.length_append]; omega) fun w3 b3 h3 => ⟨_, _, _, rfl, trivial, fin _ _ h3⟩
    · refine runV_ok (lk h10) ⟨_, rfl, ⟨r1 h10, r0 h10, trivial⟩, ?_⟩
      refine text_spec (x := s.routes[j].host) h10 (by simp only [List.length_append]; omega) fun w1 b1 h1 => ⟨_, _, _, rfl, ⟨r1 h1, trivial⟩, ?_⟩
      refine text_spec (x := s.routes[j].pfx) h1 (by simp only [List.length_append]; omega) fun w2 b2 h2 => ⟨_, _, _, rfl, trivial, ?_⟩
      exact text_spec (x := s.routes[j].pool) h2 (by simp only [List.length_append]; omega) fun w3 b3 h3 => ⟨_, _, _, rfl, trivial, fin _ _ h3⟩
  · rw [List.take_of_length_le (by omega)] at h
    exact k _ _ h
theorem config_spec4 {mp mr mc : Nat} {Mp : List (Cm.Bs × PV)} {Mr : List (Pr × Cm.Bs)} {Mc : List (Int × LV)} (hm : kn F ∈ L) (S : Sz s) (hp : poolsR F Mp s.pools) (hr : routesR Mr s.routes) (h : St E (byA b xs :: st4 p s.ver mp mr mc Mp Mr Mc L) w) (hx : xs.length ≤ 1000000)
    (k : ∀ (w' : World) (b' : Sl), St E (byA b' (xs ++ Cm.confB s.pools s.routes) :: st4 p s.ver mp mr mc Mp Mr Mc L) w' → R (.returned (.slice b'.1 b'.2.1 b'.2.2)) w') :
    Calls Tryz.prog 50 #[.pointer (some ⟨p, 0, none⟩), .slice b.1 b.2.1 b.2.2] w R := by
  have hbig : big = 140737488355328 := rfl
  have h := h.sel 5 [1, 2, 3, 4, 0]
  refine C_conf_Store_config ?_
  unfold T_conf_Store_config
  have hlp : Mp.length = s.pools.length := by have := hp.2.length_eq; simpa using this
  have hlr : Mr.length = s.routes.length := by have := List.Perm.length_eq hr; simpa using this
  have hpn := S.pn
  have hrn := S.rn
  have hy1 := pls_len S s.pools.length
  rw [List.take_length] at hy1
  have hy2 := num_len s.pools.length
  have hy3 := num_len s.routes.length
  refine ⟨_, rfl, _, rd_fld h.at_blk rfl rfl, runV_ok (lenMap_run und_pools h.f1 _ _ rfl) ⟨_, rfl, ?_⟩⟩
  rw [hlp]
  refine num_spec (h.sel 5 [4, 0, 1, 2, 3]) (by omega) fun w1 s1 h1 => ⟨_, _, _, rfl, ?_⟩
  have h1 : St E (byA s1 (xs ++ Cm.num s.pools.length) :: st4 p s.ver mp mr mc Mp Mr Mc L) w1 := h1
  refine ⟨_, rfl, _, rd_fld h1.f1.at_blk rfl rfl, KeysS_spec h1 fun B w2 h2 => ⟨_, rfl, rfl, ?_⟩⟩
  refine SortedS_spec (ks := s.pools.map nmK) (L := byA s1 (xs ++ Cm.num s.pools.length) :: blkL p 79 (stL s.ver mp mr mc) :: mapA mr encP encS Mr :: mapA mc encI lvV Mc :: L) (h2.sel 6 [0, 3, 1, 2, 4, 5]) (by omega) (names_perm hp) (names_rise S.pr) fun ka kc w3 h3 => ⟨_, _, _, rfl, ?_⟩
  have h3 : St E (byA s1 (xs ++ Cm.num s.pools.length) :: ownS ka (s.pools.map nmK).length kc 9 1 ((s.pools.map nmK).flatMap celS) :: st4 p s.ver mp mr mc Mp Mr Mc L) w3 := h3.sel 6 [2, 0, 3, 1, 4, 5]
  refine config_l1 hm S hp h3 (by simp only [List.length_append]; omega) fun w4 b4 h4 => ?_
  have h5 := h4.f1.drop
  refine ⟨_, rfl, _, rd_fld h5.f1.at_blk rfl rfl, runV_ok (lenMap_run und_routes h5.f3 _ _ rfl) ⟨_, rfl, ?_⟩⟩
  rw [hlr]
  refine num_spec h5 (by simp only [List.length_append]; omega) fun w6 b6 h6 => ⟨_, _, _, rfl, ?_⟩
  refine sorted_spec (ks := s.routes.map plK) (L := byA b6 (xs ++ Cm.num s.pools.length ++ s.pools.flatMap Cm.plB ++ Cm.num s.routes.length) :: mapA mp encS pvV Mp :: mapA mc encI lvV Mc :: L) (h6.sel 5 [1, 3, 0, 2, 4]) (by omega) (places_perm hr) (places_rise S.rr) fun ka kc w7 h7 => ⟨_, _, _, rfl, ?_⟩
  have h7 : St E (byA b6 (xs ++ Cm.num s.pools.length ++ s.pools.flatMap Cm.plB ++ Cm.num s.routes.length) :: ownS ka (s.routes.map plK).length kc 89 2 ((s.routes.map plK).flatMap celP) :: st4 p s.ver mp mr mc Mp Mr Mc L) w7 := h7.sel 6 [3, 0, 1, 4, 2, 5]
  refine config_l2 S hr h7 (by simp only [List.length_append]; omega) fun w8 b8 h8 => k _ _ ?_
  simpa [Cm.confB] using h8.f1.drop
/-- (*Store).config: bytes with the configuration's behind. -/
theorem config_spec (hm : kn F ∈ L) (S : Sz s) (h : St E (byA b xs :: stA F p s :: L) w) (hx : xs.length ≤ 1000000)
    (k : ∀ (w' : World) (b' : Sl), St E (byA b' (xs ++ Cm.confB s.pools s.routes) :: stA F p s :: L) w' → R (.returned (.slice b'.1 b'.2.1 b'.2.2)) w') :
    Calls Tryz.prog 50 #[.pointer (some ⟨p, 0, none⟩), .slice b.1 b.2.1 b.2.2] w R := by
  obtain ⟨mp, mr, mc, Mp, Mr, Mc, hp, hr, hc, h⟩ := h.f1.st_open
  refine config_spec4 hm S hp hr (h.sel 5 [4, 0, 1, 2, 3]) hx fun w' b' h' => k _ _ ?_
  exact (St.st_mk hp hr hc (h'.sel 5 [1, 2, 3, 4, 0])).f1
end
end Go.Vc
