/-
  Rows of pools, of routes, of what clients were told; a configuration in new memory.
-/
import Derived.Test.YtcpmfjclkdjfmaaGreatConfQ
namespace Go.Vc
open Go Go.Proofs Go.Proofs.YtcpmfjclkdjfmaaGreat
set_option maxRecDepth 100000
abbrev PlS := Sl × Cm.Pl
def pcV (x : PlS) : List Value := [.string (bs x.2.name), .slice x.1.1 x.1.2.1 x.1.2.2]
def rcV (r : Cm.Rt) : List Value := [.string (bs r.host), .string (bs r.pfx), .string (bs r.pool)]
def lcV (x : Cm.Last) : List Value := [.int .i64 x.client, .int .i64 x.seq, .int .i64 x.e, .int .i64 x.ver]
section
variable {E w : World} {L : List Asrt} {R : Ending → World → Prop} {F G : Fz} {p : Nat} {s : Cm.Sm}

/-! ### pl -/
def plA (s : Sl) (l : List PlS) : Asrt := ownS s.1 s.2.1 s.2.2 34 2 (l.flatMap pcV)
theorem pcV_len (x : PlS) : (pcV x).length = 2 := rfl
theorem pcV_one (l : List PlS) : ∀ u ∈ l.flatMap pcV, one u = true := by
  intro u hu
  obtain ⟨x, _, hx⟩ := List.mem_flatMap.1 hu
  simp [pcV] at hx
  rcases hx with rfl | rfl <;> rfl
theorem app_pl {s : Sl} {a2 : Option Addr} {l2 c2 : Nat} {xs ys : List PlS} (h : St E (plA s xs :: L) w) (hro : RdS w a2 l2 2 (ys.flatMap pcV)) (hb : xs.length + ys.length ≤ 1000000) :
    ∃ (s' : Sl) (w' : World), (Builtin.append_ #[28, 28] 28 #[.slice s.1 s.2.1 s.2.2, .slice a2 l2 c2]).run Tryz.prog w = .ok (.slice s'.1 s'.2.1 s'.2.2) w' ∧ St E (plA s' (xs ++ ys) :: L) w' := by
  have hl : xs.length = s.2.1 := h.rdS_own.count pcV_len (by decide)
  have hl2 : ys.length = l2 := hro.count pcV_len (by decide)
  obtain ⟨a', c', w', hr, hs⟩ := append_own (P := Tryz.prog) (t := 28) (ty := 28) (e := 34) (i := Tryz.t34) (z := .agg #[.string (ByteArray.mk #[]), .slice none 0 0]) (by kernel_rfl) (by kernel_rfl) (by kernel_rfl) (by kernel_rfl) (by decide) (c2 := c2) h hro (pcV_one ys)
    (by have : Tryz.t34.bytes = 40 := by kernel_rfl
        rw [this]; omega) (by unfold maxLen; omega)
  rw [show Tryz.t34.size = 2 from by kernel_rfl, ← List.flatMap_append] at hs
  exact ⟨(a', s.2.1 + l2, c'), w', hr, hs⟩
theorem St.pl_new (h : St E L w) (x : PlS) : St E (plA (some ⟨w.heap.size, 0, none⟩, 1, 1) [x] :: L) (w.alloc (.cells ⟨pcV x⟩ 34)) := by
  refine (St.ownS_mk (xs := [x].flatMap pcV) (rest := []) (l := 1) (c := 1) (sz := 2) ?_ rfl (Nat.le_refl _) (by decide) rfl :)
  simpa using h.alloc (.cells ⟨pcV x⟩ 34)
theorem app_pl1 {s : Sl} {xs : List PlS} {x : PlS} (h : St E (plA s xs :: L) w) (hb : xs.length + 1 ≤ 1000000) :
    ∃ (s' : Sl) (w' : World), (Builtin.append_ #[28, 28] 28 #[.slice s.1 s.2.1 s.2.2, .slice (some ⟨w.heap.size, 0, none⟩) 1 1]).run Tryz.prog (w.alloc (.cells ⟨pcV x⟩ 34)) = .ok (.slice s'.1 s'.2.1 s'.2.2) w' ∧ St E (plA s' (xs ++ [x]) :: L) w' := by
  have h2 := h.pl_new x
  obtain ⟨s', w', hr, hs⟩ := app_pl (c2 := 1) h2.f1 (St.rdS_own h2) (by simpa using hb)
  exact ⟨s', w', hr, hs.f1.drop⟩
theorem St.pl_nil (h : St E L w) : St E (plA (none, 0, 0) [] :: L) w := h.ownS_nil
theorem St.pl_len {s : Sl} {l : List PlS} (h : St E (plA s l :: L) w) : l.length = s.2.1 := h.rdS_own.count pcV_len (by decide)
theorem St.pl_zero (h : St E L w) : St E (plA (some ⟨w.heap.size, 0, none⟩, 0, 0) [] :: L) (w.alloc (.cells #[] 34)) := St.ownS_mk (rest := []) (h.alloc _) rfl (Nat.le_refl _) (Nat.zero_le _) rfl
theorem St.freeze_pl {s : Sl} {l : List PlS} (h : St E (plA s l :: kn F :: L) w) : ∃ G, Fz.le F G ∧ St E (kn G :: L) w ∧ RdF G s.1 s.2.1 2 (l.flatMap pcV) := h.freezeS

/-! ### rt -/
def rtA (s : Sl) (l : List Cm.Rt) : Asrt := ownS s.1 s.2.1 s.2.2 36 3 (l.flatMap rcV)
theorem rcV_len (x : Cm.Rt) : (rcV x).length = 3 := rfl
theorem rcV_one (l : List Cm.Rt) : ∀ u ∈ l.flatMap rcV, one u = true := by
  intro u hu
  obtain ⟨x, _, hx⟩ := List.mem_flatMap.1 hu
  simp [rcV] at hx
  rcases hx with rfl | rfl | rfl <;> rfl
theorem app_rt {s : Sl} {a2 : Option Addr} {l2 c2 : Nat} {xs ys : List Cm.Rt} (h : St E (rtA s xs :: L) w) (hro : RdS w a2 l2 3 (ys.flatMap rcV)) (hb : xs.length + ys.length ≤ 1000000) :
    ∃ (s' : Sl) (w' : World), (Builtin.append_ #[27, 27] 27 #[.slice s.1 s.2.1 s.2.2, .slice a2 l2 c2]).run Tryz.prog w = .ok (.slice s'.1 s'.2.1 s'.2.2) w' ∧ St E (rtA s' (xs ++ ys) :: L) w' := by
  have hl : xs.length = s.2.1 := h.rdS_own.count rcV_len (by decide)
  have hl2 : ys.length = l2 := hro.count rcV_len (by decide)
  obtain ⟨a', c', w', hr, hs⟩ := append_own (P := Tryz.prog) (t := 27) (ty := 27) (e := 36) (i := Tryz.t36) (z := .agg #[.string (ByteArray.mk #[]), .string (ByteArray.mk #[]), .string (ByteArray.mk #[])]) (by kernel_rfl) (by kernel_rfl) (by kernel_rfl) (by kernel_rfl) (by decide) (c2 := c2) h hro (rcV_one ys)
    (by have : Tryz.t36.bytes = 48 := by kernel_rfl
        rw [this]; omega) (by unfold maxLen; omega)
  rw [show Tryz.t36.size = 3 from by kernel_rfl, ← List.flatMap_append] at hs
  exact ⟨(a', s.2.1 + l2, c'), w', hr, hs⟩
theorem St.rt_new (h : St E L w) (x : Cm.Rt) : St E (rtA (some ⟨w.heap.size, 0, none⟩, 1, 1) [x] :: L) (w.alloc (.cells ⟨rcV x⟩ 36)) := by
  refine (St.ownS_mk (xs := [x].flatMap rcV) (rest := []) (l := 1) (c := 1) (sz := 3) ?_ rfl (Nat.le_refl _) (by decide) rfl :)
  simpa using h.alloc (.cells ⟨rcV x⟩ 36)
theorem app_rt1 {s : Sl} {xs : List Cm.Rt} {x : Cm.Rt} (h : St E (rtA s xs :: L) w) (hb : xs.length + 1 ≤ 1000000) :
    ∃ (s' : Sl) (w' : World), (Builtin.append_ #[27, 27] 27 #[.slice s.1 s.2.1 s.2.2, .slice (some ⟨w.heap.size, 0, none⟩) 1 1]).run Tryz.prog (w.alloc (.cells ⟨rcV x⟩ 36)) = .ok (.slice s'.1 s'.2.1 s'.2.2) w' ∧ St E (rtA s' (xs ++ [x]) :: L) w' := by
  have h2 := h.rt_new x
  obtain ⟨s', w', hr, hs⟩ := app_rt (c2 := 1) h2.f1 (St.rdS_own h2) (by simpa using hb)
  exact ⟨s', w', hr, hs.f1.drop⟩
theorem St.rt_nil (h : St E L w) : St E (rtA (none, 0, 0) [] :: L) w := h.ownS_nil
theorem St.rt_len {s : Sl} {l : List Cm.Rt} (h : St E (rtA s l :: L) w) : l.length = s.2.1 := h.rdS_own.count rcV_len (by decide)
theorem St.rt_zero (h : St E L w) : St E (rtA (some ⟨w.heap.size, 0, none⟩, 0, 0) [] :: L) (w.alloc (.cells #[] 36)) := St.ownS_mk (rest := []) (h.alloc _) rfl (Nat.le_refl _) (Nat.zero_le _) rfl
theorem St.freeze_rt {s : Sl} {l : List Cm.Rt} (h : St E (rtA s l :: kn F :: L) w) : ∃ G, Fz.le F G ∧ St E (kn G :: L) w ∧ RdF G s.1 s.2.1 3 (l.flatMap rcV) := h.freezeS

/-! ### la -/
def laA (s : Sl) (l : List Cm.Last) : Asrt := ownS s.1 s.2.1 s.2.2 113 4 (l.flatMap lcV)
theorem lcV_len (x : Cm.Last) : (lcV x).length = 4 := rfl
theorem lcV_one (l : List Cm.Last) : ∀ u ∈ l.flatMap lcV, one u = true := by
  intro u hu
  obtain ⟨x, _, hx⟩ := List.mem_flatMap.1 hu
  simp [lcV] at hx
  rcases hx with rfl | rfl | rfl | rfl <;> rfl
theorem app_la {s : Sl} {a2 : Option Addr} {l2 c2 : Nat} {xs ys : List Cm.Last} (h : St E (laA s xs :: L) w) (hro : RdS w a2 l2 4 (ys.flatMap lcV)) (hb : xs.length + ys.length ≤ 1000000) :
    ∃ (s' : Sl) (w' : World), (Builtin.append_ #[106, 106] 106 #[.slice s.1 s.2.1 s.2.2, .slice a2 l2 c2]).run Tryz.prog w = .ok (.slice s'.1 s'.2.1 s'.2.2) w' ∧ St E (laA s' (xs ++ ys) :: L) w' := by
  have hl : xs.length = s.2.1 := h.rdS_own.count lcV_len (by decide)
  have hl2 : ys.length = l2 := hro.count lcV_len (by decide)
  obtain ⟨a', c', w', hr, hs⟩ := append_own (P := Tryz.prog) (t := 106) (ty := 106) (e := 113) (i := Tryz.t113) (z := .agg #[.int .i64 0, .int .i64 0, .int .i64 0, .int .i64 0]) (by kernel_rfl) (by kernel_rfl) (by kernel_rfl) (by kernel_rfl) (by decide) (c2 := c2) h hro (lcV_one ys)
    (by have : Tryz.t113.bytes = 32 := by kernel_rfl
        rw [this]; omega) (by unfold maxLen; omega)
  rw [show Tryz.t113.size = 4 from by kernel_rfl, ← List.flatMap_append] at hs
  exact ⟨(a', s.2.1 + l2, c'), w', hr, hs⟩
theorem St.la_new (h : St E L w) (x : Cm.Last) : St E (laA (some ⟨w.heap.size, 0, none⟩, 1, 1) [x] :: L) (w.alloc (.cells ⟨lcV x⟩ 113)) := by
  refine (St.ownS_mk (xs := [x].flatMap lcV) (rest := []) (l := 1) (c := 1) (sz := 4) ?_ rfl (Nat.le_refl _) (by decide) rfl :)
  simpa using h.alloc (.cells ⟨lcV x⟩ 113)
theorem app_la1 {s : Sl} {xs : List Cm.Last} {x : Cm.Last} (h : St E (laA s xs :: L) w) (hb : xs.length + 1 ≤ 1000000) :
    ∃ (s' : Sl) (w' : World), (Builtin.append_ #[106, 106] 106 #[.slice s.1 s.2.1 s.2.2, .slice (some ⟨w.heap.size, 0, none⟩) 1 1]).run Tryz.prog (w.alloc (.cells ⟨lcV x⟩ 113)) = .ok (.slice s'.1 s'.2.1 s'.2.2) w' ∧ St E (laA s' (xs ++ [x]) :: L) w' := by
  have h2 := h.la_new x
  obtain ⟨s', w', hr, hs⟩ := app_la (c2 := 1) h2.f1 (St.rdS_own h2) (by simpa using hb)
  exact ⟨s', w', hr, hs.f1.drop⟩
theorem St.la_nil (h : St E L w) : St E (laA (none, 0, 0) [] :: L) w := h.ownS_nil
theorem St.la_len {s : Sl} {l : List Cm.Last} (h : St E (laA s l :: L) w) : l.length = s.2.1 := h.rdS_own.count lcV_len (by decide)
theorem St.la_zero (h : St E L w) : St E (laA (some ⟨w.heap.size, 0, none⟩, 0, 0) [] :: L) (w.alloc (.cells #[] 113)) := St.ownS_mk (rest := []) (h.alloc _) rfl (Nat.le_refl _) (Nat.zero_le _) rfl
theorem St.freeze_la {s : Sl} {l : List Cm.Last} (h : St E (laA s l :: kn F :: L) w) : ∃ G, Fz.le F G ∧ St E (kn G :: L) w ∧ RdF G s.1 s.2.1 4 (l.flatMap lcV) := h.freezeS

/-! ### a configuration -/
/-- The pools' targets, each in a row of its own. -/
def tgO (xs : List PlS) : Asrt := seps (xs.map fun x => tgA x.1 x.2.tg)
theorem St.tgO_nil (h : St E L w) : St E (tgO [] :: L) w := St.shut (L1 := []) h
theorem St.tgO_put {xs : List PlS} {x : PlS} (h : St E (tgA x.1 x.2.tg :: tgO xs :: L) w) : St E (tgO (xs ++ [x]) :: L) w := by
  have h1 : St E ((xs.map fun x => tgA x.1 x.2.tg) ++ (tgA x.1 x.2.tg :: L)) w := St.open_ (L1 := xs.map fun x => tgA x.1 x.2.tg) h.f1
  unfold tgO
  refine St.shut (L1 := (xs ++ [x]).map fun x => tgA x.1 x.2.tg) ?_
  simpa using h1
/-- All of them, known for good. -/
theorem St.tgO_freeze : ∀ {xs : List PlS} {F : Fz} {L : List Asrt}, St E (tgO xs :: kn F :: L) w → ∃ G, Fz.le F G ∧ St E (kn G :: L) w ∧ ∀ x ∈ xs, RdF G x.1.1 x.1.2.1 2 (x.2.tg.flatMap tV)
  | [], F, L, h => ⟨F, Fz.le_refl F, h.drop, fun x hx => by cases hx⟩
  | x :: r, F, L, h => by
    have h1 : St E (tgA x.1 x.2.tg :: ((r.map fun x => tgA x.1 x.2.tg) ++ (kn F :: L))) w := St.open_ (L1 := (x :: r).map fun x => tgA x.1 x.2.tg) h
    have h2 : St E (tgA x.1 x.2.tg :: kn F :: ((r.map fun x => tgA x.1 x.2.tg) ++ L)) w := h1.perm (List.Perm.cons _ List.perm_middle)
    obtain ⟨G1, hF, h3, hr⟩ := h2.freezeT
    have h4 : St E (tgO r :: kn G1 :: L) w := St.shut (L1 := r.map fun x : PlS => tgA x.1 x.2.tg) (h3.perm List.perm_middle.symm)
    obtain ⟨G, hG, h5, hrs⟩ := h4.tgO_freeze
    refine ⟨G, Fz.le_trans hF hG, h5, fun y hy => ?_⟩
    rcases List.mem_cons.1 hy with rfl | hy
    · exact RdF.mono hr hG
    · exact hrs y hy
def cfgV (v : Int) (ra pa : Sl) : Value := .agg #[.int .i64 v, .slice ra.1 ra.2.1 ra.2.2, .slice pa.1 pa.2.1 pa.2.2]
abbrev cfgL (v : Int) (ra pa : Sl) : List Value := [.int .i64 v, .slice ra.1 ra.2.1 ra.2.2, .slice pa.1 pa.2.1 pa.2.2]

theorem rd_cfg {b : Nat} {v : Int} {ra pa : Sl} (h : St E (blkL b 30 (cfgL v ra pa) :: L) w) : rd w ⟨b, 0, none⟩ (cfgV v ra pa) := rd_agg (xs := cfgL v ra pa) h.at_blk (by intro i u hu; rw [Nat.zero_add]; exact hu)
theorem one_cfg (v : Int) (ra pa : Sl) : ∀ u ∈ cfgL v ra pa, one u = true := by intro u hu; simp at hu; rcases hu with rfl | rfl | rfl <;> rfl
theorem ok_cfg {b t : Nat} {l : List Value} (h : St E (blkL b t l :: L) w) (hl : l.length = 3) (v : Int) (ra pa : Sl) : wrOk w ⟨b, 0, none⟩ (cfgV v ra pa) := wrOk_agg h.at_blk (xs := cfgL v ra pa) (by rw [hl]; exact Nat.le_refl 3) (one_cfg v ra pa)
theorem St.wr_cfg {b t : Nat} {l : List Value} (h : St E (blkL b t l :: L) w) (hl : l.length = 3) (v : Int) (ra pa : Sl) : St E (blkL b t (cfgL v ra pa) :: L) (wr w ⟨b, 0, none⟩ (cfgV v ra pa)) := h.wr_agg0 (xs := cfgL v ra pa) (by rw [hl]; rfl)
set_option maxHeartbeats 1000000 in
theorem cfg_l1 {Kn : World → Prop} {Kp : List PanicEntry → World → Prop} {ka : Option Addr} {kc bc mp mr mc : Nat} {v0 : Int} {Mp : List (Cm.Bs × PV)} {Mr : List (Pr × Cm.Bs)} {Mc : List (Int × LV)} (hm : kn F ∈ L) (S : Sz s) (hp : poolsR F Mp s.pools)
    (h : St E (blkL bc 30 (cfgL v0 (none, 0, 0) (none, 0, 0)) :: plA (none, 0, 0) [] :: tgO [] :: ownS ka (s.pools.map nmK).length kc 9 1 ((s.pools.map nmK).flatMap celS) :: st4 p s.ver mp mr mc Mp Mr Mc L) w)
    (k : ∀ (w : World) (pa : Sl) (xs : List PlS), xs.map (·.2) = s.pools → St E (blkL bc 30 (cfgL v0 (none, 0, 0) pa) :: plA pa xs :: tgO xs :: st4 p s.ver mp mr mc Mp Mr Mc L) w → Kn w) :
    T_conf_Store_Config_1 0 (some ⟨p, 0, none⟩) ⟨bc, 0, none⟩ ka (s.pools.map nmK).length kc (((s.pools.map nmK).length : Nat) : Int) w Kn Kp := by
  have hbig : big = 140737488355328 := rfl
  have hpn := S.pn
  unfold T_conf_Store_Config_1
  intro X hX
  refine up_to s.pools.length (Q := fun j => ∀ (w : World) (pa : Sl) (xs : List PlS), xs.map (·.2) = s.pools.take j → St E (blkL bc 30 (cfgL v0 (none, 0, 0) pa) :: plA pa xs :: tgO xs :: ownS ka (s.pools.map nmK).length kc 9 1 ((s.pools.map nmK).flatMap celS) :: st4 p s.ver mp mr mc Mp Mr Mc L) w → X (j : Int) w) ?_ w (none, 0, 0) [] rfl h
  intro j hj ih w pa xs hxs h
  have hxl : xs.length ≤ 64 := by have := congrArg List.length hxs; simp at this; omega
  refine hX _ _ ?_
  unfold T_conf_Store_Config_1_body
  rw [List.length_map]
  refine ite_d (fun hc => ?_) (fun hc => ?_)
  · have hjl : j < s.pools.length := by omega
    obtain ⟨ad, ha, hrd⟩ := key_at (ks := s.pools.map nmK) h.f3.rdS_own (j := j) (by simpa using hjl)
    rw [List.getElem_map] at hrd
    refine ⟨by omega, by omega, ad, ha, _, by rw [Int.toNat_natCast]; exact hrd, ?_⟩
    intro w4
    have h4 : St E _ w4 := h.drew
    clear_value w4
    obtain ⟨hx3, hx4⟩ := S.pl _ (List.getElem_mem hjl)
    obtain ⟨v, hv, hvt, hvg⟩ := pool_get hp h.f5.nodup (List.getElem_mem hjl)
    have hvg : RdF F v.1.1 v.1.2.1 2 (s.pools[j].tg.flatMap tV) := hvt ▸ hvg
    have hm8 : ∀ {A B C D H I J K : Asrt}, kn F ∈ A :: B :: C :: D :: H :: I :: J :: K :: L := List.mem_cons_of_mem _ (List.mem_cons_of_mem _ (List.mem_cons_of_mem _ (List.mem_cons_of_mem _ (List.mem_cons_of_mem _ (List.mem_cons_of_mem _ (List.mem_cons_of_mem _ (List.mem_cons_of_mem _ hm)))))))
    refine ⟨_, _, _, rd_fld h4.at_blk rfl rfl, _, rfl, _, rd_fld h4.f4.at_blk rfl rfl, runV_ok (look_pool h4.f5 hv) ⟨_, _, _, rfl, ⟨rd_fld h4.at_blk rfl rfl, trivial⟩, ?_⟩⟩
    refine Clone_spec (q := v.1) hm8 h4 hvg (by have := hx4.1; omega) fun q' w34 h34 => ⟨_, _, _, rfl, ⟨rd_fld h34.f1.at_blk rfl rfl, trivial⟩, ?_⟩
    intro w36
    have h36 := h34.alloc (.cells ⟨pcV (q', s.pools[j])⟩ 34)
    refine ⟨⟨rd_fld h36.f2.at_blk rfl rfl, trivial⟩, ?_⟩
    obtain ⟨pa', w38, hr38, h38⟩ := app_pl1 (x := (q', s.pools[j])) h34.f2 (by omega)
    refine runV_ok hr38 ⟨_, _, _, rfl, trivial, rfl, wrOk_fld h38.f2.at_blk (by show 2 < 3; decide) rfl, ?_⟩
    intro w40
    have h40 := h38.f2.wr_fld (k := 2) (v := .slice pa'.1 pa'.2.1 pa'.2.2) rfl
    refine ⟨trivial, ?_⟩
    rw [succ_big (by omega)]
    refine ih hjl _ pa' (xs ++ [(q', s.pools[j])]) (by rw [List.map_append, hxs, List.take_succ_eq_append_getElem hjl]; rfl) ?_
    have h41 : St E (blkL bc 30 (cfgL v0 (none, 0, 0) pa') :: plA pa' (xs ++ [(q', s.pools[j])]) :: tgA q' s.pools[j].tg :: tgO xs :: ownS ka (s.pools.map nmK).length kc 9 1 ((s.pools.map nmK).flatMap celS) :: st4 p s.ver mp mr mc Mp Mr Mc L) w40 := h40
    exact St.sel (L := _ :: _ :: _ :: _) (St.tgO_put (x := (q', s.pools[j])) (h41.sel 4 [2, 3, 0, 1])) 3 [1, 2, 0]
  · rw [List.take_of_length_le (by omega)] at hxs
    exact k _ _ _ hxs (h.sel 4 [0, 1, 2])
set_option maxHeartbeats 2000000 in
theorem cfg_l2 {Kn : World → Prop} {Kp : List PanicEntry → World → Prop} {ka : Option Addr} {kc bc mp mr mc : Nat} {v0 : Int} {pa : Sl} {Mp : List (Cm.Bs × PV)} {Mr : List (Pr × Cm.Bs)} {Mc : List (Int × LV)} (S : Sz s) (hr : routesR Mr s.routes)
    (h : St E (blkL bc 30 (cfgL v0 (none, 0, 0) pa) :: rtA (none, 0, 0) [] :: ownS ka (s.routes.map plK).length kc 89 2 ((s.routes.map plK).flatMap celP) :: st4 p s.ver mp mr mc Mp Mr Mc L) w)
    (k : ∀ (w : World) (ra : Sl), St E (blkL bc 30 (cfgL v0 ra pa) :: rtA ra s.routes :: st4 p s.ver mp mr mc Mp Mr Mc L) w → Kn w) :
    T_conf_Store_Config_2 0 (some ⟨p, 0, none⟩) ⟨bc, 0, none⟩ ka (s.routes.map plK).length kc (((s.routes.map plK).length : Nat) : Int) w Kn Kp := by
  have hbig : big = 140737488355328 := rfl
  have hrn := S.rn
  unfold T_conf_Store_Config_2
  intro X hX
  refine up_to s.routes.length (Q := fun j => ∀ (w : World) (ra : Sl), St E (blkL bc 30 (cfgL v0 ra pa) :: rtA ra (s.routes.take j) :: ownS ka (s.routes.map plK).length kc 89 2 ((s.routes.map plK).flatMap celP) :: st4 p s.ver mp mr mc Mp Mr Mc L) w → X (j : Int) w) ?_ w (none, 0, 0) h
  intro j hj ih w ra h
  refine hX _ _ ?_
  unfold T_conf_Store_Config_2_body
  rw [List.length_map]
  refine ite_d (fun hc => ?_) (fun hc => ?_)
  · have hjl : j < s.routes.length := by omega
    obtain ⟨ad, ha, hrd⟩ := place_at (ks := s.routes.map plK) h.f2.rdS_own (j := j) (by simpa using hjl)
    rw [List.getElem_map] at hrd
    refine ⟨by omega, by omega, ad, ha, _, _, by rw [Int.toNat_natCast]; exact hrd, ?_⟩
    have hv := route_get hr h.f5.nodup (List.getElem_mem hjl)
    intro w8
    have h8 := h.alloc (.cells #[.string (ByteArray.mk #[]), .string (ByteArray.mk #[])] 89)
    refine ⟨rfl, wrOk_agg h8.at_blk (xs := celP (plK s.routes[j])) (by simp [celP]) (by intro u hu; simp [celP] at hu; rcases hu with rfl | rfl <;> rfl), ?_⟩
    intro w9 w10
    have h10 : St E (blkL w.heap.size 89 (celP (plK s.routes[j])) :: blkL bc 30 (cfgL v0 ra pa) :: rtA ra (s.routes.take j) :: ownS ka (s.routes.map plK).length kc 89 2 ((s.routes.map plK).flatMap celP) :: st4 p s.ver mp mr mc Mp Mr Mc L) w10 := (h8.wr_agg0 (xs := celP (plK s.routes[j])) rfl).drew
    clear_value w10
    clear h8
    clear_value w9 w8
    generalize w.heap.size = bk at *
    refine ⟨_, _, _, rd_fld h10.f1.at_blk rfl rfl, _, rd_cell h10.at_blk rfl rfl, _, rd_fld h10.at_blk rfl rfl, _, rfl, _, rd_fld h10.f4.at_blk rfl rfl, _, _, rd_agg (xs := celP (plK s.routes[j])) h10.at_blk (by intro i u hu; rw [Nat.zero_add]; exact hu), ?_⟩
    have h10m : St E (mapA mr encP encS Mr :: L) w10 := h10.sel 8 [6]
    refine runV_ok (look_route h10m hv) ⟨_, rfl, ⟨rd_fld h10.at_blk rfl rfl, rd_cell h10.at_blk rfl rfl, rd_fld h10.f1.at_blk rfl rfl, trivial⟩, ?_⟩
    intro w66
    have h66 := h10.alloc (.cells ⟨rcV s.routes[j]⟩ 36)
    refine ⟨⟨rd_fld h66.f2.at_blk rfl rfl, trivial⟩, ?_⟩
    obtain ⟨ra', w68, hr68, h68⟩ := app_rt1 (x := s.routes[j]) h10.f2 (by simp; omega)
    refine runV_ok hr68 ⟨_, _, _, rfl, trivial, rfl, wrOk_fld h68.f2.at_blk (by show 1 < 3; decide) rfl, ?_⟩
    intro w70
    have h70 := h68.f2.wr_fld (k := 1) (v := .slice ra'.1 ra'.2.1 ra'.2.2) rfl
    refine ⟨trivial, ?_⟩
    rw [succ_big (by omega)]
    refine ih hjl _ ra' ?_
    rw [List.take_succ_eq_append_getElem hjl]
    have h71 : St E (blkL bc 30 (cfgL v0 ra' pa) :: rtA ra' (s.routes.take j ++ [s.routes[j]]) :: blkL bk 89 (celP (plK s.routes[j])) :: ownS ka (s.routes.map plK).length kc 89 2 ((s.routes.map plK).flatMap celP) :: st4 p s.ver mp mr mc Mp Mr Mc L) w70 := h70
    exact h71.sel 3 [0, 1]
  · rw [List.take_of_length_le (by omega)] at h
    exact k _ _ (h.sel 3 [0, 1])
set_option maxHeartbeats 2000000 in
/-- (*Store).Config: the configuration, in new memory. -/
theorem Config_spec (hm : kn F ∈ L) (S : Sz s) (h : St E (stA F p s :: L) w)
    (k : ∀ (w' : World) (ra pa : Sl) (xs : List PlS), xs.map (·.2) = s.pools → St E (rtA ra s.routes :: plA pa xs :: tgO xs :: stA F p s :: L) w' → R (.returned (cfgV s.ver ra pa)) w') : Calls Tryz.prog 14 #[.pointer (some ⟨p, 0, none⟩)] w R := by
  obtain ⟨mp, mr, mc, Mp, Mr, Mc, hp, hr, hcl, h⟩ := h.st_open
  have hlp : Mp.length = s.pools.length := by have := hp.2.length_eq; simpa using this
  have hlr : Mr.length = s.routes.length := by have := List.Perm.length_eq hr; simpa using this
  have hpn := S.pn
  have hrn := S.rn
  refine C_conf_Store_Config ?_
  unfold T_conf_Store_Config
  intro w2
  have h2 := h.alloc (.cells #[.int .i64 0, .slice none 0 0, .slice none 0 0] 30)
  refine ite_some ⟨_, rfl, _, rd_cell h2.f1.at_blk rfl rfl, ?_⟩
  intro w9
  have h9 := h2.alloc (.cells #[.int .i64 0, .slice none 0 0, .slice none 0 0] 30)
  refine ⟨rfl, ok_cfg h9 rfl s.ver (none, 0, 0) (none, 0, 0), ?_⟩
  intro w10
  have h10 : St E (blkL w2.heap.size 30 (cfgL s.ver (none, 0, 0) (none, 0, 0)) :: blkL w.heap.size 30 (cfgL 0 (none, 0, 0) (none, 0, 0)) :: st4 p s.ver mp mr mc Mp Mr Mc L) w10 := h9.wr_cfg rfl _ _ _
  clear_value w10
  clear h9 h2
  clear_value w9 w2
  generalize w2.heap.size = bc at *
  generalize w.heap.size = br at *
  refine ⟨_, rfl, _, rd_fld h10.f2.at_blk rfl rfl, KeysS_spec h10 fun B w14 h14 => ⟨_, rfl, rfl, ?_⟩⟩
  refine SortedS_spec (ks := s.pools.map nmK) (L := blkL bc 30 (cfgL s.ver (none, 0, 0) (none, 0, 0)) :: blkL br 30 (cfgL 0 (none, 0, 0) (none, 0, 0)) :: blkL p 79 (stL s.ver mp mr mc) :: mapA mr encP encS Mr :: mapA mc encI lvV Mc :: L) (h14.sel 7 [0, 4, 1, 2, 3, 5, 6]) (by omega) (names_perm hp) (names_rise S.pr) fun ka kc w17 h17 => ⟨_, _, _, rfl, ?_⟩
  have h18 : St E (blkL bc 30 (cfgL s.ver (none, 0, 0) (none, 0, 0)) :: ownS ka (s.pools.map nmK).length kc 9 1 ((s.pools.map nmK).flatMap celS) :: st4 p s.ver mp mr mc Mp Mr Mc (blkL br 30 (cfgL 0 (none, 0, 0) (none, 0, 0)) :: L)) w17 := h17.sel 7 [2, 0, 4, 1, 5, 6, 3]
  refine cfg_l1 (List.mem_cons_of_mem _ hm) S hp (h18.tgO_nil.pl_nil.sel 4 [2, 0, 1, 3]) fun w41 pa xs hxs h41 => ?_
  refine sorted_spec (ks := s.routes.map plK) (L := blkL bc 30 (cfgL s.ver (none, 0, 0) pa) :: plA pa xs :: tgO xs :: mapA mp encS pvV Mp :: mapA mc encI lvV Mc :: blkL br 30 (cfgL 0 (none, 0, 0) (none, 0, 0)) :: L) (h41.sel 8 [3, 5, 0, 1, 2, 4, 6, 7]) (by omega) (places_perm hr) (places_rise S.rr) fun ka kc w43 h43 => ⟨_, _, _, rfl, ?_⟩
  have h44 : St E (blkL bc 30 (cfgL s.ver (none, 0, 0) pa) :: ownS ka (s.routes.map plK).length kc 89 2 ((s.routes.map plK).flatMap celP) :: st4 p s.ver mp mr mc Mp Mr Mc (plA pa xs :: tgO xs :: blkL br 30 (cfgL 0 (none, 0, 0) (none, 0, 0)) :: L)) w43 := h43.sel 9 [3, 0, 1, 6, 2, 7, 4, 5, 8]
  refine cfg_l2 S hr (h44.rt_nil.f1) fun w71 ra h71 => ?_
  refine ⟨_, _, _, _, _, _, _, rd_cfg h71, rfl, ok_cfg (h71.sel 9 [8]) rfl s.ver ra pa, ?_⟩
  intro w75
  have h75 := St.wr_cfg (h71.sel 9 [8, 1, 2, 3, 4, 5, 6, 7]) rfl s.ver ra pa
  refine ⟨_, _, _, _, _, _, _, rd_cfg h75, k _ ra pa xs hxs ?_⟩
  have h76 : St E (rtA ra s.routes :: st4 p s.ver mp mr mc Mp Mr Mc (plA pa xs :: tgO xs :: L)) w75 := h75.drop
  exact St.sel (L := stA F p s :: rtA ra s.routes :: plA pa xs :: tgO xs :: L) (St.st_mk hp hr hcl (h76.sel 5 [1, 2, 3, 4, 0])) 4 [1, 2, 3, 0]
/-- Nobody's store: a configuration without anything. -/
theorem Config_nil (h : St E L w) (k : ∀ w', St E L w' → R (.returned (cfgV 0 (none, 0, 0) (none, 0, 0))) w') : Calls Tryz.prog 14 #[.pointer none] w R := by
  refine C_conf_Store_Config ?_
  unfold T_conf_Store_Config
  intro w2
  have h2 := h.alloc (.cells #[.int .i64 0, .slice none 0 0, .slice none 0 0] 30)
  refine ite_none ⟨rfl, ok_cfg h2 rfl 0 (none, 0, 0) (none, 0, 0), ?_⟩
  intro w3
  have h3 := St.wr_cfg h2 rfl 0 (none, 0, 0) (none, 0, 0)
  exact ⟨_, _, _, _, _, _, _, rd_cfg h3, k _ h3.drop⟩
end
end Go.Vc
