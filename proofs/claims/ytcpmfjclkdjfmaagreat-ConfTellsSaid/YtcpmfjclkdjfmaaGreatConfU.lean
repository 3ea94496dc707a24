/-
  The commands that the statements make themselves; what must be whatever is asked.
-/
import Derived.Test.YtcpmfjclkdjfmaaGreatConfT
import Derived.Test.YtcpmfjclkdjfmaaGreatGd
namespace Go.Vc
open Go Go.Proofs Go.Proofs.YtcpmfjclkdjfmaaGreat
set_option maxRecDepth 100000
section
variable {E w : World} {L : List Asrt} {R : Ending → World → Prop} {F G : Fz}
def tgt1 : Cm.Tgt := ⟨[116], 4607182418800017408⟩
def poolC (n : Cm.Bs) : Cm.Cmd := ⟨1, 0, 0, -1, [], [], n, [tgt1]⟩
def routeC (h p t : Cm.Bs) : Cm.Cmd := ⟨3, 0, 0, -1, h, p, t, []⟩
def dropC (n : Cm.Bs) : Cm.Cmd := ⟨2, 0, 0, -1, [], [], n, []⟩
theorem ok_poolC {n : Cm.Bs} (h : n.length ≤ huge) : okC (poolC n) := ⟨Nat.zero_le _, Nat.zero_le _, h, by simp [poolC, huge], fun t ht => by
  simp [poolC] at ht
  subst ht
  exact ⟨by simp [tgt1, huge], by simp [tgt1, two64]⟩⟩
theorem ok_routeC {h p t : Cm.Bs} (h1 : h.length ≤ huge) (h2 : p.length ≤ huge) (h3 : t.length ≤ huge) : okC (routeC h p t) := ⟨h1, h2, h3, Nat.zero_le _, fun t ht => by simp [routeC] at ht⟩
theorem ok_dropC {n : Cm.Bs} (h : n.length ≤ huge) : okC (dropC n) := ⟨Nat.zero_le _, Nat.zero_le _, h, Nat.zero_le _, fun t ht => by simp [dropC] at ht⟩
theorem St.wr_cmd {b t : Nat} {l : List Value} (h : St E (blkL b t l :: L) w) (hl : l.length = 8) (c : Cm.Cmd) (q : Sl) : St E (blkL b t (cmdL c q) :: L) (wr w ⟨b, 0, none⟩ (cmdV c q)) := h.wr_agg0 (xs := cmdL c q) (by rw [hl]; rfl)
theorem ok_cmd {b t : Nat} {l : List Value} (h : St E (blkL b t l :: L) w) (hl : l.length = 8) (c : Cm.Cmd) (q : Sl) : wrOk w ⟨b, 0, none⟩ (cmdV c q) := wrOk_agg h.at_blk (xs := cmdL c q) (by rw [hl]; exact Nat.le_refl 8) (one_cmdL c q)
theorem pool_spec {n : Cm.Bs} (h : St E (kn F :: L) w) (k : ∀ G (q : Sl) w', Fz.le F G → RdF G q.1 q.2.1 2 ((poolC n).tg.flatMap tV) → St E (kn G :: L) w' → R (.returned (cmdV (poolC n) q)) w') : Calls Tryz.prog 18 #[.string (bs n)] w R := by
  refine C_law08_pool ?_
  unfold T_law08_pool
  intro w2
  have h2 : St E (blkL w.heap.size 42 (cmdL zeroC (none, 0, 0)) :: kn F :: L) w2 := h.alloc _
  intro w3
  have h3 : St E (tgA (some ⟨w2.heap.size, 0, none⟩, 1, 1) [tgt1] :: blkL w.heap.size 42 (cmdL zeroC (none, 0, 0)) :: kn F :: L) w3 := (St.ownS_mk (xs := [tgt1].flatMap tV) (rest := []) (l := 1) (c := 1) (sz := 2) (h2.alloc _) rfl (Nat.le_refl _) (by decide) rfl :)
  refine ⟨rfl, ok_cmd h3.f1 rfl (poolC n) (some ⟨w2.heap.size, 0, none⟩, 1, 1), ?_⟩
  intro w4
  have h4 := St.wr_cmd h3.f1 rfl (poolC n) (some ⟨w2.heap.size, 0, none⟩, 1, 1)
  obtain ⟨G, hG, h5, hr⟩ := St.freezeT (h4.sel 3 [1, 2])
  exact ⟨_, _, _, _, _, _, _, _, _, _, rd_cmd h4, k G (some ⟨w2.heap.size, 0, none⟩, 1, 1) _ hG hr h5⟩
theorem route_spec {hh p t : Cm.Bs} (h : St E L w) (k : ∀ w', St E L w' → R (.returned (cmdV (routeC hh p t) (none, 0, 0))) w') : Calls Tryz.prog 19 #[.string (bs hh), .string (bs p), .string (bs t)] w R := by
  refine C_law08_route ?_
  unfold T_law08_route
  intro w4
  have h4 : St E (blkL w.heap.size 42 (cmdL zeroC (none, 0, 0)) :: L) w4 := h.alloc _
  refine ⟨rfl, ok_cmd h4 rfl (routeC hh p t) (none, 0, 0), ?_⟩
  intro w5
  have h5 := St.wr_cmd h4 rfl (routeC hh p t) (none, 0, 0)
  exact ⟨_, _, _, _, _, _, _, _, _, _, rd_cmd h5, k _ h5.drop⟩
def live1 : Cm.Sm := ⟨1, [], [⟨[97], [tgt1]⟩], []⟩
def live2 : Cm.Sm := ⟨2, [⟨[120, 46, 121], [47], [97]⟩], [⟨[97], [tgt1]⟩], []⟩
theorem do_live1 : Cm.doC Cm.new (poolC [97]) = (live1, 0, 1) := by kernel_rfl
theorem do_live2 : Cm.doC live1 (routeC [120, 46, 121] [47] [97]) = (live2, 0, 2) := by kernel_rfl
theorem do_live3 : Cm.doC live2 (dropC [97]) = (live2, 13, 2) := by kernel_rfl
theorem inv1 : Cm.Inv live1 := by have := Cm.doC_keeps Cm.Inv.new (poolC [97]); rwa [do_live1] at this
theorem inv2 : Cm.Inv live2 := by have := Cm.doC_keeps inv1 (routeC [120, 46, 121] [47] [97]); rwa [do_live2] at this
set_option maxHeartbeats 4000000 in
/-- live: it is true. -/
theorem live_spec (h : St E (kn F :: L) w) (k : ∀ G w', Fz.le F G → St E (kn G :: L) w' → R (.returned (.bool true)) w') : Calls Tryz.prog 15 #[] w R := by
  refine C_law08_live ?_
  unfold T_law08_live
  refine New_spec F h fun p w2 h2 => ⟨_, rfl, ?_⟩
  refine pool_spec (n := [97]) h2.f1 fun G1 q1 w5 k1 r1 h5 => ⟨_, _, _, _, _, _, _, _, _, _, rfl, ?_⟩
  refine Do_spec (c := poolC [97]) (q := q1) Cm.Inv.new r1 (ok_poolC (by simp [huge])) (h5.f1.st_mono k1) fun G2 w15 k2 h15 => ?_
  rw [do_live1] at h15 ⊢
  refine ⟨_, _, rfl, ?_⟩
  intro w18
  have h18 := h15.alloc (.cells #[.int .i64 0, .int .i64 0] 45)
  refine ⟨rfl, ok_res h18 rfl 0 1, ?_⟩
  intro w19
  have h19 : St E (blkL w15.heap.size 45 (rsL 0 1) :: stA G2 p live1 :: kn G2 :: L) w19 := h18.wr_res rfl 0 1
  clear h18
  clear_value w19 w18
  generalize w15.heap.size = b1 at *
  refine route_spec (hh := [120, 46, 121]) (p := [47]) (t := [97]) h19 fun w21 h21 => ⟨_, _, _, _, _, _, _, _, _, _, rfl, ?_⟩
  refine Do_spec (c := routeC [120, 46, 121] [47] [97]) (q := (none, 0, 0)) inv1 (RdF.nil G2 none) (ok_routeC (by simp [huge]) (by simp [huge]) (by simp [huge])) (h21.sel 3 [1, 2, 0]) fun G3 w31 k3 h31 => ?_
  rw [do_live2] at h31 ⊢
  refine ⟨_, _, rfl, ?_⟩
  intro w34
  have h34 := h31.alloc (.cells #[.int .i64 0, .int .i64 0] 45)
  refine ⟨rfl, ok_res h34 rfl 0 2, ?_⟩
  intro w35
  have h35 : St E (blkL w31.heap.size 45 (rsL 0 2) :: stA G3 p live2 :: kn G3 :: blkL b1 45 (rsL 0 1) :: L) w35 := h34.wr_res rfl 0 2
  clear h34
  clear_value w35 w34
  generalize w31.heap.size = b2 at *
  refine Do_spec (c := dropC [97]) (q := (none, 0, 0)) inv2 (RdF.nil G3 none) (ok_dropC (by simp [huge])) (h35.sel 4 [1, 2, 0, 3]) fun G4 w37 k4 h37 => ?_
  rw [do_live3] at h37 ⊢
  refine ⟨_, _, rfl, ?_⟩
  intro w40
  have h40 := h37.alloc (.cells #[.int .i64 0, .int .i64 0] 45)
  refine ⟨rfl, ok_res h40 rfl 13 2, ?_⟩
  intro w41
  have h41 : St E (blkL w37.heap.size 45 (rsL 13 2) :: stA G4 p live2 :: kn G4 :: blkL b2 45 (rsL 0 2) :: blkL b1 45 (rsL 0 1) :: L) w41 := h40.wr_res rfl 13 2
  clear h40
  clear_value w41 w40
  generalize w37.heap.size = b3 at *
  refine Config_spec (F := G4) at1 (Sz.of inv2) (h41.sel 3 [1, 0, 2]) fun w43 ra pa xs hxs h43 => ⟨_, _, _, _, _, _, _, rfl, ?_⟩
  intro w47
  have h47 := h43.alloc (.cells #[.int .i64 0, .slice none 0 0, .slice none 0 0] 30)
  refine ⟨rfl, ok_cfg h47 rfl 2 ra pa, ?_⟩
  intro w48
  have h48 : St E (blkL w43.heap.size 30 (cfgL 2 ra pa) :: rtA ra live2.routes :: plA pa xs :: tgO xs :: stA G4 p live2 :: blkL b3 45 (rsL 13 2) :: kn G4 :: blkL b2 45 (rsL 0 2) :: blkL b1 45 (rsL 0 1) :: L) w48 := St.wr_cfg h47 rfl 2 ra pa
  clear h47
  clear_value w48 w47
  generalize w43.heap.size = bc at *
  have hb1 : St E (blkL b1 45 (rsL 0 1) :: L) w48 := h48.sel 9 [8]
  have hb2 : St E (blkL b2 45 (rsL 0 2) :: L) w48 := h48.sel 9 [7]
  have hb3 : St E (blkL b3 45 (rsL 13 2) :: L) w48 := h48.sel 9 [5]
  have hpl := St.pl_len h48.f2
  have hrt := St.rt_len h48.f1
  have hx1 : xs.length = 1 := by have := congrArg List.length hxs; simpa [live2] using this
  have hr1 : live2.routes.length = 1 := rfl
  refine ⟨_, _, rd_res hb1, runV_ok (res_eq _ _ 0 1 0 1) ⟨_, rfl, ite_b (fun _ => ?_) fun hh => by simp at hh⟩⟩
  refine ⟨_, _, rd_res hb2, runV_ok (res_eq _ _ 0 2 0 2) ⟨_, rfl, ite_b (fun _ => ?_) fun hh => by simp at hh⟩⟩
  refine ⟨_, _, rd_res hb3, runV_ok (res_eq _ _ 13 2 13 2) ⟨_, rfl, ite_b (fun _ => ?_) fun hh => by simp at hh⟩⟩
  refine ⟨_, rd_cell h48.at_blk rfl rfl, ite_b (fun _ => ?_) fun hh => by simp at hh⟩
  refine ⟨_, _, _, rd_fld h48.at_blk rfl rfl, ite_b (fun _ => ?_) fun hh => by rw [← hpl, hx1] at hh; simp at hh⟩
  refine ⟨_, _, _, rd_fld h48.at_blk rfl rfl, ite_b (fun _ => ?_) fun hh => by rw [← hrt, hr1] at hh; simp at hh⟩
  obtain ⟨ad, ha, _, hk⟩ := rt_at (h48.f1).rdS_own (j := 0) (by rw [hr1]; decide)
  refine ⟨_, _, _, rd_fld h48.at_blk rfl rfl, by decide, by rw [← hrt, hr1]; decide, ad, ha, _, hk 2 _ rfl rfl, ?_⟩
  rw [show (ByteArray.mk #[97]) = bs [97] from rfl, str_beq]
  exact k G4 _ (Fz.le_trans k1 (Fz.le_trans k2 (Fz.le_trans k3 k4))) (h48.sel 9 [6])
end
end Go.Vc
