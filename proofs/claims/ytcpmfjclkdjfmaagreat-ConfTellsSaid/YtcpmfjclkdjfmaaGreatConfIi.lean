/-
  The law ConfTells: the walk.
-/
import Derived.Test.YtcpmfjclkdjfmaaGreatConfHh
namespace Go.Vc
open Go Go.Proofs Go.Proofs.YtcpmfjclkdjfmaaGreat Go.RowKit
set_option maxRecDepth 100000
section
variable {E w : World} {L : List Asrt} {R : Ending → World → Prop} {F G : Fz} {s : Cm.Sm} {c : Cm.Cmd} {q : Sl} {p r : Nat} {h pf : Cm.Bs}
set_option maxHeartbeats 2000000 in
/-- play: both stores, at the same state, of a version no more than the commands done. -/
theorem playv_spec {a : Option Addr} {l cc : Nat} {ds : List (Cm.Cmd × Sl)} (hd : CmdsR F a l ds) (h : St E (kn F :: L) w)
    (k : ∀ (G : Fz) (p r : Nat) (s : Cm.Sm) (w' : World), Fz.le F G → Cm.Inv s → s.ver ≤ 150 → St E (stA G p s :: refA G r s :: kn G :: L) w' → R (.returned (.tuple #[.pointer (some ⟨p, 0, none⟩), .pointer (some ⟨r, 0, none⟩), .bool true])) w') :
    Calls Tryz.prog 13 #[.slice a l cc] w R := by
  refine C_law08_play ?_
  unfold T_law08_play
  refine New_spec F h fun p w3 h3 => ⟨_, rfl, RNew_spec F h3 fun r w6 h6 => ⟨_, rfl, ?_⟩⟩
  have n1 := hd.1.count cmdL_len (by decide) h6 at2
  unfold T_law08_play_1
  intro X hX
  refine up_to (min l 150) (Q := fun j => ∀ (w : World) (G : Fz) (s : Cm.Sm), Fz.le F G → Cm.Inv s → s.ver ≤ (j : Int) → St E (stA G p s :: refA G r s :: kn G :: L) w → X (j : Int) w) ?_ w6 F Cm.new (Fz.le_refl F) Cm.Inv.new (Int.le_refl 0) (h6.f1)
  intro j hj ih w G s hG I hver h
  refine hX _ _ ?_
  unfold T_law08_play_1_body T_law08_play_2
  refine ite_d (fun h1 => ?_) fun h1 => ite_b (fun hh => by cases hh) fun _ => k G p r s _ hG I (by omega) h
  refine ite_b (fun h2 => ?_) fun h2 => k G p r s _ hG I (by omega) h
  have h2 : (j : Int) < 150 := of_decide_eq_true h2
  have hjl : j < ds.length := by omega
  obtain ⟨hok, hrd⟩ := hd.2 _ (List.getElem_mem hjl)
  unfold T_law08_play_3
  intro w23
  have h23 : St E _ w23 := h.drew
  clear_value w23
  obtain ⟨ad, ha, hc⟩ := cmd_at ((RdF.mono hd.1 hG).at h23 at2) hjl
  rw [Int.toNat_natCast, succ_big (by unfold big; omega)]
  refine ⟨by omega, by omega, ad, ha, _, _, _, _, _, _, _, _, _, _, hc, short_spec h23 fun w34 h34 => ⟨_, rfl, trivial, ite_b (fun hs => ?_) fun hs => ⟨trivial, trivial, trivial, ite_b (fun hh => by cases hh) fun _ => ih (by omega) _ G s hG I (by omega) h34⟩⟩⟩
  obtain ⟨ad2, ha2, hc2⟩ := cmd_at ((RdF.mono hd.1 hG).at h34 at2) hjl
  rw [ha] at ha2
  injection ha2 with ha2
  subst ha2
  refine ⟨by omega, by omega, ad, ha, _, _, _, _, _, _, _, _, _, _, hc2, by omega, by omega, ad, ha, _, _, _, _, _, _, _, _, _, _, hc2, ?_⟩
  refine Do_spec (c := ds[j].1) (q := ds[j].2) (L := refA G r s :: L) I (RdF.mono hrd hG) hok (h34.sel 3 [0, 2, 1]) fun G1 w55 hG1 h55 => ⟨_, _, rfl, ⟨?_, trivial⟩, ?_⟩
  · obtain ⟨ad3, ha3, hc3⟩ := cmd_at ((RdF.mono hd.1 (Fz.le_trans hG hG1)).at h55 at1) hjl
    rw [ha] at ha3
    injection ha3 with ha3
    subst ha3
    exact hc3
  · refine RDo_spec (c := ds[j].1) (q := ds[j].2) (L := stA G1 p (Cm.doC s ds[j].1).1 :: L) I (RdF.mono hrd (Fz.le_trans hG hG1)) hok (St.rf_mono (h55.sel 3 [2, 1, 0]) hG1) fun G2 w59 hG2 h59 => ⟨_, _, rfl, trivial, ?_⟩
    refine runV_ok (res_ne _ _ _ _ _ _) ?_
    refine ⟨_, rfl, trivial, ?_⟩
    refine ite_b (fun hh => ?_) fun _ => ?_
    · simp at hh
    refine ih (by omega) _ G2 (Cm.doC s ds[j].1).1 (Fz.le_trans hG (Fz.le_trans hG1 hG2)) (Cm.doC_keeps I ds[j].1) (by have := doC_ver I ds[j].1; omega) ?_
    exact St.st_mono (h59.sel 3 [2, 0, 1]) hG2
set_option maxHeartbeats 8000000 in
theorem tells_walk {a : Option Addr} {l cc : Nat} {ds : List (Cm.Cmd × Sl)} (hd : CmdsR F a l ds) (h0 : St E (kn F :: L) w) (k : ∀ G w', Fz.le F G → St E (kn G :: L) w' → R (.returned (.bool true)) w') :
    Calls Tryz.prog 4 #[.slice a l cc, .string (bs h), .string (bs pf)] w R := by
  refine C_law08_ConfTells ?_
  unfold T_law08_ConfTells
  refine playv_spec hd h0 fun G1 p r s w5 hG1 I hver h5 => ⟨_, _, _, rfl, ?_⟩
  have h5 : St E (stA G1 p s :: kn G1 :: refA G1 r s :: L) w5 := h5.sel 3 [0, 2, 1]
  have early : ∀ w, St E (stA G1 p s :: kn G1 :: refA G1 r s :: L) w → T_law08_ConfTells_2 true w (fun b27 w28 => R (.returned (.bool b27)) w28) (pan R) := fun w h => by
    unfold T_law08_ConfTells_2
    refine ite_b (fun _ => live_spec h.f1 fun G2 w17 hG2 h17 => ⟨_, rfl, k G2 _ (Fz.le_trans hG1 hG2) (h17.sel 3 [0])⟩) fun hh => by cases hh
  unfold T_law08_ConfTells_1
  refine ite_n (fun hh => by cases hh) fun _ => ?_
  refine short_spec (c := ⟨0, 0, 0, 0, h, pf, [], []⟩) (q := (none, 0, 0)) h5 fun w13 h13 => ⟨_, rfl, ?_⟩
  refine ite_n (fun _ => early _ h13) fun hsh => ?_
  have hlen : h.length ≤ 1000 ∧ pf.length ≤ 1000 := by simpa [shortC] using hsh
  have hh1 : h.length ≤ huge := by unfold huge; omega
  have hh2 : pf.length ≤ huge := by unfold huge; omega
  refine pool_spec (n := [113]) h13.f1 fun G2 q2 w30 hG2 r2 h30 => ⟨_, _, _, _, _, _, _, _, _, _, rfl, ?_⟩
  have h30 : St E (stA G2 p s :: kn G2 :: refA G1 r s :: L) w30 := h30.f1.st_mono hG2
  refine Do_spec (c := poolC [113]) (q := q2) I r2 (ok_poolC (by simp [huge])) h30 fun G3 w40 hG3 h40 => ⟨_, _, rfl, ?_⟩
  have I1 := Cm.doC_keeps I (poolC [113])
  have hv1 := doC_ver I (poolC [113])
  generalize (Cm.doC s (poolC [113])).1 = s1 at *
  have S1 := Sz.of I1
  have hpn1 := I1.pn
  have hrn1 := I1.rn
  refine Config_kn S1 h40 fun G4 w44 ra pa hG4 hcf h44 => ⟨_, _, _, _, _, _, _, rfl, ?_⟩
  intro w48
  have h48 := h44.alloc (.cells ⟨cfgL 0 (none, 0, 0) (none, 0, 0)⟩ 30)
  refine ⟨rfl, ok_cfg h48 rfl s1.ver ra pa, ?_⟩
  intro w49
  have h49 : St E (blkL w44.heap.size 30 (cfgL s1.ver ra pa) :: stA G4 p s1 :: kn G4 :: refA G1 r s :: L) w49 := St.wr_cfg h48 rfl s1.ver ra pa
  clear_value w49
  clear h48
  clear_value w48
  generalize w44.heap.size = bw at *
  refine route_spec (hh := h) (p := pf) (t := [113]) h49 fun w51 h51 => ⟨_, _, _, _, _, _, _, _, _, _, rfl, ?_⟩
  refine Do_spec (c := routeC h pf [113]) (q := (none, 0, 0)) I1 (RdF.nil G4 none) (ok_routeC hh1 hh2 (by simp [huge])) (h51.sel 4 [1, 2, 0, 3]) fun G5 w61 hG5 h61 => ⟨_, _, rfl, ?_⟩
  have I2 := Cm.doC_keeps I1 (routeC h pf [113])
  have herr := doC_err (c := routeC h pf [113]) I1 rfl
  have h14 := doC_14 (c := routeC h pf [113]) I1 rfl
  have hput := doC_routed (h := h) (pf := pf) (s := s1)
  obtain ⟨e, he⟩ : ∃ e, (Cm.doC s1 (routeC h pf [113])).2.1 = e := ⟨_, rfl⟩
  obtain ⟨v, hv⟩ : ∃ v, (Cm.doC s1 (routeC h pf [113])).2.2 = v := ⟨_, rfl⟩
  obtain ⟨s2, hs2⟩ : ∃ s2, (Cm.doC s1 (routeC h pf [113])).1 = s2 := ⟨_, rfl⟩
  rw [hs2] at h61 I2 herr hput
  rw [he] at herr h14 hput
  rw [he, hv]
  intro w64
  have h64 := h61.alloc (.cells #[.int .i64 0, .int .i64 0] 45)
  refine ⟨rfl, ok_res h64 rfl e v, ?_⟩
  intro w65
  have h65 : St E (blkL w61.heap.size 45 (rsL e v) :: stA G5 p s2 :: kn G5 :: blkL bw 30 (cfgL s1.ver ra pa) :: refA G1 r s :: L) w65 := h64.wr_res rfl e v
  clear_value w65
  clear h64
  clear_value w64
  generalize w61.heap.size = br at *
  have hpn2 := I2.pn
  have hrn2 := I2.rn
  have S2 := Sz.of I2
  refine Config_kn S2 (h65.sel 5 [1, 2, 0, 3, 4]) fun G6 w67 ra2 pa2 hG6 hcf2 h67 => ⟨_, _, _, _, _, _, _, rfl, ?_⟩
  intro w71
  have h71 := h67.alloc (.cells ⟨cfgL 0 (none, 0, 0) (none, 0, 0)⟩ 30)
  refine ⟨rfl, ok_cfg h71 rfl s2.ver ra2 pa2, ?_⟩
  intro w72
  have h72 : St E (blkL w67.heap.size 30 (cfgL s2.ver ra2 pa2) :: stA G6 p s2 :: kn G6 :: blkL br 45 (rsL e v) :: blkL bw 30 (cfgL s1.ver ra pa) :: refA G1 r s :: L) w72 := St.wr_cfg h71 rfl s2.ver ra2 pa2
  clear_value w72
  clear h71
  clear_value w71
  generalize w67.heap.size = bn at *
  have l46 : Fz.le G4 G6 := Fz.le_trans hG5 hG6
  have l6 : Fz.le F G6 := Fz.le_trans hG1 (Fz.le_trans hG2 (Fz.le_trans hG3 (Fz.le_trans hG4 l46)))
  refine ⟨_, rd_cell h72.f3.at_blk rfl rfl, ite_b (fun hne => ?_) fun heq => ?_⟩
  · have hne : e ≠ 0 := by simpa using hne
    have hss := herr hne
    unfold T_law08_ConfTells_3
    refine live_spec h72.f2 fun G7 w80 hG7 h80 => ⟨_, rfl, ite_b (fun _ => ?_) fun hh => by cases hh⟩
    have l7 : Fz.le F G7 := Fz.le_trans l6 hG7
    refine ⟨_, _, _, _, _, _, _, rd_cfg h80.f1, _, _, _, _, _, _, _, rd_cfg h80.f4, ?_⟩
    refine SameConfig_spec (v1 := s2.ver) (v2 := s1.ver) at0 h80 (hcf2.mono hG7) (hcf.mono (Fz.le_trans l46 hG7)) (by omega) (by omega) (fun x hx => by have := (S2.pl x hx).2.1; unfold huge; omega) fun w89 h89 => ⟨_, rfl, ite_b (fun _ => ?_) fun hh => by rw [hss] at hh; simp at hh⟩
    refine ⟨_, rd_cell h89.f3.at_blk rfl rfl, ite_b (fun _ => k G7 _ l7 (h89.sel 6 [0])) fun h14' => ?_⟩
    have e14 : e = 14 := by simpa using h14'
    have hbad : (Cm.isHost h && Cm.isPfx pf) = false := by
      have := h14 e14
      rw [chk_route] at this
      cases hx : (Cm.isHost h && Cm.isPfx pf)
      · rfl
      · rw [hx] at this; simp at this
    refine Host_spec h89 hh1 fun w93 h93 => ⟨_, rfl, ite_n (fun _ => k G7 _ l7 (h93.sel 6 [0])) fun hhx => ?_⟩
    refine Prefix_spec h93 hh2 fun w96 h96 => ⟨_, rfl, congB (k G7 _ l7 (h96.sel 6 [0])) ?_⟩
    rw [hhx, Bool.true_and] at hbad
    rw [hbad]
    rfl
  · have heq : e = 0 := by simpa using heq
    obtain ⟨hho, hpf, hs2r⟩ := hput heq
    obtain ⟨rr, hcx⟩ := hcf
    obtain ⟨rr2, hcx2⟩ := hcf2
    have hver2 : s2.ver = s1.ver + 1 := by rw [hs2r]; rfl
    refine tells4_spec (h := h) (pf := pf) (rs := s1.routes) (rs2 := s2.routes) (L := stA G6 p s2 :: kn G6 :: blkL br 45 (rsL e v) :: refA G1 r s :: L) at1 (RdF.mono rr l46) rr2 (by omega) (by omega) (fun x hx ha => ?_) (fun x hx ha => ?_) (h72.sel 6 [0, 4, 1, 2, 3, 5]) fun w160 h160 => ?_
    · rw [hs2r] at hx
      rcases puR_mem hx with hx | hx
      · rw [hx]
      · rw [hx.2] at ha; cases ha
    · rw [hs2r] at hx
      rcases puR_mem hx with hx | hx
      · rw [hx, isAt_self] at ha; cases ha
      · exact hx.1
    have hcnt : s2.routes.countP (Cm.isAt h pf) = 1 := by rw [hs2r]; exact puR_count [113]
    have hkn : Cm.known s2 h pf = true := by rw [hs2r]; exact puR_known [113]
    have hd1 := doC_dropped I2 hho hpf hkn (by omega)
    rw [hcnt]
    refine Do_spec (c := drC h pf) (q := (none, 0, 0)) I2 (RdF.nil G6 none) (ok_drC hh1 hh2) (h160.sel 6 [2, 3, 0, 1, 4, 5]) fun G7 w162 hG7 h162 => ⟨_, _, rfl, ?_⟩
    have I3 := Cm.doC_keeps I2 (drC h pf)
    rw [hd1] at h162 I3 ⊢
    have I3 : Cm.Inv { s2 with routes := Cm.butRoute s2 h pf, ver := s2.ver + 1 } := I3
    have hbl := butR_length hcnt
    have hkn3 : Cm.known { s2 with routes := Cm.butRoute s2 h pf, ver := s2.ver + 1 } h pf = false := butR_known
    have hv3 : ({ s2 with routes := Cm.butRoute s2 h pf, ver := s2.ver + 1 } : Cm.Sm).ver ≠ 1099511627776 := by simp only; omega
    have hl3 : ({ s2 with routes := Cm.butRoute s2 h pf, ver := s2.ver + 1 } : Cm.Sm).routes.length = s2.routes.length - 1 := by simp only; omega
    have hpos : 1 ≤ s2.routes.length := by omega
    obtain ⟨s3, hs3⟩ : ∃ s3, ({ s2 with routes := Cm.butRoute s2 h pf, ver := s2.ver + 1 } : Cm.Sm) = s3 := ⟨_, rfl⟩
    have h162 : St E (stA G7 p { s2 with routes := Cm.butRoute s2 h pf, ver := s2.ver + 1 } :: kn G7 :: blkL bn 30 (cfgL s2.ver ra2 pa2) :: blkL bw 30 (cfgL s1.ver ra pa) :: blkL br 45 (rsL e v) :: refA G1 r s :: L) w162 := h162
    rw [hs3] at h162 I3 hkn3 hv3 hl3
    have hd2 := doC_gone hho hpf hkn3 hv3
    intro w165
    have h165 := h162.alloc (.cells #[.int .i64 0, .int .i64 0] 45)
    refine ⟨rfl, ok_res h165 rfl 0 (s2.ver + 1), ?_⟩
    intro w166
    have h166 : St E (blkL w162.heap.size 45 (rsL 0 (s2.ver + 1)) :: stA G7 p s3 :: kn G7 :: blkL bn 30 (cfgL s2.ver ra2 pa2) :: blkL bw 30 (cfgL s1.ver ra pa) :: blkL br 45 (rsL e v) :: refA G1 r s :: L) w166 := h165.wr_res rfl 0 (s2.ver + 1)
    clear_value w166
    clear h165
    clear_value w165
    generalize w162.heap.size = b1 at *
    refine Do_spec (c := drC h pf) (q := (none, 0, 0)) I3 (RdF.nil G7 none) (ok_drC hh1 hh2) (h166.sel 7 [1, 2, 0, 3, 4, 5, 6]) fun G8 w168 hG8 h168 => ⟨_, _, rfl, ?_⟩
    rw [hd2] at h168 ⊢
    intro w171
    have h171 := h168.alloc (.cells #[.int .i64 0, .int .i64 0] 45)
    refine ⟨rfl, ok_res h171 rfl 8 s3.ver, ?_⟩
    intro w172
    have h172 : St E (blkL w168.heap.size 45 (rsL 8 s3.ver) :: stA G8 p s3 :: kn G8 :: blkL b1 45 (rsL 0 (s2.ver + 1)) :: blkL bn 30 (cfgL s2.ver ra2 pa2) :: blkL bw 30 (cfgL s1.ver ra pa) :: blkL br 45 (rsL e v) :: refA G1 r s :: L) w172 := h171.wr_res rfl 8 s3.ver
    clear_value w172
    clear h171
    clear_value w171
    generalize w168.heap.size = b2 at *
    intro w173
    have h173 : St E _ w173 := h172.drew
    clear_value w173
    refine live_spec h173.f2 fun G9 w175 hG9 h175 => ⟨_, rfl, trivial, ite_b (fun _ => ?_) fun hh => by cases hh⟩
    refine ite_b (fun _ => ?_) fun hh => by simp at hh
    refine ⟨_, rd_cell h175.f3.at_blk rfl rfl, ite_b (fun _ => ?_) fun hh => by simp at hh⟩
    refine ⟨_, rd_cell h175.f1.at_blk rfl rfl, ite_b (fun _ => ?_) fun hh => by simp at hh⟩
    refine ⟨_, _, _, rd_fld h175.f4.at_blk rfl rfl, ?_⟩
    have h176 : St E (stA G9 p s3 :: kn G9 :: blkL b2 45 (rsL 8 s3.ver) :: blkL b1 45 (rsL 0 (s2.ver + 1)) :: blkL bn 30 (cfgL s2.ver ra2 pa2) :: L) w175 := (h175.sel 8 [2, 0, 1, 3, 4]).st_mono hG9
    have n2 := RdF.count (RdF.mono rr2 (Fz.le_trans hG7 (Fz.le_trans hG8 hG9))) rcV_len (by decide) h176 at1
    refine Config_kn (Sz.of I3) h176 fun G10 w181 ra3 pa3 hG10 hcf3 h181 => ⟨_, _, _, _, _, _, _, rfl, ⟨rd_fld h181.f4.at_blk rfl rfl, rd_cell h181.f2.at_blk rfl rfl, rd_cell h181.f3.at_blk rfl rfl, trivial⟩, ?_⟩
    have n3 := hcf3.1.count rcV_len (by decide) h181 at1
    refine congB (k G10 _ (Fz.le_trans l6 (Fz.le_trans hG7 (Fz.le_trans hG8 (Fz.le_trans hG9 hG10)))) (St.sel (L := stA G10 p s3 :: kn G10 :: blkL b2 45 (rsL 8 s3.ver) :: blkL b1 45 (rsL 0 (s2.ver + 1)) :: blkL bn 30 (cfgL s2.ver ra2 pa2) :: L) h181 5 [1])) ?_
    rw [← n2, ← n3, hl3, wrap_pred hpos (by omega)]
    simp
theorem tells_law {H : Type} {enc : TypeId × Value → H} {W : World} {a : Option Addr} {l c : Nat} {x y : ByteArray} {d : DataW H} {ps : List MemPlace} (h : DataW.Trod enc Tryz.prog W 0 (fun _ => true) true 22 (.slice a l c) d ps) :
    Calls Tryz.prog 4 #[.slice a l c, .string x, .string y] W fun e w' => e = .returned (.bool true) ∧ RowKit.Below W.heap.size W w' := by
  obtain ⟨ds, hd, _⟩ := open_cmds h
  rw [← bs_of x, ← bs_of y]
  exact tells_walk hd (St.start_kn W) fun G w' hG h' => ⟨rfl, h'.below_kn hG⟩
end
end Go.Vc
