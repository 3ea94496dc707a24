/-
  The law ConfOnce.
-/
import Derived.Test.YtcpmfjclkdjfmaaGreatConfCk
import Derived.Test.YtcpmfjclkdjfmaaGreatGOnce
namespace Go.Vc
open Go Go.Proofs Go.Proofs.YtcpmfjclkdjfmaaGreat Go.RowKit
set_option maxRecDepth 100000
section
variable {E w : World} {L : List Asrt} {R : Ending → World → Prop} {F G : Fz} {s : Cm.Sm} {c : Cm.Cmd} {q : Sl} {p : Nat}
theorem doC_l0 (I : Cm.Inv s) (hcl : c.client = 0) : (Cm.doC s c).1.l = s.l := by
  unfold Cm.doC
  by_cases h : Cm.chk c = 0
  · rw [if_neg (by simpa using h), if_neg (fun hx => by omega), if_neg (fun hx => by omega)]
    simp only
    rw [if_neg (by omega)]
    exact (Cm.step_keeps I h).2.2.1
  · rw [if_pos h]
theorem seen_l {s s' : Cm.Sm} (h : s.l = s'.l) (k : Int) : Cm.seenC s k = Cm.seenC s' k := by unfold Cm.seenC; rw [h]
theorem doC_again {e v : Int} (hc : Cm.chk c = 0) (h0 : 0 < c.client) (hs : Cm.seenC s c.client = (c.seq, e, v)) : Cm.doC s c = (s, e, v) := by
  unfold Cm.doC
  rw [if_neg (by simpa using hc), if_pos ⟨h0, by rw [hs]⟩, hs]
theorem seen_note (I : Cm.Inv s) (x : Cm.Last) : Cm.seenC (Cm.note s x) x.client = (x.seq, x.e, x.ver) := by
  have hr : Cm.rises Cm.laLt (Cm.note s x).l = true := Cm.put_rises Cm.laOrd I.lr x
  have hm : x ∈ (Cm.note s x).l := (Cm.put_perm Cm.laOrd s.l x).mem_iff.2 List.mem_cons_self
  exact seen_at (s := Cm.note s x) hr rfl hm
theorem doC_told (I : Cm.Inv s) (hc : Cm.chk c = 0) (h0 : 0 < c.client) (hn : ¬ c.seq < (Cm.seenC s c.client).1) : Cm.seenC (Cm.doC s c).1 c.client = (c.seq, (Cm.doC s c).2.1, (Cm.doC s c).2.2) := by
  by_cases he : c.seq = (Cm.seenC s c.client).1
  · have : Cm.seenC s c.client = (c.seq, (Cm.seenC s c.client).2.1, (Cm.seenC s c.client).2.2) := by rw [he]
    rw [doC_again hc h0 this]
    exact this
  · have hd : Cm.doC s c = (Cm.note { (Cm.step s c).1 with ver := Cm.vers (Cm.step s c) } ⟨c.client, c.seq, (Cm.step s c).2, Cm.vers (Cm.step s c)⟩, (Cm.step s c).2, Cm.vers (Cm.step s c)) := by
      unfold Cm.doC
      rw [if_neg (by simpa using hc), if_neg (fun hx => he hx.2), if_neg (fun hx => hn hx.2)]
      simp only
      rw [if_pos h0]
    rw [hd]
    obtain ⟨J, hv, _⟩ := Cm.step_keeps I hc
    obtain ⟨v1, v2, _⟩ := Cm.vers_ok I hc
    exact seen_note (J.up (by omega) (by omega)) ⟨c.client, c.seq, (Cm.step s c).2, Cm.vers (Cm.step s c)⟩
theorem doC_old (hc : Cm.chk c = 0) (h0 : 0 < c.client) (hn : c.seq < (Cm.seenC s c.client).1) : (Cm.doC s c).2.1 = 12 := by
  unfold Cm.doC
  rw [if_neg (by simpa using hc), if_neg (fun hx => by omega), if_pos ⟨h0, hn⟩]
/-- What lies there while the command is done again and again. -/
abbrev onL (bc br bw p : Nat) (c : Cm.Cmd) (q : Sl) (e v : Int) (wv : Int) (ra pa : Sl) (G : Fz) (s : Cm.Sm) (L : List Asrt) : List Asrt :=
  stA G p s :: kn G :: blkL bc 42 (cmdL c q) :: blkL br 45 (rsL e v) :: blkL bw 30 (cfgL wv ra pa) :: L
set_option maxHeartbeats 4000000 in
theorem once4_spec {Kn : World → Prop} {Kr : Bool → World → Prop} {Kp : List PanicEntry → World → Prop} {bc br bw : Nat} {e v wv t : Int} {ra pa : Sl} (ht : 0 ≤ t ∧ t ≤ 255) (I : Cm.Inv s) (hc : Cm.chk c = 0) (h0 : 0 < c.client) (ho : okC c) (hr : RdF F q.1 q.2.1 2 (c.tg.flatMap tV))
    (hs : Cm.seenC s c.client = (c.seq, e, v)) (h : St E (onL bc br bw p c q e v wv ra pa F s L) w)
    (k : ∀ (G : Fz) (s' : Cm.Sm) (wv' : Int) (ra' pa' : Sl) (w' : World), Fz.le F G → Cm.Inv s' → Cm.seenC s' c.client = (c.seq, e, v) → St E (onL bc br bw p c q e v wv' ra' pa' G s' L) w' → Kn w') :
    T_law08_ConfOnce_4 0 t ⟨bc, 0, none⟩ (some ⟨p, 0, none⟩) ⟨br, 0, none⟩ ⟨bw, 0, none⟩ w Kn Kr Kp := by
  have hwt : IntKind.wrap .i64 t = t := wrap_id (by omega) (by omega)
  obtain ⟨n, hn⟩ : ∃ n : Nat, t.tmod 8 = (n : Int) := ⟨(t.tmod 8).toNat, by have := Int.tmod_nonneg 8 ht.1; omega⟩
  have hn8 : n < 8 := by have := Int.tmod_lt_of_pos t (show (0 : Int) < 8 by decide); omega
  unfold T_law08_ConfOnce_4
  intro X hX
  refine up_to n (Q := fun j => ∀ (w : World) (G : Fz) (s : Cm.Sm) (wv : Int) (ra pa : Sl), Fz.le F G → Cm.Inv s → Cm.seenC s c.client = (c.seq, e, v) → St E (onL bc br bw p c q e v wv ra pa G s L) w → X (j : Int) w) ?_ w F s wv ra pa (Fz.le_refl F) I hs h
  intro j hj ih w G s wv ra pa hG I hs h
  refine hX _ _ ?_
  unfold T_law08_ConfOnce_4_body
  rw [hwt, hn]
  refine ite_d (fun hlt => ?_) fun _ => k G s wv ra pa w hG I hs h
  refine pool_spec (n := [98]) h.f1 fun G1 q1 w103 hG1 r1 h103 => ⟨_, _, _, _, _, _, _, _, _, _, rfl, ?_⟩
  have h104 : St E (stA G1 p s :: kn G1 :: blkL bc 42 (cmdL c q) :: blkL br 45 (rsL e v) :: blkL bw 30 (cfgL wv ra pa) :: L) w103 := h103.f1.st_mono hG1
  refine Do_spec (c := poolC [98]) (q := q1) I r1 (ok_poolC (by simp [huge])) h104 fun G2 w113 hG2 h113 => ⟨_, _, rfl, ?_⟩
  have I2 := Cm.doC_keeps I (poolC [98])
  have hs2 : Cm.seenC (Cm.doC s (poolC [98])).1 c.client = (c.seq, e, v) := by rw [seen_l (doC_l0 I rfl)]; exact hs
  generalize (Cm.doC s (poolC [98])).1 = s2 at *
  have S2 := Sz.of I2
  refine Config_kn S2 h113 fun G3 w117 ra3 pa3 hG3 hcf3 h117 => ⟨_, _, _, _, _, _, _, rfl, rfl, ok_cfg h117.f4 rfl s2.ver ra3 pa3, ?_⟩
  intro w121
  have h121 : St E (onL bc br bw p c q e v s2.ver ra3 pa3 G3 s2 L) w121 := St.sel (L := _ :: _ :: _ :: _ :: _ :: L) (St.wr_cfg h117.f4 rfl s2.ver ra3 pa3) 5 [1, 2, 3, 4, 0]
  intro w122
  have h122 : St E _ w122 := h121.drew
  clear_value w122
  have l3 : Fz.le F G3 := Fz.le_trans hG (Fz.le_trans hG1 (Fz.le_trans hG2 hG3))
  refine ⟨_, _, _, _, _, _, _, _, _, _, rd_cmd h122.f2, _, _, rd_res h122.f3, ?_⟩
  refine Do_spec (c := c) (q := q) I2 (RdF.mono hr l3) ho h122 fun G4 w134 hG4 h134 => ?_
  rw [doC_again hc h0 hs2] at h134 ⊢
  refine ⟨_, _, rfl, ⟨rd_res h134.f3, trivial⟩, ?_⟩
  refine runV_ok (res_ne _ _ _ _ _ _) ?_
  refine ⟨_, rfl, trivial, ?_⟩
  refine ite_b (fun hh => ?_) fun _ => ?_
  · simp at hh
  intro w140
  have h140 : St E (onL bc br bw p c q e v s2.ver ra3 pa3 G4 s2 L) w140 := h134.drew
  clear_value w140
  refine ⟨_, _, _, _, _, _, _, rd_cfg h140.f4, ?_⟩
  refine Config_kn S2 h140 fun G5 w145 ra5 pa5 hG5 hcf5 h145 => ⟨_, _, _, _, _, _, _, rfl, ⟨rd_cfg h145.f4, trivial⟩, ?_⟩
  refine SameConfig_spec (v1 := s2.ver) (v2 := s2.ver) at1 h145 hcf5 (hcf3.mono (Fz.le_trans hG4 hG5)) (by have := I2.pn; omega) (by have := I2.rn; omega) (fun x hx => by have := (S2.pl x hx).2.1; unfold huge; omega) fun w150 h150 => ⟨_, rfl, trivial, ite_n (fun hh => by simp at hh) fun _ => ?_⟩
  rw [succ_big (by unfold big; omega)]
  exact ih (by omega) _ G5 s2 s2.ver ra3 pa3 (Fz.le_trans l3 (Fz.le_trans hG4 hG5)) I2 hs2 h150
set_option maxHeartbeats 8000000 in
theorem once_walk {a : Option Addr} {l cc : Nat} {ds : List (Cm.Cmd × Sl)} {t : Int} (ht : 0 ≤ t ∧ t ≤ 255) (hd : CmdsR F a l ds) (ho : okC c) (hr : RdF F q.1 q.2.1 2 (c.tg.flatMap tV)) (h : St E (kn F :: L) w) (k : ∀ G w', Fz.le F G → St E (kn G :: L) w' → R (.returned (.bool true)) w') :
    Calls Tryz.prog 5 #[.slice a l cc, cmdV c q, .int .u8 t] w R := by
  refine C_law08_ConfOnce ?_
  unfold T_law08_ConfOnce
  intro w11
  have h11 : St E (blkL w.heap.size 42 (cmdL c q) :: kn F :: L) w11 := h.alloc _
  clear_value w11
  generalize w.heap.size = bc at *
  refine play_spec hd h11.f1 fun G1 p r s w13 hG1 I h13 => ⟨_, _, _, rfl, ?_⟩
  have h13 : St E (stA G1 p s :: kn G1 :: blkL bc 42 (cmdL c q) :: refA G1 r s :: L) w13 := h13.sel 4 [0, 2, 3, 1]
  have early : ∀ w, St E (stA G1 p s :: kn G1 :: blkL bc 42 (cmdL c q) :: refA G1 r s :: L) w → T_law08_ConfOnce_2 true w (fun b54 w55 => R (.returned (.bool b54)) w55) (pan R) := fun w h => by
    unfold T_law08_ConfOnce_2
    refine ite_b (fun _ => live_spec h.f1 fun G2 w17 hG2 h17 => ⟨_, rfl, k G2 _ (Fz.le_trans hG1 hG2) (h17.sel 4 [0])⟩) fun hh => by cases hh
  have early2 : ∀ w {B : Prop}, St E (stA G1 p s :: kn G1 :: blkL bc 42 (cmdL c q) :: refA G1 r s :: L) w → if true = true then (T_law08_ConfOnce_2 true w (fun b54 w55 => R (.returned (.bool b54)) w55) (pan R)) else B := fun w B h => ite_b (fun _ => early w h) fun hh => by cases hh
  unfold T_law08_ConfOnce_1
  refine ite_n (fun hh => by cases hh) fun _ => ⟨_, _, _, _, _, _, _, _, _, _, rd_cmd h13.f2, short_spec h13 fun w28 h28 => ⟨_, rfl, ite_n (fun _ => early2 _ h28) fun hsh => ?_⟩⟩
  refine ⟨_, _, _, _, _, _, _, _, _, _, rd_cmd h28.f2, Check_spec at1 h28 (RdF.mono hr hG1) ho fun w39 h39 => ⟨_, rfl, ite_b (fun _ => early2 _ h39) fun hc => ?_⟩⟩
  have hc : Cm.chk c = 0 := by simpa using hc
  refine ⟨_, rd_fld h39.f2.at_blk rfl rfl, ite_b (fun _ => ?_) fun hcl => ?_⟩
  · exact early _ h39
  have hcl : c.client ≠ 0 := by simpa using hcl
  have h0 : 0 < c.client := by have := (Cm.chk_fine hc).cl; omega
  have S := Sz.of I
  refine ⟨_, rd_fld h39.f2.at_blk rfl rfl, Seen_spec h39 fun w58 h58 => ⟨_, _, _, rfl, ?_⟩⟩
  intro w62
  have h62 := h58.alloc (.cells #[.int .i64 0, .int .i64 0] 45)
  refine ⟨rfl, ok_res h62 rfl _ _, ?_⟩
  intro w63
  have h63 : St E (blkL w58.heap.size 45 (rsL (Cm.seenC s c.client).2.1 (Cm.seenC s c.client).2.2) :: stA G1 p s :: kn G1 :: blkL bc 42 (cmdL c q) :: refA G1 r s :: L) w63 := h62.wr_res rfl _ _
  clear_value w63
  clear h62
  clear_value w62
  have h64 : St E (stA G1 p s :: kn G1 :: blkL bc 42 (cmdL c q) :: refA G1 r s :: L) w63 := h63.drop
  refine ⟨_, _, _, _, _, _, _, _, _, _, rd_cmd h64.f2, ?_⟩
  refine Do_spec (c := c) (q := q) I (RdF.mono hr hG1) ho h64 fun G2 w73 hG2 h73 => ⟨_, _, rfl, ?_⟩
  have I2 := Cm.doC_keeps I c
  have l2 := Fz.le_trans hG1 hG2
  obtain ⟨e, he⟩ : ∃ e, (Cm.doC s c).2.1 = e := ⟨_, rfl⟩
  obtain ⟨v, hv⟩ : ∃ v, (Cm.doC s c).2.2 = v := ⟨_, rfl⟩
  obtain ⟨s2, hs2⟩ : ∃ s2, (Cm.doC s c).1 = s2 := ⟨_, rfl⟩
  rw [hs2] at h73 I2
  rw [he, hv]
  intro w76
  have h76 := h73.alloc (.cells #[.int .i64 0, .int .i64 0] 45)
  refine ⟨rfl, ok_res h76 rfl e v, ?_⟩
  intro w77
  have h77 : St E (blkL w73.heap.size 45 (rsL e v) :: stA G2 p s2 :: kn G2 :: blkL bc 42 (cmdL c q) :: refA G1 r s :: L) w77 := h76.wr_res rfl e v
  clear_value w77
  clear h76
  clear_value w76
  generalize w73.heap.size = br at *
  have S2 := Sz.of I2
  refine Config_kn S2 (h77.sel 5 [1, 2, 0, 3, 4]) fun G3 w79 ra3 pa3 hG3 hcf3 h79 => ⟨_, _, _, _, _, _, _, rfl, ?_⟩
  intro w83
  have h83 := h79.alloc (.cells ⟨cfgL 0 (none, 0, 0) (none, 0, 0)⟩ 30)
  refine ⟨rfl, ok_cfg h83 rfl s2.ver ra3 pa3, ?_⟩
  intro w84
  have h84 : St E (blkL w79.heap.size 30 (cfgL s2.ver ra3 pa3) :: stA G3 p s2 :: kn G3 :: blkL br 45 (rsL e v) :: blkL bc 42 (cmdL c q) :: refA G1 r s :: L) w84 := St.wr_cfg h83 rfl s2.ver ra3 pa3
  clear_value w84
  clear h83
  clear_value w83
  generalize w79.heap.size = bw at *
  have l3 := Fz.le_trans l2 hG3
  refine ⟨_, rd_fld h84.f4.at_blk rfl rfl, ite_d (fun hlt => ?_) fun hnl => ?_⟩
  · have h12 : e = 12 := by rw [← he]; exact doC_old hc h0 hlt
    unfold T_law08_ConfOnce_3
    refine live_spec (h84.f2) fun G4 w88 hG4 h88 => ⟨_, rfl, ite_b (fun _ => ⟨_, rd_cell h88.f3.at_blk rfl rfl, congB (k G4 _ (Fz.le_trans l3 hG4) (h88.sel 6 [0])) (by rw [h12]; rfl)⟩) fun hh => by cases hh⟩
  · have hseen : Cm.seenC s2 c.client = (c.seq, e, v) := by
      have := doC_told I hc h0 hnl
      rw [hs2, he, hv] at this
      exact this
    refine once4_spec (L := refA G1 r s :: L) ht I2 hc h0 ho (RdF.mono hr l3) hseen (St.sel h84 6 [1, 2, 4, 3, 0, 5]) fun G4 s4 wv4 ra4 pa4 w156 hG4 I4 hs4 h156 => ?_
    refine ⟨_, rd_fld h156.f2.at_blk rfl rfl, Seen_spec h156 fun w159 h159 => ?_⟩
    rw [hs4]
    refine ⟨_, _, _, rfl, ?_⟩
    intro w163
    have h163 := h159.alloc (.cells #[.int .i64 0, .int .i64 0] 45)
    refine ⟨rfl, ok_res h163 rfl e v, ?_⟩
    intro w164
    have h164 : St E (blkL w159.heap.size 45 (rsL e v) :: onL bc br bw p c q e v wv4 ra4 pa4 G4 s4 (refA G1 r s :: L)) w164 := h163.wr_res rfl e v
    clear_value w164
    clear h163
    clear_value w163
    generalize w159.heap.size = b9 at *
    refine live_spec h164.f2 fun G5 w166 hG5 h166 => ⟨_, rfl, ite_b (fun _ => ?_) fun hh => by cases hh⟩
    refine ⟨_, rd_fld h166.f3.at_blk rfl rfl, ite_b (fun _ => ?_) fun hh => by simp at hh⟩
    refine ⟨_, _, rd_res h166.f1, _, _, rd_res h166.f4, ?_⟩
    refine runV_ok (res_eq _ _ _ _ _ _) ⟨_, rfl, congB (k G5 _ (Fz.le_trans l3 (Fz.le_trans hG4 hG5)) (h166.sel 7 [0])) (by simp)⟩
theorem once_law {H : Type} {enc : TypeId × Value → H} {W : World} {a : Option Addr} {l c : Nat} {cs : Array Value} {t : Int} {d d2 : DataW H} {ps ps2 : List MemPlace} (h : DataW.Trod enc Tryz.prog W 0 (fun _ => true) true 22 (.slice a l c) d ps)
    (h2 : DataW.Trod enc Tryz.prog W 0 (fun _ => true) true 42 (.agg cs) d2 ps2) (ht : (Lit.int .u8 t).wf = true) :
    Calls Tryz.prog 5 #[.slice a l c, .agg cs, .int .u8 t] W fun e w' => e = .returned (.bool true) ∧ RowKit.Below W.heap.size W w' := by
  obtain ⟨ds, hd, _⟩ := open_cmds h
  obtain ⟨c2, q, e, ho, hr⟩ := open_one h2
  rw [e]
  have ht : 0 ≤ t ∧ t ≤ 255 := by
    simp [Lit.wf, IntKind.min, IntKind.max, IntKind.signed, IntKind.bits] at ht
    omega
  exact once_walk ht hd ho hr (St.start_kn W) fun G w' hG h' => ⟨rfl, h'.below_kn hG⟩
end
end Go.Vc
