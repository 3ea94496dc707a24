/-
  The program's store does a command.
-/
import Derived.Test.YtcpmfjclkdjfmaaGreatConfN
namespace Go.Vc
open Go Go.Proofs Go.Proofs.YtcpmfjclkdjfmaaGreat
set_option maxRecDepth 100000
section
variable {E w : World} {L : List Asrt} {R : Ending → World → Prop} {F G : Fz} {p : Nat} {s : Cm.Sm} {c : Cm.Cmd} {q : Sl}
abbrev rsL (e v : Int) : List Value := [.int .i64 e, .int .i64 v]
abbrev doL (br bc : Nat) (e v : Int) (c : Cm.Cmd) (q : Sl) (L : List Asrt) : List Asrt := blkL br 45 (rsL e v) :: blkL bc 42 (cmdL c q) :: L
theorem one_res (e v : Int) : ∀ u ∈ rsL e v, one u = true := by intro u hu; simp at hu; rcases hu with rfl | rfl <;> rfl
theorem rd_res {b t : Nat} {e v : Int} (h : St E (blkL b t (rsL e v) :: L) w) : rd w ⟨b, 0, none⟩ (.agg #[.int .i64 e, .int .i64 v]) := rd_agg (xs := rsL e v) h.at_blk (by intro i u hu; rw [Nat.zero_add]; exact hu)
theorem ok_res {b t : Nat} {l : List Value} (h : St E (blkL b t l :: L) w) (hl : l.length = 2) (e v : Int) : wrOk w ⟨b, 0, none⟩ (.agg #[.int .i64 e, .int .i64 v]) := wrOk_agg h.at_blk (xs := rsL e v) (by rw [hl]; exact Nat.le_refl 2) (one_res e v)
theorem St.wr_res {b t : Nat} {l : List Value} (h : St E (blkL b t l :: L) w) (hl : l.length = 2) (e v : Int) : St E (blkL b t (rsL e v) :: L) (wr w ⟨b, 0, none⟩ (.agg #[.int .i64 e, .int .i64 v])) := h.wr_agg0 (xs := rsL e v) (by rw [hl]; rfl)
theorem rd_cmd {b : Nat} (h : St E (blkL b 42 (cmdL c q) :: L) w) : rd w ⟨b, 0, none⟩ (cmdV c q) := rd_agg (xs := cmdL c q) h.at_blk (by intro i u hu; rw [Nat.zero_add]; exact hu)
theorem St.do_shut {A B : Asrt} {mp mr mc : Nat} {Mp : List (Cm.Bs × PV)} {Mr : List (Pr × Cm.Bs)} {Mc : List (Int × LV)} (hp : poolsR F Mp s.pools) (hr : routesR Mr s.routes) (hc : clientsR Mc s.l) (h : St E (A :: B :: st4 p s.ver mp mr mc Mp Mr Mc L) w) : St E (A :: B :: stA F p s :: L) w :=
  St.sel (L := stA F p s :: A :: B :: L) (St.st_mk hp hr hc (h.sel 6 [2, 3, 4, 5, 0, 1])) 3 [1, 2, 0]
abbrev seenL (x : LV) : List Value := [.int .i64 x.1, .int .i64 x.2.1, .int .i64 x.2.2]
theorem ok_seen {b t : Nat} {l : List Value} (h : St E (blkL b t l :: L) w) (hl : l.length = 3) (x : LV) : wrOk w ⟨b, 0, none⟩ (lvV x) := wrOk_agg h.at_blk (xs := seenL x) (by rw [hl]; simp) (by intro u hu; simp at hu; rcases hu with rfl | rfl | rfl <;> rfl)
theorem St.wr_seen {b t : Nat} {l : List Value} (h : St E (blkL b t l :: L) w) (hl : l.length = 3) (x : LV) : St E (blkL b t (seenL x) :: L) (wr w ⟨b, 0, none⟩ (lvV x)) := h.wr_agg0 (xs := seenL x) (by rw [hl]; rfl)
set_option maxHeartbeats 2000000 in
theorem do1_spec {br bc mp mr mc : Nat} {e v : Int} {Mp : List (Cm.Bs × PV)} {Mr : List (Pr × Cm.Bs)} {Mc : List (Int × LV)} {Kn Kr : World → Prop} {Kp : List PanicEntry → World → Prop} (hcl : clientsR Mc s.l)
    (h : St E (doL br bc e v c q (st4 p s.ver mp mr mc Mp Mr Mc L)) w)
    (k1 : ¬ (0 < c.client ∧ c.seq = (Cm.seenC s c.client).1) → ¬ (0 < c.client ∧ c.seq < (Cm.seenC s c.client).1) → ∀ w', St E (doL br bc e v c q (st4 p s.ver mp mr mc Mp Mr Mc L)) w' → Kn w')
    (k2 : 0 < c.client ∧ c.seq = (Cm.seenC s c.client).1 → ∀ w', St E (doL br bc (Cm.seenC s c.client).2.1 (Cm.seenC s c.client).2.2 c q (st4 p s.ver mp mr mc Mp Mr Mc L)) w' → Kr w')
    (k3 : ¬ (0 < c.client ∧ c.seq = (Cm.seenC s c.client).1) → 0 < c.client ∧ c.seq < (Cm.seenC s c.client).1 → ∀ w', St E (doL br bc 12 s.ver c q (st4 p s.ver mp mr mc Mp Mr Mc L)) w' → Kr w') :
    T_conf_Store_Do_1 (some ⟨p, 0, none⟩) ⟨bc, 0, none⟩ ⟨br, 0, none⟩ (decide (c.client > 0)) w Kn Kr Kp := by
  unfold T_conf_Store_Do_1
  refine ite_b (fun hb => ?_) fun hb => k1 (fun hx => ?_) (fun hx => ?_) _ h
  · have hcc : 0 < c.client := of_decide_eq_true hb
    intro w36
    have h36 : St E _ w36 := h.drew
    clear_value w36
    have tail : ∀ (w : World) (bl : Nat), St E (blkL bl 91 (seenL (Cm.seenC s c.client)) :: doL br bc e v c q (st4 p s.ver mp mr mc Mp Mr Mc L)) w →
        ∃ x47 : Int, rd w ((⟨bc, 0, none⟩ : Addr).add 2) (.int .i64 x47) ∧ ∃ x48 : Int, rd w ⟨bl, 0, none⟩ (.int .i64 x48) ∧ if ((x47 : Int) == x48) = true then (∃ x49 : Int, ∃ x50 : Int, rd w ((⟨bl, 0, none⟩ : Addr).add 1) (.agg #[.int .i64 x49, .int .i64 x50]) ∧ (.agg #[.int .i64 x49, .int .i64 x50] : Value).cells.size = 2 ∧ wrOk w ⟨br, 0, none⟩ (.agg #[.int .i64 x49, .int .i64 x50]) ∧ let w51 : World := wr w ⟨br, 0, none⟩ (.agg #[.int .i64 x49, .int .i64 x50])
          Kr w51) else (∃ x52 : Int, rd w ((⟨bc, 0, none⟩ : Addr).add 2) (.int .i64 x52) ∧ ∃ x53 : Int, rd w ⟨bl, 0, none⟩ (.int .i64 x53) ∧ if (decide ((x52 : Int) < x53)) = true then (∃ a54, some (⟨p, 0, none⟩ : Addr) = some a54 ∧ ∃ x55 : Int, rd w a54 (.int .i64 x55) ∧ (.agg #[.int .i64 12, .int .i64 x55] : Value).cells.size = 2 ∧ wrOk w ⟨br, 0, none⟩ (.agg #[.int .i64 12, .int .i64 x55]) ∧ let w56 : World := wr w ⟨br, 0, none⟩ (.agg #[.int .i64 12, .int .i64 x55])
          Kr w56) else (Kn w)) := by
      intro w bl h
      refine ⟨_, rd_fld h.f2.at_blk rfl rfl, _, rd_cell h.at_blk rfl rfl, ite_b (fun h1 => ?_) fun h1 => ?_⟩
      · refine ⟨_, _, rd_agg (xs := rsL (Cm.seenC s c.client).2.1 (Cm.seenC s c.client).2.2) h.at_blk (off := 1) (by intro i u hu; rw [Nat.add_comm]; exact hu), rfl, ok_res h.f1 rfl _ _, k2 ⟨hcc, by simpa using h1⟩ _ (h.f1.wr_res rfl _ _).f1.drop⟩
      · have hne : ¬ (0 < c.client ∧ c.seq = (Cm.seenC s c.client).1) := fun hx => by rw [hx.2] at h1; simp at h1
        refine ⟨_, rd_fld h.f2.at_blk rfl rfl, _, rd_cell h.at_blk rfl rfl, ite_d (fun h2 => ?_) fun h2 => k1 hne (fun hx => h2 hx.2) _ h.drop⟩
        exact ⟨_, rfl, _, rd_cell h.f3.at_blk rfl rfl, rfl, ok_res h.f1 rfl _ _, k3 hne ⟨hcc, h2⟩ _ (h.f1.wr_res rfl _ _).f1.drop⟩
    refine ⟨_, rfl, _, rd_fld h36.f2.at_blk rfl rfl, _, rd_fld h36.f1.at_blk rfl rfl, ?_, ?_⟩
    · refine runV_ok (look_client hcl h36.f5 c.client) ⟨_, _, _, rfl, trivial, ?_⟩
      intro w45
      have h45 := h36.alloc (.cells #[.int .i64 0, .int .i64 0, .int .i64 0] 91)
      refine ⟨trivial, rfl, ok_seen h45 rfl _, ?_⟩
      intro w46
      exact ⟨trivial, tail _ _ (h45.wr_seen rfl _)⟩
    · intro w57
      have h57 : St E _ w57 := h36.alloc (.cells #[.int .i64 0, .int .i64 0, .int .i64 0] 91)
      refine ⟨⟨rd_fld h57.f2.at_blk rfl rfl, rd_fld h57.f3.at_blk rfl rfl, trivial⟩, runV_ok (look_client hcl (St.sel h57 7 [6, 0, 1, 2, 3, 4, 5]) c.client) ⟨_, _, _, rfl, trivial, rfl, ok_seen h57 rfl _, ?_⟩⟩
      intro w63
      exact ⟨trivial, tail _ _ (h57.wr_seen rfl _)⟩
  · exact absurd hx.1 (of_decide_eq_false hb)
  · exact absurd hx.1 (of_decide_eq_false hb)
theorem do2_spec {br bc mp mr mc : Nat} {e v : Int} {Mp : List (Cm.Bs × PV)} {Mr : List (Pr × Cm.Bs)} {Mc : List (Int × LV)} {Kn : Int → World → Prop} {Kp : List PanicEntry → World → Prop} (I : Cm.Inv s) (hc : Cm.chk c = 0) (hr : RdF F q.1 q.2.1 2 (c.tg.flatMap tV))
    (hp : poolsR F Mp s.pools) (hrr : routesR Mr s.routes) (hcl : clientsR Mc s.l) (h : St E (doL br bc e v c q (st4 p s.ver mp mr mc Mp Mr Mc (kn F :: L))) w)
    (k : ∀ G w', Fz.le F G → St E (doL br bc e v c q (stA G p (Cm.step s c).1 :: kn G :: L)) w' → Kn (Cm.step s c).2 w') :
    T_conf_Store_Do_2 (some ⟨p, 0, none⟩) ⟨bc, 0, none⟩ 12 w Kn Kp := by
  have nf : ∀ {w : World} {s' : Cm.Sm} {er : Int}, Cm.step s c = (s', er) → s' = s → St E (doL br bc e v c q (st4 p s.ver mp mr mc Mp Mr Mc (kn F :: L))) w → Kn er w := fun hs he h => by
    subst he
    rw [hs] at k
    exact k F _ (Fz.le_refl F) (h.do_shut hp hrr hcl)
  have go : ¬ (0 ≤ c.expect ∧ c.expect ≠ s.ver) → ∀ {w : World}, St E (doL br bc e v c q (st4 p s.ver mp mr mc Mp Mr Mc (kn F :: L))) w →
      (∃ a90, some (⟨p, 0, none⟩ : Addr) = some a90 ∧ ∃ x91 : Int, rd w a90 (.int .i64 x91) ∧ if ((x91 : Int) == 1099511627776) = true then (Kn 6 w) else (∃ x92 : Int, ∃ x93 : Int, ∃ x94 : Int, ∃ x95 : Int, ∃ s96 : ByteArray, ∃ s97 : ByteArray, ∃ s98 : ByteArray, ∃ s99a : Option Addr, ∃ s99l : Nat, ∃ s99c : Nat, rd w ⟨bc, 0, none⟩ (.agg #[.int .i64 x92, .int .i64 x93, .int .i64 x94, .int .i64 x95, .string s96, .string s97, .string s98, .slice s99a s99l s99c]) ∧ Calls Tryz.prog 41 #[.pointer (some (⟨p, 0, none⟩ : Addr)), .agg #[.int .i64 x92, .int .i64 x93, .int .i64 x94, .int .i64 x95, .string s96, .string s97, .string s98, .slice s99a s99l s99c]] w (ret (fun r100 w101 => ∃ x102 : Int, r100 = .int .i64 x102 ∧ Kn x102 w101) Kp))) := fun hne w h => by
    refine ⟨_, rfl, _, rd_cell h.f2.at_blk rfl rfl, ite_b (fun h1 => ?_) fun h1 => ?_⟩
    · exact nf (by unfold Cm.step; rw [if_neg hne, if_pos (by simpa using h1)]) rfl h
    · have hst : Cm.step s c = Cm.act s c := by unfold Cm.step; rw [if_neg hne, if_neg (by simpa using h1)]
      rw [hst] at k
      refine ⟨_, _, _, _, _, _, _, _, _, _, rd_cmd h.f1, act_spec I hc hr ((h.do_shut hp hrr hcl).sel 4 [2, 3, 0, 1]) fun G w' hFG h' => ⟨_, rfl, k G _ hFG (St.sel (L := _ :: _ :: _ :: _ :: L) h' 4 [2, 3, 0, 1])⟩⟩
  unfold T_conf_Store_Do_2 T_conf_Store_Do_3
  intro w80
  have h80 : St E _ w80 := h.drew
  clear_value w80
  refine ⟨_, rd_fld h80.f1.at_blk rfl rfl, ite_d (fun h1 => ?_) fun h1 => ?_⟩
  · refine ⟨_, rd_fld h80.f1.at_blk rfl rfl, _, rfl, _, rd_cell h80.f2.at_blk rfl rfl, ite_b (fun h2 => ?_) fun h2 => ?_⟩
    · exact nf (by unfold Cm.step; rw [if_pos ⟨h1, by simpa using h2⟩]) rfl h80
    · exact go (fun hx => by simp at h2; exact hx.2 h2) h80
  · exact ite_b (fun h2 => by cases h2) fun _ => go (fun hx => h1 hx.1) h80
set_option maxHeartbeats 2000000 in
/-- (*Store).Do: P8.2. -/
theorem Do_spec (I : Cm.Inv s) (hr : RdF F q.1 q.2.1 2 (c.tg.flatMap tV)) (ho : okC c) (h : St E (stA F p s :: kn F :: L) w)
    (k : ∀ G w', Fz.le F G → St E (stA G p (Cm.doC s c).1 :: kn G :: L) w' → R (.returned (.agg #[.int .i64 (Cm.doC s c).2.1, .int .i64 (Cm.doC s c).2.2])) w') : Calls Tryz.prog 17 #[.pointer (some ⟨p, 0, none⟩), cmdV c q] w R := by
  obtain ⟨mp, mr, mc, Mp, Mr, Mc, hp, hrr, hcl, h⟩ := h.st_open
  refine C_conf_Store_Do ?_
  unfold T_conf_Store_Do
  intro w10
  have h10 : St E (blkL w.heap.size 42 (cmdL c q) :: st4 p s.ver mp mr mc Mp Mr Mc (kn F :: L)) w10 := h.alloc _
  intro w11
  have h11 : St E (doL w10.heap.size w.heap.size 0 0 c q (st4 p s.ver mp mr mc Mp Mr Mc (kn F :: L))) w11 := h10.alloc _
  clear_value w11
  clear h10
  clear_value w10
  generalize w10.heap.size = br at *
  generalize w.heap.size = bc at *
  have done : ∀ {w : World} {e v : Int} {s' : Cm.Sm} {G : Fz}, Fz.le F G → Cm.doC s c = (s', e, v) → St E (doL br bc e v c q (stA G p s' :: kn G :: L)) w →
      ∃ x136 : Int, ∃ x137 : Int, rd w ⟨br, 0, none⟩ (.agg #[.int .i64 x136, .int .i64 x137]) ∧ R (.returned (.agg #[.int .i64 x136, .int .i64 x137])) w := fun hFG hd h => by
    rw [hd] at k
    exact ⟨_, _, rd_res h, k _ _ hFG h.drop.drop⟩
  have back : ∀ {w : World} {e v : Int}, St E (doL br bc e v c q (st4 p s.ver mp mr mc Mp Mr Mc (kn F :: L))) w → St E (doL br bc e v c q (stA F p s :: kn F :: L)) w := fun h =>
    h.do_shut hp hrr hcl
  refine ite_some ⟨_, _, _, _, _, _, _, _, _, _, rd_cmd h11.f1, Check_spec (List.mem_cons_of_mem _ (List.mem_cons_of_mem _ at4)) h11 hr ho fun w24 h24 => ⟨_, rfl, ite_b (fun h1 => ?_) fun h1 => ?_⟩⟩
  · have h1 : Cm.chk c ≠ 0 := by simpa using h1
    refine ⟨_, rfl, _, rd_cell h24.f2.at_blk rfl rfl, rfl, ok_res h24 rfl _ _, ?_⟩
    intro w28
    exact done (Fz.le_refl F) (by unfold Cm.doC; rw [if_pos h1]) (back (h24.wr_res rfl _ _))
  · have hc : Cm.chk c = 0 := by simpa using h1
    refine ⟨_, rd_fld h24.f1.at_blk rfl rfl, do1_spec hcl h24 (fun n1 n2 w74 h74 => ?_) (fun y1 w74 h74 => ?_) (fun n1 y2 w74 h74 => ?_)⟩
    · refine do2_spec I hc hr hp hrr hcl h74 fun G w107 hFG h107 => ?_
      have hd : Cm.doC s c = (if 0 < c.client then Cm.note { (Cm.step s c).1 with ver := Cm.vers (Cm.step s c) } ⟨c.client, c.seq, (Cm.step s c).2, Cm.vers (Cm.step s c)⟩ else { (Cm.step s c).1 with ver := Cm.vers (Cm.step s c) }, (Cm.step s c).2, Cm.vers (Cm.step s c)) := by
        unfold Cm.doC; rw [if_neg (by simpa using hc), if_neg n1, if_neg n2]
      obtain ⟨J, hv, hl, _, _, hz⟩ := Cm.step_keeps I hc
      generalize hst : Cm.step s c = st at *
      obtain ⟨s', er⟩ := st
      simp only at *
      obtain ⟨mp, mr, mc, Mp, Mr, Mc, hp, hrr, hcl, h107⟩ := (h107.sel 3 [2, 0, 1] : St E (stA G p s' :: blkL br 45 (rsL 0 0) :: blkL bc 42 (cmdL c q) :: kn G :: L) w107).st_open
      have fin : ∀ {w : World}, St E (st4 p (Cm.vers (s', er)) mp mr mc Mp Mr Mc (doL br bc 0 0 c q (kn G :: L))) w → (∃ a115, some (⟨p, 0, none⟩ : Addr) = some a115 ∧ ∃ x116 : Int, rd w a115 (.int .i64 x116) ∧ let w117 : World := w.alloc (.cells #[.int .i64 0, .int .i64 0] 45)
          (.agg #[.int .i64 er, .int .i64 x116] : Value).cells.size = 2 ∧ wrOk w117 (⟨w.heap.size, 0, none⟩ : Addr) (.agg #[.int .i64 er, .int .i64 x116]) ∧ let w118 : World := wr w117 (⟨w.heap.size, 0, none⟩ : Addr) (.agg #[.int .i64 er, .int .i64 x116])
          ∃ x119 : Int, rd w118 ((⟨bc, 0, none⟩ : Addr).add 1) (.int .i64 x119) ∧ if (decide ((x119 : Int) > 0)) = true then (let w120 : World := w118.drew
          ∃ a121, some (⟨p, 0, none⟩ : Addr) = some a121 ∧ ∃ m122 : Option Nat, rd w120 (a121.add 3) (.map m122) ∧ ∃ x123 : Int, rd w120 ((⟨bc, 0, none⟩ : Addr).add 1) (.int .i64 x123) ∧ ∃ x124 : Int, rd w120 ((⟨bc, 0, none⟩ : Addr).add 2) (.int .i64 x124) ∧ ∃ x125 : Int, ∃ x126 : Int, rd w120 (⟨w.heap.size, 0, none⟩ : Addr) (.agg #[.int .i64 x125, .int .i64 x126]) ∧ runV Tryz.prog (Instr.mapUpdate 77 (.map m122) (.int .i64 x123) (.agg #[.int .i64 x124, .int .i64 x125, .int .i64 x126])) w120 (fun _ w127 => (True) ∧ ∃ x128 : Int, ∃ x129 : Int, rd w127 (⟨w.heap.size, 0, none⟩ : Addr) (.agg #[.int .i64 x128, .int .i64 x129]) ∧ (.agg #[.int .i64 x128, .int .i64 x129] : Value).cells.size = 2 ∧ wrOk w127 (⟨br, 0, none⟩ : Addr) (.agg #[.int .i64 x128, .int .i64 x129]) ∧ let w130 : World := wr w127 (⟨br, 0, none⟩ : Addr) (.agg #[.int .i64 x128, .int .i64 x129])
          ∃ x131 : Int, ∃ x132 : Int, rd w130 (⟨br, 0, none⟩ : Addr) (.agg #[.int .i64 x131, .int .i64 x132]) ∧ R (.returned (.agg #[.int .i64 x131, .int .i64 x132])) w130) (pan R)) else (∃ x133 : Int, ∃ x134 : Int, rd w118 (⟨w.heap.size, 0, none⟩ : Addr) (.agg #[.int .i64 x133, .int .i64 x134]) ∧ (.agg #[.int .i64 x133, .int .i64 x134] : Value).cells.size = 2 ∧ wrOk w118 (⟨br, 0, none⟩ : Addr) (.agg #[.int .i64 x133, .int .i64 x134]) ∧ let w135 : World := wr w118 (⟨br, 0, none⟩ : Addr) (.agg #[.int .i64 x133, .int .i64 x134])
          ∃ x136 : Int, ∃ x137 : Int, rd w135 (⟨br, 0, none⟩ : Addr) (.agg #[.int .i64 x136, .int .i64 x137]) ∧ R (.returned (.agg #[.int .i64 x136, .int .i64 x137])) w135)) := fun {w} h => by
        refine ⟨_, rfl, _, rd_cell h.at_blk rfl rfl, ?_⟩
        intro w117
        have h117 := h.alloc (.cells #[.int .i64 0, .int .i64 0] 45)
        refine ⟨rfl, ok_res h117 rfl _ _, ?_⟩
        intro w118
        have h118 : St E (blkL w.heap.size 45 (rsL er (Cm.vers (s', er))) :: st4 p (Cm.vers (s', er)) mp mr mc Mp Mr Mc (doL br bc 0 0 c q (kn G :: L))) w118 := h117.wr_res rfl _ _
        clear_value w118
        generalize w.heap.size = b2 at *
        refine ⟨_, rd_fld (St.sel h118 7 [6, 0, 1, 2, 3, 4, 5]).at_blk rfl rfl, ite_d (fun hcc => ?_) fun hcc => ?_⟩
        · intro w120
          have h120 : St E _ w120 := h118.drew
          clear_value w120
          have hc6 := (St.sel h120 7 [6, 0, 1, 2, 3, 4, 5]).at_blk
          refine ⟨_, rfl, _, rd_fld h120.f1.at_blk rfl rfl, _, rd_fld hc6 rfl rfl, _, rd_fld hc6 rfl rfl, _, _, rd_res h120, ?_⟩
          obtain ⟨w127, hr127, h127⟩ := mapUpdate_run intLaw und_clients h120.f4 c.client ((c.seq, er, Cm.vers (s', er)) : LV)
          have h127 : St E (mapA mc encI lvV (mset Mc c.client (c.seq, er, Cm.vers (s', er))) :: blkL b2 45 (rsL er (Cm.vers (s', er))) :: blkL p 79 (stL (Cm.vers (s', er)) mp mr mc) :: mapA mp encS pvV Mp :: mapA mr encP encS Mr :: doL br bc 0 0 c q (kn G :: L)) w127 := h127
          refine runV_ok hr127 ⟨trivial, _, _, rd_res h127.f1, rfl, ok_res h127.f5 rfl _ _, ?_⟩
          intro w130
          have h130 := h127.f5.wr_res rfl er (Cm.vers (s', er))
          have hcl2 : clientsR (mset Mc c.client (c.seq, er, Cm.vers (s', er))) (Cm.note { s' with ver := Cm.vers (s', er) } ⟨c.client, c.seq, er, Cm.vers (s', er)⟩).l := put_clients (x := ⟨c.client, c.seq, er, Cm.vers (s', er)⟩) hcl h120.f4.nodup
          refine done hFG hd ?_
          rw [if_pos hcc]
          exact St.sel (L := _ :: _ :: _ :: kn G :: L) (St.st_mk (s := Cm.note { s' with ver := Cm.vers (s', er) } ⟨c.client, c.seq, er, Cm.vers (s', er)⟩) hp hrr hcl2 (St.sel (L := blkL br 45 (rsL er (Cm.vers (s', er))) :: mapA mc encI lvV (mset Mc c.client (c.seq, er, Cm.vers (s', er))) :: blkL b2 45 (rsL er (Cm.vers (s', er))) :: blkL p 79 (stL (Cm.vers (s', er)) mp mr mc) :: mapA mp encS pvV Mp :: mapA mr encP encS Mr :: blkL bc 42 (cmdL c q) :: kn G :: L) h130 7 [3, 4, 5, 1, 0, 6])) 3 [1, 2, 0]
        · refine ⟨_, _, rd_res h118, rfl, ok_res h118.f5 rfl _ _, ?_⟩
          intro w135
          have h135 := h118.f5.wr_res rfl er (Cm.vers (s', er))
          refine done hFG hd ?_
          rw [if_neg hcc]
          exact St.sel (L := _ :: _ :: _ :: kn G :: L) (St.st_mk (s := { s' with ver := Cm.vers (s', er) }) hp hrr hcl (St.sel (L := blkL br 45 (rsL er (Cm.vers (s', er))) :: blkL b2 45 (rsL er (Cm.vers (s', er))) :: blkL p 79 (stL (Cm.vers (s', er)) mp mr mc) :: mapA mp encS pvV Mp :: mapA mr encP encS Mr :: mapA mc encI lvV Mc :: blkL bc 42 (cmdL c q) :: kn G :: L) h135 7 [2, 3, 4, 5, 0, 6])) 3 [1, 2, 0]
      unfold T_conf_Store_Do_4
      refine ite_b (fun h0 => ?_) fun h0 => ?_
      · have h0 : er = 0 := by simpa using h0
        have hver : Cm.vers (s', er) = s'.ver + 1 := by unfold Cm.vers; rw [if_pos h0]
        have hw : IntKind.wrap .i64 (s'.ver + 1) = s'.ver + 1 := by
          have := hz h0
          have := J.v0
          exact wrap_id (by omega) (by omega)
        rw [hver] at fin
        refine ⟨_, rfl, _, rd_cell h107.at_blk rfl rfl, _, rfl, rfl, wrOk_cell h107.at_blk (by simp [stL]) rfl, ?_⟩
        intro w113
        have := h107.wr_cell (off := 0) (v := .int .i64 (IntKind.wrap .i64 (s'.ver + 1))) rfl
        rw [show (stL s'.ver mp mr mc).set 0 (.int .i64 (IntKind.wrap .i64 (s'.ver + 1))) = stL (s'.ver + 1) mp mr mc from by rw [hw]; rfl] at this
        exact fin this
      · have h0 : er ≠ 0 := by simpa using h0
        have hver : Cm.vers (s', er) = s'.ver := by unfold Cm.vers; rw [if_neg h0]
        rw [hver] at fin
        exact fin h107
    · refine done (Fz.le_refl F) (by unfold Cm.doC; rw [if_neg (by simpa using hc), if_pos y1]) (back h74)
    · refine done (Fz.le_refl F) (by unfold Cm.doC; rw [if_neg (by simpa using hc), if_neg n1, if_pos y2]) (back h74)
end
end Go.Vc
