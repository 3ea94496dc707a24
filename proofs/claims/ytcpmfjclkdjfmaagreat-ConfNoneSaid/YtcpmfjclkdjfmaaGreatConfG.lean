/-
  Commands out of bytes; targets, commands, configurations held against each other.
-/
import Derived.Test.YtcpmfjclkdjfmaaGreatConfP
import Derived.Test.YtcpmfjclkdjfmaaGreatVcEq
namespace Go.Vc
open Go Go.Proofs Go.Proofs.YtcpmfjclkdjfmaaGreat
set_option maxRecDepth 100000

section
variable {E w : World} {L : List Asrt} {R : Ending → World → Prop} {F : Fz} {q : Sl} {b : Cm.Bs} {st : Cm.Ps} {p ty : Nat}

/-! ### the end -/
def endE (st : Cm.Ps) (v : Bool) : Int := match st with
  | .error e => e
  | .ok r => if r ≠ [] ∨ v = false then 4 else 0
theorem drop_nil {a : Nat} (ha : a ≤ b.length) : b.drop a = [] ↔ ¬ a < b.length := by
  rw [List.drop_eq_nil_iff]; omega
theorem end_spec {g : FuncId} {gi gc : Array Value} {v : Bool} (hs : Src F q b) (hb : hasBody Tryz.prog g = true) (h : St E (rdrA 116 p q b st :: L) w)
    (hc : ∀ (A : Asrt) (w : World) (R : Ending → World → Prop), Cm.bad st = false → St E (A :: L) w → (∀ w', St E (A :: L) w' → R (.returned (.bool v)) w') → Calls Tryz.prog g ⟨gi.toList ++ ([] ++ gc.toList)⟩ w R)
    (k : ∀ w', St E L w' → R (.returned (.int .i64 (endE st v))) w') : Calls Tryz.prog 66 #[.pointer (some ⟨p, 0, none⟩), .func (.func g) gi gc] w R := by
  have hlen := hs.len
  obtain ⟨a, e, ho, h0⟩ := h.rdr_open
  refine C_conf_reader_end ?_
  unfold T_conf_reader_end T_conf_reader_end_1
  intro w5
  have h5 := h0.drew
  refine ⟨_, rfl, _, rd_fld h5.at_blk rfl rfl, ?_⟩
  rw [eq_dec]
  cases st with
  | error x =>
    obtain ⟨rfl, hx⟩ := ho
    refine ite_d (fun hh => absurd hh hx) fun _ => ⟨⟨rd_fld h5.at_blk rfl rfl, trivial⟩, ite_b (fun hh => by cases hh) fun _ => ⟨_, rfl, _, rd_fld h5.at_blk rfl rfl, k _ h5.drop⟩⟩
  | ok r =>
    obtain ⟨rfl, hab, rfl⟩ := ho
    have four : ∀ w1, St E (blkL p 116 (rdrL q a 0) :: L) w1 → endE (.ok (b.drop a)) v = 4 → ∃ a20, some (⟨p, 0, none⟩ : Addr) = some a20 ∧ (.int .i64 4 : Value).cells.size = 1 ∧ wrOk w1 (a20.add 2) (.int .i64 4) ∧ let w21 : World := wr w1 (a20.add 2) (.int .i64 4)
        ∃ a22, some (⟨p, 0, none⟩ : Addr) = some a22 ∧ ∃ x23 : Int, rd w21 (a22.add 2) (.int .i64 x23) ∧ R (.returned (.int .i64 x23)) w21 := fun w1 h1 e4 => by
      refine ⟨_, rfl, rfl, wrOk_fld h1.at_blk (by simp [rdrL]) rfl, ?_⟩
      intro w21
      have h21 : St E (blkL p 116 (rdrL q a 4) :: L) w21 := h1.wr_fld (k := 2) (v := .int .i64 4) rfl
      exact ⟨_, rfl, _, rd_fld h21.at_blk rfl rfl, congI (k _ h21.drop) e4⟩
    refine ite_d (fun _ => ⟨_, rfl, _, rd_fld h5.at_blk rfl rfl, _, rfl, _, _, _, rd_cell h5.at_blk rfl rfl, ite_d (fun hlt => ?_) fun hge => ?_⟩) fun hh => absurd rfl hh
    · refine ⟨⟨rd_cell h5.at_blk rfl rfl, rd_fld h5.at_blk rfl rfl, trivial⟩, ite_b (fun _ => four _ h5 ?_) fun hh => by cases hh⟩
      have : b.drop a ≠ [] := by rw [Ne, drop_nil hab]; omega
      simp [endE, this]
    · have hnil : b.drop a = [] := (drop_nil hab).2 (by omega)
      refine ⟨hb, hc _ _ _ rfl h5 fun w1 h1 => ⟨_, rfl, ⟨rd_cell h1.at_blk rfl rfl, rd_fld h1.at_blk rfl rfl, trivial⟩, ite_n (fun hv => four _ h1 ?_) fun hv => ⟨_, rfl, _, rd_fld h1.at_blk rfl rfl, congI (k _ h1.drop) ?_⟩⟩⟩
      · simp [endE, hv]
      · simp [endE, hv, hnil]

/-! ### a command out of bytes -/
def zeroC : Cm.Cmd := ⟨0, 0, 0, 0, [], [], [], []⟩
def getR (b : Cm.Bs) : Cm.Cmd × Int := match Cm.getC b with
  | .ok c => (c, 0)
  | .error e => (zeroC, e)
theorem c1_spec {c : Cm.Cmd} {s : Sl} {bk : Nat} (hm : kn F ∈ L) (hb : blkL bk 42 (cmdL c s) ∈ L) (h : St E L w) (hr : RdF F s.1 s.2.1 2 (c.tg.flatMap tV)) (hc : okC c)
    (k : ∀ w', St E L w' → R (.returned (.bool (decide (Cm.chk c = 0)))) w') : Calls Tryz.prog 67 #[.pointer (some ⟨bk, 0, none⟩)] w R := by
  refine C_conf_GetCommand_c1 ?_
  unfold T_conf_GetCommand_c1
  refine ⟨_, _, _, _, _, _, _, _, _, _, rd_agg (h.mem hb) (xs := cmdL c s) (fun n u hu => by rw [Nat.zero_add]; exact hu), ?_⟩
  refine Check_spec (c := c) (s := s) hm h hr hc fun w' h' => ⟨_, rfl, congB (k w' h') (eq_dec _ _).symm⟩
theorem rText_len (st : Cm.Ps) : (Cm.rText st).1.length ≤ 128 := Nat.le_trans (rRow_len _ _) (rNum_le 128 st)
theorem rMany_all {α : Type} {f : Cm.Ps → α × Cm.Ps} {g : α → Prop} (hf : ∀ s, g (f s).1) : ∀ (n : Nat) (s : Cm.Ps), (Cm.rMany f n s).1.length ≤ n ∧ ∀ a ∈ (Cm.rMany f n s).1, g a
  | 0, s => ⟨by simp [Cm.rMany], fun a ha => by simp [Cm.rMany] at ha⟩
  | n + 1, s => by
    unfold Cm.rMany
    split
    · exact ⟨by simp, fun a ha => by simp at ha⟩
    · obtain ⟨h1, h2⟩ := rMany_all hf n (f s).2
      refine ⟨by simpa using h1, fun a ha => ?_⟩
      rcases List.mem_cons.1 ha with rfl | ha
      · exact hf s
      · exact h2 a ha
theorem bits_all (l : Cm.Bs) (hl : l.length ≤ 8) : Cm.bits l < two64 := by
  have := bits_small l hl l.length (Nat.le_refl _)
  rwa [List.take_length] at this
def shortTs (l : List Cm.Tgt) : Prop := l.length ≤ 16 ∧ ∀ t ∈ l, t.addr.length ≤ 128 ∧ t.w < two64
theorem shortTs.ok {l : List Cm.Tgt} (h : shortTs l) : okTs l := ⟨by have := h.1; unfold huge; omega, fun t ht => ⟨by have := (h.2 t ht).1; unfold huge; omega, (h.2 t ht).2⟩⟩
theorem rTgs_short (st : Cm.Ps) : shortTs (Cm.rTgs st).1 := by
  obtain ⟨h1, h2⟩ := rMany_all (f := Cm.rTgt) (g := fun t => t.addr.length ≤ 128 ∧ t.w < two64) (fun s => ⟨rText_len s, bits_all _ (rRow_len 8 _)⟩) (Cm.rNum 16 st).1 (Cm.rNum 16 st).2
  exact ⟨Nat.le_trans h1 (rNum_le 16 st), h2⟩
theorem okC_rCmd (b : Cm.Bs) : okC (Cm.rCmd b).1 := by
  simp only [Cm.rCmd, okC]
  have e : (128 : Nat) ≤ huge := by decide
  exact ⟨Nat.le_trans (rText_len _) e, Nat.le_trans (rText_len _) e, Nat.le_trans (rText_len _) e, (rTgs_short _).ok⟩
theorem body_c1 : hasBody Tryz.prog 67 = true := by kernel_rfl
theorem one_cmdL (c : Cm.Cmd) (s : Sl) : ∀ u ∈ cmdL c s, one u = true := by
  intro u hu
  simp only [cmdL, List.mem_cons, List.not_mem_nil, or_false] at hu
  rcases hu with rfl | rfl | rfl | rfl | rfl | rfl | rfl | rfl <;> rfl
theorem St.freezeT {s : Sl} {l : List Cm.Tgt} (h : St E (tgA s l :: kn F :: L) w) : ∃ G, Fz.le F G ∧ St E (kn G :: L) w ∧ RdF G s.1 s.2.1 2 (l.flatMap tV) := h.freezeS
theorem getR_of {b : Cm.Bs} (he : ∀ e, (Cm.rCmd b).2 = .error e → e ≠ 0) : getR b = if endE (Cm.rCmd b).2 (decide (Cm.chk (Cm.rCmd b).1 = 0)) = 0 then ((Cm.rCmd b).1, 0) else (zeroC, endE (Cm.rCmd b).2 (decide (Cm.chk (Cm.rCmd b).1 = 0))) := by
  unfold getR Cm.getC
  cases hr : (Cm.rCmd b).2 with
  | error e => exact (if_neg (he e hr)).symm
  | ok r =>
    by_cases h : r ≠ [] ∨ Cm.chk (Cm.rCmd b).1 ≠ 0
    · simp only [endE, decide_eq_false_iff_not, if_pos h]
      rw [if_neg (by decide)]
    · simp only [endE, decide_eq_false_iff_not, if_neg h]
      rw [if_pos trivial]
theorem cell8 (c : Cm.Cmd) (s : Sl) : (cmdL c s).length = 8 := rfl
theorem GetCommand_spec (hs : Src F q b) (h : St E (kn F :: L) w)
    (k : ∀ (w' : World) (G : Fz) (s : Sl), Fz.le F G → St E (kn G :: L) w' → RdF G s.1 s.2.1 2 ((getR b).1.tg.flatMap tV) → R (.returned (.tuple #[cmdV (getR b).1 s, .int .i64 (getR b).2])) w') : Calls Tryz.prog 30 #[.slice q.1 q.2.1 q.2.2] w R := by
  refine C_conf_GetCommand ?_
  unfold T_conf_GetCommand
  intro w2 w3
  have h2 : St E (blkL w.heap.size 42 (cmdL zeroC (none, 0, 0)) :: kn F :: L) w2 := h.alloc _
  have h3 : St E (rdrA 116 w2.heap.size q b (.ok b) :: blkL w.heap.size 42 (cmdL zeroC (none, 0, 0)) :: kn F :: L) w3 := h2.rdr_new _ q b
  refine rnum_spec (most := 1099511627776) hs (by simp) h3 fun w5 h5 => ⟨_, rfl, rnum_spec (most := 1099511627776) hs (by simp) h5 fun w8 h8 => ⟨_, rfl, rnum_spec (most := 1099511627776) hs (by simp) h8 fun w11 h11 => ⟨_, rfl, rnum_spec (most := 1099511627776) hs (by simp) h11 fun w14 h14 => ⟨_, rfl, ?_⟩⟩⟩⟩
  generalize hc0 : Cm.rCmd b = cr
  have hx := rNum_le 1099511627776 (Cm.rNum 1099511627776 (Cm.rNum 1099511627776 (Cm.rNum 1099511627776 (.ok b)).2).2).2
  rw [wrap_id (by omega) (by omega)]
  intro w16
  have h16 := h14.alloc (.cells #[.int .i64 0, .int .i64 0, .int .i64 0, .int .i64 0, .string (ByteArray.mk #[]), .string (ByteArray.mk #[]), .string (ByteArray.mk #[]), .slice none 0 0] 42)
  refine ⟨rfl, wrOk_agg h16.at_blk (xs := cmdL ⟨_, _, _, _, [], [], [], []⟩ (none, 0, 0)) (by simp [cmdL]) (one_cmdL _ _), ?_⟩
  intro w17
  have h17 := h16.wr_agg0 (xs := cmdL ⟨((Cm.rNum 1099511627776 (.ok b)).1 : Int), ((Cm.rNum 1099511627776 (Cm.rNum 1099511627776 (.ok b)).2).1 : Int), ((Cm.rNum 1099511627776 (Cm.rNum 1099511627776 (Cm.rNum 1099511627776 (.ok b)).2).2).1 : Int), ((Cm.rNum 1099511627776 (Cm.rNum 1099511627776 (Cm.rNum 1099511627776 (Cm.rNum 1099511627776 (.ok b)).2).2).2).1 : Int) - 1, [], [], [], []⟩ (none, 0, 0)) rfl
  refine rtext_spec hs (by simp) h17.f1 fun w19 h19 => ⟨_, rfl, rtext_spec hs (by simp) h19 fun w22 h22 => ⟨_, rfl, rtext_spec hs (by simp) h22 fun w25 h25 => ⟨_, rfl, ?_⟩⟩⟩
  refine ⟨rfl, wrOk_fld h25.f1.at_blk (by rw [cell8]; decide) rfl, ?_⟩
  intro w27
  have h27 := h25.f1.wr_fld (k := 4) (v := .string (bs (Cm.rText (Cm.rNum 1099511627776 (Cm.rNum 1099511627776 (Cm.rNum 1099511627776 (Cm.rNum 1099511627776 (.ok b)).2).2).2).2).1)) rfl
  refine ⟨rfl, wrOk_fld h27.at_blk (by rw [List.length_set, cell8]; decide) rfl, ?_⟩
  intro w28
  have h28 := h27.wr_fld (k := 5) (v := .string (bs (Cm.rText (Cm.rText (Cm.rNum 1099511627776 (Cm.rNum 1099511627776 (Cm.rNum 1099511627776 (Cm.rNum 1099511627776 (.ok b)).2).2).2).2).2).1)) rfl
  refine ⟨rfl, wrOk_fld h28.at_blk (by rw [List.length_set, List.length_set, cell8]; decide) rfl, ?_⟩
  intro w29
  have h29 := h28.wr_fld (k := 6) (v := .string (bs (Cm.rText (Cm.rText (Cm.rText (Cm.rNum 1099511627776 (Cm.rNum 1099511627776 (Cm.rNum 1099511627776 (Cm.rNum 1099511627776 (.ok b)).2).2).2).2).2).2).1)) rfl
  refine rtargets_spec hs (by simp) h29.f1 fun w31 s h31 => ⟨_, _, _, rfl, rfl, wrOk_fld h31.f2.at_blk (by simp [cell8]) rfl, ?_⟩
  intro w33
  have h33 := h31.f2.wr_fld (k := 7) (v := .slice s.1 s.2.1 s.2.2) rfl
  have hcr : cr = Cm.rCmd b := hc0.symm
  have h33b : St E (blkL w14.heap.size 42 (cmdL cr.1 s) :: tgA s cr.1.tg :: rdrA 116 w2.heap.size q b cr.2 :: blkL w.heap.size 42 (cmdL zeroC (none, 0, 0)) :: kn F :: L) w33 := by rw [hcr]; exact h33
  obtain ⟨G, hle, h34, hrt⟩ := (h33b.sel 5 [1, 4, 2, 0, 3] : St E (tgA s cr.1.tg :: kn F :: rdrA 116 w2.heap.size q b cr.2 :: blkL w14.heap.size 42 (cmdL cr.1 s) :: blkL w.heap.size 42 (cmdL zeroC (none, 0, 0)) :: L) w33).freezeT
  obtain ⟨at_, e, ho, _⟩ := h34.f1.rdr_open
  have hne : ∀ e, (Cm.rCmd b).2 = .error e → e ≠ 0 := fun e he => by rw [← hcr] at he; rw [he] at ho; exact ho.2
  have hg := getR_of hne
  rw [← hcr] at hg
  have hok : okC cr.1 := by rw [hcr]; exact okC_rCmd b
  refine end_spec (v := decide (Cm.chk cr.1 = 0)) (hs.mono hle) body_c1 h34.f1 (fun A w R _ h k => c1_spec (F := G) (c := cr.1) (s := s) at1 at2 h hrt hok k) fun w35 h35 => ⟨_, rfl, ?_⟩
  rw [ne_dec]
  refine ite_d (fun h1 => ?_) fun h1 => ?_
  · rw [if_neg h1] at hg
    rw [hg] at k
    refine ⟨rfl, wrOk_agg h35.f2.at_blk (xs := cmdL zeroC (none, 0, 0)) (by simp [cmdL]) (one_cmdL _ _), ?_⟩
    intro w37
    have h37 := h35.f2.wr_agg0 (xs := cmdL zeroC (none, 0, 0)) rfl
    exact ⟨_, _, _, _, _, _, _, _, _, _, rd_agg h37.at_blk (xs := cmdL zeroC (none, 0, 0)) (fun n u hu => by rw [Nat.zero_add]; exact hu), k w37 G (none, 0, 0) hle (h37.sel 3 [1] : St E (kn G :: L) w37) (RdF.nil G none)⟩
  · rw [if_pos (by simpa using h1)] at hg
    rw [hg] at k
    refine ⟨_, _, _, _, _, _, _, _, _, _, rd_agg h35.f1.at_blk (xs := cmdL cr.1 s) (fun n u hu => by rw [Nat.zero_add]; exact hu), rfl, wrOk_agg h35.f2.at_blk (xs := cmdL cr.1 s) (by simp [cmdL]) (one_cmdL _ _), ?_⟩
    intro w37
    have h37 := h35.f2.wr_agg0 (xs := cmdL cr.1 s) rfl
    exact ⟨_, _, _, _, _, _, _, _, _, _, rd_agg h37.at_blk (xs := cmdL cr.1 s) (fun n u hu => by rw [Nat.zero_add]; exact hu), k w37 G s hle (h37.sel 3 [1] : St E (kn G :: L) w37) hrt⟩
theorem RGetCommand_spec (hs : Src F q b) (h : St E (kn F :: L) w)
    (k : ∀ (w' : World) (G : Fz) (s : Sl), Fz.le F G → St E (kn G :: L) w' → RdF G s.1 s.2.1 2 ((getR b).1.tg.flatMap tV) → R (.returned (.tuple #[cmdV (getR b).1 s, .int .i64 (getR b).2])) w') : Calls Tryz.prog 31 #[.slice q.1 q.2.1 q.2.2] w R := by
  refine C_ref08_GetCommand ?_
  unfold T_ref08_GetCommand
  intro w2 w3 w4
  have h2 : St E (blkL w.heap.size 42 (cmdL zeroC (none, 0, 0)) :: kn F :: L) w2 := h.alloc _
  have h3 : St E (rdrA 123 w2.heap.size q b (.ok b) :: blkL w.heap.size 42 (cmdL zeroC (none, 0, 0)) :: kn F :: L) w3 := h2.rdr_new _ q b
  have h4 : St E (blkL w3.heap.size 42 (cmdL zeroC (none, 0, 0)) :: rdrA 123 w2.heap.size q b (.ok b) :: blkL w.heap.size 42 (cmdL zeroC (none, 0, 0)) :: kn F :: L) w4 := h3.alloc _
  refine ⟨rfl, wrOk_agg h4.at_blk (xs := cmdL zeroC (none, 0, 0)) (by simp [cmdL]) (one_cmdL _ _), ?_⟩
  intro w5
  have h5 := h4.wr_agg0 (xs := cmdL zeroC (none, 0, 0)) rfl
  generalize hc0 : Cm.rCmd b = cr
  refine Rscan_num_spec (most := 1099511627776) hs (by simp) h5.f1 fun w7 h7 => ⟨_, rfl, rfl, wrOk_cell h7.f1.at_blk (by simp [cell8]) rfl, ?_⟩
  intro w9
  have h9 := h7.f1.wr_cell (off := 0) (v := .int .i64 ((Cm.rNum 1099511627776 (.ok b)).1 : Int)) rfl
  refine Rscan_num_spec (most := 1099511627776) hs (by simp) h9.f1 fun w11 h11 => ⟨_, rfl, rfl, wrOk_fld h11.f1.at_blk (by simp [cell8]) rfl, ?_⟩
  intro w13
  have h13 := h11.f1.wr_fld (k := 1) (v := .int .i64 ((Cm.rNum 1099511627776 (Cm.rNum 1099511627776 (.ok b)).2).1 : Int)) rfl
  refine Rscan_num_spec (most := 1099511627776) hs (by simp) h13.f1 fun w15 h15 => ⟨_, rfl, rfl, wrOk_fld h15.f1.at_blk (by simp [cell8]) rfl, ?_⟩
  intro w17
  have h17 := h15.f1.wr_fld (k := 2) (v := .int .i64 ((Cm.rNum 1099511627776 (Cm.rNum 1099511627776 (Cm.rNum 1099511627776 (.ok b)).2).2).1 : Int)) rfl
  have hx := rNum_le 1099511627776 (Cm.rNum 1099511627776 (Cm.rNum 1099511627776 (Cm.rNum 1099511627776 (.ok b)).2).2).2
  refine Rscan_num_spec (most := 1099511627776) hs (by simp) h17.f1 fun w19 h19 => ⟨_, rfl, rfl, ?_⟩
  rw [wrap_id (by omega) (by omega)]
  refine ⟨wrOk_fld h19.f1.at_blk (by simp [cell8]) rfl, ?_⟩
  intro w21
  have h21 := h19.f1.wr_fld (k := 3) (v := .int .i64 (((Cm.rNum 1099511627776 (Cm.rNum 1099511627776 (Cm.rNum 1099511627776 (Cm.rNum 1099511627776 (.ok b)).2).2).2).1 : Int) - 1)) rfl
  refine Rscan_text_spec hs (by simp) h21.f1 fun w23 h23 => ⟨_, rfl, rfl, wrOk_fld h23.f1.at_blk (by simp [cell8]) rfl, ?_⟩
  intro w25
  have h25 := h23.f1.wr_fld (k := 4) (v := .string (bs (Cm.rText (Cm.rNum 1099511627776 (Cm.rNum 1099511627776 (Cm.rNum 1099511627776 (Cm.rNum 1099511627776 (.ok b)).2).2).2).2).1)) rfl
  refine Rscan_text_spec hs (by simp) h25.f1 fun w27 h27 => ⟨_, rfl, rfl, wrOk_fld h27.f1.at_blk (by simp [cell8]) rfl, ?_⟩
  intro w29
  have h29 := h27.f1.wr_fld (k := 5) (v := .string (bs (Cm.rText (Cm.rText (Cm.rNum 1099511627776 (Cm.rNum 1099511627776 (Cm.rNum 1099511627776 (Cm.rNum 1099511627776 (.ok b)).2).2).2).2).2).1)) rfl
  refine Rscan_text_spec hs (by simp) h29.f1 fun w31 h31 => ⟨_, rfl, rfl, wrOk_fld h31.f1.at_blk (by simp [cell8]) rfl, ?_⟩
  intro w33
  have h33 := h31.f1.wr_fld (k := 6) (v := .string (bs (Cm.rText (Cm.rText (Cm.rText (Cm.rNum 1099511627776 (Cm.rNum 1099511627776 (Cm.rNum 1099511627776 (Cm.rNum 1099511627776 (.ok b)).2).2).2).2).2).2).1)) rfl
  refine Rscan_targets_spec hs (by simp) h33.f1 fun w35 s h35 => ⟨_, _, _, rfl, rfl, wrOk_fld h35.f2.at_blk (by simp [cell8]) rfl, ?_⟩
  intro w37
  have h37 := h35.f2.wr_fld (k := 7) (v := .slice s.1 s.2.1 s.2.2) rfl
  have hcr : cr = Cm.rCmd b := hc0.symm
  have h37b : St E (blkL w3.heap.size 42 (cmdL cr.1 s) :: tgA s cr.1.tg :: rdrA 123 w2.heap.size q b cr.2 :: blkL w.heap.size 42 (cmdL zeroC (none, 0, 0)) :: kn F :: L) w37 := by rw [hcr]; exact h37
  obtain ⟨G, hle, h38, hrt⟩ := (h37b.sel 5 [1, 4, 2, 0, 3] : St E (tgA s cr.1.tg :: kn F :: rdrA 123 w2.heap.size q b cr.2 :: blkL w3.heap.size 42 (cmdL cr.1 s) :: blkL w.heap.size 42 (cmdL zeroC (none, 0, 0)) :: L) w37).freezeT
  have h38 : St E (kn G :: rdrA 123 w2.heap.size q b cr.2 :: blkL w3.heap.size 42 (cmdL cr.1 s) :: blkL w.heap.size 42 (cmdL zeroC (none, 0, 0)) :: L) w37 := h38
  obtain ⟨at_, e, ho, h39⟩ := h38.f1.rdr_open
  have hne : ∀ e, (Cm.rCmd b).2 = .error e → e ≠ 0 := fun e he => by rw [← hcr] at he; rw [he] at ho; exact ho.2
  have hg := getR_of hne
  rw [← hcr] at hg
  have hok : okC cr.1 := by rw [hcr]; exact okC_rCmd b
  have hlen := hs.len
  refine ⟨_, rfl, _, rd_fld h39.at_blk rfl rfl, ?_⟩
  rw [ne_dec]
  -- what is handed back with an error
  have err : ∀ (w1 : World) (x : Int), St E (blkL w.heap.size 42 (cmdL zeroC (none, 0, 0)) :: kn G :: L) w1 → getR b = (zeroC, x) → 
      ∃ x55 : Int, ∃ x56 : Int, ∃ x57 : Int, ∃ x58 : Int, ∃ s59 : ByteArray, ∃ s60 : ByteArray, ∃ s61 : ByteArray, ∃ s62a : Option Addr, ∃ s62l : Nat, ∃ s62c : Nat, rd w1 (⟨w.heap.size, 0, none⟩ : Addr) (.agg #[.int .i64 x55, .int .i64 x56, .int .i64 x57, .int .i64 x58, .string s59, .string s60, .string s61, .slice s62a s62l s62c]) ∧ R (.returned (.tuple #[.agg #[.int .i64 x55, .int .i64 x56, .int .i64 x57, .int .i64 x58, .string s59, .string s60, .string s61, .slice s62a s62l s62c], .int .i64 x])) w1 := fun w1 x h1 hx => by
    rw [hx] at k
    exact ⟨_, _, _, _, _, _, _, _, _, _, rd_agg h1.at_blk (xs := cmdL zeroC (none, 0, 0)) (fun n u hu => by rw [Nat.zero_add]; exact hu), k w1 G (none, 0, 0) hle h1.drop (RdF.nil G none)⟩
  have okw : ∀ {w1 : World} {L2 : List Asrt}, St E (blkL w.heap.size 42 (cmdL zeroC (none, 0, 0)) :: L2) w1 → wrOk w1 (⟨w.heap.size, 0, none⟩ : Addr) (.agg ⟨cmdL zeroC (none, 0, 0)⟩) := fun h1 => wrOk_agg h1.at_blk (by simp [cmdL]) (one_cmdL _ _)
  cases hst : cr.2 with
  | error x =>
    rw [hst] at ho hg
    obtain ⟨rfl, hx0⟩ := ho
    have hg : getR b = (zeroC, e) := hg.trans (if_neg hx0)
    refine ite_d (fun _ => ?_) fun hh => absurd hx0 hh
    intro w40
    have h40 := h39.drew
    have h40r : St E (blkL w.heap.size 42 (cmdL zeroC (none, 0, 0)) :: blkL w2.heap.size 123 (rdrL q at_ e) :: kn G :: L) w40 := h40.sel 4 [3, 0, 1]
    refine ⟨_, rfl, _, rd_fld h40.at_blk rfl rfl, rfl, okw h40r, ?_⟩
    intro w43
    have h43 := h40r.wr_agg0 (xs := cmdL zeroC (none, 0, 0)) rfl
    exact ⟨⟨rd_fld h43.f1.at_blk rfl rfl, trivial⟩, err w43 _ (h43.sel 3 [0, 2] : St E (blkL w.heap.size 42 (cmdL zeroC (none, 0, 0)) :: kn G :: L) w43) hg⟩
  | ok r =>
    rw [hst] at ho hg
    obtain ⟨rfl, hab, rfl⟩ := ho
    refine ite_d (fun hh => absurd rfl hh) fun _ => ⟨_, rfl, _, rd_fld h39.at_blk rfl rfl, ?_⟩
    rw [ne_dec]
    have h39r : St E (blkL w.heap.size 42 (cmdL zeroC (none, 0, 0)) :: blkL w3.heap.size 42 (cmdL cr.1 s) :: kn G :: L) w37 := h39.sel 4 [3, 2, 1]
    refine ite_d (fun h1 => ?_) fun h1 => ?_
    · have hn : b.drop at_ ≠ [] := by rw [Ne, drop_nil hab]; omega
      have e4 : endE (.ok (b.drop at_)) (decide (Cm.chk cr.1 = 0)) = 4 := by simp [endE, hn]
      rw [e4, if_neg (by decide)] at hg
      refine ⟨rfl, okw h39r, ?_⟩
      intro w54
      have h54 := h39r.wr_agg0 (xs := cmdL zeroC (none, 0, 0)) rfl
      exact err w54 4 (h54.sel 3 [0, 2] : St E (blkL w.heap.size 42 (cmdL zeroC (none, 0, 0)) :: kn G :: L) w54) hg
    · have hn : b.drop at_ = [] := by rw [drop_nil hab]; omega
      refine ⟨_, _, _, _, _, _, _, _, _, _, rd_agg h39r.f1.at_blk (xs := cmdL cr.1 s) (fun n u hu => by rw [Nat.zero_add]; exact hu), ?_⟩
      refine RCheck_spec (F := G) (c := cr.1) (s := s) (by simp) h39r hrt hok fun w72 h72 => ⟨_, rfl, ?_⟩
      rw [ne_dec]
      refine ite_d (fun h2 => ?_) fun h2 => ?_
      · have e4 : endE (.ok (b.drop at_)) (decide (Cm.chk cr.1 = 0)) = 4 := by simp [endE, h2]
        rw [e4, if_neg (by decide)] at hg
        refine ⟨rfl, okw h72, ?_⟩
        intro w54
        have h54 := h72.wr_agg0 (xs := cmdL zeroC (none, 0, 0)) rfl
        exact err w54 4 (h54.sel 3 [0, 2] : St E (blkL w.heap.size 42 (cmdL zeroC (none, 0, 0)) :: kn G :: L) w54) hg
      · have e0 : endE (.ok (b.drop at_)) (decide (Cm.chk cr.1 = 0)) = 0 := by simp [endE, hn, h2]
        rw [e0, if_pos rfl] at hg
        rw [hg] at k
        refine ⟨_, _, _, _, _, _, _, _, _, _, rd_agg h72.f1.at_blk (xs := cmdL cr.1 s) (fun n u hu => by rw [Nat.zero_add]; exact hu), rfl, wrOk_agg h72.at_blk (xs := cmdL cr.1 s) (by simp [cmdL]) (one_cmdL _ _), ?_⟩
        intro w37
        have h37 := h72.wr_agg0 (xs := cmdL cr.1 s) rfl
        exact ⟨_, _, _, _, _, _, _, _, _, _, rd_agg h37.at_blk (xs := cmdL cr.1 s) (fun n u hu => by rw [Nat.zero_add]; exact hu), k w37 G s hle (h37.sel 3 [2] : St E (kn G :: L) w37) hrt⟩

/-! ### the same -/
theorem str_beq (a b : Cm.Bs) : ((bs a).toList == (bs b).toList) = decide (a = b) := by
  rw [bs_toList, bs_toList, Bool.eq_iff_iff]; simp
theorem drop_step {α : Type} [DecidableEq α] {l1 l2 : List α} {j : Nat} (h1 : j < l1.length) (h2 : j < l2.length) : decide (l1.drop j = l2.drop j) = (decide (l1[j] = l2[j]) && decide (l1.drop (j + 1) = l2.drop (j + 1))) := by
  rw [List.drop_eq_getElem_cons h1, List.drop_eq_getElem_cons h2, Bool.eq_iff_iff, Bool.and_eq_true, decide_eq_true_eq, decide_eq_true_eq, decide_eq_true_eq, List.cons.injEq]
theorem SameTargets_spec {s1 s2 : Sl} {l1 l2 : List Cm.Tgt} (hm : kn F ∈ L) (h : St E L w) (r1 : RdF F s1.1 s1.2.1 2 (l1.flatMap tV)) (r2 : RdF F s2.1 s2.2.1 2 (l2.flatMap tV)) (hl : l1.length ≤ huge)
    (k : ∀ w', St E L w' → R (.returned (.bool (decide (l1 = l2)))) w') : Calls Tryz.prog 42 #[.slice s1.1 s1.2.1 s1.2.2, .slice s2.1 s2.2.1 s2.2.2] w R := by
  have n1 := tgs_len hm h r1
  have n2 := tgs_len hm h r2
  refine C_ref08_SameTargets ?_
  unfold T_ref08_SameTargets
  rw [← n1, ← n2, ne_dec]
  refine ite_d (fun hh => congB (k w h) ?_) fun hh => ?_
  · rw [decide_eq_false_iff_not]; rintro rfl; exact hh rfl
  have hll : l1.length = l2.length := by simp at hh; omega
  unfold T_ref08_SameTargets_1
  intro X hX
  refine up_to l1.length (Q := fun j => ∀ w, St E L w → decide (l1 = l2) = decide (l1.drop j = l2.drop j) → X (j : Int) w) ?_ w h rfl
  intro j hj ih w h he
  refine hX _ _ ?_
  unfold T_ref08_SameTargets_1_body
  refine ite_d (fun hc => ?_) fun hc => ?_
  · have hj1 : j < l1.length := by omega
    have hj2 : j < l2.length := by omega
    rw [drop_step hj1 hj2] at he
    intro w6
    have h6 := h.drew
    obtain ⟨a1, e1, _, d1⟩ := (r1.at h6 hm).elem tV_len (List.getElem?_eq_getElem hj1) (by decide)
    obtain ⟨a2, e2, _, d2⟩ := (r2.at h6 hm).elem tV_len (List.getElem?_eq_getElem hj2) (by decide)
    refine ⟨by omega, by omega, a1, e1, _, by rw [Int.toNat_natCast]; exact d1 0 _ rfl rfl, by omega, by omega, a2, e2, _, by rw [Int.toNat_natCast]; exact d2 0 _ rfl rfl, ?_⟩
    rw [str_beq]
    refine ite_n (fun h1 => ⟨trivial, trivial, congB (k _ h6) ?_⟩) fun h1 => ⟨by omega, by omega, a1, e1, _, by rw [Int.toNat_natCast]; exact d1 1 _ rfl rfl, by omega, by omega, a2, e2, _, by rw [Int.toNat_natCast]; exact d2 1 _ rfl rfl, runV_ok run_fbits ⟨_, rfl, ⟨by rw [Int.toNat_natCast]; exact d2 1 _ rfl rfl, trivial⟩, runV_ok run_fbits ⟨_, rfl, trivial, ?_⟩⟩⟩
    · rw [he, Bool.and_eq_false_iff]; refine .inl (decide_eq_false fun e => ?_)
      rw [e] at h1; simp at h1
    · rw [ne_dec]
      refine ite_d (fun h2 => congB (k _ h6) ?_) fun h2 => ?_
      · rw [he, Bool.and_eq_false_iff]; refine .inl (decide_eq_false fun e => ?_)
        rw [e] at h2; exact h2 rfl
      · rw [succ_huge (by omega)]
        refine ih hj1 _ h6 ?_
        rw [he]
        have e : l1[j] = l2[j] := by
          have h1' : l1[j].addr = l2[j].addr := by simpa using h1
          have h2' : l1[j].w = l2[j].w := by simp at h2; omega
          cases hh1 : l1[j]; cases hh2 : l2[j]; simp_all
        rw [decide_eq_true e, Bool.true_and]
  · have : j = l1.length := by omega
    subst this
    rw [List.drop_length, List.drop_of_length_le (by omega)] at he
    exact congB (k w h) (by rw [he]; rfl)
theorem SameCommand_spec {c1 c2 : Cm.Cmd} {s1 s2 : Sl} (hm : kn F ∈ L) (h : St E L w) (r1 : RdF F s1.1 s1.2.1 2 (c1.tg.flatMap tV)) (r2 : RdF F s2.1 s2.2.1 2 (c2.tg.flatMap tV)) (hl : c1.tg.length ≤ huge)
    (k : ∀ w', St E L w' → R (.returned (.bool (decide (c1 = c2)))) w') : Calls Tryz.prog 32 #[cmdV c1 s1, cmdV c2 s2] w R := by
  refine C_ref08_SameCommand ?_
  unfold T_ref08_SameCommand
  intro w17 w18
  have h17 : St E (blkL w.heap.size 42 (cmdL c1 s1) :: L) w17 := h.alloc (.cells ⟨cmdL c1 s1⟩ 42)
  have h18 : St E (blkL w17.heap.size 42 (cmdL c2 s2) :: blkL w.heap.size 42 (cmdL c1 s1) :: L) w18 := h17.alloc (.cells ⟨cmdL c2 s2⟩ 42)
  have fin : ∀ w' (v : Bool), St E L w' → decide (c1 = c2) = v → R (.returned (.bool v)) w' := fun w' v h' e => e ▸ k w' h'
  have no : ∀ w', St E L w' → ¬ c1 = c2 → R (.returned (.bool false)) w' := fun w' h' e => fin w' _ h' (decide_eq_false e)
  have a1 := h18.f1.at_blk
  have a2 := h18.at_blk
  simp -zeta only [eq_dec]
  refine ⟨_, rd_cell a1 rfl rfl, _, rd_cell a2 rfl rfl, ite_d (fun e1 => ⟨_, rd_fld a1 rfl rfl, _, rd_fld a2 rfl rfl, ite_d (fun e2 => ⟨_, rd_fld a1 rfl rfl, _, rd_fld a2 rfl rfl, ite_d (fun e3 => ⟨_, rd_fld a1 rfl rfl, _, rd_fld a2 rfl rfl, ite_d (fun e4 => ⟨_, rd_fld a1 rfl rfl, _, rd_fld a2 rfl rfl, ?_⟩) fun hh => no _ h18.drop.drop fun e => hh (by rw [e])⟩) fun hh => no _ h18.drop.drop fun e => hh (by rw [e])⟩) fun hh => no _ h18.drop.drop fun e => hh (by rw [e])⟩) fun hh => no _ h18.drop.drop fun e => hh (by rw [e])⟩
  rw [str_beq]
  refine ite_d (fun e5 => ⟨_, rd_fld a1 rfl rfl, _, rd_fld a2 rfl rfl, ?_⟩) fun hh => no _ h18.drop.drop fun e => hh (by rw [e])
  rw [str_beq]
  refine ite_d (fun e6 => ⟨_, rd_fld a1 rfl rfl, _, rd_fld a2 rfl rfl, ?_⟩) fun hh => no _ h18.drop.drop fun e => hh (by rw [e])
  rw [str_beq]
  refine ite_d (fun e7 => ⟨_, _, _, rd_fld a1 rfl rfl, _, _, _, rd_fld a2 rfl rfl, SameTargets_spec (F := F) (List.mem_cons_of_mem _ (List.mem_cons_of_mem _ hm)) h18 r1 r2 hl fun w' h' => ⟨_, rfl, fin _ _ h'.drop.drop ?_⟩⟩) fun hh => no _ h18.drop.drop fun e => hh (by rw [e])
  cases c1; cases c2
  simp only at e1 e2 e3 e4 e5 e6 e7
  subst e1; subst e2; subst e3; subst e4; subst e5; subst e6; subst e7
  simp
end
end Go.Vc
