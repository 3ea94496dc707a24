/- Texts of this claim's own, laid into one. -/
import Derived.Test.YtclinifclfahfaaGreatProg
import Derived.KernelRfl
import Derived.Maps.RangeRun
import Derived.Sort.MapsRangeIn
import Derived.RangeFuncGives
import Derived.TacticsInMore
import Derived.WalkKit
import Derived.Test.YtclinifclfahfaaGreatXSnapSavesA
import Derived.Test.YtclinifclfahfaaGreatXSnapSavesB
import Derived.Test.YtclinifclfahfaaGreatXSnapSavesC
set_option linter.all false
namespace Go.Sn
def badI (x t : Int) (e : Bool) : Bool := decide (x < 1) || decide (1099511627776 < x) || decide (t < 1) || decide (1099511627776 < t) || e
end Go.Sn
namespace Go.Vc
open Go Go.Proofs Go.Proofs.YtclinifclfahfaaGreat
set_option maxRecDepth 100000
section
variable {E w : World} {L : List Asrt} {R : RT} {F G : Fz} {q s : Sl} {b : Cm.Bs} {l : List Int} {xs : Cm.Bs}
def snpL (x t : Int) (v l d : Sl) : List Value := [.int .i64 x, .int .i64 t, .slice v.1 v.2.1 v.2.2, .slice l.1 l.2.1 l.2.2, .slice d.1 d.2.1 d.2.2]
def snpV (x t : Int) (v l d : Sl) : Value := .agg ⟨snpL x t v l d⟩
structure snpR (F : Fz) (v l d : Sl) (s : Sn.Snp) : Prop where
  mem : memR F v l s.mem
  data : Src F d s.data
theorem snpR.mono {v l d : Sl} {s : Sn.Snp} (h : snpR F v l d s) (k : Fz.le F G) : snpR G v l d s := ⟨h.mem.mono k, h.data.mono k⟩
theorem one_snpL (x t : Int) (v l d : Sl) : ∀ u ∈ snpL x t v l d, one u = true := by intro u hu; simp [snpL] at hu; rcases hu with rfl | rfl | rfl | rfl | rfl <;> rfl
theorem rd_snp {b : Nat} {x t : Int} {v l d : Sl} (h : St E (blkL b 29 (snpL x t v l d) :: L) w) : rd w ⟨b, 0, none⟩ (snpV x t v l d) := rd_agg (xs := snpL x t v l d) h.at_blk (by intro i u hu; rw [Nat.zero_add]; exact hu)
theorem rd_snp_mem {b : Nat} {x t : Int} {v l d : Sl} (h : St E (blkL b 29 (snpL x t v l d) :: L) w) : rd w ((⟨b, 0, none⟩ : Addr).add 2) (memV v l) :=
  rd_agg (xs := memL v l) (off := 2) h.at_blk (by
    intro i u hu
    match i, hu with
    | 0, hu => exact hu
    | 1, hu => exact hu
    | i + 2, hu => simp [memL] at hu)
theorem ok_snp {b t0 : Nat} {c : List Value} (h : St E (blkL b t0 c :: L) w) (hl : c.length = 5) (x t : Int) (v l d : Sl) : wrOk w ⟨b, 0, none⟩ (snpV x t v l d) := wrOk_agg h.at_blk (xs := snpL x t v l d) (by rw [hl]; exact Nat.le_refl 5) (one_snpL x t v l d)
theorem St.wr_snp {b t0 : Nat} {c : List Value} (h : St E (blkL b t0 c :: L) w) (hl : c.length = 5) (x t : Int) (v l d : Sl) : St E (blkL b t0 (snpL x t v l d) :: L) (wr w ⟨b, 0, none⟩ (snpV x t v l d)) := h.wr_agg0 (xs := snpL x t v l d) (by rw [hl]; rfl)
theorem own_sees1 (s : Sl) (xs : Cm.Bs) (A : Asrt) : Sees E (A :: byA s xs :: L) s.1 s.2.1 1 (bytesV xs) := fun _ h => (h.f1).rdS_own
theorem own_sees2 (s : Sl) (xs : Cm.Bs) (A B : Asrt) : Sees E (A :: B :: byA s xs :: L) s.1 s.2.1 1 (bytesV xs) := fun _ h => (h.f2).rdS_own
theorem St.by_len2 (h : St E (byA s xs :: L) w) : xs.length = s.2.1 := by have := (h.rdS_own).1; rw [bytesV_len] at this; omega
theorem Snum_spec {p : Sl} {x : Int} (hx : xs.length ≤ 1000000) (h : St E (byA p xs :: L) w) (k : ∀ (w' : World) (p' : Sl), St E (byA p' (xs ++ Cm.num x) :: L) w' → R (.returned (.slice p'.1 p'.2.1 p'.2.2)) w') :
    Calls Tryz.prog 40 #[.slice p.1 p.2.1 p.2.2, .int .i64 x] w R := by
  have hbig : big = 140737488355328 := rfl
  refine C_qae ?_
  unfold T_qae
  refine Number_spec h fun w10 s10 h10 => ⟨_, _, _, _, rfl, ?_⟩
  have h6 := Sn.numLen x
  obtain ⟨p', w14, hr, h14⟩ := app_b (c2 := s10.2.2) h10.f1 h10.rdS_own (by omega)
  exact runV_ok hr ⟨_, _, _, rfl, k _ _ h14.f1.drop⟩
theorem R7add_spec {p : Sl} {x : Int} (hx : xs.length ≤ 1000000) (h : St E (byA p xs :: L) w) (k : ∀ (w' : World) (p' : Sl), St E (byA p' (xs ++ Cm.num x) :: L) w' → R (.returned (.slice p'.1 p'.2.1 p'.2.2)) w') :
    Calls Tryz.prog 43 #[.slice p.1 p.2.1 p.2.2, .int .i64 x] w R := by
  have hbig : big = 140737488355328 := rfl
  refine C_qa3 ?_
  unfold T_qa3
  refine RNumber_spec h fun w10 s10 h10 => ⟨_, _, _, _, rfl, ?_⟩
  have h6 := Sn.numLen x
  obtain ⟨p', w14, hr, h14⟩ := app_b (c2 := s10.2.2) h10.f1 h10.rdS_own (by omega)
  exact runV_ok hr ⟨_, _, _, rfl, k _ _ h14.f1.drop⟩
theorem mputE_ne (m : Sn.Mem) : (mputE m != 0) = !Sn.rightM m := by
  unfold mputE
  cases Sn.rightM m <;> rfl
theorem bad_look {K : Bool → World → Prop} {x t e : Int} {a : Addr} (h0 : rd w a (.int .i64 x)) (h1 : rd w (a.add 1) (.int .i64 t)) (k : K (Sn.badI x t (e != 0)) w) :
    ∃ x17 : Int, rd w a (.int .i64 x17) ∧ if (decide ((x17 : Int) < 1)) = true then (K true w) else (∃ x18 : Int, rd w a (.int .i64 x18) ∧ if (decide ((x18 : Int) > 1099511627776)) = true then (K true w) else (∃ x19 : Int, rd w (a.add 1) (.int .i64 x19) ∧ if (decide ((x19 : Int) < 1)) = true then (K true w) else (∃ x20 : Int, rd w (a.add 1) (.int .i64 x20) ∧ if (decide ((x20 : Int) > 1099511627776)) = true then (K true w) else (K ((e : Int) != 0) w)))) := by
  unfold Sn.badI at k
  refine ⟨x, h0, ite_d (fun hc => ?_) fun hc => ⟨x, h0, ite_d (fun hc2 => ?_) fun hc2 => ⟨t, h1, ite_d (fun hc3 => ?_) fun hc3 => ⟨t, h1, ite_d (fun hc4 => ?_) fun hc4 => ?_⟩⟩⟩⟩
  · rw [decide_eq_true hc] at k; simpa using k
  · rw [decide_eq_true (show 1099511627776 < x from hc2)] at k; simpa using k
  · rw [decide_eq_true hc3] at k; simpa using k
  · rw [decide_eq_true (show 1099511627776 < t from hc4)] at k; simpa using k
  · rw [decide_eq_false hc, decide_eq_false (show ¬ 1099511627776 < x from hc2), decide_eq_false hc3, decide_eq_false (show ¬ 1099511627776 < t from hc4)] at k
    simpa using k
theorem look_S {K : Bool → World → Prop} {Kp : XT} {x t e : Int} {a : Addr} (h0 : rd w a (.int .i64 x)) (h1 : rd w (a.add 1) (.int .i64 t)) (k : K (Sn.badI x t (e != 0)) w) : T_q9p a e w K Kp := by
  unfold T_q9p
  exact bad_look h0 h1 k
theorem look_R {K : Bool → World → Prop} {Kp : XT} {x t e : Int} {a : Addr} (h0 : rd w a (.int .i64 x)) (h1 : rd w (a.add 1) (.int .i64 t)) (k : K (Sn.badI x t (e != 0)) w) : T_q92 a e w K Kp := by
  unfold T_q92
  exact bad_look h0 h1 k
theorem badS_eq (s : Sn.Snp) : Sn.badI s.idx s.term (mputE s.mem != 0) = Sn.badS s := by
  unfold Sn.badI Sn.badS
  rw [mputE_ne]
set_option maxHeartbeats 1000000 in
theorem SPut_spec {v l d : Sl} {s : Sn.Snp} (hm : kn F ∈ L) (r : snpR F v l d s) (z1 : s.mem.v.length ≤ huge) (z2 : s.mem.l.length ≤ huge) (h : St E L w)
    (k : ∀ (w' : World) (p : Sl), St E (byA p (Sn.putB s) :: L) w' → R (.returned (.tuple #[.slice p.1 p.2.1 p.2.2, .int .i64 (Sn.putE s)])) w') : Calls Tryz.prog 9 #[snpV s.idx s.term v l d] w R := by
  have hh : huge = 9223372036854775807 := rfl
  have hbig : big = 140737488355328 := rfl
  refine C_qad ?_
  unfold T_qad
  intro w6
  have h6 : St E (blkL w.heap.size 29 (snpL s.idx s.term v l d) :: L) w6 := h.alloc (.cells ⟨snpL s.idx s.term v l d⟩ 29)
  clear_value w6
  generalize w.heap.size = bs at *
  refine ⟨_, _, _, _, _, _, rd_snp_mem h6, ?_⟩
  refine MPut_spec (List.mem_cons_of_mem _ hm) r.mem z1 z2 h6 fun w10 p10 h10 => ⟨_, _, _, _, rfl, ?_⟩
  have hk2 : ∀ {w : World}, Sn.badS s = true → St E (byA p10 (mputB s.mem) :: blkL bs 29 (snpL s.idx s.term v l d) :: L) w → R (.returned (.tuple #[.slice none 0 0, .int .i64 2])) w := fun {w} hb h => by
    have e1 : Sn.putE s = 2 := by unfold Sn.putE; rw [if_pos hb]
    have e2 : Sn.putB s = [] := by unfold Sn.putB; rw [e1]; rfl
    rw [e1, e2] at k
    exact k w nilS h.drop.drop.by_nil
  unfold T_q9o
  refine look_S (rd_cell h10.f1.at_blk rfl rfl) (rd_fld h10.f1.at_blk rfl rfl) ?_
  rw [badS_eq]
  refine ite_b (fun hb => hk2 hb h10) fun hb => ?_
  have hbad : ¬ (Sn.badS s = true) := by rw [hb]; simp
  have hdl := r.data.len
  refine ⟨_, _, _, rd_fld h10.f1.at_blk rfl rfl, ite_d (fun hc => ?_) fun hc => ?_⟩
  · have e1 : Sn.putE s = 6 := by unfold Sn.putE; rw [if_neg hbad, if_pos (by omega)]
    have e2 : Sn.putB s = [] := by unfold Sn.putB; rw [e1]; rfl
    rw [e1, e2] at k
    exact k w10 nilS h10.drop.drop.by_nil
  have e1 : Sn.putE s = 0 := by unfold Sn.putE; rw [if_neg hbad, if_neg (by omega)]
  have e2 : Sn.putB s = Sn.frame (Sn.body s) := by unfold Sn.putB; rw [e1]; rfl
  rw [e1, e2] at k
  obtain ⟨hbl, hdl2, hrm, _⟩ := Sn.body_len e1
  have hml := Sn.memB_len hrm
  have hmb : mputB s.mem = Sn.memB s.mem := by unfold mputB; rw [if_pos hrm]
  rw [hmb] at h10
  have hl10 := h10.by_len2
  have g1 := Sn.numLen s.idx; have g2 := Sn.numLen s.term; have g3 := Sn.numLen (Sn.memB s.mem).length; have g4 := Sn.numLen s.data.length; have g5 := Sn.numLen (p10.2.1 : Nat); have g6 := Sn.numLen (d.2.1 : Nat)
  dsimp -zeta only
  intro w34
  have h34 : St E (byA p10 (Sn.memB s.mem) :: blkL bs 29 (snpL s.idx s.term v l d) :: L) w34 := h10.drew
  clear_value w34
  refine ⟨_, rd_cell h34.f1.at_blk rfl rfl, _, rd_fld h34.f1.at_blk rfl rfl, ?_⟩
  refine Snum_spec (p := nilS) (xs := []) (by simp) h34.by_nil fun w38 p38 h38 => ⟨_, _, _, rfl, ⟨rd_fld h38.f2.at_blk rfl rfl, trivial⟩, ?_⟩
  refine Snum_spec (by simp; omega) h38 fun w41 p41 h41 => ⟨_, _, _, rfl, trivial, ?_⟩
  refine Snum_spec (by simp only [List.length_append, List.length_nil]; omega) h41 fun w44 p44 h44 => ⟨_, _, _, rfl, ?_⟩
  obtain ⟨p47, w47, hr, h47⟩ := app_b (a2 := p10.1) (l2 := p10.2.1) (c2 := p10.2.2) (ys := Sn.memB s.mem) h44 h44.f1.rdS_own (by simp only [List.length_append, List.length_nil]; omega)
  refine runV_ok hr ⟨_, _, _, rfl, ?_⟩
  intro w49
  have h49 : St E _ w49 := h47.drew
  clear_value w49
  refine ⟨_, _, _, rd_fld h49.f2.at_blk rfl rfl, _, _, _, rd_fld h49.f2.at_blk rfl rfl, ?_⟩
  refine Snum_spec (by simp only [List.length_append, List.length_nil]; omega) h49 fun w53 p53 h53 => ⟨_, _, _, rfl, ⟨rd_fld h53.f2.at_blk rfl rfl, trivial⟩, ?_⟩
  obtain ⟨p56, w56, hr, h56⟩ := app_b (a2 := d.1) (l2 := d.2.1) (c2 := d.2.2) (ys := s.data) h53 (r.data.rd.at h53 (by simp [hm])) (by simp only [List.length_append, List.length_nil]; omega)
  refine runV_ok hr ⟨_, _, _, rfl, trivial, ?_⟩
  have hbody : (((((([] ++ Cm.num s.idx) ++ Cm.num s.term) ++ Cm.num (p10.2.1 : Int)) ++ Sn.memB s.mem) ++ Cm.num (d.2.1 : Int)) ++ s.data) = Sn.body s := by
    unfold Sn.body
    rw [hl10, hdl]
    simp
  rw [hbody] at h56
  have hl56 := h56.by_len2
  refine Frame_spec (b := Sn.body s) (L := byA p56 (Sn.body s) :: byA p10 (Sn.memB s.mem) :: blkL bs 29 (snpL s.idx s.term v l d) :: L) (fun A => own_sees1 _ _ A) hl56 h56 fun w59 p59 h59 => ⟨_, _, _, _, rfl, ?_⟩
  have e3 : frameE (Sn.body s) = 0 := by unfold frameE; rw [if_neg (by omega)]
  have e4 : frameB (Sn.body s) = Sn.frame (Sn.body s) := by unfold frameB; rw [if_neg (by omega)]
  rw [e3]
  rw [e4] at h59
  exact k w59 p59 (h59.sel 4 [0])
set_option maxHeartbeats 1000000 in
theorem RSPut_spec {v l d : Sl} {s : Sn.Snp} (hm : kn F ∈ L) (r : snpR F v l d s) (z1 : s.mem.v.length ≤ huge) (z2 : s.mem.l.length ≤ huge) (h : St E L w)
    (k : ∀ (w' : World) (p : Sl), St E (byA p (Sn.putB s) :: L) w' → R (.returned (.tuple #[.slice p.1 p.2.1 p.2.2, .int .i64 (Sn.putE s)])) w') : Calls Tryz.prog 10 #[snpV s.idx s.term v l d] w R := by
  have hh : huge = 9223372036854775807 := rfl
  have hbig : big = 140737488355328 := rfl
  refine C_qa2 ?_
  unfold T_qa2
  intro w6
  have h6 : St E (blkL w.heap.size 29 (snpL s.idx s.term v l d) :: L) w6 := h.alloc (.cells ⟨snpL s.idx s.term v l d⟩ 29)
  clear_value w6
  generalize w.heap.size = bs at *
  refine ⟨_, _, _, _, _, _, rd_snp_mem h6, ?_⟩
  refine RMPut_spec (List.mem_cons_of_mem _ hm) r.mem z1 z2 h6 fun w10 p10 h10 => ⟨_, _, _, _, rfl, ?_⟩
  have hk2 : ∀ {w : World}, Sn.badS s = true → St E (byA p10 (mputB s.mem) :: blkL bs 29 (snpL s.idx s.term v l d) :: L) w → R (.returned (.tuple #[.slice none 0 0, .int .i64 2])) w := fun {w} hb h => by
    have e1 : Sn.putE s = 2 := by unfold Sn.putE; rw [if_pos hb]
    have e2 : Sn.putB s = [] := by unfold Sn.putB; rw [e1]; rfl
    rw [e1, e2] at k
    exact k w nilS h.drop.drop.by_nil
  refine look_R (rd_cell h10.f1.at_blk rfl rfl) (rd_fld h10.f1.at_blk rfl rfl) ?_
  rw [badS_eq]
  refine ite_b (fun hb => hk2 hb h10) fun hb => ?_
  have hbad : ¬ (Sn.badS s = true) := by rw [hb]; simp
  have hdl := r.data.len
  refine ⟨_, _, _, rd_fld h10.f1.at_blk rfl rfl, ite_d (fun hc => ?_) fun hc => ?_⟩
  · have e1 : Sn.putE s = 6 := by unfold Sn.putE; rw [if_neg hbad, if_pos (by omega)]
    have e2 : Sn.putB s = [] := by unfold Sn.putB; rw [e1]; rfl
    rw [e1, e2] at k
    exact k w10 nilS h10.drop.drop.by_nil
  have e1 : Sn.putE s = 0 := by unfold Sn.putE; rw [if_neg hbad, if_neg (by omega)]
  have e2 : Sn.putB s = Sn.frame (Sn.body s) := by unfold Sn.putB; rw [e1]; rfl
  rw [e1, e2] at k
  obtain ⟨hbl, hdl2, hrm, _⟩ := Sn.body_len e1
  have hml := Sn.memB_len hrm
  have hmb : mputB s.mem = Sn.memB s.mem := by unfold mputB; rw [if_pos hrm]
  rw [hmb] at h10
  have hl10 := h10.by_len2
  have g1 := Sn.numLen s.idx; have g2 := Sn.numLen s.term; have g3 := Sn.numLen (Sn.memB s.mem).length; have g4 := Sn.numLen s.data.length; have g5 := Sn.numLen (p10.2.1 : Nat); have g6 := Sn.numLen (d.2.1 : Nat)
  intro w25
  have h25 : St E (byA p10 (Sn.memB s.mem) :: blkL bs 29 (snpL s.idx s.term v l d) :: L) w25 := h10.drew
  clear_value w25
  refine ⟨_, rd_cell h25.f1.at_blk rfl rfl, _, rd_fld h25.f1.at_blk rfl rfl, ?_⟩
  intro w28
  have h28 : St E (byA (some ⟨w25.heap.size, 0, none⟩, 0, 0) [] :: byA p10 (Sn.memB s.mem) :: blkL bs 29 (snpL s.idx s.term v l d) :: L) w28 := h25.by_new [] (by decide)
  clear_value w28
  refine ⟨⟨rd_fld h28.f2.at_blk rfl rfl, rd_cell h28.f2.at_blk rfl rfl, trivial⟩, ?_⟩
  refine R7add_spec (p := (some ⟨w25.heap.size, 0, none⟩, 0, 0)) (xs := []) (by simp) h28 fun w38 p38 h38 => ⟨_, _, _, rfl, ⟨rd_fld h38.f2.at_blk rfl rfl, trivial⟩, ?_⟩
  refine R7add_spec (by simp; omega) h38 fun w41 p41 h41 => ⟨_, _, _, rfl, trivial, ?_⟩
  refine R7add_spec (by simp only [List.length_append, List.length_nil]; omega) h41 fun w44 p44 h44 => ⟨_, _, _, rfl, ?_⟩
  obtain ⟨p47, w47, hr, h47⟩ := app_b (a2 := p10.1) (l2 := p10.2.1) (c2 := p10.2.2) (ys := Sn.memB s.mem) h44 h44.f1.rdS_own (by simp only [List.length_append, List.length_nil]; omega)
  refine runV_ok hr ⟨_, _, _, rfl, ?_⟩
  refine ⟨_, _, _, rd_fld h47.f2.at_blk rfl rfl, ?_⟩
  refine R7add_spec (by simp only [List.length_append, List.length_nil]; omega) h47 fun w53 p53 h53 => ⟨_, _, _, rfl, _, _, _, rd_fld h53.f2.at_blk rfl rfl, ?_⟩
  obtain ⟨p56, w56, hr, h56⟩ := app_b (a2 := d.1) (l2 := d.2.1) (c2 := d.2.2) (ys := s.data) h53 (r.data.rd.at h53 (by simp [hm])) (by simp only [List.length_append, List.length_nil]; omega)
  refine runV_ok hr ⟨_, _, _, rfl, ?_⟩
  have hbody : (((((([] ++ Cm.num s.idx) ++ Cm.num s.term) ++ Cm.num (p10.2.1 : Int)) ++ Sn.memB s.mem) ++ Cm.num (d.2.1 : Int)) ++ s.data) = Sn.body s := by
    unfold Sn.body
    rw [hl10, hdl]
    simp
  rw [hbody] at h56
  have hl56 := h56.by_len2
  refine RFrame_spec (b := Sn.body s) (L := byA p56 (Sn.body s) :: byA p10 (Sn.memB s.mem) :: blkL bs 29 (snpL s.idx s.term v l d) :: L) (fun A B => own_sees2 _ _ A B) hl56 h56 fun w59 p59 h59 => ⟨_, _, _, _, rfl, ?_⟩
  have e3 : frameE (Sn.body s) = 0 := by unfold frameE; rw [if_neg (by omega)]
  have e4 : frameB (Sn.body s) = Sn.frame (Sn.body s) := by unfold frameB; rw [if_neg (by omega)]
  rw [e3]
  rw [e4] at h59
  exact k w59 p59 (h59.sel 4 [0])
end
end Go.Vc
namespace Go.Sn
def markOf (b : Bs) (a : Nat) : Except Int Nat := match tk (b.drop a) with
  | .error e => .error e
  | .ok (n, _) => if n = 0 then .error 4 else .ok n
def rowOf (b : Bs) (a lim : Nat) : Except Int Nat := match tk (b.drop a) with
  | .error e => .error e
  | .ok (n, r) => if lim < n then .error 6 else if r.length < n then .error 3 else .ok n
theorem markOf_err {b : Bs} {a : Nat} {e : Int} (h : markOf b a = .error e) : tk (b.drop a) = .error e ∨ (∃ r, tk (b.drop a) = .ok (0, r)) ∧ e = 4 := by
  unfold markOf at h
  cases h1 : tk (b.drop a) with
  | error x => rw [h1] at h; injection h with h; rw [h]; exact .inl rfl
  | ok p =>
    obtain ⟨n, r⟩ := p
    rw [h1] at h
    simp only at h
    split at h
    · rename_i hz
      injection h with h
      subst hz
      exact .inr ⟨⟨r, rfl⟩, h.symm⟩
    · cases h
theorem rowOf_err {b : Bs} {a lim : Nat} {e : Int} (h : rowOf b a lim = .error e) : tk (b.drop a) = .error e ∨ ∃ n r, tk (b.drop a) = .ok (n, r) ∧ ((lim < n ∧ e = 6) ∨ (¬ lim < n ∧ r.length < n ∧ e = 3)) := by
  unfold rowOf at h
  cases h1 : tk (b.drop a) with
  | error x => rw [h1] at h; injection h with h; rw [h]; exact .inl rfl
  | ok p =>
    obtain ⟨n, r⟩ := p
    rw [h1] at h
    simp only at h
    split at h
    · rename_i hz
      injection h with h
      exact .inr ⟨n, r, rfl, .inl ⟨hz, h.symm⟩⟩
    · rename_i hz
      split at h
      · rename_i hz2
        injection h with h
        exact .inr ⟨n, r, rfl, .inr ⟨hz, hz2, h.symm⟩⟩
      · cases h
theorem getIn_1e {b : Bs} {e : Int} (h : markOf b 0 = .error e) : getIn b = .error e := by
  unfold getIn
  rcases markOf_err h with g | ⟨⟨r, g⟩, rfl⟩
  · rw [List.drop_zero] at g; rw [g]
  · rw [List.drop_zero] at g; rw [g]; rfl
section
variable {b : Bs} {i t n m1 m2 m3 m4 k : Nat} {e : Int}
theorem getIn_2e (h1 : tk b = .ok (i, b.drop m1)) (hi : i ≠ 0) (h : markOf b m1 = .error e) : getIn b = .error e := by
  unfold getIn
  rw [h1]
  simp only
  rw [if_neg hi]
  rcases markOf_err h with g | ⟨⟨r, g⟩, rfl⟩
  · rw [g]
  · rw [g]; rfl
theorem getIn_3e (h1 : tk b = .ok (i, b.drop m1)) (hi : i ≠ 0) (h2 : tk (b.drop m1) = .ok (t, b.drop m2)) (ht : t ≠ 0) {lim : Nat} (hl : 1099511627776 ≤ lim) (h : rowOf b m2 lim = .error e) : getIn b = .error e := by
  unfold getIn
  rw [h1]
  simp only
  rw [if_neg hi, h2]
  simp only
  rw [if_neg ht]
  rcases rowOf_err h with g | ⟨n, r, g, ⟨h3, _⟩ | ⟨_, h3, rfl⟩⟩
  · rw [g]
  · have := (tk_got g).2; omega
  · rw [g]
    simp only
    rw [if_pos h3]
theorem getIn_3 (h1 : tk b = .ok (i, b.drop m1)) (hi : i ≠ 0) (h2 : tk (b.drop m1) = .ok (t, b.drop m2)) (ht : t ≠ 0) (h3 : tk (b.drop m2) = .ok (n, b.drop m3)) (hn : m3 + n ≤ b.length) :
    getIn b = match getM ((b.drop m3).take n) with
      | .error e => .error e
      | .ok m => match tk (b.drop (m3 + n)) with
        | .error e => .error e
        | .ok (k, r4) => if 16384 < k then .error 6 else if r4.length < k then .error 3 else if k < r4.length then .error 4 else .ok ⟨i, t, m, r4⟩ := by
  unfold getIn
  rw [h1]
  simp only
  rw [if_neg hi, h2]
  simp only
  rw [if_neg ht, h3]
  simp only
  rw [if_neg (by rw [List.length_drop]; omega), List.drop_drop]
  rfl
theorem row_fin {m : Mem} (h : rowOf b (m3 + n) 16384 = .error e) : (match tk (b.drop (m3 + n)) with
        | .error e => .error e
        | .ok (k, r4) => if 16384 < k then .error 6 else if r4.length < k then .error 3 else if k < r4.length then .error 4 else .ok ⟨i, t, m, r4⟩ : Except Int Snp) = .error e := by
  rcases rowOf_err h with g | ⟨n, r, g, ⟨h3, rfl⟩ | ⟨h4, h3, rfl⟩⟩
  · rw [g]
  · rw [g]
    simp only
    rw [if_pos h3]
  · rw [g]
    simp only
    rw [if_neg h4, if_pos h3]
end
end Go.Sn
namespace Go.Vc
open Go Go.Proofs Go.Proofs.YtclinifclfahfaaGreat
set_option maxRecDepth 100000
section
variable {E w : World} {L : List Asrt} {R : RT} {F G : Fz} {q s : Sl} {b : Cm.Bs} {l : List Int} {xs : Cm.Bs}
theorem St.srcB2 (h : St E (byA q b :: kn F :: L) w) (hb : b.length ≤ 9223372036854775807) : ∃ G, Fz.le F G ∧ St E (kn G :: L) w ∧ Src G q b := by
  have hl := h.by_len2
  have hc := h.ownS_facts.2.1
  obtain ⟨G, hG, h2, hr⟩ := St.freezeS h
  exact ⟨G, hG, h2, hr, hl, hc, hb⟩
def cutS (q : Sl) (a n : Nat) : Sl := (if a + n = a then q.1 else q.1.map (fun x => x.add (a * 1)), a + n - a, a + n - a)
theorem Src.cutS (hs : Src F q b) {a n : Nat} (h : a + n ≤ b.length) : Src F (cutS q a n) ((b.drop a).take n) := by
  have hl := hs.len
  have hc := hs.cap
  refine ⟨?_, by rw [List.length_take, List.length_drop]; unfold Vc.cutS; simp only; omega, by unfold Vc.cutS; simp only; omega, by have := hs.big; rw [List.length_take, List.length_drop]; omega⟩
  have := hs.rd.sub (lo := a) (hi := a + n) (by omega) (by omega) (a + n) (Nat.le_refl _)
  have e : ((bytesV b).drop (a * 1)).take ((a + n - a) * 1) = bytesV ((b.drop a).take n) := by
    rw [Nat.mul_one, Nat.mul_one, show a + n - a = n by omega]
    show ((b.map _).drop a).take n = ((b.drop a).take n).map _
    rw [List.map_take, List.map_drop]
  rw [e] at this
  exact this
theorem Mark_spec {a : Nat} (hs : Src F q b) (hm : kn F ∈ L) (ha : a ≤ b.length) (h : St E L w)
    (kE : ∀ (w' : World) (x y e : Int), Sn.markOf b a = .error e → e ≠ 0 → St E L w' → R (.returned (.tuple #[.int .i64 x, .int .i64 y, .int .i64 e])) w')
    (kO : ∀ (w' : World) (n m : Nat), Sn.tk (b.drop a) = .ok (n, b.drop m) → n ≠ 0 → m ≤ b.length → St E L w' → R (.returned (.tuple #[.int .i64 (n : Int), .int .i64 (m : Int), .int .i64 0])) w') :
    Calls Tryz.prog 47 #[.slice q.1 q.2.1 q.2.2, .int .i64 (a : Int)] w R := by
  refine C_qa6 ?_
  unfold T_qa6
  refine TakeNumber_spec (at_ := a) hs hm h ha fun w4 h4 => ⟨_, _, _, rfl, ?_⟩
  rcases tk_cases b ha with ⟨e, g1, ge, g2⟩ | ⟨n, m, g1, gm, gl, gn, g2⟩
  · rw [g2]
    refine ite_b (fun hh => absurd (by simpa using hh) ge) fun _ => kE _ _ _ e (by unfold Sn.markOf; rw [g1]) ge h4
  · rw [g2]
    refine ite_b (fun _ => ?_) fun hh => by simp at hh
    by_cases hz : n = 0
    · subst hz
      exact ite_b (fun _ => kE _ _ _ 4 (by unfold Sn.markOf; rw [g1]; rfl) (by decide) h4) fun hh => by simp at hh
    · exact ite_b (fun hh => absurd (by simpa using hh) hz) fun _ => kO _ n m g1 hz gl h4
theorem Row_spec {a lim : Nat} {x : Int} (hx : x = (lim : Int)) (hs : Src F q b) (hm : kn F ∈ L) (hbb : b.length ≤ big) (ha : a ≤ b.length) (h : St E L w)
    (kE : ∀ (w' : World) (e : Int), Sn.rowOf b a lim = .error e → e ≠ 0 → St E L w' → R (.returned (.tuple #[.slice none 0 0, .int .i64 0, .int .i64 e])) w')
    (kO : ∀ (w' : World) (n m : Nat), Sn.tk (b.drop a) = .ok (n, b.drop m) → n ≤ lim → m + n ≤ b.length → St E L w' → R (.returned (.tuple #[.slice (cutS q m n).1 (cutS q m n).2.1 (cutS q m n).2.2, .int .i64 ((m + n : Nat) : Int), .int .i64 0])) w') :
    Calls Tryz.prog 48 #[.slice q.1 q.2.1 q.2.2, .int .i64 (a : Int), .int .i64 x] w R := by
  have hbig : big = 140737488355328 := rfl
  have hl := hs.len
  have hc := hs.cap
  subst hx
  refine C_qaf ?_
  unfold T_qaf
  refine TakeNumber_spec (at_ := a) hs hm h ha fun w4 h4 => ⟨_, _, _, rfl, ?_⟩
  rcases tk_cases b ha with ⟨e, g1, ge, g2⟩ | ⟨n, m, g1, gm, gl, gn, g2⟩
  · rw [g2]
    refine ite_b (fun _ => kE _ e (by unfold Sn.rowOf; rw [g1]) ge h4) fun hh => absurd (by simpa using hh) ge
  · rw [g2]
    have hro : Sn.rowOf b a lim = if lim < n then .error 6 else if (b.drop m).length < n then .error 3 else .ok n := by unfold Sn.rowOf; rw [g1]
    have hdl : (b.drop m).length = b.length - m := List.length_drop
    refine ite_b (fun hh => by simp at hh) fun _ => ite_d (fun hh => ?_) fun hh => ?_
    · exact kE _ 6 (by rw [hro, if_pos (by have : (n : Int) > (lim : Int) := hh; omega)]) (by decide) h4
    have hh1 : ¬ (lim < n) := by have : ¬ ((n : Int) > (lim : Int)) := hh; omega
    have ew : IntKind.wrap .i64 (((q.2.1 : Nat) : Int) - (m : Int)) = ((b.length - m : Nat) : Int) := by rw [wrap_id (by omega) (by omega)]; omega
    have ew2 : IntKind.wrap .i64 ((m : Int) + (n : Int)) = ((m + n : Nat) : Int) := by rw [wrap_id (by omega) (by omega)]; omega
    show ite _ _ _
    rw [ew]
    refine ite_d (fun hh2 => ?_) fun hh2 => ?_
    · exact kE _ 3 (by rw [hro, if_neg hh1, if_pos (by omega)]) (by decide) h4
    have hmn : m + n ≤ b.length := by have : ¬ (((b.length - m : Nat) : Int) < (n : Int)) := hh2; omega
    rw [ew2]
    simp only [Int.toNat_natCast]
    exact ⟨by omega, by omega, by omega, by omega, by omega, by omega, kO _ n m g1 (by omega) hmn h4⟩
theorem snp_out {br : Nat} {c : List Value} {L2 : List Asrt} {w : World} {b : Cm.Bs} {e : Int} (kE : ∀ (w' : World) (e : Int), Sn.getS b = .error e → e ≠ 0 → St E (kn F :: L) w' → R (.returned (.tuple #[snpV 0 0 nilS nilS nilS, .int .i64 e])) w')
    (hc : c.length = 5) (hg : Sn.getS b = .error e) (he : e ≠ 0) (hL : ∀ {w : World}, St E (blkL br 29 (snpL 0 0 nilS nilS nilS) :: L2) w → St E (kn F :: L) w) (h : St E (blkL br 29 c :: L2) w) :
    wrOk w ⟨br, 0, none⟩ (snpV 0 0 nilS nilS nilS) ∧ ∃ (x y : Int) (s1a : Option Addr) (s1l s1c : Nat) (s2a : Option Addr) (s2l s2c : Nat) (s3a : Option Addr) (s3l s3c : Nat), rd (wr w ⟨br, 0, none⟩ (snpV 0 0 nilS nilS nilS)) ⟨br, 0, none⟩ (.agg #[.int .i64 x, .int .i64 y, .slice s1a s1l s1c, .slice s2a s2l s2c, .slice s3a s3l s3c]) ∧
      R (.returned (.tuple #[.agg #[.int .i64 x, .int .i64 y, .slice s1a s1l s1c, .slice s2a s2l s2c, .slice s3a s3l s3c], .int .i64 e])) (wr w ⟨br, 0, none⟩ (snpV 0 0 nilS nilS nilS)) :=
  ⟨ok_snp h hc _ _ _ _ _, _, _, _, _, _, _, _, _, _, _, _, rd_snp (h.wr_snp hc 0 0 nilS nilS nilS), kE _ e hg he (hL (h.wr_snp hc _ _ _ _ _))⟩
abbrev z5 : List Value := snpL 0 0 nilS nilS nilS
theorem getS_1e {e : Int} (h : Sn.next b = .error e) : Sn.getS b = .error e := by unfold Sn.getS; rw [h]
theorem getS_2 {x r : Cm.Bs} (h : Sn.next b = .ok (x, r)) : Sn.getS b = if r ≠ [] then .error 4 else Sn.getIn x := by unfold Sn.getS; rw [h]
theorem next_err_ne {e : Int} (h : Sn.next b = .error e) : e ≠ 0 := by
  unfold Sn.next at h
  repeat' (split at h)
  all_goals first | (injection h with h; subst h; decide) | (cases h)
set_option maxHeartbeats 2000000 in
theorem SGet_spec (hs : Src F q b) (hbb : b.length ≤ big) (h : St E (kn F :: L) w)
    (kE : ∀ (w' : World) (e : Int), Sn.getS b = .error e → e ≠ 0 → St E (kn F :: L) w' → R (.returned (.tuple #[snpV 0 0 nilS nilS nilS, .int .i64 e])) w')
    (kO : ∀ (G : Fz) (w' : World) (v l d : Sl) (s : Sn.Snp), Fz.le F G → Sn.getS b = .ok s → snpR G v l d s → St E (kn G :: L) w' → R (.returned (.tuple #[snpV s.idx s.term v l d, .int .i64 0])) w') :
    Calls Tryz.prog 13 #[.slice q.1 q.2.1 q.2.2] w R := by
  have hbig : big = 140737488355328 := rfl
  have hql : b.length = q.2.1 := hs.len
  refine C_qac ?_
  unfold T_qac
  intro w2
  have h2 : St E (blkL w.heap.size 29 z5 :: kn F :: L) w2 := h.alloc (.cells ⟨z5⟩ 29)
  clear_value w2
  generalize w.heap.size = br at *
  refine Next_spec hs (by simp) hbb h2 fun w4 s4 h4 => ⟨_, _, _, _, _, rfl, ?_⟩
  cases hx : Sn.next b with
  | error e =>
    have en : nextR b.length b = ([], 0, e) := by unfold nextR; rw [hx]
    have he := next_err_ne hx
    rw [en]
    rw [en] at h4
    refine ite_b (fun _ => ?_) fun hh => absurd (by simpa using hh) he
    have hp : St E (blkL br 29 z5 :: byA s4 [] :: kn F :: L) w4 := h4.f1
    exact ⟨rfl, snp_out kE rfl (getS_1e hx) he (by intro w h; exact h.sel 3 [2]) hp⟩
  | ok p =>
  obtain ⟨inn, r⟩ := p
  obtain ⟨hbr, hil⟩ := Sn.next_got hx
  have en : nextR b.length b = (inn, ((b.length - r.length : Nat) : Int), 0) := by unfold nextR; rw [hx]
  have hrl : r.length ≤ b.length := by rw [hbr, List.length_append]; omega
  rw [en]
  rw [en] at h4
  have hg2 := getS_2 hx
  refine ite_b (fun hh => by simp at hh) fun _ => ?_
  rw [← hql]
  refine ite_d (fun hh => ?_) fun hh => ?_
  · have hh : ((b.length - r.length : Nat) : Int) < (b.length : Nat) := hh
    have hne : r ≠ [] := by intro h0; rw [h0] at hh; simp at hh
    rw [if_pos hne] at hg2
    have hp : St E (blkL br 29 z5 :: byA s4 inn :: kn F :: L) w4 := h4.f1
    exact ⟨rfl, snp_out kE rfl hg2 (by decide) (by intro w h; exact h.sel 3 [2]) hp⟩
  have hr0 : r = [] := List.eq_nil_of_length_eq_zero (by
    have hh : ¬ ((b.length - r.length : Nat) : Int) < (b.length : Nat) := hh
    omega)
  rw [if_neg (by rw [hr0]; simp)] at hg2
  have h4' : St E (byA s4 inn :: kn F :: blkL br 29 z5 :: L) w4 := h4.sel 3 [0, 2, 1]
  obtain ⟨G, hG, h4a, hsi⟩ := St.srcB2 h4' (by omega)
  have hsl := hsi.len
  intro w20
  have h20 : St E (blkL w4.heap.size 29 z5 :: kn G :: blkL br 29 z5 :: L) w20 := h4a.alloc (.cells ⟨z5⟩ 29)
  clear_value w20
  generalize w4.heap.size = bw at *
  have back : ∀ {c : List Value} {w : World}, St E (blkL br 29 z5 :: blkL bw 29 c :: kn G :: L) w → St E (kn F :: L) w := fun h => St.kn_less (h.sel 3 [2]) hG
  refine Mark_spec (a := 0) hsi (by simp) (Nat.zero_le _) h20 (fun w22 x y e h1 he h22 => ⟨_, _, _, rfl, rfl, wrOk_cell h22.at_blk (by show 0 < 5; decide) rfl, ?_⟩) fun w22 i m1 h1 hi hm1 h22 => ⟨_, _, _, rfl, rfl, wrOk_cell h22.at_blk (by show 0 < 5; decide) rfl, ?_⟩
  · intro w26
    have h26 : St E (blkL bw 29 (snpL x 0 nilS nilS nilS) :: kn G :: blkL br 29 z5 :: L) w26 := h22.wr_cell rfl
    clear_value w26
    refine ite_b (fun _ => ?_) fun hh => absurd (by simpa using hh) he
    rw [Sn.getIn_1e h1] at hg2
    have hp : St E (blkL br 29 z5 :: blkL bw 29 (snpL x 0 nilS nilS nilS) :: kn G :: L) w26 := h26.sel 3 [2, 0, 1]
    exact ⟨rfl, snp_out kE rfl hg2 he back hp⟩
  rw [List.drop_zero] at h1
  intro w26
  have h26 : St E (blkL bw 29 (snpL i 0 nilS nilS nilS) :: kn G :: blkL br 29 z5 :: L) w26 := h22.wr_cell rfl
  clear_value w26
  refine ite_b (fun hh => by simp at hh) fun _ => ?_
  refine Mark_spec (a := m1) hsi (by simp) hm1 h26 (fun w34 x y e h2 he h34 => ⟨_, _, _, rfl, rfl, wrOk_fld (k := 1) h34.at_blk (by show 1 < 5; decide) rfl, ?_⟩) fun w34 t m2 h2 ht hm2 h34 => ⟨_, _, _, rfl, rfl, wrOk_fld (k := 1) h34.at_blk (by show 1 < 5; decide) rfl, ?_⟩
  · intro w38
    have h38 : St E (blkL bw 29 (snpL i x nilS nilS nilS) :: kn G :: blkL br 29 z5 :: L) w38 := h34.wr_fld (k := 1) rfl
    clear_value w38
    refine ite_b (fun _ => ?_) fun hh => absurd (by simpa using hh) he
    rw [Sn.getIn_2e h1 hi h2] at hg2
    have hp : St E (blkL br 29 z5 :: blkL bw 29 (snpL i x nilS nilS nilS) :: kn G :: L) w38 := h38.sel 3 [2, 0, 1]
    exact ⟨rfl, snp_out kE rfl hg2 he back hp⟩
  intro w38
  have h38 : St E (blkL bw 29 (snpL i t nilS nilS nilS) :: kn G :: blkL br 29 z5 :: L) w38 := h34.wr_fld (k := 1) rfl
  clear_value w38
  refine ite_b (fun hh => by simp at hh) fun _ => ?_
  have elim : IntKind.wrap .i64 (((s4.2.1 : Nat) : Int) + 1099511627776) = ((inn.length + 1099511627776 : Nat) : Int) := by rw [wrap_id (by omega) (by omega)]; omega
  refine Row_spec (a := m2) elim hsi (by simp) (by omega) hm2 h38 (fun w46 e h3 he h46 => ⟨_, _, _, _, _, rfl, ?_⟩) fun w46 n m3 h3 hn3 hm3 h46 => ⟨_, _, _, _, _, rfl, ?_⟩
  · refine ite_b (fun _ => ?_) fun hh => absurd (by simpa using hh) he
    rw [Sn.getIn_3e h1 hi h2 ht (by omega) h3] at hg2
    have hp : St E (blkL br 29 z5 :: blkL bw 29 (snpL i t nilS nilS nilS) :: kn G :: L) w46 := h46.sel 3 [2, 0, 1]
    exact ⟨rfl, snp_out kE rfl hg2 he back hp⟩
  refine ite_b (fun hh => by simp at hh) fun _ => ?_
  rw [Sn.getIn_3 h1 hi h2 ht h3 hm3] at hg2
  have hsm := hsi.cutS hm3
  have h46' : St E (kn G :: blkL bw 29 (snpL i t nilS nilS nilS) :: blkL br 29 z5 :: L) w46 := h46.f1
  refine MGet_spec hsm h46' (fun w57 e h4 he h57 => ⟨_, _, _, _, _, _, _, rfl, rfl, wrOk_agg (off := 2) (xs := memL nilS nilS) h57.f1.at_blk (by show 4 ≤ 5; decide) (one_memL _ _), ?_⟩) fun H w57 v l m hGH h4 hmr h57 => ⟨_, _, _, _, _, _, _, rfl, rfl, wrOk_agg (off := 2) (xs := memL v l) h57.f1.at_blk (by show 4 ≤ 5; decide) (one_memL _ _), ?_⟩
  · intro w61
    have h61 : St E (blkL bw 29 (snpL i t nilS nilS nilS) :: kn G :: blkL br 29 z5 :: L) w61 := h57.f1.wr_agg (off := 2) (xs := memL nilS nilS) (by show 4 ≤ 5; decide)
    clear_value w61
    refine ite_b (fun _ => ?_) fun hh => absurd (by simpa using hh) he
    rw [h4] at hg2
    have hp : St E (blkL br 29 z5 :: blkL bw 29 (snpL i t nilS nilS nilS) :: kn G :: L) w61 := h61.sel 3 [2, 0, 1]
    exact ⟨rfl, snp_out kE rfl hg2 he back hp⟩
  intro w61
  have h61 : St E (blkL bw 29 (snpL i t v l nilS) :: kn H :: blkL br 29 z5 :: L) w61 := h57.f1.wr_agg (off := 2) (xs := memL v l) (by show 4 ≤ 5; decide)
  clear_value w61
  refine ite_b (fun hh => by simp at hh) fun _ => ?_
  rw [h4] at hg2
  simp only at hg2
  have hsH := hsi.mono hGH
  have hFH := Fz.le_trans hG hGH
  have back : ∀ {c : List Value} {w : World}, St E (blkL br 29 z5 :: blkL bw 29 c :: kn H :: L) w → St E (kn F :: L) w := fun h => St.kn_less (h.sel 3 [2]) hFH
  refine Row_spec (a := m3 + n) (lim := 16384) rfl hsH (by simp) (by omega) hm3 h61 (fun w69 e h5 he h69 => ⟨_, _, _, _, _, rfl, rfl, wrOk_fld (k := 4) h69.at_blk (by show 4 < 5; decide) rfl, ?_⟩) fun w69 k m4 h5 hk hm4 h69 => ⟨_, _, _, _, _, rfl, rfl, wrOk_fld (k := 4) h69.at_blk (by show 4 < 5; decide) rfl, ?_⟩
  · intro w73
    have h73 : St E (blkL bw 29 (snpL i t v l nilS) :: kn H :: blkL br 29 z5 :: L) w73 := h69.wr_fld (k := 4) rfl
    clear_value w73
    refine ite_b (fun _ => ?_) fun hh => absurd (by simpa using hh) he
    rw [Sn.row_fin h5] at hg2
    have hp : St E (blkL br 29 z5 :: blkL bw 29 (snpL i t v l nilS) :: kn H :: L) w73 := h73.sel 3 [2, 0, 1]
    exact ⟨rfl, snp_out kE rfl hg2 he back hp⟩
  rw [h5] at hg2
  simp only at hg2
  have hd4 : (inn.drop m4).length = inn.length - m4 := List.length_drop
  rw [if_neg (by omega), if_neg (by omega)] at hg2
  intro w73
  have h73 : St E (blkL bw 29 (snpL i t v l (cutS s4 m4 k)) :: kn H :: blkL br 29 z5 :: L) w73 := h69.wr_fld (k := 4) rfl
  clear_value w73
  have hp : St E (blkL br 29 z5 :: blkL bw 29 (snpL i t v l (cutS s4 m4 k)) :: kn H :: L) w73 := h73.sel 3 [2, 0, 1]
  refine ite_b (fun hh => by simp at hh) fun _ => ?_
  rw [← hsl]
  refine ite_d (fun hh => ?_) fun hh => ?_
  · have hh : ((m4 + k : Nat) : Int) < (inn.length : Nat) := hh
    rw [if_pos (by omega)] at hg2
    exact ⟨rfl, snp_out kE rfl hg2 (by decide) back hp⟩
  have hh : ¬ ((m4 + k : Nat) : Int) < (inn.length : Nat) := hh
  rw [if_neg (by omega)] at hg2
  refine ⟨_, _, _, _, _, _, _, _, _, _, _, rd_snp h73, rfl, ok_snp hp rfl _ _ _ _ _, ?_⟩
  intro w91
  have h91 : St E (blkL br 29 (snpL i t v l (cutS s4 m4 k)) :: blkL bw 29 (snpL i t v l (cutS s4 m4 k)) :: kn H :: L) w91 := hp.wr_snp rfl _ _ _ _ _
  have hdt := hsH.cutS hm4
  rw [List.take_of_length_le (by omega)] at hdt
  exact ⟨_, _, _, _, _, _, _, _, _, _, _, rd_snp h91, kO H w91 v l (cutS s4 m4 k) ⟨i, t, m, inn.drop m4⟩ hFH hg2 ⟨hmr, hdt⟩ (h91.sel 3 [2])⟩
end
end Go.Vc
namespace Go.Vc
open Go Go.Proofs Go.Proofs.YtclinifclfahfaaGreat
set_option maxRecDepth 100000
section
variable {E w : World} {L : List Asrt} {R : RT} {F G : Fz} {q s : Sl} {b : Cm.Bs} {l : List Int} {xs : Cm.Bs}
theorem snp_out2 {br bn : Nat} {c : List Value} {L2 : List Asrt} {w : World} {K : World → Prop} (hc : c.length = 5) (kE : ∀ {w : World}, St E (blkL br 29 z5 :: blkL bn 29 z5 :: L2) w → K w) (h : St E (blkL br 29 c :: blkL bn 29 z5 :: L2) w) :
    ∃ (x y : Int) (s1a : Option Addr) (s1l s1c : Nat) (s2a : Option Addr) (s2l s2c : Nat) (s3a : Option Addr) (s3l s3c : Nat), rd w ⟨bn, 0, none⟩ (.agg #[.int .i64 x, .int .i64 y, .slice s1a s1l s1c, .slice s2a s2l s2c, .slice s3a s3l s3c]) ∧
      (.agg #[.int .i64 x, .int .i64 y, .slice s1a s1l s1c, .slice s2a s2l s2c, .slice s3a s3l s3c] : Value).cells.size = 5 ∧ wrOk w ⟨br, 0, none⟩ (.agg #[.int .i64 x, .int .i64 y, .slice s1a s1l s1c, .slice s2a s2l s2c, .slice s3a s3l s3c]) ∧
      K (wr w ⟨br, 0, none⟩ (.agg #[.int .i64 x, .int .i64 y, .slice s1a s1l s1c, .slice s2a s2l s2c, .slice s3a s3l s3c])) :=
  ⟨_, _, _, _, _, _, _, _, _, _, _, rd_snp h.f1, rfl, ok_snp h hc _ _ _ _ _, kE (h.wr_snp hc _ _ _ _ _)⟩
theorem rmarks_part {br bn bk i a : Nat} {inn : Cm.Bs} {s7 : Sl} {c : List Value} {X : Int → Int → World → Prop} {Kn Kr : Int → World → Prop} (hs : Src G s7 inn) (ha : a ≤ inn.length) (hi : i < 2) (hc : c.length = 2)
    (h : St E (blkL bk 3 c :: kn G :: blkL br 29 z5 :: blkL bn 29 z5 :: L) w)
    (kE : ∀ (w' : World) (e : Int), Sn.markOf inn a = .error e → e ≠ 0 → St E (blkL br 29 z5 :: blkL bn 29 z5 :: kn G :: L) w' → Kr e w')
    (kN : ∀ (w' : World) (n m : Nat), Sn.tk (inn.drop a) = .ok (n, inn.drop m) → n ≠ 0 → m ≤ inn.length → St E (blkL bk 3 (c.set i (.int .i64 (n : Int))) :: kn G :: blkL br 29 z5 :: blkL bn 29 z5 :: L) w' → X (m : Int) ((i + 1 : Nat) : Int) w') :
    T_qa1_1_body X (a : Int) (i : Int) ⟨br, 0, none⟩ ⟨bn, 0, none⟩ s7.1 s7.2.1 s7.2.2 (some ⟨bk, 0, none⟩) 2 2 w Kn Kr (pan R) := by
  unfold T_qa1_1_body
  refine ite_d (fun _ => ?_) fun hh => absurd (show (i : Int) < 2 by omega) hh
  refine RTakeNumber_spec (at_ := a) hs (by simp) h ha fun w40 h40 => ⟨_, _, _, rfl, ?_⟩
  have hp : St E (blkL br 29 z5 :: blkL bn 29 z5 :: kn G :: L) w40 := h40.sel 4 [2, 3, 1]
  rcases tk_cases inn ha with ⟨e, g1, ge, g2⟩ | ⟨n, m, g1, gm, gl, gn, g2⟩
  · rw [g2]
    refine ite_b (fun _ => ?_) fun hh => absurd (by simpa using hh) ge
    exact snp_out2 (K := Kr e) rfl (fun h => kE _ e (by unfold Sn.markOf; rw [g1]) ge h) hp
  · rw [g2]
    refine ite_b (fun hh => by simp at hh) fun _ => ?_
    by_cases hz : n = 0
    · subst hz
      refine ite_b (fun _ => ?_) fun hh => by simp at hh
      exact snp_out2 (K := Kr 4) rfl (fun h => kE _ 4 (by unfold Sn.markOf; rw [g1]; rfl) (by decide) h) hp
    · refine ite_b (fun hh => absurd (by simpa using hh) hz) fun _ => ?_
      rw [Int.toNat_natCast, Nat.mul_one]
      refine ⟨by omega, by omega, _, rfl, rfl, wrOk_fld (k := i) h40.at_blk (by omega) rfl, ?_⟩
      rw [show IntKind.wrap .i64 ((i : Int) + 1) = ((i + 1 : Nat) : Int) by rw [succ_big (by unfold big; omega)]]
      exact kN _ n m g1 hz gl (h40.wr_fld (k := i) rfl)
set_option maxHeartbeats 4000000 in
theorem RSGet_spec (hs : Src F q b) (hbb : b.length ≤ big) (h : St E (kn F :: L) w)
    (kE : ∀ (w' : World) (e : Int), Sn.getS b = .error e → e ≠ 0 → St E (kn F :: L) w' → R (.returned (.tuple #[snpV 0 0 nilS nilS nilS, .int .i64 e])) w')
    (kO : ∀ (G : Fz) (w' : World) (v l d : Sl) (s : Sn.Snp), Fz.le F G → Sn.getS b = .ok s → snpR G v l d s → St E (kn G :: L) w' → R (.returned (.tuple #[snpV s.idx s.term v l d, .int .i64 0])) w') :
    Calls Tryz.prog 14 #[.slice q.1 q.2.1 q.2.2] w R := by
  have hbig : big = 140737488355328 := rfl
  have hql : b.length = q.2.1 := hs.len
  refine C_qa1 ?_
  unfold T_qa1
  intro w2 w3
  have h3 : St E (blkL w2.heap.size 29 z5 :: blkL w.heap.size 29 z5 :: kn F :: L) w3 := (h.alloc (.cells ⟨z5⟩ 29)).alloc (.cells ⟨z5⟩ 29)
  clear_value w3
  generalize w2.heap.size = bn at *
  generalize w.heap.size = br at *
  refine ⟨rfl, ok_snp h3 rfl 0 0 nilS nilS nilS, ?_⟩
  intro w4
  have h4 : St E (blkL bn 29 z5 :: blkL br 29 z5 :: kn F :: L) w4 := h3.wr_snp rfl 0 0 nilS nilS nilS
  clear_value w4
  have out : ∀ {w : World} {e : Int}, Sn.getS b = .error e → e ≠ 0 → St E (blkL br 29 z5 :: blkL bn 29 z5 :: kn F :: L) w → ∃ (x y : Int) (s1a : Option Addr) (s1l s1c : Nat) (s2a : Option Addr) (s2l s2c : Nat) (s3a : Option Addr) (s3l s3c : Nat), rd w ⟨br, 0, none⟩ (.agg #[.int .i64 x, .int .i64 y, .slice s1a s1l s1c, .slice s2a s2l s2c, .slice s3a s3l s3c]) ∧
      R (.returned (.tuple #[.agg #[.int .i64 x, .int .i64 y, .slice s1a s1l s1c, .slice s2a s2l s2c, .slice s3a s3l s3c], .int .i64 e])) w :=
    fun {w e} hg he h => ⟨_, _, _, _, _, _, _, _, _, _, _, rd_snp h, kE _ e hg he h.drop.drop⟩
  refine RNext_spec hs (by simp) hbb h4 fun w6 s7 h6 => ⟨_, _, _, _, _, rfl, ?_⟩
  cases hx : Sn.next b with
  | error e =>
    have en : nextR b.length b = ([], 0, e) := by unfold nextR; rw [hx]
    have he := next_err_ne hx
    rw [en]
    rw [en] at h6
    refine ite_b (fun _ => ?_) fun hh => absurd (by simpa using hh) he
    have hp : St E (blkL br 29 z5 :: blkL bn 29 z5 :: kn F :: L) w6 := h6.sel 4 [2, 1, 3]
    exact snp_out2 (K := fun w => ∃ (x y : Int) (s1a : Option Addr) (s1l s1c : Nat) (s2a : Option Addr) (s2l s2c : Nat) (s3a : Option Addr) (s3l s3c : Nat), rd w ⟨br, 0, none⟩ (.agg #[.int .i64 x, .int .i64 y, .slice s1a s1l s1c, .slice s2a s2l s2c, .slice s3a s3l s3c]) ∧
      R (.returned (.tuple #[.agg #[.int .i64 x, .int .i64 y, .slice s1a s1l s1c, .slice s2a s2l s2c, .slice s3a s3l s3c], .int .i64 e])) w) rfl (fun h => out (getS_1e hx) he h) hp
  | ok p =>
  obtain ⟨inn, r⟩ := p
  obtain ⟨hbr, hil⟩ := Sn.next_got hx
  have en : nextR b.length b = (inn, ((b.length - r.length : Nat) : Int), 0) := by unfold nextR; rw [hx]
  have hrl : r.length ≤ b.length := by rw [hbr, List.length_append]; omega
  rw [en]
  rw [en] at h6
  have hg2 := getS_2 hx
  refine ite_b (fun hh => by simp at hh) fun _ => ?_
  rw [← hql]
  have lout : ∀ {w : World} {e : Int} {G : Fz}, Fz.le F G → Sn.getS b = .error e → e ≠ 0 → St E (blkL br 29 z5 :: blkL bn 29 z5 :: kn G :: L) w → ∃ (x y : Int) (s1a : Option Addr) (s1l s1c : Nat) (s2a : Option Addr) (s2l s2c : Nat) (s3a : Option Addr) (s3l s3c : Nat), rd w ⟨br, 0, none⟩ (.agg #[.int .i64 x, .int .i64 y, .slice s1a s1l s1c, .slice s2a s2l s2c, .slice s3a s3l s3c]) ∧
      R (.returned (.tuple #[.agg #[.int .i64 x, .int .i64 y, .slice s1a s1l s1c, .slice s2a s2l s2c, .slice s3a s3l s3c], .int .i64 e])) w := fun {w e G} hFG hg he h => by
    have h1 : St E (kn G :: blkL br 29 z5 :: blkL bn 29 z5 :: L) w := h.sel 3 [2, 0, 1]
    have h2 : St E (kn F :: blkL br 29 z5 :: blkL bn 29 z5 :: L) w := St.kn_less h1 hFG
    exact out hg he (h2.sel 3 [1, 2, 0])
  have eout : ∀ {w : World} {e : Int} {G : Fz}, Fz.le F G → Sn.getS b = .error e → e ≠ 0 → St E (blkL br 29 z5 :: blkL bn 29 z5 :: kn G :: L) w → _ := fun {w e G} hFG hg he h => snp_out2 (K := fun w => ∃ (x y : Int) (s1a : Option Addr) (s1l s1c : Nat) (s2a : Option Addr) (s2l s2c : Nat) (s3a : Option Addr) (s3l s3c : Nat), rd w ⟨br, 0, none⟩ (.agg #[.int .i64 x, .int .i64 y, .slice s1a s1l s1c, .slice s2a s2l s2c, .slice s3a s3l s3c]) ∧
      R (.returned (.tuple #[.agg #[.int .i64 x, .int .i64 y, .slice s1a s1l s1c, .slice s2a s2l s2c, .slice s3a s3l s3c], .int .i64 e])) w) rfl (fun h => lout hFG hg he h) h
  refine ite_b (fun hh => ?_) fun hh => ?_
  · have hh := int_ne hh
    have hne : r ≠ [] := by intro h0; rw [h0] at hh; simp at hh
    rw [if_pos hne] at hg2
    have hp : St E (blkL br 29 z5 :: blkL bn 29 z5 :: kn F :: L) w6 := h6.sel 4 [2, 1, 3]
    exact eout (Fz.le_refl F) hg2 (by decide) hp
  have hr0 : r = [] := List.eq_nil_of_length_eq_zero (by
    have hh : ((b.length - r.length : Nat) : Int) = (b.length : Nat) := int_eq hh
    omega)
  rw [if_neg (by rw [hr0]; simp)] at hg2
  have h6' : St E (byA s7 inn :: kn F :: blkL br 29 z5 :: blkL bn 29 z5 :: L) w6 := h6.sel 4 [0, 3, 2, 1]
  obtain ⟨G, hG, h6a, hsi⟩ := St.srcB2 h6' (by omega)
  have hsl := hsi.len
  intro w32
  have h32 : St E (blkL w6.heap.size 3 [.int .i64 0, .int .i64 0] :: kn G :: blkL br 29 z5 :: blkL bn 29 z5 :: L) w32 := h6a.alloc (.cells ⟨[.int .i64 0, .int .i64 0]⟩ 3)
  clear_value w32
  generalize w6.heap.size = bk at *
  unfold T_q91
  intro X hX
  refine hX _ _ _ ?_
  refine rmarks_part (a := 0) (i := 0) hsi (Nat.zero_le _) (by decide) rfl h32 (fun w' e h1 he h => ?_) fun w' i m1 h1 hi hm1 h => ?_
  · rw [Sn.getIn_1e h1] at hg2
    exact lout hG hg2 he h
  rw [List.drop_zero] at h1
  refine hX _ _ _ ?_
  refine rmarks_part (a := m1) (i := 1) hsi hm1 (by decide) rfl h (fun w' e h2 he h => ?_) fun w' t m2 h2 ht hm2 h => ?_
  · rw [Sn.getIn_2e h1 hi h2] at hg2
    exact lout hG hg2 he h
  have h : St E (blkL bk 3 [.int .i64 (i : Int), .int .i64 (t : Int)] :: kn G :: blkL br 29 z5 :: blkL bn 29 z5 :: L) w' := h
  refine hX _ _ _ ?_
  unfold T_qa1_1_body
  refine ite_d (fun hh => absurd hh (by decide)) fun _ => ?_
  clear hX
  have pref : ∀ {w : World} {G : Fz}, St E (blkL bk 3 [.int .i64 (i : Int), .int .i64 (t : Int)] :: kn G :: blkL br 29 z5 :: blkL bn 29 z5 :: L) w → St E (blkL br 29 z5 :: blkL bn 29 z5 :: kn G :: L) w := fun h => h.sel 4 [2, 3, 1]
  refine RTakeNumber_spec (at_ := m2) hsi (by simp) h hm2 fun w69 h69 => ⟨_, _, _, rfl, ?_⟩
  have hrow : ∀ e, Sn.rowOf inn m2 1099511627776 = .error e → Sn.getS b = .error e := fun e h3 => by rw [hg2, Sn.getIn_3e h1 hi h2 ht (Nat.le_refl _) h3]
  rcases tk_cases inn hm2 with ⟨e, g1, ge, g2⟩ | ⟨n, m3, g1, gm, gl, gn, g2⟩
  · rw [g2]
    refine ite_b (fun _ => ?_) fun hh => absurd (by simpa using hh) ge
    exact eout hG (hrow e (by unfold Sn.rowOf; rw [g1])) ge (pref h69)
  rw [g2]
  refine ite_b (fun hh => by simp at hh) fun _ => ?_
  have ew : IntKind.wrap .i64 (((s7.2.1 : Nat) : Int) - (m3 : Int)) = ((inn.length - m3 : Nat) : Int) := by rw [wrap_id (by omega) (by omega)]; omega
  have ew2 : IntKind.wrap .i64 ((m3 : Int) + (n : Int)) = ((m3 + n : Nat) : Int) := by rw [wrap_id (by omega) (by omega)]; omega
  show ite _ _ _
  rw [ew]
  refine ite_d (fun hh => ?_) fun hh => ?_
  · have hh : ((inn.length - m3 : Nat) : Int) < (n : Int) := hh
    refine eout hG (hrow 3 ?_) (by decide) (pref h69)
    unfold Sn.rowOf
    rw [g1]
    simp only
    rw [if_neg (by omega), if_pos (by rw [List.length_drop]; omega)]
  have hh : ¬ ((inn.length - m3 : Nat) : Int) < (n : Int) := hh
  have hm3 : m3 + n ≤ inn.length := by omega
  rw [Sn.getIn_3 h1 hi h2 ht g1 hm3] at hg2
  have hcap := hsi.cap
  rw [ew2]
  simp -zeta only [Int.toNat_natCast]
  refine ⟨by omega, by omega, by omega, by omega, ?_⟩
  have hsm := hsi.mid hm3
  have h69' : St E (kn G :: blkL bk 3 [.int .i64 (i : Int), .int .i64 (t : Int)] :: blkL br 29 z5 :: blkL bn 29 z5 :: L) w69 := h69.f1
  refine RMGet_spec (q := midS s7 m3 n) hsm h69' (fun w96 e h4 he h96 => ⟨_, _, _, _, _, _, _, rfl, ?_⟩) fun H w96 v l m hGH h4 hmr h96 => ⟨_, _, _, _, _, _, _, rfl, ?_⟩
  · intro w100
    have h100 : St E (blkL w96.heap.size 26 (memL nilS nilS) :: kn G :: blkL bk 3 [.int .i64 (i : Int), .int .i64 (t : Int)] :: blkL br 29 z5 :: blkL bn 29 z5 :: L) w100 := h96.alloc (.cells ⟨memL nilS nilS⟩ 26)
    clear_value w100
    refine ⟨rfl, ok_mem h100 rfl nilS nilS, ?_⟩
    intro w101
    have h101 : St E (blkL w96.heap.size 26 (memL nilS nilS) :: kn G :: blkL bk 3 [.int .i64 (i : Int), .int .i64 (t : Int)] :: blkL br 29 z5 :: blkL bn 29 z5 :: L) w101 := h100.wr_mem rfl nilS nilS
    clear_value w101
    refine ite_b (fun _ => ?_) fun hh => absurd (by simpa using hh) he
    rw [h4] at hg2
    exact eout hG hg2 he (h101.sel 5 [3, 4, 1])
  rw [h4] at hg2
  simp only at hg2
  have hFH := Fz.le_trans hG hGH
  have hsH := hsi.mono hGH
  intro w100
  have h100 : St E (blkL w96.heap.size 26 (memL nilS nilS) :: kn H :: blkL bk 3 [.int .i64 (i : Int), .int .i64 (t : Int)] :: blkL br 29 z5 :: blkL bn 29 z5 :: L) w100 := h96.alloc (.cells ⟨memL nilS nilS⟩ 26)
  clear_value w100
  refine ⟨rfl, ok_mem h100 rfl v l, ?_⟩
  intro w101
  have h101 : St E (blkL w96.heap.size 26 (memL v l) :: kn H :: blkL bk 3 [.int .i64 (i : Int), .int .i64 (t : Int)] :: blkL br 29 z5 :: blkL bn 29 z5 :: L) w101 := h100.wr_mem rfl v l
  clear_value w101
  generalize w96.heap.size = bq at *
  refine ite_b (fun hh => by simp at hh) fun _ => ?_
  refine RTakeNumber_spec (at_ := m3 + n) hsH (by simp) h101 hm3 fun w114 h114 => ⟨_, _, _, rfl, ?_⟩
  have hp : St E (blkL br 29 z5 :: blkL bn 29 z5 :: kn H :: L) w114 := h114.sel 5 [3, 4, 1]
  rcases tk_cases inn hm3 with ⟨e, k1, ge, k2⟩ | ⟨k, m4, k1, km, kl, kn', k2⟩
  · rw [k2]
    rw [k1] at hg2
    refine ite_b (fun _ => ?_) fun hh => absurd (by simpa using hh) ge
    exact eout hFH hg2 ge hp
  rw [k2]
  rw [k1] at hg2
  simp only at hg2
  have hd4 : (inn.drop m4).length = inn.length - m4 := List.length_drop
  rw [hd4] at hg2
  refine ite_b (fun hh => by simp at hh) fun _ => ?_
  refine ite_d (fun hh => ?_) fun hh => ?_
  · have hh : (k : Int) > 16384 := hh
    rw [if_pos (by omega)] at hg2
    exact eout hFH hg2 (by decide) hp
  have hh1 : ¬ (k : Int) > 16384 := hh
  rw [if_neg (by omega)] at hg2
  have ew : IntKind.wrap .i64 (((s7.2.1 : Nat) : Int) - (m4 : Int)) = ((inn.length - m4 : Nat) : Int) := by rw [wrap_id (by omega) (by omega)]; omega
  show ite _ _ _
  rw [ew]
  refine ite_d (fun hh => ?_) fun hh => ?_
  · have hh : ((inn.length - m4 : Nat) : Int) < (k : Int) := hh
    rw [if_pos (by omega)] at hg2
    exact eout hFH hg2 (by decide) hp
  have hh2 : ¬ ((inn.length - m4 : Nat) : Int) < (k : Int) := hh
  rw [if_neg (by omega)] at hg2
  refine ite_d (fun hh => ?_) fun hh => ?_
  · have hh : ((inn.length - m4 : Nat) : Int) > (k : Int) := hh
    rw [if_pos (by omega)] at hg2
    exact eout hFH hg2 (by decide) hp
  have hh3 : ¬ ((inn.length - m4 : Nat) : Int) > (k : Int) := hh
  rw [if_neg (by omega)] at hg2
  intro w162
  have h162 : St E (blkL bq 26 (memL v l) :: kn H :: blkL bk 3 [.int .i64 (i : Int), .int .i64 (t : Int)] :: blkL br 29 z5 :: blkL bn 29 z5 :: L) w162 := h114.drew
  clear_value w162
  refine ⟨by decide, by decide, _, rfl, _, rd_fld (k := 0) h162.f2.at_blk rfl rfl, by decide, by decide, _, rfl, _, rd_fld (k := 1) h162.f2.at_blk rfl rfl, _, _, _, _, _, _, rd_mem h162, by show (0 : Int) ≤ (m4 : Int); omega, by show (m4 : Int) ≤ ((s7.2.1 : Nat) : Int); omega, ?_⟩
  intro w169
  have h169 : St E (byA (some ⟨w162.heap.size, 0, none⟩, 0, 0) [] :: blkL bq 26 (memL v l) :: kn H :: blkL bk 3 [.int .i64 (i : Int), .int .i64 (t : Int)] :: blkL br 29 z5 :: blkL bn 29 z5 :: L) w169 := h162.by_new [] (by decide)
  clear_value w169
  refine ⟨⟨rd_mem h169.f1, rd_fld (k := 1) h169.f3.at_blk rfl rfl, rd_fld (k := 0) h169.f3.at_blk rfl rfl, trivial⟩, ?_⟩
  have hst := hsH.tail kl
  obtain ⟨d, w171, hr, h171⟩ := app_b (a2 := (tailS s7 m4).1) (l2 := (tailS s7 m4).2.1) (c2 := (tailS s7 m4).2.2) (ys := inn.drop m4) h169 (hst.rd.at h169 (by simp)) (by rw [hd4, List.length_nil]; omega)
  refine runV_ok hr ⟨_, _, _, rfl, ⟨rd_mem h171.f1, rd_fld (k := 1) h171.f3.at_blk rfl rfl, rd_fld (k := 0) h171.f3.at_blk rfl rfl, trivial⟩, rfl, ?_⟩
  rw [List.nil_append] at h171
  have h171' : St E (byA d (inn.drop m4) :: kn H :: blkL br 29 z5 :: blkL bn 29 z5 :: L) w171 := h171.sel 6 [0, 2, 4, 5]
  obtain ⟨J, hJ, h171a, hsd⟩ := St.srcB2 h171' (by rw [hd4]; omega)
  have h171b : St E (blkL br 29 z5 :: blkL bn 29 z5 :: kn J :: L) w171 := h171a.sel 3 [1, 2, 0]
  refine ⟨ok_snp h171b rfl i t v l d, trivial, _, _, _, _, _, _, _, _, _, _, _, rd_snp (h171b.wr_snp rfl i t v l d), ?_⟩
  have h5 : St E (blkL br 29 (snpL i t v l d) :: blkL bn 29 z5 :: kn J :: L) (wr w171 ⟨br, 0, none⟩ (snpV i t v l d)) := h171b.wr_snp rfl i t v l d
  exact kO J _ v l d ⟨i, t, m, inn.drop m4⟩ (Fz.le_trans hFH hJ) hg2 ⟨hmr.mono hJ, hsd⟩ (h5.sel 3 [2])
end
end Go.Vc
namespace Go.Vc
open Go Go.Proofs Go.Proofs.YtclinifclfahfaaGreat
set_option maxRecDepth 100000
section
variable {E w : World} {L : List Asrt} {R : RT} {F G : Fz} {q s : Sl} {b : Cm.Bs} {l : List Int} {xs : Cm.Bs}
theorem mark_eq (x y : Operand) (a b c d : Int) : (do eqGuard .eql 23 x y (.agg #[.int .i64 a, .int .i64 b]) (.agg #[.int .i64 c, .int .i64 d]); binOp .eql 23 (.agg #[.int .i64 a, .int .i64 b]) (.agg #[.int .i64 c, .int .i64 d]) : Sem Value).run Tryz.prog w = .ok (.bool (decide ((a, b) = (c, d)))) w :=
  run_eq_agg (by kernel_rfl) ((keyLaw_int2 (P := Tryz.prog) (t := 23) (f0 := ⟨ "Index", 3, 0, false, "", "", 0⟩) (f1 := ⟨ "Term", 3, 1, false, "", "", 8⟩) (by kernel_rfl) (by kernel_rfl) (by kernel_rfl) (by decide) (by decide) rfl rfl (by kernel_rfl)).eq (a, b) (c, d) w)
theorem conv_srcT {q : Sl} {b : Cm.Bs} (hs : Src F q b) (hm : kn F ∈ L) (h : St E L w) : (convert 27 9 (.slice q.1 q.2.1 q.2.2)).run Tryz.prog w = .ok (.string (bs b)) w :=
  convert_string (e := 5) (by kernel_rfl) (by kernel_rfl) (by kernel_rfl) (hs.rd.at h hm)
theorem rd_snp_mark {b : Nat} {x t : Int} {v l d : Sl} (h : St E (blkL b 29 (snpL x t v l d) :: L) w) : rd w ⟨b, 0, none⟩ (.agg #[.int .i64 x, .int .i64 t]) :=
  rd_agg (xs := [.int .i64 x, .int .i64 t]) (off := 0) h.at_blk (by
    intro i u hu
    match i, hu with
    | 0, hu => exact hu
    | 1, hu => exact hu
    | i + 2, hu => simp at hu)
theorem bs_beq (a b : Cm.Bs) : ((bs a).toList == (bs b).toList) = decide (a = b) := by
  rw [bs_toList, bs_toList]
  rw [Bool.eq_iff_iff]
  simp
theorem SSame_spec {v l d v2 l2 d2 : Sl} {s s2 : Sn.Snp} (hm : kn F ∈ L) (r : snpR F v l d s) (r2 : snpR F v2 l2 d2 s2) (z1 : s.mem.v.length ≤ huge) (z2 : s.mem.l.length ≤ huge) (h : St E L w) (k : ∀ w', St E L w' → R (.returned (.bool (decide (s = s2)))) w') :
    Calls Tryz.prog 12 #[snpV s.idx s.term v l d, snpV s2.idx s2.term v2 l2 d2] w R := by
  refine C_q9m ?_
  unfold T_q9m
  intro w5 w6
  have h6 : St E (blkL w5.heap.size 29 (snpL s2.idx s2.term v2 l2 d2) :: blkL w.heap.size 29 (snpL s.idx s.term v l d) :: L) w6 :=
    (h.alloc (.cells ⟨snpL s.idx s.term v l d⟩ 29)).alloc (.cells ⟨snpL s2.idx s2.term v2 l2 d2⟩ 29)
  clear_value w6
  generalize w5.heap.size = b2 at *
  generalize w.heap.size = b1 at *
  have hm' : kn F ∈ blkL b2 29 (snpL s2.idx s2.term v2 l2 d2) :: blkL b1 29 (snpL s.idx s.term v l d) :: L := List.mem_cons_of_mem _ (List.mem_cons_of_mem _ hm)
  have hd : decide (s = s2) = (decide ((s.idx, s.term) = (s2.idx, s2.term)) && (decide (s.mem = s2.mem) && decide (s.data = s2.data))) := by
    rw [Bool.eq_iff_iff]
    simp only [decide_eq_true_eq, Bool.and_eq_true, Prod.mk.injEq]
    exact ⟨fun h => by rw [h]; exact ⟨⟨rfl, rfl⟩, rfl, rfl⟩, fun ⟨⟨h1, h2⟩, h3, h4⟩ => by cases s; cases s2; simp at h1 h2 h3 h4; rw [h1, h2, h3, h4]⟩
  refine ⟨_, _, rd_snp_mark h6.f1, _, _, rd_snp_mark h6, runV_ok (mark_eq ..) ⟨_, rfl, ite_b (fun hc => ?_) fun hc => ?_⟩⟩
  · refine ⟨_, _, _, _, _, _, rd_snp_mem h6.f1, _, _, _, _, _, _, rd_snp_mem h6, ?_⟩
    refine Same_spec hm' r.mem r2.mem z1 z2 h6 fun w10 h10 => ⟨_, rfl, ite_b (fun hc2 => ?_) fun hc2 => ?_⟩
    · refine ⟨_, _, _, rd_fld h10.f1.at_blk rfl rfl, runV_ok (conv_srcT r.data hm' h10) ⟨_, rfl, _, _, _, rd_fld h10.at_blk rfl rfl, runV_ok (conv_srcT r2.data hm' h10) ⟨_, rfl, congB (k w10 h10.drop.drop) ?_⟩⟩⟩
      rw [hd, hc, hc2, bs_beq]; rfl
    · refine congB (k w10 h10.drop.drop) ?_
      rw [hd, hc, hc2]; rfl
  · refine congB (k w6 h6.drop.drop) ?_
    rw [hd, hc]; rfl
end
end Go.Vc
namespace Go.Cm
def plLt (a b : Pl) : Bool := decide (a.name < b.name)
def laLt (a b : Last) : Bool := decide (a.client < b.client)
def put {α : Type} (lt : α → α → Bool) (l : List α) (p : α) : List α := l.filter (fun a => lt a p) ++ p :: l.filter (fun a => lt p a)
def there (s : Sm) (n : Bs) : Bool := s.pools.any fun p => decide (p.name = n)
def used (s : Sm) (n : Bs) : Bool := s.routes.any fun r => decide (r.pool = n)
def isAt (h p : Bs) (r : Rt) : Bool := decide (r.host = h) && decide (r.pfx = p)
def known (s : Sm) (h p : Bs) : Bool := s.routes.any (isAt h p)
def butPool (s : Sm) (n : Bs) : List Pl := s.pools.filter fun p => !decide (p.name = n)
def butRoute (s : Sm) (h p : Bs) : List Rt := s.routes.filter fun r => !isAt h p r
def fit (s s' : Sm) : Sm × Int := if 12000 < (confB s'.pools s'.routes).length then (s, 6) else (s', 0)
def act (s : Sm) (x : Cmd) : Sm × Int :=
  if x.act = 1 then
    if !there s x.pool && decide (32 ≤ s.pools.length) then (s, 6)
    else fit s { s with pools := put plLt (butPool s x.pool) ⟨x.pool, x.tg⟩ }
  else if x.act = 2 then
    if !there s x.pool then (s, 8) else if used s x.pool then (s, 13) else fit s { s with pools := butPool s x.pool }
  else if x.act = 3 then
    if !there s x.pool then (s, 8) else if !known s x.host x.pfx && decide (64 ≤ s.routes.length) then (s, 6)
    else fit s { s with routes := put rtLt (butRoute s x.host x.pfx) ⟨x.host, x.pfx, x.pool⟩ }
  else if !known s x.host x.pfx then (s, 8) else fit s { s with routes := butRoute s x.host x.pfx }
def step (s : Sm) (x : Cmd) : Sm × Int :=
  if 0 ≤ x.expect ∧ x.expect ≠ s.ver then (s, 12) else if s.ver = 1099511627776 then (s, 6) else act s x
def new : Sm := ⟨0, [], [], []⟩
theorem slt_irrefl (a : Bs) : ¬ a < a := List.lt_irrefl a
theorem slt_trans {a b c : Bs} (h : a < b) (k : b < c) : a < c := List.lt_trans h k
theorem slt_tri (a b : Bs) : a < b ∨ a = b ∨ b < a := by
  by_cases h : a < b
  · exact .inl h
  · by_cases k : b < a
    · exact .inr (.inr k)
    · exact .inr (.inl (List.le_antisymm (List.not_lt.1 k) (List.not_lt.1 h)))
structure Ord {α : Type} (lt : α → α → Bool) (same : α → α → Bool) : Prop where
  irr : ∀ a b, same a b = true → lt a b = false
  tr : ∀ a b c, lt a b = true → lt b c = true → lt a c = true
  tri : ∀ a b, same a b = false → lt a b = true ∨ lt b a = true
  cong : ∀ a b c, same a b = true → lt a c = lt b c
  congr : ∀ a b c, same a b = true → lt c a = lt c b
  refl : ∀ a, same a a = true
section
variable {α : Type} {lt same : α → α → Bool}
theorem rises_iff (O : Ord lt same) : ∀ l : List α, rises lt l = true ↔ l.Pairwise fun a b => lt a b = true
  | [] => by simp [rises]
  | [a] => by simp [rises]
  | a :: b :: r => by
    rw [rises, Bool.and_eq_true, rises_iff O (b :: r), List.pairwise_cons (l := b :: r)]
    constructor
    · rintro ⟨h1, h2⟩
      refine ⟨fun c hc => ?_, h2⟩
      rcases List.mem_cons.1 hc with rfl | hc
      · exact h1
      · exact O.tr _ _ _ h1 ((List.pairwise_cons.1 h2).1 c hc)
    · rintro ⟨h1, h2⟩
      exact ⟨h1 b (by simp), h2⟩
theorem put_rises (O : Ord lt same) {l : List α} (h : rises lt l = true) (p : α) : rises lt (put lt l p) = true := by
  rw [rises_iff O] at *
  unfold put
  rw [List.pairwise_append, List.pairwise_cons]
  refine ⟨h.filter _, ⟨fun a ha => (List.mem_filter.1 ha).2, h.filter _⟩, fun a ha b hb => ?_⟩
  have ha := (List.mem_filter.1 ha).2
  rcases List.mem_cons.1 hb with rfl | hb
  · exact ha
  · exact O.tr _ _ _ ha (List.mem_filter.1 hb).2
theorem filter_rises (O : Ord lt same) {l : List α} (h : rises lt l = true) (f : α → Bool) : rises lt (l.filter f) = true := by
  rw [rises_iff O] at *; exact h.filter _
theorem put_perm (O : Ord lt same) (l : List α) (p : α) : (put lt l p).Perm (p :: l.filter fun a => !same a p) := by
  unfold put
  refine List.perm_middle.trans (List.Perm.cons p ?_)
  have hc : ∀ a : α, (!same a p) = (lt a p || lt p a) ∧ ¬ (lt a p = true ∧ lt p a = true) := fun a => by
    cases hs : same a p
    · constructor
      · rcases O.tri a p hs with h | h <;> simp [h]
      · rintro ⟨h1, h2⟩
        have := O.tr _ _ _ h1 h2
        rw [O.irr a a (O.refl a)] at this; cases this
    · rw [O.irr a p hs, show lt p a = false from by rw [O.congr a p p hs]; exact O.irr p p (O.refl p)]
      simp
  induction l with
  | nil => simp
  | cons a l ih =>
    obtain ⟨h1, h2⟩ := hc a
    simp only [List.filter_cons, h1]
    cases ha : lt a p <;> cases hb : lt p a
    · simpa using ih
    · simp only [Bool.false_or, if_true, if_false, Bool.false_eq_true]
      exact List.perm_middle.trans (List.Perm.cons a ih)
    · simp only [Bool.or_false, if_true, if_false, Bool.false_eq_true]
      exact List.Perm.cons a ih
    · exact absurd ⟨ha, hb⟩ h2
end
structure Inv (s : Sm) : Prop where
  v0 : 0 ≤ s.ver
  v1 : s.ver ≤ 1099511627776
  pl : ∀ p ∈ s.pools, isName p.name = true ∧ chkT p.tg = 0
  pr : rises plLt s.pools = true
  pn : s.pools.length ≤ 32
  rt : ∀ r ∈ s.routes, there s r.pool = true ∧ isHost r.host = true ∧ isPfx r.pfx = true
  rr : rises rtLt s.routes = true
  rn : s.routes.length ≤ 64
  la : ∀ x ∈ s.l, (1 ≤ x.client ∧ x.client ≤ 32) ∧ (1 ≤ x.seq ∧ x.seq ≤ 1099511627776) ∧ told x.e = true ∧ 0 ≤ x.ver ∧ x.ver ≤ s.ver
  lr : rises laLt s.l = true
  sz : (confB s.pools s.routes).length ≤ 12000
theorem Inv.new : Inv new := ⟨by decide, by decide, by simp [Cm.new], rfl, by decide, by simp [Cm.new], rfl, by decide, by simp [Cm.new], rfl, by decide⟩
theorem filter_ne_len {α : Type} {l : List α} {f : α → Bool} {a : α} (ha : a ∈ l) (hf : f a = false) : (l.filter f).length + 1 ≤ l.length := by
  induction l with
  | nil => cases ha
  | cons b r ih =>
    rcases List.mem_cons.1 ha with rfl | ha
    · rw [List.filter_cons, hf]; simp [List.length_filter_le]
    · have := ih ha
      rw [List.filter_cons]; split <;> simp <;> omega
theorem Inv.up {s : Sm} (I : Inv s) {v : Int} (h1 : s.ver ≤ v) (h2 : v ≤ 1099511627776) : Inv { s with ver := v } :=
  { I with v0 := by have := I.v0; simp; omega, v1 := h2, la := fun x hx => (I.la x hx).imp id fun h => h.imp id fun h => h.imp id fun h => h.imp id fun h => by simp; omega }
theorem Inv.right {s : Sm} (I : Inv s) : right s = true := by
  simp only [Cm.right, Bool.and_eq_true, decide_eq_true_eq]
  refine ⟨⟨⟨⟨?_, I.pr⟩, ?_, I.rr⟩, ?_, I.lr⟩, I.sz⟩
  · exact List.all_eq_true.2 fun p hp => by simp [I.pl p hp]
  · refine List.all_eq_true.2 fun r hr => ?_
    obtain ⟨h1, h2, h3⟩ := I.rt r hr
    have h1 : (s.pools.any fun p => decide (p.name = r.pool)) = true := h1
    rw [h1, h2, h3]; rfl
  · refine List.all_eq_true.2 fun x hx => ?_
    obtain ⟨h1, h2, h3, h4, h5⟩ := I.la x hx
    simp [rightL, h1, h2.1, h3, h5]
end Go.Cm
namespace Go.Dk
open Go.Cm (rises Ord)
abbrev Bs := List UInt8
inductive Un where
  | wr (at_ : Nat) (c : UInt8)
  | cut (n : Nat)
deriving DecidableEq
def ap (b : Bs) : Un → Bs
  | .cut n => b.take n
  | .wr i c => if i < b.length then b.set i c else b ++ [c]
def made (b : Bs) (u : List Un) : Bs := u.foldl ap b
structure Fl where
  name : Bs
  lasts : Bool
  sure : Bs
  units : List Un
deriving DecidableEq
def now (f : Fl) : Bs := made f.sure f.units
structure Ds where
  room : Int
  l : List Fl
def nameB (c : UInt8) : Bool := Cm.small c || decide (c.toNat = 46)
def named (s : Bs) : Bool := decide (1 ≤ s.length ∧ s.length ≤ 64) && s.all nameB
def used (d : Ds) : Nat := (d.l.map fun f => (now f).length).sum
def find (l : List Fl) (n : Bs) : Option Fl := l.find? fun f => decide (f.name = n)
def without (l : List Fl) (n : Bs) : List Fl := l.filter fun f => !decide (f.name = n)
def flLt (a b : Fl) : Bool := decide (a.name < b.name)
def flSame (a b : Fl) : Bool := decide (a.name = b.name)
def putF (l : List Fl) (f : Fl) : List Fl := Cm.put flLt l f
def wrs (i : Nat) : Bs → List Un
  | [] => []
  | c :: r => .wr i c :: wrs (i + 1) r
def fresh (n : Bs) : Fl := ⟨n, false, [], []⟩
def write (d : Ds) (n : Bs) (i : Int) (b : Bs) : Ds × Int :=
  if named n = false then (d, 14)
  else
    let f := (find d.l n).getD (fresh n)
    if i < 0 ∨ ((now f).length : Int) < i then (d, 2)
    else if (find d.l n = none ∧ 16 ≤ d.l.length) ∨ (262144 : Int) < max ((now f).length : Int) (i + b.length) then (d, 6)
    else if d.room < (used d : Int) - (now f).length + max ((now f).length : Int) (i + b.length) then (d, 9)
    else ({ d with l := putF d.l { f with units := f.units ++ wrs i.toNat b } }, 0)
def sync (d : Ds) (n : Bs) : Ds × Int := match find d.l n with
  | none => (d, 8)
  | some f => ({ d with l := putF d.l ⟨n, true, now f, []⟩ }, 0)
def rename (d : Ds) (a b : Bs) : Ds × Int := match find d.l a with
  | none => (d, 8)
  | some f => if named b = false then (d, 14) else if a = b then (d, 0) else ({ d with l := putF (without d.l a) { f with name := b } }, 0)
def remove (d : Ds) (n : Bs) : Ds × Int := match find d.l n with
  | none => (d, 8)
  | some _ => ({ d with l := without d.l n }, 0)
def read (d : Ds) (n : Bs) : Bs × Int := match find d.l n with
  | none => ([], 8)
  | some f => (now f, 0)
def keepAt (keep : List Int) (i : Nat) : Nat := ((keep[i]?).getD 0).toNat
def crashF (k : Nat) (f : Fl) : Option Fl := if f.lasts = false ∧ (k = 0 ∨ f.units = []) then none else some ⟨f.name, true, made f.sure (f.units.take k), []⟩
def crashL (keep : List Int) : Nat → List Fl → List Fl
  | _, [] => []
  | i, f :: r => match crashF (keepAt keep i) f with
    | none => crashL keep (i + 1) r
    | some g => g :: crashL keep (i + 1) r
def crash (d : Ds) (keep : List Int) : Ds := { d with l := crashL keep 0 d.l }
def newD (room : Int) : Ds := ⟨max 0 room, []⟩
theorem flOrd : Ord flLt flSame where
  irr a b h := by
    have h : a.name = b.name := of_decide_eq_true h
    exact decide_eq_false (by rw [h]; exact Cm.slt_irrefl _)
  tr a b c h k := decide_eq_true (Cm.slt_trans (of_decide_eq_true h) (of_decide_eq_true k))
  tri a b h := by
    have h : a.name ≠ b.name := of_decide_eq_false h
    rcases Cm.slt_tri a.name b.name with h1 | h1 | h1
    · exact .inl (decide_eq_true h1)
    · exact absurd h1 h
    · exact .inr (decide_eq_true h1)
  cong a b c h := by
    have h : a.name = b.name := of_decide_eq_true h
    unfold flLt; rw [h]
  congr a b c h := by
    have h : a.name = b.name := of_decide_eq_true h
    unfold flLt; rw [h]
  refl a := decide_eq_true rfl
def fits (b : Bs) : Un → Prop
  | .wr i _ => i ≤ b.length
  | .cut n => n ≤ b.length
def okU (b : Bs) : List Un → Prop
  | [] => b.length ≤ 262144
  | u :: r => b.length ≤ 262144 ∧ fits b u ∧ okU (ap b u) r
theorem made_app (b : Bs) (u v : List Un) : made b (u ++ v) = made (made b u) v := List.foldl_append
theorem okU_app : ∀ {u : List Un} {b : Bs} {v : List Un}, okU b u → okU (made b u) v → okU b (u ++ v)
  | [], _, _, _, h => h
  | _ :: _, _, _, h1, h2 => ⟨h1.1, h1.2.1, okU_app h1.2.2 h2⟩
theorem okU_len : ∀ {u : List Un} {b : Bs}, okU b u → b.length ≤ 262144 ∧ (made b u).length ≤ 262144
  | [], _, h => ⟨h, h⟩
  | _ :: _, _, h => ⟨h.1, (okU_len h.2.2).2⟩
theorem okU_take : ∀ {u : List Un} {b : Bs} (k : Nat), okU b u → okU b (u.take k)
  | [], _, k, h => by simpa using h
  | _ :: _, _, 0, h => h.1
  | _ :: _, _, k + 1, h => ⟨h.1, h.2.1, okU_take k h.2.2⟩
theorem okU_split : ∀ {u v : List Un} {b : Bs}, okU b (u ++ v) → okU b u ∧ okU (made b u) v
  | [], _, _, h => ⟨(okU_len h).1, h⟩
  | _ :: _, _, _, h => ⟨⟨h.1, h.2.1, (okU_split h.2.2).1⟩, (okU_split h.2.2).2⟩
theorem ap_wr (b : Bs) (i : Nat) (c : UInt8) : ap b (.wr i c) = if i < b.length then b.set i c else b ++ [c] := rfl
theorem ap_len {b : Bs} {i : Nat} {c : UInt8} (h : i ≤ b.length) : (ap b (.wr i c)).length = max b.length (i + 1) := by
  rw [ap_wr]
  split
  · rw [List.length_set]; omega
  · simp; omega
def lay (o : Bs) (i : Nat) (b : Bs) : Bs := o.take i ++ b ++ o.drop (i + b.length)
theorem lay_nil (o : Bs) (i : Nat) : lay o i [] = o := by simp [lay]
theorem lay_cons {o : Bs} {i : Nat} (c : UInt8) (r : Bs) (h : i ≤ o.length) : lay (ap o (.wr i c)) (i + 1) r = lay o i (c :: r) := by
  unfold lay
  rw [ap_wr]
  by_cases hi : i < o.length
  · rw [if_pos hi]
    have e1 : (o.set i c).take (i + 1) = o.take i ++ [c] := by
      rw [List.take_set, List.take_succ_eq_append_getElem hi, List.set_append_right _ _ (by simp; omega)]
      simp [Nat.min_eq_left (Nat.le_of_lt hi)]
    have e2 : (o.set i c).drop (i + 1 + r.length) = o.drop (i + (c :: r).length) := by
      rw [List.drop_set_of_lt (by omega)]
      congr 1
      simp; omega
    rw [e1, e2]
    simp
  · rw [if_neg hi]
    have : i = o.length := by omega
    subst this
    rw [List.take_of_length_le (by simp), List.drop_of_length_le (by simp), List.take_of_length_le (Nat.le_refl _), List.drop_of_length_le (by omega)]
    simp
theorem made_wrs : ∀ (b o : Bs) (i : Nat), i ≤ o.length → made o (wrs i b) = lay o i b
  | [], o, i, _ => by simp [made, wrs, lay_nil]
  | c :: r, o, i, h => by
    show made (ap o (.wr i c)) (wrs (i + 1) r) = _
    rw [made_wrs r _ _ (by rw [ap_len h]; omega), lay_cons c r h]
theorem okU_wrs : ∀ (b o : Bs) (i : Nat), i ≤ o.length → o.length ≤ 262144 → i + b.length ≤ 262144 → okU o (wrs i b)
  | [], _, _, _, h, _ => h
  | c :: r, o, i, h, h2, h3 => by
    rw [List.length_cons] at h3
    exact ⟨h2, h, okU_wrs r _ _ (by rw [ap_len h]; omega) (by rw [ap_len h]; omega) (by omega)⟩
theorem lay_len {o b : Bs} {i : Nat} (h : i ≤ o.length) : (lay o i b).length = max o.length (i + b.length) := by
  unfold lay
  simp; omega
theorem wrs_take : ∀ (b : Bs) (i k : Nat), (wrs i b).take k = wrs i (b.take k)
  | [], _, _ => by simp [wrs]
  | _ :: _, _, 0 => rfl
  | c :: r, i, k + 1 => by
    show .wr i c :: (wrs (i + 1) r).take k = _
    rw [wrs_take r (i + 1) k]; rfl
theorem wrs_len : ∀ (b : Bs) (i : Nat), (wrs i b).length = b.length
  | [], _ => rfl
  | _ :: r, i => by show (wrs (i + 1) r).length + 1 = _; rw [wrs_len r]; rfl
structure Inv (d : Ds) : Prop where
  r : rises flLt d.l = true
  n : d.l.length ≤ 16
  nm : ∀ f ∈ d.l, named f.name = true
  u : ∀ f ∈ d.l, okU f.sure f.units
  s : ∀ f ∈ d.l, f.lasts = false → f.sure = []
theorem Inv.new (room : Int) : Inv (newD room) := ⟨rfl, Nat.zero_le _, fun _ h => (nomatch h), fun _ h => (nomatch h), fun _ h => (nomatch h)⟩
theorem find_some {l : List Fl} {n : Bs} {f : Fl} (h : find l n = some f) : f ∈ l ∧ f.name = n :=
  ⟨List.mem_of_find?_eq_some h, by simpa using List.find?_some h⟩
theorem find_none {l : List Fl} {n : Bs} (h : find l n = none) : ∀ f ∈ l, f.name ≠ n := fun f hf => by
  have := List.find?_eq_none.1 h f hf
  simpa using this
theorem mem_putF {l : List Fl} {f g : Fl} (h : g ∈ putF l f) : g = f ∨ (g ∈ l ∧ g.name ≠ f.name) := by
  have hp := (Cm.put_perm flOrd l f).mem_iff.1 h
  rcases List.mem_cons.1 hp with h1 | h1
  · exact .inl h1
  · obtain ⟨h2, h3⟩ := List.mem_filter.1 h1
    exact .inr ⟨h2, by simpa [flSame] using h3⟩
theorem putF_len (l : List Fl) (f : Fl) : (putF l f).length = (without l f.name).length + 1 := by
  have := (Cm.put_perm flOrd l f).length_eq
  exact this
theorem without_len {l : List Fl} {f : Fl} (h : f ∈ l) : (without l f.name).length + 1 ≤ l.length := Cm.filter_ne_len h (by simp)
theorem without_same {l : List Fl} {n : Bs} (h : ∀ f ∈ l, f.name ≠ n) : without l n = l := List.filter_eq_self.2 fun f hf => by simp [h f hf]
theorem Inv.put {d : Ds} (I : Inv d) {f : Fl} (h1 : named f.name = true) (h2 : okU f.sure f.units) (h3 : f.lasts = false → f.sure = []) (h4 : (without d.l f.name).length ≤ 15) : Inv { d with l := putF d.l f } where
  r := Cm.put_rises flOrd I.r f
  n := by show (putF d.l f).length ≤ 16; rw [putF_len]; omega
  nm g hg := by rcases mem_putF hg with rfl | ⟨h, _⟩; exact h1; exact I.nm g h
  u g hg := by rcases mem_putF hg with rfl | ⟨h, _⟩; exact h2; exact I.u g h
  s g hg := by rcases mem_putF hg with rfl | ⟨h, _⟩; exact h3; exact I.s g h
theorem Inv.filter {d : Ds} (I : Inv d) (p : Fl → Bool) : Inv { d with l := d.l.filter p } where
  r := Cm.filter_rises flOrd I.r p
  n := Nat.le_trans (List.length_filter_le ..) I.n
  nm g hg := I.nm g (List.mem_filter.1 hg).1
  u g hg := I.u g (List.mem_filter.1 hg).1
  s g hg := I.s g (List.mem_filter.1 hg).1
theorem Inv.fit {d : Ds} (I : Inv d) {f : Fl} (h : f ∈ d.l) : (without d.l f.name).length ≤ 15 := by
  have := without_len h
  have := I.n
  omega
theorem Inv.write {d : Ds} (I : Inv d) (n : Bs) (i : Int) (b : Bs) : Inv (write d n i b).1 := by
  unfold Dk.write
  split
  · exact I
  · rename_i hn
    have hn : named n = true := by cases h : named n <;> simp_all
    simp only
    split
    · exact I
    · rename_i hi
      split
      · exact I
      · rename_i hl
        split
        · exact I
        · have hi0 : (i.toNat : Int) = i := by omega
          cases hf : find d.l n with
          | none =>
            rw [hf] at hi hl
            simp only [Option.getD_none] at hi hl ⊢
            have hno := find_none hf
            refine I.put hn ?_ (fun _ => rfl) ?_
            · have h0 : now (fresh n) = [] := rfl
              rw [h0] at hi hl
              simp at hi hl
              exact okU_wrs b [] i.toNat (by omega) (by decide) (by omega)
            · show (without d.l n).length ≤ 15
              rw [without_same hno]
              simp at hl
              omega
          | some f =>
            obtain ⟨hm, hname⟩ := find_some hf
            rw [hf] at hi hl
            simp only [Option.getD_some] at hi hl ⊢
            refine I.put (by rw [hname]; exact hn) ?_ (I.s f hm) (I.fit (f := f) hm :)
            have hu := I.u f hm
            have hlen := (okU_len hu).2
            have hle : i.toNat ≤ (now f).length := by omega
            refine okU_app hu (okU_wrs b (made f.sure f.units) i.toNat hle hlen ?_)
            have : (262144 : Int) ≥ i + b.length := by omega
            omega
theorem Inv.sync {d : Ds} (I : Inv d) (n : Bs) : Inv (sync d n).1 := by
  unfold Dk.sync
  split
  · exact I
  · rename_i f hf
    obtain ⟨hm, hname⟩ := find_some hf
    subst hname
    exact I.put (I.nm f hm) (okU_len (I.u f hm)).2 (fun h => by cases h) (I.fit (f := f) hm :)
theorem Inv.rename {d : Ds} (I : Inv d) (a b : Bs) : Inv (rename d a b).1 := by
  unfold Dk.rename
  split
  · exact I
  · rename_i f hf
    obtain ⟨hm, hname⟩ := find_some hf
    subst hname
    split
    · exact I
    · rename_i hn
      split
      · exact I
      · have I2 : Inv { d with l := without d.l f.name } := I.filter _
        refine Inv.put (d := { d with l := without d.l f.name }) I2 (by cases h : named b <;> simp_all) (I.u f hm) (I.s f hm) ?_
        exact Nat.le_trans (List.length_filter_le ..) (I.fit hm)
theorem Inv.remove {d : Ds} (I : Inv d) (n : Bs) : Inv (remove d n).1 := by
  unfold Dk.remove
  split
  · exact I
  · exact I.filter _
theorem crashL_mem {keep : List Int} : ∀ {i : Nat} {l : List Fl} {g : Fl}, g ∈ crashL keep i l → ∃ f ∈ l, ∃ k, crashF k f = some g
  | _, [], _, h => by cases h
  | i, f :: r, g, h => by
    unfold crashL at h
    split at h
    · obtain ⟨f', h1, h2⟩ := crashL_mem h
      exact ⟨f', List.mem_cons_of_mem _ h1, h2⟩
    · rename_i g' hg
      rcases List.mem_cons.1 h with rfl | h
      · exact ⟨f, List.mem_cons_self, _, hg⟩
      · obtain ⟨f', h1, h2⟩ := crashL_mem h
        exact ⟨f', List.mem_cons_of_mem _ h1, h2⟩
theorem crashF_some {k : Nat} {f g : Fl} (h : crashF k f = some g) : g = ⟨f.name, true, made f.sure (f.units.take k), []⟩ := by
  unfold crashF at h
  split at h
  · cases h
  · injection h with h; exact h.symm
theorem crashL_len (keep : List Int) : ∀ (i : Nat) (l : List Fl), (crashL keep i l).length ≤ l.length
  | _, [] => Nat.le_refl _
  | i, f :: r => by
    have := crashL_len keep (i + 1) r
    unfold crashL
    split <;> simp only [List.length_cons] <;> omega
theorem crashL_pair (keep : List Int) : ∀ (i : Nat) (l : List Fl), l.Pairwise (fun a b => flLt a b = true) → (crashL keep i l).Pairwise fun a b => flLt a b = true
  | _, [], _ => List.Pairwise.nil
  | i, f :: r, h => by
    rw [List.pairwise_cons] at h
    have ih := crashL_pair keep (i + 1) r h.2
    unfold crashL
    split
    · exact ih
    · rename_i g hg
      refine List.pairwise_cons.2 ⟨fun x hx => ?_, ih⟩
      obtain ⟨f', h1, k, h2⟩ := crashL_mem hx
      have := h.1 f' h1
      rw [crashF_some hg, crashF_some h2]
      exact this
theorem Inv.crash {d : Ds} (I : Inv d) (keep : List Int) : Inv (crash d keep) where
  r := (Cm.rises_iff flOrd _).2 (crashL_pair keep 0 d.l ((Cm.rises_iff flOrd _).1 I.r))
  n := Nat.le_trans (crashL_len keep 0 d.l) I.n
  nm g hg := by
    obtain ⟨f, h1, k, h2⟩ := crashL_mem hg
    rw [crashF_some h2]; exact I.nm f h1
  u g hg := by
    obtain ⟨f, h1, k, h2⟩ := crashL_mem hg
    rw [crashF_some h2]
    exact (okU_len (okU_take k (I.u f h1))).2
  s g hg h := by
    obtain ⟨f, h1, k, h2⟩ := crashL_mem hg
    rw [crashF_some h2] at h; cases h
end Go.Dk
namespace Go.Proofs.YtclinifclfahfaaGreat
open Go Go.Vc
set_option maxRecDepth 100000
set_option linter.unusedVariables false
def T_qa8 (room1 : Int) (w : World) (R : RT) : Prop :=
 let w2 : World := w.alloc (.map #[] 0)
 let w3 : World := w2.alloc (.cells #[.int .i64 (if room1 > 0 then room1 else 0), .map (some w.heap.size)] 87)
 R (.returned (.pointer (some (⟨w2.heap.size, 0, none⟩ : Addr)))) w3
theorem T_qa8_hl : allP (hokL Tryz.prog (hookAt []) (bodyOf Tryz.f16) 1) = (True) := by kernel_rfl
theorem T_qa8_eq (room1 : Int) (w : World) (R : RT) : vcCode Tryz.prog (hookAt []) (bodyOf Tryz.f16) 1 ⟨argEnv [.int .i64 room1] 0, Tryz.f16.ntmps, []⟩ w (finQ Tryz.prog Tryz.f16.results.toList R) = T_qa8 room1 w R := by kernel_rfl
theorem T_qa8_b : Tryz.f16.body = some (bodyOf Tryz.f16) := by kernel_rfl
theorem T_qa8_s : (quietSel (bodyOf Tryz.f16) && Nat.ble 1 Tryz.f16.ntmps) = true := by kernel_rfl
theorem C_qa8 {room1 : Int} {w : World} {R : RT} (h : T_qa8 room1 w R) : Calls Tryz.prog 16 #[.int .i64 room1] w R :=
 calls_of_text (args := [.int .i64 room1]) mixed Tryz.func16 T_qa8_b T_qa8_s (HOk_of _ _ (by rw [T_qa8_hl]; exact trivial)) (by rw [T_qa8_eq]; exact h)
def T_q81 (s2 : ByteArray) (w : World) (Kn : Bool → World → Prop) (Kp : XT) : Prop :=
 if (((s2.size : Nat) : Int) == 0) = true then (Kn true w) else (Kn (decide (((s2.size : Nat) : Int) > 64)) w)
def T_q3w : Exit → Option (List (Nat × Value)) := fun x => match x with | .normal => some [(12, .bool false)] | .panic _ => some [] | _ => none
def T_q62 : Nat → Bool := ksOf [5, 6, 7, 8, 9, 10, 11, 12]
def H_q81 : Env → World → QT → Prop := unitHook 45 T_q62 [(0, .string default)] T_q3w fun l w C => match l with | [v0] => T_q81 (pStr v0) w (fun b4 w => C .normal [.bool b4] w) (fun ch w => C (.panic ch) [] w) | _ => False
theorem T_q81_hl : allP (hokL Tryz.prog (hookAt []) (at_ (bodyOf Tryz.f69) [1, 0, 0]) 12) = (True) := by kernel_rfl
theorem T_q81_hok : HOk Tryz.prog (hookAt []) (at_ (bodyOf Tryz.f69) [1, 0, 0]) 12 := HOk_of _ _ (by rw [T_q81_hl]; exact trivial)
theorem T_q81_eq (C : Conts) (s2 : ByteArray) (w : World) : vcCode Tryz.prog (hookAt []) (at_ (bodyOf Tryz.f69) [1, 0, 0]) 12 ⟨[(0, .string s2)], 45, []⟩ w (unitQ T_q3w C) = T_q81 s2 w (fun b5 w => C .normal [.bool b5] w) (fun ch w => C (.panic ch) [] w) := by kernel_rfl
theorem T_q9a_1_ok : UnitOk Tryz.prog H_q81 (at_ (bodyOf Tryz.f69) [1, 0, 0]) 12 := unit_ok (H := (hookAt [])) (by kernel_rfl) T_q81_hok fun l w C hk => by
  obtain ⟨v0, _, rfl, k_v0, hk_v0⟩ := kC hk
  obtain ⟨s2, rfl⟩ := kind_string k_v0
  obtain rfl := kN hk_v0
  exact T_q81_eq C s2 w
def T_q9a_2_body (X : Int → World → Prop) (x8 : Int) (s9 : ByteArray) (x10 : Int) (w : World) (Kn : World → Prop) (Kr : Bool → World → Prop) (Kp : XT)  : Prop :=
 if (decide (x8 < x10)) = true then (0 ≤ x8 ∧ ∃ c11, s9[x8.toNat]? = some c11 ∧ if (decide (((c11.toNat : Nat) : Int) ≥ 97)) = true then (if (decide (((c11.toNat : Nat) : Int) ≤ 122)) = true then (X (IntKind.wrap .i64 (x8 + 1)) w) else (if (decide (((c11.toNat : Nat) : Int) ≥ 48)) = true then (if (decide (((c11.toNat : Nat) : Int) ≤ 57)) = true then (X (IntKind.wrap .i64 (x8 + 1)) w) else (if (((c11.toNat : Nat) : Int) == 45) = true then (X (IntKind.wrap .i64 (x8 + 1)) w) else (if (!(((c11.toNat : Nat) : Int) == 46)) = true then (Kr false w) else (X (IntKind.wrap .i64 (x8 + 1)) w)))) else (if (((c11.toNat : Nat) : Int) == 45) = true then (X (IntKind.wrap .i64 (x8 + 1)) w) else (if (!(((c11.toNat : Nat) : Int) == 46)) = true then (Kr false w) else (X (IntKind.wrap .i64 (x8 + 1)) w))))) else (if (decide (((c11.toNat : Nat) : Int) ≥ 48)) = true then (if (decide (((c11.toNat : Nat) : Int) ≤ 57)) = true then (X (IntKind.wrap .i64 (x8 + 1)) w) else (if (((c11.toNat : Nat) : Int) == 45) = true then (X (IntKind.wrap .i64 (x8 + 1)) w) else (if (!(((c11.toNat : Nat) : Int) == 46)) = true then (Kr false w) else (X (IntKind.wrap .i64 (x8 + 1)) w)))) else (if (((c11.toNat : Nat) : Int) == 45) = true then (X (IntKind.wrap .i64 (x8 + 1)) w) else (if (!(((c11.toNat : Nat) : Int) == 46)) = true then (Kr false w) else (X (IntKind.wrap .i64 (x8 + 1)) w))))) else (Kn  w)
def T_q82 (x8 : Int) (s9 : ByteArray) (x10 : Int) (w : World) (Kn : World → Prop) (Kr : Bool → World → Prop) (Kp : XT) : Prop :=
 ∀ X : Int → World → Prop, (∀ (x8 : Int) (w : World), T_q9a_2_body X x8 s9 x10 w Kn Kr Kp → X x8 w) → X x8 w
def T_q3x : Exit → Option (List (Nat × Value)) := fun x => match x with | .normal => some [] | .ret => some [(2, .bool false)] | .panic _ => some [] | _ => none
def T_q63 : Nat → Bool := ksOf [2, 3, 4, 15, 16, 17, 18, 19, 20, 21, 22, 23, 24, 25, 26, 27, 28, 29, 30, 31, 32, 33, 34, 35, 36, 37, 38, 39, 40, 41, 42, 43, 44]
def H_q82 : Env → World → QT → Prop := unitHook 45 T_q63 [(15, .int .i64 0), (0, .string default), (14, .int .i64 0)] T_q3x fun l w C => match l with | [v0, v1, v2] => T_q82 (pInt v0) (pStr v1) (pInt v2) w (fun w => C .normal [] w) (fun b13 w => C .ret [.bool b13] w) (fun ch w => C (.panic ch) [] w) | _ => False
theorem T_q82_hl : allP (hokL Tryz.prog (hookAt []) (at_ (bodyOf Tryz.f69) [1, 1, 0, 1, 0, 0]) 116) = (True) := by kernel_rfl
theorem T_q82_hok : HOk Tryz.prog (hookAt []) (at_ (bodyOf Tryz.f69) [1, 1, 0, 1, 0, 0]) 116 := HOk_of _ _ (by rw [T_q82_hl]; exact trivial)
theorem T_q82_eq (C : Conts) (X : List Value → World → Prop) (x8 : Int) (s9 : ByteArray) (x10 : Int) (w : World) : vcCode Tryz.prog (hookAt []) (at_ (bodyOf Tryz.f69) [1, 1, 0, 1, 0, 0]) 116 ⟨[(15, .int .i64 x8)] ++ [(0, .string s9), (14, .int .i64 x10)], 45, []⟩ w (seqQ (fun e w => takeAll e [(15, .int .i64 0)] fun l => X l w) (blockQ 0 (unitQ T_q3x C))) = T_q9a_2_body (fun x8 w => X [.int .i64 x8] w) x8 s9 x10 w (fun w => C .normal [] w) (fun b14 w => C .ret [.bool b14] w) (fun ch w => C (.panic ch) [] w) := by kernel_rfl
theorem T_q9a_2_ok : UnitOk Tryz.prog H_q82 (at_ (bodyOf Tryz.f69) [1, 1, 0, 1]) 29 := by
 have hc : at_ (bodyOf Tryz.f69) [1, 1, 0, 1] = .block 0 (.loop (at_ (bodyOf Tryz.f69) [1, 1, 0, 1, 0, 0])) := by kernel_rfl
 rw [hc]
 refine loop_unit_ok (carr := [(15, .int .i64 0)]) (fix := [(0, .string default), (14, .int .i64 0)]) (ks := T_q63) (H := (hookAt [])) (B := fun C X l u w => match l, u with | [v0], [v1, v2] => T_q9a_2_body (fun x8 w => X [.int .i64 x8] w) (pInt v0) (pStr v1) (pInt v2) w (fun w => C .normal [] w) (fun b15 w => C .ret [.bool b15] w) (fun ch w => C (.panic ch) [] w) | _, _ => False) (by kernel_rfl) (by kernel_rfl) T_q82_hok ?_ ?_
 ·intro C X l u w hl hu
  obtain ⟨v0, _, rfl, k_v0, hl_v0⟩ := kC hl
  obtain ⟨x8, rfl⟩ := kind_int k_v0
  obtain rfl := kN hl_v0
  obtain ⟨v1, _, rfl, k_v1, hu_v1⟩ := kC hu
  obtain ⟨s9, rfl⟩ := kind_string k_v1
  obtain ⟨v2, _, rfl, k_v2, hu_v2⟩ := kC hu_v1
  obtain ⟨x10, rfl⟩ := kind_int k_v2
  obtain rfl := kN hu_v2
  exact T_q82_eq C X x8 s9 x10 w
 ·intro l u w C hl hu
  obtain ⟨v0, _, rfl, k_v0, hl_v0⟩ := kC hl
  obtain ⟨x8, rfl⟩ := kind_int k_v0
  obtain rfl := kN hl_v0
  obtain ⟨v1, _, rfl, k_v1, hu_v1⟩ := kC hu
  obtain ⟨s9, rfl⟩ := kind_string k_v1
  obtain ⟨v2, _, rfl, k_v2, hu_v2⟩ := kC hu_v1
  obtain ⟨x10, rfl⟩ := kind_int k_v2
  obtain rfl := kN hu_v2
  constructor
  ·intro h X hX
   exact h (fun x8 w => X [.int .i64 x8] w) (fun x8 w hb => hX [.int .i64 x8] w ⟨rfl, trivial⟩ hb)
  ·intro h X hX
   exact h (fun l w => match l with | [v0] => X (pInt v0) w | _ => True) (fun l w hl hb => by
    obtain ⟨v0, _, rfl, k_v0, hl_v0⟩ := kC hl
    obtain ⟨x8, rfl⟩ := kind_int k_v0
    obtain rfl := kN hl_v0
    exact hX x8 w hb)
def T_q9a (s1 : ByteArray) (w : World) (R : RT) : Prop :=
 T_q81 s1 w (fun b6 w7 => if b6 = true then (R (.returned (.bool false)) w7) else (T_q82 0 s1 ((s1.size : Nat) : Int) w7 (fun w16 => R (.returned (.bool true)) w16) (fun b17 w18 => R (.returned (.bool b17)) w18) (pan R))) (pan R)
theorem T_q9a_hl : allP (hokL Tryz.prog (hookAt [(12, H_q81), (29, H_q82)]) (bodyOf Tryz.f69) 1) = (UnitOk Tryz.prog H_q81 (at_ (bodyOf Tryz.f69) [1, 0, 0]) 12 ∧ UnitOk Tryz.prog H_q82 (at_ (bodyOf Tryz.f69) [1, 1, 0, 1]) 29 ∧ True) := by kernel_rfl
theorem T_q9a_eq (s1 : ByteArray) (w : World) (R : RT) : vcCode Tryz.prog (hookAt [(12, H_q81), (29, H_q82)]) (bodyOf Tryz.f69) 1 ⟨argEnv [.string s1] 0, Tryz.f69.ntmps, []⟩ w (finQ Tryz.prog Tryz.f69.results.toList R) = T_q9a s1 w R := by kernel_rfl
theorem T_q9a_b : Tryz.f69.body = some (bodyOf Tryz.f69) := by kernel_rfl
theorem T_q9a_s : (quietSel (bodyOf Tryz.f69) && Nat.ble 1 Tryz.f69.ntmps) = true := by kernel_rfl
theorem C_q9a {s1 : ByteArray} {w : World} {R : RT} (h : T_q9a s1 w R) : Calls Tryz.prog 69 #[.string s1] w R :=
 calls_of_text (args := [.string s1]) mixed Tryz.func69 T_q9a_b T_q9a_s (HOk_of _ _ (by rw [T_q9a_hl]; exact ⟨T_q9a_1_ok, T_q9a_2_ok, trivial⟩)) (by rw [T_q9a_eq]; exact h)
def T_qa9 (old1a : Option Addr) (old1l old1c : Nat) (at2 : Int) (b3a : Option Addr) (b3l b3c : Nat) (w : World) (R : RT) : Prop :=
 Calls Tryz.prog 67 #[.slice old1a old1l old1c] w (ret (fun r4 w5 => ∃ (s6a : Option Addr) (s6l s6c : Nat), r4 = .slice s6a s6l s6c ∧ 0 ≤ at2 ∧ at2 ≤ ((s6l : Nat) : Int) ∧ runV Tryz.prog (Builtin.copy_ #[27, 27] 3 #[.slice (if s6c = (at2.toNat) then s6a else s6a.map (fun x => x.add ((at2.toNat) * 1))) (s6l - (at2.toNat)) (s6c - (at2.toNat)), .slice b3a b3l b3c]) w5 (fun r7 w8 => ∃ x9 : Int, r7 = .int .i64 x9 ∧ 0 ≤ x9 ∧ x9 ≤ ((b3l : Nat) : Int) ∧ runV Tryz.prog (Builtin.append_ #[27, 27] 27 #[.slice s6a s6l s6c, .slice (if b3c = (x9.toNat) then b3a else b3a.map (fun x => x.add ((x9.toNat) * 1))) (b3l - (x9.toNat)) (b3c - (x9.toNat))]) w8 (fun r10 w11 => ∃ (s12a : Option Addr) (s12l s12c : Nat), r10 = .slice s12a s12l s12c ∧ R (.returned (.slice s12a s12l s12c)) w11) (pan R)) (pan R)) (pan R))
theorem T_qa9_hl : allP (hokL Tryz.prog (hookAt []) (bodyOf Tryz.f70) 1) = (True) := by kernel_rfl
theorem T_qa9_eq (old1a : Option Addr) (old1l old1c : Nat) (at2 : Int) (b3a : Option Addr) (b3l b3c : Nat) (w : World) (R : RT) : vcCode Tryz.prog (hookAt []) (bodyOf Tryz.f70) 1 ⟨argEnv [.slice old1a old1l old1c, .int .i64 at2, .slice b3a b3l b3c] 0, Tryz.f70.ntmps, []⟩ w (finQ Tryz.prog Tryz.f70.results.toList R) = T_qa9 old1a old1l old1c at2 b3a b3l b3c w R := by kernel_rfl
theorem T_qa9_b : Tryz.f70.body = some (bodyOf Tryz.f70) := by kernel_rfl
theorem T_qa9_s : (quietSel (bodyOf Tryz.f70) && Nat.ble 3 Tryz.f70.ntmps) = true := by kernel_rfl
theorem C_qa9 {old1a : Option Addr} {old1l old1c : Nat} {at2 : Int} {b3a : Option Addr} {b3l b3c : Nat} {w : World} {R : RT} (h : T_qa9 old1a old1l old1c at2 b3a b3l b3c w R) : Calls Tryz.prog 70 #[.slice old1a old1l old1c, .int .i64 at2, .slice b3a b3l b3c] w R :=
 calls_of_text (args := [.slice old1a old1l old1c, .int .i64 at2, .slice b3a b3l b3c]) mixed Tryz.func70 T_qa9_b T_qa9_s (HOk_of _ _ (by rw [T_qa9_hl]; exact trivial)) (by rw [T_qa9_eq]; exact h)
def T_q3p (f14 : Option Addr) (b15 : Bool) (w : World) (Kn : Option Addr → World → Prop) (Kp : XT) : Prop :=
 if b15 = true then (let w17 : World := w.alloc (.cells #[.slice none 0 0, .slice none 0 0, .bool false, .slice none 0 0] 104)
 Kn (some (⟨w.heap.size, 0, none⟩ : Addr)) w17) else (Kn f14 w)
def T_q0m : Exit → Option (List (Nat × Value)) := fun x => match x with | .normal => some [(9, .pointer none)] | .panic _ => some [] | _ => none
def T_q1t : Nat → Bool := ksOf [9, 28, 29]
def H_q3p : Env → World → QT → Prop := unitHook 110 T_q1t [(9, .pointer none), (27, .bool false)] T_q0m fun l w C => match l with | [v0, v1] => T_q3p (pPtr v0) (pBool v1) w (fun f19 w => C .normal [.pointer f19] w) (fun ch w => C (.panic ch) [] w) | _ => False
theorem T_q3p_hl : allP (hokL Tryz.prog (hookAt []) (at_ (bodyOf Tryz.f22) [1, 1, 1, 1, 0, 1]) 125) = (True) := by kernel_rfl
theorem T_q3p_hok : HOk Tryz.prog (hookAt []) (at_ (bodyOf Tryz.f22) [1, 1, 1, 1, 0, 1]) 125 := HOk_of _ _ (by rw [T_q3p_hl]; exact trivial)
theorem T_q3p_eq (C : Conts) (f14 : Option Addr) (b15 : Bool) (w : World) : vcCode Tryz.prog (hookAt []) (at_ (bodyOf Tryz.f22) [1, 1, 1, 1, 0, 1]) 125 ⟨[(9, .pointer f14), (27, .bool b15)], 110, []⟩ w (unitQ T_q0m C) = T_q3p f14 b15 w (fun f20 w => C .normal [.pointer f20] w) (fun ch w => C (.panic ch) [] w) := by kernel_rfl
theorem T_q60_1_ok : UnitOk Tryz.prog H_q3p (at_ (bodyOf Tryz.f22) [1, 1, 1, 1, 0, 1]) 125 := unit_ok (H := (hookAt [])) (by kernel_rfl) T_q3p_hok fun l w C hk => by
  obtain ⟨v0, _, rfl, k_v0, hk_v0⟩ := kC hk
  obtain ⟨f14, rfl⟩ := kind_pointer k_v0
  obtain ⟨v1, _, rfl, k_v1, hk_v1⟩ := kC hk_v0
  obtain ⟨b15, rfl⟩ := kind_bool k_v1
  obtain rfl := kN hk_v1
  exact T_q3p_eq C f14 b15 w
def T_q3q (at23 : Int) (f24 : Option Addr) (w : World) (Kn : Bool → World → Prop) (Kp : XT) : Prop :=
 if (decide (at23 < 0)) = true then (Kn true w) else (∃ a25, f24 = some a25 ∧ ∃ (s26a : Option Addr) (s26l s26c : Nat), rd w a25 (.slice s26a s26l s26c) ∧ Kn (decide (at23 > ((s26l : Nat) : Int))) w)
def T_q0n : Exit → Option (List (Nat × Value)) := fun x => match x with | .normal => some [(40, .bool false)] | .panic _ => some [] | _ => none
def T_q1u : Nat → Bool := ksOf [30, 31, 32, 33, 34, 35, 36, 37, 38, 39, 40]
def H_q3q : Env → World → QT → Prop := unitHook 110 T_q1u [(2, .int .i64 0), (9, .pointer none)] T_q0n fun l w C => match l with | [v0, v1] => T_q3q (pInt v0) (pPtr v1) w (fun b28 w => C .normal [.bool b28] w) (fun ch w => C (.panic ch) [] w) | _ => False
theorem T_q3q_hl : allP (hokL Tryz.prog (hookAt []) (at_ (bodyOf Tryz.f22) [1, 1, 1, 1, 1, 0, 0]) 252) = (True) := by kernel_rfl
theorem T_q3q_hok : HOk Tryz.prog (hookAt []) (at_ (bodyOf Tryz.f22) [1, 1, 1, 1, 1, 0, 0]) 252 := HOk_of _ _ (by rw [T_q3q_hl]; exact trivial)
theorem T_q3q_eq (C : Conts) (at23 : Int) (f24 : Option Addr) (w : World) : vcCode Tryz.prog (hookAt []) (at_ (bodyOf Tryz.f22) [1, 1, 1, 1, 1, 0, 0]) 252 ⟨[(2, .int .i64 at23), (9, .pointer f24)], 110, []⟩ w (unitQ T_q0n C) = T_q3q at23 f24 w (fun b29 w => C .normal [.bool b29] w) (fun ch w => C (.panic ch) [] w) := by kernel_rfl
theorem T_q60_2_ok : UnitOk Tryz.prog H_q3q (at_ (bodyOf Tryz.f22) [1, 1, 1, 1, 1, 0, 0]) 252 := unit_ok (H := (hookAt [])) (by kernel_rfl) T_q3q_hok fun l w C hk => by
  obtain ⟨v0, _, rfl, k_v0, hk_v0⟩ := kC hk
  obtain ⟨at23, rfl⟩ := kind_int k_v0
  obtain ⟨v1, _, rfl, k_v1, hk_v1⟩ := kC hk_v0
  obtain ⟨f24, rfl⟩ := kind_pointer k_v1
  obtain rfl := kN hk_v1
  exact T_q3q_eq C at23 f24 w
def T_q3s (d38 : Option Addr) (there39 : Bool) (w : World) (Kn : Bool → World → Prop) (Kp : XT) : Prop :=
 if (!there39) = true then (∃ a40, d38 = some a40 ∧ ∃ m41 : Option Nat, rd w (a40.add 1) (.map m41) ∧ runV Tryz.prog (Builtin.len_ #[85] 3 #[.map m41]) w (fun r42 w43 => ∃ x44 : Int, r42 = .int .i64 x44 ∧ Kn (decide (x44 ≥ 16)) w43) Kp) else (Kn false w)
def T_q0p : Exit → Option (List (Nat × Value)) := fun x => match x with | .normal => some [(52, .bool false)] | .panic _ => some [] | _ => none
def T_q1w : Nat → Bool := ksOf [52, 53, 54, 55, 56, 57, 58, 59, 60, 61, 62]
def H_q3s : Env → World → QT → Prop := unitHook 110 T_q1w [(0, .pointer none), (10, .bool false)] T_q0p fun l w C => match l with | [v0, v1] => T_q3s (pPtr v0) (pBool v1) w (fun b46 w => C .normal [.bool b46] w) (fun ch w => C (.panic ch) [] w) | _ => False
theorem T_q3s_hl : allP (hokL Tryz.prog (hookAt []) (at_ (bodyOf Tryz.f22) [1, 1, 1, 1, 1, 1, 1, 0, 0, 0, 0]) 4080) = (True) := by kernel_rfl
theorem T_q3s_hok : HOk Tryz.prog (hookAt []) (at_ (bodyOf Tryz.f22) [1, 1, 1, 1, 1, 1, 1, 0, 0, 0, 0]) 4080 := HOk_of _ _ (by rw [T_q3s_hl]; exact trivial)
theorem T_q3s_eq (C : Conts) (d38 : Option Addr) (there39 : Bool) (w : World) : vcCode Tryz.prog (hookAt []) (at_ (bodyOf Tryz.f22) [1, 1, 1, 1, 1, 1, 1, 0, 0, 0, 0]) 4080 ⟨[(0, .pointer d38), (10, .bool there39)], 110, []⟩ w (unitQ T_q0p C) = T_q3s d38 there39 w (fun b47 w => C .normal [.bool b47] w) (fun ch w => C (.panic ch) [] w) := by kernel_rfl
theorem T_q60_4_ok : UnitOk Tryz.prog H_q3s (at_ (bodyOf Tryz.f22) [1, 1, 1, 1, 1, 1, 1, 0, 0, 0, 0]) 4080 := unit_ok (H := (hookAt [])) (by kernel_rfl) T_q3s_hok fun l w C hk => by
  obtain ⟨v0, _, rfl, k_v0, hk_v0⟩ := kC hk
  obtain ⟨d38, rfl⟩ := kind_pointer k_v0
  obtain ⟨v1, _, rfl, k_v1, hk_v1⟩ := kC hk_v0
  obtain ⟨there39, rfl⟩ := kind_bool k_v1
  obtain rfl := kN hk_v1
  exact T_q3s_eq C d38 there39 w
def T_q3t (f50 : Option Addr) (more51 : Int) (b52 : Bool) (w : World) (Kn : Bool → World → Prop) (Kp : XT) : Prop :=
 if b52 = true then (Kn b52 w) else (∃ a53, f50 = some a53 ∧ ∃ (s54a : Option Addr) (s54l s54c : Nat), rd w a53 (.slice s54a s54l s54c) ∧ Kn (decide ((IntKind.wrap .i64 (((s54l : Nat) : Int) + more51) : Int) > 262144)) w)
def T_q0q : Exit → Option (List (Nat × Value)) := fun x => match x with | .normal => some [(52, .bool false)] | .panic _ => some [] | _ => none
def T_q1x : Nat → Bool := ksOf [52, 63, 64, 65, 66, 67, 68, 69, 70]
def H_q3t : Env → World → QT → Prop := unitHook 110 T_q1x [(9, .pointer none), (11, .int .i64 0), (52, .bool false)] T_q0q fun l w C => match l with | [v0, v1, v2] => T_q3t (pPtr v0) (pInt v1) (pBool v2) w (fun b56 w => C .normal [.bool b56] w) (fun ch w => C (.panic ch) [] w) | _ => False
theorem T_q3t_hl : allP (hokL Tryz.prog (hookAt []) (at_ (bodyOf Tryz.f22) [1, 1, 1, 1, 1, 1, 1, 0, 0, 0, 1]) 4081) = (True) := by kernel_rfl
theorem T_q3t_hok : HOk Tryz.prog (hookAt []) (at_ (bodyOf Tryz.f22) [1, 1, 1, 1, 1, 1, 1, 0, 0, 0, 1]) 4081 := HOk_of _ _ (by rw [T_q3t_hl]; exact trivial)
theorem T_q3t_eq (C : Conts) (f50 : Option Addr) (more51 : Int) (b52 : Bool) (w : World) : vcCode Tryz.prog (hookAt []) (at_ (bodyOf Tryz.f22) [1, 1, 1, 1, 1, 1, 1, 0, 0, 0, 1]) 4081 ⟨[(9, .pointer f50), (11, .int .i64 more51), (52, .bool b52)], 110, []⟩ w (unitQ T_q0q C) = T_q3t f50 more51 b52 w (fun b57 w => C .normal [.bool b57] w) (fun ch w => C (.panic ch) [] w) := by kernel_rfl
theorem T_q60_5_ok : UnitOk Tryz.prog H_q3t (at_ (bodyOf Tryz.f22) [1, 1, 1, 1, 1, 1, 1, 0, 0, 0, 1]) 4081 := unit_ok (H := (hookAt [])) (by kernel_rfl) T_q3t_hok fun l w C hk => by
  obtain ⟨v0, _, rfl, k_v0, hk_v0⟩ := kC hk
  obtain ⟨f50, rfl⟩ := kind_pointer k_v0
  obtain ⟨v1, _, rfl, k_v1, hk_v1⟩ := kC hk_v0
  obtain ⟨more51, rfl⟩ := kind_int k_v1
  obtain ⟨v2, _, rfl, k_v2, hk_v2⟩ := kC hk_v1
  obtain ⟨b52, rfl⟩ := kind_bool k_v2
  obtain rfl := kN hk_v2
  exact T_q3t_eq C f50 more51 b52 w
def T_q3r (d34 f35 : Option Addr) (there36 : Bool) (more37 : Int) (w : World) (Kn : World → Prop) (Kr : Int → World → Prop) (Kp : XT) : Prop :=
 T_q3s d34 there36 w (fun b48 w49 => T_q3t f35 more37 b48 w49 (fun b58 w59 => if b58 = true then (Kr 6 w59) else (let w60 : World := w59.drew
 ∃ a61, d34 = some a61 ∧ ∃ x62 : Int, rd w60 a61 (.int .i64 x62) ∧ Calls Tryz.prog 29 #[.pointer d34] w60 (ret (fun r63 w64 => ∃ x65 : Int, r63 = .int .i64 x65 ∧ (rd w64 a61 (.int .i64 x62) ∧ True) ∧ if (decide ((IntKind.wrap .i64 (x65 + more37) : Int) > x62)) = true then (Kr 9 w64) else (Kn  w64)) Kp))) Kp) Kp
def T_q0o : Exit → Option (List (Nat × Value)) := fun x => match x with | .normal => some [] | .ret => some [(8, .int .i64 0)] | .panic _ => some [] | _ => none
def T_q1v : Nat → Bool := ksOf [8, 52, 53, 54, 55, 56, 57, 58, 59, 60, 61, 62, 63, 64, 65, 66, 67, 68, 69, 70, 71, 72, 73, 74, 75, 76, 77, 78, 79, 80]
def H_q3r : Env → World → QT → Prop := unitHook 110 T_q1v [(0, .pointer none), (9, .pointer none), (10, .bool false), (11, .int .i64 0)] T_q0o fun l w C => match l with | [v0, v1, v2, v3] => T_q3r (pPtr v0) (pPtr v1) (pBool v2) (pInt v3) w (fun w => C .normal [] w) (fun x67 w => C .ret [.int .i64 x67] w) (fun ch w => C (.panic ch) [] w) | _ => False
theorem T_q3r_hl : allP (hokL Tryz.prog (hookAt [(4080, H_q3s), (4081, H_q3t)]) (at_ (bodyOf Tryz.f22) [1, 1, 1, 1, 1, 1, 1, 0]) 510) = (UnitOk Tryz.prog H_q3s (at_ (bodyOf Tryz.f22) [1, 1, 1, 1, 1, 1, 1, 0, 0, 0, 0]) 4080 ∧ UnitOk Tryz.prog H_q3t (at_ (bodyOf Tryz.f22) [1, 1, 1, 1, 1, 1, 1, 0, 0, 0, 1]) 4081 ∧ True) := by kernel_rfl
theorem T_q3r_hok : HOk Tryz.prog (hookAt [(4080, H_q3s), (4081, H_q3t)]) (at_ (bodyOf Tryz.f22) [1, 1, 1, 1, 1, 1, 1, 0]) 510 := HOk_of _ _ (by rw [T_q3r_hl]; exact ⟨T_q60_4_ok, T_q60_5_ok, trivial⟩)
theorem T_q3r_eq (C : Conts) (d34 f35 : Option Addr) (there36 : Bool) (more37 : Int) (w : World) : vcCode Tryz.prog (hookAt [(4080, H_q3s), (4081, H_q3t)]) (at_ (bodyOf Tryz.f22) [1, 1, 1, 1, 1, 1, 1, 0]) 510 ⟨[(0, .pointer d34), (9, .pointer f35), (10, .bool there36), (11, .int .i64 more37)], 110, []⟩ w (unitQ T_q0o C) = T_q3r d34 f35 there36 more37 w (fun w => C .normal [] w) (fun x68 w => C .ret [.int .i64 x68] w) (fun ch w => C (.panic ch) [] w) := by kernel_rfl
theorem T_q60_3_ok : UnitOk Tryz.prog H_q3r (at_ (bodyOf Tryz.f22) [1, 1, 1, 1, 1, 1, 1, 0]) 510 := unit_ok (H := (hookAt [(4080, H_q3s), (4081, H_q3t)])) (by kernel_rfl) T_q3r_hok fun l w C hk => by
  obtain ⟨v0, _, rfl, k_v0, hk_v0⟩ := kC hk
  obtain ⟨d34, rfl⟩ := kind_pointer k_v0
  obtain ⟨v1, _, rfl, k_v1, hk_v1⟩ := kC hk_v0
  obtain ⟨f35, rfl⟩ := kind_pointer k_v1
  obtain ⟨v2, _, rfl, k_v2, hk_v2⟩ := kC hk_v1
  obtain ⟨there36, rfl⟩ := kind_bool k_v2
  obtain ⟨v3, _, rfl, k_v3, hk_v3⟩ := kC hk_v2
  obtain ⟨more37, rfl⟩ := kind_int k_v3
  obtain rfl := kN hk_v3
  exact T_q3r_eq C d34 f35 there36 more37 w
def T_q60 (d1 : Option Addr) (name2 : ByteArray) (at3 : Int) (b4a : Option Addr) (b4l b4c : Nat) (w : World) (R : RT) : Prop :=
 if d1.isNone = true then (R (.returned (.int .i64 1)) w) else (Calls Tryz.prog 69 #[.string name2] w (ret (fun r5 w6 => ∃ b7 : Bool, r5 = .bool b7 ∧ if (!b7) = true then (R (.returned (.int .i64 14)) w6) else (∃ a8, d1 = some a8 ∧ ∃ m9 : Option Nat, rd w6 (a8.add 1) (.map m9) ∧ runV Tryz.prog (Instr.lookup 85 (.map m9) (.string name2) true) w6 (fun r10 w11 => ∃ (p12 : Option Addr) (b13 : Bool), r10 = .tuple #[.pointer p12, .bool b13] ∧ T_q3p p12 (!b13) w11 (fun f21 w22 => T_q3q at3 f21 w22 (fun b30 w31 => if b30 = true then (R (.returned (.int .i64 2)) w31) else (∃ a32, f21 = some a32 ∧ ∃ (s33a : Option Addr) (s33l s33c : Nat), rd w31 a32 (.slice s33a s33l s33c) ∧ T_q3r d1 f21 b13 (if (IntKind.wrap .i64 ((IntKind.wrap .i64 (at3 + ((b4l : Nat) : Int)) : Int) - ((s33l : Nat) : Int))) > 0 then (IntKind.wrap .i64 ((IntKind.wrap .i64 (at3 + ((b4l : Nat) : Int)) : Int) - ((s33l : Nat) : Int))) else 0) w31 (fun w69 => ∃ a70, f21 = some a70 ∧ ∃ (s71a : Option Addr) (s71l s71c : Nat), rd w69 a70 (.slice s71a s71l s71c) ∧ Calls Tryz.prog 70 #[.slice s71a s71l s71c, .int .i64 at3, .slice b4a b4l b4c] w69 (ret (fun r72 w73 => ∃ (s74a : Option Addr) (s74l s74c : Nat), r72 = .slice s74a s74l s74c ∧ ∃ a75, f21 = some a75 ∧ (.slice s74a s74l s74c : Value).cells.size = 1 ∧ wrOk w73 a75 (.slice s74a s74l s74c) ∧ let w76 : World := wr w73 a75 (.slice s74a s74l s74c)
 let w77 : World := w76.drew
 ∃ a78, f21 = some a78 ∧ ∃ (s79a : Option Addr) (s79l s79c : Nat), rd w77 (a78.add 3) (.slice s79a s79l s79c) ∧ Calls Tryz.prog 67 #[.slice b4a b4l b4c] w77 (ret (fun r80 w81 => ∃ (s82a : Option Addr) (s82l s82c : Nat), r80 = .slice s82a s82l s82c ∧ (rd w81 (a78.add 3) (.slice s79a s79l s79c) ∧ True) ∧ let w83 : World := w81.alloc (.cells #[.bool false, .int .i64 0, .int .i64 at3, .slice s82a s82l s82c] 114)
 (rd w83 (a78.add 3) (.slice s79a s79l s79c) ∧ True) ∧ runV Tryz.prog (Builtin.append_ #[102, 102] 102 #[.slice s79a s79l s79c, .slice (some (⟨w81.heap.size, 0, none⟩ : Addr)) 1 1]) w83 (fun r84 w85 => ∃ (s86a : Option Addr) (s86l s86c : Nat), r84 = .slice s86a s86l s86c ∧ (True) ∧ ∃ a87, f21 = some a87 ∧ (.slice s86a s86l s86c : Value).cells.size = 1 ∧ wrOk w85 (a87.add 3) (.slice s86a s86l s86c) ∧ let w88 : World := wr w85 (a87.add 3) (.slice s86a s86l s86c)
 (True) ∧ ∃ a89, d1 = some a89 ∧ ∃ m90 : Option Nat, rd w88 (a89.add 1) (.map m90) ∧ runV Tryz.prog (Instr.mapUpdate 85 (.map m90) (.string name2) (.pointer f21)) w88 (fun _ w91 => R (.returned (.int .i64 0)) w91) (pan R)) (pan R)) (pan R))) (pan R))) (fun x92 w93 => R (.returned (.int .i64 x92)) w93) (pan R))) (pan R)) (pan R)) (pan R))) (pan R)))
theorem T_q60_hl : allP (hokL Tryz.prog (hookAt [(125, H_q3p), (252, H_q3q), (510, H_q3r)]) (bodyOf Tryz.f22) 1) = (UnitOk Tryz.prog H_q3p (at_ (bodyOf Tryz.f22) [1, 1, 1, 1, 0, 1]) 125 ∧ UnitOk Tryz.prog H_q3q (at_ (bodyOf Tryz.f22) [1, 1, 1, 1, 1, 0, 0]) 252 ∧ UnitOk Tryz.prog H_q3r (at_ (bodyOf Tryz.f22) [1, 1, 1, 1, 1, 1, 1, 0]) 510 ∧ True) := by kernel_rfl
theorem T_q60_eq (d1 : Option Addr) (name2 : ByteArray) (at3 : Int) (b4a : Option Addr) (b4l b4c : Nat) (w : World) (R : RT) : vcCode Tryz.prog (hookAt [(125, H_q3p), (252, H_q3q), (510, H_q3r)]) (bodyOf Tryz.f22) 1 ⟨argEnv [.pointer d1, .string name2, .int .i64 at3, .slice b4a b4l b4c] 0, Tryz.f22.ntmps, []⟩ w (finQ Tryz.prog Tryz.f22.results.toList R) = T_q60 d1 name2 at3 b4a b4l b4c w R := by kernel_rfl
theorem T_q60_b : Tryz.f22.body = some (bodyOf Tryz.f22) := by kernel_rfl
theorem T_q60_s : (quietSel (bodyOf Tryz.f22) && Nat.ble 4 Tryz.f22.ntmps) = true := by kernel_rfl
theorem C_q60 {d1 : Option Addr} {name2 : ByteArray} {at3 : Int} {b4a : Option Addr} {b4l b4c : Nat} {w : World} {R : RT} (h : T_q60 d1 name2 at3 b4a b4l b4c w R) : Calls Tryz.prog 22 #[.pointer d1, .string name2, .int .i64 at3, .slice b4a b4l b4c] w R :=
 calls_of_text (args := [.pointer d1, .string name2, .int .i64 at3, .slice b4a b4l b4c]) mixed Tryz.func22 T_q60_b T_q60_s (HOk_of _ _ (by rw [T_q60_hl]; exact ⟨T_q60_1_ok, T_q60_2_ok, T_q60_3_ok, trivial⟩)) (by rw [T_q60_eq]; exact h)
def T_q6w (d1 : Option Addr) (name2 : ByteArray) (do3g : FuncId) (do3i do3c : Array Value) (w : World) (R : RT) : Prop :=
 if d1.isNone = true then (R (.returned (.int .i64 1)) w) else (∃ a4, d1 = some a4 ∧ ∃ m5 : Option Nat, rd w (a4.add 1) (.map m5) ∧ runV Tryz.prog (Instr.lookup 85 (.map m5) (.string name2) true) w (fun r6 w7 => ∃ (p8 : Option Addr) (b9 : Bool), r6 = .tuple #[.pointer p8, .bool b9] ∧ if (!b9) = true then (R (.returned (.int .i64 8)) w7) else (hasBody Tryz.prog do3g = true ∧ Calls Tryz.prog do3g ⟨do3i.toList ++ ([.pointer p8] ++ do3c.toList)⟩ w7 (ret (fun r10 w11 => ∃ x12 : Int, r10 = .int .i64 x12 ∧ R (.returned (.int .i64 x12)) w11) (pan R)))) (pan R))
theorem T_q6w_hl : allP (hokL Tryz.prog (hookAt []) (bodyOf Tryz.f93) 1) = (True) := by kernel_rfl
theorem T_q6w_eq (d1 : Option Addr) (name2 : ByteArray) (do3g : FuncId) (do3i do3c : Array Value) (w : World) (R : RT) : vcCode Tryz.prog (hookAt []) (bodyOf Tryz.f93) 1 ⟨argEnv [.pointer d1, .string name2, .func (.func do3g) do3i do3c] 0, Tryz.f93.ntmps, []⟩ w (finQ Tryz.prog Tryz.f93.results.toList R) = T_q6w d1 name2 do3g do3i do3c w R := by kernel_rfl
theorem T_q6w_b : Tryz.f93.body = some (bodyOf Tryz.f93) := by kernel_rfl
theorem T_q6w_s : (quietSel (bodyOf Tryz.f93) && Nat.ble 3 Tryz.f93.ntmps) = true := by kernel_rfl
theorem C_q6w {d1 : Option Addr} {name2 : ByteArray} {do3g : FuncId} {do3i do3c : Array Value} {w : World} {R : RT} (h : T_q6w d1 name2 do3g do3i do3c w R) : Calls Tryz.prog 93 #[.pointer d1, .string name2, .func (.func do3g) do3i do3c] w R :=
 calls_of_text (args := [.pointer d1, .string name2, .func (.func do3g) do3i do3c]) mixed Tryz.func93 T_q6w_b T_q6w_s (HOk_of _ _ (by rw [T_q6w_hl]; exact trivial)) (by rw [T_q6w_eq]; exact h)
def T_q3o (f1 : Option Addr) (w : World) (R : RT) : Prop :=
 ∃ a2, f1 = some a2 ∧ ∃ (s3a : Option Addr) (s3l s3c : Nat), rd w a2 (.slice s3a s3l s3c) ∧ Calls Tryz.prog 67 #[.slice s3a s3l s3c] w (ret (fun r4 w5 => ∃ (s6a : Option Addr) (s6l s6c : Nat), r4 = .slice s6a s6l s6c ∧ ∃ a7, f1 = some a7 ∧ (.slice s6a s6l s6c : Value).cells.size = 1 ∧ wrOk w5 (a7.add 1) (.slice s6a s6l s6c) ∧ let w8 : World := wr w5 (a7.add 1) (.slice s6a s6l s6c)
 ∃ a9, f1 = some a9 ∧ (.bool true : Value).cells.size = 1 ∧ wrOk w8 (a9.add 2) (.bool true) ∧ let w10 : World := wr w8 (a9.add 2) (.bool true)
 ∃ a11, f1 = some a11 ∧ (.slice none 0 0 : Value).cells.size = 1 ∧ wrOk w10 (a11.add 3) (.slice none 0 0) ∧ let w12 : World := wr w10 (a11.add 3) (.slice none 0 0)
 R (.returned (.int .i64 0)) w12) (pan R))
theorem T_q3o_hl : allP (hokL Tryz.prog (hookAt []) (bodyOf Tryz.f95) 1) = (True) := by kernel_rfl
theorem T_q3o_eq (f1 : Option Addr) (w : World) (R : RT) : vcCode Tryz.prog (hookAt []) (bodyOf Tryz.f95) 1 ⟨argEnv [.pointer f1] 0, Tryz.f95.ntmps, []⟩ w (finQ Tryz.prog Tryz.f95.results.toList R) = T_q3o f1 w R := by kernel_rfl
theorem T_q3o_b : Tryz.f95.body = some (bodyOf Tryz.f95) := by kernel_rfl
theorem T_q3o_s : (quietSel (bodyOf Tryz.f95) && Nat.ble 1 Tryz.f95.ntmps) = true := by kernel_rfl
theorem C_q3o {f1 : Option Addr} {w : World} {R : RT} (h : T_q3o f1 w R) : Calls Tryz.prog 95 #[.pointer f1] w R :=
 calls_of_text (args := [.pointer f1]) mixed Tryz.func95 T_q3o_b T_q3o_s (HOk_of _ _ (by rw [T_q3o_hl]; exact trivial)) (by rw [T_q3o_eq]; exact h)
def T_q6u (d1 : Option Addr) (name2 : ByteArray) (w : World) (R : RT) : Prop :=
 Calls Tryz.prog 93 #[.pointer d1, .string name2, .func (.func 95) #[] #[]] w (ret (fun r3 w4 => ∃ x5 : Int, r3 = .int .i64 x5 ∧ R (.returned (.int .i64 x5)) w4) (pan R))
theorem T_q6u_hl : allP (hokL Tryz.prog (hookAt []) (bodyOf Tryz.f57) 1) = (True) := by kernel_rfl
theorem T_q6u_eq (d1 : Option Addr) (name2 : ByteArray) (w : World) (R : RT) : vcCode Tryz.prog (hookAt []) (bodyOf Tryz.f57) 1 ⟨argEnv [.pointer d1, .string name2] 0, Tryz.f57.ntmps, []⟩ w (finQ Tryz.prog Tryz.f57.results.toList R) = T_q6u d1 name2 w R := by kernel_rfl
theorem T_q6u_b : Tryz.f57.body = some (bodyOf Tryz.f57) := by kernel_rfl
theorem T_q6u_s : (quietSel (bodyOf Tryz.f57) && Nat.ble 2 Tryz.f57.ntmps) = true := by kernel_rfl
theorem C_q6u {d1 : Option Addr} {name2 : ByteArray} {w : World} {R : RT} (h : T_q6u d1 name2 w R) : Calls Tryz.prog 57 #[.pointer d1, .string name2] w R :=
 calls_of_text (args := [.pointer d1, .string name2]) mixed Tryz.func57 T_q6u_b T_q6u_s (HOk_of _ _ (by rw [T_q6u_hl]; exact trivial)) (by rw [T_q6u_eq]; exact h)
def T_q2f (f1 : Option Addr) (cap2 cap3 cap4 : Addr) (w : World) (R : RT) : Prop :=
 ∃ s5 : ByteArray, rd w cap2 (.string s5) ∧ Calls Tryz.prog 69 #[.string s5] w (ret (fun r6 w7 => ∃ b8 : Bool, r6 = .bool b8 ∧ if (!b8) = true then (R (.returned (.int .i64 14)) w7) else (∃ s9 : ByteArray, rd w7 cap3 (.string s9) ∧ ∃ s10 : ByteArray, rd w7 cap2 (.string s10) ∧ if (!(s9.toList == s10.toList)) = true then (let w11 : World := w7.drew
 ∃ p12 : Option Addr, rd w11 cap4 (.pointer p12) ∧ ∃ a13, p12 = some a13 ∧ ∃ m14 : Option Nat, rd w11 (a13.add 1) (.map m14) ∧ ∃ s15 : ByteArray, rd w11 cap2 (.string s15) ∧ runV Tryz.prog (Instr.mapUpdate 85 (.map m14) (.string s15) (.pointer f1)) w11 (fun _ w16 => (True) ∧ let w17 : World := w16.drew
 ∃ p18 : Option Addr, rd w17 cap4 (.pointer p18) ∧ ∃ a19, p18 = some a19 ∧ ∃ m20 : Option Nat, rd w17 (a19.add 1) (.map m20) ∧ ∃ s21 : ByteArray, rd w17 cap3 (.string s21) ∧ runV Tryz.prog (Builtin.delete_ #[85, 9] 0 #[.map m20, .string s21]) w17 (fun r22 w23 => (rd w23 cap4 (.pointer p18) ∧ True) ∧ R (.returned (.int .i64 0)) w23) (pan R)) (pan R)) else (R (.returned (.int .i64 0)) w7))) (pan R))
theorem T_q2f_hl : allP (hokL Tryz.prog (hookAt []) (bodyOf Tryz.f96) 1) = (True) := by kernel_rfl
theorem T_q2f_eq (f1 : Option Addr) (cap2 cap3 cap4 : Addr) (w : World) (R : RT) : vcCode Tryz.prog (hookAt []) (bodyOf Tryz.f96) 1 ⟨argEnv [.pointer f1, .pointer (some cap2), .pointer (some cap3), .pointer (some cap4)] 0, Tryz.f96.ntmps, []⟩ w (finQ Tryz.prog Tryz.f96.results.toList R) = T_q2f f1 cap2 cap3 cap4 w R := by kernel_rfl
theorem T_q2f_b : Tryz.f96.body = some (bodyOf Tryz.f96) := by kernel_rfl
theorem T_q2f_s : (quietSel (bodyOf Tryz.f96) && Nat.ble 4 Tryz.f96.ntmps) = true := by kernel_rfl
theorem C_q2f {f1 : Option Addr} {cap2 cap3 cap4 : Addr} {w : World} {R : RT} (h : T_q2f f1 cap2 cap3 cap4 w R) : Calls Tryz.prog 96 #[.pointer f1, .pointer (some cap2), .pointer (some cap3), .pointer (some cap4)] w R :=
 calls_of_text (args := [.pointer f1, .pointer (some cap2), .pointer (some cap3), .pointer (some cap4)]) mixed Tryz.func96 T_q2f_b T_q2f_s (HOk_of _ _ (by rw [T_q2f_hl]; exact trivial)) (by rw [T_q2f_eq]; exact h)
def T_q4y (d1 : Option Addr) (from2 to3 : ByteArray) (w : World) (R : RT) : Prop :=
 let w4 : World := w.alloc (.cells #[.pointer d1] 42)
 let w5 : World := w4.alloc (.cells #[.string from2] 9)
 let w6 : World := w5.alloc (.cells #[.string to3] 9)
 ∃ p7 : Option Addr, rd w6 (⟨w.heap.size, 0, none⟩ : Addr) (.pointer p7) ∧ ∃ s8 : ByteArray, rd w6 (⟨w4.heap.size, 0, none⟩ : Addr) (.string s8) ∧ Calls Tryz.prog 93 #[.pointer p7, .string s8, .func (.func 96) #[] #[.pointer (some (⟨w5.heap.size, 0, none⟩ : Addr)), .pointer (some (⟨w4.heap.size, 0, none⟩ : Addr)), .pointer (some (⟨w.heap.size, 0, none⟩ : Addr))]] w6 (ret (fun r9 w10 => ∃ x11 : Int, r9 = .int .i64 x11 ∧ R (.returned (.int .i64 x11)) w10) (pan R))
theorem T_q4y_hl : allP (hokL Tryz.prog (hookAt []) (bodyOf Tryz.f58) 1) = (True) := by kernel_rfl
theorem T_q4y_eq (d1 : Option Addr) (from2 to3 : ByteArray) (w : World) (R : RT) : vcCode Tryz.prog (hookAt []) (bodyOf Tryz.f58) 1 ⟨argEnv [.pointer d1, .string from2, .string to3] 0, Tryz.f58.ntmps, []⟩ w (finQ Tryz.prog Tryz.f58.results.toList R) = T_q4y d1 from2 to3 w R := by kernel_rfl
theorem T_q4y_b : Tryz.f58.body = some (bodyOf Tryz.f58) := by kernel_rfl
theorem T_q4y_s : (quietSel (bodyOf Tryz.f58) && Nat.ble 3 Tryz.f58.ntmps) = true := by kernel_rfl
theorem C_q4y {d1 : Option Addr} {from2 to3 : ByteArray} {w : World} {R : RT} (h : T_q4y d1 from2 to3 w R) : Calls Tryz.prog 58 #[.pointer d1, .string from2, .string to3] w R :=
 calls_of_text (args := [.pointer d1, .string from2, .string to3]) mixed Tryz.func58 T_q4y_b T_q4y_s (HOk_of _ _ (by rw [T_q4y_hl]; exact trivial)) (by rw [T_q4y_eq]; exact h)
def T_q2e (p1 : Option Addr) (cap2 cap3 : Addr) (w : World) (R : RT) : Prop :=
 let w4 : World := w.drew
 ∃ p5 : Option Addr, rd w4 cap2 (.pointer p5) ∧ ∃ a6, p5 = some a6 ∧ ∃ m7 : Option Nat, rd w4 (a6.add 1) (.map m7) ∧ ∃ s8 : ByteArray, rd w4 cap3 (.string s8) ∧ runV Tryz.prog (Builtin.delete_ #[85, 9] 0 #[.map m7, .string s8]) w4 (fun r9 w10 => (rd w10 cap2 (.pointer p5) ∧ True) ∧ R (.returned (.int .i64 0)) w10) (pan R)
theorem T_q2e_hl : allP (hokL Tryz.prog (hookAt []) (bodyOf Tryz.f94) 1) = (True) := by kernel_rfl
theorem T_q2e_eq (p1 : Option Addr) (cap2 cap3 : Addr) (w : World) (R : RT) : vcCode Tryz.prog (hookAt []) (bodyOf Tryz.f94) 1 ⟨argEnv [.pointer p1, .pointer (some cap2), .pointer (some cap3)] 0, Tryz.f94.ntmps, []⟩ w (finQ Tryz.prog Tryz.f94.results.toList R) = T_q2e p1 cap2 cap3 w R := by kernel_rfl
theorem T_q2e_b : Tryz.f94.body = some (bodyOf Tryz.f94) := by kernel_rfl
theorem T_q2e_s : (quietSel (bodyOf Tryz.f94) && Nat.ble 3 Tryz.f94.ntmps) = true := by kernel_rfl
theorem C_q2e {p1 : Option Addr} {cap2 cap3 : Addr} {w : World} {R : RT} (h : T_q2e p1 cap2 cap3 w R) : Calls Tryz.prog 94 #[.pointer p1, .pointer (some cap2), .pointer (some cap3)] w R :=
 calls_of_text (args := [.pointer p1, .pointer (some cap2), .pointer (some cap3)]) mixed Tryz.func94 T_q2e_b T_q2e_s (HOk_of _ _ (by rw [T_q2e_hl]; exact trivial)) (by rw [T_q2e_eq]; exact h)
def T_q4x (d1 : Option Addr) (name2 : ByteArray) (w : World) (R : RT) : Prop :=
 let w3 : World := w.alloc (.cells #[.pointer d1] 42)
 let w4 : World := w3.alloc (.cells #[.string name2] 9)
 ∃ p5 : Option Addr, rd w4 (⟨w.heap.size, 0, none⟩ : Addr) (.pointer p5) ∧ ∃ s6 : ByteArray, rd w4 (⟨w3.heap.size, 0, none⟩ : Addr) (.string s6) ∧ Calls Tryz.prog 93 #[.pointer p5, .string s6, .func (.func 94) #[] #[.pointer (some (⟨w.heap.size, 0, none⟩ : Addr)), .pointer (some (⟨w3.heap.size, 0, none⟩ : Addr))]] w4 (ret (fun r7 w8 => ∃ x9 : Int, r7 = .int .i64 x9 ∧ R (.returned (.int .i64 x9)) w8) (pan R))
theorem T_q4x_hl : allP (hokL Tryz.prog (hookAt []) (bodyOf Tryz.f56) 1) = (True) := by kernel_rfl
theorem T_q4x_eq (d1 : Option Addr) (name2 : ByteArray) (w : World) (R : RT) : vcCode Tryz.prog (hookAt []) (bodyOf Tryz.f56) 1 ⟨argEnv [.pointer d1, .string name2] 0, Tryz.f56.ntmps, []⟩ w (finQ Tryz.prog Tryz.f56.results.toList R) = T_q4x d1 name2 w R := by kernel_rfl
theorem T_q4x_b : Tryz.f56.body = some (bodyOf Tryz.f56) := by kernel_rfl
theorem T_q4x_s : (quietSel (bodyOf Tryz.f56) && Nat.ble 2 Tryz.f56.ntmps) = true := by kernel_rfl
theorem C_q4x {d1 : Option Addr} {name2 : ByteArray} {w : World} {R : RT} (h : T_q4x d1 name2 w R) : Calls Tryz.prog 56 #[.pointer d1, .string name2] w R :=
 calls_of_text (args := [.pointer d1, .string name2]) mixed Tryz.func56 T_q4x_b T_q4x_s (HOk_of _ _ (by rw [T_q4x_hl]; exact trivial)) (by rw [T_q4x_eq]; exact h)
def T_q3n (f1 : Option Addr) (cap2 : Addr) (w : World) (R : RT) : Prop :=
 let w3 : World := w.drew
 ∃ a4, f1 = some a4 ∧ ∃ (s5a : Option Addr) (s5l s5c : Nat), rd w3 a4 (.slice s5a s5l s5c) ∧ ∃ a6, f1 = some a6 ∧ ∃ (s7a : Option Addr) (s7l s7c : Nat), rd w3 a6 (.slice s7a s7l s7c) ∧ ∃ a8, f1 = some a8 ∧ ∃ (s9a : Option Addr) (s9l s9c : Nat), rd w3 a8 (.slice s9a s9l s9c) ∧ 0 ≤ ((s9l : Nat) : Int) ∧ ((s9l : Nat) : Int) ≤ ((s5c : Nat) : Int) ∧ 0 ≤ ((s7l : Nat) : Int) ∧ ((s7l : Nat) : Int) ≤ ((((s9l : Nat) : Int).toNat : Nat) : Int) ∧ Calls Tryz.prog 67 #[.slice (if (((s9l : Nat) : Int).toNat) = 0 then s5a else s5a.map (fun x => x.add (0 * 1))) ((((s7l : Nat) : Int).toNat) - 0) ((((s9l : Nat) : Int).toNat) - 0)] w3 (ret (fun r10 w11 => ∃ (s12a : Option Addr) (s12l s12c : Nat), r10 = .slice s12a s12l s12c ∧ (True) ∧ (.slice s12a s12l s12c : Value).cells.size = 1 ∧ wrOk w11 cap2 (.slice s12a s12l s12c) ∧ let w13 : World := wr w11 cap2 (.slice s12a s12l s12c)
 (True) ∧ R (.returned (.int .i64 0)) w13) (pan R))
theorem T_q3n_hl : allP (hokL Tryz.prog (hookAt []) (bodyOf Tryz.f100) 1) = (True) := by kernel_rfl
theorem T_q3n_eq (f1 : Option Addr) (cap2 : Addr) (w : World) (R : RT) : vcCode Tryz.prog (hookAt []) (bodyOf Tryz.f100) 1 ⟨argEnv [.pointer f1, .pointer (some cap2)] 0, Tryz.f100.ntmps, []⟩ w (finQ Tryz.prog Tryz.f100.results.toList R) = T_q3n f1 cap2 w R := by kernel_rfl
theorem T_q3n_b : Tryz.f100.body = some (bodyOf Tryz.f100) := by kernel_rfl
theorem T_q3n_s : (quietSel (bodyOf Tryz.f100) && Nat.ble 2 Tryz.f100.ntmps) = true := by kernel_rfl
theorem C_q3n {f1 : Option Addr} {cap2 : Addr} {w : World} {R : RT} (h : T_q3n f1 cap2 w R) : Calls Tryz.prog 100 #[.pointer f1, .pointer (some cap2)] w R :=
 calls_of_text (args := [.pointer f1, .pointer (some cap2)]) mixed Tryz.func100 T_q3n_b T_q3n_s (HOk_of _ _ (by rw [T_q3n_hl]; exact trivial)) (by rw [T_q3n_eq]; exact h)
def T_q6t (d1 : Option Addr) (name2 : ByteArray) (w : World) (R : RT) : Prop :=
 let w3 : World := w.alloc (.cells #[.slice none 0 0] 27)
 Calls Tryz.prog 93 #[.pointer d1, .string name2, .func (.func 100) #[] #[.pointer (some (⟨w.heap.size, 0, none⟩ : Addr))]] w3 (ret (fun r4 w5 => ∃ x6 : Int, r4 = .int .i64 x6 ∧ ∃ (s7a : Option Addr) (s7l s7c : Nat), rd w5 (⟨w.heap.size, 0, none⟩ : Addr) (.slice s7a s7l s7c) ∧ (.slice s7a s7l s7c : Value).cells.size = 1 ∧ wrOk w5 (⟨w.heap.size, 0, none⟩ : Addr) (.slice s7a s7l s7c) ∧ let w8 : World := wr w5 (⟨w.heap.size, 0, none⟩ : Addr) (.slice s7a s7l s7c)
 ∃ (s9a : Option Addr) (s9l s9c : Nat), rd w8 (⟨w.heap.size, 0, none⟩ : Addr) (.slice s9a s9l s9c) ∧ R (.returned (.tuple #[.slice s9a s9l s9c, .int .i64 x6])) w8) (pan R))
theorem T_q6t_hl : allP (hokL Tryz.prog (hookAt []) (bodyOf Tryz.f75) 1) = (True) := by kernel_rfl
theorem T_q6t_eq (d1 : Option Addr) (name2 : ByteArray) (w : World) (R : RT) : vcCode Tryz.prog (hookAt []) (bodyOf Tryz.f75) 1 ⟨argEnv [.pointer d1, .string name2] 0, Tryz.f75.ntmps, []⟩ w (finQ Tryz.prog Tryz.f75.results.toList R) = T_q6t d1 name2 w R := by kernel_rfl
theorem T_q6t_b : Tryz.f75.body = some (bodyOf Tryz.f75) := by kernel_rfl
theorem T_q6t_s : (quietSel (bodyOf Tryz.f75) && Nat.ble 2 Tryz.f75.ntmps) = true := by kernel_rfl
theorem C_q6t {d1 : Option Addr} {name2 : ByteArray} {w : World} {R : RT} (h : T_q6t d1 name2 w R) : Calls Tryz.prog 75 #[.pointer d1, .string name2] w R :=
 calls_of_text (args := [.pointer d1, .string name2]) mixed Tryz.func75 T_q6t_b T_q6t_s (HOk_of _ _ (by rw [T_q6t_hl]; exact trivial)) (by rw [T_q6t_eq]; exact h)
def T_q6v_1_body (X : Int → World → Prop) (n7 : Int) (a8 : Addr) (w : World) (Kn : Int → World → Prop) (Kp : XT)  : Prop :=
 runV Tryz.prog (Instr.next (.pointer (some a8)) false 0) w (fun r9 w10 => ∃ (b11 : Bool) (l12 : List Value), r9 = .tuple ⟨.bool b11 :: l12⟩ ∧ if b11 = true then (runV Tryz.prog (Instr.entry (.pointer (some a8))) w10 (fun r13 w14 => ∃ k15 u16, r13 = .tuple #[k15, u16] ∧ ∃ p17 : Option Addr, u16 = .pointer p17 ∧ ∃ a18, p17 = some a18 ∧ ∃ (s19a : Option Addr) (s19l s19c : Nat), rd w14 a18 (.slice s19a s19l s19c) ∧ X (IntKind.wrap .i64 (n7 + ((s19l : Nat) : Int))) w14) Kp) else (Kn n7 w10)) Kp
def T_q4z (n7 : Int) (a8 : Addr) (w : World) (Kn : Int → World → Prop) (Kp : XT) : Prop :=
 ∀ X : Int → World → Prop, (∀ (n7 : Int) (w : World), T_q6v_1_body X n7 a8 w Kn Kp → X n7 w) → X n7 w
def T_q15 : Exit → Option (List (Nat × Value)) := fun x => match x with | .normal => some [(3, .int .i64 0)] | .panic _ => some [] | _ => none
def T_q2g : Nat → Bool := ksOf [3, 5, 13, 14, 15, 16, 17, 18, 19, 20, 21, 22, 23]
def H_q4z : Env → World → QT → Prop := unitHook 25 T_q2g [(3, .int .i64 0), (12, .pointer (some ⟨0, 0, none⟩))] T_q15 fun l w C => match l with | [v0, v1] => T_q4z (pInt v0) (pAddr v1) w (fun n21 w => C .normal [.int .i64 n21] w) (fun ch w => C (.panic ch) [] w) | _ => False
theorem T_q4z_hl : allP (hokL Tryz.prog (hookAt []) (at_ (bodyOf Tryz.f29) [1, 1, 1, 0, 1, 0, 0]) 244) = (True) := by kernel_rfl
theorem T_q4z_hok : HOk Tryz.prog (hookAt []) (at_ (bodyOf Tryz.f29) [1, 1, 1, 0, 1, 0, 0]) 244 := HOk_of _ _ (by rw [T_q4z_hl]; exact trivial)
theorem T_q4z_eq (C : Conts) (X : List Value → World → Prop) (n7 : Int) (a8 : Addr) (w : World) : vcCode Tryz.prog (hookAt []) (at_ (bodyOf Tryz.f29) [1, 1, 1, 0, 1, 0, 0]) 244 ⟨[(3, .int .i64 n7)] ++ [(12, .pointer (some a8))], 25, []⟩ w (seqQ (fun e w => takeAll e [(3, .int .i64 0)] fun l => X l w) (blockQ 0 (unitQ T_q15 C))) = T_q6v_1_body (fun n7 w => X [.int .i64 n7] w) n7 a8 w (fun n22 w => C .normal [.int .i64 n22] w) (fun ch w => C (.panic ch) [] w) := by kernel_rfl
theorem T_q6v_1_ok : UnitOk Tryz.prog H_q4z (at_ (bodyOf Tryz.f29) [1, 1, 1, 0, 1]) 61 := by
 have hc : at_ (bodyOf Tryz.f29) [1, 1, 1, 0, 1] = .block 0 (.loop (at_ (bodyOf Tryz.f29) [1, 1, 1, 0, 1, 0, 0])) := by kernel_rfl
 rw [hc]
 refine loop_unit_ok (carr := [(3, .int .i64 0)]) (fix := [(12, .pointer (some ⟨0, 0, none⟩))]) (ks := T_q2g) (H := (hookAt [])) (B := fun C X l u w => match l, u with | [v0], [v1] => T_q6v_1_body (fun n7 w => X [.int .i64 n7] w) (pInt v0) (pAddr v1) w (fun n23 w => C .normal [.int .i64 n23] w) (fun ch w => C (.panic ch) [] w) | _, _ => False) (by kernel_rfl) (by kernel_rfl) T_q4z_hok ?_ ?_
 ·intro C X l u w hl hu
  obtain ⟨v0, _, rfl, k_v0, hl_v0⟩ := kC hl
  obtain ⟨n7, rfl⟩ := kind_int k_v0
  obtain rfl := kN hl_v0
  obtain ⟨v1, _, rfl, k_v1, hu_v1⟩ := kC hu
  obtain ⟨a8, rfl⟩ := kind_addr k_v1
  obtain rfl := kN hu_v1
  exact T_q4z_eq C X n7 a8 w
 ·intro l u w C hl hu
  obtain ⟨v0, _, rfl, k_v0, hl_v0⟩ := kC hl
  obtain ⟨n7, rfl⟩ := kind_int k_v0
  obtain rfl := kN hl_v0
  obtain ⟨v1, _, rfl, k_v1, hu_v1⟩ := kC hu
  obtain ⟨a8, rfl⟩ := kind_addr k_v1
  obtain rfl := kN hu_v1
  constructor
  ·intro h X hX
   exact h (fun n7 w => X [.int .i64 n7] w) (fun n7 w hb => hX [.int .i64 n7] w ⟨rfl, trivial⟩ hb)
  ·intro h X hX
   exact h (fun l w => match l with | [v0] => X (pInt v0) w | _ => True) (fun l w hl hb => by
    obtain ⟨v0, _, rfl, k_v0, hl_v0⟩ := kC hl
    obtain ⟨n7, rfl⟩ := kind_int k_v0
    obtain rfl := kN hl_v0
    exact hX n7 w hb)
def T_q6v (d1 : Option Addr) (w : World) (R : RT) : Prop :=
 if d1.isNone = true then (R (.returned (.int .i64 0)) w) else (∃ a2, d1 = some a2 ∧ ∃ m3 : Option Nat, rd w (a2.add 1) (.map m3) ∧ runV Tryz.prog (Instr.range 85 (.map m3)) w (fun r4 w5 => ∃ a6, r4 = .pointer (some a6) ∧ T_q4z 0 a6 w5 (fun n24 w25 => R (.returned (.int .i64 n24)) w25) (pan R)) (pan R))
theorem T_q6v_hl : allP (hokL Tryz.prog (hookAt [(61, H_q4z)]) (bodyOf Tryz.f29) 1) = (UnitOk Tryz.prog H_q4z (at_ (bodyOf Tryz.f29) [1, 1, 1, 0, 1]) 61 ∧ True) := by kernel_rfl
theorem T_q6v_eq (d1 : Option Addr) (w : World) (R : RT) : vcCode Tryz.prog (hookAt [(61, H_q4z)]) (bodyOf Tryz.f29) 1 ⟨argEnv [.pointer d1] 0, Tryz.f29.ntmps, []⟩ w (finQ Tryz.prog Tryz.f29.results.toList R) = T_q6v d1 w R := by kernel_rfl
theorem T_q6v_b : Tryz.f29.body = some (bodyOf Tryz.f29) := by kernel_rfl
theorem T_q6v_s : (quietSel (bodyOf Tryz.f29) && Nat.ble 1 Tryz.f29.ntmps) = true := by kernel_rfl
theorem C_q6v {d1 : Option Addr} {w : World} {R : RT} (h : T_q6v d1 w R) : Calls Tryz.prog 29 #[.pointer d1] w R :=
 calls_of_text (args := [.pointer d1]) mixed Tryz.func29 T_q6v_b T_q6v_s (HOk_of _ _ (by rw [T_q6v_hl]; exact ⟨T_q6v_1_ok, trivial⟩)) (by rw [T_q6v_eq]; exact h)
def T_q4o (s1a : Option Addr) (s1l s1c : Nat) (w : World) (R : RT) : Prop :=
 if s1a.isNone = true then (R (.returned (.slice none 0 0)) w) else (let w2 : World := w.alloc (.cells #[] 5)
 runV Tryz.prog (Builtin.append_ #[27, 27] 27 #[.slice (some (⟨w.heap.size, 0, none⟩ : Addr)) 0 0, .slice s1a s1l s1c]) w2 (fun r3 w4 => ∃ (s5a : Option Addr) (s5l s5c : Nat), r3 = .slice s5a s5l s5c ∧ R (.returned (.slice s5a s5l s5c)) w4) (pan R))
theorem T_q4o_hl : allP (hokL Tryz.prog (hookAt []) (bodyOf Tryz.f67) 1) = (True) := by kernel_rfl
theorem T_q4o_eq (s1a : Option Addr) (s1l s1c : Nat) (w : World) (R : RT) : vcCode Tryz.prog (hookAt []) (bodyOf Tryz.f67) 1 ⟨argEnv [.slice s1a s1l s1c] 0, Tryz.f67.ntmps, []⟩ w (finQ Tryz.prog Tryz.f67.results.toList R) = T_q4o s1a s1l s1c w R := by kernel_rfl
theorem T_q4o_b : Tryz.f67.body = some (bodyOf Tryz.f67) := by kernel_rfl
theorem T_q4o_s : (quietSel (bodyOf Tryz.f67) && Nat.ble 1 Tryz.f67.ntmps) = true := by kernel_rfl
theorem C_q4o {s1a : Option Addr} {s1l s1c : Nat} {w : World} {R : RT} (h : T_q4o s1a s1l s1c w R) : Calls Tryz.prog 67 #[.slice s1a s1l s1c] w R :=
 calls_of_text (args := [.slice s1a s1l s1c]) mixed Tryz.func67 T_q4o_b T_q4o_s (HOk_of _ _ (by rw [T_q4o_hl]; exact trivial)) (by rw [T_q4o_eq]; exact h)
def T_q1o (seq1g : FuncId) (seq1i seq1c : Array Value) (w : World) (R : RT) : Prop :=
 Calls Tryz.prog 112 #[.slice none 0 0, .func (.func seq1g) seq1i seq1c] w (ret (fun r2 w3 => ∃ (s4a : Option Addr) (s4l s4c : Nat), r2 = .slice s4a s4l s4c ∧ R (.returned (.slice s4a s4l s4c)) w3) (pan R))
theorem T_q1o_hl : allP (hokL Tryz.prog (hookAt []) (bodyOf Tryz.f101) 1) = (True) := by kernel_rfl
theorem T_q1o_eq (seq1g : FuncId) (seq1i seq1c : Array Value) (w : World) (R : RT) : vcCode Tryz.prog (hookAt []) (bodyOf Tryz.f101) 1 ⟨argEnv [.func (.func seq1g) seq1i seq1c] 0, Tryz.f101.ntmps, []⟩ w (finQ Tryz.prog Tryz.f101.results.toList R) = T_q1o seq1g seq1i seq1c w R := by kernel_rfl
theorem T_q1o_b : Tryz.f101.body = some (bodyOf Tryz.f101) := by kernel_rfl
theorem T_q1o_s : (quietSel (bodyOf Tryz.f101) && Nat.ble 1 Tryz.f101.ntmps) = true := by kernel_rfl
theorem C_q1o {seq1g : FuncId} {seq1i seq1c : Array Value} {w : World} {R : RT} (h : T_q1o seq1g seq1i seq1c w R) : Calls Tryz.prog 101 #[.func (.func seq1g) seq1i seq1c] w R :=
 calls_of_text (args := [.func (.func seq1g) seq1i seq1c]) mixed Tryz.func101 T_q1o_b T_q1o_s (HOk_of _ _ (by rw [T_q1o_hl]; exact trivial)) (by rw [T_q1o_eq]; exact h)
def T_q2a (seq1g : FuncId) (seq1i seq1c : Array Value) (w : World) (R : RT) : Prop :=
 Calls Tryz.prog 101 #[.func (.func seq1g) seq1i seq1c] w (ret (fun r2 w3 => ∃ (s4a : Option Addr) (s4l s4c : Nat), r2 = .slice s4a s4l s4c ∧ Calls Tryz.prog 102 #[.slice s4a s4l s4c] w3 (ret (fun r5 w6 => r5 = .tuple #[] ∧ R (.returned (.slice s4a s4l s4c)) w6) (pan R))) (pan R))
theorem T_q2a_hl : allP (hokL Tryz.prog (hookAt []) (bodyOf Tryz.f77) 1) = (True) := by kernel_rfl
theorem T_q2a_eq (seq1g : FuncId) (seq1i seq1c : Array Value) (w : World) (R : RT) : vcCode Tryz.prog (hookAt []) (bodyOf Tryz.f77) 1 ⟨argEnv [.func (.func seq1g) seq1i seq1c] 0, Tryz.f77.ntmps, []⟩ w (finQ Tryz.prog Tryz.f77.results.toList R) = T_q2a seq1g seq1i seq1c w R := by kernel_rfl
theorem T_q2a_b : Tryz.f77.body = some (bodyOf Tryz.f77) := by kernel_rfl
theorem T_q2a_s : (quietSel (bodyOf Tryz.f77) && Nat.ble 1 Tryz.f77.ntmps) = true := by kernel_rfl
theorem C_q2a {seq1g : FuncId} {seq1i seq1c : Array Value} {w : World} {R : RT} (h : T_q2a seq1g seq1i seq1c w R) : Calls Tryz.prog 77 #[.func (.func seq1g) seq1i seq1c] w R :=
 calls_of_text (args := [.func (.func seq1g) seq1i seq1c]) mixed Tryz.func77 T_q2a_b T_q2a_s (HOk_of _ _ (by rw [T_q2a_hl]; exact trivial)) (by rw [T_q2a_eq]; exact h)
def T_q00 (m1 : Option Nat) (w : World) (R : RT) : Prop :=
 let w2 : World := w.alloc (.cells #[.map m1] 85)
 R (.returned (.func (.func 103) #[] #[.pointer (some (⟨w.heap.size, 0, none⟩ : Addr))])) w2
theorem T_q00_hl : allP (hokL Tryz.prog (hookAt []) (bodyOf Tryz.f78) 1) = (True) := by kernel_rfl
theorem T_q00_eq (m1 : Option Nat) (w : World) (R : RT) : vcCode Tryz.prog (hookAt []) (bodyOf Tryz.f78) 1 ⟨argEnv [.map m1] 0, Tryz.f78.ntmps, []⟩ w (finQ Tryz.prog Tryz.f78.results.toList R) = T_q00 m1 w R := by kernel_rfl
theorem T_q00_b : Tryz.f78.body = some (bodyOf Tryz.f78) := by kernel_rfl
theorem T_q00_s : (quietSel (bodyOf Tryz.f78) && Nat.ble 1 Tryz.f78.ntmps) = true := by kernel_rfl
theorem C_q00 {m1 : Option Nat} {w : World} {R : RT} (h : T_q00 m1 w R) : Calls Tryz.prog 78 #[.map m1] w R :=
 calls_of_text (args := [.map m1]) mixed Tryz.func78 T_q00_b T_q00_s (HOk_of _ _ (by rw [T_q00_hl]; exact trivial)) (by rw [T_q00_eq]; exact h)
def T_q5z (d1 : Option Addr) (w : World) (R : RT) : Prop :=
 if d1.isNone = true then (R (.returned (.slice none 0 0)) w) else (∃ a2, d1 = some a2 ∧ ∃ m3 : Option Nat, rd w (a2.add 1) (.map m3) ∧ Calls Tryz.prog 78 #[.map m3] w (ret (fun r4 w5 => ∃ u6 : Value, Go.Vc.one u6 = true ∧ r4 = u6 ∧ Calls Tryz.prog 77 #[u6] w5 (ret (fun r7 w8 => ∃ (s9a : Option Addr) (s9l s9c : Nat), r7 = .slice s9a s9l s9c ∧ R (.returned (.slice s9a s9l s9c)) w8) (pan R))) (pan R)))
theorem T_q5z_hl : allP (hokL Tryz.prog (hookAt []) (bodyOf Tryz.f27) 1) = (True) := by kernel_rfl
theorem T_q5z_eq (d1 : Option Addr) (w : World) (R : RT) : vcCode Tryz.prog (hookAt []) (bodyOf Tryz.f27) 1 ⟨argEnv [.pointer d1] 0, Tryz.f27.ntmps, []⟩ w (finQ Tryz.prog Tryz.f27.results.toList R) = T_q5z d1 w R := by kernel_rfl
theorem T_q5z_b : Tryz.f27.body = some (bodyOf Tryz.f27) := by kernel_rfl
theorem T_q5z_s : (quietSel (bodyOf Tryz.f27) && Nat.ble 1 Tryz.f27.ntmps) = true := by kernel_rfl
theorem C_q5z {d1 : Option Addr} {w : World} {R : RT} (h : T_q5z d1 w R) : Calls Tryz.prog 27 #[.pointer d1] w R :=
 calls_of_text (args := [.pointer d1]) mixed Tryz.func27 T_q5z_b T_q5z_s (HOk_of _ _ (by rw [T_q5z_hl]; exact trivial)) (by rw [T_q5z_eq]; exact h)
def T_q3v (n25 : Int) (b26 : Bool) (w : World) (Kn : Int → World → Prop) (Kp : XT) : Prop :=
 if b26 = true then (Kn 1 w) else (Kn n25 w)
def T_q0s : Exit → Option (List (Nat × Value)) := fun x => match x with | .normal => some [(10, .int .i64 0)] | .panic _ => some [] | _ => none
def T_q1z : Nat → Bool := ksOf [10]
def H_q3v : Env → World → QT → Prop := unitHook 57 T_q1z [(10, .int .i64 0), (29, .bool false)] T_q0s fun l w C => match l with | [v0, v1] => T_q3v (pInt v0) (pBool v1) w (fun n28 w => C .normal [.int .i64 n28] w) (fun ch w => C (.panic ch) [] w) | _ => False
theorem T_q3v_hl : allP (hokL Tryz.prog (hookAt []) (at_ (bodyOf Tryz.f66) [1, 1, 0, 1, 0, 0, 1, 1, 0, 0, 1, 1, 0, 1]) 29901) = (True) := by kernel_rfl
theorem T_q3v_hok : HOk Tryz.prog (hookAt []) (at_ (bodyOf Tryz.f66) [1, 1, 0, 1, 0, 0, 1, 1, 0, 0, 1, 1, 0, 1]) 29901 := HOk_of _ _ (by rw [T_q3v_hl]; exact trivial)
theorem T_q3v_eq (C : Conts) (n25 : Int) (b26 : Bool) (w : World) : vcCode Tryz.prog (hookAt []) (at_ (bodyOf Tryz.f66) [1, 1, 0, 1, 0, 0, 1, 1, 0, 0, 1, 1, 0, 1]) 29901 ⟨[(10, .int .i64 n25), (29, .bool b26)], 57, []⟩ w (unitQ T_q0s C) = T_q3v n25 b26 w (fun n29 w => C .normal [.int .i64 n29] w) (fun ch w => C (.panic ch) [] w) := by kernel_rfl
theorem T_q61_2_ok : UnitOk Tryz.prog H_q3v (at_ (bodyOf Tryz.f66) [1, 1, 0, 1, 0, 0, 1, 1, 0, 0, 1, 1, 0, 1]) 29901 := unit_ok (H := (hookAt [])) (by kernel_rfl) T_q3v_hok fun l w C hk => by
  obtain ⟨v0, _, rfl, k_v0, hk_v0⟩ := kC hk
  obtain ⟨n25, rfl⟩ := kind_int k_v0
  obtain ⟨v1, _, rfl, k_v1, hk_v1⟩ := kC hk_v0
  obtain ⟨b26, rfl⟩ := kind_bool k_v1
  obtain rfl := kN hk_v1
  exact T_q3v_eq C n25 b26 w
def T_q61_1_body (X : Option Addr → Nat → Nat → Int → Int → World → Prop) (out10a : Option Addr) (out10l out10c : Nat) (units11 x12 k13 : Int) (s14a : Option Addr) (s14l s14c : Nat) (x15 : Int) (w : World) (Kn : Option Addr → Nat → Nat → Int → World → Prop) (Kp : XT)  : Prop :=
 if (decide (x12 < x15)) = true then (0 ≤ x12 ∧ x12 < ((s14l : Nat) : Int) ∧ ∃ b16, s14a = some b16 ∧ ∃ (b17 : Bool) (x18 x19 : Int) (s20a : Option Addr) (s20l s20c : Nat), rd w (b16.add (x12.toNat * 4)) (.agg #[.bool b17, .int .i64 x18, .int .i64 x19, .slice s20a s20l s20c]) ∧ let w21 : World := w.alloc (.cells #[.bool false, .int .i64 0, .int .i64 0, .slice none 0 0] 114)
 (.agg #[.bool b17, .int .i64 x18, .int .i64 x19, .slice s20a s20l s20c] : Value).cells.size = 4 ∧ wrOk w21 (⟨w.heap.size, 0, none⟩ : Addr) (.agg #[.bool b17, .int .i64 x18, .int .i64 x19, .slice s20a s20l s20c]) ∧ let w22 : World := wr w21 (⟨w.heap.size, 0, none⟩ : Addr) (.agg #[.bool b17, .int .i64 x18, .int .i64 x19, .slice s20a s20l s20c])
 ∃ (s23a : Option Addr) (s23l s23c : Nat), rd w22 ((⟨w.heap.size, 0, none⟩ : Addr).add 3) (.slice s23a s23l s23c) ∧ ∃ b24 : Bool, rd w22 (⟨w.heap.size, 0, none⟩ : Addr) (.bool b24) ∧ T_q3v ((s23l : Nat) : Int) b24 w22 (fun n30 w31 => if ((if (IntKind.wrap .i64 (k13 - units11)) < n30 then (IntKind.wrap .i64 (k13 - units11)) else n30 : Int) == 0) = true then (X out10a out10l out10c units11 (IntKind.wrap .i64 (x12 + 1)) w31) else (∃ b32 : Bool, rd w31 (⟨w.heap.size, 0, none⟩ : Addr) (.bool b32) ∧ if b32 = true then (∃ x33 : Int, rd w31 ((⟨w.heap.size, 0, none⟩ : Addr).add 1) (.int .i64 x33) ∧ 0 ≤ x33 ∧ x33 ≤ ((out10c : Nat) : Int) ∧ X (if out10c = 0 then out10a else out10a.map (fun x => x.add (0 * 1))) ((x33.toNat) - 0) (out10c - 0) (IntKind.wrap .i64 (units11 + (if (IntKind.wrap .i64 (k13 - units11)) < n30 then (IntKind.wrap .i64 (k13 - units11)) else n30))) (IntKind.wrap .i64 (x12 + 1)) w31) else (let w34 : World := w31.drew
 ∃ x35 : Int, rd w34 ((⟨w.heap.size, 0, none⟩ : Addr).add 2) (.int .i64 x35) ∧ ∃ (s36a : Option Addr) (s36l s36c : Nat), rd w34 ((⟨w.heap.size, 0, none⟩ : Addr).add 3) (.slice s36a s36l s36c) ∧ 0 ≤ (if (IntKind.wrap .i64 (k13 - units11)) < n30 then (IntKind.wrap .i64 (k13 - units11)) else n30 : Int) ∧ (if (IntKind.wrap .i64 (k13 - units11)) < n30 then (IntKind.wrap .i64 (k13 - units11)) else n30 : Int) ≤ ((s36c : Nat) : Int) ∧ Calls Tryz.prog 70 #[.slice out10a out10l out10c, .int .i64 x35, .slice (if s36c = 0 then s36a else s36a.map (fun x => x.add (0 * 1))) (((if (IntKind.wrap .i64 (k13 - units11)) < n30 then (IntKind.wrap .i64 (k13 - units11)) else n30 : Int).toNat) - 0) (s36c - 0)] w34 (ret (fun r37 w38 => ∃ (s39a : Option Addr) (s39l s39c : Nat), r37 = .slice s39a s39l s39c ∧ (True) ∧ X s39a s39l s39c (IntKind.wrap .i64 (units11 + (if (IntKind.wrap .i64 (k13 - units11)) < n30 then (IntKind.wrap .i64 (k13 - units11)) else n30))) (IntKind.wrap .i64 (x12 + 1)) w38) Kp)))) Kp) else (Kn out10a out10l out10c units11 w)
def T_q3u (out10a : Option Addr) (out10l out10c : Nat) (units11 x12 k13 : Int) (s14a : Option Addr) (s14l s14c : Nat) (x15 : Int) (w : World) (Kn : Option Addr → Nat → Nat → Int → World → Prop) (Kp : XT) : Prop :=
 ∀ X : Option Addr → Nat → Nat → Int → Int → World → Prop, (∀ (out10a : Option Addr) (out10l out10c : Nat) (units11 x12 : Int) (w : World), T_q61_1_body X out10a out10l out10c units11 x12 k13 s14a s14l s14c x15 w Kn Kp → X out10a out10l out10c units11 x12 w) → X out10a out10l out10c units11 x12 w
def T_q0r : Exit → Option (List (Nat × Value)) := fun x => match x with | .normal => some [(6, .slice none 0 0), (7, .int .i64 0)] | .panic _ => some [] | _ => none
def T_q1y : Nat → Bool := ksOf [6, 7, 9, 10, 21, 22, 23, 24, 25, 26, 27, 28, 29, 30, 31, 32, 33, 34, 35, 36, 37, 38, 39, 40, 41, 42, 43, 44, 45, 46, 47, 48, 49, 50, 51, 52, 53, 54]
def H_q3u : Env → World → QT → Prop := unitHook 57 T_q1y [(6, .slice none 0 0), (7, .int .i64 0), (21, .int .i64 0), (1, .int .i64 0), (19, .slice none 0 0), (20, .int .i64 0)] T_q0r fun l w C => match l with | [v0, v1, v2, v3, v4, v5] => T_q3u (pA v0) (pL v0) (pC v0) (pInt v1) (pInt v2) (pInt v3) (pA v4) (pL v4) (pC v4) (pInt v5) w (fun out42a out42l out42c units43 w => C .normal [.slice out42a out42l out42c, .int .i64 units43] w) (fun ch w => C (.panic ch) [] w) | _ => False
theorem T_q3u_hl : allP (hokL Tryz.prog (hookAt [(29901, H_q3v)]) (at_ (bodyOf Tryz.f66) [1, 1, 0, 1, 0, 0]) 116) = (UnitOk Tryz.prog H_q3v (at_ (bodyOf Tryz.f66) [1, 1, 0, 1, 0, 0, 1, 1, 0, 0, 1, 1, 0, 1]) 29901 ∧ True) := by kernel_rfl
theorem T_q3u_hok : HOk Tryz.prog (hookAt [(29901, H_q3v)]) (at_ (bodyOf Tryz.f66) [1, 1, 0, 1, 0, 0]) 116 := HOk_of _ _ (by rw [T_q3u_hl]; exact ⟨T_q61_2_ok, trivial⟩)
theorem T_q3u_eq (C : Conts) (X : List Value → World → Prop) (out10a : Option Addr) (out10l out10c : Nat) (units11 x12 k13 : Int) (s14a : Option Addr) (s14l s14c : Nat) (x15 : Int) (w : World) : vcCode Tryz.prog (hookAt [(29901, H_q3v)]) (at_ (bodyOf Tryz.f66) [1, 1, 0, 1, 0, 0]) 116 ⟨[(6, .slice out10a out10l out10c), (7, .int .i64 units11), (21, .int .i64 x12)] ++ [(1, .int .i64 k13), (19, .slice s14a s14l s14c), (20, .int .i64 x15)], 57, []⟩ w (seqQ (fun e w => takeAll e [(6, .slice none 0 0), (7, .int .i64 0), (21, .int .i64 0)] fun l => X l w) (blockQ 0 (unitQ T_q0r C))) = T_q61_1_body (fun out10a out10l out10c units11 x12 w => X [.slice out10a out10l out10c, .int .i64 units11, .int .i64 x12] w) out10a out10l out10c units11 x12 k13 s14a s14l s14c x15 w (fun out44a out44l out44c units45 w => C .normal [.slice out44a out44l out44c, .int .i64 units45] w) (fun ch w => C (.panic ch) [] w) := by kernel_rfl
theorem T_q61_1_ok : UnitOk Tryz.prog H_q3u (at_ (bodyOf Tryz.f66) [1, 1, 0, 1]) 29 := by
 have hc : at_ (bodyOf Tryz.f66) [1, 1, 0, 1] = .block 0 (.loop (at_ (bodyOf Tryz.f66) [1, 1, 0, 1, 0, 0])) := by kernel_rfl
 rw [hc]
 refine loop_unit_ok (carr := [(6, .slice none 0 0), (7, .int .i64 0), (21, .int .i64 0)]) (fix := [(1, .int .i64 0), (19, .slice none 0 0), (20, .int .i64 0)]) (ks := T_q1y) (H := (hookAt [(29901, H_q3v)])) (B := fun C X l u w => match l, u with | [v0, v1, v2], [v3, v4, v5] => T_q61_1_body (fun out10a out10l out10c units11 x12 w => X [.slice out10a out10l out10c, .int .i64 units11, .int .i64 x12] w) (pA v0) (pL v0) (pC v0) (pInt v1) (pInt v2) (pInt v3) (pA v4) (pL v4) (pC v4) (pInt v5) w (fun out46a out46l out46c units47 w => C .normal [.slice out46a out46l out46c, .int .i64 units47] w) (fun ch w => C (.panic ch) [] w) | _, _ => False) (by kernel_rfl) (by kernel_rfl) T_q3u_hok ?_ ?_
 ·intro C X l u w hl hu
  obtain ⟨v0, _, rfl, k_v0, hl_v0⟩ := kC hl
  obtain ⟨out10a, out10l, out10c, rfl⟩ := kind_slice k_v0
  obtain ⟨v1, _, rfl, k_v1, hl_v1⟩ := kC hl_v0
  obtain ⟨units11, rfl⟩ := kind_int k_v1
  obtain ⟨v2, _, rfl, k_v2, hl_v2⟩ := kC hl_v1
  obtain ⟨x12, rfl⟩ := kind_int k_v2
  obtain rfl := kN hl_v2
  obtain ⟨v3, _, rfl, k_v3, hu_v3⟩ := kC hu
  obtain ⟨k13, rfl⟩ := kind_int k_v3
  obtain ⟨v4, _, rfl, k_v4, hu_v4⟩ := kC hu_v3
  obtain ⟨s14a, s14l, s14c, rfl⟩ := kind_slice k_v4
  obtain ⟨v5, _, rfl, k_v5, hu_v5⟩ := kC hu_v4
  obtain ⟨x15, rfl⟩ := kind_int k_v5
  obtain rfl := kN hu_v5
  exact T_q3u_eq C X out10a out10l out10c units11 x12 k13 s14a s14l s14c x15 w
 ·intro l u w C hl hu
  obtain ⟨v0, _, rfl, k_v0, hl_v0⟩ := kC hl
  obtain ⟨out10a, out10l, out10c, rfl⟩ := kind_slice k_v0
  obtain ⟨v1, _, rfl, k_v1, hl_v1⟩ := kC hl_v0
  obtain ⟨units11, rfl⟩ := kind_int k_v1
  obtain ⟨v2, _, rfl, k_v2, hl_v2⟩ := kC hl_v1
  obtain ⟨x12, rfl⟩ := kind_int k_v2
  obtain rfl := kN hl_v2
  obtain ⟨v3, _, rfl, k_v3, hu_v3⟩ := kC hu
  obtain ⟨k13, rfl⟩ := kind_int k_v3
  obtain ⟨v4, _, rfl, k_v4, hu_v4⟩ := kC hu_v3
  obtain ⟨s14a, s14l, s14c, rfl⟩ := kind_slice k_v4
  obtain ⟨v5, _, rfl, k_v5, hu_v5⟩ := kC hu_v4
  obtain ⟨x15, rfl⟩ := kind_int k_v5
  obtain rfl := kN hu_v5
  constructor
  ·intro h X hX
   exact h (fun out10a out10l out10c units11 x12 w => X [.slice out10a out10l out10c, .int .i64 units11, .int .i64 x12] w) (fun out10a out10l out10c units11 x12 w hb => hX [.slice out10a out10l out10c, .int .i64 units11, .int .i64 x12] w ⟨rfl, rfl, rfl, trivial⟩ hb)
  ·intro h X hX
   exact h (fun l w => match l with | [v0, v1, v2] => X (pA v0) (pL v0) (pC v0) (pInt v1) (pInt v2) w | _ => True) (fun l w hl hb => by
    obtain ⟨v0, _, rfl, k_v0, hl_v0⟩ := kC hl
    obtain ⟨out10a, out10l, out10c, rfl⟩ := kind_slice k_v0
    obtain ⟨v1, _, rfl, k_v1, hl_v1⟩ := kC hl_v0
    obtain ⟨units11, rfl⟩ := kind_int k_v1
    obtain ⟨v2, _, rfl, k_v2, hl_v2⟩ := kC hl_v1
    obtain ⟨x12, rfl⟩ := kind_int k_v2
    obtain rfl := kN hl_v2
    exact hX out10a out10l out10c units11 x12 w hb)
def T_q61 (f1 : Option Addr) (k2 : Int) (w : World) (R : RT) : Prop :=
 ∃ a3, f1 = some a3 ∧ ∃ (s4a : Option Addr) (s4l s4c : Nat), rd w (a3.add 1) (.slice s4a s4l s4c) ∧ Calls Tryz.prog 67 #[.slice s4a s4l s4c] w (ret (fun r5 w6 => ∃ (s7a : Option Addr) (s7l s7c : Nat), r5 = .slice s7a s7l s7c ∧ ∃ a8, f1 = some a8 ∧ ∃ (s9a : Option Addr) (s9l s9c : Nat), rd w6 (a8.add 3) (.slice s9a s9l s9c) ∧ T_q3u s7a s7l s7c 0 0 k2 s9a s9l s9c ((s9l : Nat) : Int) w6 (fun out48a out48l out48c units49 w50 => R (.returned (.tuple #[.slice out48a out48l out48c, .int .i64 units49])) w50) (pan R)) (pan R))
theorem T_q61_hl : allP (hokL Tryz.prog (hookAt [(29, H_q3u)]) (bodyOf Tryz.f66) 1) = (UnitOk Tryz.prog H_q3u (at_ (bodyOf Tryz.f66) [1, 1, 0, 1]) 29 ∧ True) := by kernel_rfl
theorem T_q61_eq (f1 : Option Addr) (k2 : Int) (w : World) (R : RT) : vcCode Tryz.prog (hookAt [(29, H_q3u)]) (bodyOf Tryz.f66) 1 ⟨argEnv [.pointer f1, .int .i64 k2] 0, Tryz.f66.ntmps, []⟩ w (finQ Tryz.prog Tryz.f66.results.toList R) = T_q61 f1 k2 w R := by kernel_rfl
theorem T_q61_b : Tryz.f66.body = some (bodyOf Tryz.f66) := by kernel_rfl
theorem T_q61_s : (quietSel (bodyOf Tryz.f66) && Nat.ble 2 Tryz.f66.ntmps) = true := by kernel_rfl
theorem C_q61 {f1 : Option Addr} {k2 : Int} {w : World} {R : RT} (h : T_q61 f1 k2 w R) : Calls Tryz.prog 66 #[.pointer f1, .int .i64 k2] w R :=
 calls_of_text (args := [.pointer f1, .int .i64 k2]) mixed Tryz.func66 T_q61_b T_q61_s (HOk_of _ _ (by rw [T_q61_hl]; exact ⟨T_q61_1_ok, trivial⟩)) (by rw [T_q61_eq]; exact h)
def T_q3l (keep13a : Option Addr) (keep13l keep13c : Nat) (i14 k15 : Int) (b16 : Bool) (w : World) (Kn : Int → World → Prop) (Kp : XT) : Prop :=
 if b16 = true then (0 ≤ i14 ∧ i14 < ((keep13l : Nat) : Int) ∧ ∃ b17, keep13a = some b17 ∧ ∃ x18 : Int, rd w (b17.add (i14.toNat * 1)) (.int .i64 x18) ∧ Kn (if x18 > 0 then x18 else 0) w) else (Kn k15 w)
def T_q0k : Exit → Option (List (Nat × Value)) := fun x => match x with | .normal => some [(6, .int .i64 0)] | .panic _ => some [] | _ => none
def T_q1r : Nat → Bool := ksOf [6, 22, 23, 24, 25, 26]
def H_q3l : Env → World → QT → Prop := unitHook 69 T_q1r [(1, .slice none 0 0), (4, .int .i64 0), (6, .int .i64 0), (21, .bool false)] T_q0k fun l w C => match l with | [v0, v1, v2, v3] => T_q3l (pA v0) (pL v0) (pC v0) (pInt v1) (pInt v2) (pBool v3) w (fun k20 w => C .normal [.int .i64 k20] w) (fun ch w => C (.panic ch) [] w) | _ => False
theorem T_q3l_hl : allP (hokL Tryz.prog (hookAt []) (at_ (bodyOf Tryz.f20) [1, 0, 0, 1, 1, 0, 0, 1, 1, 0, 1]) 3277) = (True) := by kernel_rfl
theorem T_q3l_hok : HOk Tryz.prog (hookAt []) (at_ (bodyOf Tryz.f20) [1, 0, 0, 1, 1, 0, 0, 1, 1, 0, 1]) 3277 := HOk_of _ _ (by rw [T_q3l_hl]; exact trivial)
theorem T_q3l_eq (C : Conts) (keep13a : Option Addr) (keep13l keep13c : Nat) (i14 k15 : Int) (b16 : Bool) (w : World) : vcCode Tryz.prog (hookAt []) (at_ (bodyOf Tryz.f20) [1, 0, 0, 1, 1, 0, 0, 1, 1, 0, 1]) 3277 ⟨[(1, .slice keep13a keep13l keep13c), (4, .int .i64 i14), (6, .int .i64 k15), (21, .bool b16)], 69, []⟩ w (unitQ T_q0k C) = T_q3l keep13a keep13l keep13c i14 k15 b16 w (fun k21 w => C .normal [.int .i64 k21] w) (fun ch w => C (.panic ch) [] w) := by kernel_rfl
theorem T_q5y_2_ok : UnitOk Tryz.prog H_q3l (at_ (bodyOf Tryz.f20) [1, 0, 0, 1, 1, 0, 0, 1, 1, 0, 1]) 3277 := unit_ok (H := (hookAt [])) (by kernel_rfl) T_q3l_hok fun l w C hk => by
  obtain ⟨v0, _, rfl, k_v0, hk_v0⟩ := kC hk
  obtain ⟨keep13a, keep13l, keep13c, rfl⟩ := kind_slice k_v0
  obtain ⟨v1, _, rfl, k_v1, hk_v1⟩ := kC hk_v0
  obtain ⟨i14, rfl⟩ := kind_int k_v1
  obtain ⟨v2, _, rfl, k_v2, hk_v2⟩ := kC hk_v1
  obtain ⟨k15, rfl⟩ := kind_int k_v2
  obtain ⟨v3, _, rfl, k_v3, hk_v3⟩ := kC hk_v2
  obtain ⟨b16, rfl⟩ := kind_bool k_v3
  obtain rfl := kN hk_v3
  exact T_q3l_eq C keep13a keep13l keep13c i14 k15 b16 w
def T_q3m (f33 : Option Addr) (units34 : Int) (w : World) (Kn : Bool → World → Prop) (Kp : XT) : Prop :=
 ∃ a35, f33 = some a35 ∧ ∃ b36 : Bool, rd w (a35.add 2) (.bool b36) ∧ if (!b36) = true then (Kn (units34 == 0) w) else (Kn false w)
def T_q0l : Exit → Option (List (Nat × Value)) := fun x => match x with | .normal => some [(47, .bool false)] | .panic _ => some [] | _ => none
def T_q1s : Nat → Bool := ksOf [39, 40, 41, 42, 43, 44, 45, 46, 47]
def H_q3m : Env → World → QT → Prop := unitHook 69 T_q1s [(7, .pointer none), (9, .int .i64 0)] T_q0l fun l w C => match l with | [v0, v1] => T_q3m (pPtr v0) (pInt v1) w (fun b38 w => C .normal [.bool b38] w) (fun ch w => C (.panic ch) [] w) | _ => False
theorem T_q3m_hl : allP (hokL Tryz.prog (hookAt []) (at_ (bodyOf Tryz.f20) [1, 0, 0, 1, 1, 0, 0, 1, 1, 1, 1, 1, 0, 0]) 26236) = (True) := by kernel_rfl
theorem T_q3m_hok : HOk Tryz.prog (hookAt []) (at_ (bodyOf Tryz.f20) [1, 0, 0, 1, 1, 0, 0, 1, 1, 1, 1, 1, 0, 0]) 26236 := HOk_of _ _ (by rw [T_q3m_hl]; exact trivial)
theorem T_q3m_eq (C : Conts) (f33 : Option Addr) (units34 : Int) (w : World) : vcCode Tryz.prog (hookAt []) (at_ (bodyOf Tryz.f20) [1, 0, 0, 1, 1, 0, 0, 1, 1, 1, 1, 1, 0, 0]) 26236 ⟨[(7, .pointer f33), (9, .int .i64 units34)], 69, []⟩ w (unitQ T_q0l C) = T_q3m f33 units34 w (fun b39 w => C .normal [.bool b39] w) (fun ch w => C (.panic ch) [] w) := by kernel_rfl
theorem T_q5y_3_ok : UnitOk Tryz.prog H_q3m (at_ (bodyOf Tryz.f20) [1, 0, 0, 1, 1, 0, 0, 1, 1, 1, 1, 1, 0, 0]) 26236 := unit_ok (H := (hookAt [])) (by kernel_rfl) T_q3m_hok fun l w C hk => by
  obtain ⟨v0, _, rfl, k_v0, hk_v0⟩ := kC hk
  obtain ⟨f33, rfl⟩ := kind_pointer k_v0
  obtain ⟨v1, _, rfl, k_v1, hk_v1⟩ := kC hk_v0
  obtain ⟨units34, rfl⟩ := kind_int k_v1
  obtain rfl := kN hk_v1
  exact T_q3m_eq C f33 units34 w
def T_q5y_1_body (X : Int → World → Prop) (x6 : Int) (d7 keep8a : Option Addr) (keep8l keep8c : Nat) (s9a : Option Addr) (s9l s9c : Nat) (x10 : Int) (w : World) (Kn : World → Prop) (Kp : XT)  : Prop :=
 if (decide (x6 < x10)) = true then (0 ≤ x6 ∧ x6 < ((s9l : Nat) : Int) ∧ ∃ b11, s9a = some b11 ∧ ∃ s12 : ByteArray, rd w (b11.add (x6.toNat * 1)) (.string s12) ∧ T_q3l keep8a keep8l keep8c x6 0 (decide (x6 < ((keep8l : Nat) : Int))) w (fun k22 w23 => ∃ a24, d7 = some a24 ∧ ∃ m25 : Option Nat, rd w23 (a24.add 1) (.map m25) ∧ runV Tryz.prog (Instr.lookup 85 (.map m25) (.string s12) false) w23 (fun r26 w27 => ∃ p28 : Option Addr, r26 = .pointer p28 ∧ Calls Tryz.prog 66 #[.pointer p28, .int .i64 k22] w27 (ret (fun r29 w30 => ∃ (s31a : Option Addr) (s31l s31c : Nat) (x32 : Int), r29 = .tuple #[.slice s31a s31l s31c, .int .i64 x32] ∧ T_q3m p28 x32 w30 (fun b40 w41 => if b40 = true then (∃ a42, d7 = some a42 ∧ ∃ m43 : Option Nat, rd w41 (a42.add 1) (.map m43) ∧ runV Tryz.prog (Builtin.delete_ #[85, 9] 0 #[.map m43, .string s12]) w41 (fun r44 w45 => X (IntKind.wrap .i64 (x6 + 1)) w45) Kp) else (Calls Tryz.prog 67 #[.slice s31a s31l s31c] w41 (ret (fun r46 w47 => ∃ (s48a : Option Addr) (s48l s48c : Nat), r46 = .slice s48a s48l s48c ∧ ∃ a49, p28 = some a49 ∧ (.slice s31a s31l s31c : Value).cells.size = 1 ∧ wrOk w47 a49 (.slice s31a s31l s31c) ∧ let w50 : World := wr w47 a49 (.slice s31a s31l s31c)
 ∃ a51, p28 = some a51 ∧ (.slice s48a s48l s48c : Value).cells.size = 1 ∧ wrOk w50 (a51.add 1) (.slice s48a s48l s48c) ∧ let w52 : World := wr w50 (a51.add 1) (.slice s48a s48l s48c)
 ∃ a53, p28 = some a53 ∧ (.bool true : Value).cells.size = 1 ∧ wrOk w52 (a53.add 2) (.bool true) ∧ let w54 : World := wr w52 (a53.add 2) (.bool true)
 ∃ a55, p28 = some a55 ∧ (.slice none 0 0 : Value).cells.size = 1 ∧ wrOk w54 (a55.add 3) (.slice none 0 0) ∧ let w56 : World := wr w54 (a55.add 3) (.slice none 0 0)
 X (IntKind.wrap .i64 (x6 + 1)) w56) Kp))) Kp) Kp)) Kp) Kp) else (Kn  w)
def T_q3k (x6 : Int) (d7 keep8a : Option Addr) (keep8l keep8c : Nat) (s9a : Option Addr) (s9l s9c : Nat) (x10 : Int) (w : World) (Kn : World → Prop) (Kp : XT) : Prop :=
 ∀ X : Int → World → Prop, (∀ (x6 : Int) (w : World), T_q5y_1_body X x6 d7 keep8a keep8l keep8c s9a s9l s9c x10 w Kn Kp → X x6 w) → X x6 w
def T_q0j : Exit → Option (List (Nat × Value)) := fun x => match x with | .normal => some [] | .panic _ => some [] | _ => none
def T_q1q : Nat → Bool := ksOf [4, 5, 6, 7, 8, 9, 13, 14, 15, 16, 17, 18, 19, 20, 21, 22, 23, 24, 25, 26, 27, 28, 29, 30, 31, 32, 33, 34, 35, 36, 37, 38, 39, 40, 41, 42, 43, 44, 45, 46, 47, 48, 49, 50, 51, 52, 53, 54, 55, 56, 57, 58, 59, 60, 61, 62, 63, 64, 65, 66, 67, 68]
def H_q3k : Env → World → QT → Prop := unitHook 69 T_q1q [(13, .int .i64 0), (0, .pointer none), (1, .slice none 0 0), (11, .slice none 0 0), (12, .int .i64 0)] T_q0j fun l w C => match l with | [v0, v1, v2, v3, v4] => T_q3k (pInt v0) (pPtr v1) (pA v2) (pL v2) (pC v2) (pA v3) (pL v3) (pC v3) (pInt v4) w (fun w => C .normal [] w) (fun ch w => C (.panic ch) [] w) | _ => False
theorem T_q3k_hl : allP (hokL Tryz.prog (hookAt [(3277, H_q3l), (26236, H_q3m)]) (at_ (bodyOf Tryz.f20) [1, 0, 0]) 12) = (UnitOk Tryz.prog H_q3l (at_ (bodyOf Tryz.f20) [1, 0, 0, 1, 1, 0, 0, 1, 1, 0, 1]) 3277 ∧ UnitOk Tryz.prog H_q3m (at_ (bodyOf Tryz.f20) [1, 0, 0, 1, 1, 0, 0, 1, 1, 1, 1, 1, 0, 0]) 26236 ∧ True) := by kernel_rfl
theorem T_q3k_hok : HOk Tryz.prog (hookAt [(3277, H_q3l), (26236, H_q3m)]) (at_ (bodyOf Tryz.f20) [1, 0, 0]) 12 := HOk_of _ _ (by rw [T_q3k_hl]; exact ⟨T_q5y_2_ok, T_q5y_3_ok, trivial⟩)
theorem T_q3k_eq (C : Conts) (X : List Value → World → Prop) (x6 : Int) (d7 keep8a : Option Addr) (keep8l keep8c : Nat) (s9a : Option Addr) (s9l s9c : Nat) (x10 : Int) (w : World) : vcCode Tryz.prog (hookAt [(3277, H_q3l), (26236, H_q3m)]) (at_ (bodyOf Tryz.f20) [1, 0, 0]) 12 ⟨[(13, .int .i64 x6)] ++ [(0, .pointer d7), (1, .slice keep8a keep8l keep8c), (11, .slice s9a s9l s9c), (12, .int .i64 x10)], 69, []⟩ w (seqQ (fun e w => takeAll e [(13, .int .i64 0)] fun l => X l w) (blockQ 0 (unitQ T_q0j C))) = T_q5y_1_body (fun x6 w => X [.int .i64 x6] w) x6 d7 keep8a keep8l keep8c s9a s9l s9c x10 w (fun w => C .normal [] w) (fun ch w => C (.panic ch) [] w) := by kernel_rfl
theorem T_q5y_1_ok : UnitOk Tryz.prog H_q3k (at_ (bodyOf Tryz.f20) [1]) 3 := by
 have hc : at_ (bodyOf Tryz.f20) [1] = .block 0 (.loop (at_ (bodyOf Tryz.f20) [1, 0, 0])) := by kernel_rfl
 rw [hc]
 refine loop_unit_ok (carr := [(13, .int .i64 0)]) (fix := [(0, .pointer none), (1, .slice none 0 0), (11, .slice none 0 0), (12, .int .i64 0)]) (ks := T_q1q) (H := (hookAt [(3277, H_q3l), (26236, H_q3m)])) (B := fun C X l u w => match l, u with | [v0], [v1, v2, v3, v4] => T_q5y_1_body (fun x6 w => X [.int .i64 x6] w) (pInt v0) (pPtr v1) (pA v2) (pL v2) (pC v2) (pA v3) (pL v3) (pC v3) (pInt v4) w (fun w => C .normal [] w) (fun ch w => C (.panic ch) [] w) | _, _ => False) (by kernel_rfl) (by kernel_rfl) T_q3k_hok ?_ ?_
 ·intro C X l u w hl hu
  obtain ⟨v0, _, rfl, k_v0, hl_v0⟩ := kC hl
  obtain ⟨x6, rfl⟩ := kind_int k_v0
  obtain rfl := kN hl_v0
  obtain ⟨v1, _, rfl, k_v1, hu_v1⟩ := kC hu
  obtain ⟨d7, rfl⟩ := kind_pointer k_v1
  obtain ⟨v2, _, rfl, k_v2, hu_v2⟩ := kC hu_v1
  obtain ⟨keep8a, keep8l, keep8c, rfl⟩ := kind_slice k_v2
  obtain ⟨v3, _, rfl, k_v3, hu_v3⟩ := kC hu_v2
  obtain ⟨s9a, s9l, s9c, rfl⟩ := kind_slice k_v3
  obtain ⟨v4, _, rfl, k_v4, hu_v4⟩ := kC hu_v3
  obtain ⟨x10, rfl⟩ := kind_int k_v4
  obtain rfl := kN hu_v4
  exact T_q3k_eq C X x6 d7 keep8a keep8l keep8c s9a s9l s9c x10 w
 ·intro l u w C hl hu
  obtain ⟨v0, _, rfl, k_v0, hl_v0⟩ := kC hl
  obtain ⟨x6, rfl⟩ := kind_int k_v0
  obtain rfl := kN hl_v0
  obtain ⟨v1, _, rfl, k_v1, hu_v1⟩ := kC hu
  obtain ⟨d7, rfl⟩ := kind_pointer k_v1
  obtain ⟨v2, _, rfl, k_v2, hu_v2⟩ := kC hu_v1
  obtain ⟨keep8a, keep8l, keep8c, rfl⟩ := kind_slice k_v2
  obtain ⟨v3, _, rfl, k_v3, hu_v3⟩ := kC hu_v2
  obtain ⟨s9a, s9l, s9c, rfl⟩ := kind_slice k_v3
  obtain ⟨v4, _, rfl, k_v4, hu_v4⟩ := kC hu_v3
  obtain ⟨x10, rfl⟩ := kind_int k_v4
  obtain rfl := kN hu_v4
  constructor
  ·intro h X hX
   exact h (fun x6 w => X [.int .i64 x6] w) (fun x6 w hb => hX [.int .i64 x6] w ⟨rfl, trivial⟩ hb)
  ·intro h X hX
   exact h (fun l w => match l with | [v0] => X (pInt v0) w | _ => True) (fun l w hl hb => by
    obtain ⟨v0, _, rfl, k_v0, hl_v0⟩ := kC hl
    obtain ⟨x6, rfl⟩ := kind_int k_v0
    obtain rfl := kN hl_v0
    exact hX x6 w hb)
def T_q5y (d1 keep2a : Option Addr) (keep2l keep2c : Nat) (w : World) (R : RT) : Prop :=
 Calls Tryz.prog 27 #[.pointer d1] w (ret (fun r3 w4 => ∃ (s5a : Option Addr) (s5l s5c : Nat), r3 = .slice s5a s5l s5c ∧ T_q3k 0 d1 keep2a keep2l keep2c s5a s5l s5c ((s5l : Nat) : Int) w4 (fun w57 => R (.returned (.tuple #[])) w57) (pan R)) (pan R))
theorem T_q5y_hl : allP (hokL Tryz.prog (hookAt [(3, H_q3k)]) (bodyOf Tryz.f20) 1) = (UnitOk Tryz.prog H_q3k (at_ (bodyOf Tryz.f20) [1]) 3 ∧ True) := by kernel_rfl
theorem T_q5y_eq (d1 keep2a : Option Addr) (keep2l keep2c : Nat) (w : World) (R : RT) : vcCode Tryz.prog (hookAt [(3, H_q3k)]) (bodyOf Tryz.f20) 1 ⟨argEnv [.pointer d1, .slice keep2a keep2l keep2c] 0, Tryz.f20.ntmps, []⟩ w (finQ Tryz.prog Tryz.f20.results.toList R) = T_q5y d1 keep2a keep2l keep2c w R := by kernel_rfl
theorem T_q5y_b : Tryz.f20.body = some (bodyOf Tryz.f20) := by kernel_rfl
theorem T_q5y_s : (quietSel (bodyOf Tryz.f20) && Nat.ble 2 Tryz.f20.ntmps) = true := by kernel_rfl
theorem C_q5y {d1 keep2a : Option Addr} {keep2l keep2c : Nat} {w : World} {R : RT} (h : T_q5y d1 keep2a keep2l keep2c w R) : Calls Tryz.prog 20 #[.pointer d1, .slice keep2a keep2l keep2c] w R :=
 calls_of_text (args := [.pointer d1, .slice keep2a keep2l keep2c]) mixed Tryz.func20 T_q5y_b T_q5y_s (HOk_of _ _ (by rw [T_q5y_hl]; exact ⟨T_q5y_1_ok, trivial⟩)) (by rw [T_q5y_eq]; exact h)
end Go.Proofs.YtclinifclfahfaaGreat
namespace Go.Vc
open Go Go.Proofs Go.Proofs.YtclinifclfahfaaGreat
set_option maxRecDepth 100000
section
variable {E w : World} {L : List Asrt} {R : RT} {F G : Fz} {q s : Sl} {b : Cm.Bs} {l : List Int} {xs : Cm.Bs}
theorem Clone_spec {ys : Cm.Bs} (hq : ∀ A : Asrt, Sees E (A :: L) s.1 s.2.1 1 (bytesV ys)) (hl : ys.length ≤ big) (h : St E L w) (k : ∀ (w' : World) (o : Sl), St E (byA o ys :: L) w' → R (.returned (.slice o.1 o.2.1 o.2.2)) w') :
    Calls Tryz.prog 67 #[.slice s.1 s.2.1 s.2.2] w R := by
  have hbig : big = 140737488355328 := rfl
  refine C_q4o ?_
  unfold T_q4o
  refine ite_b (fun hn => ?_) fun hn => ?_
  · have hr := hq _ w h.by_nil
    have h0 : ys = [] := by
      refine List.eq_nil_of_length_eq_zero ?_
      have h1 := hr.1
      rw [bytesV_len] at h1
      rcases Nat.eq_zero_or_pos s.2.1 with h2 | h2
      · omega
      · obtain ⟨ad, ha, _⟩ := hr.cells h2
        rw [ha] at hn; simp at hn
    subst h0
    exact k w nilS h.by_nil
  · intro w2
    have h2 : St E (byA (some ⟨w.heap.size, 0, none⟩, 0, 0) [] :: L) w2 := h.by_new [] (by decide)
    clear_value w2
    obtain ⟨o, w4, hr, h4⟩ := app_b (a2 := s.1) (l2 := s.2.1) (c2 := s.2.2) (ys := ys) h2 (hq _ w2 h2) (by rw [List.length_nil]; omega)
    rw [List.nil_append] at h4
    exact runV_ok hr ⟨_, _, _, rfl, k w4 o h4⟩
theorem Src.sees' {L : List Asrt} (hs : Src F q b) (hm : kn F ∈ L) (A : Asrt) : Sees E (A :: L) q.1 q.2.1 1 (bytesV b) := fun _ h => hs.rd.at h (List.mem_cons_of_mem _ hm)
theorem copy_min {at_ : Nat} {a2 : Option Addr} {l2 c2 : Nat} {ys : Cm.Bs} (h : St E (byA s xs :: L) w) (hro : RdS w a2 l2 1 (bytesV ys)) (ha : at_ ≤ xs.length) :
    ∃ w', (Builtin.copy_ #[27, 27] 3 #[.slice (if s.2.2 = at_ then s.1 else s.1.map fun x => x.add (at_ * 1)) (s.2.1 - at_) (s.2.2 - at_), .slice a2 l2 c2]).run Tryz.prog w = .ok (.int .i64 ((min ys.length (xs.length - at_) : Nat) : Int)) w' ∧
      St E (byA s (xs.take at_ ++ ys.take (min ys.length (xs.length - at_)) ++ xs.drop (at_ + min ys.length (xs.length - at_))) :: L) w' := by
  have hl2 : ys.length = l2 := by have := hro.1; rw [bytesV_len] at this; omega
  have hx : xs.length = s.2.1 := h.by_len2
  have hf := h.ownS_facts
  rcases Nat.eq_zero_or_pos (min ys.length (xs.length - at_)) with h0 | h0
  · rw [h0]
    refine ⟨w, run_copy_none w _ _ _ 5 _ _ _ _ _ _ (by kernel_rfl) (by kernel_rfl) (by rw [← hl2, ← hx]; exact h0), ?_⟩
    simpa using h
  · obtain ⟨ad, hA, _, hc⟩ := hro.cells (by omega)
    obtain ⟨sa, sl, sc⟩ := s
    simp only at hx hf ⊢
    rw [if_neg (by omega)]
    rcases h.ownS_open with ⟨e, e2⟩ | ⟨g', rest, e, hrest, hs⟩
    · have e2 : sl = 0 := e2.1
      omega
    · simp only at e
      subst e
      rw [hA]
      have hn : (bytesV (ys.take (min ys.length (xs.length - at_)))).length = min ys.length (xs.length - at_) := by rw [bytesV_len, List.length_take]; omega
      have hr := run_copy_row (P := Tryz.prog) w 27 27 3 5 g' (0 + at_ * 1) (sl - at_) (sc - at_) ad l2 c2 ⟨bytesV xs ++ rest⟩ 5 (bytesV (ys.take (min ys.length (xs.length - at_)))) (by kernel_rfl) (by kernel_rfl) hs.at_blk (by rw [hn, ← hl2, ← hx])
        (fun j v hj => by
          refine hc j v ?_
          have hjl := (List.getElem?_eq_some_iff.1 hj).1
          rw [hn] at hjl
          rw [← hj]
          simp only [bytesV, List.getElem?_map]
          rw [List.getElem?_take_of_lt hjl])
        (by show (0 + at_ * 1) + (bytesV (ys.take (min ys.length (xs.length - at_)))).length ≤ (bytesV xs ++ rest).length; rw [hn, List.length_append, bytesV_len]; omega) (fun v hv => one_oneCell (bytesV_one _ v hv))
      rw [hn] at hr
      have e0 : (Option.map (fun x : Addr => x.add (at_ * 1)) (some ⟨g', 0, none⟩)) = some ⟨g', 0 + at_ * 1, none⟩ := by rw [Option.map_some, add_mk]
      rw [e0]
      refine ⟨_, hr, ?_⟩
      rw [show 0 + at_ * 1 = at_ by omega]
      have e2 : (bytesV xs ++ rest).take at_ ++ bytesV (ys.take (min ys.length (xs.length - at_))) ++ (bytesV xs ++ rest).drop (at_ + min ys.length (xs.length - at_)) = bytesV (xs.take at_ ++ ys.take (min ys.length (xs.length - at_)) ++ xs.drop (at_ + min ys.length (xs.length - at_))) ++ rest := by
        rw [List.take_append_of_le_length (by rw [bytesV_len]; omega), List.drop_append_of_le_length (by rw [bytesV_len]; omega)]
        simp [bytesV, List.map_take, List.map_drop]
      have hs2 := hs.setRow_ (l' := bytesV (xs.take at_ ++ ys.take (min ys.length (xs.length - at_)) ++ xs.drop (at_ + min ys.length (xs.length - at_))) ++ rest)
      rw [← e2] at hs2
      show St E (byA _ _ :: L) (w.setRow g' ((bytesV xs ++ rest).take at_ ++ bytesV (ys.take (min ys.length (xs.length - at_))) ++ (bytesV xs ++ rest).drop (at_ + min ys.length (xs.length - at_))).toArray)
      rw [e2] at hs2 ⊢
      exact St.ownS_mk hs2 (by rw [bytesV_len]; simp; omega) hf.2.1 hf.2.2 hrest
theorem lay_spec {o : Sl} {ob : Cm.Bs} {at_ : Nat} (ho : Src F o ob) (hs : Src F q b) (hm : kn F ∈ L) (ha : at_ ≤ ob.length) (hl : ob.length + b.length ≤ big) (h : St E L w) (k : ∀ (w' : World) (s : Sl), St E (byA s (Dk.lay ob at_ b) :: L) w' → R (.returned (.slice s.1 s.2.1 s.2.2)) w') :
    Calls Tryz.prog 70 #[.slice o.1 o.2.1 o.2.2, .int .i64 (at_ : Int), .slice q.1 q.2.1 q.2.2] w R := by
  have hbig : big = 140737488355328 := rfl
  refine C_qa9 ?_
  unfold T_qa9
  refine Clone_spec (ys := ob) (fun A => ho.sees' hm A) (by omega) h fun w5 s6 h5 => ⟨_, _, _, rfl, ?_⟩
  have hl6 := h5.by_len2
  have hbl := hs.len
  rw [Int.toNat_natCast]
  refine ⟨by omega, by omega, ?_⟩
  obtain ⟨w8, hr, h8⟩ := copy_min (c2 := q.2.2) h5 (hs.rd.at h5 (List.mem_cons_of_mem _ hm)) ha
  refine runV_ok hr ⟨_, rfl, by omega, by omega, ?_⟩
  rw [Int.toNat_natCast]
  have hn : min b.length (ob.length - at_) ≤ b.length := Nat.min_le_left ..
  have hst := hs.tail hn
  have hlen : (ob.take at_ ++ b.take (min b.length (ob.length - at_)) ++ ob.drop (at_ + min b.length (ob.length - at_))).length ≤ ob.length := by
    simp only [List.length_append, List.length_take, List.length_drop]; omega
  obtain ⟨s', w11, hr, h11⟩ := app_b (a2 := (tailS q (min b.length (ob.length - at_))).1) (l2 := (tailS q (min b.length (ob.length - at_))).2.1) (c2 := (tailS q (min b.length (ob.length - at_))).2.2) h8 (hst.rd.at h8 (List.mem_cons_of_mem _ hm)) (by rw [List.length_drop]; omega)
  refine runV_ok hr ⟨_, _, _, rfl, k w11 s' ?_⟩
  have e : ob.take at_ ++ b.take (min b.length (ob.length - at_)) ++ ob.drop (at_ + min b.length (ob.length - at_)) ++ b.drop (min b.length (ob.length - at_)) = Dk.lay ob at_ b := by
    unfold Dk.lay
    rcases Nat.le_total b.length (ob.length - at_) with hc | hc
    · rw [Nat.min_eq_left hc, List.take_of_length_le (Nat.le_refl _), List.drop_of_length_le (Nat.le_refl _), List.append_nil]
    · rw [Nat.min_eq_right hc, List.drop_of_length_le (show ob.length ≤ at_ + (ob.length - at_) by omega), List.drop_of_length_le (show ob.length ≤ at_ + b.length by omega), List.append_nil, List.append_nil, List.append_assoc, List.take_append_drop]
  rw [e] at h11
  exact h11
end
end Go.Vc
namespace Go.Dk
theorem named_take (s : Bs) (j : Nat) (h : j < s.length) : (s.take (j + 1)).all nameB = ((s.take j).all nameB && nameB s[j]) := by
  rw [List.take_succ_eq_append_getElem h, List.all_append]
  simp
end Go.Dk
namespace Go.Vc
open Go Go.Proofs Go.Proofs.YtclinifclfahfaaGreat
set_option maxRecDepth 100000
section
variable {E w : World} {L : List Asrt} {R : RT} {F G : Fz} {q s : Sl} {b : Cm.Bs} {l : List Int} {xs : Cm.Bs}
theorem named_spec {n : Cm.Bs} (h : St E L w) (k : ∀ w', St E L w' → R (.returned (.bool (Dk.named n))) w') : Calls Tryz.prog 69 #[.string (bs n)] w R := by
  have hh : huge = 9223372036854775807 := rfl
  refine C_q9a ?_
  unfold T_q9a T_q81
  have hk : ∀ {w : World} (r : Bool), St E L w → Dk.named n = r → R (.returned (.bool r)) w := fun {w} r h e => congB (k w h) e
  rw [bs_size]
  have bad : ∀ {w : World}, St E L w → ¬ (1 ≤ n.length ∧ n.length ≤ 64) → R (.returned (.bool false)) w := fun {w} h hn => hk false h (by unfold Dk.named; rw [decide_eq_false hn]; rfl)
  refine ite_b (fun h0 => ?_) fun h0 => ?_
  · have h0 : ((n.length : Nat) : Int) = 0 := by simpa using h0
    exact ite_b (fun _ => bad h (by omega)) fun hh => by cases hh
  have h0 : ((n.length : Nat) : Int) ≠ 0 := by simpa using h0
  refine ite_b (fun h1 => ?_) fun h1 => ?_
  · exact bad h (by have := of_decide_eq_true h1; omega)
  have h1 := of_decide_eq_false h1
  have hn : 1 ≤ n.length ∧ n.length ≤ 64 := by omega
  have hnm : Dk.named n = n.all Dk.nameB := by unfold Dk.named; rw [decide_eq_true hn]; rfl
  unfold T_q82
  intro X hX
  refine up_to n.length (Q := fun j => ∀ w, (n.take j).all Dk.nameB = true → St E L w → X (j : Int) w) ?_ w (by simp) h
  intro j hj ih w hok h
  refine hX _ _ ?_
  unfold T_q9a_2_body
  refine ite_d (fun hc => ?_) fun hc => ?_
  · have hjl : j < n.length := by omega
    have hb : ¬ (Dk.nameB n[j] = true) → R (.returned (.bool false)) w := fun hx => hk false h (by
      rw [hnm]
      have h2 : (n.take (j + 1)).all Dk.nameB = false := by rw [Dk.named_take n j hjl, Bool.eq_false_iff.2 hx]; simp
      rw [← List.take_append_drop (j + 1) n, List.all_append, h2]; rfl)
    have hg : Dk.nameB n[j] = true → X (IntKind.wrap .i64 ((j : Int) + 1)) w := fun hx => by
      rw [succ_huge (by omega)]
      exact ih hjl w (by rw [Dk.named_take n j hjl, hok, hx]; rfl) h
    have hnb : Dk.nameB n[j] = (decide (97 ≤ n[j].toNat ∧ n[j].toNat ≤ 122) || decide (48 ≤ n[j].toNat ∧ n[j].toNat ≤ 57) || decide (n[j].toNat = 45) || decide (n[j].toNat = 46)) := rfl
    rw [Int.toNat_natCast]
    refine ⟨by omega, n[j], by rw [bs_get]; exact List.getElem?_eq_getElem hjl, ?_⟩
    have tail : ¬ (97 ≤ n[j].toNat ∧ n[j].toNat ≤ 122) → ¬ (48 ≤ n[j].toNat ∧ n[j].toNat ≤ 57) → (if (((n[j].toNat : Nat) : Int) == 45) = true then X (IntKind.wrap .i64 ((j : Int) + 1)) w else if (!(((n[j].toNat : Nat) : Int) == 46)) = true then R (.returned (.bool false)) w else X (IntKind.wrap .i64 ((j : Int) + 1)) w) := fun ha hb2 => by
      refine ite_b (fun h5 => hg ?_) fun h5 => ite_n (fun h6 => hb ?_) fun h6 => hg ?_
      · have : ((n[j].toNat : Nat) : Int) = 45 := by simpa using h5
        rw [hnb, decide_eq_true (show n[j].toNat = 45 by omega)]; simp
      · have h5 : ((n[j].toNat : Nat) : Int) ≠ 45 := by simpa using h5
        have h6 : ((n[j].toNat : Nat) : Int) ≠ 46 := by simpa using h6
        rw [hnb, decide_eq_false ha, decide_eq_false hb2, decide_eq_false (show ¬ n[j].toNat = 45 by omega), decide_eq_false (show ¬ n[j].toNat = 46 by omega)]; simp
      · have : ((n[j].toNat : Nat) : Int) = 46 := by simpa using h6
        rw [hnb, decide_eq_true (show n[j].toNat = 46 by omega)]; simp
    have dig : ∀ {T : Prop}, ¬ (97 ≤ n[j].toNat ∧ n[j].toNat ≤ 122) → (¬ (48 ≤ n[j].toNat ∧ n[j].toNat ≤ 57) → T) → (if decide (((n[j].toNat : Nat) : Int) ≥ 48) = true then (if decide (((n[j].toNat : Nat) : Int) ≤ 57) = true then X (IntKind.wrap .i64 ((j : Int) + 1)) w else T) else T) := fun {T} _ ht => by
      refine ite_d (fun h4 => ite_d (fun h5 => hg ?_) fun h5 => ht (by omega)) fun h4 => ht (by omega)
      rw [hnb, decide_eq_true (show 48 ≤ n[j].toNat ∧ n[j].toNat ≤ 57 by omega)]; simp
    refine ite_d (fun h2 => ite_d (fun h3 => hg ?_) fun h3 => dig (by omega) (tail (by omega))) fun h2 => dig (by omega) (tail (by omega))
    rw [hnb, decide_eq_true (show 97 ≤ n[j].toNat ∧ n[j].toNat ≤ 122 by omega)]; simp
  · have : j = n.length := by omega
    subst this
    rw [List.take_length] at hok
    exact hk true h (by rw [hnm, hok])
end
end Go.Vc
namespace Go.Vc
open Go Go.Proofs Go.Proofs.YtclinifclfahfaaGreat
set_option maxRecDepth 100000
theorem KeyLaw.comapD {κ κ' : Type} [DecidableEq κ] [DecidableEq κ'] {P : Program} {t : TypeId} {d : TypeDesc} {kv : κ → Value} (K : KeyLaw P t d kv) (f : κ' → κ) (hf : ∀ a b, f a = f b → a = b) : KeyLaw P t d (fun a => kv (f a)) where
  und := K.und
  eq a b w := by rw [K.eq]; congr 1; exact decide_eq_decide.2 ⟨hf a b, congrArg f⟩
  chk a e w := K.chk (f a) e w
  now a b r h := by rw [K.now _ _ _ h]; exact decide_eq_decide.2 ⟨hf a b, congrArg f⟩
  bits a := K.bits (f a)
def encN (n : Cm.Bs) : Value := .string (bs n)
def encF (p : Nat) : Value := .pointer (some ⟨p, 0, none⟩)
theorem nameLaw : KeyLaw Tryz.prog 9 .string encN := KeyLaw.comapD (keyLaw_string (t := 9) (by kernel_rfl)) bs fun _ _ h => bs_inj h
structure Ch where
  at_ : Nat
  b : Cm.Bs
  s : Sl
def chV (c : Ch) : List Value := [.bool false, .int .i64 0, .int .i64 (c.at_ : Int), .slice c.s.1 c.s.2.1 c.s.2.2]
structure FR where
  p : Nat
  name : Cm.Bs
  lasts : Bool
  nw : Sl
  sr : Sl
  sure : Cm.Bs
  ch : Sl
  cs : List Ch
def FR.units (x : FR) : List Dk.Un := x.cs.flatMap fun c => Dk.wrs c.at_ c.b
def FR.fl (x : FR) : Dk.Fl := ⟨x.name, x.lasts, x.sure, x.units⟩
def fileV (nw sr : Sl) (lasts : Bool) (ch : Sl) : List Value := [.slice nw.1 nw.2.1 nw.2.2, .slice sr.1 sr.2.1 sr.2.2, .bool lasts, .slice ch.1 ch.2.1 ch.2.2]
def FR.L (x : FR) : List Asrt := [blkL x.p 104 (fileV x.nw x.sr x.lasts x.ch), ownS x.ch.1 x.ch.2.1 x.ch.2.2 114 4 (x.cs.flatMap chV)]
structure FR.ok (G : Fz) (x : FR) : Prop where
  now : Src G x.nw (Dk.now x.fl)
  sure : Src G x.sr x.sure
  cs : ∀ c ∈ x.cs, Src G c.s c.b
theorem FR.ok.mono {F G : Fz} {x : FR} (h : x.ok F) (k : Fz.le F G) : x.ok G := ⟨h.now.mono k, h.sure.mono k, fun c hc => (h.cs c hc).mono k⟩
def diskV (d : Dk.Ds) (bm : Nat) : List Value := [.int .i64 d.room, .map (some bm)]
structure dkOk (G : Fz) (c : Nat) (d : Dk.Ds) (m : List (Cm.Bs × Nat)) (fs : List FR) : Prop where
  l : d.l = fs.map FR.fl
  m : m.Perm (fs.map fun x => (x.name, x.p))
  ok : ∀ x ∈ fs, x.ok G
  few : ∀ x ∈ fs, x.cs.length ≤ c
theorem dkOk.mono {F G : Fz} {c : Nat} {d : Dk.Ds} {m : List (Cm.Bs × Nat)} {fs : List FR} (h : dkOk F c d m fs) (k : Fz.le F G) : dkOk G c d m fs := ⟨h.l, h.m, fun x hx => (h.ok x hx).mono k, h.few⟩
def filesL (fs : List FR) : List Asrt := fs.flatMap FR.L
def diskA (G : Fz) (c dp : Nat) (d : Dk.Ds) : Asrt := fun h => ∃ bm m fs, dkOk G c d m fs ∧ seps (blkL dp 87 (diskV d bm) :: mapA bm encN encF m :: filesL fs) h
section
variable {E w : World} {L : List Asrt} {R : RT} {F G : Fz} {q s : Sl} {b : Cm.Bs} {dp c : Nat} {d : Dk.Ds}
theorem St.dk_open (h : St E (diskA G c dp d :: L) w) : ∃ bm m fs, dkOk G c d m fs ∧ St E (blkL dp 87 (diskV d bm) :: mapA bm encN encF m :: (filesL fs ++ L)) w := by
  obtain ⟨en, x, ⟨h1, h2, dj, rfl, ⟨bm, m, fs, ok, hs⟩, hL⟩, hl⟩ := h
  exact ⟨bm, m, fs, ok, (St.open_ ⟨en, _, ⟨h1, h2, dj, rfl, hs, hL⟩, hl⟩ :)⟩
theorem St.dk_mk {bm : Nat} {m : List (Cm.Bs × Nat)} {fs : List FR} (ok : dkOk G c d m fs) (h : St E (blkL dp 87 (diskV d bm) :: mapA bm encN encF m :: (filesL fs ++ L)) w) : St E (diskA G c dp d :: L) w :=
  (St.shut (L1 := blkL dp 87 (diskV d bm) :: mapA bm encN encF m :: filesL fs) h).mono fun _ hx => ⟨bm, m, fs, ok, hx⟩
theorem St.dk_mono (h : St E (diskA F c dp d :: L) w) (k : Fz.le F G) : St E (diskA G c dp d :: L) w := h.mono fun _ ⟨bm, m, fs, ok, hs⟩ => ⟨bm, m, fs, ok.mono k, hs⟩
theorem filesL_split (l1 l2 : List FR) (x : FR) : filesL (l1 ++ x :: l2) = filesL l1 ++ (x.L ++ filesL l2) := by simp [filesL]
theorem St.file_out {A B : Asrt} {l1 l2 : List FR} {x : FR} (h : St E (A :: B :: (filesL (l1 ++ x :: l2) ++ L)) w) : St E (blkL x.p 104 (fileV x.nw x.sr x.lasts x.ch) :: ownS x.ch.1 x.ch.2.1 x.ch.2.2 114 4 (x.cs.flatMap chV) :: A :: B :: (filesL (l1 ++ l2) ++ L)) w := by
  refine h.perm ?_
  rw [filesL_split, show filesL (l1 ++ l2) = filesL l1 ++ filesL l2 by simp [filesL]]
  have p1 : (filesL l1 ++ (x.L ++ filesL l2) ++ L).Perm (x.L ++ (filesL l1 ++ filesL l2 ++ L)) := by
    rw [List.append_assoc, List.append_assoc, List.append_assoc]
    exact List.perm_append_comm_assoc ..
  have p2 : (A :: B :: (filesL l1 ++ (x.L ++ filesL l2) ++ L)).Perm (A :: B :: (x.L ++ (filesL l1 ++ filesL l2 ++ L))) := (p1.cons _).cons _
  refine p2.trans ?_
  show ([A, B] ++ (x.L ++ (filesL l1 ++ filesL l2 ++ L))).Perm (x.L ++ ([A, B] ++ (filesL l1 ++ filesL l2 ++ L)))
  exact List.perm_append_comm_assoc ..
theorem St.file_in {A B : Asrt} {l1 l2 : List FR} {x : FR} (h : St E (blkL x.p 104 (fileV x.nw x.sr x.lasts x.ch) :: ownS x.ch.1 x.ch.2.1 x.ch.2.2 114 4 (x.cs.flatMap chV) :: A :: B :: (filesL (l1 ++ l2) ++ L)) w) : St E (A :: B :: (filesL (l1 ++ x :: l2) ++ L)) w := by
  refine h.perm ?_
  rw [filesL_split, show filesL (l1 ++ l2) = filesL l1 ++ filesL l2 by simp [filesL]]
  have p1 : (filesL l1 ++ (x.L ++ filesL l2) ++ L).Perm (x.L ++ (filesL l1 ++ filesL l2 ++ L)) := by
    rw [List.append_assoc, List.append_assoc, List.append_assoc]
    exact List.perm_append_comm_assoc ..
  have p2 : (A :: B :: (filesL l1 ++ (x.L ++ filesL l2) ++ L)).Perm (A :: B :: (x.L ++ (filesL l1 ++ filesL l2 ++ L))) := (p1.cons _).cons _
  refine (p2.trans ?_).symm
  show ([A, B] ++ (x.L ++ (filesL l1 ++ filesL l2 ++ L))).Perm (x.L ++ ([A, B] ++ (filesL l1 ++ filesL l2 ++ L)))
  exact List.perm_append_comm_assoc ..
theorem DNew_spec {room : Int} (h : St E L w) (k : ∀ (w' : World) (dp : Nat), St E (diskA F 0 dp (Dk.newD room) :: L) w' → R (.returned (.pointer (some ⟨dp, 0, none⟩))) w') : Calls Tryz.prog 16 #[.int .i64 room] w R := by
  refine C_qa8 ?_
  unfold T_qa8
  intro w2 w3
  have h2 : St E (mapA w.heap.size encN encF [] :: L) w2 := h.mapA_new encN encF
  have e : (if room > 0 then room else 0) = max 0 room := by
    split <;> omega
  have h3 : St E (blkL w2.heap.size 87 (diskV (Dk.newD room) w.heap.size) :: mapA w.heap.size encN encF [] :: (filesL [] ++ L)) w3 := by
    have := h2.alloc (.cells ⟨[.int .i64 (if room > 0 then room else 0), .map (some w.heap.size)]⟩ 87)
    show St E (blkL w2.heap.size 87 [.int .i64 (max 0 room), .map (some w.heap.size)] :: _) w3
    rw [← e]
    exact this
  exact k w3 _ (St.dk_mk ⟨rfl, .nil, fun _ h => (by cases h), fun _ h => (by cases h)⟩ h3)
end
end Go.Vc
namespace Go.Vc
open Go Go.RowKit
section
variable {κ ν : Type} [DecidableEq κ] {P : Program} {kt et t : TypeId} {kv : κ → Value} {vv : ν → Value} {E w : World} {L : List Asrt} {m rest : List (κ × ν)} {b r : Nat}
structure IterOk (kv : κ → Value) (vv : ν → Value) (m rest : List (κ × ν)) (es : Array MapEntry) (clock since : Nat) (seen : Array Nat) (c0 : Nat) : Prop where
  he : ents kv vv es.toList m
  hn : (m.map (·.1)).Nodup
  hg : goodM es clock
  old : ∀ x ∈ es.toList, x.born < since
  s0 : since ≤ c0
  s1 : since ≤ clock
  left : ents kv vv (es.toList.filter fun e => !seen.contains e.born) rest
def iterA (r b : Nat) (kv : κ → Value) (vv : ν → Value) (m rest : List (κ × ν)) : Asrt := fun h => ∃ es clock since seen c0, IterOk kv vv m rest es clock since seen c0 ∧
  seps [blk r (.mapIter (some b) since seen c0), blk b (.map es clock)] h
omit [DecidableEq κ] in
theorem St.iter_open (h : St E (iterA r b kv vv m rest :: L) w) : ∃ es clock since seen c0, IterOk kv vv m rest es clock since seen c0 ∧ St E (blk r (.mapIter (some b) since seen c0) :: blk b (.map es clock) :: L) w := by
  obtain ⟨en, x, ⟨h1, h2, d, rfl, ⟨es, clock, since, seen, c0, ok, hs⟩, hL⟩, hl⟩ := h
  exact ⟨es, clock, since, seen, c0, ok, (St.open_ (L1 := [_, _]) ⟨en, _, ⟨h1, h2, d, rfl, hs, hL⟩, hl⟩ :)⟩
omit [DecidableEq κ] in
theorem St.iter_mk {es : Array MapEntry} {clock since : Nat} {seen : Array Nat} {c0 : Nat} (ok : IterOk kv vv m rest es clock since seen c0) (h : St E (blk r (.mapIter (some b) since seen c0) :: blk b (.map es clock) :: L) w) : St E (iterA r b kv vv m rest :: L) w :=
  (St.shut (L1 := [_, _]) h).mono fun _ hx => ⟨es, clock, since, seen, c0, ok, hx⟩
omit [DecidableEq κ] in
theorem St.iter_done (h : St E (iterA r b kv vv m rest :: L) w) : St E (mapA b kv vv m :: L) w := by
  obtain ⟨es, clock, since, seen, c0, ok, hs⟩ := h.iter_open
  exact hs.drop.mapA_mk ok.he ⟨ok.hn, ok.hg⟩
omit [DecidableEq κ] in
theorem range_run (ht : P.underlying t = some (.map kt et)) (h : St E (mapA b kv vv m :: L) w) :
    ∃ w', (Instr.range t (.map (some b))).run P w = .ok (.pointer (some ⟨w.heap.size, 0, none⟩)) w' ∧ St E (iterA w.heap.size b kv vv m m :: L) w' := by
  obtain ⟨es, clock, hs, he, hn, hg⟩ := h.mapA_open
  refine ⟨_, run_range_map w t kt et b es clock ht hs.at_blk, St.iter_mk ⟨he, hn, hg, hg.1, Nat.le_refl _, Nat.le_refl _, ?_⟩ (hs.alloc _)⟩
  rw [show (es.toList.filter fun e => !(#[] : Array Nat).contains e.born) = es.toList from List.filter_eq_self.2 fun x _ => by simp]
  exact he
omit [DecidableEq κ] in
theorem ents_split : ∀ {es1 : List MapEntry} {e : MapEntry} {es2 : List MapEntry} {m : List (κ × ν)}, ents kv vv (es1 ++ e :: es2) m → ∃ m1 p m2, m = m1 ++ p :: m2 ∧ e.key = kv p.1 ∧ e.val = vv p.2 ∧ ents kv vv (es1 ++ es2) (m1 ++ m2)
  | [], e, es2, [], h => by simp [ents] at h
  | [], e, es2, p :: m, h => by
    simp only [ents, List.nil_append, List.map_cons, List.cons.injEq, Prod.mk.injEq] at h
    exact ⟨[], p, m, rfl, h.1.1, h.1.2, by simpa [ents] using h.2⟩
  | e1 :: es1, e, es2, [], h => by simp [ents] at h
  | e1 :: es1, e, es2, q :: m, h => by
    simp only [ents, List.cons_append, List.map_cons, List.cons.injEq] at h
    obtain ⟨m1, p, m2, rfl, h1, h2, h3⟩ := ents_split (es1 := es1) (e := e) (es2 := es2) (m := m) h.2
    refine ⟨q :: m1, p, m2, rfl, h1, h2, ?_⟩
    simp only [ents, List.cons_append, List.map_cons, List.cons.injEq]
    exact ⟨h.1, h3⟩
theorem filter_one_less {l1 l2 : List MapEntry} {e : MapEntry} : ∀ (l : List MapEntry) (p : MapEntry → Bool), (l.map (·.born)).Nodup → l.filter p = l1 ++ e :: l2 → l.filter (fun x => p x && !(x.born == e.born)) = l1 ++ l2 := by
  intro l p hn hf
  have h1 : l.filter (fun x => p x && !(x.born == e.born)) = (l.filter p).filter (fun x => !(x.born == e.born)) := by
    rw [List.filter_filter]
    congr 1
    funext x
    cases p x <;> simp
  have hn2 : ((l1 ++ e :: l2).map (·.born)).Nodup := by rw [← hf]; exact hn.sublist (List.filter_sublist.map _)
  rw [h1, hf]
  rw [List.map_append, List.map_cons, List.nodup_append, List.nodup_cons] at hn2
  rw [List.filter_append, List.filter_cons, if_neg (by simp)]
  congr 1
  · refine List.filter_eq_self.2 fun x hx => ?_
    have := hn2.2.2 x.born (List.mem_map_of_mem hx) e.born (by simp)
    simpa using this
  · refine List.filter_eq_self.2 fun x hx => ?_
    have : e.born ∉ l2.map (·.born) := hn2.2.1.1
    have h3 : x.born ≠ e.born := fun he => this (he ▸ List.mem_map_of_mem hx)
    simpa using h3
omit [DecidableEq κ] in
theorem next_run (ty : TypeId) (h : St E (iterA r b kv vv m rest :: L) w) :
    (rest = [] ∧ (Instr.next (.pointer (some ⟨r, 0, none⟩)) false ty).run P w = .ok (.tuple #[.bool false]) w) ∨
    ∃ r1 p r2 w', rest = r1 ++ p :: r2 ∧ (Instr.next (.pointer (some ⟨r, 0, none⟩)) false ty).run P w = .ok (.tuple #[.bool true, kv p.1, vv p.2]) w' ∧ St E (iterA r b kv vv m (r1 ++ r2) :: L) w' ∧
      (Instr.entry (.pointer (some ⟨r, 0, none⟩))).run P w' = .ok (.tuple #[kv p.1, vv p.2]) w' := by
  obtain ⟨es, clock, since, seen, c0, ok, hs⟩ := h.iter_open
  have hleft : (leftOf es seen).toList = es.toList.filter fun e => !seen.contains e.born := by simp [leftOf]
  rcases run_next_at (P := P) w ty r b since c0 seen es clock hs.at_blk hs.f1.at_blk ok.old ok.s0 with ⟨h0, hrun⟩ | ⟨e, he, w1, hal, hrun⟩
  · refine .inl ⟨?_, hrun⟩
    have h1 : (leftOf es seen).toList = [] := List.eq_nil_of_length_eq_zero (by simpa using h0)
    have h2 := ok.left
    rw [← hleft, h1] at h2
    simp only [ents, List.map_nil] at h2
    exact List.map_eq_nil_iff.1 h2.symm
  · refine .inr ?_
    obtain ⟨l1, l2, hl⟩ := List.append_of_mem he
    rw [hleft] at hl
    have hL := ok.left
    rw [hl] at hL
    obtain ⟨m1, p, m2, rfl, hk, hv, hL2⟩ := ents_split hL
    have hs1 : St E (blk r (.mapIter (some b) since seen c0) :: blk b (.map es clock) :: L) w1 := by
      rcases hal with rfl | rfl
      · exact hs
      · exact hs.drew
    have hlt : r < w1.heap.size := (Array.getElem?_eq_some_iff.1 hs1.at_blk).1
    have hem : e ∈ es.toList := by rw [hleft] at he; exact (List.mem_filter.1 he).1
    have hs2 : St E (blk r (.mapIter (some b) since (seen.push e.born) clock) :: blk b (.map es clock) :: L) (ChangeMaps.setBlock w1 r (.mapIter (some b) since (seen.push e.born) clock)) := by
      refine hs1.upd ⟨rfl, rfl, rfl⟩ ?_ fun c hc _ => ?_
      · simp [ChangeMaps.setBlock, hlt]
      · simp [ChangeMaps.setBlock, Array.getElem?_setIfInBounds_ne (fun e => hc e.symm)]
    refine ⟨m1, p, m2, ChangeMaps.setBlock w1 r (.mapIter (some b) since (seen.push e.born) clock), rfl, by rw [hrun, hk, hv], St.iter_mk (since := since) (seen := seen.push e.born) (c0 := clock) ⟨ok.he, ok.hn, ok.hg, ok.old, ok.s1, ok.s1, ?_⟩ hs2,
      by rw [run_entry_at _ r b since seen es clock e hs2.at_blk hs2.f1.at_blk hem ok.hg.2, hk, hv]⟩
    · have := filter_one_less es.toList (fun x => !seen.contains x.born) ok.hg.2 hl
      rw [← this] at hL2
      refine Eq.mp ?_ hL2
      congr 2
      funext x
      by_cases hx : x.born = e.born <;> simp [hx]
end
end Go.Vc
namespace Go.Dk
def lenN (d : Ds) (n : Bs) : Nat := match find d.l n with
  | some f => (now f).length
  | .none => 0
theorem find_of {l : List Fl} (h : l.Pairwise fun a b => flLt a b = true) {f : Fl} (hf : f ∈ l) : find l f.name = some f := by
  induction l with
  | nil => cases hf
  | cons a r ih =>
    rw [List.pairwise_cons] at h
    rcases List.mem_cons.1 hf with rfl | hf
    · unfold find; simp
    · have hlt := h.1 f hf
      have hne : ¬ a.name = f.name := fun e => by
        have := of_decide_eq_true hlt
        rw [e] at this
        exact Cm.slt_irrefl _ this
      have := ih h.2 hf
      unfold find at this ⊢
      rw [List.find?_cons, decide_eq_false hne]
      exact this
theorem sum_le {α : Type} {f : α → Nat} {m : Nat} : ∀ {l : List α}, (∀ a ∈ l, f a ≤ m) → (l.map f).sum ≤ l.length * m
  | [], _ => by simp
  | a :: r, h => by
    have h1 := h a List.mem_cons_self
    have h2 := sum_le (l := r) fun b hb => h b (List.mem_cons_of_mem _ hb)
    rw [List.map_cons, List.sum_cons, List.length_cons, Nat.add_mul]
    omega
end Go.Dk
namespace Go.Vc
open Go Go.Proofs Go.Proofs.YtclinifclfahfaaGreat
set_option maxRecDepth 100000
section
variable {E w : World} {L : List Asrt} {R : RT} {F G : Fz} {q s : Sl} {b : Cm.Bs} {dp c : Nat} {d : Dk.Ds}
theorem dk_mem {m : List (Cm.Bs × Nat)} {fs : List FR} (ok : dkOk G c d m fs) {p : Cm.Bs × Nat} (hp : p ∈ m) : ∃ x l1 l2, fs = l1 ++ x :: l2 ∧ x.name = p.1 ∧ x.p = p.2 := by
  have := ok.m.mem_iff.1 hp
  obtain ⟨x, hx, he⟩ := List.mem_map.1 this
  obtain ⟨l1, l2, hl⟩ := List.append_of_mem hx
  subst he
  exact ⟨x, l1, l2, hl, rfl, rfl⟩
theorem dk_len {m : List (Cm.Bs × Nat)} {fs : List FR} (ok : dkOk G c d m fs) (I : Dk.Inv d) {x : FR} (hx : x ∈ fs) : Dk.lenN d x.name = x.nw.2.1 := by
  have hf : x.fl ∈ d.l := by rw [ok.l]; exact List.mem_map_of_mem hx
  have := Dk.find_of ((Cm.rises_iff Dk.flOrd _).1 I.r) hf
  unfold Dk.lenN
  rw [show x.name = x.fl.name from rfl, this]
  exact (ok.ok x hx).now.len
theorem dk_used {m : List (Cm.Bs × Nat)} {fs : List FR} (ok : dkOk G c d m fs) (I : Dk.Inv d) : (m.map fun p => Dk.lenN d p.1).sum = Dk.used d := by
  have h1 : (m.map fun p => Dk.lenN d p.1).sum = ((fs.map fun x => (x.name, x.p)).map fun p => Dk.lenN d p.1).sum := (ok.m.map _).sum_nat
  rw [h1, List.map_map]
  unfold Dk.used
  rw [ok.l, List.map_map]
  congr 1
  refine List.map_congr_left fun x hx => ?_
  show Dk.lenN d x.name = (Dk.now x.fl).length
  rw [dk_len ok I hx]
  exact (ok.ok x hx).now.len.symm
theorem used_le (I : Dk.Inv d) : Dk.used d ≤ 16 * 262144 := by
  have h1 := Dk.sum_le (f := fun f => (Dk.now f).length) (m := 262144) (l := d.l) fun f hf => (Dk.okU_len (I.u f hf)).2
  have h2 := Nat.mul_le_mul_right 262144 I.n
  exact Nat.le_trans h1 h2
theorem sum_mid {α : Type} (f : α → Nat) (a b : List α) (x : α) : ((a ++ x :: b).map f).sum = ((a ++ b).map f).sum + f x := by
  simp only [List.map_append, List.map_cons, List.sum_append, List.sum_cons]; omega
theorem Used_open {bm : Nat} {m : List (Cm.Bs × Nat)} {fs : List FR} (ok : dkOk F c d m fs) (I : Dk.Inv d) (h : St E (blkL dp 87 (diskV d bm) :: mapA bm encN encF m :: (filesL fs ++ L)) w)
    (k : ∀ w', St E (blkL dp 87 (diskV d bm) :: mapA bm encN encF m :: (filesL fs ++ L)) w' → R (.returned (.int .i64 (Dk.used d))) w') : Calls Tryz.prog 29 #[.pointer (some ⟨dp, 0, none⟩)] w R := by
  have hU := used_le I
  refine C_q6v ?_
  unfold T_q6v
  refine ite_b (fun hh => by simp at hh) fun _ => ?_
  refine ⟨_, rfl, _, rd_fld h.at_blk rfl rfl, ?_⟩
  obtain ⟨w5, hr, h5⟩ := range_run (P := Tryz.prog) (t := 85) (kt := 9) (et := 99) (by kernel_rfl) h.f1
  refine runV_ok hr ⟨_, rfl, ?_⟩
  unfold T_q4z
  intro X hX
  have go : ∀ (n : Nat) (rest : List (Cm.Bs × Nat)) (a : Nat) (w' : World), rest.length = n → (∀ p ∈ rest, p ∈ m) → a + (rest.map fun p => Dk.lenN d p.1).sum = Dk.used d →
      St E (iterA w.heap.size bm encN encF m rest :: blkL dp 87 (diskV d bm) :: (filesL fs ++ L)) w' → X (a : Int) w' := by
    intro n
    induction n with
    | zero =>
      intro rest a w1 hn hin hs h
      have h0 : rest = [] := List.eq_nil_of_length_eq_zero hn
      subst h0
      refine hX _ _ ?_
      unfold T_q6v_1_body
      rcases next_run (P := Tryz.prog) 0 h with ⟨_, hr⟩ | ⟨r1, p, r2, w2, he, _⟩
      · refine runV_ok hr ⟨false, [], rfl, ite_b (fun hh => by cases hh) fun _ => ?_⟩
        have : a = Dk.used d := by simpa using hs
        subst this
        exact k w1 h.iter_done.f1
      · simp at he
    | succ n ih =>
      intro rest a w1 hn hin hs h
      refine hX _ _ ?_
      unfold T_q6v_1_body
      rcases next_run (P := Tryz.prog) 0 h with ⟨h0, _⟩ | ⟨r1, p, r2, w2, he, hr, h2, hr2⟩
      · rw [h0] at hn; simp at hn
      · subst he
        refine runV_ok hr ⟨true, _, rfl, ite_b (fun _ => ?_) fun hh => by cases hh⟩
        obtain ⟨x, l1, l2, hf, hx1, hx2⟩ := dk_mem ok (hin p (by simp))
        have hxf : x ∈ fs := by rw [hf]; simp
        have hlen := dk_len ok I hxf
        rw [hx1] at hlen
        rw [sum_mid] at hs
        have hrd : rd w2 ⟨x.p, 0, none⟩ (.slice x.nw.1 x.nw.2.1 x.nw.2.2) := by
          have h3 := h2
          rw [hf] at h3
          exact rd_cell h3.file_out.at_blk rfl rfl
        rw [hx2] at hrd
        refine runV_ok hr2 ⟨_, _, rfl, _, rfl, _, rfl, _, _, _, hrd, ?_⟩
        rw [show IntKind.wrap .i64 ((a : Int) + ((x.nw.2.1 : Nat) : Int)) = ((a + x.nw.2.1 : Nat) : Int) by rw [wrap_id (by omega) (by omega)]; omega]
        refine ih (r1 ++ r2) _ w2 (by simp at hn ⊢; omega) (fun p hp => hin p (by simp at hp ⊢; rcases hp with hp | hp; exact .inl hp; exact .inr (.inr hp))) ?_ h2
        rw [← hlen]; omega
  have := go m.length m 0 w5 rfl (fun _ h => h) (by rw [Nat.zero_add]; exact dk_used ok I) (h5)
  exact this
theorem Used_spec (I : Dk.Inv d) (h : St E (diskA F c dp d :: L) w) (k : ∀ w', St E (diskA F c dp d :: L) w' → R (.returned (.int .i64 (Dk.used d))) w') : Calls Tryz.prog 29 #[.pointer (some ⟨dp, 0, none⟩)] w R := by
  obtain ⟨bm, m, fs, ok, h⟩ := h.dk_open
  exact Used_open ok I h fun w' h' => k w' (St.dk_mk ok h')
end
end Go.Vc
namespace Go.Vc
open Go Go.Proofs Go.Proofs.YtclinifclfahfaaGreat
set_option maxRecDepth 100000
theorem put_map {α β : Type} (lt : β → β → Bool) (g : α → β) (l : List α) (p : α) : (Cm.put (fun a b => lt (g a) (g b)) l p).map g = Cm.put lt (l.map g) (g p) := by
  unfold Cm.put
  rw [List.map_append, List.map_cons, List.filter_map, List.filter_map]
  rfl
theorem ord_comap {α β : Type} {lt same : β → β → Bool} (O : Cm.Ord lt same) (g : α → β) : Cm.Ord (fun a b : α => lt (g a) (g b)) (fun a b : α => same (g a) (g b)) where
  irr a b h := O.irr _ _ h
  tr a b c h k := O.tr _ _ _ h k
  tri a b h := O.tri _ _ h
  cong a b c h := O.cong _ _ _ h
  congr a b c h := O.congr _ _ _ h
  refl a := O.refl _
section
variable {κ ν : Type} [DecidableEq κ]
theorem mset_perm : ∀ {m : List (κ × ν)} (a : κ) (v : ν), (m.map (·.1)).Nodup → (mset m a v).Perm ((a, v) :: m.filter fun p => !decide (p.1 = a))
  | [], a, v, _ => .refl _
  | p :: r, a, v, h => by
    rw [List.map_cons, List.nodup_cons] at h
    unfold mset
    split
    · rename_i hp
      have : r.filter (fun p => !decide (p.1 = a)) = r := List.filter_eq_self.2 fun q hq => by
        have : q.1 ≠ a := fun e => h.1 (by rw [hp, ← e]; exact List.mem_map_of_mem hq)
        simp [this]
      rw [List.filter_cons, if_neg (by simp [hp]), this]
    · rename_i hp
      rw [List.filter_cons, if_pos (by simp [hp])]
      exact ((mset_perm a v h.2).cons p).trans (.swap ..)
theorem mdel_filter : ∀ {m : List (κ × ν)} (a : κ), (m.map (·.1)).Nodup → mdel m a = m.filter fun p => !decide (p.1 = a)
  | [], a, _ => rfl
  | p :: r, a, h => by
    rw [List.map_cons, List.nodup_cons] at h
    unfold mdel
    split
    · rename_i hp
      have : r.filter (fun p => !decide (p.1 = a)) = r := List.filter_eq_self.2 fun q hq => by
        have : q.1 ≠ a := fun e => h.1 (by rw [hp, ← e]; exact List.mem_map_of_mem hq)
        simp [this]
      rw [List.filter_cons, if_neg (by simp [hp]), this]
    · rename_i hp
      rw [List.filter_cons, if_pos (by simp [hp]), mdel_filter a h.2]
theorem mget_mem {m : List (κ × ν)} {a : κ} {v : ν} (h : mget m a = some v) : (a, v) ∈ m := by
  unfold mget at h
  cases hf : m.find? fun p => decide (p.1 = a) with
  | none => rw [hf] at h; cases h
  | some p =>
    rw [hf] at h
    have h1 : p.2 = v := by simpa using h
    have h2 : p.1 = a := by simpa using List.find?_some hf
    have := List.mem_of_find?_eq_some hf
    rw [← h1, ← h2]; exact this
theorem mget_no {m : List (κ × ν)} {a : κ} (h : mget m a = none) : ∀ p ∈ m, p.1 ≠ a := by
  unfold mget at h
  intro p hp
  have : m.find? (fun p => decide (p.1 = a)) = none := by simpa using h
  simpa using List.find?_eq_none.1 this p hp
end
section
variable {E w : World} {L : List Asrt} {R : RT} {F G : Fz} {q s : Sl} {b : Cm.Bs} {dp c : Nat} {d : Dk.Ds} {m : List (Cm.Bs × Nat)} {fs : List FR} {n : Cm.Bs}
theorem fs_nodup (ok : dkOk G c d m fs) (I : Dk.Inv d) : (fs.map FR.name).Nodup := by
  have h1 := (Cm.rises_iff Dk.flOrd _).1 I.r
  rw [ok.l, List.pairwise_map] at h1
  refine List.pairwise_map.2 (h1.imp fun h e => ?_)
  have h2 := of_decide_eq_true h
  have e : FR.name _ = FR.name _ := e
  unfold FR.fl at h2
  simp only at h2
  rw [e] at h2
  exact Cm.slt_irrefl _ h2
theorem keys_nodup (ok : dkOk G c d m fs) (I : Dk.Inv d) : (m.map (·.1)).Nodup := by
  have h := (ok.m.map (·.1)).nodup_iff.2 (by rw [List.map_map]; exact fs_nodup ok I)
  exact h
theorem dk_there (ok : dkOk G c d m fs) (I : Dk.Inv d) {p : Nat} (h : mget m n = some p) : ∃ x l1 l2, fs = l1 ++ x :: l2 ∧ x.name = n ∧ x.p = p ∧ Dk.find d.l n = some x.fl := by
  obtain ⟨x, l1, l2, hf, h1, h2⟩ := dk_mem ok (mget_mem h)
  refine ⟨x, l1, l2, hf, h1, h2, ?_⟩
  have := Dk.find_of ((Cm.rises_iff Dk.flOrd _).1 I.r) (show x.fl ∈ d.l by rw [ok.l, hf]; simp)
  rwa [show x.fl.name = n from h1] at this
theorem dk_gone (ok : dkOk G c d m fs) (h : mget m n = none) : Dk.find d.l n = none ∧ ∀ x ∈ fs, x.name ≠ n := by
  have h1 : ∀ x ∈ fs, x.name ≠ n := fun x hx => mget_no h (x.name, x.p) (ok.m.mem_iff.2 (List.mem_map_of_mem (f := fun x => (x.name, x.p)) hx))
  refine ⟨?_, h1⟩
  unfold Dk.find
  rw [List.find?_eq_none]
  intro f hf
  rw [ok.l] at hf
  obtain ⟨x, hx, rfl⟩ := List.mem_map.1 hf
  have h2 : x.fl.name ≠ n := h1 x hx
  simpa using h2
def lt7 (a b : FR) : Bool := Dk.flLt a.fl b.fl
def but (fs : List FR) (n : Cm.Bs) : List FR := fs.filter fun x => !decide (x.name = n)
theorem but_mid {l1 l2 : List FR} {x : FR} (h : ((l1 ++ x :: l2).map FR.name).Nodup) : but (l1 ++ x :: l2) x.name = l1 ++ l2 := by
  rw [List.map_append, List.map_cons, List.nodup_append, List.nodup_cons] at h
  unfold but
  rw [List.filter_append, List.filter_cons, if_neg (by simp)]
  congr 1
  · refine List.filter_eq_self.2 fun y hy => ?_
    have : y.name ≠ x.name := h.2.2 _ (List.mem_map_of_mem hy) _ (by simp)
    simp [this]
  · refine List.filter_eq_self.2 fun y hy => ?_
    have : y.name ≠ x.name := fun e => h.2.1.1 (e ▸ List.mem_map_of_mem hy)
    simp [this]
theorem but_none (h : ∀ x ∈ fs, x.name ≠ n) : but fs n = fs := List.filter_eq_self.2 fun x hx => by simp [h x hx]
theorem fput_perm (x : FR) : (Cm.put lt7 fs x).Perm (x :: but fs x.name) := Cm.put_perm (ord_comap Dk.flOrd FR.fl) fs x
theorem filter_names (n : Cm.Bs) : (fs.map fun x => (x.name, x.p)).filter (fun p => !decide (p.1 = n)) = (but fs n).map fun x => (x.name, x.p) := by
  rw [List.filter_map]; rfl
theorem dk_put (ok : dkOk F c d m fs) (I : Dk.Inv d) {x : FR} (hx : x.ok G) (k : Fz.le F G) (room : Int) {c2 : Nat} (hc : x.cs.length ≤ c2) (hcc : c ≤ c2) : dkOk G c2 ⟨room, Dk.putF d.l x.fl⟩ (mset m x.name x.p) (Cm.put lt7 fs x) where
  l := by
    show Dk.putF d.l x.fl = _
    unfold Dk.putF
    rw [ok.l]
    exact (put_map Dk.flLt FR.fl fs x).symm
  m := by
    refine (mset_perm _ _ (keys_nodup ok I)).trans ?_
    refine .trans ?_ ((fput_perm x).map fun x => (x.name, x.p)).symm
    rw [List.map_cons, ← filter_names]
    exact (ok.m.filter _).cons _
  ok y hy := by
    rcases List.mem_cons.1 ((fput_perm x).mem_iff.1 hy) with rfl | hy
    · exact hx
    · exact (ok.ok y (List.mem_filter.1 hy).1).mono k
  few y hy := by
    rcases List.mem_cons.1 ((fput_perm x).mem_iff.1 hy) with rfl | hy
    · exact hc
    · exact Nat.le_trans (ok.few y (List.mem_filter.1 hy).1) hcc
theorem dk_del (ok : dkOk F c d m fs) (I : Dk.Inv d) (room : Int) : dkOk F c ⟨room, Dk.without d.l n⟩ (mdel m n) (but fs n) where
  l := by
    show Dk.without d.l n = _
    unfold Dk.without but
    rw [ok.l, List.filter_map]
    rfl
  m := by
    rw [mdel_filter _ (keys_nodup ok I), ← filter_names]
    exact ok.m.filter _
  ok y hy := ok.ok y (List.mem_filter.1 hy).1
  few y hy := ok.few y (List.mem_filter.1 hy).1
theorem filesL_perm {f1 f2 : List FR} (p : f1.Perm f2) : (filesL f1).Perm (filesL f2) := p.flatMap_right _
theorem St.files_perm {A B : Asrt} {f1 f2 : List FR} (h : St E (A :: B :: (filesL f1 ++ L)) w) (p : f1.Perm f2) : St E (A :: B :: (filesL f2 ++ L)) w :=
  h.perm ((((filesL_perm p).append_right L).cons B).cons A)
end
end Go.Vc
namespace Go.Vc
open Go Go.Proofs Go.Proofs.YtclinifclfahfaaGreat
set_option maxRecDepth 100000
section
variable {E w : World} {L : List Asrt} {R : RT} {F G : Fz} {q s : Sl} {b : Cm.Bs} {dp c : Nat} {d : Dk.Ds} {m : List (Cm.Bs × Nat)} {fs : List FR} {n : Cm.Bs}
def chA (s : Sl) (cs : List Ch) : Asrt := ownS s.1 s.2.1 s.2.2 114 4 (cs.flatMap chV)
theorem chV_len (c : Ch) : (chV c).length = 4 := rfl
theorem chV_one (l : List Ch) : ∀ u ∈ l.flatMap chV, one u = true := by
  intro u hu
  obtain ⟨c, _, hc⟩ := List.mem_flatMap.1 hu
  simp [chV] at hc
  rcases hc with rfl | rfl | rfl | rfl <;> rfl
theorem app_ch {s : Sl} {xs : List Ch} {t : Ch} (h : St E (chA s xs :: L) w) (hb : xs.length + 1 ≤ 1000000) :
    ∃ (s' : Sl) (w' : World), (Builtin.append_ #[102, 102] 102 #[.slice s.1 s.2.1 s.2.2, .slice (some ⟨w.heap.size, 0, none⟩) 1 1]).run Tryz.prog (w.alloc (.cells ⟨chV t⟩ 114)) = .ok (.slice s'.1 s'.2.1 s'.2.2) w' ∧ St E (chA s' (xs ++ [t]) :: L) w' := by
  have h2 : St E (chA (some ⟨w.heap.size, 0, none⟩, 1, 1) [t] :: chA s xs :: L) (w.alloc (.cells ⟨chV t⟩ 114)) :=
    (St.ownS_mk (xs := chV t) (rest := []) (l := 1) (c := 1) (sz := 4) (by rw [List.append_nil]; exact h.alloc _) rfl (Nat.le_refl _) (by decide) rfl :)
  have hro : RdS (w.alloc (.cells ⟨chV t⟩ 114)) (some ⟨w.heap.size, 0, none⟩) 1 4 ([t].flatMap chV) := St.rdS_own h2
  have hl : xs.length = s.2.1 := h.rdS_own.count chV_len (by decide)
  obtain ⟨a', c', w', hr, hs⟩ := append_own (P := Tryz.prog) (t := 102) (ty := 102) (e := 114) (i := Tryz.t114) (z := .agg #[.bool false, .int .i64 0, .int .i64 0, .slice none 0 0]) (by kernel_rfl) (by kernel_rfl) (by kernel_rfl) (by kernel_rfl) (by decide) (c2 := 1) h2.f1 hro (chV_one [t])
    (by have : Tryz.t114.bytes = 48 := by kernel_rfl
        rw [this]; omega) (by unfold maxLen; omega)
  rw [show Tryz.t114.size = 4 from by kernel_rfl, ← List.flatMap_append] at hs
  exact ⟨(a', s.2.1 + 1, c'), w', hr, hs.f1.drop⟩
theorem wr1 {K : Option Addr → World → Prop} {Kp : XT} {f14 : Option Addr} {b15 : Bool} {P : Option Addr → World → Prop} (key : ∀ f w, P f w → K f w) (h1 : b15 = true → P (some ⟨w.heap.size, 0, none⟩) (w.alloc (.cells ⟨fileV nilS nilS false nilS⟩ 104))) (h2 : b15 = false → P f14 w) : T_q3p f14 b15 w K Kp := by
  unfold T_q3p
  exact ite_b (fun h => key _ _ (h1 h)) fun h => key _ _ (h2 h)
def fileS (x : FR) (dp bm : Nat) (d : Dk.Ds) (m : List (Cm.Bs × Nat)) (o : List FR) (L : List Asrt) : List Asrt := blkL x.p 104 (fileV x.nw x.sr x.lasts x.ch) :: chA x.ch x.cs :: blkL dp 87 (diskV d bm) :: mapA bm encN encF m :: (filesL o ++ L)
theorem lenMap_D {bm : Nat} (h : St E (mapA bm encN encF m :: L) w) : (Builtin.len_ #[85] 3 #[.map (some bm)]).run Tryz.prog w = .ok (.int .i64 m.length) w :=
  lenMap_run (kt := 9) (et := 99) (by kernel_rfl) h _ _ rfl
def wrP (E : World) (F : Fz) (c dp bm : Nat) (d : Dk.Ds) (m : List (Cm.Bs × Nat)) (fs : List FR) (n : Cm.Bs) (L : List Asrt) (f : Option Addr) (w : World) : Prop :=
  ∃ x : FR, f = some ⟨x.p, 0, none⟩ ∧ x.name = n ∧ x.ok F ∧ x.cs.length ≤ c ∧ (Dk.find d.l n).getD (Dk.fresh n) = x.fl ∧ St E (fileS x dp bm d m (but fs n) (kn F :: L)) w ∧
    (∀ (w : World) (R : RT), St E (fileS x dp bm d m (but fs n) (kn F :: L)) w → (∀ w', St E (fileS x dp bm d m (but fs n) (kn F :: L)) w' → R (.returned (.int .i64 (Dk.used d))) w') → Calls Tryz.prog 29 #[.pointer (some ⟨dp, 0, none⟩)] w R) ∧
    (∀ w, St E (fileS x dp bm d m (but fs n) (kn F :: L)) w → St E (diskA F c dp d :: kn F :: L) w)
theorem perm_mid (A B C D : Asrt) (M L : List Asrt) : (A :: B :: C :: D :: (M ++ L)).Perm (C :: D :: (M ++ A :: B :: L)) := by
  have p1 : (C :: D :: M ++ A :: B :: L).Perm (A :: (C :: D :: M ++ B :: L)) := List.perm_middle
  have p2 : (C :: D :: M ++ B :: L).Perm (B :: (C :: D :: M ++ L)) := List.perm_middle
  exact (p1.trans (p2.cons A)).symm
theorem wr45 {KK : Bool → World → Prop} {Kp : XT} {there : Bool} {more ml T : Int} {bm : Nat} {a : Addr} {s : Sl} (hmap : rd w ((⟨dp, 0, none⟩ : Addr).add 1) (.map (some bm))) (hlen : (Builtin.len_ #[85] 3 #[.map (some bm)]).run Tryz.prog w = .ok (.int .i64 ml) w)
    (hnow : rd w a (.slice s.1 s.2.1 s.2.2)) (hw : IntKind.wrap .i64 (((s.2.1 : Nat) : Int) + more) = T) (k : KK ((!there && decide (ml ≥ 16)) || decide (T > 262144)) w) :
    T_q3s (some ⟨dp, 0, none⟩) there w (fun b48 w49 => T_q3t (some a) more b48 w49 KK Kp) Kp := by
  have five : ∀ b : Bool, KK (b || decide (T > 262144)) w → T_q3t (some a) more b w KK Kp := fun b hk => by
    unfold T_q3t
    refine ite_b (fun hb => ?_) fun hb => ?_
    · rw [hb] at hk ⊢; exact hk
    · rw [hb] at hk
      exact ⟨_, rfl, _, _, _, hnow, by rw [hw]; exact hk⟩
  unfold T_q3s
  refine ite_n (fun hb => ?_) fun hb => ?_
  · rw [hb] at k
    exact ⟨_, rfl, _, hmap, runV_ok hlen ⟨_, rfl, five _ k⟩⟩
  · rw [hb] at k
    exact five _ k
set_option maxHeartbeats 2000000 in
theorem DWrite_spec {i : Int} (I : Dk.Inv d) (hs : Src F q b) (hb : b.length ≤ 1000000000) (hc : c + 1 ≤ 1000000) (h : St E (diskA F c dp d :: kn F :: L) w)
    (k : ∀ (G : Fz) (w' : World), Fz.le F G → St E (diskA G (c + 1) dp (Dk.write d n i b).1 :: kn G :: L) w' → R (.returned (.int .i64 (Dk.write d n i b).2)) w') :
    Calls Tryz.prog 22 #[.pointer (some ⟨dp, 0, none⟩), .string (bs n), .int .i64 i, .slice q.1 q.2.1 q.2.2] w R := by
  have hU := used_le I
  have hbl := hs.len
  have less : ∀ {w' : World} {e : Int}, Dk.write d n i b = (d, e) → St E (diskA F c dp d :: kn F :: L) w' → R (.returned (.int .i64 e)) w' := fun {w' e} he h => by
    rw [he] at k
    refine k F w' (Fz.le_refl F) (h.mono fun _ ⟨bm, m, fs, ok, hx⟩ => ⟨bm, m, fs, ⟨ok.l, ok.m, ok.ok, fun x hx => Nat.le_succ_of_le (ok.few x hx)⟩, hx⟩)
  refine C_q60 ?_
  unfold T_q60
  refine ite_b (fun hh => by simp at hh) fun _ => ?_
  refine named_spec h fun w6 h6 => ⟨_, rfl, ite_n (fun hz => less ?_ h6) fun hz => ?_⟩
  · unfold Dk.write; rw [if_pos hz]
  obtain ⟨bm, m, fs, ok, h⟩ := h6.dk_open
  refine ⟨_, rfl, _, rd_fld h.at_blk rfl rfl, ?_⟩
  have hlk := lookup_ok_run (P := Tryz.prog) (t := 85) (et := 99) nameLaw (by kernel_rfl) (z := .pointer none) (by kernel_rfl) h.f1 n
  have hml : m.length = d.l.length := by rw [ok.l, List.length_map, ok.m.length_eq, List.length_map]
  have nodup := fs_nodup ok I
  have hlk2 : (Instr.lookup 85 (.map (some bm)) (.string (bs n)) true).run Tryz.prog w6 = .ok (.tuple #[.pointer ((mget m n).map fun p => ⟨p, 0, none⟩), .bool (mget m n).isSome]) w6 := by
    refine hlk.trans ?_
    cases mget m n <;> rfl
  refine runV_ok hlk2 ⟨_, _, rfl, wr1 (P := wrP E F c dp bm d m fs n L) (fun f w hP => ?_) (fun hb => ?_) fun hb => ?_⟩
  · obtain ⟨x, rfl, hxn, hxo, hxc, hxf, h, hUs, hback⟩ := hP
    have hfind : Dk.find d.l n = none ↔ (mget m n).isSome = false := by
      cases hg : mget m n with
      | none => simp [(dk_gone ok hg).1]
      | some p => obtain ⟨x, _, _, _, _, _, hfd⟩ := dk_there ok I hg; simp [hfd]
    have hxl := hxo.now.len
    have hnl : (Dk.now x.fl).length ≤ 262144 := by
      rw [← hxf]
      cases hfd : Dk.find d.l n with
      | none => exact Nat.zero_le _
      | some f => exact (Dk.okU_len (I.u f (Dk.find_some hfd).1)).2
    have hw : Dk.write d n i b = if i < 0 ∨ ((Dk.now x.fl).length : Int) < i then (d, 2) else if (Dk.find d.l n = none ∧ 16 ≤ d.l.length) ∨ (262144 : Int) < max ((Dk.now x.fl).length : Int) (i + b.length) then (d, 6)
        else if d.room < (Dk.used d : Int) - (Dk.now x.fl).length + max ((Dk.now x.fl).length : Int) (i + b.length) then (d, 9) else ({ d with l := Dk.putF d.l { x.fl with units := x.fl.units ++ Dk.wrs i.toNat b } }, 0) := by
      unfold Dk.write
      rw [if_neg (by rw [hz]; simp)]
      simp only
      rw [hxf]
    unfold T_q3q
    refine ite_d (fun h1 => ite_b (fun _ => less (by rw [hw, if_pos (.inl h1)]) (hback _ h)) fun hh => by cases hh) fun h1 => ?_
    refine ⟨_, rfl, _, _, _, rd_cell h.at_blk rfl rfl, ite_d (fun h2 => less (by rw [hw, if_pos (.inr (by have : i > ((x.nw.2.1 : Nat) : Int) := h2; omega))]) (hback _ h)) fun h2 => ?_⟩
    have h2 : ¬ i > ((x.nw.2.1 : Nat) : Int) := h2
    rw [if_neg (by omega)] at hw
    obtain ⟨j, rfl⟩ := Int.eq_ofNat_of_zero_le (show 0 ≤ i by omega)
    refine ⟨_, rfl, _, _, _, rd_cell h.at_blk rfl rfl, ?_⟩
    have emore : (if (IntKind.wrap .i64 ((IntKind.wrap .i64 ((j : Int) + ((q.2.1 : Nat) : Int)) : Int) - ((x.nw.2.1 : Nat) : Int))) > 0 then (IntKind.wrap .i64 ((IntKind.wrap .i64 ((j : Int) + ((q.2.1 : Nat) : Int)) : Int) - ((x.nw.2.1 : Nat) : Int))) else 0) = max (0 : Int) ((j : Int) + b.length - (Dk.now x.fl).length) := by
      rw [wrap_id (x := (j : Int) + ((q.2.1 : Nat) : Int)) (by omega) (by omega), wrap_id (by omega) (by omega), hbl, hxl]
      split <;> omega
    rw [emore]
    unfold T_q3r
    have emx : IntKind.wrap .i64 (((x.nw.2.1 : Nat) : Int) + max (0 : Int) ((j : Int) + b.length - (Dk.now x.fl).length)) = max ((Dk.now x.fl).length : Int) ((j : Int) + b.length) := by
      rw [wrap_id (by omega) (by omega)]; omega
    refine wr45 (there := (mget m n).isSome) (s := x.nw) (rd_fld h.f2.at_blk rfl rfl) (lenMap_D h.f3) (rd_cell h.at_blk rfl rfl) emx ?_
    have hcond : ((!(mget m n).isSome && decide ((m.length : Int) ≥ 16)) || decide (max ((Dk.now x.fl).length : Int) ((j : Int) + b.length) > 262144)) = decide ((Dk.find d.l n = none ∧ 16 ≤ d.l.length) ∨ (262144 : Int) < max ((Dk.now x.fl).length : Int) ((j : Int) + b.length)) := by
      rw [Bool.eq_iff_iff]
      simp only [Bool.or_eq_true, Bool.and_eq_true, Bool.not_eq_true', decide_eq_true_eq, hfind, hml]
      constructor
      · rintro (⟨h1, h2⟩ | h1)
        · exact .inl ⟨h1, by omega⟩
        · exact .inr h1
      · rintro (⟨h1, h2⟩ | h1)
        · exact .inl ⟨h1, by omega⟩
        · exact .inr h1
    rw [hcond]
    refine ite_d (fun h3 => less (by rw [hw, if_pos h3]) (hback _ h)) fun h3 => ?_
    rw [if_neg h3] at hw
    intro w60
    have h60 : St E (fileS x dp bm d m (but fs n) (kn F :: L)) w60 := h.drew
    clear_value w60
    refine ⟨_, rfl, _, rd_cell h60.f2.at_blk rfl rfl, ?_⟩
    refine hUs w60 _ h60 fun w64 h64 => ⟨_, rfl, ⟨rd_cell h64.f2.at_blk rfl rfl, trivial⟩, ?_⟩
    have eus : IntKind.wrap .i64 ((Dk.used d : Int) + max (0 : Int) ((j : Int) + b.length - (Dk.now x.fl).length)) = (Dk.used d : Int) - (Dk.now x.fl).length + max ((Dk.now x.fl).length : Int) ((j : Int) + b.length) := by
      rw [wrap_id (by omega) (by omega)]; omega
    rw [eus]
    refine ite_d (fun h4 => less (by rw [hw, if_pos h4]) (hback _ h64)) fun h4 => ?_
    have h4 : ¬ (d.room < (Dk.used d : Int) - (Dk.now x.fl).length + max ((Dk.now x.fl).length : Int) ((j : Int) + b.length)) := h4
    rw [if_neg h4] at hw
    have hjl : j ≤ (Dk.now x.fl).length := by omega
    refine ⟨_, rfl, _, _, _, rd_cell h64.at_blk rfl rfl, ?_⟩
    refine lay_spec (o := x.nw) hxo.now hs (by simp [fileS]) hjl (by unfold big; omega) h64 fun w73 s74 h73 => ⟨_, _, _, rfl, _, rfl, rfl, ?_⟩
    have h73' : St E (blkL x.p 104 (fileV x.nw x.sr x.lasts x.ch) :: byA s74 (Dk.lay (Dk.now x.fl) j b) :: chA x.ch x.cs :: blkL dp 87 (diskV d bm) :: mapA bm encN encF m :: (filesL (but fs n) ++ kn F :: L)) w73 := h73.f1
    refine ⟨wrOk_cell h73'.at_blk (by show 0 < 4; decide) rfl, ?_⟩
    intro w76 w77
    have h77 : St E (blkL x.p 104 (fileV s74 x.sr x.lasts x.ch) :: byA s74 (Dk.lay (Dk.now x.fl) j b) :: chA x.ch x.cs :: blkL dp 87 (diskV d bm) :: mapA bm encN encF m :: (filesL (but fs n) ++ kn F :: L)) w77 := (h73'.wr_cell rfl).drew
    clear_value w77
    refine ⟨_, rfl, _, _, _, rd_fld h77.at_blk rfl rfl, ?_⟩
    refine Clone_spec (ys := b) (fun A => hs.sees' (by simp) A) (by unfold big; omega) h77 fun w81 s82 h81 => ⟨_, _, _, rfl, ⟨rd_fld h81.f1.at_blk rfl rfl, trivial⟩, ?_⟩
    intro w83
    have h81' : St E (chA x.ch x.cs :: byA s82 b :: blkL x.p 104 (fileV s74 x.sr x.lasts x.ch) :: byA s74 (Dk.lay (Dk.now x.fl) j b) :: blkL dp 87 (diskV d bm) :: mapA bm encN encF m :: (filesL (but fs n) ++ kn F :: L)) w81 := h81.f3
    have h83 : St E _ w83 := (h81.f1).alloc (.cells ⟨chV ⟨j, b, s82⟩⟩ 114)
    refine ⟨⟨rd_fld h83.f1.at_blk rfl rfl, trivial⟩, ?_⟩
    obtain ⟨s86, w85, hr, h85⟩ := app_ch (t := ⟨j, b, s82⟩) h81' (by omega)
    refine runV_ok hr ⟨_, _, _, rfl, trivial, _, rfl, rfl, ?_⟩
    have h85' : St E (blkL x.p 104 (fileV s74 x.sr x.lasts x.ch) :: chA s86 (x.cs ++ [⟨j, b, s82⟩]) :: byA s82 b :: byA s74 (Dk.lay (Dk.now x.fl) j b) :: blkL dp 87 (diskV d bm) :: mapA bm encN encF m :: (filesL (but fs n) ++ kn F :: L)) w85 := h85.f2
    refine ⟨wrOk_fld (k := 3) h85'.at_blk (by show 3 < 4; decide) rfl, ?_⟩
    intro w88
    have h88 : St E (blkL x.p 104 (fileV s74 x.sr x.lasts s86) :: chA s86 (x.cs ++ [⟨j, b, s82⟩]) :: byA s82 b :: byA s74 (Dk.lay (Dk.now x.fl) j b) :: blkL dp 87 (diskV d bm) :: mapA bm encN encF m :: (filesL (but fs n) ++ kn F :: L)) w88 := h85'.wr_fld (k := 3) rfl
    clear_value w88
    have h88' : St E (mapA bm encN encF m :: byA s74 (Dk.lay (Dk.now x.fl) j b) :: byA s82 b :: blkL x.p 104 (fileV s74 x.sr x.lasts s86) :: chA s86 (x.cs ++ [⟨j, b, s82⟩]) :: blkL dp 87 (diskV d bm) :: (filesL (but fs n) ++ kn F :: L)) w88 := h88.sel 6 [5, 3, 2, 0, 1, 4] (by simp)
    have h88d : St E (blkL dp 87 (diskV d bm) :: (filesL (but fs n) ++ kn F :: L)) w88 := h88'.drop.drop.drop.drop.drop
    refine ⟨trivial, _, rfl, _, rd_fld h88d.at_blk rfl rfl, ?_⟩
    obtain ⟨w91, hr, h91⟩ := mapUpdate_run (P := Tryz.prog) (t := 85) (et := 99) nameLaw (by kernel_rfl) h88' n x.p
    refine runV_ok hr ?_
    have p1 : St E (byA s74 (Dk.lay (Dk.now x.fl) j b) :: kn F :: (byA s82 b :: mapA bm encN encF (mset m n x.p) :: blkL x.p 104 (fileV s74 x.sr x.lasts s86) :: chA s86 (x.cs ++ [⟨j, b, s82⟩]) :: blkL dp 87 (diskV d bm) :: (filesL (but fs n) ++ L))) w91 := by
      have h : St E (byA s74 (Dk.lay (Dk.now x.fl) j b) :: byA s82 b :: mapA bm encN encF (mset m n x.p) :: blkL x.p 104 (fileV s74 x.sr x.lasts s86) :: chA s86 (x.cs ++ [⟨j, b, s82⟩]) :: blkL dp 87 (diskV d bm) :: (filesL (but fs n) ++ kn F :: L)) w91 := h91.sel 3 [1, 2, 0] (by simp)
      exact h.perm ((List.perm_middle (l₁ := byA s82 b :: mapA bm encN encF (mset m n x.p) :: blkL x.p 104 (fileV s74 x.sr x.lasts s86) :: chA s86 (x.cs ++ [⟨j, b, s82⟩]) :: blkL dp 87 (diskV d bm) :: filesL (but fs n))).cons _)
    have hlay := Dk.lay_len (b := b) hjl
    obtain ⟨G1, hG1, p2, hs74⟩ := St.srcB2 p1 (by omega)
    obtain ⟨G2, hG2, p3, hs82⟩ := St.srcB2 p2.f1 (by omega)
    have hFG := Fz.le_trans hG1 hG2
    let x' : FR := { x with nw := s74, ch := s86, cs := x.cs ++ [⟨j, b, s82⟩] }
    have hfl : x'.fl = { x.fl with units := x.fl.units ++ Dk.wrs (j : Int).toNat b } := by
      show (⟨x.name, x.lasts, x.sure, (x.cs ++ [(⟨j, b, s82⟩ : Ch)]).flatMap fun c : Ch => Dk.wrs c.at_ c.b⟩ : Dk.Fl) = ⟨x.name, x.lasts, x.sure, x.units ++ Dk.wrs (j : Int).toNat b⟩
      rw [List.flatMap_append, Int.toNat_natCast]
      simp [FR.units]
    have hnow : Dk.now x'.fl = Dk.lay (Dk.now x.fl) j b := by
      rw [hfl]
      unfold Dk.now
      simp only
      rw [Dk.made_app, Int.toNat_natCast]
      exact Dk.made_wrs b _ j hjl
    have hok' : x'.ok G2 := ⟨by rw [hnow]; exact hs74.mono hG2, hxo.sure.mono hFG, fun t ht => by
      rcases List.mem_append.1 ht with ht | ht
      · exact (hxo.cs t ht).mono hFG
      · rw [List.mem_singleton.1 ht]; exact hs82⟩
    have p4 : St E (blkL x'.p 104 (fileV x'.nw x'.sr x'.lasts x'.ch) :: ownS x'.ch.1 x'.ch.2.1 x'.ch.2.2 114 4 (x'.cs.flatMap chV) :: blkL dp 87 (diskV d bm) :: mapA bm encN encF (mset m n x.p) :: (filesL ([] ++ but fs n) ++ kn G2 :: L)) w91 := by
      have h : St E (blkL x.p 104 (fileV s74 x.sr x.lasts s86) :: chA s86 (x.cs ++ [⟨j, b, s82⟩]) :: blkL dp 87 (diskV d bm) :: mapA bm encN encF (mset m n x.p) :: kn G2 :: (filesL (but fs n) ++ L)) w91 := p3.sel 5 [2, 3, 4, 1, 0] (by simp)
      exact h.perm (((((List.perm_middle (l₁ := filesL (but fs n))).symm.cons _).cons _).cons _).cons _)
    have p5 := p4.file_in
    have p6 : St E (blkL dp 87 (diskV d bm) :: mapA bm encN encF (mset m n x.p) :: (filesL (Cm.put lt7 fs x') ++ kn G2 :: L)) w91 := St.files_perm p5 (by
      have := fput_perm (fs := fs) x'
      rw [show x'.name = n from hxn] at this
      exact this.symm)
    have dkp := dk_put ok I hok' hFG d.room (c2 := c + 1) (by show (x.cs ++ [_]).length ≤ c + 1; simp; exact hxc) (Nat.le_succ c)
    rw [show x'.name = n from hxn] at dkp
    rw [hw, ← hfl] at k
    exact k G2 w91 hFG (St.dk_mk dkp p6)
  · have hg : mget m n = none := by
      cases hg : mget m n with
      | none => rfl
      | some p => rw [hg] at hb; cases hb
    obtain ⟨hfd, hne⟩ := dk_gone ok hg
    have hbn : but fs n = fs := but_none hne
    have hsrc : Src F nilS [] := ⟨RdF.nil F none, rfl, Nat.le_refl _, Nat.zero_le _⟩
    have hnil : St E (chA nilS [] :: blkL dp 87 (diskV d bm) :: mapA bm encN encF m :: (filesL fs ++ kn F :: L)) w6 := h.ownS_nil
    refine ⟨⟨w6.heap.size, n, false, nilS, nilS, [], nilS, []⟩, rfl, rfl, ⟨hsrc, hsrc, fun _ h => by cases h⟩, Nat.zero_le _, by rw [hfd]; rfl, ?_, fun w R h k => ?_, fun w h => ?_⟩
    · rw [hbn]
      exact hnil.alloc (.cells ⟨fileV nilS nilS false nilS⟩ 104)
    · rw [hbn] at h k
      exact Used_open ok I (h.perm (perm_mid ..)) fun w' h' => k w' (h'.perm (perm_mid ..).symm)
    · rw [hbn] at h
      exact St.dk_mk ok h.drop.drop
  · cases hg : mget m n with
    | none => rw [hg] at hb; cases hb
    | some p =>
      obtain ⟨x, l1, l2, hf, hx1, hx2, hfd⟩ := dk_there ok I hg
      have hbn : but fs n = l1 ++ l2 := by rw [hf, ← hx1]; exact but_mid (hf ▸ nodup)
      subst hf
      refine ⟨x, by rw [hx2]; rfl, hx1, ok.ok x (by simp), ok.few x (by simp), by rw [hfd]; rfl, ?_, fun w R h k => ?_, fun w h => ?_⟩
      · rw [hbn]
        exact h.file_out
      · rw [hbn] at h k
        exact Used_open ok I (St.file_in h) fun w' h' => k w' h'.file_out
      · rw [hbn] at h
        exact St.dk_mk ok (St.file_in h)
end
end Go.Vc
namespace Go.Vc
open Go Go.Proofs Go.Proofs.YtclinifclfahfaaGreat
set_option maxRecDepth 100000
section
variable {E w : World} {L : List Asrt} {R : RT} {F G : Fz} {q s : Sl} {b : Cm.Bs} {dp c : Nat} {d : Dk.Ds} {m : List (Cm.Bs × Nat)} {fs : List FR} {n : Cm.Bs}
theorem dk_set {l1 l2 : List FR} {x y : FR} (ok : dkOk F c d m (l1 ++ x :: l2)) (I : Dk.Inv d) (hy : y.ok G) (hn : y.name = x.name) (hp : y.p = x.p) (k : Fz.le F G) (room : Int) {c2 : Nat} (hc : y.cs.length ≤ c2) (hcc : c ≤ c2) :
    dkOk G c2 ⟨room, Dk.putF d.l y.fl⟩ m (Cm.put lt7 (l1 ++ x :: l2) y) where
  l := (dk_put ok I hy k room hc hcc).l
  m := by
    have hb : but (l1 ++ x :: l2) y.name = l1 ++ l2 := by rw [hn]; exact but_mid (fs_nodup ok I)
    have h1 := ok.m
    rw [List.map_append, List.map_cons] at h1
    refine h1.trans (List.perm_middle.trans ?_)
    refine .trans ?_ ((fput_perm y).map fun x => (x.name, x.p)).symm
    rw [hb, List.map_cons, List.map_append, hn, hp]
  ok := (dk_put ok I hy k room hc hcc).ok
  few := (dk_put ok I hy k room hc hcc).few
theorem with_spec {g : FuncId} {gi gc : Array Value} (hb : hasBody Tryz.prog g = true) (I : Dk.Inv d) (h : St E (diskA F c dp d :: kn F :: L) w)
    (kN : ∀ w', Dk.find d.l n = none → St E (diskA F c dp d :: kn F :: L) w' → R (.returned (.int .i64 8)) w')
    (kS : ∀ (w' : World) (bm : Nat) (m : List (Cm.Bs × Nat)) (l1 l2 : List FR) (x : FR), Dk.find d.l n = some x.fl → x.name = n → dkOk F c d m (l1 ++ x :: l2) → St E (fileS x dp bm d m (l1 ++ l2) (kn F :: L)) w' →
      Calls Tryz.prog g ⟨gi.toList ++ ([.pointer (some ⟨x.p, 0, none⟩)] ++ gc.toList)⟩ w' (ret (fun r10 w11 => ∃ x12 : Int, r10 = .int .i64 x12 ∧ R (.returned (.int .i64 x12)) w11) (pan R))) :
    Calls Tryz.prog 93 #[.pointer (some ⟨dp, 0, none⟩), .string (bs n), .func (.func g) gi gc] w R := by
  obtain ⟨bm, m, fs, ok, h⟩ := h.dk_open
  refine C_q6w ?_
  unfold T_q6w
  refine ite_b (fun hh => by simp at hh) fun _ => ?_
  refine ⟨_, rfl, _, rd_fld h.at_blk rfl rfl, ?_⟩
  have hlk := lookup_ok_run (P := Tryz.prog) (t := 85) (et := 99) nameLaw (by kernel_rfl) (z := .pointer none) (by kernel_rfl) h.f1 n
  have hlk2 : (Instr.lookup 85 (.map (some bm)) (.string (bs n)) true).run Tryz.prog w = .ok (.tuple #[.pointer ((mget m n).map fun p => ⟨p, 0, none⟩), .bool (mget m n).isSome]) w := by
    refine hlk.trans ?_
    cases mget m n <;> rfl
  refine runV_ok hlk2 ⟨_, _, rfl, ?_⟩
  cases hg : mget m n with
  | none => exact kN w (dk_gone ok hg).1 (St.dk_mk ok h)
  | some p =>
    obtain ⟨x, l1, l2, hf, hx1, hx2, hfd⟩ := dk_there ok I hg
    subst hf hx2
    exact ⟨hb, kS w bm m l1 l2 x hfd hx1 ok h.file_out⟩
theorem body_sync1 : hasBody Tryz.prog 95 = true := by kernel_rfl
set_option maxHeartbeats 1000000 in
theorem DSync_spec (I : Dk.Inv d) (h : St E (diskA F c dp d :: kn F :: L) w)
    (k : ∀ (G : Fz) (w' : World), Fz.le F G → St E (diskA G c dp (Dk.sync d n).1 :: kn G :: L) w' → R (.returned (.int .i64 (Dk.sync d n).2)) w') :
    Calls Tryz.prog 57 #[.pointer (some ⟨dp, 0, none⟩), .string (bs n)] w R := by
  refine C_q6u ?_
  unfold T_q6u
  refine with_spec body_sync1 I h (fun w' hfd h => ⟨_, rfl, ?_⟩) fun w' bm m l1 l2 x hfd hxn ok h => ?_
  · have e : Dk.sync d n = (d, 8) := by unfold Dk.sync; rw [hfd]
    rw [e] at k
    exact k F w' (Fz.le_refl F) h
  have e : Dk.sync d n = ({ d with l := Dk.putF d.l ⟨n, true, Dk.now x.fl, []⟩ }, 0) := by unfold Dk.sync; rw [hfd]
  rw [e] at k
  have hxo : x.ok F := ok.ok x (by simp)
  have hnl : (Dk.now x.fl).length ≤ 262144 := (Dk.okU_len (I.u x.fl (Dk.find_some hfd).1)).2
  refine C_q3o ?_
  unfold T_q3o
  refine ⟨_, rfl, _, _, _, rd_cell h.at_blk rfl rfl, ?_⟩
  refine Clone_spec (s := x.nw) (ys := Dk.now x.fl) (fun A => hxo.now.sees' (by simp [fileS]) A) (by unfold big; omega) h fun w5 s6 h5 => ⟨_, _, _, rfl, _, rfl, rfl, ?_⟩
  have h5' : St E (blkL x.p 104 (fileV x.nw x.sr x.lasts x.ch) :: byA s6 (Dk.now x.fl) :: chA x.ch x.cs :: blkL dp 87 (diskV d bm) :: mapA bm encN encF m :: (filesL (l1 ++ l2) ++ kn F :: L)) w5 := h5.f1
  refine ⟨wrOk_fld (k := 1) h5'.at_blk (by show 1 < 4; decide) rfl, ?_⟩
  intro w8
  have h8 : St E (blkL x.p 104 (fileV x.nw s6 x.lasts x.ch) :: byA s6 (Dk.now x.fl) :: chA x.ch x.cs :: blkL dp 87 (diskV d bm) :: mapA bm encN encF m :: (filesL (l1 ++ l2) ++ kn F :: L)) w8 := h5'.wr_fld (k := 1) rfl
  clear_value w8
  refine ⟨_, rfl, rfl, wrOk_fld (k := 2) h8.at_blk (by show 2 < 4; decide) rfl, ?_⟩
  intro w10
  have h10 : St E (blkL x.p 104 (fileV x.nw s6 true x.ch) :: byA s6 (Dk.now x.fl) :: chA x.ch x.cs :: blkL dp 87 (diskV d bm) :: mapA bm encN encF m :: (filesL (l1 ++ l2) ++ kn F :: L)) w10 := h8.wr_fld (k := 2) rfl
  clear_value w10
  refine ⟨_, rfl, rfl, wrOk_fld (k := 3) h10.at_blk (by show 3 < 4; decide) rfl, ?_⟩
  intro w12
  have h12 : St E (blkL x.p 104 (fileV x.nw s6 true nilS) :: byA s6 (Dk.now x.fl) :: chA x.ch x.cs :: blkL dp 87 (diskV d bm) :: mapA bm encN encF m :: (filesL (l1 ++ l2) ++ kn F :: L)) w12 := h10.wr_fld (k := 3) rfl
  clear_value w12
  have h13 : St E (byA s6 (Dk.now x.fl) :: blkL x.p 104 (fileV x.nw s6 true nilS) :: blkL dp 87 (diskV d bm) :: mapA bm encN encF m :: (filesL (l1 ++ l2) ++ kn F :: L)) w12 := h12.sel 5 [1, 0, 3, 4] (by simp)
  have p1 : St E (byA s6 (Dk.now x.fl) :: kn F :: (blkL x.p 104 (fileV x.nw s6 true nilS) :: blkL dp 87 (diskV d bm) :: mapA bm encN encF m :: (filesL (l1 ++ l2) ++ L))) w12 :=
    h13.perm ((List.perm_middle (l₁ := blkL x.p 104 (fileV x.nw s6 true nilS) :: blkL dp 87 (diskV d bm) :: mapA bm encN encF m :: filesL (l1 ++ l2))).cons _)
  obtain ⟨G1, hG1, p2, hs6⟩ := St.srcB2 p1 (by omega)
  let y : FR := { x with sr := s6, sure := Dk.now x.fl, lasts := true, ch := nilS, cs := [] }
  have hy : y.ok G1 := ⟨hxo.now.mono hG1, hs6, fun t ht => by cases ht⟩
  have hyf : y.fl = ⟨n, true, Dk.now x.fl, []⟩ := by rw [← hxn]; rfl
  have p3 : St E (chA nilS [] :: kn G1 :: (blkL x.p 104 (fileV x.nw s6 true nilS) :: blkL dp 87 (diskV d bm) :: mapA bm encN encF m :: (filesL (l1 ++ l2) ++ L))) w12 := p2.ownS_nil
  have p4 : St E (blkL y.p 104 (fileV y.nw y.sr y.lasts y.ch) :: ownS y.ch.1 y.ch.2.1 y.ch.2.2 114 4 (y.cs.flatMap chV) :: blkL dp 87 (diskV d bm) :: mapA bm encN encF m :: (filesL ([] ++ (l1 ++ l2)) ++ kn G1 :: L)) w12 := by
    have h : St E (blkL x.p 104 (fileV x.nw s6 true nilS) :: chA nilS [] :: blkL dp 87 (diskV d bm) :: mapA bm encN encF m :: kn G1 :: (filesL (l1 ++ l2) ++ L)) w12 := p3.sel 5 [2, 0, 3, 4, 1] (by simp)
    exact h.perm (((((List.perm_middle (l₁ := filesL (l1 ++ l2))).symm.cons _).cons _).cons _).cons _)
  have p6 : St E (blkL dp 87 (diskV d bm) :: mapA bm encN encF m :: (filesL (Cm.put lt7 (l1 ++ x :: l2) y) ++ kn G1 :: L)) w12 := St.files_perm p4.file_in (by
    have := fput_perm (fs := l1 ++ x :: l2) y
    rw [show but (l1 ++ x :: l2) y.name = l1 ++ l2 from but_mid (fs_nodup ok I)] at this
    exact this.symm)
  have dkp := dk_set ok I hy rfl rfl hG1 d.room (c2 := c) (Nat.zero_le _) (Nat.le_refl c)
  rw [hyf] at dkp
  exact ⟨_, rfl, _, rfl, k G1 w12 hG1 (St.dk_mk dkp p6)⟩
end
end Go.Vc
namespace Go.Vc
open Go Go.Proofs Go.Proofs.YtclinifclfahfaaGreat
set_option maxRecDepth 100000
section
variable {E w : World} {L : List Asrt} {R : RT} {F G : Fz} {q s : Sl} {b : Cm.Bs} {dp c : Nat} {d : Dk.Ds} {m : List (Cm.Bs × Nat)} {fs : List FR} {n : Cm.Bs}
theorem body_remove1 : hasBody Tryz.prog 94 = true := by kernel_rfl
theorem St.behind {M : List Asrt} (h : St E (M ++ L) w) : St E L w := St.sub h (List.sublist_append_right ..)
theorem delete_D {bm : Nat} (h : St E (mapA bm encN encF m :: L) w) (n : Cm.Bs) : ∃ w', (Builtin.delete_ #[85, 9] 0 #[.map (some bm), .string (bs n)]).run Tryz.prog w = .ok (.tuple #[]) w' ∧ St E (mapA bm encN encF (mdel m n) :: L) w' :=
  delete_run (P := Tryz.prog) (t := 85) (et := 99) nameLaw (by kernel_rfl) h n _ _ rfl
theorem DRemove_spec (I : Dk.Inv d) (h : St E (diskA F c dp d :: kn F :: L) w)
    (k : ∀ (w' : World), St E (diskA F c dp (Dk.remove d n).1 :: kn F :: L) w' → R (.returned (.int .i64 (Dk.remove d n).2)) w') :
    Calls Tryz.prog 56 #[.pointer (some ⟨dp, 0, none⟩), .string (bs n)] w R := by
  refine C_q4x ?_
  unfold T_q4x
  intro w3 w4
  have h4 : St E (blkL w3.heap.size 9 [.string (bs n)] :: blkL w.heap.size 42 [.pointer (some ⟨dp, 0, none⟩)] :: diskA F c dp d :: kn F :: L) w4 := (h.alloc (.cells ⟨[.pointer (some ⟨dp, 0, none⟩)]⟩ 42)).alloc (.cells ⟨[.string (bs n)]⟩ 9)
  clear_value w4
  generalize w3.heap.size = b2 at *
  generalize w.heap.size = b1 at *
  refine ⟨_, rd_cell h4.f1.at_blk rfl rfl, _, rd_cell h4.at_blk rfl rfl, ?_⟩
  have h5 : St E (diskA F c dp d :: kn F :: blkL b2 9 [.string (bs n)] :: blkL b1 42 [.pointer (some ⟨dp, 0, none⟩)] :: L) w4 := h4.sel 4 [2, 3, 0, 1] (by simp)
  refine with_spec (L := blkL b2 9 [.string (bs n)] :: blkL b1 42 [.pointer (some ⟨dp, 0, none⟩)] :: L) body_remove1 I h5 (fun w' hfd h => ⟨_, rfl, ?_⟩) fun w' bm m l1 l2 x hfd hxn ok h => ?_
  · have e : Dk.remove d n = (d, 8) := by unfold Dk.remove; rw [hfd]
    rw [e] at k
    exact k w' (h.sel 4 [0, 1] (by simp))
  have e : Dk.remove d n = ({ d with l := Dk.without d.l n }, 0) := by unfold Dk.remove; rw [hfd]
  rw [e] at k
  refine C_q2e ?_
  unfold T_q2e
  intro w4
  have h6 : St E (mapA bm encN encF m :: blkL dp 87 (diskV d bm) :: (filesL (l1 ++ l2) ++ kn F :: blkL b2 9 [.string (bs n)] :: blkL b1 42 [.pointer (some ⟨dp, 0, none⟩)] :: L)) w4 := h.drop.drop.f1.drew
  clear_value w4
  have c1 : ∀ {m' : List (Cm.Bs × Nat)} {w : World}, St E (mapA bm encN encF m' :: blkL dp 87 (diskV d bm) :: (filesL (l1 ++ l2) ++ kn F :: blkL b2 9 [.string (bs n)] :: blkL b1 42 [.pointer (some ⟨dp, 0, none⟩)] :: L)) w → rd w ⟨b1, 0, none⟩ (.pointer (some ⟨dp, 0, none⟩)) ∧ rd w ⟨b2, 0, none⟩ (.string (bs n)) := fun h => by
    have h1 := h.drop.drop.behind
    exact ⟨rd_cell h1.f2.at_blk rfl rfl, rd_cell h1.f1.at_blk rfl rfl⟩
  refine ⟨_, (c1 h6).1, _, rfl, _, rd_fld h6.f1.at_blk rfl rfl, _, (c1 h6).2, ?_⟩
  obtain ⟨w10, hr, h10⟩ := delete_D h6 n
  refine runV_ok hr ⟨⟨(c1 h10).1, trivial⟩, _, rfl, _, rfl, ?_⟩
  have dkp := dk_del (n := n) ok I d.room
  have hb : but (l1 ++ x :: l2) n = l1 ++ l2 := by rw [← hxn]; exact but_mid (fs_nodup ok I)
  rw [hb] at dkp
  have p := St.dk_mk (d := ⟨d.room, Dk.without d.l n⟩) dkp (show St E (blkL dp 87 (diskV ⟨d.room, Dk.without d.l n⟩ bm) :: mapA bm encN encF (mdel m n) :: (filesL (l1 ++ l2) ++ kn F :: blkL b2 9 [.string (bs n)] :: blkL b1 42 [.pointer (some ⟨dp, 0, none⟩)] :: L)) w10 from h10.f1)
  exact k w10 (p.sel 4 [0, 1] (by simp))
end
end Go.Vc
namespace Go.Vc
open Go Go.Proofs Go.Proofs.YtclinifclfahfaaGreat
set_option maxRecDepth 100000
section
variable {E w : World} {L : List Asrt} {R : RT} {F G : Fz} {q s : Sl} {b : Cm.Bs} {dp c : Nat} {d : Dk.Ds} {m : List (Cm.Bs × Nat)} {fs : List FR} {n : Cm.Bs}
theorem body_read1 : hasBody Tryz.prog 100 = true := by kernel_rfl
theorem DRead_spec (I : Dk.Inv d) (h : St E (diskA F c dp d :: kn F :: L) w)
    (k : ∀ (w' : World) (o : Sl), St E (byA o (Dk.read d n).1 :: diskA F c dp d :: kn F :: L) w' → R (.returned (.tuple #[.slice o.1 o.2.1 o.2.2, .int .i64 (Dk.read d n).2])) w') :
    Calls Tryz.prog 75 #[.pointer (some ⟨dp, 0, none⟩), .string (bs n)] w R := by
  refine C_q6t ?_
  unfold T_q6t
  intro w3
  have h3 : St E (blkL w.heap.size 27 [.slice none 0 0] :: diskA F c dp d :: kn F :: L) w3 := h.alloc (.cells ⟨[.slice none 0 0]⟩ 27)
  clear_value w3
  generalize w.heap.size = b1 at *
  have h4 : St E (diskA F c dp d :: kn F :: blkL b1 27 [.slice none 0 0] :: L) w3 := h3.sel 3 [1, 2, 0] (by simp)
  have fin : ∀ {w : World} {o : Sl}, St E (blkL b1 27 [.slice o.1 o.2.1 o.2.2] :: byA o (Dk.read d n).1 :: diskA F c dp d :: kn F :: L) w → ∃ (s7a : Option Addr) (s7l s7c : Nat), rd w ⟨b1, 0, none⟩ (.slice s7a s7l s7c) ∧ (.slice s7a s7l s7c : Value).cells.size = 1 ∧ wrOk w ⟨b1, 0, none⟩ (.slice s7a s7l s7c) ∧
      ∃ (s9a : Option Addr) (s9l s9c : Nat), rd (wr w ⟨b1, 0, none⟩ (.slice s7a s7l s7c)) ⟨b1, 0, none⟩ (.slice s9a s9l s9c) ∧ R (.returned (.tuple #[.slice s9a s9l s9c, .int .i64 (Dk.read d n).2])) (wr w ⟨b1, 0, none⟩ (.slice s7a s7l s7c)) := fun {w o} h => by
    have h2 : St E (blkL b1 27 [.slice o.1 o.2.1 o.2.2] :: byA o (Dk.read d n).1 :: diskA F c dp d :: kn F :: L) (wr w ⟨b1, 0, none⟩ (.slice o.1 o.2.1 o.2.2)) := h.wr_cell rfl
    exact ⟨_, _, _, rd_cell h.at_blk rfl rfl, rfl, wrOk_cell h.at_blk (by show 0 < 1; decide) rfl, _, _, _, rd_cell h2.at_blk rfl rfl, k _ o h2.drop⟩
  refine with_spec (L := blkL b1 27 [.slice none 0 0] :: L) body_read1 I h4 (fun w' hfd h => ⟨_, rfl, ?_⟩) fun w' bm m l1 l2 x hfd hxn ok h => ?_
  · have e : Dk.read d n = ([], 8) := by unfold Dk.read; rw [hfd]
    rw [e] at fin
    have h5 : St E (byA nilS [] :: diskA F c dp d :: kn F :: blkL b1 27 [.slice none 0 0] :: L) w' := h.by_nil
    exact fin (o := nilS) (h5.sel 4 [3, 0, 1, 2] (by simp))
  have e : Dk.read d n = (Dk.now x.fl, 0) := by unfold Dk.read; rw [hfd]
  rw [e] at fin
  have hxo : x.ok F := ok.ok x (by simp)
  have hnl : (Dk.now x.fl).length ≤ 262144 := (Dk.okU_len (I.u x.fl (Dk.find_some hfd).1)).2
  have hl := hxo.now.len
  have hcap := hxo.now.cap
  refine C_q3n ?_
  unfold T_q3n
  intro w4
  have h6 : St E (fileS x dp bm d m (l1 ++ l2) (kn F :: blkL b1 27 [.slice none 0 0] :: L)) w4 := h.drew
  clear_value w4
  refine ⟨_, rfl, _, _, _, rd_cell h6.at_blk rfl rfl, _, rfl, _, _, _, rd_cell h6.at_blk rfl rfl, _, rfl, _, _, _, rd_cell h6.at_blk rfl rfl, by omega, by omega, by omega, by omega, ?_⟩
  have hf : Src F ((if x.nw.2.1 = 0 then x.nw.1 else x.nw.1.map fun x => x.add (0 * 1)), x.nw.2.1 - 0, x.nw.2.1 - 0) (Dk.now x.fl) := by
    have := hxo.now.rd.sub (lo := 0) (hi := x.nw.2.1) (Nat.zero_le _) (Nat.le_refl _) x.nw.2.1 (Nat.le_refl _)
    have e : ((bytesV (Dk.now x.fl)).drop (0 * 1)).take ((x.nw.2.1 - 0) * 1) = bytesV (Dk.now x.fl) := by
      rw [Nat.zero_mul, List.drop_zero, List.take_of_length_le (by rw [bytesV_len]; omega)]
    rw [e] at this
    exact ⟨this, by simp; omega, Nat.le_refl _, hxo.now.big⟩
  refine Clone_spec (s := ((if x.nw.2.1 = 0 then x.nw.1 else x.nw.1.map fun x => x.add (0 * 1)), x.nw.2.1 - 0, x.nw.2.1 - 0)) (ys := Dk.now x.fl) (fun A => hf.sees' (by simp [fileS]) A) (by unfold big; omega) h6 fun w11 o h11 => ⟨_, _, _, rfl, trivial, rfl, ?_⟩
  have p1 : St E (blkL b1 27 [.slice none 0 0] :: byA o (Dk.now x.fl) :: blkL x.p 104 (fileV x.nw x.sr x.lasts x.ch) :: chA x.ch x.cs :: blkL dp 87 (diskV d bm) :: mapA bm encN encF m :: (filesL (l1 ++ l2) ++ kn F :: L)) w11 := by
    have p : (byA o (Dk.now x.fl) :: blkL x.p 104 (fileV x.nw x.sr x.lasts x.ch) :: chA x.ch x.cs :: blkL dp 87 (diskV d bm) :: mapA bm encN encF m :: filesL (l1 ++ l2) ++ [kn F] ++ blkL b1 27 [.slice none 0 0] :: L).Perm (blkL b1 27 [.slice none 0 0] :: (byA o (Dk.now x.fl) :: blkL x.p 104 (fileV x.nw x.sr x.lasts x.ch) :: chA x.ch x.cs :: blkL dp 87 (diskV d bm) :: mapA bm encN encF m :: filesL (l1 ++ l2) ++ [kn F] ++ L)) := List.perm_middle
    have h : St E (byA o (Dk.now x.fl) :: blkL x.p 104 (fileV x.nw x.sr x.lasts x.ch) :: chA x.ch x.cs :: blkL dp 87 (diskV d bm) :: mapA bm encN encF m :: filesL (l1 ++ l2) ++ [kn F] ++ blkL b1 27 [.slice none 0 0] :: L) w11 := by
      rw [List.append_assoc]; exact h11
    have h2 := h.perm p
    rw [List.append_assoc] at h2
    exact h2
  refine ⟨wrOk_cell p1.at_blk (by show 0 < 1; decide) rfl, trivial, _, rfl, ?_⟩
  have p2 : St E (blkL b1 27 [.slice o.1 o.2.1 o.2.2] :: byA o (Dk.now x.fl) :: blkL x.p 104 (fileV x.nw x.sr x.lasts x.ch) :: chA x.ch x.cs :: blkL dp 87 (diskV d bm) :: mapA bm encN encF m :: (filesL (l1 ++ l2) ++ kn F :: L)) (wr w11 ⟨b1, 0, none⟩ (.slice o.1 o.2.1 o.2.2)) := p1.wr_cell rfl
  have p3 : St E (blkL x.p 104 (fileV x.nw x.sr x.lasts x.ch) :: chA x.ch x.cs :: blkL dp 87 (diskV d bm) :: mapA bm encN encF m :: (filesL (l1 ++ l2) ++ blkL b1 27 [.slice o.1 o.2.1 o.2.2] :: byA o (Dk.now x.fl) :: kn F :: L)) (wr w11 ⟨b1, 0, none⟩ (.slice o.1 o.2.1 o.2.2)) := by
    have h : St E (blkL b1 27 [.slice o.1 o.2.1 o.2.2] :: byA o (Dk.now x.fl) :: (blkL x.p 104 (fileV x.nw x.sr x.lasts x.ch) :: chA x.ch x.cs :: (blkL dp 87 (diskV d bm) :: mapA bm encN encF m :: filesL (l1 ++ l2)) ++ kn F :: L)) (wr w11 ⟨b1, 0, none⟩ (.slice o.1 o.2.1 o.2.2)) := p2
    exact h.perm (perm_mid _ _ _ _ _ _)
  have p4 := St.dk_mk ok (St.file_in p3)
  exact ⟨_, rfl, fin (o := o) (p4.sel 3 [1, 2, 0] (by simp))⟩
end
end Go.Vc
namespace Go.Vc
open Go Go.Proofs Go.Proofs.YtclinifclfahfaaGreat
set_option maxRecDepth 100000
section
variable {E w : World} {L : List Asrt} {R : RT} {F G : Fz} {q s : Sl} {b : Cm.Bs} {dp c : Nat} {d : Dk.Ds} {m : List (Cm.Bs × Nat)} {fs : List FR} {n : Cm.Bs}
theorem ren_perm {κ ν : Type} [DecidableEq κ] {m : List (κ × ν)} {a b : κ} {p : ν} (h : (m.map (·.1)).Nodup) (hab : a ≠ b) : (mdel (mset m b p) a).Perm (mset (mdel m a) b p) := by
  rw [mdel_filter a (nodup_mset h b p)]
  refine ((mset_perm b p h).filter _).trans ?_
  refine .trans ?_ (mset_perm b p (nodup_mdel h a)).symm
  rw [List.filter_cons, if_pos (by simp; exact fun e => hab e.symm), mdel_filter a h, List.filter_filter, List.filter_filter]
  refine List.Perm.cons _ (List.Perm.of_eq ?_)
  congr 1
  funext x
  exact Bool.and_comm ..
theorem dk_ren {l1 l2 : List FR} {x : FR} (ok : dkOk F c d m (l1 ++ x :: l2)) (I : Dk.Inv d) (hab : x.name ≠ n) :
    dkOk F c ⟨d.room, Dk.putF (Dk.without d.l x.name) { x.fl with name := n }⟩ (mdel (mset m n x.p) x.name) (Cm.put lt7 (l1 ++ l2) { x with name := n }) := by
  have h1 := dk_del (n := x.name) ok I d.room
  rw [but_mid (fs_nodup ok I)] at h1
  have hxo := ok.ok x (by simp)
  have I2 : Dk.Inv ⟨d.room, Dk.without d.l x.name⟩ := I.filter _
  have h2 := dk_put (x := { x with name := n }) h1 I2 (G := F) ⟨hxo.now, hxo.sure, hxo.cs⟩ (Fz.le_refl F) d.room (c2 := c) (ok.few x (by simp)) (Nat.le_refl c)
  exact ⟨h2.l, (ren_perm (keys_nodup ok I) hab).trans h2.m, h2.ok, h2.few⟩
theorem filesL_sub {f1 f2 : List FR} (h : f1.Sublist f2) : (filesL f1).Sublist (filesL f2) := by
  induction h with
  | slnil => exact .slnil
  | cons a _ ih => exact ih.trans (List.sublist_append_right ..)
  | cons_cons a _ ih => exact ih.append_left _
theorem body_ren1 : hasBody Tryz.prog 96 = true := by kernel_rfl
theorem DRename_spec {a b : Cm.Bs} (I : Dk.Inv d) (h : St E (diskA F c dp d :: kn F :: L) w)
    (k : ∀ (w' : World), St E (diskA F c dp (Dk.rename d a b).1 :: kn F :: L) w' → R (.returned (.int .i64 (Dk.rename d a b).2)) w') :
    Calls Tryz.prog 58 #[.pointer (some ⟨dp, 0, none⟩), .string (bs a), .string (bs b)] w R := by
  refine C_q4y ?_
  unfold T_q4y
  intro w4 w5 w6
  have h6 : St E (blkL w5.heap.size 9 [.string (bs b)] :: blkL w4.heap.size 9 [.string (bs a)] :: blkL w.heap.size 42 [.pointer (some ⟨dp, 0, none⟩)] :: diskA F c dp d :: kn F :: L) w6 := ((h.alloc (.cells ⟨[.pointer (some ⟨dp, 0, none⟩)]⟩ 42)).alloc (.cells ⟨[.string (bs a)]⟩ 9)).alloc (.cells ⟨[.string (bs b)]⟩ 9)
  clear_value w6
  generalize w5.heap.size = b3 at *
  generalize w4.heap.size = b2 at *
  generalize w.heap.size = b1 at *
  refine ⟨_, rd_cell h6.f2.at_blk rfl rfl, _, rd_cell h6.f1.at_blk rfl rfl, ?_⟩
  let L1 : List Asrt := blkL b3 9 [.string (bs b)] :: blkL b2 9 [.string (bs a)] :: blkL b1 42 [.pointer (some ⟨dp, 0, none⟩)] :: L
  have h5 : St E (diskA F c dp d :: kn F :: L1) w6 := h6.sel 5 [3, 4, 0, 1, 2] (by simp)
  have out : ∀ {d' : Dk.Ds} {w : World}, St E (diskA F c dp d' :: kn F :: L1) w → St E (diskA F c dp d' :: kn F :: L) w := fun h => h.sel 5 [0, 1] (by simp [L1])
  refine with_spec (L := L1) body_ren1 I h5 (fun w' hfd h => ⟨_, rfl, ?_⟩) fun w' bm m l1 l2 x hfd hxn ok h => ?_
  · have e : Dk.rename d a b = (d, 8) := by unfold Dk.rename; rw [hfd]
    rw [e] at k
    exact k w' (out h)
  have e : Dk.rename d a b = if Dk.named b = false then (d, 14) else if a = b then (d, 0) else ({ d with l := Dk.putF (Dk.without d.l a) { x.fl with name := b } }, 0) := by unfold Dk.rename; rw [hfd]
  have caps : ∀ {M : List Asrt} {w : World}, St E (M ++ kn F :: L1) w → rd w ⟨b1, 0, none⟩ (.pointer (some ⟨dp, 0, none⟩)) ∧ rd w ⟨b2, 0, none⟩ (.string (bs a)) ∧ rd w ⟨b3, 0, none⟩ (.string (bs b)) := fun h => by
    have h1 : St E (blkL b3 9 [.string (bs b)] :: blkL b2 9 [.string (bs a)] :: blkL b1 42 [.pointer (some ⟨dp, 0, none⟩)] :: L) _ := h.behind.drop
    exact ⟨rd_cell h1.f2.at_blk rfl rfl, rd_cell h1.f1.at_blk rfl rfl, rd_cell h1.at_blk rfl rfl⟩
  have same : ∀ {w : World}, St E (fileS x dp bm d m (l1 ++ l2) (kn F :: L1)) w → St E (diskA F c dp d :: kn F :: L) w := fun h => out (St.dk_mk ok (St.file_in h))
  refine C_q2f ?_
  unfold T_q2f
  have c0 := caps h.drop.drop.drop.drop
  refine ⟨_, c0.2.2, ?_⟩
  refine named_spec h fun w7 h7 => ⟨_, rfl, ite_n (fun hz => ?_) fun hz => ?_⟩
  · rw [if_pos hz] at e
    rw [e] at k
    exact ⟨_, rfl, _, rfl, k w7 (same h7)⟩
  rw [if_neg (by rw [hz]; simp)] at e
  have c7 := caps h7.drop.drop.drop.drop
  refine ⟨_, c7.2.1, _, c7.2.2, ?_⟩
  rw [bs_beq]
  by_cases hab : a = b
  · rw [if_pos hab] at e
    rw [e] at k
    refine ite_n (fun hh => absurd hab (of_decide_eq_false hh)) fun _ => ⟨_, rfl, _, rfl, k w7 (same h7)⟩
  rw [if_neg hab] at e
  rw [e] at k
  refine ite_n (fun _ => ?_) fun hh => absurd (of_decide_eq_true hh) hab
  intro w11
  have h11 : St E (mapA bm encN encF m :: blkL dp 87 (diskV d bm) :: blkL x.p 104 (fileV x.nw x.sr x.lasts x.ch) :: chA x.ch x.cs :: (filesL (l1 ++ l2) ++ kn F :: L1)) w11 := ((h7.sel 4 [3, 2, 0, 1] (by simp [fileS])) : St E _ w7).drew
  clear_value w11
  have c11 := caps h11.drop.drop.drop.drop
  refine ⟨_, c11.1, _, rfl, _, rd_fld h11.f1.at_blk rfl rfl, _, c11.2.2, ?_⟩
  obtain ⟨w16, hr, h16⟩ := mapUpdate_run (P := Tryz.prog) (t := 85) (et := 99) nameLaw (by kernel_rfl) h11 b x.p
  refine runV_ok hr ⟨trivial, ?_⟩
  intro w17
  have h17 : St E (mapA bm encN encF (mset m b x.p) :: blkL dp 87 (diskV d bm) :: blkL x.p 104 (fileV x.nw x.sr x.lasts x.ch) :: chA x.ch x.cs :: (filesL (l1 ++ l2) ++ kn F :: L1)) w17 := h16.drew
  clear_value w17
  have c17 := caps h17.drop.drop.drop.drop
  refine ⟨_, c17.1, _, rfl, _, rd_fld h17.f1.at_blk rfl rfl, _, c17.2.1, ?_⟩
  obtain ⟨w23, hr, h23⟩ := delete_D h17 a
  have c23 := caps h23.drop.drop.drop.drop
  refine runV_ok hr ⟨⟨c23.1, trivial⟩, _, rfl, _, rfl, ?_⟩
  subst hxn
  have dkp := dk_ren ok I hab
  have p4 : St E (blkL x.p 104 (fileV x.nw x.sr x.lasts x.ch) :: chA x.ch x.cs :: blkL dp 87 (diskV d bm) :: mapA bm encN encF (mdel (mset m b x.p) x.name) :: (filesL ([] ++ (l1 ++ l2)) ++ kn F :: L1)) w23 := h23.sel 4 [2, 3, 1, 0] (by simp)
  have p5 := St.file_in (x := { x with name := b }) p4
  have p6 : St E (blkL dp 87 (diskV d bm) :: mapA bm encN encF (mdel (mset m b x.p) x.name) :: (filesL ({ x with name := b } :: but (l1 ++ l2) b) ++ kn F :: L1)) w23 :=
    St.sub p5 ((((filesL_sub ((List.filter_sublist).cons_cons _)).append_right _).cons_cons _).cons_cons _)
  have p7 := St.files_perm p6 (fput_perm (fs := l1 ++ l2) { x with name := b }).symm
  exact k w23 (out (St.dk_mk dkp p7))
end
end Go.Vc
namespace Go.Dk
theorem take_wrs (u : List Un) (i : Nat) (b : Bs) (k : Nat) : (u ++ wrs i b).take k = if u.length < k then u ++ wrs i (b.take (k - u.length)) else u.take k := by
  split
  · rename_i h
    rw [List.take_append, List.take_of_length_le (by omega), wrs_take]
  · rename_i h
    rw [List.take_append_of_le_length (by omega)]
theorem made_step {o : Bs} {u : List Un} {i : Nat} {b : Bs} {k : Nat} (h : i ≤ (made o u).length) : made o ((u ++ wrs i b).take k) = if u.length < k then lay (made o u) i (b.take (min b.length (k - u.length))) else made o (u.take k) := by
  rw [take_wrs]
  split
  · rw [made_app]
    have e : b.take (k - u.length) = b.take (min b.length (k - u.length)) := by
      rcases Nat.le_total b.length (k - u.length) with h1 | h1
      · rw [Nat.min_eq_left h1, List.take_of_length_le h1, List.take_of_length_le (Nat.le_refl _)]
      · rw [Nat.min_eq_right h1]
    rw [e]
    exact made_wrs _ _ _ h
  · rfl
theorem okU_fit : ∀ {b : Bs} {i : Nat} {o : Bs}, b ≠ [] → okU o (wrs i b) → i ≤ o.length
  | [], _, _, h, _ => absurd rfl h
  | _ :: _, _, _, _, h => h.2.1
end Go.Dk
namespace Go.Vc
open Go Go.Proofs Go.Proofs.YtclinifclfahfaaGreat
set_option maxRecDepth 100000
section
variable {E w : World} {L : List Asrt} {R : RT} {F G : Fz} {q s : Sl} {b : Cm.Bs} {dp c : Nat} {d : Dk.Ds} {m : List (Cm.Bs × Nat)} {fs : List FR} {n : Cm.Bs}
def unitsC (cs : List Ch) : List Dk.Un := cs.flatMap fun c => Dk.wrs c.at_ c.b
theorem unitsC_succ {cs : List Ch} {j : Nat} (h : j < cs.length) : unitsC (cs.take (j + 1)) = unitsC (cs.take j) ++ Dk.wrs cs[j].at_ cs[j].b := by
  unfold unitsC
  rw [List.take_succ_eq_append_getElem h, List.flatMap_append]
  simp
set_option maxHeartbeats 1000000 in
theorem after_spec {x : FR} {kk : Nat} (hxo : x.ok F) (hu : Dk.okU x.sure x.units) (hk : kk ≤ 9223372036854775807) (hcs : x.cs.length ≤ 1000000) (h : St E (blkL x.p 104 (fileV x.nw x.sr x.lasts x.ch) :: chA x.ch x.cs :: kn F :: L) w)
    (k : ∀ (G : Fz) (w' : World) (o : Sl), Fz.le F G → Src G o (Dk.made x.sure (x.units.take kk)) → St E (blkL x.p 104 (fileV x.nw x.sr x.lasts x.ch) :: chA x.ch x.cs :: kn G :: L) w' → R (.returned (.tuple #[.slice o.1 o.2.1 o.2.2, .int .i64 ((min kk x.units.length : Nat) : Int)])) w') :
    Calls Tryz.prog 66 #[.pointer (some ⟨x.p, 0, none⟩), .int .i64 (kk : Int)] w R := by
  have hsl := (Dk.okU_len hu).1
  have hcl : x.cs.length = x.ch.2.1 := (St.rdS_own h.f1).count chV_len (by decide)
  refine C_q61 ?_
  unfold T_q61
  refine ⟨_, rfl, _, _, _, rd_fld h.at_blk rfl rfl, ?_⟩
  refine Clone_spec (s := x.sr) (ys := x.sure) (fun A => hxo.sure.sees' (by simp) A) (by unfold big; omega) h fun w6 o6 h6 => ⟨_, _, _, rfl, _, rfl, _, _, _, rd_fld h6.f1.at_blk rfl rfl, ?_⟩
  have h6' : St E (byA o6 x.sure :: kn F :: blkL x.p 104 (fileV x.nw x.sr x.lasts x.ch) :: chA x.ch x.cs :: L) w6 := h6.sel 4 [0, 3, 1, 2] (by simp)
  obtain ⟨G0, hG0, h7, hs0⟩ := St.srcB2 h6' (by omega)
  unfold T_q3u
  intro X hX
  suffices hgo : X o6.1 o6.2.1 o6.2.2 ((min kk (unitsC (x.cs.take 0)).length : Nat) : Int) ((0 : Nat) : Int) w6 by simpa [unitsC] using hgo
  refine up_to x.cs.length (Q := fun j => ∀ (w : World) (G : Fz) (o : Sl), Fz.le F G → Src G o (Dk.made x.sure ((unitsC (x.cs.take j)).take kk)) → St E (blkL x.p 104 (fileV x.nw x.sr x.lasts x.ch) :: chA x.ch x.cs :: kn G :: L) w → X o.1 o.2.1 o.2.2 ((min kk (unitsC (x.cs.take j)).length : Nat) : Int) (j : Int) w) ?_ w6 G0 o6 hG0 (by simpa [unitsC, Dk.made] using hs0) (h7.sel 3 [1, 2, 0] (by simp))
  intro j hj ih w G o hFG hso h
  refine hX _ _ _ _ _ _ ?_
  unfold T_q61_1_body
  rw [← hcl]
  refine ite_d (fun hc => ?_) fun hc => ?_
  · have hjl : j < x.cs.length := by omega
    have hsz : (x.cs.take (j + 1)) ++ x.cs.drop (j + 1) = x.cs := List.take_append_drop ..
    have hun : x.units = (unitsC (x.cs.take j) ++ Dk.wrs x.cs[j].at_ x.cs[j].b) ++ unitsC (x.cs.drop (j + 1)) := by
      rw [← unitsC_succ hjl]
      show unitsC x.cs = _
      conv => lhs; rw [← hsz]
      unfold unitsC; rw [List.flatMap_append]
    have hu2 := (Dk.okU_split (hun ▸ hu)).1
    have hu3 := Dk.okU_split hu2
    have hso' := unitsC_succ hjl
    have hxs := hxo.cs x.cs[j] (List.getElem_mem hjl)
    obtain ⟨ad, ha, hrd, _⟩ := (St.rdS_own h.f1).elem (f := chV) chV_len (List.getElem?_eq_getElem hjl) (by decide)
    have ihj := ih hjl
    rw [hso'] at ihj
    generalize unitsC (x.cs.take j) = U at *
    clear ih hX hso' hun hu2
    generalize x.cs[j] = t at *
    rw [Int.toNat_natCast]
    refine ⟨by omega, by omega, ad, ha, _, _, _, _, _, _, hrd, ?_⟩
    intro w21
    have h21 : St E (blkL w.heap.size 114 [.bool false, .int .i64 0, .int .i64 0, .slice none 0 0] :: blkL x.p 104 (fileV x.nw x.sr x.lasts x.ch) :: chA x.ch x.cs :: kn G :: L) w21 := h.alloc (.cells ⟨[.bool false, .int .i64 0, .int .i64 0, .slice none 0 0]⟩ 114)
    clear_value w21
    generalize w.heap.size = bt at *
    refine ⟨rfl, wrOk_agg (off := 0) (xs := chV t) h21.at_blk (by show 4 ≤ 4; decide) (fun u hu => chV_one [t] u (by simpa using hu)), ?_⟩
    intro w22
    have h22 : St E (blkL bt 114 (chV t) :: blkL x.p 104 (fileV x.nw x.sr x.lasts x.ch) :: chA x.ch x.cs :: kn G :: L) w22 := h21.wr_agg0 (xs := chV t) rfl
    clear_value w22
    refine ⟨_, _, _, rd_fld h22.at_blk rfl rfl, _, rd_cell h22.at_blk rfl rfl, ?_⟩
    unfold T_q3v
    refine ite_b (fun hh => by cases hh) fun _ => ?_
    have hbl := hxs.len
    have hcp := hxs.cap
    have hUl : t.b.length ≤ 9223372036854775807 := hxs.big
    have emin : (if (IntKind.wrap .i64 ((kk : Int) - ((min kk U.length : Nat) : Int))) < ((t.s.2.1 : Nat) : Int) then (IntKind.wrap .i64 ((kk : Int) - ((min kk U.length : Nat) : Int))) else ((t.s.2.1 : Nat) : Int)) = ((min t.b.length (kk - U.length) : Nat) : Int) := by
      rw [wrap_id (by omega) (by omega)]
      split <;> omega
    dsimp -zeta only
    rw [emin]
    have hback : St E (blkL x.p 104 (fileV x.nw x.sr x.lasts x.ch) :: chA x.ch x.cs :: kn G :: L) w22 := h22.drop
    refine ite_b (fun hz => ?_) fun hz => ?_
    · have hz : min t.b.length (kk - U.length) = 0 := by have : ((min t.b.length (kk - U.length) : Nat) : Int) = 0 := by simpa using hz
                                                         omega
      have e1 : (U ++ Dk.wrs t.at_ t.b).take kk = U.take kk := by
        rw [Dk.take_wrs]
        split
        · have h0 : t.b = [] := List.eq_nil_of_length_eq_zero (by omega)
          rw [h0, List.take_of_length_le (show U.length ≤ kk by omega)]; simp [Dk.wrs]
        · rfl
      have e2 : min kk (U ++ Dk.wrs t.at_ t.b).length = min kk U.length := by rw [List.length_append, Dk.wrs_len]; omega
      have := ihj w22 G o hFG (by rw [e1]; exact hso) hback
      rw [e2] at this
      rw [succ_big (by unfold big; omega)]
      exact this
    · have hz : min t.b.length (kk - U.length) ≠ 0 := by have : ((min t.b.length (kk - U.length) : Nat) : Int) ≠ 0 := by simpa using hz
                                                         omega
      have hUk : U.length < kk := by omega
      have hfit : t.at_ ≤ (Dk.made x.sure U).length := Dk.okU_fit (by intro h0; rw [h0] at hz; simp at hz) hu3.2
      rw [List.take_of_length_le (by omega)] at hso
      have hml := (Dk.okU_len hu3.1).2
      refine ⟨_, rd_cell h22.at_blk rfl rfl, ite_b (fun hh => by cases hh) fun _ => ?_⟩
      intro w34
      have h34 : St E (blkL bt 114 (chV t) :: blkL x.p 104 (fileV x.nw x.sr x.lasts x.ch) :: chA x.ch x.cs :: kn G :: L) w34 := h22.drew
      clear_value w34
      refine ⟨_, rd_fld h34.at_blk rfl rfl, _, _, _, rd_fld h34.at_blk rfl rfl, by omega, by omega, ?_⟩
      rw [Int.toNat_natCast]
      have hfr := (hxs.mono hFG).front (n := min t.b.length (kk - U.length)) (by omega)
      have htl : (t.b.take (min t.b.length (kk - U.length))).length ≤ 262144 := by
        have h1 := (Dk.okU_len hu3.2).2
        rw [Dk.made_wrs t.b _ _ hfit, Dk.lay_len hfit] at h1
        rw [List.length_take]; omega
      refine lay_spec (q := frontS t.s (min t.b.length (kk - U.length))) hso hfr (by simp) hfit (by unfold big; omega) h34 fun w38 s39 h38 => ⟨_, _, _, rfl, trivial, ?_⟩
      have h39 : St E (byA s39 (Dk.lay (Dk.made x.sure U) t.at_ (t.b.take (min t.b.length (kk - U.length)))) :: kn G :: blkL x.p 104 (fileV x.nw x.sr x.lasts x.ch) :: chA x.ch x.cs :: L) w38 := h38.sel 5 [0, 4, 2, 3] (by simp)
      obtain ⟨G2, hG2, h40, hs40⟩ := St.srcB2 h39 (by rw [Dk.lay_len hfit]; omega)
      have e1 := Dk.made_step (k := kk) (b := t.b) hfit
      rw [if_pos hUk] at e1
      have e2 : IntKind.wrap .i64 (((min kk U.length : Nat) : Int) + ((min t.b.length (kk - U.length) : Nat) : Int)) = ((min kk (U ++ Dk.wrs t.at_ t.b).length : Nat) : Int) := by
        rw [List.length_append, Dk.wrs_len, wrap_id (by omega) (by omega)]; omega
      rw [e2, succ_big (by unfold big; omega)]
      exact ihj w38 G2 s39 (Fz.le_trans hFG hG2) (by rw [e1]; exact hs40) (h40.sel 3 [1, 2, 0] (by simp))
  · have : j = x.cs.length := by omega
    subst this
    rw [List.take_length] at hso
    rw [List.take_length]
    exact k G w o hFG hso h
end
end Go.Vc
namespace Go.Vc
open Go Go.RowKit Go.Maps
section
variable {κ ν : Type} {P : Program} {kt et t : TypeId} {kv : κ → Value} {vv : ν → Value} {w : World} {m rest : List (κ × ν)} {b r : Nat}
def MapW (w : World) (b : Nat) (kv : κ → Value) (vv : ν → Value) (m : List (κ × ν)) : Prop := ∃ es clock, w.heap[b]? = some (.map es clock) ∧ ents kv vv es.toList m ∧ (m.map (·.1)).Nodup ∧ goodM es clock
def IterW (w : World) (r b : Nat) (kv : κ → Value) (vv : ν → Value) (m rest : List (κ × ν)) : Prop := ∃ es clock since seen c0, IterOk kv vv m rest es clock since seen c0 ∧ w.heap[r]? = some (.mapIter (some b) since seen c0) ∧ w.heap[b]? = some (.map es clock)
theorem St.mapW {E : World} {L : List Asrt} (h : St E (mapA b kv vv m :: L) w) : MapW w b kv vv m := by
  obtain ⟨es, clock, hs, he, hn, hg⟩ := h.mapA_open
  exact ⟨es, clock, hs.at_blk, he, hn, hg⟩
theorem MapW.later {w' : World} (h : MapW w b kv vv m) (hb : Below w.heap.size w w') : MapW w' b kv vv m := by
  obtain ⟨es, clock, h1, h2⟩ := h
  exact ⟨es, clock, (hb.block b (Array.getElem?_eq_some_iff.1 h1).1).trans h1, h2⟩
theorem IterW.of_walks {w' : World} (h : IterW w r b kv vv m rest) (hk : KeepsWalks w w') : IterW w' r b kv vv m rest := by
  obtain ⟨es, clock, since, seen, c0, ok, h1, h2⟩ := h
  exact ⟨es, clock, since, seen, c0, ok, hk.same r _ h1 rfl, hk.same b _ h2 rfl⟩
theorem IterW.walk (h : IterW w r b kv vv m rest) : ∃ o : Obj, w.heap[r]? = some o ∧ o.isWalk = true := by
  obtain ⟨es, clock, since, seen, c0, _, h1, _⟩ := h
  exact ⟨_, h1, rfl⟩
theorem IterW.left (h : IterW w r b kv vv m rest) : w.rangeLeft b r = rest.length := by
  obtain ⟨es, clock, since, seen, c0, ok, h1, h2⟩ := h
  simp only [World.rangeLeft, h1, h2]
  have := congrArg List.length ok.left
  simp only [List.length_map] at this
  have e : (leftOf es seen).toList = es.toList.filter fun e => !seen.contains e.born := by simp [leftOf]
  rw [← this, ← e, Array.length_toList]
theorem MapW.range (h : MapW w b kv vv m) (ht : P.underlying t = some (.map kt et)) :
    ∃ w', (Instr.range t (.map (some b))).run P w = .ok (.pointer (some ⟨w.heap.size, 0, none⟩)) w' ∧ IterW w' w.heap.size b kv vv m m ∧ w.grownBy w' none ∧ w'.heap.size = w.heap.size + 1 := by
  obtain ⟨es, clock, hb, he, hn, hg⟩ := h
  refine ⟨_, run_range_map w t kt et b es clock ht hb, ⟨es, clock, clock, #[], clock, ⟨he, hn, hg, hg.1, Nat.le_refl _, Nat.le_refl _, ?_⟩, World.alloc_heap_new w _, (Below.heap_alloc w _ b (Array.getElem?_eq_some_iff.1 hb).1).trans hb⟩, World.grownBy_alloc w _ none, by simp⟩
  rw [show (es.toList.filter fun e => !(#[] : Array Nat).contains e.born) = es.toList from List.filter_eq_self.2 fun x _ => by simp]
  exact he
theorem IterW.next (h : IterW w r b kv vv m rest) (ty : TypeId) :
    (rest = [] ∧ (Instr.next (.pointer (some ⟨r, 0, none⟩)) false ty).run P w = .ok (.tuple #[.bool false]) w) ∨
    ∃ r1 p r2 w', rest = r1 ++ p :: r2 ∧ (Instr.next (.pointer (some ⟨r, 0, none⟩)) false ty).run P w = .ok (.tuple #[.bool true, kv p.1, vv p.2]) w' ∧ IterW w' r b kv vv m (r1 ++ r2) ∧ w.grownBy w' (some r) ∧ w'.heap.size = w.heap.size ∧
      (Instr.entry (.pointer (some ⟨r, 0, none⟩))).run P w' = .ok (.tuple #[kv p.1, vv p.2]) w' := by
  obtain ⟨es, clock, since, seen, c0, ok, hr, hb⟩ := h
  have hne : r ≠ b := fun e => by rw [e, hb] at hr; cases hr
  have hleft : (leftOf es seen).toList = es.toList.filter fun e => !seen.contains e.born := by simp [leftOf]
  rcases run_next_at (P := P) w ty r b since c0 seen es clock hr hb ok.old ok.s0 with ⟨h0, hrun⟩ | ⟨e, he, w1, hal, hrun⟩
  · refine .inl ⟨?_, hrun⟩
    have h1 : (leftOf es seen).toList = [] := List.eq_nil_of_length_eq_zero (by simpa using h0)
    have h2 := ok.left
    rw [← hleft, h1] at h2
    simp only [ents, List.map_nil] at h2
    exact List.map_eq_nil_iff.1 h2.symm
  · refine .inr ?_
    have hem : e ∈ es.toList := by rw [hleft] at he; exact (List.mem_filter.1 he).1
    obtain ⟨l1, l2, hl⟩ := List.append_of_mem he
    rw [hleft] at hl
    have hL := ok.left
    rw [hl] at hL
    obtain ⟨m1, p, m2, rfl, hk, hv, hL2⟩ := ents_split hL
    have hr1 : w1.heap[r]? = some (.mapIter (some b) since seen c0) := by rcases hal with rfl | rfl <;> exact hr
    have hb1 : w1.heap[b]? = some (.map es clock) := by rcases hal with rfl | rfl <;> exact hb
    have hlt : r < w1.heap.size := (Array.getElem?_eq_some_iff.1 hr1).1
    have hr2 : (ChangeMaps.setBlock w1 r (.mapIter (some b) since (seen.push e.born) clock)).heap[r]? = some (.mapIter (some b) since (seen.push e.born) clock) := by simp [ChangeMaps.setBlock, hlt]
    have hb2 : (ChangeMaps.setBlock w1 r (.mapIter (some b) since (seen.push e.born) clock)).heap[b]? = some (.map es clock) := by
      simp only [ChangeMaps.setBlock]
      rw [Array.getElem?_setIfInBounds_ne hne]; exact hb1
    have hgr : w.grownBy (ChangeMaps.setBlock w1 r (.mapIter (some b) since (seen.push e.born) clock)) (some r) := by
      rcases hal with rfl | rfl <;> exact ⟨rfl, rfl, rfl, by simp [ChangeMaps.setBlock], fun i _ hi => by
        simp only [ChangeMaps.setBlock]
        rw [Array.getElem?_setIfInBounds_ne (fun e => hi (by rw [e]))]
        try rfl⟩
    have hent : (Instr.entry (.pointer (some ⟨r, 0, none⟩))).run P (ChangeMaps.setBlock w1 r (.mapIter (some b) since (seen.push e.born) clock)) = .ok (.tuple #[kv p.1, vv p.2]) (ChangeMaps.setBlock w1 r (.mapIter (some b) since (seen.push e.born) clock)) := by
      rw [run_entry_at _ r b since seen es clock e hr2 hb2 hem ok.hg.2, hk, hv]
    refine ⟨m1, p, m2, _, rfl, by rw [hrun, hk, hv], ⟨es, clock, since, seen.push e.born, clock, ⟨ok.he, ok.hn, ok.hg, ok.old, ok.s1, ok.s1, ?_⟩, hr2, hb2⟩, hgr, by rcases hal with rfl | rfl <;> simp [ChangeMaps.setBlock], hent⟩
    have := filter_one_less es.toList (fun x => !seen.contains x.born) ok.hg.2 hl
    rw [← this] at hL2
    refine Eq.mp ?_ hL2
    congr 2
    funext x
    by_cases hx : x.born = e.born <;> simp [hx]
end
section
variable {κ ν : Type} {F : Fence} {n : Nat} {P : Program} {kt et t : TypeId} {kv : κ → Value} {vv : ν → Value} (w : World) {m rest : List (κ × ν)} {b r : Nat} {ops : Array Oper} {ro : List Oper} {o : Oper} {a : Act} {Q : Exit → Act → World → Prop}
theorem wpListIn_range_it (hg : o.guard = none) (mo : Operand) (t : TypeId) (hop : o.op = Op.range t mo) (ht : P.underlying t = some (.map kt et)) (hm : a.eval mo = .map (some b)) (h : MapW w b kv vv m)
    (hK : ∀ w', IterW w' w.heap.size b kv vv m m → w.grownBy w' none → w'.heap.size = w.heap.size + 1 → wpListIn F n P ops Q ro (a.put o.dst (.pointer (some ⟨w.heap.size, 0, none⟩))) w') :
    wpListIn F n P ops Q (o :: ro) a w := by
  refine wpListIn_plain hg fun K' hK' => ?_
  obtain ⟨w', hrun, r1, r2, r3⟩ := h.range ht
  unfold Oper.wpIn
  refine ⟨?_, ?_⟩
  · simp [Oper.about, hop]
  · rw [Oper.semAt_plain F _ _ (by rw [hop]; intro c hc'; cases hc')]
    simp [execOp, hop, hm, hrun, Result.andThen]
    exact hK' _ _ (hK w' r1 r2 r3)
theorem wpListIn_next_it (hg : o.guard = none) (it : Operand) (hop : o.op = Op.next it false) (hit : a.eval it = .pointer (some ⟨r, 0, none⟩)) (h : IterW w r b kv vv m rest)
    (hDone : rest = [] → wpListIn F n P ops Q ro (a.put o.dst (.tuple #[.bool false])) w)
    (hMore : ∀ (r1 : List (κ × ν)) (p : κ × ν) (r2 : List (κ × ν)) (w' : World), rest = r1 ++ p :: r2 → IterW w' r b kv vv m (r1 ++ r2) → w.grownBy w' (some r) → w'.heap.size = w.heap.size →
      (Instr.entry (.pointer (some ⟨r, 0, none⟩))).run P w' = .ok (.tuple #[kv p.1, vv p.2]) w' → wpListIn F n P ops Q ro (a.put o.dst (.tuple #[.bool true, kv p.1, vv p.2])) w') :
    wpListIn F n P ops Q (o :: ro) a w := by
  refine wpListIn_plain hg fun K' hK' => ?_
  unfold Oper.wpIn
  refine ⟨by simp [Oper.about, hop], ?_⟩
  rw [Oper.semAt_plain F _ _ (by rw [hop]; intro c hc'; cases hc')]
  rcases h.next (P := P) o.type with ⟨h0, hrun⟩ | ⟨r1, p, r2, w', he, hrun, hrg, hgr, hsz, hen⟩
  · simp [execOp, hop, hit, hrun, Result.andThen]
    exact hK' _ _ (hDone h0)
  · simp [execOp, hop, hit, hrun, Result.andThen]
    exact hK' _ _ (hMore r1 p r2 w' he hrg hgr hsz hen)
end
end Go.Vc
