/-
  Texts of this claim's own, laid into one: SnapRj.
-/
import Derived.OpenShut
import Derived.Test.YtclinifclfahfaaXSnapWholeA
import Derived.Test.YtclinifclfahfaaXSnapWholeB
import Derived.Test.YtclinifclfahfaaXSnapWholeC
import Derived.Test.YtclinifclfahfaaXSnapWholeD
set_option linter.all false
/-
  The law SnapWhole.
-/
namespace Go.Vc
open Go Go.Proofs Go.Proofs.Ytclinifclfahfaa
set_option maxRecDepth 100000
section
variable {E w : World} {L M : List Asrt} {R : Ending → World → Prop} {F G : Fz} {q p o : Sl} {x : Cm.Bs} {dp c : Nat} {d : Dk.Ds} {A B : Sn.Snp} {a b bA bB bw : Nat} {va la da vb lb db : Sl}
theorem whole_1 {K : Bool → World → Prop} {Kp : List PanicEntry → World → Prop} (ha : A.data.length = da.2.1) (hb : B.data.length = db.2.1) (h : St E (blkL bA 29 (snpL A.idx A.term va la da) :: blkL bB 29 (snpL B.idx B.term vb lb db) :: M) w)
    (k : K (!decide (A.data.length ≤ 4000 ∧ B.data.length ≤ 4000 ∧ A.idx < B.idx)) w) : T_law07_SnapWhole_1 ⟨bA, 0, none⟩ ⟨bB, 0, none⟩ w K Kp := by
  unfold T_law07_SnapWhole_1
  refine ⟨_, _, _, rd_fld h.at_blk rfl rfl, ite_d (fun hh => ?_) fun hh => ⟨_, _, _, rd_fld h.f1.at_blk rfl rfl, ite_d (fun h2 => ?_) fun h2 => ⟨_, rd_cell h.at_blk rfl rfl, _, rd_cell h.f1.at_blk rfl rfl, ?_⟩⟩⟩
  · rw [decide_eq_false (by omega)] at k; exact k
  · rw [decide_eq_false (by omega)] at k; exact k
  · by_cases hi : A.idx < B.idx
    · rw [decide_eq_true ⟨by omega, by omega, hi⟩] at k
      rw [decide_eq_false (by omega)]; exact k
    · rw [decide_eq_false (fun hh => hi hh.2.2)] at k
      rw [decide_eq_true (by omega)]; exact k
theorem whole_2 {e : Int} {K : Bool → World → Prop} {Kp : List PanicEntry → World → Prop} (I : Dk.Inv d) (hc : c + 1 ≤ 1000000) (r : snpR F va la da A) (hh : snpH A) (h : St E (diskA F c dp d :: kn F :: blkL bA 29 (snpL A.idx A.term va la da) :: M) w)
    (k : ∀ (G : Fz) (w' : World), Fz.le F G → St E (diskA G (c + 1) dp (Sn.save d A).1 :: kn G :: blkL bA 29 (snpL A.idx A.term va la da) :: M) w' → K (!decide ((Sn.save d A).2 = 0 ∧ e = 0)) w') : T_law07_SnapWhole_2 ⟨bA, 0, none⟩ (some ⟨dp, 0, none⟩) e w K Kp := by
  unfold T_law07_SnapWhole_2
  refine ⟨_, _, _, _, _, _, _, _, _, _, _, rd_snp h.f2, ?_⟩
  refine Save_spec I hc r hh.1 hh.2 h fun G w' hG h' => ⟨_, rfl, ?_⟩
  have k := k G w' hG h'
  refine ite_b (fun hz => ?_) fun hz => ?_
  · have hz : (Sn.save d A).2 ≠ 0 := by simpa using hz
    rw [decide_eq_false (fun hh => hz hh.1)] at k
    exact k
  · have hz : (Sn.save d A).2 = 0 := by simpa using hz
    by_cases he : e = 0
    · rw [decide_eq_true ⟨hz, he⟩] at k
      rw [he]; exact k
    · rw [decide_eq_false (fun hh => he hh.2)] at k
      have : (e != 0) = true := by simpa using he
      rw [this]; exact k
theorem whole_3 {bb : Bool} {Kn : World → Prop} {Kp : List PanicEntry → World → Prop} (I : Dk.Inv d) (hc : c + 1 ≤ 1000000) (hs : Src F p x) (hx : x.length ≤ 1000000000) (h : St E (diskA F c dp d :: kn F :: M) w)
    (k : ∀ (G : Fz) (w' : World), Fz.le F G → St E (diskA G (c + 1) dp (if bb = true then (Dk.write d Sn.tmp 0 x).1 else d) :: kn G :: M) w' → Kn w') : T_law07_SnapWhole_3 (some ⟨dp, 0, none⟩) p.1 p.2.1 p.2.2 bb w Kn Kp := by
  unfold T_law07_SnapWhole_3
  rw [tmp_lit]
  refine ite_b (fun hb => ?_) fun hb => ?_
  · rw [if_pos hb] at k
    exact DWrite_spec (n := Sn.tmp) (i := 0) I hs hx hc h fun G w' hG h' => ⟨_, rfl, k G w' hG h'⟩
  · rw [if_neg (by rw [hb]; decide)] at k
    exact k F w (Fz.le_refl F) (h.dk_c (Nat.le_succ c))
theorem whole_4 {bb : Bool} {Kn : World → Prop} {Kp : List PanicEntry → World → Prop} (I : Dk.Inv d) (h : St E (diskA F c dp d :: kn F :: M) w)
    (k : ∀ (G : Fz) (w' : World), Fz.le F G → St E (diskA G c dp (if bb = true then (Dk.sync d Sn.tmp).1 else d) :: kn G :: M) w' → Kn w') : T_law07_SnapWhole_4 (some ⟨dp, 0, none⟩) bb w Kn Kp := by
  unfold T_law07_SnapWhole_4
  rw [tmp_lit]
  refine ite_b (fun hb => ?_) fun hb => ?_
  · rw [if_pos hb] at k
    exact DSync_spec (n := Sn.tmp) I h fun G w' hG h' => ⟨_, rfl, k G w' hG h'⟩
  · rw [if_neg (by rw [hb]; decide)] at k
    exact k F w (Fz.le_refl F) h
set_option maxHeartbeats 1000000 in
theorem whole_5 {bb : Bool} {Kn : World → Prop} {Kr : Bool → World → Prop} {Kp : List PanicEntry → World → Prop} (I : Dk.Inv d) (ra : snpR F va la da A) (rb : snpR F vb lb db B) (hh : snpH B) (hs0 : (Sn.save (Dk.newD 65536) B).2 = 0) (hs1 : (Sn.save (Dk.newD 65536) B).1.l = [Sn.flOf B b])
    (hren : bb = true → (Dk.rename d Sn.tmp (Sn.nameOf b)).2 = 0) (h : St E (diskA F c dp d :: kn F :: blkL bw 29 (snpL A.idx A.term va la da) :: blkL bB 29 (snpL B.idx B.term vb lb db) :: M) w)
    (k : ∀ (G : Fz) (w' : World) (W : Sn.Snp) (vw lw dw : Sl), Fz.le F G → W = (if bb = true then B else A) → snpR G vw lw dw W → St E (diskA G c dp (if bb = true then (Dk.rename d Sn.tmp (Sn.nameOf b)).1 else d) :: kn G :: blkL bw 29 (snpL W.idx W.term vw lw dw) :: blkL bB 29 (snpL B.idx B.term vb lb db) :: M) w' → Kn w') :
    T_law07_SnapWhole_5 ⟨bB, 0, none⟩ (some ⟨dp, 0, none⟩) ⟨bw, 0, none⟩ bb w Kn Kr Kp := by
  unfold T_law07_SnapWhole_5
  rw [tmp_lit]
  refine ite_b (fun hb => ?_) fun hb => ?_
  · rw [if_pos hb, if_pos hb] at k
    have hren := hren hb
    refine DNew_spec2 (F := F) (d := Dk.newD 65536) rfl h fun w87 fp h87 => ⟨_, rfl, ?_⟩
    have h88 : St E (diskA F 0 fp (Dk.newD 65536) :: kn F :: diskA F c dp d :: blkL bw 29 (snpL A.idx A.term va la da) :: blkL bB 29 (snpL B.idx B.term vb lb db) :: M) w87 := h87.sel 5 [0, 2, 1, 3, 4] (by simp)
    refine ⟨_, _, _, _, _, _, _, _, _, _, _, rd_snp h88.f4, ?_⟩
    refine Save_spec (Dk.Inv.new 65536) (by decide) rb hh.1 hh.2 h88 fun G1 w95 hG1 h95 => ⟨_, rfl, ?_⟩
    rw [hs0]
    refine ite_b (fun hz => by simp at hz) fun _ => ?_
    have If : Dk.Inv (Sn.save (Dk.newD 65536) B).1 := Sn.save_inv (Dk.Inv.new 65536) B
    have hnm : namesOf (Sn.save (Dk.newD 65536) B).1 = [Sn.nameOf b] := by unfold namesOf; rw [hs1]; rfl
    generalize (Sn.save (Dk.newD 65536) B).1 = df at *
    refine Names_spec2 hnm If h95 fun w98 o1 hl1 h98 => ⟨_, _, _, rfl, ?_⟩
    have hl1 : o1.2.1 = 1 := hl1
    rw [hl1]
    refine ite_b (fun hz => by simp at hz) fun _ => ?_
    refine Names_spec2 hnm If h98.drop fun w101 o2 hl2 h101 => ⟨_, _, _, rfl, ?_⟩
    have hl2 : o2.2.1 = 1 := hl2
    obtain ⟨ad, hae, hrd⟩ := one_at (f := encN) (qs := [Sn.nameOf b]) (fun _ => rfl) (h101.rdS_own :) (show 0 < 1 by decide)
    refine ⟨by decide, by rw [hl2]; decide, ad, hae, _, hrd, ?_⟩
    have h102 : St E (diskA F c dp d :: kn G1 :: blkL bw 29 (snpL A.idx A.term va la da) :: blkL bB 29 (snpL B.idx B.term vb lb db) :: M) w101 := h101.sel 6 [3, 2, 4, 5] (by simp)
    refine DRename_spec (a := Sn.tmp) (b := Sn.nameOf b) I (St.dk_mono h102 hG1) fun w106 h106 => ⟨_, rfl, ?_⟩
    rw [hren]
    refine ite_b (fun hz => by simp at hz) fun _ => ?_
    have h107 : St E (blkL bw 29 (snpL A.idx A.term va la da) :: diskA G1 c dp (Dk.rename d Sn.tmp (Sn.nameOf b)).1 :: kn G1 :: blkL bB 29 (snpL B.idx B.term vb lb db) :: M) w106 := h106.sel 3 [2, 0, 1] (by simp)
    refine ⟨_, _, _, _, _, _, _, _, _, _, _, rd_snp h107.f3, rfl, ok_snp h107 rfl B.idx B.term vb lb db, ?_⟩
    intro w113
    have h113 : St E (blkL bw 29 (snpL B.idx B.term vb lb db) :: diskA G1 c dp (Dk.rename d Sn.tmp (Sn.nameOf b)).1 :: kn G1 :: blkL bB 29 (snpL B.idx B.term vb lb db) :: M) w113 := h107.wr_snp rfl B.idx B.term vb lb db
    clear_value w113
    exact k G1 w113 B vb lb db hG1 rfl (rb.mono hG1) (h113.sel 3 [1, 2, 0] (by simp))
  · rw [if_neg (by rw [hb]; decide), if_neg (by rw [hb]; decide)] at k
    exact k F w A va la da (Fz.le_refl F) rfl ra h
theorem whole_6 {W : Sn.Snp} {vw lw dw vs ls ds : Sl} {bs2 : Nat} {K : Bool → World → Prop} {Kp : List PanicEntry → World → Prop} (hm : kn F ∈ M) (rw_ : snpR F vw lw dw W) (rs : snpR F vs ls ds W) (hh : snpH W)
    (h : St E (blkL bs2 29 (snpL W.idx W.term vs ls ds) :: blkL bw 29 (snpL W.idx W.term vw lw dw) :: M) w)
    (k : ∀ w', St E (blkL bs2 29 (snpL W.idx W.term vs ls ds) :: blkL bw 29 (snpL W.idx W.term vw lw dw) :: M) w' → K false w') : T_law07_SnapWhole_6 ⟨bw, 0, none⟩ ⟨bs2, 0, none⟩ 0 w K Kp := by
  unfold T_law07_SnapWhole_6
  refine ite_b (fun hz => by simp at hz) fun _ => ⟨_, _, _, _, _, _, _, _, _, _, _, rd_snp h, _, _, _, _, _, _, _, _, _, _, _, rd_snp h.f1, ?_⟩
  refine SSame_spec (F := F) (by simp [hm]) rs rw_ hh.1 hh.2 h fun w' h' => ⟨_, rfl, ?_⟩
  simpa using k w' h'
theorem St.in_three (h : St E L w) (x y z : Int) : St E (ownS (some ⟨w.heap.size, 0, none⟩) 3 3 3 1 (intV [x, y, z]) :: L) (w.alloc (.cells #[.int .i64 x, .int .i64 y, .int .i64 z] 3)) :=
  (St.ownS_mk (xs := intV [x, y, z]) (rest := []) (l := 3) (c := 3) (sz := 1) (by rw [List.append_nil]; exact h.alloc _) rfl (Nat.le_refl _) (by decide) rfl :)
theorem ab_of (ha : Sn.putE A = 0) (hb : Sn.putE B = 0) (hd : A.data.length ≤ 4000 ∧ B.data.length ≤ 4000 ∧ A.idx < B.idx) : ∃ a b, Sn.AB A B a b := by
  obtain ⟨a, ia, a0, a1⟩ := Sn.range_of ha
  obtain ⟨b, ib, b0, b1⟩ := Sn.range_of hb
  exact ⟨a, b, ha, hb, ia, ib, a0, a1, b0, b1, by omega, hd.1, hd.2.1⟩
theorem wp_stop {n : Nat} (hn : n < 4) (ab : Sn.AB A B a b) {d1 d2 d3 : Dk.Ds} (h1 : d1 = if decide ((n : Int) > 0) = true then (Dk.write (Sn.st0 A) Sn.tmp 0 (Sn.putB B)).1 else Sn.st0 A) (h2 : d2 = if decide ((n : Int) > 1) = true then (Dk.sync d1 Sn.tmp).1 else d1) (h3 : d3 = if decide ((n : Int) > 2) = true then (Dk.rename d2 Sn.tmp (Sn.nameOf b)).1 else d2) :
    Dk.Inv d1 ∧ Dk.Inv d2 ∧ (decide ((n : Int) > 2) = true → (Dk.rename d2 Sn.tmp (Sn.nameOf b)).2 = 0) ∧ Sn.Wp A B a b (if decide ((n : Int) > 2) = true then B else A) d3 := by
  have w0 := Sn.wp0 ab
  have w1 := Sn.wp1 ab
  have w2 := Sn.wp2 ab
  have w3 := Sn.wp3 ab
  have hc : n = 0 ∨ n = 1 ∨ n = 2 ∨ n = 3 := by omega
  rcases hc with rfl | rfl | rfl | rfl
  · rw [if_neg (by decide)] at h1 h2 h3
    subst h3 h2 h1
    exact ⟨w0.inv, w0.inv, fun h => absurd h (by decide), by rw [if_neg (by decide)]; exact w0⟩
  · rw [if_pos (by decide)] at h1
    rw [if_neg (by decide)] at h2 h3
    subst h3 h2 h1
    exact ⟨w1.inv, w1.inv, fun h => absurd h (by decide), by rw [if_neg (by decide)]; exact w1⟩
  · rw [if_pos (by decide)] at h1 h2
    rw [if_neg (by decide)] at h3
    subst h3 h2 h1
    exact ⟨w1.inv, w2.inv, fun h => absurd h (by decide), by rw [if_neg (by decide)]; exact w2⟩
  · rw [if_pos (by decide)] at h1 h2 h3
    subst h3 h2 h1
    exact ⟨w1.inv, w2.inv, fun _ => w3.2, by rw [if_pos (by decide)]; exact w3.1⟩
set_option maxHeartbeats 4000000 in
theorem whole_walk {y0 y1 : Int} (hy1 : y1 ≤ 9223372036854775807) (ra : snpR F va la da A) (rb : snpR F vb lb db B) (hha : snpH A) (hhb : snpH B) (h : St E (kn F :: L) w) (k : ∀ G w', Fz.le F G → St E (kn G :: L) w' → R (.returned (.bool true)) w') : Calls Try.prog 6 #[snpV A.idx A.term va la da, snpV B.idx B.term vb lb db, .agg #[.int .i64 y0, .int .i64 y1]] w R := by
  have hbig : big = 140737488355328 := rfl
  refine C_law07_SnapWhole ?_
  unfold T_law07_SnapWhole
  intro w13 w14 w15
  have h13 : St E (blkL w.heap.size 29 (snpL A.idx A.term va la da) :: kn F :: L) w13 := h.alloc (.cells ⟨snpL A.idx A.term va la da⟩ 29)
  have h14 : St E (blkL w13.heap.size 29 (snpL B.idx B.term vb lb db) :: blkL w.heap.size 29 (snpL A.idx A.term va la da) :: kn F :: L) w14 := h13.alloc (.cells ⟨snpL B.idx B.term vb lb db⟩ 29)
  have h15 : St E (blkL w14.heap.size 45 [.int .i64 y0, .int .i64 y1] :: blkL w13.heap.size 29 (snpL B.idx B.term vb lb db) :: blkL w.heap.size 29 (snpL A.idx A.term va la da) :: kn F :: L) w15 := h14.alloc (.cells ⟨[.int .i64 y0, .int .i64 y1]⟩ 45)
  clear_value w15
  generalize w14.heap.size = bL at *
  generalize w13.heap.size = bB at *
  generalize w.heap.size = bA at *
  have h16 : St E (blkL bA 29 (snpL A.idx A.term va la da) :: blkL bB 29 (snpL B.idx B.term vb lb db) :: kn F :: blkL bL 45 [.int .i64 y0, .int .i64 y1] :: L) w15 := h15.sel 4 [2, 1, 3, 0] (by simp)
  refine whole_1 ra.data.len rb.data.len h16 ?_
  refine ite_b (fun hc => ?_) fun hc => ?_
  · exact live_spec h16.f2 fun G w' hG h' => ⟨_, rfl, k G w' hG (h'.sel 4 [0] (by simp))⟩
  have hd : A.data.length ≤ 4000 ∧ B.data.length ≤ 4000 ∧ A.idx < B.idx := by simpa using hc
  refine DNew_spec2 (F := F) (d := Dk.newD 65536) rfl h16 fun w31 dp h31 => ⟨_, rfl, ?_⟩
  have h32 : St E (kn F :: diskA F 0 dp (Dk.newD 65536) :: blkL bA 29 (snpL A.idx A.term va la da) :: blkL bB 29 (snpL B.idx B.term vb lb db) :: blkL bL 45 [.int .i64 y0, .int .i64 y1] :: L) w31 := h31.sel 5 [3, 0, 1, 2, 4] (by simp)
  refine ⟨_, _, _, _, _, _, _, _, _, _, _, rd_snp h32.f3, ?_⟩
  refine SPut_spec (F := F) (by simp) rb hhb.1 hhb.2 h32 fun w39 p1 h39 => ⟨_, _, _, _, rfl, ?_⟩
  have hpb := putB_le B
  obtain ⟨G1, hG1, h40, hsx⟩ := St.srcB2 h39 (by omega)
  have h41 : St E (diskA F 0 dp (Dk.newD 65536) :: kn G1 :: blkL bA 29 (snpL A.idx A.term va la da) :: blkL bB 29 (snpL B.idx B.term vb lb db) :: blkL bL 45 [.int .i64 y0, .int .i64 y1] :: L) w39 := h40.f1
  refine whole_2 (Dk.Inv.new 65536) (by decide) (ra.mono hG1) hha (St.dk_mono h41 hG1) fun G2 w57 hG2 h57 => ?_
  have hG02 := Fz.le_trans hG1 hG2
  refine ite_b (fun hc => ?_) fun hc => ?_
  · exact live_spec h57.f1 fun G w' hG h' => ⟨_, rfl, k G w' (Fz.le_trans hG02 hG) (h'.sel 5 [0] (by simp))⟩
  obtain ⟨hsv, heb⟩ : (Sn.save (Dk.newD 65536) A).2 = 0 ∧ Sn.putE B = 0 := by simpa using hc
  have hea : Sn.putE A = 0 := by
    by_cases he : Sn.putE A = 0
    · exact he
    · exfalso
      have : Sn.save (Dk.newD 65536) A = (Dk.newD 65536, Sn.putE A) := by unfold Sn.save; rw [if_pos he]
      rw [this] at hsv
      exact he hsv
  obtain ⟨a, b, ab⟩ := ab_of hea heb hd
  have hst0 : (Sn.save (Dk.newD 65536) A).1 = Sn.st0 A := rfl
  rw [hst0] at h57
  have I0 := (Sn.wp0 ab).inv
  obtain ⟨n, hn, hn4⟩ : ∃ n : Nat, (IntKind.wrap .i64 (Int.tmod (IntKind.wrap .u64 y0) 4)) = (n : Int) ∧ n < 4 := by
    have h0 : 0 ≤ IntKind.wrap .u64 y0 := by
      unfold IntKind.wrap
      simp [IntKind.signed, IntKind.bits]
      omega
    rw [Int.tmod_eq_emod_of_nonneg h0, wrap_id (by omega) (by omega)]
    exact ⟨(IntKind.wrap .u64 y0 % 4).toNat, by omega, by omega⟩
  refine ⟨by decide, by decide, _, rd_cell (h57.f4).at_blk rfl rfl, ?_⟩
  rw [hn]
  obtain ⟨d1, hd1⟩ : ∃ d1, d1 = if decide ((n : Int) > 0) = true then (Dk.write (Sn.st0 A) Sn.tmp 0 (Sn.putB B)).1 else Sn.st0 A := ⟨_, rfl⟩
  obtain ⟨d2, hd2⟩ : ∃ d2, d2 = if decide ((n : Int) > 1) = true then (Dk.sync d1 Sn.tmp).1 else d1 := ⟨_, rfl⟩
  obtain ⟨d3, hd3⟩ : ∃ d3, d3 = if decide ((n : Int) > 2) = true then (Dk.rename d2 Sn.tmp (Sn.nameOf b)).1 else d2 := ⟨_, rfl⟩
  obtain ⟨I1, I2, hren, wp⟩ := wp_stop hn4 ab hd1 hd2 hd3
  refine whole_3 I0 (by decide) (hsx.mono hG2) (by omega) h57 fun G3 w68 hG3 h68 => ?_
  rw [← hd1] at h68
  refine whole_4 I1 h68 fun G4 w74 hG4 h74 => ?_
  rw [← hd2] at h74
  have hG04 := Fz.le_trans hG02 (Fz.le_trans hG3 hG4)
  refine ⟨_, _, _, _, _, _, _, _, _, _, _, rd_snp h74.f2, ?_⟩
  intro w80
  have h80 : St E (blkL w74.heap.size 29 z5 :: diskA G4 (0 + 1 + 1) dp d2 :: kn G4 :: blkL bA 29 (snpL A.idx A.term va la da) :: blkL bB 29 (snpL B.idx B.term vb lb db) :: blkL bL 45 [.int .i64 y0, .int .i64 y1] :: L) w80 := h74.alloc (.cells ⟨z5⟩ 29)
  clear_value w80
  generalize w74.heap.size = bw at *
  refine ⟨rfl, ok_snp h80 rfl A.idx A.term va la da, ?_⟩
  intro w81
  have h81 : St E (blkL bw 29 (snpL A.idx A.term va la da) :: diskA G4 (0 + 1 + 1) dp d2 :: kn G4 :: blkL bA 29 (snpL A.idx A.term va la da) :: blkL bB 29 (snpL B.idx B.term vb lb db) :: blkL bL 45 [.int .i64 y0, .int .i64 y1] :: L) w81 := h80.wr_snp rfl A.idx A.term va la da
  clear_value w81
  obtain ⟨sb0, sb1⟩ := ab.swap
  have h82 : St E (diskA G4 (0 + 1 + 1) dp d2 :: kn G4 :: blkL bw 29 (snpL A.idx A.term va la da) :: blkL bB 29 (snpL B.idx B.term vb lb db) :: blkL bA 29 (snpL A.idx A.term va la da) :: blkL bL 45 [.int .i64 y0, .int .i64 y1] :: L) w81 := h81.sel 6 [1, 2, 0, 4, 3, 5] (by simp)
  refine whole_5 (b := b) I2 (ra.mono hG04) (rb.mono hG04) hhb sb0 sb1 hren h82 fun G5 w117 W vw lw dw hG5 hW rW h117 => ?_
  rw [← hd3] at h117
  rw [← hW] at wp
  have hhW : snpH W := by rw [hW]; split; exact hhb; exact hha
  have hG05 := Fz.le_trans hG04 hG5
  have rdy : rd w117 ((⟨bL, 0, none⟩ : Addr).add ((1 : Int).toNat * 1)) (.int .i64 y1) := rd_fld (k := 1) (h117.sel 6 [5] (by simp)).at_blk rfl rfl
  refine ⟨by decide, by decide, _, rdy, by decide, by decide, _, rdy, by decide, by decide, _, rdy, ?_⟩
  intro w121
  have h121 : St E (ownS (some ⟨w117.heap.size, 0, none⟩) 3 3 3 1 (intV [y1, y1, y1]) :: kn G5 :: diskA G5 (0 + 1 + 1) dp d3 :: blkL bw 29 (snpL W.idx W.term vw lw dw) :: blkL bB 29 (snpL B.idx B.term vb lb db) :: L) w121 := (h117.in_three y1 y1 y1).sel 7 [0, 2, 1, 3, 4] (by simp)
  clear_value w121
  generalize w117.heap.size = bk at *
  obtain ⟨G6, hG6, h122, hkp⟩ := St.freezeS h121
  have h123 : St E (diskA G5 (0 + 1 + 1) dp d3 :: kn G6 :: blkL bw 29 (snpL W.idx W.term vw lw dw) :: blkL bB 29 (snpL B.idx B.term vb lb db) :: L) w121 := h122.f1
  refine DCrash_spec (keep := [y1, y1, y1]) (ks := (some ⟨bk, 0, none⟩, 3, 3)) wp.inv hkp rfl (fun i hi => by simp at hi; omega) (by decide) (St.dk_mono h123 hG6) fun G7 w123 hG7 h124 => ⟨rfl, ?_⟩
  have wl := wp.load ab [y1, y1, y1]
  obtain ⟨ag1, ag2, ag3⟩ := wp.again ab [y1, y1, y1]
  have I4 := wp.inv.crash [y1, y1, y1]
  generalize Dk.crash d3 [y1, y1, y1] = d4 at *
  refine Load_spec2 wl I4 h124 fun G8 w125 vs ls ds hG8 rs h125 => ⟨_, _, _, _, _, _, _, _, _, _, _, _, rfl, ?_⟩
  have hG58 := Fz.le_trans hG6 (Fz.le_trans hG7 hG8)
  have hG08 := Fz.le_trans hG05 hG58
  intro w132
  have h132 : St E (blkL w125.heap.size 29 z5 :: diskA G8 (0 + 1 + 1) dp d4 :: kn G8 :: blkL bw 29 (snpL W.idx W.term vw lw dw) :: blkL bB 29 (snpL B.idx B.term vb lb db) :: L) w132 := h125.alloc (.cells ⟨z5⟩ 29)
  clear_value w132
  generalize w125.heap.size = b2 at *
  refine ⟨rfl, ok_snp h132 rfl W.idx W.term vs ls ds, ?_⟩
  intro w133
  have h133 : St E (blkL b2 29 (snpL W.idx W.term vs ls ds) :: diskA G8 (0 + 1 + 1) dp d4 :: kn G8 :: blkL bw 29 (snpL W.idx W.term vw lw dw) :: blkL bB 29 (snpL B.idx B.term vb lb db) :: L) w133 := h132.wr_snp rfl W.idx W.term vs ls ds
  clear_value w133
  refine whole_6 (F := G8) (M := diskA G8 (0 + 1 + 1) dp d4 :: kn G8 :: blkL bB 29 (snpL B.idx B.term vb lb db) :: L) (by simp) (rW.mono hG58) rs hhW (h133.sel 5 [0, 3, 1, 2, 4] (by simp)) fun w154 h154 => ?_
  refine ite_b (fun hh => by cases hh) fun _ => ?_
  refine ⟨_, _, _, _, _, _, _, _, _, _, _, rd_snp h154.f4, ?_⟩
  have h155 : St E (diskA G8 (0 + 1 + 1) dp d4 :: kn G8 :: blkL bB 29 (snpL B.idx B.term vb lb db) :: L) w154 := h154.sel 5 [2, 3, 4] (by simp)
  refine Save_spec I4 (by decide) (rb.mono hG08) hhb.1 hhb.2 h155 fun G9 w161 hG9 h161 => ⟨_, rfl, ?_⟩
  rw [ag1]
  refine ite_b (fun hz => by simp at hz) fun _ => ?_
  have I5 := Sn.save_inv I4 B
  have hnm : namesOf (Sn.save d4 B).1 = [Sn.nameOf b] := by unfold namesOf; rw [ag3]; rfl
  generalize (Sn.save d4 B).1 = d5 at *
  refine Load_spec2 ag2 I5 h161 fun G10 w164 vt lt dt hG10 rt h164 => ⟨_, _, _, _, _, _, _, _, _, _, _, _, rfl, ?_⟩
  intro w171
  have h171 : St E (blkL w164.heap.size 29 z5 :: diskA G10 (0 + 1 + 1 + 1) dp d5 :: kn G10 :: blkL bB 29 (snpL B.idx B.term vb lb db) :: L) w171 := h164.alloc (.cells ⟨z5⟩ 29)
  clear_value w171
  generalize w164.heap.size = b3 at *
  refine ⟨rfl, ok_snp h171 rfl B.idx B.term vt lt dt, ?_⟩
  intro w172
  have h172 : St E (kn G10 :: blkL b3 29 (snpL B.idx B.term vt lt dt) :: diskA G10 (0 + 1 + 1 + 1) dp d5 :: blkL bB 29 (snpL B.idx B.term vb lb db) :: L) w172 := (h171.wr_snp rfl B.idx B.term vt lt dt).sel 4 [2, 0, 1, 3] (by simp)
  clear_value w172
  refine live_spec h172 fun G11 w174 hG11 h174 => ⟨_, rfl, ite_b (fun _ => ite_b (fun _ => ?_) fun hh => by simp at hh) fun hh => by cases hh⟩
  have hGB := Fz.le_trans hG08 (Fz.le_trans hG9 (Fz.le_trans hG10 hG11))
  refine ⟨_, _, _, _, _, _, _, _, _, _, _, rd_snp h174.f1, _, _, _, _, _, _, _, _, _, _, _, rd_snp h174.f3, ?_⟩
  refine SSame_spec (F := G11) (by simp) (rt.mono hG11) (rb.mono hGB) hhb.1 hhb.2 h174 fun w187 h187 => ⟨_, rfl, ite_b (fun _ => ?_) fun hh => by simp at hh⟩
  have h188 : St E (diskA G10 (0 + 1 + 1 + 1) dp d5 :: kn G11 :: L) w187 := h187.sel 4 [2, 0] (by simp)
  refine Names_spec2 hnm I5 h188 fun w190 o hol h190 => ⟨_, _, _, rfl, ?_⟩
  have hol : o.2.1 = 1 := hol
  exact congB (k G11 w190 hGB (h190.sel 3 [2] (by simp))) (by rw [hol]; decide)
theorem open_arr {H : Type} {enc : TypeId × Value → H} {P : Program} {W : World} {n : Nat} {t e : TypeId} {v : Value} {d : DataW H} {ps : List MemPlace} (ht : P.underlying t = some (.array n e)) (hc : P.cellsOf t ≠ 1) (h : DataW.Trod enc P W 0 (fun _ => true) true t v d ps) : ∃ cs, v = .agg cs := by
  obtain ⟨m, hm⟩ := h
  obtain ⟨xs, m, _, _, hcl, _⟩ := DataW.trod_array ht hm
  cases v with
  | agg cs => exact ⟨cs, rfl⟩
  | _ => exact absurd hcl.symm hc
theorem whole_law {H : Type} {enc : TypeId × Value → H} {W : World} {cs cs2 cs3 : Array Value} {d d2 d3 : DataW H} {ps ps2 ps3 : List MemPlace} (h : DataW.Trod enc Try.prog W 0 (fun _ => true) true 29 (.agg cs) d ps) (h2 : DataW.Trod enc Try.prog W 0 (fun _ => true) true 29 (.agg cs2) d2 ps2)
    (h3 : DataW.Trod enc Try.prog W 0 (fun _ => true) true 45 (.agg cs3) d3 ps3) : Calls Try.prog 6 #[.agg cs, .agg cs2, .agg cs3] W fun e w' => e = .returned (.bool true) ∧ RowKit.Below W.heap.size W w' := by
  obtain ⟨m, hm⟩ := h
  have hm : DataW.trod enc Try.prog W 0 (fun _ => true) true m 29 cs.toList = some (d, ps) := hm
  obtain ⟨m2, hm2⟩ := h2
  have hm2 : DataW.trod enc Try.prog W 0 (fun _ => true) true m2 29 cs2.toList = some (d2, ps2) := hm2
  obtain ⟨m3, hm3⟩ := h3
  have hm3 : DataW.trod enc Try.prog W 0 (fun _ => true) true m3 45 cs3.toList = some (d3, ps3) := hm3
  obtain ⟨A, va, la, da, e1, ra, hha, _⟩ := open_snap hm
  obtain ⟨B, vb, lb, db, e2, rb, hhb, _⟩ := open_snap hm2
  obtain ⟨xs, m, _, _, hcl, hxl, hfs⟩ := DataW.trod_array Try.underlying45 hm3
  rw [show Try.prog.cellsOf 45 = 2 by kernel_rfl] at hcl
  have c1 : Try.prog.cellsOf 3 = 1 := by kernel_rfl
  have ea : (.agg cs : Value) = snpV A.idx A.term va la da := by unfold snpV; rw [← e1]
  have eb : (.agg cs2 : Value) = snpV B.idx B.term vb lb db := by unfold snpV; rw [← e2]
  obtain ⟨y0, y1, e3, hy⟩ : ∃ y0 y1 : Int, cs3 = #[.int .i64 y0, .int .i64 y1] ∧ y1 ≤ 9223372036854775807 := by
    have hcl' : cs3.size = 2 := hcl
    obtain ⟨l3⟩ := cs3
    match l3, hcl' with
    | [v0, v1], _ =>
      have f0 := hfs 0 (by decide)
      have f1 := hfs 1 (by decide)
      simp only [c1, Nat.zero_mul, Nat.one_mul, List.drop_zero, List.drop_succ_cons, List.take_succ_cons, List.take_zero] at f0 f1
      rw [List.getElem?_eq_getElem (by omega)] at f0 f1
      obtain ⟨k0, g0, _⟩ := DataW.trod_int Try.underlying3 f0
      obtain ⟨k1, g1, _, w1⟩ := DataW.trod_int Try.underlying3 f1
      simp at g0 g1
      subst g0 g1
      simp [Lit.wf, IntKind.min, IntKind.max, IntKind.signed, IntKind.bits] at w1
      exact ⟨k0, k1, rfl, by omega⟩
  rw [ea, eb, e3]
  exact whole_walk hy ra rb hha hhb (St.start_kn W) fun G w' hG h' => ⟨rfl, h'.below_kn hG⟩
end
end Go.Vc
