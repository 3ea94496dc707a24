/-
  Commands on both stores: whatever they are, both come to the same.
-/
import Derived.Test.YtcpmfjclkdjfmaaGreatConfAa
import Derived.Test.YtcpmfjclkdjfmaaGreatConfX
import Derived.Test.YtcpmfjclkdjfmaaGreatGi
namespace Go.Vc
open Go Go.Proofs Go.Proofs.YtcpmfjclkdjfmaaGreat
set_option maxRecDepth 100000
section
variable {E w : World} {L : List Asrt} {R : Ending → World → Prop} {F G : Fz} {s : Cm.Sm} {c : Cm.Cmd} {q : Sl} {p r : Nat}
def shortC (c : Cm.Cmd) (q : Sl) : Bool := decide (q.2.1 ≤ 100) && (decide (c.host.length ≤ 1000) && (decide (c.pfx.length ≤ 1000) && decide (c.pool.length ≤ 1000)))
theorem short_spec (h : St E L w) (k : ∀ w', St E L w' → R (.returned (.bool (shortC c q))) w') : Calls Tryz.prog 16 #[cmdV c q] w R := by
  refine C_law08_short ?_
  unfold T_law08_short
  intro w9
  have h9 : St E (blkL w.heap.size 42 (cmdL c q) :: L) w9 := h.alloc _
  have e : ∀ s : Cm.Bs, decide (((bs s).size : Int) ≤ 1000) = decide (s.length ≤ 1000) := fun s => by rw [bs_size, Bool.eq_iff_iff]; simp; omega
  have e0 : decide ((q.2.1 : Int) ≤ 100) = decide (q.2.1 ≤ 100) := by rw [Bool.eq_iff_iff]; simp; omega
  refine ⟨_, _, _, rd_fld h9.at_blk rfl rfl, ?_⟩
  rw [e0]
  refine ite_b (fun h1 => ⟨_, rd_fld h9.at_blk rfl rfl, ?_⟩) fun h1 => congB (k _ h9.drop) (by unfold shortC; rw [h1, Bool.false_and])
  rw [e]
  refine ite_b (fun h2 => ⟨_, rd_fld h9.at_blk rfl rfl, ?_⟩) fun h2 => congB (k _ h9.drop) (by unfold shortC; rw [h1, h2, Bool.true_and, Bool.false_and])
  rw [e]
  refine ite_b (fun h3 => ⟨_, rd_fld h9.at_blk rfl rfl, ?_⟩) fun h3 => congB (k _ h9.drop) (by unfold shortC; rw [h1, h2, h3, Bool.true_and, Bool.true_and, Bool.false_and])
  rw [e]
  exact congB (k _ h9.drop) (by unfold shortC; rw [h1, h2, h3, Bool.true_and, Bool.true_and, Bool.true_and])
theorem cmd_at {ds : List (Cm.Cmd × Sl)} {a : Option Addr} {l : Nat} (h : RdS w a l 8 (ds.flatMap fun d => cmdL d.1 d.2)) {j : Nat} (hj : j < ds.length) : ∃ ad, a = some ad ∧ rd w (ad.add (j * 8)) (cmdV ds[j].1 ds[j].2) := by
  obtain ⟨ad, ha, h1, _⟩ := h.elem (f := fun d : Cm.Cmd × Sl => cmdL d.1 d.2) cmdL_len (List.getElem?_eq_getElem hj) (by decide)
  exact ⟨ad, ha, h1⟩
theorem CmdsR.mono {a : Option Addr} {l : Nat} {ds : List (Cm.Cmd × Sl)} (h : CmdsR F a l ds) (k : Fz.le F G) : CmdsR G a l ds := ⟨RdF.mono h.1 k, fun d hd => ⟨(h.2 d hd).1, RdF.mono (h.2 d hd).2 k⟩⟩
set_option maxHeartbeats 2000000 in
/-- play: both stores, at the same state. -/
theorem play_spec {a : Option Addr} {l cc : Nat} {ds : List (Cm.Cmd × Sl)} (hd : CmdsR F a l ds) (h : St E (kn F :: L) w)
    (k : ∀ (G : Fz) (p r : Nat) (s : Cm.Sm) (w' : World), Fz.le F G → Cm.Inv s → St E (stA G p s :: refA G r s :: kn G :: L) w' → R (.returned (.tuple #[.pointer (some ⟨p, 0, none⟩), .pointer (some ⟨r, 0, none⟩), .bool true])) w') :
    Calls Tryz.prog 13 #[.slice a l cc] w R := by
  refine C_law08_play ?_
  unfold T_law08_play
  refine New_spec F h fun p w3 h3 => ⟨_, rfl, RNew_spec F h3 fun r w6 h6 => ⟨_, rfl, ?_⟩⟩
  have n1 := hd.1.count cmdL_len (by decide) h6 at2
  unfold T_law08_play_1
  intro X hX
  refine up_to (min l 150) (Q := fun j => ∀ (w : World) (G : Fz) (s : Cm.Sm), Fz.le F G → Cm.Inv s → St E (stA G p s :: refA G r s :: kn G :: L) w → X (j : Int) w) ?_ w6 F Cm.new (Fz.le_refl F) Cm.Inv.new (h6.f1)
  intro j hj ih w G s hG I h
  refine hX _ _ ?_
  unfold T_law08_play_1_body T_law08_play_2
  refine ite_d (fun h1 => ?_) fun h1 => ite_b (fun hh => by cases hh) fun _ => k G p r s _ hG I h
  refine ite_b (fun h2 => ?_) fun h2 => k G p r s _ hG I h
  have h2 : (j : Int) < 150 := of_decide_eq_true h2
  have hjl : j < ds.length := by omega
  obtain ⟨hok, hrd⟩ := hd.2 _ (List.getElem_mem hjl)
  unfold T_law08_play_3
  intro w23
  have h23 : St E _ w23 := h.drew
  clear_value w23
  obtain ⟨ad, ha, hc⟩ := cmd_at ((RdF.mono hd.1 hG).at h23 at2) hjl
  rw [Int.toNat_natCast, succ_big (by unfold big; omega)]
  refine ⟨by omega, by omega, ad, ha, _, _, _, _, _, _, _, _, _, _, hc, short_spec h23 fun w34 h34 => ⟨_, rfl, trivial, ite_b (fun hs => ?_) fun hs => ⟨trivial, trivial, trivial, ite_b (fun hh => by cases hh) fun _ => ih (by omega) _ G s hG I h34⟩⟩⟩
  obtain ⟨ad2, ha2, hc2⟩ := cmd_at ((RdF.mono hd.1 hG).at h34 at2) hjl
  rw [ha] at ha2
  injection ha2 with ha2
  subst ha2
  refine ⟨by omega, by omega, ad, ha, _, _, _, _, _, _, _, _, _, _, hc2, by omega, by omega, ad, ha, _, _, _, _, _, _, _, _, _, _, hc2, ?_⟩
  refine Do_spec (c := ds[j].1) (q := ds[j].2) (L := refA G r s :: L) I (RdF.mono hrd hG) hok (h34.sel 3 [0, 2, 1]) fun G1 w55 hG1 h55 => ⟨_, _, rfl, ⟨?_, trivial⟩, ?_⟩
  · obtain ⟨ad3, ha3, hc3⟩ := cmd_at ((RdF.mono hd.1 (Fz.le_trans hG hG1)).at h55 at1) hjl
    rw [ha] at ha3
    injection ha3 with ha3
    subst ha3
    exact hc3
  · refine RDo_spec (c := ds[j].1) (q := ds[j].2) (L := stA G1 p (Cm.doC s ds[j].1).1 :: L) I (RdF.mono hrd (Fz.le_trans hG hG1)) hok (St.rf_mono (h55.sel 3 [2, 1, 0]) hG1) fun G2 w59 hG2 h59 => ⟨_, _, rfl, trivial, ?_⟩
    refine runV_ok (res_ne _ _ _ _ _ _) ?_
    refine ⟨_, rfl, trivial, ?_⟩
    refine ite_b (fun hh => ?_) fun _ => ?_
    · simp at hh
    refine ih (by omega) _ G2 (Cm.doC s ds[j].1).1 (Fz.le_trans hG (Fz.le_trans hG1 hG2)) (Cm.doC_keeps I ds[j].1) ?_
    exact St.st_mono (h59.sel 3 [2, 0, 1]) hG2
end
end Go.Vc
