/-
  The program's store: its bytes, its configuration in new memory.
-/
import Derived.Test.YtcpmfjclkdjfmaaGreatConfO
namespace Go.Vc
open Go Go.Proofs Go.Proofs.YtcpmfjclkdjfmaaGreat
set_option maxRecDepth 100000
section
variable {E w : World} {L : List Asrt} {R : Ending → World → Prop} {F G : Fz} {p : Nat} {s : Cm.Sm}
def clK (x : Cm.Last) : Int := x.client
theorem clients_perm {M : List (Int × LV)} {ls : List Cm.Last} (h : clientsR M ls) : (ls.map clK).Perm (M.map (·.1)) := by
  have := (h.map (·.1)).symm
  rwa [List.map_map] at this
theorem clients_rise {l : List Cm.Last} (h : Cm.rises Cm.laLt l = true) : (l.map clK).Pairwise (· < ·) := by
  rw [List.pairwise_map]
  exact ((Cm.rises_iff Cm.laOrd _).1 h).imp fun {a b} h => of_decide_eq_true h
theorem seen_at {l : List Cm.Last} (h : Cm.rises Cm.laLt l = true) (hs : s.l = l) {x : Cm.Last} (hx : x ∈ l) : Cm.seenC s x.client = (x.seq, x.e, x.ver) := by
  unfold Cm.seenC
  rw [hs]
  cases hf : l.find? fun y => decide (y.client = x.client) with
  | some y =>
    have hy := List.mem_of_find?_eq_some hf
    have hk : y.client = x.client := by simpa using List.find?_some hf
    have := Cm.rises_same_eq Cm.laOrd h hy hx (decide_eq_true hk)
    rw [this]
  | none => exact absurd (List.find?_eq_none.1 hf x hx) (by simp)
theorem int_at {a : Option Addr} {ks : List Int} (h : RdS w a ks.length 1 (ks.flatMap celI)) {j : Nat} (hj : j < ks.length) : ∃ ad, a = some ad ∧ rd w (ad.add (j * 1)) (.int .i64 ks[j]) := by
  obtain ⟨ad, ha, _, hk⟩ := h.elem (f := celI) (fun _ => rfl) (List.getElem?_eq_getElem hj) (by decide)
  exact ⟨ad, ha, hk 0 _ rfl rfl⟩
theorem laB_len (x : Cm.Last) : (Cm.laB x).length ≤ 24 := by
  have := num_len x.client; have := num_len x.seq; have := num_len x.e; have := num_len x.ver
  simp only [Cm.laB, List.length_append]; omega
theorem las_len {l : List Cm.Last} (hl : l.length ≤ 64) (j : Nat) : ((l.take j).flatMap Cm.laB).length ≤ 1536 := by
  have h1 := flat_max (f := Cm.laB) (c := 24) (l := l.take j) fun a _ => laB_len a
  have h2 : (l.take j).length ≤ 64 := by simp; omega
  have : (l.take j).length * 24 ≤ 64 * 24 := Nat.mul_le_mul_right _ h2
  omega
set_option maxHeartbeats 1000000 in
theorem put_l {Kn : Option Addr → Nat → Nat → World → Prop} {Kp : List PanicEntry → World → Prop} {xs : Cm.Bs} {b : Sl} {ka : Option Addr} {kc mp mr mc : Nat} {Mp : List (Cm.Bs × PV)} {Mr : List (Pr × Cm.Bs)} {Mc : List (Int × LV)} (hlr : Cm.rises Cm.laLt s.l = true) (hln : s.l.length ≤ 64) (hcl : clientsR Mc s.l)
    (h : St E (byA b xs :: ownS ka (s.l.map clK).length kc 3 1 ((s.l.map clK).flatMap celI) :: st4 p s.ver mp mr mc Mp Mr Mc L) w) (hxl : xs.length ≤ 1000000)
    (k : ∀ (w : World) (b : Sl), St E (byA b (xs ++ s.l.flatMap Cm.laB) :: ownS ka (s.l.map clK).length kc 3 1 ((s.l.map clK).flatMap celI) :: st4 p s.ver mp mr mc Mp Mr Mc L) w → Kn b.1 b.2.1 b.2.2 w) :
    T_conf_Store_Put_1 b.1 b.2.1 b.2.2 0 (some ⟨p, 0, none⟩) ka (s.l.map clK).length kc (((s.l.map clK).length : Nat) : Int) w Kn Kp := by
  have hbig : big = 140737488355328 := rfl
  unfold T_conf_Store_Put_1
  intro X hX
  refine up_to s.l.length (Q := fun j => ∀ (w : World) (b : Sl), St E (byA b (xs ++ (s.l.take j).flatMap Cm.laB) :: ownS ka (s.l.map clK).length kc 3 1 ((s.l.map clK).flatMap celI) :: st4 p s.ver mp mr mc Mp Mr Mc L) w → X b.1 b.2.1 b.2.2 (j : Int) w) ?_ w b (by simpa using h)
  intro j hj ih w b h
  refine hX _ _ _ _ _ ?_
  unfold T_conf_Store_Put_1_body
  rw [List.length_map]
  refine ite_d (fun hc => ?_) (fun hc => ?_)
  · have hjl : j < s.l.length := by omega
    obtain ⟨ad, ha, hrd⟩ := int_at (ks := s.l.map clK) h.f1.rdS_own (j := j) (by simpa using hjl)
    rw [List.getElem_map] at hrd
    have hsl := seen_at (s := s) hlr rfl (List.getElem_mem hjl)
    have hlk := look_client hcl h.f5 s.l[j].client
    rw [hsl] at hlk
    refine ⟨by omega, by omega, ad, ha, _, by rw [Int.toNat_natCast]; exact hrd, _, rfl, _, rd_fld h.f2.at_blk rfl rfl, runV_ok hlk ⟨_, _, _, rfl, ?_⟩⟩
    have hl1 := las_len hln j
    have n1 := num_len s.l[j].client; have n2 := num_len s.l[j].seq; have n3 := num_len s.l[j].e; have n4 := num_len s.l[j].ver
    intro w41
    have h41 := h.alloc (.cells #[.int .i64 0, .int .i64 0, .int .i64 0] 91)
    refine ⟨rfl, ok_seen h41 rfl (s.l[j].seq, s.l[j].e, s.l[j].ver), ?_⟩
    intro w42 w43
    have h43 : St E (blkL w.heap.size 91 (seenL (s.l[j].seq, s.l[j].e, s.l[j].ver)) :: byA b (xs ++ (s.l.take j).flatMap Cm.laB) :: ownS ka (s.l.map clK).length kc 3 1 ((s.l.map clK).flatMap celI) :: st4 p s.ver mp mr mc Mp Mr Mc L) w43 := (h41.wr_seen rfl (s.l[j].seq, s.l[j].e, s.l[j].ver)).drew
    clear_value w43
    refine ⟨_, rd_cell h43.at_blk rfl rfl, _, rd_fld h43.at_blk rfl rfl, _, rd_fld (k := 2) h43.at_blk rfl rfl, ?_⟩
    refine num_spec (n := s.l[j].client) h43.f1 (by simp only [List.length_append]; omega) fun w48 b48 h48 => ⟨_, _, _, rfl, ⟨rd_fld (k := 2) h48.f1.at_blk rfl rfl, rd_fld h48.f1.at_blk rfl rfl, rd_cell h48.f1.at_blk rfl rfl, trivial⟩, ?_⟩
    refine num_spec (n := s.l[j].seq) h48 (by simp only [List.length_append]; omega) fun w51 b51 h51 => ⟨_, _, _, rfl, ⟨rd_fld (k := 2) h51.f1.at_blk rfl rfl, rd_fld h51.f1.at_blk rfl rfl, trivial⟩, ?_⟩
    refine num_spec (n := s.l[j].e) h51 (by simp only [List.length_append]; omega) fun w54 b54 h54 => ⟨_, _, _, rfl, ⟨rd_fld (k := 2) h54.f1.at_blk rfl rfl, trivial⟩, ?_⟩
    refine num_spec (n := s.l[j].ver) h54 (by simp only [List.length_append]; omega) fun w57 b57 h57 => ⟨_, _, _, rfl, trivial, ?_⟩
    rw [succ_big (by omega)]
    refine ih hjl _ _ ?_
    rw [List.take_succ_eq_append_getElem hjl, List.flatMap_append]
    have := h57.f1.drop
    simpa [Cm.laB] using this
  · rw [List.take_of_length_le (by omega)] at h
    exact k _ _ h
/-- (*Store).Put: P8.4. -/
theorem Put_spec (hm : kn F ∈ L) (S : Sz s) (hlr : Cm.rises Cm.laLt s.l = true) (hln : s.l.length ≤ 64) (h : St E (stA F p s :: L) w)
    (k : ∀ (w' : World) (b' : Sl), St E (byA b' (Cm.putS s) :: stA F p s :: L) w' → R (.returned (.slice b'.1 b'.2.1 b'.2.2)) w') : Calls Tryz.prog 25 #[.pointer (some ⟨p, 0, none⟩)] w R := by
  have hbig : big = 140737488355328 := rfl
  obtain ⟨mp, mr, mc, Mp, Mr, Mc, hp, hr, hcl, h⟩ := h.st_open
  have hlc : Mc.length = s.l.length := by have := List.Perm.length_eq hcl; simpa using this
  have hcb := confB_len S
  have hn1 := num_len s.ver
  have hn2 := num_len s.l.length
  refine C_conf_Store_Put ?_
  unfold T_conf_Store_Put
  refine ite_some ?_
  intro w2
  have h2 : St E _ w2 := h.drew
  clear_value w2
  refine ⟨_, rfl, _, rd_cell h2.at_blk rfl rfl, _, rfl, _, rd_fld h2.at_blk rfl rfl, num_spec (s := (none, 0, 0)) (xs := []) h2.by_nil (by rw [List.length_nil]; omega) fun w8 b8 h8 => ⟨_, _, _, rfl, ⟨rd_fld h8.f1.at_blk rfl rfl, trivial⟩, ?_⟩⟩
  rw [List.nil_append] at h8
  refine config_spec4 hm S hp hr h8 (by omega) fun w11 b11 h11 => ⟨_, _, _, rfl, ⟨rd_fld h11.f1.at_blk rfl rfl, trivial⟩, runV_ok (lenMap_run und_clients h11.f4 _ _ rfl) ⟨_, rfl, trivial, ?_⟩⟩
  rw [hlc]
  refine num_spec h11 (by simp only [List.length_append]; omega) fun w17 b17 h17 => ⟨_, _, _, rfl, trivial, ?_⟩
  refine ⟨_, rfl, _, rd_fld h17.f1.at_blk rfl rfl, KeysI_spec h17 fun B w22 h22 => ⟨_, rfl, rfl, ?_⟩⟩
  refine SortedI_spec (ks := s.l.map clK) (L := byA b17 (Cm.num s.ver ++ Cm.confB s.pools s.routes ++ Cm.num s.l.length) :: blkL p 79 (stL s.ver mp mr mc) :: mapA mp encS pvV Mp :: mapA mr encP encS Mr :: L) (h22.sel 6 [0, 5, 1, 2, 3, 4]) (by omega) (clients_perm hcl) (clients_rise hlr) fun ka kc w25 h25 => ⟨_, _, _, rfl, ?_⟩
  have h25 : St E (byA b17 (Cm.num s.ver ++ Cm.confB s.pools s.routes ++ Cm.num s.l.length) :: ownS ka (s.l.map clK).length kc 3 1 ((s.l.map clK).flatMap celI) :: st4 p s.ver mp mr mc Mp Mr Mc L) w25 := h25.sel 6 [2, 0, 3, 4, 5, 1]
  generalize hy : Cm.num s.ver ++ Cm.confB s.pools s.routes ++ Cm.num s.l.length = xs at h25
  have hxl : xs.length ≤ 1000000 := by rw [← hy]; simp only [List.length_append]; omega
  refine put_l hlr hln hcl h25 hxl fun w b h => k _ _ ?_
  rw [← hy] at h
  have h9 : St E (byA b (Cm.putS s) :: st4 p s.ver mp mr mc Mp Mr Mc L) w := by simpa [Cm.putS] using h.f1.drop
  exact (St.st_mk hp hr hcl (h9.sel 5 [1, 2, 3, 4, 0])).f1
end
end Go.Vc
