/-
  The document's store's bytes; whether both stores tell the same; the law ConfDoes.
-/
import Derived.Test.YtcpmfjclkdjfmaaGreatConfEe
namespace Go.Vc
open Go Go.Proofs Go.Proofs.YtcpmfjclkdjfmaaGreat Go.RowKit
set_option maxRecDepth 100000
section
variable {E w : World} {L : List Asrt} {R : Ending → World → Prop} {F G : Fz} {s : Cm.Sm} {p r : Nat} {ra pa la : Sl} {v : Int}
set_option maxHeartbeats 2000000 in
theorem rput_l {Kn : Option Addr → Nat → Nat → World → Prop} {Kp : List PanicEntry → World → Prop} {xs : Cm.Bs} {b : Sl} (hm : kn F ∈ L) (hln : s.l.length ≤ 64) (hl : RdF F la.1 la.2.1 4 (s.l.flatMap lcV))
    (h : St E (byA b xs :: blkL r 108 (rfL v ra pa la) :: L) w) (hx : xs.length ≤ 1000000)
    (k : ∀ (w : World) (b : Sl), St E (byA b (xs ++ s.l.flatMap Cm.laB) :: blkL r 108 (rfL v ra pa la) :: L) w → Kn b.1 b.2.1 b.2.2 w) :
    T_ref08_Store_Put_1 b.1 b.2.1 b.2.2 0 (some ⟨r, 0, none⟩) w Kn Kp := by
  have hbig : big = 140737488355328 := rfl
  have n1 := hl.count lcV_len (by decide) h (mem2 hm)
  unfold T_ref08_Store_Put_1
  intro X hX
  refine up_to s.l.length (Q := fun j => ∀ (w : World) (b : Sl), St E (byA b (xs ++ (s.l.take j).flatMap Cm.laB) :: blkL r 108 (rfL v ra pa la) :: L) w → X b.1 b.2.1 b.2.2 (j : Int) w) ?_ w b (by simpa using h)
  intro j hj ih w b h
  refine hX _ _ _ _ _ ?_
  unfold T_ref08_Store_Put_1_body
  refine ⟨_, rfl, _, _, _, rd_fld h.f1.at_blk rfl rfl, ?_⟩
  rw [← n1]
  refine ite_d (fun hc => ?_) fun hc => ?_
  · have hjl : j < s.l.length := by omega
    have hl1 := las_len hln j
    have m1 := num_len s.l[j].client; have m2 := num_len s.l[j].seq; have m3 := num_len s.l[j].e; have m4 := num_len s.l[j].ver
    intro w25
    have h25 : St E _ w25 := h.drew
    clear_value w25
    obtain ⟨ad, ha, _, hk, _⟩ := la_at (hl.at h25 (mem2 hm)) hjl
    have rr : ∀ {w : World} {A B : Asrt}, St E (A :: B :: L) w → ∀ k v, (lcV s.l[j])[k]? = some v → one v = true → rd w ((ad.add (j * 4)).add k) v := fun h k v h1 h2 => by
      obtain ⟨ad', ha', _, hk', _⟩ := la_at (hl.at h (mem2 hm)) hjl
      rw [ha] at ha'
      injection ha' with ha'
      subst ha'
      exact hk' k v h1 h2
    have hsp : ((ad.add (j * 4)).add 2).add 1 = (ad.add (j * 4)).add 3 := by
      have hz := (hl.at h25 (mem2 hm)).cells (by omega)
      obtain ⟨ad', ha', hs', _⟩ := hz
      rw [ha] at ha'
      injection ha' with ha'
      subst ha'
      obtain ⟨bb, oo, sp⟩ := ad
      simp only at hs'
      subst hs'
      rw [add_mk, add_mk, add_mk, add_mk]
    rw [Int.toNat_natCast]
    refine ⟨_, rfl, _, _, _, rd_fld h25.f1.at_blk rfl rfl, by omega, by omega, ad, ha, _, rr h25 0 _ rfl rfl, _, rfl, _, _, _, rd_fld h25.f1.at_blk rfl rfl, by omega, by omega, ad, ha, _, rr h25 1 _ rfl rfl, ?_⟩
    refine Rnum_spec (n := s.l[j].client) h25 (by simp only [List.length_append]; omega) fun w35 b35 h35 => ⟨_, _, _, rfl, ⟨rr h35 1 _ rfl rfl, rd_fld h35.f1.at_blk rfl rfl, rd_fld h35.f1.at_blk rfl rfl, trivial⟩, ?_⟩
    refine Rnum_spec (n := s.l[j].seq) h35 (by simp only [List.length_append]; omega) fun w38 b38 h38 => ⟨_, _, _, rfl, ⟨rd_fld h38.f1.at_blk rfl rfl, rd_fld h38.f1.at_blk rfl rfl, trivial⟩, ?_⟩
    intro w40
    have h40 : St E _ w40 := h38.drew
    clear_value w40
    refine ⟨_, rfl, _, _, _, rd_fld h40.f1.at_blk rfl rfl, by omega, by omega, ad, ha, _, rr h40 2 _ rfl rfl, _, rfl, _, _, _, rd_fld h40.f1.at_blk rfl rfl, by omega, by omega, ad, ha, _, by rw [hsp]; exact rr h40 3 _ rfl rfl, ?_⟩
    refine Rnum_spec (n := s.l[j].e) h40 (by simp only [List.length_append]; omega) fun w50 b50 h50 => ⟨_, _, _, rfl, ⟨by rw [hsp]; exact rr h50 3 _ rfl rfl, rd_fld h50.f1.at_blk rfl rfl, rd_fld h50.f1.at_blk rfl rfl, trivial⟩, ?_⟩
    refine Rnum_spec (n := s.l[j].ver) h50 (by simp only [List.length_append]; omega) fun w53 b53 h53 => ⟨_, _, _, rfl, ⟨rd_fld h53.f1.at_blk rfl rfl, rd_fld h53.f1.at_blk rfl rfl, trivial⟩, ?_⟩
    rw [succ_big (by omega)]
    refine ih hjl _ _ ?_
    rw [List.take_succ_eq_append_getElem hjl, List.flatMap_append]
    simpa [Cm.laB] using h53
  · rw [List.take_of_length_le (by omega)] at h
    exact k _ _ h
/-- (*Store).Put, in the document's words. -/
theorem RPut_spec (hm : kn F ∈ L) (S : Sz s) (hln : s.l.length ≤ 64) (h : St E (refA F r s :: L) w)
    (k : ∀ (w' : World) (b' : Sl), St E (byA b' (Cm.putS s) :: refA F r s :: L) w' → R (.returned (.slice b'.1 b'.2.1 b'.2.2)) w') : Calls Tryz.prog 54 #[.pointer (some ⟨r, 0, none⟩)] w R := by
  have hbig : big = 140737488355328 := rfl
  obtain ⟨ra, pa, la, hc, hl, h⟩ := h.rf_open
  have hcb := confB_len S
  have hn1 := num_len s.ver
  have hn2 := num_len s.l.length
  have nl := hl.count lcV_len (by decide) h (mem1 hm)
  refine C_ref08_Store_Put ?_
  unfold T_ref08_Store_Put
  refine ite_some ?_
  intro w2
  have h2 : St E _ w2 := h.drew
  clear_value w2
  refine ⟨_, rfl, _, rd_cell h2.at_blk rfl rfl, _, rfl, _, _, _, _, _, _, _, rd_rf h2, _, rfl, _, _, _, rd_fld h2.at_blk rfl rfl, ?_⟩
  refine Rnum_spec (s := (none, 0, 0)) (xs := []) h2.by_nil (by rw [List.length_nil]; omega) fun w12 b12 h12 => ⟨_, _, _, rfl, ⟨rd_fld h12.f1.at_blk rfl rfl, rd_rf h12.f1, trivial⟩, ?_⟩
  rw [List.nil_append] at h12
  refine Rconfig_spec (mem1 hm) S hc h12 (by omega) fun w15 b15 h15 => ⟨_, _, _, rfl, ⟨rd_fld h15.f1.at_blk rfl rfl, trivial⟩, ?_⟩
  rw [← nl]
  refine Rnum_spec h15 (by simp only [List.length_append]; omega) fun w18 b18 h18 => ⟨_, _, _, rfl, trivial, ?_⟩
  refine rput_l hm hln hl h18 (by simp only [List.length_append]; omega) fun w60 b60 h60 => k _ _ ?_
  have h9 : St E (byA b60 (Cm.putS s) :: blkL r 108 (rfL s.ver ra pa la) :: L) w60 := by simpa [Cm.putS] using h60
  exact (St.rf_mk hc hl h9.f1).f1
theorem conv_by {b : Sl} {xs : Cm.Bs} (h : St E (byA b xs :: L) w) : (convert 56 9 (.slice b.1 b.2.1 b.2.2)).run Tryz.prog w = .ok (.string (bs xs)) w :=
  convert_string (e := 5) (by kernel_rfl) (by kernel_rfl) (by kernel_rfl) h.rdS_own
set_option maxHeartbeats 4000000 in
/-- same: both at the same state: they tell the same. -/
theorem same_spec (I : Cm.Inv s) (h : St E (stA F p s :: refA F r s :: kn F :: L) w) (k : ∀ (G : Fz) (w' : World), Fz.le F G → St E (stA G p s :: refA G r s :: kn G :: L) w' → R (.returned (.bool true)) w') :
    Calls Tryz.prog 26 #[.pointer (some ⟨p, 0, none⟩), .pointer (some ⟨r, 0, none⟩)] w R := by
  have S := Sz.of I
  have hpn := I.pn
  have hrn := I.rn
  have hln := I.ln
  refine C_law08_same ?_
  unfold T_law08_same T_law08_same_1
  intro w5
  have h5 : St E (stA F p s :: refA F r s :: kn F :: L) w5 := h.drew
  clear_value w5
  refine Config_kn S (h5.sel 3 [0, 2, 1]) fun G1 w7 ra pa hG1 hc1 h7 => ⟨_, _, _, _, _, _, _, rfl, trivial, ?_⟩
  have h8 : St E (refA G1 r s :: kn G1 :: stA G1 p s :: L) w7 := (St.sel (L := stA G1 p s :: kn G1 :: refA F r s :: L) h7 3 [2, 1, 0]).rf_mono hG1
  refine RConfig_spec S h8 fun G2 w12 ra2 pa2 hG2 hc2 h12 => ⟨_, _, _, _, _, _, _, rfl, trivial, ?_⟩
  have l2 := Fz.le_trans hG1 hG2
  have h13 : St E (stA G2 p s :: refA G2 r s :: kn G2 :: L) w12 := (St.sel (L := refA G2 r s :: kn G2 :: stA G1 p s :: L) h12 3 [2, 0, 1]).st_mono hG2
  refine SameConfig_spec (v1 := s.ver) (v2 := s.ver) at2 h13 (hc1.mono hG2) hc2 (by omega) (by omega) (fun x hx => by have := (S.pl x hx).2.1; unfold huge; omega) fun w17 h17 => ⟨_, rfl, trivial, ite_n (fun hh => by simp at hh) fun _ => ?_⟩
  have fin : ∀ {w : World} {x y : Bool}, x = false → St E (stA G2 p s :: refA G2 r s :: kn G2 :: L) w → (fun b49 w50 => if b49 = true then (R (.returned (.bool false)) w50) else (T_law08_same_2 (-1) (some ⟨p, 0, none⟩) (some ⟨r, 0, none⟩) w50 (fun w79 => R (.returned (.bool true)) w79) (fun b80 w81 => R (.returned (.bool b80)) w81) (pan R))) x w := fun {w x y} hx h => by
    subst hx
    refine ite_b (fun hh => by cases hh) fun _ => ?_
    unfold T_law08_same_2
    intro X hX
    have key : ∀ (n : Nat) (i : Int) (w : World), i = 34 - (n : Int) → n ≤ 35 → St E (stA G2 p s :: refA G2 r s :: kn G2 :: L) w → X i w := by
      intro n
      induction n with
      | zero =>
        intro i w hi _ h
        refine hX _ _ ?_
        unfold T_law08_same_2_body
        exact ite_d (fun hh => absurd hh (by omega)) fun _ => k G2 _ l2 h
      | succ n ih =>
        intro i w hi hn h
        refine hX _ _ ?_
        unfold T_law08_same_2_body
        refine ite_d (fun _ => ?_) fun hh => absurd hh (by omega)
        refine Seen_spec h fun w55 h55 => ⟨_, _, _, rfl, ?_⟩
        generalize hq : Cm.seenC s i = sq at *
        intro w59
        have h59 := h55.alloc (.cells #[.int .i64 0, .int .i64 0] 45)
        refine ⟨rfl, ok_res h59 rfl sq.2.1 sq.2.2, ?_⟩
        intro w60
        have h60 : St E (blkL w55.heap.size 45 (rsL sq.2.1 sq.2.2) :: stA G2 p s :: refA G2 r s :: kn G2 :: L) w60 := h59.wr_res rfl sq.2.1 sq.2.2
        clear_value w60
        clear h59
        clear_value w59
        generalize w55.heap.size = b1 at *
        refine RSeen_spec (L := blkL b1 45 (rsL sq.2.1 sq.2.2) :: stA G2 p s :: kn G2 :: L) at2 (by omega) (h60.sel 4 [2, 0, 1, 3]) fun w62 h62 => ?_
        rw [hq]
        refine ⟨_, _, _, rfl, ?_⟩
        intro w66
        have h66 := h62.alloc (.cells #[.int .i64 0, .int .i64 0] 45)
        refine ⟨rfl, ok_res h66 rfl sq.2.1 sq.2.2, ?_⟩
        intro w67
        have h67 : St E (blkL w62.heap.size 45 (rsL sq.2.1 sq.2.2) :: refA G2 r s :: blkL b1 45 (rsL sq.2.1 sq.2.2) :: stA G2 p s :: kn G2 :: L) w67 := h66.wr_res rfl sq.2.1 sq.2.2
        clear_value w67
        refine ite_b (fun hh => by simp at hh) fun _ => ⟨_, _, rd_res h67.f2, _, _, rd_res h67, ?_⟩
        refine runV_ok (res_ne _ _ _ _ _ _) ?_
        refine ⟨_, rfl, ?_⟩
        refine ite_b (fun hh => ?_) fun _ => ?_
        · simp at hh
        · rw [wrap_id (by omega) (by omega)]
          exact ih (i + 1) _ (by omega) (by omega) (h67.sel 5 [3, 1, 4])
    exact key 35 (-1) w (by omega) (by omega) h
  have hne : (!((bs (Cm.putS s)).toList == (bs (Cm.putS s)).toList)) = false := by simp
  refine Put_spec (L := refA G2 r s :: kn G2 :: L) at1 S I.lr (by omega) h17 fun w20 b20 h20 => ⟨_, _, _, rfl, trivial, ⟨?_, ?_⟩⟩
  · refine runV_ok (conv_by h20) ⟨_, rfl, trivial, ?_⟩
    refine RPut_spec (L := byA b20 (Cm.putS s) :: stA G2 p s :: kn G2 :: L) at2 S (by omega) (h20.sel 4 [2, 0, 1, 3]) fun w26 b26 h26 => ⟨_, _, _, rfl, trivial, ?_⟩
    refine runV_ok (conv_by h26) ⟨_, rfl, trivial, ?_⟩
    exact fin (y := true) hne (St.sel (L := byA b26 (Cm.putS s) :: refA G2 r s :: byA b20 (Cm.putS s) :: stA G2 p s :: kn G2 :: L) h26 5 [3, 1, 4])
  · refine RPut_spec (L := byA b20 (Cm.putS s) :: stA G2 p s :: kn G2 :: L) at2 S (by omega) (h20.sel 4 [2, 0, 1, 3]) fun w26 b26 h26 => ⟨_, _, _, rfl, trivial, ⟨?_, ?_⟩⟩
    · refine runV_ok (conv_by h26.f2) ⟨_, rfl, trivial, ?_⟩
      refine runV_ok (conv_by h26) ⟨_, rfl, trivial, ?_⟩
      exact fin (y := true) hne (St.sel (L := byA b26 (Cm.putS s) :: refA G2 r s :: byA b20 (Cm.putS s) :: stA G2 p s :: kn G2 :: L) h26 5 [3, 1, 4])
    · refine runV_ok (conv_by h26) ⟨_, rfl, trivial, ?_⟩
      refine runV_ok (conv_by h26.f2) ⟨_, rfl, trivial, ?_⟩
      exact fin (y := true) hne (St.sel (L := byA b26 (Cm.putS s) :: refA G2 r s :: byA b20 (Cm.putS s) :: stA G2 p s :: kn G2 :: L) h26 5 [3, 1, 4])
theorem does_walk {a : Option Addr} {l cc : Nat} {ds : List (Cm.Cmd × Sl)} (hd : CmdsR F a l ds) (h : St E (kn F :: L) w) (k : ∀ G w', Fz.le F G → St E (kn G :: L) w' → R (.returned (.bool true)) w') : Calls Tryz.prog 7 #[.slice a l cc] w R := by
  refine C_law08_ConfDoes ?_
  unfold T_law08_ConfDoes
  refine play_spec hd h fun G1 p r s w3 hG1 I h3 => ⟨_, _, _, rfl, ?_⟩
  refine live_spec (h3.f2) fun G2 w8 hG2 h8 => ⟨_, rfl, ite_b (fun _ => ite_b (fun _ => ?_) fun hh => by cases hh) fun hh => by cases hh⟩
  have h9 : St E (stA G2 p s :: refA G1 r s :: kn G2 :: L) w8 := (St.sel (L := kn G2 :: stA G1 p s :: refA G1 r s :: L) h8 3 [1, 2, 0]).st_mono hG2
  have h10 : St E (stA G2 p s :: refA G2 r s :: kn G2 :: L) w8 := St.sel (L := refA G2 r s :: stA G2 p s :: kn G2 :: L) (h9.f1.rf_mono hG2) 3 [1, 0, 2]
  exact same_spec I h10 fun G3 w11 hG3 h11 => ⟨_, rfl, k G3 _ (Fz.le_trans hG1 (Fz.le_trans hG2 hG3)) (h11.sel 3 [2])⟩
theorem does_law {H : Type} {enc : TypeId × Value → H} {W : World} {a : Option Addr} {l c : Nat} {d : DataW H} {ps : List MemPlace} (h : DataW.Trod enc Tryz.prog W 0 (fun _ => true) true 22 (.slice a l c) d ps) :
    Calls Tryz.prog 7 #[.slice a l c] W fun e w' => e = .returned (.bool true) ∧ RowKit.Below W.heap.size W w' := by
  obtain ⟨ds, hd, _⟩ := open_cmds h
  exact does_walk hd (St.start_kn W) fun G w' hG h' => ⟨rfl, h'.below_kn hG⟩
end
end Go.Vc
