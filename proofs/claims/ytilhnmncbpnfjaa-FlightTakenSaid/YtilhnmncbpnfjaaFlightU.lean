/-
  The rest of the ref's net: Double, Part, Heal, Parted, the clocks, Fork.
-/
import Derived.Test.YtilhnmncbpnfjaaFlightT
namespace Go.Vc
open Go Go.Proofs Go.Proofs.Ytilhnmncbpnfjaa

section
variable {E w : World} {L : List Asrt} {p : Nat} {N : RNet} {R : Ending → World → Prop}

theorem rdouble_spec {i : Int} (h : St E (refA p N :: L) w) (hN : okR N)
    (kn : ∀ w', (i < 0 ∨ ((rUnder N).length : Int) ≤ i) → St E (refA p N :: L) w' → R (.returned (.tuple #[.int .i64 0, .int .i64 8])) w')
    (kl : ∀ w' (j : Nat) (q : Pkt), N.all[j]? = some (q, false) → ((lives (N.all.take j)).length : Int) = i → 128 ≤ (rUnder N).length → St E (refA p N :: L) w' → R (.returned (.tuple #[.int .i64 0, .int .i64 6])) w')
    (ks : ∀ w' (j : Nat) (q : Pkt), N.all[j]? = some (q, false) → ((lives (N.all.take j)).length : Int) = i → ¬ 128 ≤ (rUnder N).length →
      St E (refA p { N with all := N.all ++ [(⟨(N.all.length : Int) + 1, q.fr, q.to, q.bytes⟩, false)] } :: L) w' → R (.returned (.tuple #[.int .i64 ((N.all.length : Int) + 1), .int .i64 0])) w') :
    Calls Try.prog 28 #[.pointer (some ⟨p, 0, none⟩), .int .i64 i] w R := by
  obtain ⟨s, qs, hp, hc, hq, ho⟩ := h.ref_open
  refine C_ref04_Net_Double ?_
  unfold T_ref04_Net_Double
  have hm : N.all.length ≤ 100000 := by have := hN.1; omega
  refine ite_some (place_spec ho.at_blk ho.f1.rdS_own hq hm (fun hi => ⟨_, rfl, ?_⟩) (fun j q hjl hj hcnt => ⟨_, rfl, ?_⟩))
  · exact ite_d (fun _ => kn _ hi h) (fun hh => absurd (by decide) hh)
  · refine ite_d (fun hh => absurd hh (by omega)) (fun _ => ?_)
    refine rlen_spec h hm fun w7 h7 => ⟨_, rfl, ite_d (fun hf => kl _ j q hj hcnt (by omega) h7) (fun hf => ?_)⟩
    obtain ⟨s, qs, hp, hc, hq, ho⟩ := h7.ref_open
    have hct := ref_count hq ho
    have hjq : j < qs.length := by omega
    have haj : qs[j].1 = (q, false) := by
      have h1 : N.all[j]? = some qs[j].1 := by rw [← hq, List.getElem?_map, List.getElem?_eq_getElem hjq]; rfl
      rw [hj] at h1; exact (Option.some.inj h1).symm
    have hqj := List.getElem?_eq_getElem hjq
    obtain ⟨ad, ha, hrd, _⟩ := ho.f1.rdS_own.elem sentV_len hqj (by decide)
    have hpk : rd w7 (ad.add (j * 5)) (.agg ⟨pktV (pk qs[j])⟩) := by
      intro m u hu
      refine hrd m u ?_
      have hm : m < 4 := by have := (Array.getElem?_eq_some_iff.1 hu).1; simpa [Value.cells, pktV] using this
      match m, hm with
      | 0, _ => exact hu
      | 1, _ => exact hu
      | 2, _ => exact hu
      | 3, _ => exact hu
    simp -zeta only [Int.toNat_natCast]
    refine ⟨_, rfl, _, _, _, rd_cell ho.at_blk rfl rfl, by omega, by omega, ad, ha, _, _, _, _, _, _, hpk, ?_⟩
    intro w16
    have h16 := ho.alloc (.cells #[.int .i64 0, .int .i64 0, .int .i64 0, .slice none 0 0] 41)
    refine ⟨rfl, wrOk_agg h16.at_blk (by simp) (pktV_one1 (pk qs[j])), ?_⟩
    intro w17
    have h17 := h16.wr_agg0 (xs := pktV (pk qs[j])) rfl
    refine ⟨_, rd_fld h17.at_blk (l := pktV (pk qs[j])) rfl rfl, _, rd_fld h17.at_blk (l := pktV (pk qs[j])) rfl rfl, _, _, _, rd_fld h17.at_blk (l := pktV (pk qs[j])) rfl rfl, ?_⟩
    have hmem : pk qs[j] ∈ qs.map pk := List.mem_map_of_mem (List.getElem_mem hjq)
    have hsee : Sees E (rosA (qs.map pk) :: L) qs[j].2.1 qs[j].2.2.1 1 (bytesV qs[j].1.1.bytes) := fun w hw => hw.ros_rd hmem
    have hlen : qs[j].2.2.1 ≤ 65536 := by
      have h1 := (hsee _ ho.drop.drop).1
      have h2 := hN.2.1 qs[j].1 (by rw [← hq]; exact List.mem_map_of_mem (List.getElem_mem hjq))
      rw [bytesV_len] at h1; omega
    refine radd_spec (f := qs[j].1.1.fr) (t := qs[j].1.1.to) (bs := qs[j].1.1.bytes) (h17.drop :) hsee (by omega) (show qs[j].2.2.1 ≤ 1000000 by omega) fun w2 s' sl h2 => ⟨_, rfl, ?_⟩
    have hn : (qs.length : Int) = (N.all.length : Int) := by rw [← hq, List.length_map]
    rw [hn] at h2 ⊢
    have hq1 : qs[j].1.1 = q := by rw [haj]
    show R (.returned (.tuple #[.int .i64 ((N.all.length : Int) + 1), .int .i64 0])) w2
    rw [hq1] at h2
    exact ks _ j q hj hcnt (by omega) (St.ref_added h2 hp hc hq)

theorem gone_set {s : Sl} {n : Nat} {b : Bool} (hn : n < N.parted.length) : (refV N s).set (1 + n) (.bool b) = refV { N with parted := N.parted.set n b } s := by
  show (_ :: (N.parted.map Value.bool ++ N.clocks.map vvI)).set (1 + n) _ = _ :: ((N.parted.set n b).map Value.bool ++ N.clocks.map vvI)
  rw [Nat.add_comm 1, List.set_cons_succ, List.set_append_left _ _ (by simpa using hn), List.map_set]
def rHeal (N : RNet) (f t : Int) : RNet × Int := if isLink f t = false then (N, 2) else ({ N with parted := N.parted.set (10 * f + t).toNat false }, 0)
theorem rheal_spec {f t : Int} (h : St E (refA p N :: L) w) (k : ∀ w', St E (refA p (rHeal N f t).1 :: L) w' → R (.returned (.int .i64 (rHeal N f t).2)) w') :
    Calls Try.prog 49 #[.pointer (some ⟨p, 0, none⟩), .int .i64 f, .int .i64 t] w R := by
  obtain ⟨s, qs, hp, hc, hq, ho⟩ := h.ref_open
  refine C_ref04_Net_Heal ?_
  unfold T_ref04_Net_Heal
  refine ite_some (rlink_spec ⟨_, rfl, ite_n (fun hl => ?_) (fun hl => ?_)⟩)
  · rw [show rHeal N f t = (N, 2) by simp [rHeal, hl]] at k
    exact k _ h
  · rw [show rHeal N f t = ({ N with parted := N.parted.set (10 * f + t).toNat false }, 0) by simp only [rHeal, hl]; rw [if_neg (by simp)]] at k
    obtain ⟨g1, g2, g3, g4⟩ := gone_cell (N := N) (s := s) hp hl
    rw [g3]
    refine ⟨_, rfl, g1, g2, rfl, ?_⟩
    rw [gone_addr]
    refine ⟨wrOk_fld ho.at_blk (by rw [refV_len hp hc]; omega) rfl, ?_⟩
    intro w8
    have h8 := ho.wr_fld (k := 1 + (10 * f + t).toNat) (v := .bool false) rfl
    rw [gone_set (by omega)] at h8
    exact k _ (St.ref_mk h8 (by simpa using hp) hc hq)
theorem rparted_spec {f t : Int} (h : St E (refA p N :: L) w) (k : R (.returned (.bool (isLink f t && gone N f t))) w) :
    Calls Try.prog 52 #[.pointer (some ⟨p, 0, none⟩), .int .i64 f, .int .i64 t] w R := by
  obtain ⟨s, qs, hp, hc, hq, ho⟩ := h.ref_open
  refine C_ref04_Net_Parted ?_
  unfold T_ref04_Net_Parted
  rw [if_pos (by rfl)]
  refine rlink_spec ⟨_, rfl, ite_b (fun hl => ?_) (fun hl => ?_)⟩
  · obtain ⟨g1, g2, g3, g4⟩ := gone_cell (N := N) (s := s) hp hl
    rw [g3]
    refine ⟨_, rfl, g1, g2, gone N f t, by rw [gone_addr]; exact rd_fld ho.at_blk g4 rfl, ?_⟩
    rwa [hl, Bool.true_and] at k
  · rwa [hl, Bool.false_and] at k

def rMark (f t : Int) (q : Pkt × Bool) : Pkt × Bool := if onLink f t q.1 = true then (q.1, true) else q
def sMark (f t : Int) (q : SPk) : SPk := if onLink f t q.1.1 = true then dead q else q
theorem sMark_fst {f t : Int} (q : SPk) : (sMark f t q).1 = rMark f t q.1 := by unfold sMark rMark; split <;> rfl
theorem sMark_pk {f t : Int} (q : SPk) : pk (sMark f t q) = pk q := by unfold sMark; split <;> rfl
def rPart (N : RNet) (f t : Int) : RNet × Int := if isLink f t = false then (N, 2) else ({ N with parted := N.parted.set (10 * f + t).toNat true, all := N.all.map (rMark f t) }, 0)
theorem rpart_spec {f t : Int} (h : St E (refA p N :: L) w) (hN : okR N) (k : ∀ w', St E (refA p (rPart N f t).1 :: L) w' → R (.returned (.int .i64 (rPart N f t).2)) w') :
    Calls Try.prog 48 #[.pointer (some ⟨p, 0, none⟩), .int .i64 f, .int .i64 t] w R := by
  obtain ⟨s, qs, hp, hc, hq, ho⟩ := h.ref_open
  have hct := ref_count hq ho
  have hm := hN.1
  refine C_ref04_Net_Part ?_
  unfold T_ref04_Net_Part
  refine ite_some (rlink_spec ⟨_, rfl, ite_n (fun hl => ?_) (fun hl => ?_)⟩)
  · rw [show rPart N f t = (N, 2) by simp [rPart, hl]] at k
    exact k _ h
  · rw [show rPart N f t = ({ N with parted := N.parted.set (10 * f + t).toNat true, all := N.all.map (rMark f t) }, 0) by simp only [rPart, hl]; rw [if_neg (by simp)]] at k
    obtain ⟨g1, g2, g3, g4⟩ := gone_cell (N := N) (s := s) hp hl
    rw [g3]
    refine ⟨_, rfl, g1, g2, rfl, ?_⟩
    rw [gone_addr]
    refine ⟨wrOk_fld ho.at_blk (by rw [refV_len hp hc]; omega) rfl, ?_⟩
    intro w8
    have h8 := ho.wr_fld (k := 1 + (10 * f + t).toNat) (v := .bool true) rfl
    rw [gone_set (by omega)] at h8
    unfold T_ref04_Net_Part_1
    intro X hX
    have go : ∀ (n j : Nat) (w : World), n = s.2.1 - j → j ≤ s.2.1 →
        St E (blkL p 77 (refV { N with parted := N.parted.set (10 * f + t).toNat true } s) :: ownS s.1 s.2.1 s.2.2 73 5 (((qs.take j).map (sMark f t) ++ qs.drop j).flatMap sentV) :: rosA (qs.map pk) :: L) w → X (j : Int) w := by
      intro n
      induction n with
      | zero =>
        intro j w hn hj h
        refine hX _ _ ?_
        unfold T_ref04_Net_Part_1_body
        refine ⟨_, rfl, _, _, _, rd_cell h.at_blk rfl rfl, ite_d (fun hh => absurd hh (by omega)) (fun _ => ?_)⟩
        rw [List.take_of_length_le (by omega), List.drop_of_length_le (by omega), List.append_nil] at h
        refine k _ (St.ref_mk (N := { N with parted := N.parted.set (10 * f + t).toNat true, all := N.all.map (rMark f t) }) (s := s) (qs := qs.map (sMark f t)) ?_ (by simpa using hp) hc ?_)
        · rw [List.map_map, show (pk ∘ sMark f t) = pk from funext sMark_pk]
          exact h
        · rw [← hq, List.map_map, List.map_map]
          exact List.map_congr_left fun q _ => sMark_fst q
      | succ n ih =>
        intro j w hn hj h
        refine hX _ _ ?_
        unfold T_ref04_Net_Part_1_body T_ref04_Net_Part_2
        have hjq : j < qs.length := by omega
        have hlt : ((qs.take j).map (sMark f t)).length = j := by simp; omega
        have hqj : ((qs.take j).map (sMark f t) ++ qs.drop j)[j]? = some qs[j] := by
          rw [List.getElem?_append_right (by omega), hlt, Nat.sub_self, List.getElem?_drop, Nat.add_zero, List.getElem?_eq_getElem hjq]
        have hb := h.at_blk
        obtain ⟨ad, ha, _, hcell⟩ := h.f1.rdS_own.elem sentV_len hqj (by decide)
        simp -zeta only [Int.toNat_natCast]
        refine ⟨_, rfl, _, _, _, rd_cell hb rfl rfl, ite_d (fun _ => ?_) (fun hh => absurd hh (by omega))⟩
        refine ⟨_, rfl, _, _, _, rd_cell hb rfl rfl, by omega, by omega, ad, ha, _, hcell 1 _ rfl rfl, ?_⟩
        have hset : ∀ q', ((qs.take j).map (sMark f t) ++ qs.drop j).set j q' = (qs.take j).map (sMark f t) ++ q' :: qs.drop (j + 1) := by
          intro q'
          rw [List.set_append_right _ _ (by omega), hlt, Nat.sub_self, List.drop_eq_getElem_cons hjq, List.set_cons_zero]
        have hnext : (qs.take j).map (sMark f t) ++ sMark f t qs[j] :: qs.drop (j + 1) = (qs.take (j + 1)).map (sMark f t) ++ qs.drop (j + 1) := by
          rw [List.take_succ_eq_append_getElem hjq, List.map_append]; simp
        -- it is not on the link
        have off : onLink f t qs[j].1.1 = false → X (IntKind.wrap .i64 ((j : Int) + 1)) w := by
          intro hoff
          rw [wrap_id (by omega) (by omega)]
          have hsm : sMark f t qs[j] = qs[j] := by simp [sMark, hoff]
          rw [List.drop_eq_getElem_cons hjq] at h
          have h2 := h
          rw [← hsm, hsm, show qs[j] :: qs.drop (j + 1) = sMark f t qs[j] :: qs.drop (j + 1) by rw [hsm], hnext] at h2
          have := ih (j + 1) w (by omega) (by omega) h2
          exact_mod_cast this
        split
        · rename_i h1
          have h1' : qs[j].1.1.fr = f := by simpa using h1
          refine ⟨_, rfl, _, _, _, rd_cell hb rfl rfl, by omega, by omega, ad, ha, _, hcell 2 _ rfl rfl, ?_⟩
          split
          · rename_i h2
            have h2' : qs[j].1.1.to = t := by simpa using h2
            have hon : onLink f t qs[j].1.1 = true := by simp [onLink, h1', h2']
            refine ⟨_, rfl, _, _, _, rd_cell hb rfl rfl, by omega, by omega, ad, ha, rfl, ?_⟩
            rw [h.f1.own_add ha]
            have hlt2 : j * 5 + 4 < (((qs.take j).map (sMark f t) ++ qs.drop j).flatMap sentV).length := by
              rw [flat_len sentV_len]; simp only [List.length_append, List.length_drop, hlt]; omega
            obtain ⟨hok, h35⟩ := h.f1.ownS_set ha hlt2 (v := .bool true) rfl
            rw [flat_set1 (v := .bool true) sentV_len _ j 4 qs[j] (dead qs[j]) hqj (by decide) rfl, hset, show dead qs[j] = sMark f t qs[j] by simp [sMark, hon], hnext] at h35
            refine ⟨hok, ?_⟩
            intro w35
            rw [wrap_id (by omega) (by omega)]
            have := ih (j + 1) w35 (by omega) (by omega) h35.f1
            exact_mod_cast this
          · rename_i h2
            exact off (by simp only [beq_iff_eq] at h2; simp [onLink, h2])
        · rename_i h1
          refine ite_b (fun hh => by cases hh) (fun _ => ?_)
          exact off (by simp only [beq_iff_eq] at h1; simp [onLink, h1])
    have := go s.2.1 0 w8 (by omega) (by omega) (by simpa using h8)
    exact this

theorem rclock_cell {s : Sl} {i : Nat} (hp : N.parted.length = 100) (hi : i < N.clocks.length) : (refV N s)[101 + i]? = some (.int .i64 (N.clocks.getD i 0)) := by
  show (_ :: (N.parted.map Value.bool ++ N.clocks.map vvI))[101 + i]? = _
  rw [show 101 + i = (100 + i) + 1 by omega, List.getElem?_cons_succ, List.getElem?_append_right (by simp [hp])]
  simp [hp, vvI, List.getD, hi]
theorem rclock_set {s : Sl} {i : Nat} {v : Int} (hp : N.parted.length = 100) : (refV N s).set (101 + i) (.int .i64 v) = refV { N with clocks := N.clocks.set i v } s := by
  show (_ :: (N.parted.map Value.bool ++ N.clocks.map vvI)).set (101 + i) _ = _ :: (N.parted.map Value.bool ++ (N.clocks.set i v).map vvI)
  rw [show 101 + i = (100 + i) + 1 by omega, List.set_cons_succ, List.set_append_right _ _ (by simp [hp])]
  simp [hp, vvI]
theorem rclock_addr {n : Nat} : ((⟨p, 0, none⟩ : Addr).add 101).add (n * 1) = (⟨p, 0, none⟩ : Addr).add (101 + n) := by rw [add_mk, add_mk, add_mk]; simp
def rTick (N : RNet) (k : Int) : RNet × Int × Int :=
  if isNode k = false then (N, 0, 2)
  else ({ N with clocks := N.clocks.set k.toNat (N.clocks.getD k.toNat 0 + 1) }, N.clocks.getD k.toNat 0 + 1, 0)
theorem rtick_spec {n : Int} (h : St E (refA p N :: L) w) (hN : okR N)
    (k : ∀ w', St E (refA p (rTick N n).1 :: L) w' → R (.returned (.tuple #[.int .i64 (rTick N n).2.1, .int .i64 (rTick N n).2.2])) w') :
    Calls Try.prog 50 #[.pointer (some ⟨p, 0, none⟩), .int .i64 n] w R := by
  obtain ⟨s, qs, hp, hc, hq, ho⟩ := h.ref_open
  refine C_ref04_Net_Tick ?_
  unfold T_ref04_Net_Tick T_ref04_Net_Tick_1
  have bad : isNode n = false → R (.returned (.tuple #[.int .i64 0, .int .i64 2])) w := fun hl => by
    rw [show rTick N n = (N, 0, 2) by simp [rTick, hl]] at k
    exact k _ h
  refine ite_some (ite_d (fun hn => ?_) (fun hn => ?_))
  · exact ite_b (fun _ => bad (by simp [isNode]; omega)) (fun hh => by cases hh)
  · refine ite_d (fun h9 => bad (by simp [isNode]; omega)) (fun h9 => ?_)
    intro w6
    have h6 := ho.drew
    have hl : isNode n = true := by simp [isNode]; omega
    have hi : n.toNat < N.clocks.length := by omega
    have hb : 0 ≤ N.clocks.getD n.toNat 0 ∧ N.clocks.getD n.toNat 0 ≤ 100000 := by
      refine hN.2.2 _ ?_
      rw [show N.clocks.getD n.toNat 0 = N.clocks[n.toNat] by simp [List.getD, hi]]; exact List.getElem_mem _
    rw [show rTick N n = ({ N with clocks := N.clocks.set n.toNat (N.clocks.getD n.toNat 0 + 1) }, N.clocks.getD n.toNat 0 + 1, 0) by simp only [rTick, hl]; rw [if_neg (by simp)]] at k
    refine ⟨_, rfl, by omega, by omega, N.clocks.getD n.toNat 0, by rw [rclock_addr]; exact rd_fld h6.at_blk (rclock_cell hp hi) rfl, _, rfl, by omega, by omega, rfl, ?_⟩
    rw [rclock_addr, wrap_id (by omega) (by omega)]
    refine ⟨wrOk_fld h6.at_blk (by rw [refV_len hp hc]; omega) rfl, ?_⟩
    intro w10
    have h10 := h6.wr_fld (k := 101 + n.toNat) (v := .int .i64 (N.clocks.getD n.toNat 0 + 1)) rfl
    rw [rclock_set hp] at h10
    have hv : (N.clocks.set n.toNat (N.clocks.getD n.toNat 0 + 1)).getD n.toNat 0 = N.clocks.getD n.toNat 0 + 1 := by simp [List.getD, hi]
    refine ⟨trivial, _, rfl, by omega, by omega, (N.clocks.set n.toNat (N.clocks.getD n.toNat 0 + 1)).getD n.toNat 0, by rw [rclock_addr]; exact rd_fld h10.at_blk (rclock_cell (N := { N with clocks := N.clocks.set n.toNat (N.clocks.getD n.toNat 0 + 1) }) hp (by simpa using hi)) rfl, ?_⟩
    rw [hv]
    exact k _ (St.ref_mk h10 hp (by simpa using hc) hq)
def rNow (N : RNet) (k : Int) : Int := if isNode k = false then 0 else N.clocks.getD k.toNat 0
theorem rnow_spec {n : Int} (h : St E (refA p N :: L) w) (k : R (.returned (.int .i64 (rNow N n))) w) :
    Calls Try.prog 51 #[.pointer (some ⟨p, 0, none⟩), .int .i64 n] w R := by
  obtain ⟨s, qs, hp, hc, hq, ho⟩ := h.ref_open
  refine C_ref04_Net_Now ?_
  unfold T_ref04_Net_Now T_ref04_Net_Now_1
  have bad : isNode n = false → R (.returned (.int .i64 0)) w := fun hl => by
    rwa [show rNow N n = 0 by simp [rNow, hl]] at k
  refine ite_some (ite_d (fun hn => ?_) (fun hn => ?_))
  · exact ite_b (fun _ => bad (by simp [isNode]; omega)) (fun hh => by cases hh)
  · refine ite_d (fun h9 => bad (by simp [isNode]; omega)) (fun h9 => ?_)
    have hl : isNode n = true := by simp [isNode]; omega
    refine ⟨_, rfl, by omega, by omega, N.clocks.getD n.toNat 0, by rw [rclock_addr]; exact rd_fld ho.at_blk (rclock_cell hp (by omega)) rfl, ?_⟩
    rwa [show rNow N n = N.clocks.getD n.toNat 0 by simp only [rNow, hl]; rw [if_neg (by simp)]] at k

theorem zc_net : (zc Try.prog 77).size = 111 := by kernel_rfl
theorem refV_one {s : Sl} : ∀ u ∈ refV N s, one u = true := by
  intro u hu
  simp only [refV, List.mem_cons, List.mem_append, List.mem_map] at hu
  rcases hu with rfl | ⟨b, _, rfl⟩ | ⟨c, _, rfl⟩ <;> rfl
theorem rfork_spec (h : St E (refA p N :: L) w) (hN : okR N) (k : ∀ w' p', St E (refA p' N :: refA p N :: L) w' → R (.returned (.pointer (some ⟨p', 0, none⟩))) w') :
    Calls Try.prog 36 #[.pointer (some ⟨p, 0, none⟩)] w R := by
  obtain ⟨s, qs, hp, hc, hq, ho⟩ := h.ref_open
  have hct := ref_count hq ho
  have hm := hN.1
  refine C_ref04_Net_Fork ?_
  unfold T_ref04_Net_Fork
  refine ite_some ⟨_, rfl, ⟨refV N s⟩, refV_len hp hc, rd_agg ho.at_blk (fun j u hu => by rw [Nat.zero_add]; exact hu), ?_⟩
  intro w4
  have h4 : St E (blkL w.heap.size 77 (zc Try.prog 77).toList :: _) w4 := ho.alloc (.cells (zc Try.prog 77) 77)
  have hz : (zc Try.prog 77).toList.length = 111 := zc_net
  refine ⟨refV_len hp hc, wrOk_agg h4.at_blk (by rw [hz, refV_len hp hc]; omega) refV_one, ?_⟩
  intro w5 w6
  have h5 : St E (blkL w.heap.size 77 (refV N s) :: _) w5 := h4.wr_agg0 (xs := refV N s) (by rw [hz, refV_len hp hc])
  have h6 : St E (ownS (some ⟨w5.heap.size, 0, none⟩) 0 0 73 5 (([] : List SPk).flatMap sentV) :: _) w6 := (h5.alloc _).ownS_mk (rest := []) rfl (Nat.le_refl _) (Nat.zero_le _) rfl
  refine ⟨_, rfl, _, _, _, rd_cell h6.f2.at_blk rfl rfl, ?_⟩
  obtain ⟨a', c', w10, hr, h10⟩ := app_sents (c2 := s.2.2) h6 h6.f3.rdS_own (by omega)
  rw [Nat.zero_add] at hr h10
  rw [List.nil_append] at h10
  refine runV_ok hr ⟨_, _, _, rfl, rfl, wrOk_cell h10.f1.at_blk (by rw [refV_len hp hc]; omega) rfl, ?_⟩
  intro w12
  have h12 : St E (blkL w.heap.size 77 (refV N (a', s.2.1, c')) :: ownS a' s.2.1 c' 73 5 (qs.flatMap sentV) :: blkL p 77 (refV N s) :: ownS s.1 s.2.1 s.2.2 73 5 (qs.flatMap sentV) :: rosA (qs.map pk) :: L) w12 := h10.f1.wr_cell (off := 0) (v := .slice a' s.2.1 c') rfl
  have h13 := St.dup (Dup.rosA_ _) (h12.f4 :)
  have h14 : St E (refA p N :: blkL w.heap.size 77 (refV N (a', s.2.1, c')) :: ownS a' s.2.1 c' 73 5 (qs.flatMap sentV) :: rosA (qs.map pk) :: L) w12 :=
    St.ref_mk (s := s) (qs := qs) (h13.f3.f3.f2.f5.f5 :) hp hc hq
  exact k _ _ (St.ref_mk (s := (a', s.2.1, c')) (qs := qs) (h14.b3 :) hp hc hq)
end
end Go.Vc
