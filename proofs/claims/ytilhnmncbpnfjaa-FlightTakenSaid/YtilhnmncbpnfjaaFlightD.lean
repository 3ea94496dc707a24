/-
  What the net's functions do: Take, Double.
-/
import Derived.Test.YtilhnmncbpnfjaaFlightC
namespace Go.Vc
open Go Go.Proofs Go.Proofs.Ytilhnmncbpnfjaa

section
variable {E w : World} {L : List Asrt} {p : Nat} {N : Net} {R : Ending → World → Prop}

theorem und_pkts : Try.prog.underlying 33 = some (.slice 41) := by kernel_rfl
theorem inf_pkt : Try.prog.info? 41 = some Try.t41 := by kernel_rfl
theorem siz_pkt : Try.t41.size = 4 := by kernel_rfl
theorem zer_pkt : (Try.prog.info? 41).bind (·.zero) = some (.agg #[.int .i64 0, .int .i64 0, .int .i64 0, .slice none 0 0]) := by kernel_rfl
theorem appin_pkts {g l c l2 c2 : Nat} {a2 : Option Addr} {cells ys : List Value}
    (h : St E (blkL g 41 cells :: L) w) (hro : RdS w a2 l2 4 ys) (h1 : ∀ u ∈ ys, one u = true) (hc : l + l2 ≤ c) (hcl : (l + l2) * 4 ≤ cells.length) :
    ∃ w', (Builtin.append_ #[33, 33] 33 #[.slice (some ⟨g, 0, none⟩) l c, .slice a2 l2 c2]).run Try.prog w = .ok (.slice (some ⟨g, 0, none⟩) (l + l2) c) w' ∧ St E (blkL g 41 (cells.take (l * 4) ++ ys ++ cells.drop (l * 4 + ys.length)) :: L) w' := by
  have := append_in (P := Try.prog) (t := 33) (ty := 33) (c2 := c2) und_pkts inf_pkt h (by rw [siz_pkt]; exact hro) h1 hc (by rw [siz_pkt]; exact hcl)
  rw [siz_pkt] at this
  exact this
theorem clear_pkts {g o n c : Nat} {cells : List Value} (h : St E (blkL g 41 cells :: L) w) (hcl : n ≠ 0 → o + n * 4 ≤ cells.length) :
    ∃ w' zs, (Builtin.clear_ #[33] 0 #[.slice (some ⟨g, o, none⟩) n c]).run Try.prog w = .ok (.tuple #[]) w' ∧ zs.length = n * 4 ∧ (n = 0 → w' = w) ∧ St E (blkL g 41 (if n = 0 then cells else cells.take o ++ zs ++ cells.drop (o + zs.length)) :: L) w' :=
  clear_in (P := Try.prog) und_pkts zer_pkt h (by decide) hcl

theorem delete1_spec {a : Option Addr} {l c i : Nat} {qs : List (Pkt × Sl)} (h : St E (ownS a l c 41 4 (qs.flatMap pktV) :: L) w) (hi : i < qs.length)
    (k : ∀ w', St E (ownS a (l - 1) c 41 4 ((qs.eraseIdx i).flatMap pktV) :: L) w' → R (.returned (.slice a (l - 1) c)) w') :
    Calls Try.prog 40 #[.slice a l c, .int .i64 (i : Int), .int .i64 ((i + 1 : Nat) : Int)] w R := by
  have hl : qs.length = l := h.rdS_own.count pktV_len (by decide)
  have hf := h.ownS_facts
  refine C_slices_Delete_api_Packet ?_
  unfold T_slices_Delete_api_Packet
  rcases h.ownS_open with ⟨rfl, h0, _⟩ | ⟨g, rest, rfl, hr, hs⟩
  · omega
  simp -zeta only [Int.toNat_natCast]
  refine ⟨by omega, by omega, by omega, by omega, by omega, by omega, ?_⟩
  rw [if_neg (by simp; omega)]
  intro w4
  refine ⟨by omega, by omega, by omega, by omega, ?_⟩
  have hs4 : St E (blkL g 41 (qs.flatMap pktV ++ rest) :: L) w4 := hs.drew
  have hro : RdS w4 (some ⟨g, 0, none⟩) l 4 (qs.flatMap pktV) := (h.drew : St E _ w4).rdS_own
  have hsub := hro.sub (lo := i + 1) (hi := l) (by omega) (Nat.le_refl _) c hf.2.1
  have hflen := flat_len pktV_len qs
  have hys : ((qs.flatMap pktV).drop ((i + 1) * 4)).take ((l - (i + 1)) * 4) = (qs.drop (i + 1)).flatMap pktV := by
    rw [flat_drop pktV_len, List.take_of_length_le (by rw [flat_len pktV_len, List.length_drop]; omega)]
  rw [hys] at hsub
  have e1 : (if c = 0 then (some (⟨g, 0, none⟩ : Addr)) else (some (⟨g, 0, none⟩ : Addr)).map (fun x => x.add (0 * 4))) = some ⟨g, 0, none⟩ := by
    split
    · rfl
    · simp [add_mk]
  rw [e1, Nat.sub_zero, Nat.sub_zero]
  obtain ⟨w6, hr6, h6⟩ := appin_pkts (l := i) (c := c) (c2 := c - (i + 1)) hs4 hsub (pktV_one _) (by omega) (by rw [List.length_append, hflen]; omega)
  have e2 : i + (l - (i + 1)) = l - 1 := by omega
  rw [e2] at hr6
  refine runV_ok hr6 ⟨_, _, _, rfl, trivial, by omega, by omega, by omega, by omega, ?_⟩
  rw [if_neg (by omega), show l - (l - 1) = 1 by omega, Option.map_some, add_mk, Nat.zero_add]
  have hcl : (List.take (i * 4) (qs.flatMap pktV ++ rest) ++ (qs.drop (i + 1)).flatMap pktV ++ List.drop (i * 4 + ((qs.drop (i + 1)).flatMap pktV).length) (qs.flatMap pktV ++ rest)).length = (qs.flatMap pktV ++ rest).length := by
    simp only [List.length_append, List.length_take, List.length_drop, flat_len pktV_len]; omega
  obtain ⟨w9, zs, hr9, hz, _, h9⟩ := clear_pkts (o := (l - 1) * 4) (n := 1) (c := c - (l - 1)) h6 (fun _ => by rw [hcl, List.length_append, hflen]; omega)
  refine runV_ok hr9 (k _ ?_)
  rw [if_neg (by simp)] at h9
  have ht : List.take ((l - 1) * 4) (List.take (i * 4) (qs.flatMap pktV ++ rest) ++ (qs.drop (i + 1)).flatMap pktV ++ List.drop (i * 4 + ((qs.drop (i + 1)).flatMap pktV).length) (qs.flatMap pktV ++ rest)) = (qs.eraseIdx i).flatMap pktV := by
    rw [List.take_append_of_le_length (by simp only [List.length_append, List.length_take, flat_len pktV_len, List.length_drop]; omega)]
    rw [List.take_of_length_le (by simp only [List.length_append, List.length_take, flat_len pktV_len, List.length_drop]; omega)]
    rw [List.take_append_of_le_length (by omega), flat_take pktV_len, List.eraseIdx_eq_take_drop_succ, List.flatMap_append]
  rw [ht, List.append_assoc] at h9
  have hel : ((qs.eraseIdx i).flatMap pktV).length = (l - 1) * 4 := by rw [flat_len pktV_len, List.length_eraseIdx_of_lt hi, hl]
  refine h9.ownS_mk hel (by omega) hf.2.2 ?_
  rw [List.length_append, hz, List.length_drop, hcl, List.length_append, hflen, hr]
  omega

theorem St.pks_take {qs : List (Pkt × Sl)} {i : Nat} {q : Pkt × Sl} (h : St E (pksA qs :: L) w) (hq : qs[i]? = some q) : St E (pktA q :: pksA (qs.eraseIdx i) :: L) w := by
  obtain ⟨hlt, he⟩ := List.getElem?_eq_some_iff.1 hq
  have hs : qs = qs.take i ++ q :: qs.drop (i + 1) := by rw [← he, ← List.drop_eq_getElem_cons hlt, List.take_append_drop]
  rw [hs] at h
  have h2 := h.pks_split.f1.pks_uncons
  rw [List.eraseIdx_eq_take_drop_succ]
  exact (St.pks_app (h2.b2.f1 :)).f1

def zeroP : Pkt := ⟨0, 0, 0, []⟩
def nTake (N : Net) (i : Int) : Net × Pkt × Int :=
  if i < 0 then (N, zeroP, 8)
  else match N.under[i.toNat]? with
    | none => (N, zeroP, 8)
    | some q => ({ N with under := N.under.eraseIdx i.toNat }, q, 0)
theorem zero_pkt (h : St E L w) : St E (pktA (zeroP, (none, 0, 0)) :: L) w := h.ownS_nil
theorem take_spec {i : Int} (h : St E (netA p N :: L) w) (hN : okN N)
    (k : ∀ w' sl, St E (pktA ((nTake N i).2.1, sl) :: netA p (nTake N i).1 :: L) w' → R (.returned (.tuple #[.agg ⟨pktV ((nTake N i).2.1, sl)⟩, .int .i64 (nTake N i).2.2])) w') :
    Calls Try.prog 18 #[.pointer (some ⟨p, 0, none⟩), .int .i64 i] w R := by
  obtain ⟨s, pm, qs, hc, hq, ho⟩ := h.net_open
  have hct := net_count hq ho
  refine C_flight_Net_Take ?_
  unfold T_flight_Net_Take
  intro w3
  have h3 := ho.alloc (.cells #[.int .i64 0, .int .i64 0, .int .i64 0, .slice none 0 0] 41)
  have h3' : St E (netA p N :: L) w3 := St.net_mk (h3.drop :) hc hq
  refine ite_some ?_
  have gone : nTake N i = (N, zeroP, 8) → ∀ w17, w17 = w3 → ((Value.agg #[.int .i64 0, .int .i64 0, .int .i64 0, .slice none 0 0]).cells.size = 4 ∧ wrOk w17 (⟨w.heap.size, 0, none⟩ : Addr) (.agg #[.int .i64 0, .int .i64 0, .int .i64 0, .slice none 0 0]) ∧ let w18 : World := wr w17 (⟨w.heap.size, 0, none⟩ : Addr) (.agg #[.int .i64 0, .int .i64 0, .int .i64 0, .slice none 0 0])
      ∃ x19 : Int, ∃ x20 : Int, ∃ x21 : Int, ∃ s22a : Option Addr, ∃ s22l : Nat, ∃ s22c : Nat, rd w18 (⟨w.heap.size, 0, none⟩ : Addr) (.agg #[.int .i64 x19, .int .i64 x20, .int .i64 x21, .slice s22a s22l s22c]) ∧ R (.returned (.tuple #[.agg #[.int .i64 x19, .int .i64 x20, .int .i64 x21, .slice s22a s22l s22c], .int .i64 8])) w18) := by
    rintro hg w17 rfl
    rw [hg] at k
    refine ⟨rfl, wrOk_agg h3.at_blk (by simp) (by decide), ?_⟩
    intro w18
    have h18 := h3.wr_agg0 (xs := [.int .i64 0, .int .i64 0, .int .i64 0, .slice none 0 0]) rfl
    refine ⟨0, 0, 0, none, 0, 0, rd_agg h18.at_blk (fun j u hu => by rw [Nat.zero_add]; exact hu), ?_⟩
    exact k _ (none, 0, 0) (zero_pkt (St.net_mk (h18.drop :) hc hq))
  unfold T_flight_Net_Take_1
  refine ite_d (fun hi => ?_) (fun hi => ⟨_, rfl, _, _, _, rd_fld h3.f1.at_blk rfl rfl, ite_d (fun hi2 => ?_) (fun hi2 => ?_)⟩)
  · exact ite_b (fun _ => gone (by simp [nTake, hi]) _ rfl) (fun hh => by cases hh)
  · refine gone ?_ _ rfl
    simp only [nTake, hi, if_false]
    rw [List.getElem?_eq_none (by omega)]
  · obtain ⟨j, rfl⟩ := Int.eq_ofNat_of_zero_le (show 0 ≤ i by omega)
    have hjq : j < qs.length := by omega
    have hqj : qs[j]? = some qs[j] := List.getElem?_eq_getElem hjq
    obtain ⟨ad, ha, hrd, _⟩ := h3.f2.rdS_own.elem pktV_len hqj (by decide)
    have hN' : nTake N (j : Int) = ({ N with under := N.under.eraseIdx j }, qs[j].1, 0) := by
      simp only [nTake, Int.toNat_natCast]
      rw [if_neg (by omega), ← hq, List.getElem?_map, hqj]
      rfl
    rw [hN'] at k
    simp -zeta only [Int.toNat_natCast]
    refine ⟨_, rfl, _, _, _, rd_fld h3.f1.at_blk rfl rfl, by omega, by omega, ad, ha, _, _, _, _, _, _, hrd, ?_⟩
    intro w30
    have h30 := h3.alloc (.cells #[.int .i64 0, .int .i64 0, .int .i64 0, .slice none 0 0] 41)
    refine ⟨rfl, wrOk_agg h30.at_blk (by simp) (pktV_one1 qs[j]), ?_⟩
    intro w31
    have h31 := h30.wr_agg0 (xs := pktV qs[j]) rfl
    refine ⟨_, rfl, _, _, _, rd_fld h31.f2.at_blk rfl rfl, ?_⟩
    rw [wrap_id (by omega) (by have := hN.1; omega)]
    refine delete1_spec (i := j) (h31.f3 :) hjq fun w35 h35 => ⟨_, _, _, rfl, _, rfl, rfl, wrOk_fld h35.f3.at_blk (by simp [netV]) rfl, ?_⟩
    intro w38
    have h38 := h35.f3.wr_fld (k := 1) (v := .slice s.1 (s.2.1 - 1) s.2.2) rfl
    refine ⟨_, _, _, _, _, _, rd_agg h38.f2.at_blk (xs := pktV qs[j]) (fun n u hu => by rw [Nat.zero_add]; exact hu), rfl, wrOk_agg h38.f3.at_blk (by simp) (pktV_one1 qs[j]), ?_⟩
    intro w43
    have h43 := h38.f3.wr_agg0 (xs := pktV qs[j]) rfl
    refine ⟨_, _, _, _, _, _, rd_agg h43.at_blk (xs := pktV qs[j]) (fun n u hu => by rw [Nat.zero_add]; exact hu), ?_⟩
    have hlast : St E (pktA qs[j] :: pksA (qs.eraseIdx j) :: blkL p 62 (netV { N with under := N.under.eraseIdx j } (s.1, s.2.1 - 1, s.2.2) pm) :: ownS s.1 (s.2.1 - 1) s.2.2 41 4 ((qs.eraseIdx j).flatMap pktV) :: mapA pm kvL vvI N.parted :: L) w43 :=
      ((h43.drop.f2.drop).f2.pks_take hqj :)
    exact k _ qs[j].2 (St.net_mk (N := { N with under := N.under.eraseIdx j }) (hlast.b4.b2) hc (by rw [← map_erase, hq])).f1

def nDouble (N : Net) (i : Int) : Net × Int × Int :=
  if i < 0 then (N, 0, 8)
  else match N.under[i.toNat]? with
    | none => (N, 0, 8)
    | some q => if 128 ≤ N.under.length then (N, 0, 6) else ({ N with last := N.last + 1, under := N.under ++ [⟨N.last + 1, q.fr, q.to, q.bytes⟩] }, N.last + 1, 0)
theorem double_spec {i : Int} (h : St E (netA p N :: L) w) (hN : okN N)
    (k : ∀ w', St E (netA p (nDouble N i).1 :: L) w' → R (.returned (.tuple #[.int .i64 (nDouble N i).2.1, .int .i64 (nDouble N i).2.2])) w') :
    Calls Try.prog 21 #[.pointer (some ⟨p, 0, none⟩), .int .i64 i] w R := by
  obtain ⟨s, pm, qs, hc, hq, ho⟩ := h.net_open
  have hct := net_count hq ho
  obtain ⟨n1, n2, n3, n4, n5⟩ := hN
  refine C_flight_Net_Double ?_
  unfold T_flight_Net_Double T_flight_Net_Double_1 T_flight_Net_Double_2
  refine ite_some (ite_d (fun hi => ?_) (fun hi => ⟨_, rfl, _, _, _, rd_fld ho.at_blk rfl rfl, ite_d (fun hi2 => ?_) (fun hi2 => ?_)⟩))
  · rw [show nDouble N i = (N, 0, 8) by simp [nDouble, hi]] at k
    exact ite_b (fun _ => k _ h) (fun hh => by cases hh)
  · rw [show nDouble N i = (N, 0, 8) by simp only [nDouble, hi, if_false]; rw [List.getElem?_eq_none (by omega)]] at k
    exact k _ h
  · obtain ⟨j, rfl⟩ := Int.eq_ofNat_of_zero_le (show 0 ≤ i by omega)
    have hjq : j < qs.length := by omega
    have hqj : qs[j]? = some qs[j] := List.getElem?_eq_getElem hjq
    have hNj : N.under[j]? = some qs[j].1 := by rw [← hq, List.getElem?_map, hqj]; rfl
    refine ⟨_, rfl, _, _, _, rd_fld ho.at_blk rfl rfl, ite_d (fun hf => ?_) (fun hf => ?_)⟩
    · rw [show nDouble N (j : Int) = (N, 0, 6) by
        simp only [nDouble, Int.toNat_natCast, hNj]; rw [if_neg (by omega), if_pos (by omega)]] at k
      exact k _ h
    · rw [show nDouble N (j : Int) = ({ N with last := N.last + 1, under := N.under ++ [⟨N.last + 1, qs[j].1.fr, qs[j].1.to, qs[j].1.bytes⟩] }, N.last + 1, 0) by
        simp only [nDouble, Int.toNat_natCast, hNj]; rw [if_neg (by omega), if_neg (by omega)]] at k
      obtain ⟨ad, ha, hrd, _⟩ := ho.f1.rdS_own.elem pktV_len hqj (by decide)
      simp -zeta only [Int.toNat_natCast]
      refine ⟨_, rfl, _, _, _, rd_fld ho.at_blk rfl rfl, by omega, by omega, ad, ha, _, _, _, _, _, _, hrd, ?_⟩
      intro w30
      have h30 := ho.alloc (.cells #[.int .i64 0, .int .i64 0, .int .i64 0, .slice none 0 0] 41)
      refine ⟨rfl, wrOk_agg h30.at_blk (by simp) (pktV_one1 qs[j]), ?_⟩
      intro w31
      have h31 := h30.wr_agg0 (xs := pktV qs[j]) rfl
      refine ⟨_, rd_fld h31.at_blk (l := pktV qs[j]) rfl rfl, _, rd_fld h31.at_blk (l := pktV qs[j]) rfl rfl, _, _, _, rd_fld h31.at_blk (l := pktV qs[j]) rfl rfl, ?_⟩
      have hsee : Sees E (pksA qs :: mapA pm kvL vvI N.parted :: L) qs[j].2.1 qs[j].2.2.1 1 (bytesV qs[j].1.bytes) := fun w hw => hw.pks_rd hqj
      have hlen : qs[j].2.2.1 ≤ 65536 := by
        have h1 := (hsee _ ho.drop.drop).1
        have h2 := n2 qs[j].1 (by rw [← hq]; exact List.mem_map_of_mem (List.getElem_mem hjq))
        rw [bytesV_len] at h1; omega
      refine put_spec (bs := qs[j].1.bytes) (h31.drop :) hsee (by omega) (by omega) n3 (by omega) fun w2 s' sl h2 => ⟨_, rfl, k _ ?_⟩
      have h3 : St E (pksA (qs ++ [mkp (N.last + 1) qs[j].1.fr qs[j].1.to qs[j].1.bytes sl]) :: blkL p 62 (netV { N with last := N.last + 1 } s' pm) :: ownS s'.1 s'.2.1 s'.2.2 41 4 ((qs ++ [mkp (N.last + 1) qs[j].1.fr qs[j].1.to qs[j].1.bytes sl]).flatMap pktV) :: mapA pm kvL vvI N.parted :: L) w2 :=
        St.pks_app ((St.pks_cons (h2.f2.pks_nil.f1 :)).f3 :)
      exact St.net_mk (N := { N with last := N.last + 1, under := N.under ++ [⟨N.last + 1, qs[j].1.fr, qs[j].1.to, qs[j].1.bytes⟩] }) h3.b2 hc (by simp [hq, mkp])
end
end Go.Vc
