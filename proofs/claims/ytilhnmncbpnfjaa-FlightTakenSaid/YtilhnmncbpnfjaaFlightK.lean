/-
  The law FlightTaken: its walk.
-/
import Derived.Test.YtilhnmncbpnfjaaFlightO
namespace Go.Vc
open Go Go.Proofs Go.Proofs.Ytilhnmncbpnfjaa

theorem takenLaw : KeyLaw Try.prog 3 (.int .i64) (fun n : Int => Value.int .i64 n) := keyLaw_int (by kernel_rfl)
theorem und_took : Try.prog.underlying 34 = some (.map 3 3) := by kernel_rfl
abbrev kvN : Int → Value := fun n => Value.int .i64 n

/-- What holds ahead of deed number i: what is under way, what was put, what was taken. -/
structure TakenI (i : Nat) (N : Net) (ps : List Pkt) (m : List (Int × Int)) : Prop where
  parted : N.parted = []
  full : N.under.length ≤ 128
  bytes : ∀ q ∈ N.under, q.bytes.length ≤ 65536
  clocks : N.clocks = N0.clocks
  last : N.last = (ps.length : Int)
  ids : ∀ (j : Nat) (q : Pkt), ps[j]? = some q → q.id = (j : Int) + 1
  here : ∀ q ∈ N.under, 1 ≤ q.id ∧ ps[q.id.toNat - 1]? = some q
  apart : (N.under.map (·.id)).Nodup
  left : ∀ q ∈ N.under, mget m q.id = none
  keys : (m.map (·.1)).Nodup
  sum : N.under.length + m.length = ps.length
  few : ps.length ≤ i
  fresh : ∀ a, N.last < a → mget m a = none
section
variable {i : Nat} {N : Net} {ps : List Pkt} {m : List (Int × Int)}
theorem TakenI.up (h : TakenI i N ps m) : TakenI (i + 1) N ps m := { h with few := by have := h.few; omega }
theorem TakenI.ok (h : TakenI i N ps m) (hi : i ≤ 1000) : okN N := by
  have := h.few
  refine ⟨h.full, h.bytes, by rw [h.last]; omega, by rw [h.last]; omega, ?_⟩
  rw [h.clocks]; decide
theorem taken0 : TakenI 0 N0 [] [] :=
  ⟨rfl, by decide, fun q hq => by simp [N0] at hq, rfl, rfl, fun j q hq => by simp at hq, fun q hq => by simp [N0] at hq, by simp [N0], fun q hq => by simp [N0] at hq, by simp, rfl, Nat.le_refl _, fun _ _ => rfl⟩
/-- One more is put. -/
theorem TakenI.put (h : TakenI i N ps m) (hf : ¬ 128 ≤ N.under.length) {f t : Int} {bs : List UInt8} (hb : bs.length ≤ 65536) :
    TakenI (i + 1) { N with last := N.last + 1, under := N.under ++ [⟨N.last + 1, f, t, bs⟩] } (ps ++ [⟨N.last + 1, f, t, bs⟩]) m where
  parted := h.parted
  full := by simp; omega
  bytes q hq := by
    rcases List.mem_append.1 hq with hq | hq
    · exact h.bytes q hq
    · simp at hq; subst hq; exact hb
  clocks := h.clocks
  last := by simp [h.last]
  ids j q hq := by
    rw [List.getElem?_append] at hq
    split at hq
    · exact h.ids j q hq
    · have hj : j = ps.length := by
        have := (List.getElem?_eq_some_iff.1 hq).1
        simp at this; omega
      subst hj
      simp at hq; rw [← hq]; exact congrArg (· + 1) h.last
  here q hq := by
    rcases List.mem_append.1 hq with hq | hq
    · obtain ⟨h1, h2⟩ := h.here q hq
      have := (List.getElem?_eq_some_iff.1 h2).1
      exact ⟨h1, by rw [List.getElem?_append_left this]; exact h2⟩
    · simp at hq; subst hq
      have hl := h.last
      refine ⟨by show 1 ≤ N.last + 1; omega, ?_⟩
      show (ps ++ [_])[(N.last + 1).toNat - 1]? = _
      rw [show (N.last + 1).toNat - 1 = ps.length by omega, List.getElem?_append_right (Nat.le_refl _), Nat.sub_self]
      rfl
  apart := by
    rw [List.map_append, List.nodup_append]
    refine ⟨h.apart, by simp, fun a ha b hb' => ?_⟩
    obtain ⟨q, hq, rfl⟩ := List.mem_map.1 ha
    simp at hb'; subst hb'
    obtain ⟨h1, h2⟩ := h.here q hq
    have := (List.getElem?_eq_some_iff.1 h2).1
    have hl := h.last
    show q.id ≠ N.last + 1
    omega
  left q hq := by
    rcases List.mem_append.1 hq with hq | hq
    · exact h.left q hq
    · simp at hq; subst hq
      exact h.fresh (N.last + 1) (by omega)
  keys := h.keys
  sum := by have := h.sum; simp; omega
  few := by have := h.few; simp; omega
  fresh a ha := h.fresh a (by have : N.last + 1 < a := ha; omega)
/-- One is taken. -/
theorem TakenI.took (h : TakenI i N ps m) {j : Nat} {q : Pkt} (hj : N.under[j]? = some q) : TakenI (i + 1) { N with under := N.under.eraseIdx j } ps (mset m q.id 1) where
  parted := h.parted
  full := Nat.le_trans (List.length_eraseIdx_le ..) h.full
  bytes x hx := h.bytes x (List.mem_of_mem_eraseIdx hx)
  clocks := h.clocks
  last := h.last
  ids := h.ids
  here x hx := h.here x (List.mem_of_mem_eraseIdx hx)
  apart := by rw [← map_erase]; exact h.apart.eraseIdx j
  left x hx := by
    rw [mget_mset]
    have hne : q.id ≠ x.id := by
      intro he
      obtain ⟨a, ha, hxa⟩ := List.mem_eraseIdx_iff_getElem?.1 hx
      have h1 : (N.under.map (·.id))[j]? = some q.id := by rw [List.getElem?_map, hj]; rfl
      have h2 : (N.under.map (·.id))[a]? = some x.id := by rw [List.getElem?_map, hxa]; rfl
      obtain ⟨hj1, hj2⟩ := List.getElem?_eq_some_iff.1 h1
      obtain ⟨ha1, ha2⟩ := List.getElem?_eq_some_iff.1 h2
      have hpw := List.pairwise_iff_getElem.1 h.apart
      rcases Nat.lt_trichotomy a j with hlt | hlt | hlt
      · exact hpw a j ha1 hj1 hlt (ha2.trans (he.symm.trans hj2.symm))
      · exact ha hlt
      · exact hpw j a hj1 ha1 hlt (hj2.trans (he.trans ha2.symm))
    rw [if_neg hne]
    exact h.left x (List.mem_of_mem_eraseIdx hx)
  keys := nodup_mset h.keys _ _
  sum := by
    have hlt := (List.getElem?_eq_some_iff.1 hj).1
    have hnew : q.id ∉ m.map (·.1) := by
      intro hm
      have := h.left q (List.mem_of_getElem? hj)
      obtain ⟨x, hx, hxe⟩ := List.mem_map.1 hm
      unfold mget at this
      simp only [Option.map_eq_none_iff, List.find?_eq_none, decide_eq_true_eq] at this
      exact this x hx hxe
    rw [mset_new _ _ _ hnew]
    have := h.sum
    show (N.under.eraseIdx j).length + _ = _
    rw [List.length_eraseIdx_of_lt hlt]
    simp; omega
  few := by have := h.few; omega
  fresh a ha := by
    rw [mget_mset]
    obtain ⟨h1, h2⟩ := h.here q (List.mem_of_getElem? hj)
    have h3 := (List.getElem?_eq_some_iff.1 h2).1
    have h4 := h.last
    have ha' : N.last < a := ha
    rw [if_neg (by omega)]
    exact h.fresh a ha'
end

section
variable {E w : World} {L : List Asrt} {p n : Nat} {N : Net} {R : Ending → World → Prop}

theorem taken_walk {a : Option Addr} {l c : Nat} {ds : List (Deed × Sl)} (h : St E L w) (hs : SeesD E L a l ds) (k : ∀ w' L', St E (L' ++ L) w' → R (.returned (.bool true)) w') :
    Calls Try.prog 4 #[.slice a l c] w R := by
  have hl : ds.length = l := (hs.row w h).count deedV_len (by decide)
  refine C_law04_FlightTaken ?_
  unfold T_law04_FlightTaken
  refine new_spec h fun w3 p h3 => ⟨_, rfl, ?_⟩
  intro w5
  have h5 : St E (mapA w3.heap.size kvN vvI [] :: netA p N0 :: L) w5 := h3.mapA_new kvN vvI
  clear_value w5
  generalize w3.heap.size = tm at h5 ⊢
  unfold T_law04_FlightTaken_1
  intro X hX
  have go : ∀ (n i : Nat) (pa : Option Addr) (pl pc : Nat) (N : Net) (qs : List (Pkt × Sl)) (m : List (Int × Int)) (rs : List (Pkt × Sl)) (w : World), n = min l 400 - i → i ≤ min l 400 → TakenI i N (qs.map (·.1)) m →
      (∀ q ∈ qs, Sees E (rosA rs :: L) q.2.1 q.2.2.1 1 (bytesV q.1.bytes)) →
      St E (netA p N :: ownS pa pl pc 41 4 (qs.flatMap pktV) :: mapA tm kvN vvI m :: rosA rs :: L) w → X pa pl pc (i : Int) w := by
    intro n
    induction n with
    | zero =>
      intro i pa pl pc N qs m rs w hn hi hI hB h
      refine hX _ _ _ _ _ ?_
      unfold T_law04_FlightTaken_1_body
      refine many_spec ⟨_, rfl, ite_d (fun hh => absurd hh (by omega)) (fun _ => ?_)⟩
      refine live_spec h fun w117 h117 => ⟨true, rfl, ?_⟩
      refine len_spec h117 ⟨_, rfl, runV_ok (lenMap_run und_took h117.f2 #[34] 3 rfl) ⟨_, rfl, ?_⟩⟩
      have hct := h117.f1.rdS_own.count pktV_len (by decide)
      have hsum := hI.sum
      have hfew := hI.few
      rw [List.length_map] at hsum hfew
      rw [wrap_id (by omega) (by omega), show ((N.under.length : Int) == (pl : Int) - (m.length : Int)) = true by simp; omega]
      exact k w117 [_, _, _, _] h117
    | succ n ih =>
      intro i pa pl pc N qs m rs w12 hn hi hI hB h
      have okn := hI.ok (by omega)
      have hct := h.f1.rdS_own.count pktV_len (by decide)
      have hfew := hI.few
      have hfull := hI.full
      rw [List.length_map] at hfew
      refine hX _ _ _ _ _ ?_
      unfold T_law04_FlightTaken_1_body
      have hid : i < ds.length := by omega
      have hmem : ds[i] ∈ ds := List.getElem_mem hid
      obtain ⟨ad, ha, hrd, _⟩ := (hs.row _ h.drop.drop.drop.drop).elem deedV_len (List.getElem?_eq_getElem hid) (by decide)
      have next : ∀ (pa : Option Addr) (pl pc : Nat) (N : Net) (qs : List (Pkt × Sl)) (m : List (Int × Int)) (rs : List (Pkt × Sl)) (w : World), TakenI (i + 1) N (qs.map (·.1)) m →
          (∀ q ∈ qs, Sees E (rosA rs :: L) q.2.1 q.2.2.1 1 (bytesV q.1.bytes)) →
          St E (netA p N :: ownS pa pl pc 41 4 (qs.flatMap pktV) :: mapA tm kvN vvI m :: rosA rs :: L) w → X pa pl pc (IntKind.wrap .i64 ((i : Int) + 1)) w := by
        intro pa pl pc N qs m rs w h1 h2 h3
        rw [wrap_id (by omega) (by omega)]
        have := ih (i + 1) pa pl pc N qs m rs w (by omega) (by omega) h1 h2 h3
        exact_mod_cast this
      refine many_spec ⟨_, rfl, ite_d (fun _ => ?_) (fun hh => absurd hh (by omega))⟩
      rw [Int.toNat_natCast]
      refine ⟨by omega, by omega, ad, ha, _, _, _, _, _, _, _, hrd, ?_⟩
      intro w20
      have h20 := h.alloc (.cells #[.int .i64 0, .int .i64 0, .int .i64 0, .int .i64 0, .slice none 0 0] 38)
      refine ⟨rfl, wrOk_agg h20.at_blk (by show (5 : Nat) ≤ 5; omega) (deedV_one1 ds[i]), ?_⟩
      intro w21
      have h21 : St E (netA p N :: blkL w12.heap.size 38 (deedV ds[i]) :: ownS pa pl pc 41 4 (qs.flatMap pktV) :: mapA tm kvN vvI m :: rosA rs :: L) w21 := (h20.wr_agg0 (xs := deedV ds[i]) rfl).f1
      clear_value w21
      generalize w12.heap.size = g at h21 ⊢
      have hsd := hs.bytes _ hmem
      refine ⟨_, rd_cell h21.f1.at_blk (l := deedV ds[i]) rfl rfl, ite_q (fun hk0 => ?_) (fun hk0 => ite_q (fun hk1 => ?_) (fun hk1 => ite_q (fun hk2 => ?_) (fun hk2 => ?_)))⟩
      · -- Send
        refine ⟨_, rd_fld h21.f1.at_blk (l := deedV ds[i]) rfl rfl, _, rd_fld h21.f1.at_blk (l := deedV ds[i]) rfl rfl, _, _, _, rd_fld h21.f1.at_blk (l := deedV ds[i]) rfl rfl, ?_⟩
        refine send_spec (f := ds[i].1.fr) (t := ds[i].1.to) (bs := ds[i].1.bytes) h21 ((((hsd.more _).more _).more _).more _) okn fun w27 h27 => ⟨_, _, rfl, ite_q (fun he => ?_) (fun he => ?_)⟩
        · have hval : nSend N ds[i].1.fr ds[i].1.to ds[i].1.bytes = ({ N with last := N.last + 1, under := N.under ++ [⟨N.last + 1, ds[i].1.fr, ds[i].1.to, ds[i].1.bytes⟩] }, N.last + 1, 0) ∧ ds[i].1.bytes.length ≤ 65536 ∧ ¬ 128 ≤ N.under.length := by
            unfold nSend at he ⊢
            split at he
            · exact absurd he (by show ¬ (2 : Int) = 0; decide)
            · split at he
              · exact absurd he (by show ¬ (6 : Int) = 0; decide)
              · split at he
                · exact absurd he (by show ¬ (8 : Int) = 0; decide)
                · rename_i h1 h2 h3
                  rw [if_neg h1, if_neg h2, if_neg h3]
                  exact ⟨rfl, by omega, by omega⟩
          obtain ⟨e1, e2, e3⟩ := hval
          rw [e1] at h27 ⊢
          refine ⟨_, rd_fld h27.f1.at_blk (l := deedV ds[i]) rfl rfl, _, rd_fld h27.f1.at_blk (l := deedV ds[i]) rfl rfl, _, _, _, rd_fld h27.f1.at_blk (l := deedV ds[i]) rfl rfl, ?_⟩
          intro w33
          have h33 := h27.alloc (.cells ⟨pktV (mkp (N.last + 1) ds[i].1.fr ds[i].1.to ds[i].1.bytes ds[i].2)⟩ 41)
          have hro : RdS w33 (some ⟨w27.heap.size, 0, none⟩) 1 4 ([mkp (N.last + 1) ds[i].1.fr ds[i].1.to ds[i].1.bytes ds[i].2].flatMap pktV) := (h33.ownS_mk (l := 1) (c := 1) (xs := [mkp (N.last + 1) ds[i].1.fr ds[i].1.to ds[i].1.bytes ds[i].2].flatMap pktV) (rest := []) rfl (Nat.le_refl _) (by decide) rfl).rdS_own
          obtain ⟨a', c', w35, hrun, h35⟩ := app_pkts (c2 := 1) h33.f3 hro (by omega)
          refine runV_ok hrun ⟨_, _, _, rfl, ?_⟩
          refine next a' (pl + 1) c' _ (qs ++ [mkp (N.last + 1) ds[i].1.fr ds[i].1.to ds[i].1.bytes ds[i].2]) m rs w35 ?_ (fun q hq => ?_) (h35.f1.drop.f2.drop.f1 :)
          · rw [List.map_append]; exact hI.put e3 e2
          · rcases List.mem_append.1 hq with hq | hq
            · exact hB q hq
            · simp at hq; subst hq; exact hsd.more _
        · have hval : (nSend N ds[i].1.fr ds[i].1.to ds[i].1.bytes).1 = N := by
            unfold nSend at he ⊢
            split
            · rfl
            · split
              · rfl
              · split
                · rfl
                · rename_i h1 h2 h3
                  rw [if_neg h1, if_neg h2, if_neg h3] at he
                  exact absurd rfl he
          rw [hval] at h27
          exact next pa pl pc N qs m rs w27 hI.up hB (h27.f1.drop :)
      · -- Take
        refine ⟨_, rd_fld h21.f1.at_blk (l := deedV ds[i]) rfl rfl, take_spec (i := ds[i].1.i) h21 okn fun w39 sl h39 => ⟨_, _, _, _, _, _, _, rfl, ?_⟩⟩
        intro w45
        have h45 := h39.alloc (.cells #[.int .i64 0, .int .i64 0, .int .i64 0, .slice none 0 0] 41)
        refine ⟨rfl, wrOk_agg h45.at_blk (by show (4 : Nat) ≤ 4; omega) (pktV_one1 ((nTake N ds[i].1.i).2.1, sl)), ?_⟩
        intro w46
        have h46 := h45.wr_agg0 (xs := pktV ((nTake N ds[i].1.i).2.1, sl)) rfl
        have h46' : St E (blkL w39.heap.size 41 (pktV ((nTake N ds[i].1.i).2.1, sl)) :: pktA ((nTake N ds[i].1.i).2.1, sl) :: netA p (nTake N ds[i].1.i).1 :: ownS pa pl pc 41 4 (qs.flatMap pktV) :: mapA tm kvN vvI m :: rosA rs :: L) w46 := h46.f3.drop
        clear_value w46
        generalize w39.heap.size = g2 at h46' ⊢
        have hcase : (nTake N ds[i].1.i = (N, zeroP, 8)) ∨ ∃ (j : Nat) (q : Pkt), N.under[j]? = some q ∧ nTake N ds[i].1.i = ({ N with under := N.under.eraseIdx j }, q, 0) := by
          unfold nTake
          split
          · exact .inl rfl
          · cases hu : N.under[ds[i].1.i.toNat]? with
            | none => exact .inl rfl
            | some q => exact .inr ⟨_, q, hu, rfl⟩
        rcases hcase with e | ⟨j, q, hj, e⟩
        · rw [e] at h46' ⊢
          rw [if_pos (by rfl)]
          exact next pa pl pc N qs m rs w46 hI.up hB (h46'.drop.drop :)
        · rw [e] at h46' ⊢
          rw [if_neg (by simp)]
          have hI2 := hI.took hj
          have hqm := List.mem_of_getElem? hj
          obtain ⟨g1, g3⟩ := hI.here q hqm
          have hq1 := (List.getElem?_eq_some_iff.1 g3).1
          rw [List.length_map] at hq1
          have hmg := hI.left q hqm
          have hmap : St E (mapA tm kvN vvI m :: blkL g2 41 (pktV (q, sl)) :: pktA (q, sl) :: netA p { N with under := N.under.eraseIdx j } :: ownS pa pl pc 41 4 (qs.flatMap pktV) :: rosA rs :: L) w46 := h46'.f4
          have hlk := lookup_run takenLaw und_took tm_int hmap q.id
          rw [hmg] at hlk
          refine ⟨_, rd_cell h46'.at_blk (l := pktV (q, sl)) rfl rfl, runV_ok hlk ⟨0, rfl, ?_⟩⟩
          rw [show IntKind.wrap .i64 ((0 : Int) + 1) = 1 by rfl]
          obtain ⟨w51, hrun, h51⟩ := mapUpdate_run takenLaw und_took hmap q.id 1
          refine runV_ok hrun ?_
          dsimp -zeta only
          intro w52
          have h52 : St E (mapA tm kvN vvI (mset m q.id 1) :: blkL g2 41 (pktV (q, sl)) :: pktA (q, sl) :: netA p { N with under := N.under.eraseIdx j } :: ownS pa pl pc 41 4 (qs.flatMap pktV) :: rosA rs :: L) w52 := h51.drew
          clear_value w52
          have hb2 := h52.f1.at_blk
          have rid : rd w52 (⟨g2, 0, none⟩ : Addr) (.int .i64 q.id) := rd_cell hb2 (l := pktV (q, sl)) rfl rfl
          refine ⟨_, rid, ite_d (fun hh => absurd hh (by show ¬ q.id < 1; omega)) (fun _ => ⟨_, rid, ite_d (fun hh => absurd hh (by show ¬ q.id > (pl : Int); omega)) (fun _ => ?_)⟩)⟩
          refine ⟨_, _, _, _, _, _, rd_agg hb2 (xs := pktV (q, sl)) (fun x u hu => by rw [Nat.zero_add]; exact hu), q.id, rid, ?_⟩
          rw [wrap_id (x := q.id - 1) (by omega) (by omega)]
          have hqi : q.id.toNat - 1 < qs.length := hq1
          obtain ⟨pd, hpa, hprd, _⟩ := (h52.f4 : St E (ownS pa pl pc 41 4 (qs.flatMap pktV) :: _) w52).rdS_own.elem pktV_len (List.getElem?_eq_getElem hqi) (by decide)
          have hqe : qs[q.id.toNat - 1].1 = q := by
            rw [List.getElem?_map, List.getElem?_eq_getElem hqi] at g3
            simpa using g3
          refine ⟨by omega, by omega, pd, hpa, _, _, _, _, _, _, (by rw [show (q.id - 1).toNat = q.id.toNat - 1 by omega]; exact hprd), ?_⟩
          have hvw : St E (rosA rs :: L) w52 := (h52.drop.drop.drop.drop.drop :)
          refine samePacket_spec (q1 := (q, sl)) (q2 := qs[q.id.toNat - 1]) hqe.symm h52 h52.f2.rdS_own (hB _ (List.getElem_mem hqi) _ hvw) fun w66 h66 => ⟨true, rfl, ?_⟩
          have hb6 := h66.f1.at_blk
          have rid6 : rd w66 (⟨g2, 0, none⟩ : Addr) (.int .i64 q.id) := rd_cell hb6 (l := pktV (q, sl)) rfl rfl
          refine ⟨⟨rid6, rid6, rid6, trivial⟩, ?_⟩
          rw [if_neg (by simp)]
          have hlk6 := lookup_run takenLaw und_took tm_int h66 q.id
          rw [mget_mset, if_pos rfl] at hlk6
          refine ⟨_, rid6, runV_ok hlk6 ⟨1, rfl, ⟨rid6, rid6, rid6, trivial⟩, ?_⟩⟩
          rw [if_neg (by decide)]
          exact next pa pl pc _ qs _ rs w66 hI2 hB (h66.f1.drop.f1.drop.b2 :)
      · -- Double
        refine under_spec h21 okn fun w73 ua ul uc h73 => ⟨_, _, _, rfl, _, rd_fld h73.f2.at_blk (l := deedV ds[i]) rfl rfl, ?_⟩
        refine double_spec (i := ds[i].1.i) h73.f1 okn fun w77 h77 => ⟨_, _, rfl, ite_q (fun he => ?_) (fun he => ?_)⟩
        · have hval : ∃ (j : Nat) (q : Pkt), ds[i].1.i = (j : Int) ∧ N.under[j]? = some q ∧ ¬ 128 ≤ N.under.length ∧ nDouble N ds[i].1.i = ({ N with last := N.last + 1, under := N.under ++ [⟨N.last + 1, q.fr, q.to, q.bytes⟩] }, N.last + 1, 0) := by
            unfold nDouble at he ⊢
            split at he
            · exact absurd he (by show ¬ (8 : Int) = 0; decide)
            · rename_i h1
              cases hu : N.under[ds[i].1.i.toNat]? with
              | none => rw [hu] at he; exact absurd he (by show ¬ (8 : Int) = 0; decide)
              | some q =>
                rw [hu] at he
                by_cases hf : 128 ≤ N.under.length
                · simp only [hf, if_true] at he; exact absurd he (by decide)
                · refine ⟨ds[i].1.i.toNat, q, by omega, hu, hf, ?_⟩
                  rw [if_neg h1]
                  simp only [hf, if_false]
          obtain ⟨j, q, hji, hj, hf, e⟩ := hval
          have hjl := (List.getElem?_eq_some_iff.1 hj).1
          rw [e] at h77 ⊢
          obtain ⟨us, hus, hu⟩ := (h77.f1 : St E (underA ua ul uc N.under :: _) w77).under_open
          have hul := hu.rdS_own.count pktV_len (by decide)
          have huN : us.length = N.under.length := by rw [← hus, List.length_map]
          have hju : j < us.length := by omega
          have huj : us[j].1 = q := by
            rw [← hus, List.getElem?_map, List.getElem?_eq_getElem hju] at hj
            simpa using hj
          have hri : ∀ w, St E (ownS ua ul uc 41 4 (us.flatMap pktV) :: pksA us :: netA p { N with last := N.last + 1, under := N.under ++ [⟨N.last + 1, q.fr, q.to, q.bytes⟩] } :: blkL g 38 (deedV ds[i]) :: ownS pa pl pc 41 4 (qs.flatMap pktV) :: mapA tm kvN vvI m :: rosA rs :: L) w → rd w ((⟨g, 0, none⟩ : Addr).add 3) (.int .i64 (j : Int)) := fun w hw => by
            rw [← hji]; exact rd_fld hw.f3.at_blk (l := deedV ds[i]) rfl rfl
          unfold T_law04_FlightTaken_2
          refine ⟨_, hri _ hu, ite_d (fun hh => absurd hh (by omega)) (fun _ => ⟨_, hri _ hu, ?_⟩)⟩
          rw [show decide ((j : Int) ≥ (ul : Int)) = false by simp; omega]
          refine ite_b (fun hh => by cases hh) (fun _ => ?_)
          obtain ⟨ud, hua, hurd, _⟩ := hu.rdS_own.elem pktV_len (List.getElem?_eq_getElem hju) (by decide)
          refine ⟨_, hri _ hu, by omega, by omega, ud, hua, _, _, _, _, _, _, (by rw [Int.toNat_natCast]; exact hurd), ?_⟩
          intro w95
          have h95 := hu.alloc (.cells #[.int .i64 0, .int .i64 0, .int .i64 0, .slice none 0 0] 41)
          refine ⟨rfl, wrOk_agg h95.at_blk (by show (4 : Nat) ≤ 4; omega) (pktV_one1 us[j]), ?_⟩
          intro w96
          have h96 := h95.wr_agg0 (xs := pktV us[j]) rfl
          refine ⟨rfl, wrOk_cell h96.at_blk (by show 0 < 4; omega) rfl, ?_⟩
          intro w97
          have h97 : St E (blkL w77.heap.size 41 (pktV (mkp (N.last + 1) us[j].1.fr us[j].1.to us[j].1.bytes us[j].2)) :: _) w97 := h96.wr_cell (off := 0) (v := .int .i64 (N.last + 1)) rfl
          refine ⟨_, _, _, _, _, _, rd_agg h97.at_blk (xs := pktV (mkp (N.last + 1) us[j].1.fr us[j].1.to us[j].1.bytes us[j].2)) (fun x u hu => by rw [Nat.zero_add]; exact hu), ?_⟩
          intro w102
          have h102 := h97.alloc (.cells ⟨pktV (mkp (N.last + 1) us[j].1.fr us[j].1.to us[j].1.bytes us[j].2)⟩ 41)
          have hro : RdS w102 (some ⟨w97.heap.size, 0, none⟩) 1 4 ([mkp (N.last + 1) us[j].1.fr us[j].1.to us[j].1.bytes us[j].2].flatMap pktV) := (h102.ownS_mk (l := 1) (c := 1) (xs := [mkp (N.last + 1) us[j].1.fr us[j].1.to us[j].1.bytes us[j].2].flatMap pktV) (rest := []) rfl (Nat.le_refl _) (by decide) rfl).rdS_own
          have h103 : St E (ownS pa pl pc 41 4 (qs.flatMap pktV) :: pksA us :: netA p { N with last := N.last + 1, under := N.under ++ [⟨N.last + 1, q.fr, q.to, q.bytes⟩] } :: mapA tm kvN vvI m :: rosA rs :: L) w102 := h102.drop.drop.drop.f2.drop.f2
          obtain ⟨a', c', w104, hrun, h104⟩ := app_pkts (c2 := 1) h103 hro (by omega)
          refine runV_ok hrun ⟨_, _, _, rfl, ?_⟩
          have h105 : St E (roS us[j].2.1 us[j].2.2.1 1 (bytesV us[j].1.bytes) :: rosA rs :: ownS a' (pl + 1) c' 41 4 ((qs ++ [mkp (N.last + 1) us[j].1.fr us[j].1.to us[j].1.bytes us[j].2]).flatMap pktV) :: netA p { N with last := N.last + 1, under := N.under ++ [⟨N.last + 1, q.fr, q.to, q.bytes⟩] } :: mapA tm kvN vvI m :: L) w104 := by
            have e1 := (h104.f1.pks_take (List.getElem?_eq_getElem hju)).f1.drop
            exact (e1.ownS_ro.f4.f1 :)
          have h106 := St.ros_cons (q := us[j]) h105
          refine next a' (pl + 1) c' _ (qs ++ [mkp (N.last + 1) us[j].1.fr us[j].1.to us[j].1.bytes us[j].2]) m (us[j] :: rs) w104 ?_ (fun x hx => ?_) (h106.b3.f1 :)
          · rw [List.map_append]
            have hb := hI.bytes q (List.mem_of_getElem? hj)
            have := hI.put (f := q.fr) (t := q.to) hf hb
            rw [← huj] at this ⊢
            exact this
          · rcases List.mem_append.1 hx with hx | hx
            · exact fun w hw => hB x hx w (hw.ros_sub fun y hy => List.mem_cons_of_mem _ hy)
            · simp at hx; subst hx
              exact fun w hw => hw.ros_rd (q := us[j]) List.mem_cons_self
        · have hval : (nDouble N ds[i].1.i).1 = N := by
            unfold nDouble at he ⊢
            split
            · rfl
            · rename_i h1
              rw [if_neg h1] at he
              cases hu : N.under[ds[i].1.i.toNat]? with
              | none => rfl
              | some q =>
                rw [hu] at he
                by_cases hf : 128 ≤ N.under.length
                · simp only [hf, if_true]
                · simp only [hf, if_false] at he; exact absurd rfl he
          rw [hval] at h77
          exact next pa pl pc N qs m rs w77 hI.up hB (h77.f1.drop.f1.drop :)
      · exact next pa pl pc N qs m rs w21 hI.up hB (h21.f1.drop :)
  have := go (min l 400) 0 none 0 0 N0 [] [] [] w5 (by omega) (by omega) taken0 (fun q hq => by simp at hq) ((St.ros_nil h5).b2.ownS_nil.f2 :)
  exact this
theorem taken_law {H : Type} {enc : TypeId × Value → H} {W : World} {a : Option Addr} {l c : Nat} {d : DataW H} {ps : List MemPlace} (h : DataW.Trod enc Try.prog W 0 (fun _ => true) true 32 (.slice a l c) d ps) :
    Calls Try.prog 4 #[.slice a l c] W fun e w' => e = .returned (.bool true) ∧ RowKit.Below W.heap.size W w' := by
  obtain ⟨ds, hs, _⟩ := open_deeds h
  exact taken_walk (St.start W) hs fun w' L' h => ⟨rfl, (h.front L').below⟩
end
end Go.Vc
