/-
  The law FlightOwn: its walk.
-/
import Derived.Test.YtilhnmncbpnfjaaFlightP
namespace Go.Vc
open Go Go.Proofs Go.Proofs.Ytilhnmncbpnfjaa

section
variable {E w : World} {L : List Asrt} {p r n : Nat} {N : Net} {Q : RNet} {R : Ending → World → Prop}

theorem rdouble2 {i : Int} (h : St E (refA r Q :: L) w) (hr : Rel n N Q) (hn : n ≤ 40000)
    (k : ∀ w' Q', Rel (n + 1) (nDouble N i).1 Q' → St E (refA r Q' :: L) w' → R (.returned (.tuple #[.int .i64 (nDouble N i).2.1, .int .i64 (nDouble N i).2.2])) w') :
    Calls Try.prog 28 #[.pointer (some ⟨r, 0, none⟩), .int .i64 i] w R := by
  refine rdouble_spec h (hr.okR (by omega)) (fun w' hi h' => ?_) (fun w' j q hj hcnt hf h' => ?_) (fun w' j q hj hcnt hf h' => ?_)
  · have e := rel_double0 hr hi
    rw [e] at k; exact k _ Q hr.up h'
  · have e := (rel_double hr hj).1 hf
    rw [hcnt] at e
    rw [e] at k; exact k _ Q hr.up h'
  · obtain ⟨e, hrel⟩ := (rel_double hr hj).2 hf
    rw [hcnt] at e
    rw [e] at k
    have := k _ _ hrel h'
    rwa [show N.last + 1 = (Q.all.length : Int) + 1 by rw [hr.last]] at this
theorem rtake2 {i : Int} (h : St E (refA r Q :: L) w) (hr : Rel n N Q) (hn : n ≤ 40000)
    (k : ∀ w' Q' sl, Rel (n + 1) (nTake N i).1 Q' → St E (rosA [((nTake N i).2.1, sl)] :: refA r Q' :: L) w' → R (.returned (.tuple #[.agg ⟨pktV ((nTake N i).2.1, sl)⟩, .int .i64 (nTake N i).2.2])) w') :
    Calls Try.prog 29 #[.pointer (some ⟨r, 0, none⟩), .int .i64 i] w R := by
  refine rtake_spec h (hr.okR (by omega)) (fun w' hi h' => ?_) (fun w' j q sl hj hcnt h' => ?_)
  · have e := rel_take0 hr hi
    rw [e] at k
    exact k _ Q (none, 0, 0) hr.up (St.ros_cons (q := (zeroP, (none, 0, 0))) ((h'.ros_nil.roS_nil none : St E (roS none 0 1 [] :: rosA [] :: _) w')))
  · obtain ⟨e, hrel⟩ := rel_take hr hj
    rw [hcnt] at e
    rw [e] at k
    exact k _ _ sl hrel h'

theorem app_u8 {a a2 : Option Addr} {l c l2 c2 : Nat} {xs ys : List Value} (h : St E (ownS a l c 5 1 xs :: L) w) (hro : RdS w a2 l2 1 ys) (h1 : ∀ u ∈ ys, one u = true) (hb : l + l2 ≤ 140737488355328) :
    ∃ a' c' w', (Builtin.append_ #[36, 36] 36 #[.slice a l c, .slice a2 l2 c2]).run Try.prog w = .ok (.slice a' (l + l2) c') w' ∧ St E (ownS a' (l + l2) c' 5 1 (xs ++ ys) :: L) w' := by
  have := append_own (P := Try.prog) (t := 36) (ty := 36) (e := 5) (i := Try.t5) (z := .int .u8 0) (by kernel_rfl) (by kernel_rfl) (by kernel_rfl) (by kernel_rfl) (by decide) (c2 := c2) h hro h1
    (by have : Try.t5.bytes = 1 := by kernel_rfl
        rw [this]; omega) (by unfold maxLen; omega)
  rw [show Try.t5.size = 1 from by kernel_rfl] at this
  exact this
theorem bytesV_u8 (bs : List UInt8) : ∀ u ∈ bytesV bs, ∃ n : Int, u = .int .u8 n := by
  intro u hu
  obtain ⟨b, _, rfl⟩ := List.mem_map.1 hu
  exact ⟨_, rfl⟩

/-- The inner loop: one packet's letters turned in place. -/
theorem own_inner {ua : Option Addr} {ul uc : Nat} {es : List (Pkt × Sl)} {i : Nat} {q : Pkt × Sl} {Kn : World → Prop} {Kp : List PanicEntry → World → Prop} (hq : es[i]? = some q) (hm : q.2.2.1 ≤ 1000000)
    (h : St E (ownS q.2.1 q.2.2.1 q.2.2.2 5 1 (bytesV q.1.bytes) :: ownS ua ul uc 41 4 (es.flatMap pktV) :: L) w)
    (k : ∀ w' xs, (∀ u ∈ xs, ∃ n : Int, u = Value.int .u8 n) → St E (ownS q.2.1 q.2.2.1 q.2.2.2 5 1 xs :: ownS ua ul uc 41 4 (es.flatMap pktV) :: L) w' → Kn w') :
    T_law04_FlightOwn_2 0 ua ul uc (i : Int) w Kn Kp := by
  unfold T_law04_FlightOwn_2
  intro X hX
  have hil : i < ul := by
    have := h.f1.rdS_own.count pktV_len (by decide)
    have := (List.getElem?_eq_some_iff.1 hq).1; omega
  have go : ∀ (n j : Nat) (xs : List Value) (w : World), n = q.2.2.1 - j → j ≤ q.2.2.1 → (∀ u ∈ xs, ∃ n : Int, u = Value.int .u8 n) →
      St E (ownS q.2.1 q.2.2.1 q.2.2.2 5 1 xs :: ownS ua ul uc 41 4 (es.flatMap pktV) :: L) w → X (j : Int) w := by
    intro n
    induction n with
    | zero =>
      intro j xs w hn hj hx h
      refine hX _ _ ?_
      unfold T_law04_FlightOwn_2_body
      obtain ⟨ad, ha, _, hcell⟩ := h.f1.rdS_own.elem pktV_len hq (by decide)
      simp -zeta only [Int.toNat_natCast]
      exact ⟨by omega, by omega, ad, ha, _, _, _, hcell 3 _ rfl rfl, ite_d (fun hh => absurd hh (by omega)) (fun _ => k _ xs hx h)⟩
    | succ n ih =>
      intro j xs w hn hj hx h
      refine hX _ _ ?_
      unfold T_law04_FlightOwn_2_body
      obtain ⟨ad, ha, _, hcell⟩ := h.f1.rdS_own.elem pktV_len hq (by decide)
      have hr := h.rdS_own
      have hlen : xs.length = q.2.2.1 := by have := hr.1; omega
      have hjx : j < xs.length := by omega
      obtain ⟨bd, hba, _⟩ := hr.cells (by omega)
      obtain ⟨v, hv⟩ := hx xs[j] (List.getElem_mem hjx)
      simp -zeta only [Int.toNat_natCast, Nat.mul_one]
      refine ⟨by omega, by omega, ad, ha, _, _, _, hcell 3 _ rfl rfl, ite_d (fun _ => ?_) (fun hh => absurd hh (by omega))⟩
      refine ⟨by omega, by omega, ad, ha, _, _, _, hcell 3 _ rfl rfl, by omega, by omega, bd, hba, v, hr.rd_cell hba (by omega) (by rw [List.getElem?_eq_getElem hjx, hv]) rfl, by omega, by omega, bd, hba, rfl, ?_⟩
      generalize IntKind.wrap .u8 _ = v'
      obtain ⟨hok, h22⟩ := h.ownS_set hba hjx (v := .int .u8 v') rfl
      refine ⟨hok, ?_⟩
      intro w22
      rw [wrap_id (by omega) (by omega)]
      have := ih (j + 1) (xs.set j (.int .u8 v')) w22 (by omega) (by omega) (fun u hu => by
        rcases List.mem_or_eq_of_mem_set hu with hm | rfl
        · exact hx u hm
        · exact ⟨v', rfl⟩) h22
      exact_mod_cast this
  exact go q.2.2.1 0 (bytesV q.1.bytes) w (by omega) (by omega) (bytesV_u8 _) h

/-- The outer loop: all that was told is spoilt; what lies beside is not. -/
theorem own_outer {ua : Option Addr} {ul uc : Nat} {qs : List (Pkt × Sl)} {Kn : World → Prop} {R : Ending → World → Prop} (hul : qs.length = ul) (hm : ul ≤ 1000) (hb : ∀ q ∈ qs, q.1.bytes.length ≤ 65536)
    (h : St E (ownS ua ul uc 41 4 (qs.flatMap pktV) :: pksA qs :: L) w) (k : ∀ w', St E L w' → Kn w') :
    T_law04_FlightOwn_1 0 ua ul uc w Kn (pan R) := by
  unfold T_law04_FlightOwn_1
  intro X hX
  have go : ∀ (n i : Nat) (es : List (Pkt × Sl)) (w : World), n = ul - i → i ≤ ul → es.drop i = qs.drop i → es.length = ul →
      St E (ownS ua ul uc 41 4 (es.flatMap pktV) :: pksA (qs.drop i) :: L) w → X (i : Int) w := by
    intro n
    induction n with
    | zero =>
      intro i es w hn hi hd hel h
      refine hX _ _ ?_
      unfold T_law04_FlightOwn_1_body
      exact ite_d (fun hh => absurd hh (by omega)) (fun _ => k _ h.drop.drop)
    | succ n ih =>
      intro i es w hn hi hd hel h
      refine hX _ _ ?_
      unfold T_law04_FlightOwn_1_body
      have hiq : i < qs.length := by omega
      have hei : es[i]? = some qs[i] := by
        have := congrArg (fun x => x[0]?) hd
        simp only [List.getElem?_drop, Nat.add_zero] at this
        rw [this]; exact List.getElem?_eq_getElem hiq
      rw [List.drop_eq_getElem_cons hiq] at h
      have h1 : St E (ownS qs[i].2.1 qs[i].2.2.1 qs[i].2.2.2 5 1 (bytesV qs[i].1.bytes) :: ownS ua ul uc 41 4 (es.flatMap pktV) :: pksA (qs.drop (i + 1)) :: L) w := (h.f1.pks_uncons).b2.f1.f2.f1.f1
      have hbl : qs[i].2.2.1 ≤ 65536 := by
        have e1 := h1.rdS_own.1
        have e2 := hb qs[i] (List.getElem_mem hiq)
        rw [bytesV_len] at e1; omega
      refine ite_d (fun _ => ?_) (fun hh => absurd hh (by omega))
      refine own_inner hei (by omega) h1 fun w23 xs hx h23 => ?_
      obtain ⟨ad, ha, _, hcell⟩ := h23.f1.rdS_own.elem pktV_len hei (by decide)
      simp -zeta only [Int.toNat_natCast]
      refine ⟨by omega, by omega, ad, ha, _, _, _, hcell 3 _ rfl rfl, ?_⟩
      intro w26
      have h26 := h23.alloc (.cells #[.int .u8 1] 5)
      have hro : RdS w26 (some ⟨w23.heap.size, 0, none⟩) 1 1 [.int .u8 1] := (h26.ownS_mk (l := 1) (c := 1) (xs := [.int .u8 1]) (rest := []) rfl (Nat.le_refl _) (by decide) rfl).rdS_own
      obtain ⟨a', c', w28, hrun, h28⟩ := app_u8 (c2 := 1) h26.f1 hro (by decide) (by omega)
      refine runV_ok hrun ⟨_, _, _, rfl, by omega, by omega, ad, ha, rfl, ?_⟩
      have h29 : St E (ownS ua ul uc 41 4 (es.flatMap pktV) :: pksA (qs.drop (i + 1)) :: L) w28 := h28.drop.drop
      have hil : i < es.length := by omega
      rw [h29.own_add ha]
      obtain ⟨hok, h31⟩ := h29.ownS_set ha (i := i * 4 + 3) (by rw [flat_len pktV_len]; omega) (v := .slice a' (qs[i].2.2.1 + 1) c') rfl
      refine ⟨hok, ?_⟩
      intro w31
      rw [flat_set1 (v := .slice a' (qs[i].2.2.1 + 1) c') pktV_len es i 3 qs[i] (qs[i].1, (a', qs[i].2.2.1 + 1, c')) hei (by decide) rfl] at h31
      refine ⟨by omega, by omega, ad, ha, rfl, ?_⟩
      rw [h31.own_add ha]
      obtain ⟨hok2, h33⟩ := h31.ownS_set ha (i := i * 4 + 2) (by rw [flat_len pktV_len]; simp; omega) (v := .int .i64 99) rfl
      refine ⟨hok2, ?_⟩
      intro w33
      rw [flat_set1 (v := .int .i64 99) pktV_len _ i 2 (qs[i].1, (a', qs[i].2.2.1 + 1, c')) ({ qs[i].1 with to := 99 }, (a', qs[i].2.2.1 + 1, c')) (by simp [hil]) (by decide) rfl] at h33
      rw [wrap_id (by omega) (by omega)]
      have := ih (i + 1) _ w33 (by omega) (by omega) (by
        rw [List.drop_set_of_lt (by omega), List.drop_set_of_lt (by omega)]
        have := congrArg (List.drop 1) hd
        simpa [List.drop_drop, Nat.add_comm] using this) (by simpa using hel) h33
      exact_mod_cast this
  have := go ul 0 qs w (by omega) (by omega) rfl hul (by simpa using h)
  exact this

theorem own_loop4 {g : Nat} {q : Pkt × Sl} {Kn : World → Prop} {Kp : List PanicEntry → World → Prop} (hm : q.2.2.1 ≤ 1000000) (k : ∀ w', St E L w' → Kn w')
    (h : St E (ownS q.2.1 q.2.2.1 q.2.2.2 5 1 (bytesV q.1.bytes) :: blkL g 41 (pktV q) :: L) w) : T_law04_FlightOwn_4 0 (⟨g, 0, none⟩ : Addr) w Kn Kp := by
  unfold T_law04_FlightOwn_4
  intro X hX
  have go : ∀ (n j : Nat) (xs : List Value) (w : World), n = q.2.2.1 - j → j ≤ q.2.2.1 → (∀ u ∈ xs, ∃ n : Int, u = Value.int .u8 n) →
      St E (ownS q.2.1 q.2.2.1 q.2.2.2 5 1 xs :: blkL g 41 (pktV q) :: L) w → X (j : Int) w := by
    intro n
    induction n with
    | zero =>
      intro j xs w hn hj hx h
      refine hX _ _ ?_
      unfold T_law04_FlightOwn_4_body
      exact ⟨_, _, _, rd_fld h.f1.at_blk (l := pktV q) rfl rfl, ite_d (fun hh => absurd hh (by omega)) (fun _ => k _ h.drop.drop)⟩
    | succ n ih =>
      intro j xs w hn hj hx h
      refine hX _ _ ?_
      unfold T_law04_FlightOwn_4_body
      have hr := h.rdS_own
      have hlen : xs.length = q.2.2.1 := by have := hr.1; omega
      have hjx : j < xs.length := by omega
      obtain ⟨bd, hba, _⟩ := hr.cells (by omega)
      obtain ⟨v, hv⟩ := hx xs[j] (List.getElem_mem hjx)
      simp -zeta only [Int.toNat_natCast, Nat.mul_one]
      refine ⟨_, _, _, rd_fld h.f1.at_blk (l := pktV q) rfl rfl, ite_d (fun _ => ?_) (fun hh => absurd hh (by omega))⟩
      refine ⟨_, _, _, rd_fld h.f1.at_blk (l := pktV q) rfl rfl, by omega, by omega, bd, hba, v, hr.rd_cell hba (by omega) (by rw [List.getElem?_eq_getElem hjx, hv]) rfl, by omega, by omega, bd, hba, rfl, ?_⟩
      generalize IntKind.wrap .u8 _ = v'
      obtain ⟨hok, h22⟩ := h.ownS_set hba hjx (v := .int .u8 v') rfl
      refine ⟨hok, ?_⟩
      intro w22
      rw [wrap_id (by omega) (by omega)]
      have := ih (j + 1) (xs.set j (.int .u8 v')) w22 (by omega) (by omega) (fun u hu => by
        rcases List.mem_or_eq_of_mem_set hu with hm | rfl
        · exact hx u hm
        · exact ⟨v', rfl⟩) h22
      exact_mod_cast this
  exact go q.2.2.1 0 (bytesV q.1.bytes) w (by omega) (by omega) (bytesV_u8 _) h

theorem take_bytes (hN : okN N) (i : Int) : (nTake N i).2.1.bytes.length ≤ 65536 := by
  unfold nTake
  split
  · simp [zeroP]
  · cases hu : N.under[i.toNat]? with
    | none => simp [zeroP]
    | some q => exact hN.2.1 q (List.mem_of_getElem? hu)
theorem own_walk {a : Option Addr} {l c : Nat} {ds : List (Deed × Sl)} (h : St E L w) (hs : SeesD E L a l ds) (k : ∀ w' L', St E (L' ++ L) w' → R (.returned (.bool true)) w') :
    Calls Try.prog 8 #[.slice a l c] w R := by
  refine C_law04_FlightOwn ?_
  unfold T_law04_FlightOwn
  refine play_spec h hs fun w3 p r N Q hr h3 => ⟨_, _, _, rfl, ?_⟩
  rw [if_neg (by simp)]
  have okn := hr.okN (by omega)
  have hfull := hr.full
  refine under_spec h3 okn fun w8 ua ul uc h8 => ⟨_, _, _, rfl, ?_⟩
  obtain ⟨qs, hq, ho⟩ := h8.under_open
  have hql := ho.rdS_own.count pktV_len (by decide)
  have hqn : qs.length = N.under.length := by rw [← hq, List.length_map]
  refine own_outer hql (by omega) (fun q hqm => okn.2.1 q.1 (by rw [← hq]; exact List.mem_map_of_mem hqm)) ho fun w34 h34 => ?_
  refine double_spec (i := 0) h34 okn fun w36 h36 => ⟨_, _, rfl, ?_⟩
  refine rdouble2 (i := 0) (h36.f1 : St E (refA r Q :: _) w36) hr (by omega) fun w40 Q1 hr1 h40 => ⟨_, _, rfl, ?_⟩
  have hlast : (nDouble N 0).2.2 = 0 → (nDouble N 0).1.under.length ≤ 128 ∧ (nTake (nDouble N 0).1 (((nDouble N 0).1.under.length : Int) - 1)).2.2 = 0 ∧ (nTake (nDouble N 0).1 (((nDouble N 0).1.under.length : Int) - 1)).2.1.id = (nDouble N 0).2.1 := by
    intro hv
    unfold nDouble at hv ⊢
    rw [if_neg (by omega)] at hv ⊢
    cases hu : N.under[(0 : Int).toNat]? with
    | none => rw [hu] at hv; exact absurd hv (by show ¬ (8 : Int) = 0; decide)
    | some x =>
      rw [hu] at hv
      by_cases hf : 128 ≤ N.under.length
      · simp only [hf, if_true] at hv; exact absurd hv (by decide)
      · simp only [hf, if_false]
        refine ⟨by simp; omega, ?_⟩
        have e : ((N.under ++ [(⟨N.last + 1, x.fr, x.to, x.bytes⟩ : Pkt)]).length : Int) - 1 = (N.under.length : Int) := by simp
        rw [e]
        unfold nTake
        rw [if_neg (by omega), Int.toNat_natCast]
        simp
  generalize nDouble N 0 = v at h36 h40 hr1 hlast ⊢
  have okn1 := hr1.okN (by omega)
  have hf1 := hr1.full
  refine len_spec (h40.f1 : St E (netA p v.1 :: _) w40) ⟨_, rfl, ?_⟩
  rw [wrap_id (x := (v.1.under.length : Int) - 1) (by omega) (by omega)]
  refine take_spec (i := (v.1.under.length : Int) - 1) h40.f1 okn1 fun w47 sl h47 => ⟨_, _, _, _, _, _, _, rfl, ?_⟩
  have hrl : (rUnder Q1).length = v.1.under.length := hr1.ucount
  have rt : ∀ {w L R}, St E (refA r Q1 :: L) w → (∀ w' Q' sl, Rel (400 + 1 + 1) (nTake v.1 ((v.1.under.length : Int) - 1)).1 Q' → St E (rosA [((nTake v.1 ((v.1.under.length : Int) - 1)).2.1, sl)] :: refA r Q' :: L) w' → R (.returned (.tuple #[.agg ⟨pktV ((nTake v.1 ((v.1.under.length : Int) - 1)).2.1, sl)⟩, .int .i64 (nTake v.1 ((v.1.under.length : Int) - 1)).2.2])) w') →
      Calls Try.prog 29 #[.pointer (some ⟨r, 0, none⟩), .int .i64 ((v.1.under.length : Int) - 1)] w R := fun h k => rtake2 h hr1 (by omega) k
  have hub := take_bytes okn1 ((v.1.under.length : Int) - 1)
  generalize nTake v.1 ((v.1.under.length : Int) - 1) = u at h47 hlast rt hub ⊢
  intro w53
  have h53 := h47.alloc (.cells #[.int .i64 0, .int .i64 0, .int .i64 0, .slice none 0 0] 41)
  refine ⟨rfl, wrOk_agg h53.at_blk (by show (4 : Nat) ≤ 4; omega) (pktV_one1 (u.2.1, sl)), ?_⟩
  intro w54
  have h54 : St E (refA r Q1 :: blkL w47.heap.size 41 (pktV (u.2.1, sl)) :: pktA (u.2.1, sl) :: netA p u.1 :: L) w54 := (h53.wr_agg0 (xs := pktV (u.2.1, sl)) rfl).f3
  clear_value w54
  generalize w47.heap.size = g1 at h54 ⊢
  refine rlen_spec h54 (by have := hr1.few; omega) fun w56 h56 => ⟨_, rfl, ?_⟩
  rw [hrl, wrap_id (x := (v.1.under.length : Int) - 1) (by omega) (by omega)]
  refine rt h56 fun w59 Q2 sl2 hr2 h59 => ⟨_, _, _, _, _, _, _, rfl, ?_⟩
  intro w65
  have h65 := h59.alloc (.cells #[.int .i64 0, .int .i64 0, .int .i64 0, .slice none 0 0] 41)
  refine ⟨rfl, wrOk_agg h65.at_blk (by show (4 : Nat) ≤ 4; omega) (pktV_one1 (u.2.1, sl2)), ?_⟩
  intro w66
  have h66 : St E (blkL w59.heap.size 41 (pktV (u.2.1, sl2)) :: rosA [(u.2.1, sl2)] :: refA r Q2 :: blkL g1 41 (pktV (u.2.1, sl)) :: pktA (u.2.1, sl) :: netA p u.1 :: L) w66 := h65.wr_agg0 (xs := pktV (u.2.1, sl2)) rfl
  clear_value w66
  generalize w59.heap.size = g2 at h66 ⊢
  -- behind the test
  have tail : ∀ w99, St E (blkL g2 41 (pktV (u.2.1, sl2)) :: rosA [(u.2.1, sl2)] :: refA r Q2 :: blkL g1 41 (pktV (u.2.1, sl)) :: pktA (u.2.1, sl) :: netA p u.1 :: L) w99 →
      T_law04_FlightOwn_4 0 (⟨g1, 0, none⟩ : Addr) w99 (fun w108 => Calls Try.prog 15 #[] w108 (ret (fun r109 w110 => ∃ b111 : Bool, r109 = .bool b111 ∧ if b111 = true then (Calls Try.prog 20 #[.pointer (some ⟨p, 0, none⟩)] w110 (ret (fun r112 w113 => ∃ s114a : Option Addr, ∃ s114l : Nat, ∃ s114c : Nat, r112 = .slice s114a s114l s114c ∧ Calls Try.prog 31 #[.pointer (some ⟨r, 0, none⟩)] w113 (ret (fun r115 w116 => ∃ s117a : Option Addr, ∃ s117l : Nat, ∃ s117c : Nat, r115 = .slice s117a s117l s117c ∧ Calls Try.prog 25 #[.slice s114a s114l s114c, .slice s117a s117l s117c] w116 (ret (fun r118 w119 => ∃ b120 : Bool, r118 = .bool b120 ∧ R (.returned (.bool b120)) w119) (pan R))) (pan R))) (pan R))) else (R (.returned (.bool false)) w110)) (pan R))) (pan R) := by
    intro w99 h99
    have okn2 := hr2.okN (by omega)
    have h99b : St E (ownS sl.1 sl.2.1 sl.2.2 5 1 (bytesV u.2.1.bytes) :: blkL g1 41 (pktV (u.2.1, sl)) :: blkL g2 41 (pktV (u.2.1, sl2)) :: rosA [(u.2.1, sl2)] :: refA r Q2 :: netA p u.1 :: L) w99 := h99.f3.f4
    have hm : sl.2.1 ≤ 1000000 := by have := h99b.rdS_own.1; rw [bytesV_len] at this; omega
    refine own_loop4 (q := (u.2.1, sl)) hm (fun w108 h108 => ?_) h99b
    refine live_spec h108 fun w110 h110 => ⟨true, rfl, ?_⟩
    refine under_spec (h110.f3 : St E (netA p u.1 :: _) w110) okn2 fun w113 a1 l1 c1 h113 => ⟨_, _, _, rfl, ?_⟩
    refine runder_spec (h113.f4 : St E (refA r Q2 :: _) w113) (by have := hr2.few; omega) fun w116 a2 l2 c2 h116 => ⟨_, _, _, rfl, ?_⟩
    have h116b : St E (underA a1 l1 c1 u.1.under :: viewA a2 l2 c2 u.1.under :: refA r Q2 :: netA p u.1 :: blkL g2 41 (pktV (u.2.1, sl2)) :: rosA [(u.2.1, sl2)] :: L) w116 := by
      rw [hr2.und] at h116
      exact h116.f2
    refine samePackets_spec (ps := u.1.under) h116b sees_under ((fun w hw => sees_view w hw.f1) : SeesP E _ _ _ _) (by have := hr2.full; omega) fun w119 h119 => ⟨_, rfl, k w119 [_, _, _, _, _, _] h119⟩
  unfold T_law04_FlightOwn_3
  refine ite_q (fun he => ?_) (fun he => ?_)
  · obtain ⟨_, hu0, hui⟩ := hlast he
    rw [if_neg (by rw [hu0]; simp)]
    refine ⟨u.2.1.id, rd_cell h66.f3.at_blk (l := pktV (u.2.1, sl)) rfl rfl, ?_⟩
    rw [if_neg (by rw [hui]; simp)]
    refine ⟨_, _, _, _, _, _, rd_agg h66.f3.at_blk (xs := pktV (u.2.1, sl)) (fun m x hx => by rw [Nat.zero_add]; exact hx), _, _, _, _, _, _, rd_agg h66.at_blk (xs := pktV (u.2.1, sl2)) (fun m x hx => by rw [Nat.zero_add]; exact hx), ?_⟩
    exact samePacket_spec (q1 := (u.2.1, sl)) (q2 := (u.2.1, sl2)) rfl h66 h66.f4.rdS_own (h66.f1.ros_rd (List.mem_singleton.2 rfl)) fun w82 h82 => ⟨true, rfl, tail w82 h82⟩
  · refine ⟨_, _, _, _, _, _, rd_agg h66.f3.at_blk (xs := pktV (u.2.1, sl)) (fun m x hx => by rw [Nat.zero_add]; exact hx), _, _, _, _, _, _, rd_agg h66.at_blk (xs := pktV (u.2.1, sl2)) (fun m x hx => by rw [Nat.zero_add]; exact hx), ?_⟩
    exact samePacket_spec (q1 := (u.2.1, sl)) (q2 := (u.2.1, sl2)) rfl h66 h66.f4.rdS_own (h66.f1.ros_rd (List.mem_singleton.2 rfl)) fun w82 h82 => ⟨true, rfl, tail w82 h82⟩
theorem own_law {H : Type} {enc : TypeId × Value → H} {W : World} {a : Option Addr} {l c : Nat} {d : DataW H} {ps : List MemPlace} (h : DataW.Trod enc Try.prog W 0 (fun _ => true) true 32 (.slice a l c) d ps) :
    Calls Try.prog 8 #[.slice a l c] W fun e w' => e = .returned (.bool true) ∧ RowKit.Below W.heap.size W w' := by
  obtain ⟨ds, hs, _⟩ := open_deeds h
  exact own_walk (St.start W) hs fun w' L' h => ⟨rfl, (h.front L').below⟩
end
end Go.Vc
