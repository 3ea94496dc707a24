/-
  The net of package tollgateref04 in memory; its functions.
-/
import Derived.Test.YtilhnmncbpnfjaaFlightF
namespace Go.Vc
open Go Go.Proofs Go.Proofs.Ytilhnmncbpnfjaa

structure RNet where
  all : List (Pkt × Bool)
  parted : List Bool
  clocks : List Int
abbrev SPk := (Pkt × Bool) × Sl
def sentV (q : SPk) : List Value := [.int .i64 q.1.1.id, .int .i64 q.1.1.fr, .int .i64 q.1.1.to, .slice q.2.1 q.2.2.1 q.2.2.2, .bool q.1.2]
def refV (R : RNet) (s : Sl) : List Value := .slice s.1 s.2.1 s.2.2 :: (R.parted.map Value.bool ++ R.clocks.map vvI)
/-- Bytes that are read alone. -/
def rosA (qs : List (Pkt × Sl)) : Asrt := fun h => ∀ q ∈ qs, roS q.2.1 q.2.2.1 1 (bytesV q.1.bytes) h
def pk (q : SPk) : Pkt × Sl := (q.1.1, q.2)
def alive (q : SPk) : Bool := !q.1.2
def refA (p : Nat) (R : RNet) : Asrt := fun h => ∃ (s : Sl) (qs : List SPk), (R.parted.length = 100 ∧ R.clocks.length = 10 ∧ qs.map (·.1) = R.all) ∧
  seps [blkL p 77 (refV R s), ownS s.1 s.2.1 s.2.2 73 5 (qs.flatMap sentV), rosA (qs.map pk)] h
/-- Packets in a row of ours, whose bytes are read alone. -/
def viewA (a : Option Addr) (l c : Nat) (ps : List Pkt) : Asrt := fun h =>
  ∃ qs : List (Pkt × Sl), qs.map (·.1) = ps ∧ seps [ownS a l c 41 4 (qs.flatMap pktV), rosA qs] h

theorem sentV_len (q : SPk) : (sentV q).length = 5 := rfl
theorem sentV_one1 (q : SPk) : ∀ u ∈ sentV q, one u = true := by
  intro u hu
  simp only [sentV, List.mem_cons, List.not_mem_nil, or_false] at hu
  rcases hu with rfl | rfl | rfl | rfl | rfl <;> rfl
theorem sentV_one (qs : List SPk) : ∀ u ∈ qs.flatMap sentV, one u = true := by
  intro u hu
  obtain ⟨q, _, hq⟩ := List.mem_flatMap.1 hu
  exact sentV_one1 q u hq
theorem refV_len {R : RNet} {s : Sl} (h1 : R.parted.length = 100) (h2 : R.clocks.length = 10) : (refV R s).length = 111 := by
  simp [refV, h1, h2]

section
variable {E w : World} {L : List Asrt} {p : Nat} {N : RNet} {R : Ending → World → Prop}

theorem roS_up1 {a : Option Addr} {l sz : Nat} {xs : List Value} {h1 h2 : PHeap} (h : roS a l sz xs h1) : roS a l sz xs (un h1 h2) :=
  ⟨h.1, h.2.imp id fun ⟨g, off, cs, t, fr, f, ha, hg, hc⟩ => ⟨g, off, cs, t, fr, f, ha, by unfold un; rw [hg], hc⟩⟩
theorem roS_up2 {a : Option Addr} {l sz : Nat} {xs : List Value} {h1 h2 : PHeap} (d : dj h1 h2) (h : roS a l sz xs h2) : roS a l sz xs (un h1 h2) := by
  rw [un_comm d]; exact roS_up1 h
theorem St.two {A B C : Asrt} (h : St E (A :: B :: L) w) (f : ∀ h1 h2, dj h1 h2 → A h1 → B h2 → C (un h1 h2)) : St E (C :: L) w := by
  obtain ⟨en, x, ⟨h1, h2', d, rfl, hA, h2, h3, d2, rfl, hB, hL⟩, hl⟩ := h
  obtain ⟨d12, d13⟩ := dj_un d d2
  exact ⟨en, _, ⟨un h1 h2, h3, dj_un_left d13 d2, (un_assoc _ _ _).symm, f h1 h2 d12 hA hB, hL⟩, hl⟩
theorem Dup.rosA_ (qs : List (Pkt × Sl)) : Dup (rosA qs) := fun h hh q hq => Dup.roS_ h (hh q hq)
theorem St.ros_nil (h : St E L w) : St E (rosA [] :: L) w := by
  obtain ⟨en, x, hs, hl⟩ := h
  exact ⟨en, x, ⟨fun _ => none, x, fun _ => .inl rfl, by funext b; rfl, fun q hq => by simp at hq, hs⟩, hl⟩
theorem St.ros_rd {qs : List (Pkt × Sl)} (h : St E (rosA qs :: L) w) {q : Pkt × Sl} (hq : q ∈ qs) : RdS w q.2.1 q.2.2.1 1 (bytesV q.1.bytes) :=
  (h.mono fun _ hx => hx q hq : St E (roS q.2.1 q.2.2.1 1 (bytesV q.1.bytes) :: L) w).rdS
theorem St.ros_cons {q : Pkt × Sl} {qs : List (Pkt × Sl)} (h : St E (roS q.2.1 q.2.2.1 1 (bytesV q.1.bytes) :: rosA qs :: L) w) : St E (rosA (q :: qs) :: L) w :=
  h.two fun h1 h2 d hA hB q' hq' => by
    rcases List.mem_cons.1 hq' with rfl | hq'
    · exact roS_up1 hA
    · exact roS_up2 d (hB q' hq')
theorem St.ros_app {q1 q2 : List (Pkt × Sl)} (h : St E (rosA q1 :: rosA q2 :: L) w) : St E (rosA (q1 ++ q2) :: L) w :=
  h.two fun h1 h2 d hA hB q' hq' => by
    rcases List.mem_append.1 hq' with hq' | hq'
    · exact roS_up1 (hA q' hq')
    · exact roS_up2 d (hB q' hq')
theorem St.ros_sub {q1 q2 : List (Pkt × Sl)} (hs : ∀ q ∈ q1, q ∈ q2) (h : St E (rosA q2 :: L) w) : St E (rosA q1 :: L) w := h.mono fun _ hx q hq => hx q (hs q hq)
theorem St.ref_open (h : St E (refA p N :: L) w) : ∃ (s : Sl) (qs : List SPk), N.parted.length = 100 ∧ N.clocks.length = 10 ∧ qs.map (·.1) = N.all ∧
    St E (blkL p 77 (refV N s) :: ownS s.1 s.2.1 s.2.2 73 5 (qs.flatMap sentV) :: rosA (qs.map pk) :: L) w := by
  obtain ⟨en, x, ⟨h1, h2, d, rfl, ⟨s, qs, ⟨hp, hc, hq⟩, hs⟩, hL⟩, hl⟩ := h
  exact ⟨s, qs, hp, hc, hq, (St.open_ (L1 := [_, _, _]) ⟨en, _, ⟨h1, h2, d, rfl, hs, hL⟩, hl⟩ :)⟩
theorem St.ref_mk {s : Sl} {qs : List SPk} (h : St E (blkL p 77 (refV N s) :: ownS s.1 s.2.1 s.2.2 73 5 (qs.flatMap sentV) :: rosA (qs.map pk) :: L) w)
    (hp : N.parted.length = 100) (hc : N.clocks.length = 10) (hq : qs.map (·.1) = N.all) : St E (refA p N :: L) w :=
  (St.shut (L1 := [_, _, _]) h).mono fun _ hx => ⟨s, qs, ⟨hp, hc, hq⟩, hx⟩
theorem St.view_open {a : Option Addr} {l c : Nat} {ps : List Pkt} (h : St E (viewA a l c ps :: L) w) : ∃ qs : List (Pkt × Sl), qs.map (·.1) = ps ∧ St E (ownS a l c 41 4 (qs.flatMap pktV) :: rosA qs :: L) w := by
  obtain ⟨en, x, ⟨h1, h2, d, rfl, ⟨qs, hq, hs⟩, hL⟩, hl⟩ := h
  exact ⟨qs, hq, (St.open_ (L1 := [_, _]) ⟨en, _, ⟨h1, h2, d, rfl, hs, hL⟩, hl⟩ :)⟩
theorem St.view_mk {a : Option Addr} {l c : Nat} {qs : List (Pkt × Sl)} (h : St E (ownS a l c 41 4 (qs.flatMap pktV) :: rosA qs :: L) w) : St E (viewA a l c (qs.map (·.1)) :: L) w :=
  (St.shut (L1 := [_, _]) h).mono fun _ hx => ⟨qs, rfl, hx⟩

/-! ### SamePacket, SamePackets -/
/-- What is owned tells what the packets read as. -/
def SeesP (E : World) (L : List Asrt) (a : Option Addr) (l : Nat) (ps : List Pkt) : Prop :=
  ∀ w, St E L w → ∃ qs : List (Pkt × Sl), qs.map (·.1) = ps ∧ RdS w a l 4 (qs.flatMap pktV) ∧ ∀ q ∈ qs, RdS w q.2.1 q.2.2.1 1 (bytesV q.1.bytes)
theorem SeesP.more {a : Option Addr} {l : Nat} {ps : List Pkt} (h : SeesP E L a l ps) (A : Asrt) : SeesP E (A :: L) a l ps := fun w hw => h w hw.drop
theorem sees_under {a : Option Addr} {l c : Nat} {ps : List Pkt} : SeesP E (underA a l c ps :: L) a l ps := fun w hw => by
  obtain ⟨qs, hq, hu⟩ := hw.under_open
  refine ⟨qs, hq, hu.rdS_own, fun q hqm => ?_⟩
  obtain ⟨i, hi, he⟩ := List.getElem_of_mem hqm
  exact hu.f1.pks_rd (i := i) (by rw [List.getElem?_eq_getElem hi, he])
theorem sees_view {a : Option Addr} {l c : Nat} {ps : List Pkt} : SeesP E (viewA a l c ps :: L) a l ps := fun w hw => by
  obtain ⟨qs, hq, hu⟩ := hw.view_open
  exact ⟨qs, hq, hu.rdS_own, fun q hqm => hu.f1.ros_rd hqm⟩
theorem und_bytes : Try.prog.underlying 36 = some (.slice 5) := by kernel_rfl
theorem und_u8 : Try.prog.underlying 5 = some (.int .u8) := by kernel_rfl
theorem und_str : Try.prog.underlying 9 = some .string := by kernel_rfl
theorem samePacket_spec {q1 q2 : Pkt × Sl} (he : q1.1 = q2.1) (h : St E L w) (h1 : RdS w q1.2.1 q1.2.2.1 1 (bytesV q1.1.bytes)) (h2 : RdS w q2.2.1 q2.2.2.1 1 (bytesV q2.1.bytes))
    (k : ∀ w', St E L w' → R (.returned (.bool true)) w') : Calls Try.prog 19 #[.agg ⟨pktV q1⟩, .agg ⟨pktV q2⟩] w R := by
  refine C_ref04_SamePacket (x1 := q1.1.id) (x2 := q1.1.fr) (x3 := q1.1.to) (s4a := q1.2.1) (s4l := q1.2.2.1) (s4c := q1.2.2.2) (x5 := q2.1.id) (x6 := q2.1.fr) (x7 := q2.1.to) (s8a := q2.2.1) (s8l := q2.2.2.1) (s8c := q2.2.2.2) ?_
  unfold T_ref04_SamePacket
  intro w9 w10
  have h9 := h.alloc (.cells ⟨pktV q1⟩ 41)
  have h10 : St E (blkL w9.heap.size 41 (pktV q2) :: blkL w.heap.size 41 (pktV q1) :: L) w10 := h9.alloc (.cells ⟨pktV q2⟩ 41)
  have g1 : RdS w10 q1.2.1 q1.2.2.1 1 (bytesV q1.1.bytes) := (h1.alloc _).alloc _
  have g2 : RdS w10 q2.2.1 q2.2.2.1 1 (bytesV q2.1.bytes) := (h2.alloc _).alloc _
  clear_value w10
  generalize w9.heap.size = b2 at h10 ⊢
  generalize w.heap.size = b1 at h10 ⊢
  have hb1 := h10.f1.at_blk
  have hb2 := h10.at_blk
  refine ⟨q1.1.id, rd_cell hb1 rfl rfl, q2.1.id, rd_cell hb2 rfl rfl, ?_⟩
  rw [if_pos (by rw [he]; simp)]
  refine ⟨q1.1.fr, rd_fld hb1 rfl rfl, q2.1.fr, rd_fld hb2 rfl rfl, ?_⟩
  rw [if_pos (by rw [he]; simp)]
  refine ⟨q1.1.to, rd_fld hb1 rfl rfl, q2.1.to, rd_fld hb2 rfl rfl, ?_⟩
  rw [if_pos (by rw [he]; simp)]
  refine ⟨_, _, _, rd_fld hb1 (l := pktV q1) rfl rfl, runV_ok (convert_string und_bytes und_u8 und_str g1) ⟨_, rfl, _, _, _, rd_fld hb2 (l := pktV q2) rfl rfl, runV_ok (convert_string und_bytes und_u8 und_str g2) ⟨_, rfl, ?_⟩⟩⟩
  rw [toList_mk, toList_mk, he]
  have := k _ h10.drop.drop
  rwa [show (q2.1.bytes == q2.1.bytes) = true by simp]
theorem samePackets_spec {a1 a2 : Option Addr} {l1 l2 c1 c2 : Nat} {ps : List Pkt} (h : St E L w) (h1 : SeesP E L a1 l1 ps) (h2 : SeesP E L a2 l2 ps) (hm : ps.length ≤ 1000000)
    (k : ∀ w', St E L w' → R (.returned (.bool true)) w') : Calls Try.prog 25 #[.slice a1 l1 c1, .slice a2 l2 c2] w R := by
  obtain ⟨qs1, e1, r1, _⟩ := h1 w h
  obtain ⟨qs2, e2, r2, _⟩ := h2 w h
  have n1 : ps.length = l1 := by rw [← e1, List.length_map, r1.count pktV_len (by decide)]
  have n2 : ps.length = l2 := by rw [← e2, List.length_map, r2.count pktV_len (by decide)]
  refine C_ref04_SamePackets ?_
  unfold T_ref04_SamePackets
  rw [if_neg (by simp; omega)]
  unfold T_ref04_SamePackets_1
  intro X hX
  have go : ∀ (n i : Nat) (w : World), n = l1 - i → i ≤ l1 → St E L w → X (i : Int) w := by
    intro n
    induction n with
    | zero =>
      intro i w hn hi h
      refine hX _ _ ?_
      unfold T_ref04_SamePackets_1_body
      exact ite_d (fun hh => by omega) (fun _ => k _ h)
    | succ n ih =>
      intro i w hn hi h
      refine hX _ _ ?_
      unfold T_ref04_SamePackets_1_body
      refine ite_d (fun _ => ?_) (fun hh => by omega)
      intro w6
      have h6 : St E L w6 := h.drew
      obtain ⟨qs1, e1, r1, b1⟩ := h1 w6 h6
      obtain ⟨qs2, e2, r2, b2⟩ := h2 w6 h6
      have m1 : i < qs1.length := by have := congrArg List.length e1; rw [List.length_map] at this; omega
      have m2 : i < qs2.length := by have := congrArg List.length e2; rw [List.length_map] at this; omega
      obtain ⟨d1, ha1, hr1, _⟩ := r1.elem pktV_len (List.getElem?_eq_getElem m1) (by decide)
      obtain ⟨d2, ha2, hr2, _⟩ := r2.elem pktV_len (List.getElem?_eq_getElem m2) (by decide)
      have heq : qs1[i].1 = qs2[i].1 := by
        have x1 : (qs1.map (·.1))[i]? = some qs1[i].1 := by simp [m1]
        have x2 : (qs2.map (·.1))[i]? = some qs2[i].1 := by simp [m2]
        rw [e1, ← e2, x2] at x1
        exact (Option.some.inj x1).symm
      rw [Int.toNat_natCast]
      refine ⟨by omega, by omega, d1, ha1, _, _, _, _, _, _, hr1, by omega, by omega, d2, ha2, _, _, _, _, _, _, hr2, ?_⟩
      refine samePacket_spec heq h6 (b1 _ (List.getElem_mem m1)) (b2 _ (List.getElem_mem m2)) fun w18 h18 => ⟨_, rfl, trivial, ?_⟩
      rw [if_neg (by simp), wrap_id (by omega) (by omega)]
      have := ih (i + 1) w18 (by omega) (by omega) h18
      exact_mod_cast this
  exact go l1 0 w (by omega) (by omega) h

/-! ### the functions of the ref's net -/
def R0 : RNet := ⟨[], List.replicate 100 false, N0.clocks⟩
theorem rnew_spec (h : St E L w) (k : ∀ w' p, St E (refA p R0 :: L) w' → R (.returned (.pointer (some ⟨p, 0, none⟩))) w') : Calls Try.prog 32 #[] w R := by
  refine C_ref04_New ?_
  unfold T_ref04_New
  intro w1
  have h1 : St E (blkL w.heap.size 77 (refV R0 (none, 0, 0)) :: L) w1 := h.alloc _
  refine k _ _ (St.ref_mk (s := (none, 0, 0)) (qs := []) ?_ rfl rfl rfl)
  exact (St.ownS_nil (St.ros_nil h1).f1.f1).f2.b2.f2
theorem rlink_spec {f t : Int} (k : R (.returned (.bool (isLink f t))) w) : Calls Try.prog 55 #[.int .i64 f, .int .i64 t] w R := by
  refine C_ref04_link ?_
  unfold T_ref04_link
  have e : isLink f t = (decide (f ≥ 1) && (decide (f ≤ 9) && (decide (t ≥ 1) && (decide (t ≤ 9) && (f != t))))) := by
    simp only [isLink, isNode, Bool.decide_and, ge_iff_le, Bool.and_assoc]
    rfl
  rw [e] at k
  refine ite_b (fun h1 => ite_b (fun h2 => ite_b (fun h3 => ite_b (fun h4 => ?_) (fun h4 => ?_)) (fun h3 => ?_)) (fun h2 => ?_)) (fun h1 => ?_)
  · rw [h1, h2, h3, h4] at k; exact k
  · rw [h1, h2, h3, h4] at k; exact k
  · rw [h1, h2, h3] at k; exact k
  · rw [h1, h2] at k; exact k
  · rw [h1] at k; exact k
theorem ref_count {s : Sl} {qs : List SPk} (hq : qs.map (·.1) = N.all) (h : St E (blkL p 77 (refV N s) :: ownS s.1 s.2.1 s.2.2 73 5 (qs.flatMap sentV) :: L) w) : N.all.length = s.2.1 ∧ qs.length = s.2.1 := by
  have := h.f1.rdS_own.count sentV_len (by decide)
  exact ⟨by rw [← hq, List.length_map, this], this⟩
def rUnder (N : RNet) : List Pkt := (N.all.filter fun q => !q.2).map (·.1)
theorem under_pk : ∀ (qs : List SPk), ((qs.filter alive).map pk).map (·.1) = ((qs.map (·.1)).filter fun q => !q.2).map (·.1)
  | [] => rfl
  | q :: r => by
    have ih := under_pk r
    obtain ⟨⟨q1, g⟩, sl⟩ := q
    cases g
    · show q1 :: (((r.filter alive).map pk).map (·.1)) = q1 :: _
      rw [ih]
    · exact ih
theorem runder_spec (h : St E (refA p N :: L) w) (hm : N.all.length ≤ 100000) (k : ∀ w' a l c, St E (viewA a l c (rUnder N) :: refA p N :: L) w' → R (.returned (.slice a l c)) w') :
    Calls Try.prog 31 #[.pointer (some ⟨p, 0, none⟩)] w R := by
  obtain ⟨s, qs, hp, hc, hq, ho⟩ := h.ref_open
  have hct := ref_count hq ho
  refine C_ref04_Net_Under ?_
  unfold T_ref04_Net_Under
  intro w2
  have h2 : St E (ownS (some ⟨w.heap.size, 0, none⟩) 0 0 41 4 (([] : List (Pkt × Sl)).flatMap pktV) :: _) w2 := (ho.alloc _).ownS_mk (rest := []) rfl (Nat.le_refl _) (Nat.zero_le _) rfl
  unfold T_ref04_Net_Under_1
  intro X hX
  have go : ∀ (n i : Nat) (a : Option Addr) (l c : Nat) (w : World), n = s.2.1 - i → i ≤ s.2.1 →
      St E (ownS a l c 41 4 ((((qs.take i).filter alive).map pk).flatMap pktV) :: blkL p 77 (refV N s) :: ownS s.1 s.2.1 s.2.2 73 5 (qs.flatMap sentV) :: rosA (qs.map pk) :: L) w → X a l c (i : Int) w := by
    intro n
    induction n with
    | zero =>
      intro i a l c w hn hi h
      refine hX _ _ _ _ _ ?_
      unfold T_ref04_Net_Under_1_body T_ref04_Net_Under_2
      rw [if_pos (by rfl)]
      refine ⟨_, rfl, _, _, _, rd_cell h.f1.at_blk rfl rfl, ?_⟩
      rw [show decide ((i : Int) < (s.2.1 : Int)) = false by simp; omega]
      rw [List.take_of_length_le (by omega)] at h
      have h3 : St E (rosA ((qs.filter alive).map pk) :: rosA (qs.map pk) :: ownS a l c 41 4 (((qs.filter alive).map pk).flatMap pktV) :: blkL p 77 (refV N s) :: ownS s.1 s.2.1 s.2.2 73 5 (qs.flatMap sentV) :: L) w :=
        (St.dup (Dup.rosA_ _) h.f3).ros_sub fun q hq => by
          obtain ⟨x, hx, rfl⟩ := List.mem_map.1 hq
          exact List.mem_map_of_mem ((List.mem_filter.1 hx).1)
      have h4 := St.view_mk (h3.f2 :)
      rw [under_pk, hq] at h4
      exact k _ _ _ _ (St.ref_mk (s := s) (qs := qs) (h4.b3.b2 :) hp hc hq).f1
    | succ n ih =>
      intro i a l c w hn hi h
      refine hX _ _ _ _ _ ?_
      unfold T_ref04_Net_Under_1_body T_ref04_Net_Under_2
      rw [if_pos (by rfl)]
      have hb := h.f1.at_blk
      have hiq : i < qs.length := by omega
      have hrow := h.f2.rdS_own
      obtain ⟨ad, ha, hrd, hcell⟩ := hrow.elem sentV_len (List.getElem?_eq_getElem hiq) (by decide)
      refine ⟨_, rfl, _, _, _, rd_cell hb rfl rfl, ?_⟩
      rw [show decide ((i : Int) < (s.2.1 : Int)) = true by simp; omega]
      refine ite_b (fun _ => ?_) (fun hh => by cases hh)
      simp -zeta only [Int.toNat_natCast]
      refine ⟨_, rfl, _, _, _, rd_cell hb rfl rfl, by omega, by omega, ad, ha, _, hcell 4 _ rfl rfl, ite_n (fun hg => ?_) (fun hg => ?_)⟩
      · have hpk : rd w (ad.add (i * 5)) (.agg ⟨pktV (pk qs[i])⟩) := by
          intro j u hu
          refine hrd j u ?_
          have hj : j < 4 := by have := (Array.getElem?_eq_some_iff.1 hu).1; simpa [Value.cells, pktV] using this
          match j, hj with
          | 0, _ => exact hu
          | 1, _ => exact hu
          | 2, _ => exact hu
          | 3, _ => exact hu
        refine ⟨_, rfl, _, _, _, rd_cell hb rfl rfl, by omega, by omega, ad, ha, _, _, _, _, _, _, hpk, ?_⟩
        intro w26
        have h26 := h.alloc (.cells ⟨pktV (pk qs[i])⟩ 41)
        have hro : RdS w26 (some ⟨w.heap.size, 0, none⟩) 1 4 ([pk qs[i]].flatMap pktV) := (h26.ownS_mk (l := 1) (c := 1) (xs := [pk qs[i]].flatMap pktV) (rest := []) rfl (Nat.le_refl _) (by decide) rfl).rdS_own
        have hcnt := h.rdS_own.count pktV_len (by decide)
        have hll : l ≤ 100000 := by
          rw [← hcnt, List.length_map]
          exact Nat.le_trans (List.length_filter_le ..) (by rw [List.length_take]; omega)
        obtain ⟨a', c', w28, hr, h28⟩ := app_pkts (c2 := 1) h26.f1 hro (by omega)
        refine runV_ok hr ⟨_, _, _, rfl, ?_⟩
        rw [wrap_id (by omega) (by omega)]
        have h29 : St E (ownS a' (l + 1) c' 41 4 ((((qs.take (i + 1)).filter alive).map pk).flatMap pktV) :: blkL p 77 (refV N s) :: ownS s.1 s.2.1 s.2.2 73 5 (qs.flatMap sentV) :: rosA (qs.map pk) :: L) w28 := by
          rw [List.take_succ_eq_append_getElem hiq, List.filter_append, List.map_append]
          rw [show [qs[i]].filter alive = [qs[i]] by simp [alive, hg]]
          exact h28.f1.drop
        have := ih (i + 1) a' (l + 1) c' w28 (by omega) (by omega) h29
        exact_mod_cast this
      · rw [wrap_id (by omega) (by omega)]
        have h29 : St E (ownS a l c 41 4 ((((qs.take (i + 1)).filter alive).map pk).flatMap pktV) :: blkL p 77 (refV N s) :: ownS s.1 s.2.1 s.2.2 73 5 (qs.flatMap sentV) :: rosA (qs.map pk) :: L) w := by
          rw [List.take_succ_eq_append_getElem hiq, List.filter_append, List.map_append]
          rw [show [qs[i]].filter alive = [] by simp [alive, hg]]
          rw [List.map_nil, List.append_nil]; exact h
        have := ih (i + 1) a l c w (by omega) (by omega) h29
        exact_mod_cast this
  have := go s.2.1 0 _ 0 0 w2 (by omega) (by omega) h2
  exact this
theorem rlen_spec (h : St E (refA p N :: L) w) (hm : N.all.length ≤ 100000) (k : ∀ w', St E (refA p N :: L) w' → R (.returned (.int .i64 ((rUnder N).length : Int))) w') :
    Calls Try.prog 30 #[.pointer (some ⟨p, 0, none⟩)] w R := by
  refine C_ref04_Net_Len ?_
  unfold T_ref04_Net_Len
  refine runder_spec h hm fun w' a l c h' => ⟨_, _, _, rfl, ?_⟩
  obtain ⟨qs, hq, hu⟩ := h'.view_open
  have hct := hu.rdS_own.count pktV_len (by decide)
  rw [show l = (rUnder N).length by rw [← hct, ← hq, List.length_map]]
  exact k _ h'.drop
end
end Go.Vc
