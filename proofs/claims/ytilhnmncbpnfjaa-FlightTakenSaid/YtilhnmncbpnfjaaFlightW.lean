/-
  Both nets side by side: 'do', 'same', 'play'.
-/
import Derived.Test.YtilhnmncbpnfjaaFlightV
namespace Go.Vc
open Go Go.Proofs Go.Proofs.Ytilhnmncbpnfjaa

structure Deed where
  kind : Int
  fr : Int
  to : Int
  i : Int
  bytes : List UInt8
def deedV (d : Deed × Sl) : List Value := [.int .i64 d.1.kind, .int .i64 d.1.fr, .int .i64 d.1.to, .int .i64 d.1.i, .slice d.2.1 d.2.2.1 d.2.2.2]
theorem deedV_len (d : Deed × Sl) : (deedV d).length = 5 := rfl
theorem deedV_one1 (d : Deed × Sl) : ∀ u ∈ deedV d, one u = true := by
  intro u hu
  simp only [deedV, List.mem_cons, List.not_mem_nil, or_false] at hu
  rcases hu with rfl | rfl | rfl | rfl | rfl <;> rfl
def nDeed (N : Net) (d : Deed) : Net :=
  if d.kind = 0 then (nSend N d.fr d.to d.bytes).1
  else if d.kind = 1 then (nTake N d.i).1
  else if d.kind = 2 then (nDouble N d.i).1
  else if d.kind = 3 then (nPart N d.fr d.to).1
  else if d.kind = 4 then (nHeal N d.fr d.to).1
  else if d.kind = 5 then (nTick N d.fr).1
  else N

section
variable {E w : World} {L : List Asrt} {p r n : Nat} {N : Net} {Q : RNet} {R : Ending → World → Prop}

theorem ite_q {x y : Int} {A B : Prop} (h1 : x = y → A) (h2 : x ≠ y → B) : if (x == y) = true then A else B := by
  by_cases h : x = y
  · rw [if_pos (by simpa using h)]; exact h1 h
  · rw [if_neg (by simpa using h)]; exact h2 h
theorem beq_end (x : Int) (h : R (.returned (.bool true)) w) : R (.returned (.bool (x == x))) w := by rwa [beq_self_eq_true x]

theorem own_loop {a : Option Addr} {l c : Nat} {Kn : World → Prop} {Kp : List PanicEntry → World → Prop} (hm : l ≤ 1000000) (k : ∀ w', St E L w' → Kn w') {xs : List Value} (hx : ∀ u ∈ xs, ∃ n : Int, u = .int .u8 n) (h : St E (ownS a l c 5 1 xs :: L) w) :
    T_law04_do_1 0 a l c w Kn Kp := by
  unfold T_law04_do_1
  intro X hX
  have go : ∀ (n i : Nat) (xs : List Value) (w : World), n = l - i → i ≤ l → (∀ u ∈ xs, ∃ n : Int, u = .int .u8 n) → St E (ownS a l c 5 1 xs :: L) w → X (i : Int) w := by
    intro n
    induction n with
    | zero =>
      intro i xs w hn hi hx h
      refine hX _ _ ?_
      unfold T_law04_do_1_body
      exact ite_d (fun hh => absurd hh (by omega)) (fun _ => k _ h.drop)
    | succ n ih =>
      intro i xs w hn hi hx h
      refine hX _ _ ?_
      unfold T_law04_do_1_body
      have hr := h.rdS_own
      have hlen : xs.length = l := by have := hr.1; omega
      have hix : i < xs.length := by omega
      obtain ⟨ad, ha, _⟩ := hr.cells (by omega)
      obtain ⟨v, hv⟩ := hx xs[i] (List.getElem_mem hix)
      refine ite_d (fun _ => ?_) (fun hh => absurd hh (by omega))
      rw [Int.toNat_natCast, Nat.mul_one]
      refine ⟨by omega, by omega, ad, ha, v, hr.rd_cell ha (by omega) (by rw [List.getElem?_eq_getElem hix, hv]) rfl, by omega, by omega, ad, ha, rfl, ?_⟩
      generalize IntKind.wrap .u8 _ = v'
      obtain ⟨hok, h33⟩ := h.ownS_set ha hix (v := .int .u8 v') rfl
      refine ⟨hok, ?_⟩
      intro w33
      rw [wrap_id (by omega) (by omega)]
      have := ih (i + 1) (xs.set i (.int .u8 v')) w33 (by omega) (by omega) (fun u hu => by
        rcases List.mem_or_eq_of_mem_set hu with hm | rfl
        · exact hx u hm
        · exact ⟨v', rfl⟩) h33
      exact_mod_cast this
  exact go l 0 xs w (by omega) (by omega) hx h

theorem do_spec {d : Deed × Sl} (h : St E (netA p N :: refA r Q :: L) w) (hr : Rel n N Q) (hn : n ≤ 40000) (hs : Sees E L d.2.1 d.2.2.1 1 (bytesV d.1.bytes)) (hb : d.2.2.1 ≤ 70000)
    (k : ∀ w' Q', Rel (n + 1) (nDeed N d.1) Q' → St E (netA p (nDeed N d.1) :: refA r Q' :: L) w' → R (.returned (.bool true)) w') :
    Calls Try.prog 33 #[.pointer (some ⟨p, 0, none⟩), .pointer (some ⟨r, 0, none⟩), .agg ⟨deedV d⟩] w R := by
  have okn := hr.okN (by omega)
  have okr := hr.okR (by omega)
  refine C_law04_do (x3 := d.1.kind) (x4 := d.1.fr) (x5 := d.1.to) (x6 := d.1.i) (s7a := d.2.1) (s7l := d.2.2.1) (s7c := d.2.2.2) ?_
  unfold T_law04_do
  intro w8
  have h8 : St E (netA p N :: refA r Q :: blkL w.heap.size 38 (deedV d) :: L) w8 := (h.alloc (.cells ⟨deedV d⟩ 38)).b2
  clear_value w8
  generalize w.heap.size = g at h8 ⊢
  unfold nDeed at k
  refine ⟨d.1.kind, rd_cell h8.f2.at_blk rfl rfl, ite_q (fun h0 => ?_) (fun h0 => ite_q (fun h1 => ?_) (fun h1 => ite_q (fun h2 => ?_) (fun h2 => ite_q (fun h3 => ?_) (fun h3 => ite_q (fun h4 => ?_) (fun h4 => ite_q (fun h5 => ?_) (fun h5 => ?_))))))⟩
  · rw [if_pos h0] at k
    intro w10
    have h10 : St E (ownS (some ⟨w8.heap.size, 0, none⟩) 0 0 5 1 (bytesV []) :: netA p N :: refA r Q :: blkL g 38 (deedV d) :: L) w10 := (h8.alloc _).ownS_mk (rest := []) rfl (Nat.le_refl _) (Nat.zero_le _) rfl
    refine ⟨_, _, _, rd_fld h10.f3.at_blk (l := deedV d) rfl rfl, ?_⟩
    obtain ⟨a', c', w13, hrun, h13⟩ := app_bytes (c2 := d.2.2.2) h10 (hs _ h10.drop.drop.drop.drop) (by omega)
    rw [Nat.zero_add] at hrun h13
    refine runV_ok hrun ⟨_, _, _, rfl, _, rd_fld h13.f3.at_blk (l := deedV d) rfl rfl, _, rd_fld h13.f3.at_blk (l := deedV d) rfl rfl, ?_⟩
    refine send_spec (f := d.1.fr) (t := d.1.to) (bs := d.1.bytes) h13.f1 (fun w hw => hw.rdS_own) okn fun w18 h18 => ⟨_, _, rfl, _, rd_fld h18.f3.at_blk (l := deedV d) rfl rfl, _, rd_fld h18.f3.at_blk (l := deedV d) rfl rfl, _, _, _, rd_fld h18.f3.at_blk (l := deedV d) rfl rfl, ?_⟩
    refine rsend_spec (f := d.1.fr) (t := d.1.to) (bs := d.1.bytes) h18.f2 (((hs.more _).more _).more _) okr fun w25 h25 => ⟨_, _, rfl, ?_⟩
    obtain ⟨e1, e2⟩ := rel_send (f := d.1.fr) (t := d.1.to) (bs := d.1.bytes) hr
    refine own_loop (by omega) (fun w34 h34 => ?_) (xs := bytesV d.1.bytes) (fun u hu => ?_) (h25.f2 :)
    · rw [e1]
      exact ite_q (fun _ => beq_end _ (k w34 _ e2 (h34.f1.f2.drop : St E _ w34))) (fun hh => absurd rfl hh)
    · obtain ⟨b, _, rfl⟩ := List.mem_map.1 hu
      exact ⟨_, rfl⟩
  · rw [if_neg h0, if_pos h1] at k
    refine ⟨_, rd_fld h8.f2.at_blk (l := deedV d) rfl rfl, take_spec (i := d.1.i) h8 okn fun w37 sl h37 => ⟨_, _, _, _, _, _, _, rfl, ?_⟩⟩
    intro w43
    have h43 := h37.alloc (.cells #[.int .i64 0, .int .i64 0, .int .i64 0, .slice none 0 0] 41)
    refine ⟨rfl, wrOk_agg h43.at_blk (by simp) (pktV_one1 ((nTake N d.1.i).2.1, sl)), ?_⟩
    intro w44
    have h44 : St E (refA r Q :: blkL w37.heap.size 41 (pktV ((nTake N d.1.i).2.1, sl)) :: pktA ((nTake N d.1.i).2.1, sl) :: netA p (nTake N d.1.i).1 :: blkL g 38 (deedV d) :: L) w44 := (h43.wr_agg0 (xs := pktV ((nTake N d.1.i).2.1, sl)) rfl).f3
    clear_value w44
    generalize w37.heap.size = g2 at h44 ⊢
    refine ⟨_, rd_fld h44.f4.at_blk (l := deedV d) rfl rfl, ?_⟩
    -- what is the same at both ends
    have fin : ∀ (w47 : World) (q2 : Pkt × Sl) (Q' : RNet), q2.1 = (nTake N d.1.i).2.1 → Rel (n + 1) (nTake N d.1.i).1 Q' →
        St E (rosA [q2] :: refA r Q' :: blkL g2 41 (pktV ((nTake N d.1.i).2.1, sl)) :: pktA ((nTake N d.1.i).2.1, sl) :: netA p (nTake N d.1.i).1 :: blkL g 38 (deedV d) :: L) w47 →
        ∀ (w53 : World), w53 = w47.alloc (.cells #[.int .i64 0, .int .i64 0, .int .i64 0, .slice none 0 0] 41) →
        ((.agg ⟨pktV q2⟩ : Value).cells.size = 4 ∧ wrOk w53 (⟨w47.heap.size, 0, none⟩ : Addr) (.agg ⟨pktV q2⟩) ∧ let w54 : World := wr w53 (⟨w47.heap.size, 0, none⟩ : Addr) (.agg ⟨pktV q2⟩)
          ∃ x55 : Int, ∃ x56 : Int, ∃ x57 : Int, ∃ s58a : Option Addr, ∃ s58l : Nat, ∃ s58c : Nat, rd w54 (⟨g2, 0, none⟩ : Addr) (.agg #[.int .i64 x55, .int .i64 x56, .int .i64 x57, .slice s58a s58l s58c]) ∧ ∃ x59 : Int, ∃ x60 : Int, ∃ x61 : Int, ∃ s62a : Option Addr, ∃ s62l : Nat, ∃ s62c : Nat, rd w54 (⟨w47.heap.size, 0, none⟩ : Addr) (.agg #[.int .i64 x59, .int .i64 x60, .int .i64 x61, .slice s62a s62l s62c]) ∧ Calls Try.prog 19 #[.agg #[.int .i64 x55, .int .i64 x56, .int .i64 x57, .slice s58a s58l s58c], .agg #[.int .i64 x59, .int .i64 x60, .int .i64 x61, .slice s62a s62l s62c]] w54 (ret (fun r63 w64 => ∃ b65 : Bool, r63 = .bool b65 ∧ if b65 = true then (R (.returned (.bool (((nTake N d.1.i).2.2 : Int) == (nTake N d.1.i).2.2))) w64) else (R (.returned (.bool false)) w64)) (pan R))) := by
      intro w47 q2 Q' hq hrel h47 w53 hw53
      subst hw53
      have h53 := h47.alloc (.cells #[.int .i64 0, .int .i64 0, .int .i64 0, .slice none 0 0] 41)
      refine ⟨rfl, wrOk_agg h53.at_blk (by show (4 : Nat) ≤ 4; omega) (pktV_one1 q2), ?_⟩
      intro w54
      have h54 := h53.wr_agg0 (xs := pktV q2) rfl
      refine ⟨_, _, _, _, _, _, rd_agg h54.f3.at_blk (xs := pktV ((nTake N d.1.i).2.1, sl)) (fun m u hu => by rw [Nat.zero_add]; exact hu), _, _, _, _, _, _, rd_agg h54.at_blk (xs := pktV q2) (fun m u hu => by rw [Nat.zero_add]; exact hu), ?_⟩
      refine samePacket_spec (q1 := ((nTake N d.1.i).2.1, sl)) (q2 := q2) hq.symm h54 (h54.f4.rdS_own) (h54.f1.ros_rd (List.mem_singleton.2 rfl)) fun w64 h64 => ⟨true, rfl, ?_⟩
      exact beq_end _ (k w64 Q' hrel ((h64.drop.drop.f1.drop.f1.drop.f2.drop.f1 : St E (netA p (nTake N d.1.i).1 :: refA r Q' :: L) w64)))
    refine rtake_spec (i := d.1.i) h44 okr (fun w47 hi h47 => ⟨_, _, _, _, _, _, _, rfl, ?_⟩) (fun w47 j q sl2 hj hcnt h47 => ⟨_, _, _, _, _, _, _, rfl, ?_⟩)
    · have e := rel_take0 hr hi
      rw [e] at fin
      rw [e]
      intro w53
      have h47b := h47
      rw [e] at h47b
      refine fin w47 (zeroP, (none, 0, 0)) Q rfl hr.up (St.ros_cons (q := (zeroP, (none, 0, 0))) ((h47b.ros_nil.roS_nil none : St E (roS none 0 1 [] :: rosA [] :: _) w47))) w53 rfl
    · obtain ⟨e, hrel⟩ := rel_take hr hj
      rw [hcnt] at e
      rw [e] at fin
      rw [e]
      rw [e] at h47
      intro w53
      exact fin w47 (q, sl2) _ rfl hrel h47 w53 rfl
  · rw [if_neg h0, if_neg h1, if_pos h2] at k
    refine ⟨_, rd_fld h8.f2.at_blk (l := deedV d) rfl rfl, double_spec (i := d.1.i) h8 okn fun w68 h68 => ⟨_, _, rfl, _, rd_fld h68.f2.at_blk (l := deedV d) rfl rfl, ?_⟩⟩
    refine rdouble_spec (i := d.1.i) h68.f1 okr (fun w73 hi h73 => ⟨_, _, rfl, ?_⟩) (fun w73 j q hj hcnt hf h73 => ⟨_, _, rfl, ?_⟩) (fun w73 j q hj hcnt hf h73 => ⟨_, _, rfl, ?_⟩)
    · have e := rel_double0 hr hi
      rw [e] at h73 k ⊢
      exact k _ Q hr.up ((h73.f1.f2.drop : St E _ w73))
    · have e := (rel_double hr hj).1 hf
      rw [hcnt] at e
      rw [e] at h73 k ⊢
      exact k _ Q hr.up ((h73.f1.f2.drop : St E _ w73))
    · obtain ⟨e, hrel⟩ := (rel_double hr hj).2 hf
      rw [hcnt] at e
      rw [e] at h73 k ⊢
      rw [show N.last + 1 = (Q.all.length : Int) + 1 by rw [hr.last]]
      exact ite_q (fun _ => k _ _ hrel ((h73.f1.f2.drop : St E _ w73))) (fun hh => absurd rfl hh)
  · rw [if_neg h0, if_neg h1, if_neg h2, if_pos h3] at k
    intro w76
    have h76 : St E (netA p N :: refA r Q :: blkL g 38 (deedV d) :: L) w76 := h8.drew
    refine ⟨_, rd_fld h76.f2.at_blk (l := deedV d) rfl rfl, _, rd_fld h76.f2.at_blk (l := deedV d) rfl rfl, _, rd_fld h76.f2.at_blk (l := deedV d) rfl rfl, _, rd_fld h76.f2.at_blk (l := deedV d) rfl rfl, ?_⟩
    refine part_spec (f := d.1.fr) (t := d.1.to) h76 okn fun w82 h82 => ⟨_, rfl, ⟨rd_fld h82.f2.at_blk (l := deedV d) rfl rfl, rd_fld h82.f2.at_blk (l := deedV d) rfl rfl, trivial⟩, ?_⟩
    refine rpart_spec (f := d.1.fr) (t := d.1.to) h82.f1 okr fun w85 h85 => ⟨_, rfl, trivial, ?_⟩
    obtain ⟨e1, e2⟩ := rel_part (f := d.1.fr) (t := d.1.to) hr
    rw [e1]
    exact beq_end _ (k w85 _ e2 (h85.f1.f2.drop : St E _ w85))
  · rw [if_neg h0, if_neg h1, if_neg h2, if_neg h3, if_pos h4] at k
    intro w76
    have h76 : St E (netA p N :: refA r Q :: blkL g 38 (deedV d) :: L) w76 := h8.drew
    refine ⟨_, rd_fld h76.f2.at_blk (l := deedV d) rfl rfl, _, rd_fld h76.f2.at_blk (l := deedV d) rfl rfl, _, rd_fld h76.f2.at_blk (l := deedV d) rfl rfl, _, rd_fld h76.f2.at_blk (l := deedV d) rfl rfl, ?_⟩
    refine heal_spec (f := d.1.fr) (t := d.1.to) h76 fun w82 h82 => ⟨_, rfl, ⟨rd_fld h82.f2.at_blk (l := deedV d) rfl rfl, rd_fld h82.f2.at_blk (l := deedV d) rfl rfl, trivial⟩, ?_⟩
    refine rheal_spec (f := d.1.fr) (t := d.1.to) h82.f1 fun w85 h85 => ⟨_, rfl, trivial, ?_⟩
    obtain ⟨e1, e2⟩ := rel_heal (f := d.1.fr) (t := d.1.to) hr
    rw [e1]
    exact beq_end _ (k w85 _ e2 (h85.f1.f2.drop : St E _ w85))
  · rw [if_neg h0, if_neg h1, if_neg h2, if_neg h3, if_neg h4, if_pos h5] at k
    refine ⟨_, rd_fld h8.f2.at_blk (l := deedV d) rfl rfl, tick_spec (n := d.1.fr) h8 okn fun w68 h68 => ⟨_, _, rfl, _, rd_fld h68.f2.at_blk (l := deedV d) rfl rfl, ?_⟩⟩
    refine rtick_spec (n := d.1.fr) h68.f1 okr fun w73 h73 => ⟨_, _, rfl, ?_⟩
    obtain ⟨e1, e2⟩ := rel_tick (k := d.1.fr) hr
    rw [e1]
    exact ite_q (fun _ => beq_end _ (k w73 _ e2 (h73.f1.f2.drop : St E _ w73))) (fun hh => absurd rfl hh)
  · rw [if_neg h0, if_neg h1, if_neg h2, if_neg h3, if_neg h4, if_neg h5] at k
    exact k _ Q hr.up (h8.f2.drop : St E _ w8)
end
end Go.Vc
