/-
  Both nets side by side: 'same', 'play'; the laws FlightPlays, FlightForks: their walks.
-/
import Derived.Test.YtilhnmncbpnfjaaFlightW
import Derived.Test.YtilhnmncbpnfjaaFlightH
namespace Go.Vc
open Go Go.Proofs Go.Proofs.Ytilhnmncbpnfjaa

section
variable {E w : World} {L : List Asrt} {p r n : Nat} {N : Net} {Q : RNet} {R : Ending → World → Prop}

theorem Rel.parted_ (h : Rel n N Q) (f t : Int) : (isLink f t && Go.Vc.gone Q f t) = nParted N f t := by
  unfold nParted
  cases hl : isLink f t with
  | false => rw [h.keys f t hl]; rfl
  | true => rw [Bool.true_and]; exact h.gone f t hl
theorem Rel.ucount (h : Rel n N Q) : (rUnder Q).length = N.under.length := by rw [h.und]
theorem same_spec {d : Deed × Sl} (h : St E (netA p N :: refA r Q :: L) w) (hr : Rel n N Q) (hn : n ≤ 40000)
    (k : ∀ w', St E (netA p N :: refA r Q :: L) w' → R (.returned (.bool true)) w') :
    Calls Try.prog 34 #[.pointer (some ⟨p, 0, none⟩), .pointer (some ⟨r, 0, none⟩), .agg ⟨deedV d⟩] w R := by
  have okn := hr.okN (by omega)
  have okr := hr.okR (by omega)
  have hm : Q.all.length ≤ 100000 := by have := hr.few; omega
  refine C_law04_same (x3 := d.1.kind) (x4 := d.1.fr) (x5 := d.1.to) (x6 := d.1.i) (s7a := d.2.1) (s7l := d.2.2.1) (s7c := d.2.2.2) ?_
  unfold T_law04_same
  intro w8 w9
  have h9 : St E (netA p N :: refA r Q :: blkL w.heap.size 38 (deedV d) :: L) w9 := (h.alloc (.cells ⟨deedV d⟩ 38)).b2.drew
  clear_value w9
  generalize w.heap.size = g at h9 ⊢
  refine len_spec h9 ⟨_, rfl, trivial, rlen_spec h9.f1 hm fun w14 h14 => ⟨_, rfl, trivial, ?_⟩⟩
  refine ite_q (fun _ => ?_) (fun hh => absurd (by rw [hr.ucount]) hh)
  refine under_spec h14.f1 okn fun w17 a1 l1 c1 h17 => ⟨_, _, _, rfl, trivial, ?_⟩
  refine runder_spec (h17.f2 : St E (refA r Q :: _) w17) hm fun w20 a2 l2 c2 h20 => ⟨_, _, _, rfl, trivial, ?_⟩
  have h20' : St E (underA a1 l1 c1 N.under :: viewA a2 l2 c2 N.under :: refA r Q :: netA p N :: blkL g 38 (deedV d) :: L) w20 := by
    rw [hr.und] at h20
    exact h20.f2
  refine samePackets_spec (ps := N.under) h20' sees_under ((fun w hw => sees_view w hw.f1) : SeesP E _ _ _ _) (by have := hr.full; omega) fun w23 h23 => ⟨_, rfl, trivial, ?_⟩
  have h24 : St E (netA p N :: refA r Q :: blkL g 38 (deedV d) :: L) w23 := h23.drop.drop.f1
  refine ⟨_, rd_fld h24.f2.at_blk (l := deedV d) rfl rfl, _, rd_fld h24.f2.at_blk (l := deedV d) rfl rfl, now_spec (n := d.1.fr) h24 ⟨_, rfl, ⟨rd_fld h24.f2.at_blk (l := deedV d) rfl rfl, trivial⟩, rnow_spec (n := d.1.fr) h24.f1 ⟨_, rfl, trivial, ?_⟩⟩⟩
  have enow : rNow Q d.1.fr = nNow N d.1.fr := by unfold rNow nNow; rw [hr.clocks]
  rw [enow]
  refine ite_q (fun _ => ?_) (fun hh => absurd rfl hh)
  refine ⟨_, rd_fld h24.f2.at_blk (l := deedV d) rfl rfl, _, rd_fld h24.f2.at_blk (l := deedV d) rfl rfl, _, rd_fld h24.f2.at_blk (l := deedV d) rfl rfl, _, rd_fld h24.f2.at_blk (l := deedV d) rfl rfl, ?_⟩
  refine parted_spec (f := d.1.fr) (t := d.1.to) h24 ⟨_, rfl, ⟨rd_fld h24.f2.at_blk (l := deedV d) rfl rfl, rd_fld h24.f2.at_blk (l := deedV d) rfl rfl, trivial⟩, rparted_spec (f := d.1.fr) (t := d.1.to) h24.f1 ⟨_, rfl, trivial, ?_⟩⟩
  rw [hr.parted_, show (nParted N d.1.fr d.1.to == nParted N d.1.fr d.1.to) = true by simp]
  exact k _ (h24.f2.drop : St E _ w23)

/-- What is owned tells the deeds of a script. -/
structure SeesD (E : World) (L : List Asrt) (a : Option Addr) (l : Nat) (ds : List (Deed × Sl)) : Prop where
  row : Sees E L a l 5 (ds.flatMap deedV)
  bytes : ∀ d ∈ ds, Sees E L d.2.1 d.2.2.1 1 (bytesV d.1.bytes)
theorem SeesD.more {a : Option Addr} {l : Nat} {ds : List (Deed × Sl)} (h : SeesD E L a l ds) (A : Asrt) : SeesD E (A :: L) a l ds := ⟨h.row.more A, fun d hd => (h.bytes d hd).more A⟩
theorem many_spec {a : Option Addr} {l c : Nat} (k : R (.returned (.int .i64 ((min l 400 : Nat) : Int))) w) : Calls Try.prog 16 #[.slice a l c] w R := by
  refine C_law04_many ?_
  unfold T_law04_many
  rwa [show (if 400 < (l : Int) then 400 else (l : Int)) = ((min l 400 : Nat) : Int) by split <;> omega]

theorem play_spec {a : Option Addr} {l c : Nat} {ds : List (Deed × Sl)} (h : St E L w) (hs : SeesD E L a l ds)
    (k : ∀ w' p r N Q, Rel 400 N Q → St E (netA p N :: refA r Q :: L) w' → R (.returned (.tuple #[.pointer (some ⟨p, 0, none⟩), .pointer (some ⟨r, 0, none⟩), .bool true])) w') :
    Calls Try.prog 23 #[.slice a l c] w R := by
  have hl : ds.length = l := (hs.row w h).count deedV_len (by decide)
  refine C_law04_play ?_
  unfold T_law04_play
  refine new_spec h fun w3 p h3 => ⟨_, rfl, rnew_spec h3 fun w6 r h6 => ⟨_, rfl, ?_⟩⟩
  unfold T_law04_play_1
  intro X hX
  have go : ∀ (n i : Nat) (N : Net) (Q : RNet) (w : World), n = min l 400 - i → i ≤ min l 400 → Rel i N Q → St E (netA p N :: refA r Q :: L) w → X (i : Int) w := by
    intro n
    induction n with
    | zero =>
      intro i N Q w hn hi hr h
      refine hX _ _ ?_
      unfold T_law04_play_1_body
      refine many_spec ⟨_, rfl, ite_d (fun hh => absurd hh (by omega)) (fun _ => k _ p r N Q (hr.mono (by omega)) h)⟩
    | succ n ih =>
      intro i N Q w hn hi hr h
      refine hX _ _ ?_
      unfold T_law04_play_1_body
      have hid : i < ds.length := by omega
      have hmem : ds[i] ∈ ds := List.getElem_mem hid
      obtain ⟨ad, ha, hrd, hcell⟩ := (hs.row _ h.drop.drop).elem deedV_len (List.getElem?_eq_getElem hid) (by decide)
      have hbl := (hs.bytes _ hmem _ h.drop.drop).1
      rw [bytesV_len] at hbl
      refine many_spec ⟨_, rfl, ite_d (fun _ => ?_) (fun hh => absurd hh (by omega))⟩
      rw [Int.toNat_natCast]
      refine ⟨by omega, by omega, ad, ha, _, _, _, hcell 4 _ rfl rfl, ite_d (fun hb => ?_) (fun hb => ?_)⟩
      · rw [wrap_id (by omega) (by omega)]
        have := ih (i + 1) N Q w (by omega) (by omega) hr.up h
        exact_mod_cast this
      · refine ⟨by omega, by omega, ad, ha, _, _, _, _, _, _, _, hrd, ?_⟩
        refine do_spec (d := ds[i]) h hr (by omega) (hs.bytes _ hmem) (by omega) fun w24 Q' hr' h24 => ⟨true, rfl, ?_⟩
        show X (IntKind.wrap .i64 ((i : Int) + 1)) w24
        rw [wrap_id (by omega) (by omega)]
        have := ih (i + 1) _ Q' w24 (by omega) (by omega) hr' h24
        exact_mod_cast this
  exact go (min l 400) 0 N0 R0 w6 (by omega) (by omega) rel0 h6.f1

theorem plays_walk {a : Option Addr} {l c : Nat} {ds : List (Deed × Sl)} (h : St E L w) (hs : SeesD E L a l ds) (hm : l ≤ 9223372036854775807) (k : ∀ w' L', St E (L' ++ L) w' → R (.returned (.bool true)) w') :
    Calls Try.prog 9 #[.slice a l c] w R := by
  have hl : ds.length = l := (hs.row w h).count deedV_len (by decide)
  refine C_law04_FlightPlays ?_
  unfold T_law04_FlightPlays
  refine new_spec h fun w3 p h3 => ⟨_, rfl, rnew_spec h3 fun w6 r h6 => ⟨_, rfl, ?_⟩⟩
  unfold T_law04_FlightPlays_1
  intro X hX
  have go : ∀ (n i : Nat) (N : Net) (Q : RNet) (w : World), n = min l 400 - i → i ≤ min l 400 → Rel i N Q → St E (netA p N :: refA r Q :: L) w → X (i : Int) w := by
    intro n
    induction n with
    | zero =>
      intro i N Q w41 hn hi hr h
      refine hX _ _ ?_
      unfold T_law04_FlightPlays_1_body
      refine many_spec ⟨_, rfl, ite_d (fun hh => absurd hh (by omega)) (fun _ => ?_)⟩
      dsimp -zeta only
      intro w42
      have h42 := h.alloc (.cells #[.int .i64 0, .int .i64 0, .int .i64 0, .int .i64 0, .slice none 0 0] 38)
      refine ⟨rfl, wrOk_agg h42.at_blk (by show (5 : Nat) ≤ 5; omega) (deedV_one1 (⟨0, 1, 2, 0, []⟩, (none, 0, 0))), ?_⟩
      intro w43
      have h43 : St E (blkL w41.heap.size 38 (deedV (⟨0, 1, 2, 0, []⟩, (none, 0, 0))) :: netA p N :: refA r Q :: L) w43 := h42.wr_agg0 (xs := deedV (⟨0, 1, 2, 0, []⟩, (none, 0, 0))) rfl
      clear_value w43
      generalize w41.heap.size = g at h43 ⊢
      have fin : ∀ (w54 : World) (d : Deed × Sl), St E (blkL g 38 (deedV d) :: netA p N :: refA r Q :: L) w54 →
          Calls Try.prog 15 #[] w54 (ret (fun r55 w56 => ∃ b57 : Bool, r55 = .bool b57 ∧ if b57 = true then (∃ x58 : Int, ∃ x59 : Int, ∃ x60 : Int, ∃ x61 : Int, ∃ s62a : Option Addr, ∃ s62l : Nat, ∃ s62c : Nat, rd w56 (⟨g, 0, none⟩ : Addr) (.agg #[.int .i64 x58, .int .i64 x59, .int .i64 x60, .int .i64 x61, .slice s62a s62l s62c]) ∧ Calls Try.prog 34 #[.pointer (some ⟨p, 0, none⟩), .pointer (some ⟨r, 0, none⟩), .agg #[.int .i64 x58, .int .i64 x59, .int .i64 x60, .int .i64 x61, .slice s62a s62l s62c]] w56 (ret (fun r63 w64 => ∃ b65 : Bool, r63 = .bool b65 ∧ R (.returned (.bool b65)) w64) (pan R))) else (R (.returned (.bool false)) w56)) (pan R)) := by
        intro w54 d h54
        refine live_spec h54 fun w56 h56 => ⟨true, rfl, ?_⟩
        refine ⟨_, _, _, _, _, _, _, rd_agg h56.at_blk (xs := deedV d) (fun m u hu => by rw [Nat.zero_add]; exact hu), ?_⟩
        refine same_spec (d := d) (h56.b2 : St E (netA p N :: refA r Q :: _) w56) hr (by omega) fun w64 h64 => ⟨_, rfl, ?_⟩
        exact k w64 [_, _, _] h64
      unfold T_law04_FlightPlays_2
      refine ite_d (fun hp => ?_) (fun hp => fin _ _ h43)
      rw [wrap_id (x := (l : Int) - 1) (by omega) (by omega)]
      have hid : l - 1 < ds.length := by omega
      obtain ⟨ad, ha, hrd, _⟩ := (hs.row _ h43.drop.drop.drop).elem deedV_len (List.getElem?_eq_getElem hid) (by decide)
      refine ⟨by omega, by omega, ad, ha, _, _, _, _, _, _, _, (by rw [show ((l : Int) - 1).toNat = l - 1 by omega]; exact hrd), rfl, wrOk_agg h43.at_blk (by show (5 : Nat) ≤ 5; omega) (deedV_one1 ds[l - 1]), ?_⟩
      intro w53
      exact fin w53 ds[l - 1] (h43.wr_agg0 (xs := deedV ds[l - 1]) rfl)
    | succ n ih =>
      intro i N Q w hn hi hr h
      refine hX _ _ ?_
      unfold T_law04_FlightPlays_1_body
      have hid : i < ds.length := by omega
      have hmem : ds[i] ∈ ds := List.getElem_mem hid
      obtain ⟨ad, ha, hrd, hcell⟩ := (hs.row _ h.drop.drop).elem deedV_len (List.getElem?_eq_getElem hid) (by decide)
      have hbl := (hs.bytes _ hmem _ h.drop.drop).1
      rw [bytesV_len] at hbl
      refine many_spec ⟨_, rfl, ite_d (fun _ => ?_) (fun hh => absurd hh (by omega))⟩
      rw [Int.toNat_natCast]
      refine ⟨by omega, by omega, ad, ha, _, _, _, hcell 4 _ rfl rfl, ite_d (fun hb => ?_) (fun hb => ?_)⟩
      · rw [wrap_id (by omega) (by omega)]
        have := ih (i + 1) N Q w (by omega) (by omega) hr.up h
        exact_mod_cast this
      · refine ⟨by omega, by omega, ad, ha, _, _, _, _, _, _, _, hrd, ?_⟩
        refine do_spec (d := ds[i]) h hr (by omega) (hs.bytes _ hmem) (by omega) fun w24 Q' hr' h24 => ⟨true, rfl, ?_⟩
        have next : ∀ w35, St E (netA p (nDeed N ds[i].1) :: refA r Q' :: L) w35 → X (IntKind.wrap .i64 ((i : Int) + 1)) w35 := by
          intro w35 h35
          rw [wrap_id (by omega) (by omega)]
          have := ih (i + 1) _ Q' w35 (by omega) (by omega) hr' h35
          exact_mod_cast this
        obtain ⟨ad2, ha2, hrd2, hcell2⟩ := (hs.row _ h24.drop.drop).elem deedV_len (List.getElem?_eq_getElem hid) (by decide)
        have hkind : rd w24 (ad2.add (i * 5)) (.int .i64 ds[i].1.kind) := by
          intro m u hu
          refine hrd2 m u ?_
          cases m with
          | zero => exact hu
          | succ m => simp [Value.cells] at hu
        refine ⟨by omega, by omega, ad2, ha2, _, hkind, ite_d (fun _ => ?_) (fun _ => next _ h24)⟩
        refine ⟨by omega, by omega, ad2, ha2, _, _, _, _, _, _, _, hrd2, ?_⟩
        refine same_spec (d := ds[i]) h24 hr' (by omega) fun w35 h35 => ⟨true, rfl, next _ h35⟩
  exact go (min l 400) 0 N0 R0 w6 (by omega) (by omega) rel0 h6.f1

theorem forks_walk {a : Option Addr} {l c : Nat} {ds : List (Deed × Sl)} {a2 : Option Addr} {l2 c2 : Nat} {ds2 : List (Deed × Sl)} (h : St E L w) (hs : SeesD E L a l ds) (hs2 : SeesD E L a2 l2 ds2) (k : ∀ w' L', St E (L' ++ L) w' → R (.returned (.bool true)) w') :
    Calls Try.prog 10 #[.slice a l c, .slice a2 l2 c2] w R := by
  have hl2 : ds2.length = l2 := (hs2.row w h).count deedV_len (by decide)
  refine C_law04_FlightForks ?_
  unfold T_law04_FlightForks
  refine play_spec h hs fun w4 p r N Q hr h4 => ⟨_, _, _, rfl, ?_⟩
  rw [if_neg (by simp)]
  refine fork_spec h4 (hr.okN (by omega)) fun w9 p2 h9 => ⟨_, rfl, rfork_spec (h9.f2 : St E (refA r Q :: _) w9) (hr.okR (by omega)) fun w12 r2 h12 => ⟨_, rfl, ?_⟩⟩
  unfold T_law04_FlightForks_1
  intro X hX
  have go : ∀ (n i : Nat) (N2 : Net) (Q2 : RNet) (w : World), n = min l2 400 - i → i ≤ min l2 400 → Rel (400 + i) N2 Q2 → St E (netA p2 N2 :: refA r2 Q2 :: netA p N :: refA r Q :: L) w → X (i : Int) w := by
    intro n
    induction n with
    | zero =>
      intro i N2 Q2 w36 hn hi hr2 h
      refine hX _ _ ?_
      unfold T_law04_FlightForks_1_body
      refine many_spec ⟨_, rfl, ite_d (fun hh => absurd hh (by omega)) (fun _ => ?_)⟩
      dsimp -zeta only
      intro w37
      have h37 := h.alloc (.cells #[.int .i64 0, .int .i64 0, .int .i64 0, .int .i64 0, .slice none 0 0] 38)
      refine ⟨rfl, wrOk_agg h37.at_blk (by show (5 : Nat) ≤ 5; omega) (deedV_one1 (⟨0, 1, 2, 0, []⟩, (none, 0, 0))), ?_⟩
      intro w38
      have h38 : St E (blkL w36.heap.size 38 (deedV (⟨0, 1, 2, 0, []⟩, (none, 0, 0))) :: netA p2 N2 :: refA r2 Q2 :: netA p N :: refA r Q :: L) w38 := h37.wr_agg0 (xs := deedV (⟨0, 1, 2, 0, []⟩, (none, 0, 0))) rfl
      clear_value w38
      generalize w36.heap.size = g at h38 ⊢
      refine live_spec h38 fun w40 h40 => ⟨true, rfl, ?_⟩
      refine ⟨_, _, _, _, _, _, _, rd_agg h40.at_blk (xs := deedV (⟨0, 1, 2, 0, []⟩, (none, 0, 0))) (fun m u hu => by rw [Nat.zero_add]; exact hu), ?_⟩
      refine same_spec (d := (⟨0, 1, 2, 0, []⟩, (none, 0, 0))) (h40.f4.f4 : St E (netA p N :: refA r Q :: _) w40) hr (by omega) fun w48 h48 => ⟨true, rfl, ?_⟩
      refine ⟨_, _, _, _, _, _, _, rd_agg h48.f2.at_blk (xs := deedV (⟨0, 1, 2, 0, []⟩, (none, 0, 0))) (fun m u hu => by rw [Nat.zero_add]; exact hu), ?_⟩
      refine same_spec (d := (⟨0, 1, 2, 0, []⟩, (none, 0, 0))) (h48.f4.f4 : St E (netA p2 N2 :: refA r2 Q2 :: _) w48) hr2 (by omega) fun w56 h56 => ⟨_, rfl, ?_⟩
      exact k w56 [_, _, _, _, _] h56
    | succ n ih =>
      intro i N2 Q2 w hn hi hr2 h
      refine hX _ _ ?_
      unfold T_law04_FlightForks_1_body
      have hid : i < ds2.length := by omega
      have hmem : ds2[i] ∈ ds2 := List.getElem_mem hid
      obtain ⟨ad, ha, hrd, hcell⟩ := (hs2.row _ h.drop.drop.drop.drop).elem deedV_len (List.getElem?_eq_getElem hid) (by decide)
      refine many_spec ⟨_, rfl, ite_d (fun _ => ?_) (fun hh => absurd hh (by omega))⟩
      rw [Int.toNat_natCast]
      refine ⟨by omega, by omega, ad, ha, _, _, _, hcell 4 _ rfl rfl, ite_d (fun hb => ?_) (fun hb => ?_)⟩
      · refine ⟨by omega, by omega, ad, ha, _, _, _, _, _, _, _, hrd, ?_⟩
        refine do_spec (d := ds2[i]) h hr2 (by omega) (((hs2.bytes _ hmem).more _).more _) (by omega) fun w24 Q' hr' h24 => ⟨true, rfl, ?_⟩
        show X (IntKind.wrap .i64 ((i : Int) + 1)) w24
        rw [wrap_id (by omega) (by omega)]
        have := ih (i + 1) _ Q' w24 (by omega) (by omega) hr' h24
        exact_mod_cast this
      · rw [wrap_id (by omega) (by omega)]
        have := ih (i + 1) N2 Q2 w (by omega) (by omega) hr2.up h
        exact_mod_cast this
  have := go (min l2 400) 0 N Q w12 (by omega) (by omega) hr (h12.f3.f1.f3 : St E (netA p2 N :: refA r2 Q :: netA p N :: refA r Q :: L) w12)
  exact this

/-- A script that came in. -/
theorem open_deeds {H : Type} {enc : TypeId × Value → H} {W : World} {a : Option Addr} {l c : Nat} {d : DataW H} {ps : List MemPlace} (h : DataW.Trod enc Try.prog W 0 (fun _ => true) true 32 (.slice a l c) d ps) :
    ∃ ds : List (Deed × Sl), SeesD W [old W] a l ds ∧ l ≤ maxLen := by
  obtain ⟨fuel, hf⟩ := h
  obtain ⟨ds, h1, h2, h3⟩ := open_elems (β := Deed × Sl) (f := deedV) (fun d => RdS W d.2.1 d.2.2.1 1 (bytesV d.1.bytes)) deedV_len (by decide) Try.underlying32 (by kernel_rfl) (fun n cs x hx => by
    obtain ⟨xs, m, _, _, hcl, hxl, hfs⟩ := DataW.trod_struct Try.underlying38 hx
    rw [show Try.prog.cellsOf 38 = 5 by kernel_rfl] at hcl
    have hxl5 : xs.length = 5 := hxl
    have ci : Try.prog.cellsOf 3 = 1 := by kernel_rfl
    have cb : Try.prog.cellsOf 36 = 1 := by kernel_rfl
    match cs, hcl with
    | [v0, v1, v2, v3, v4], _ =>
      have f0 := hfs 0 _ rfl
      have f1 := hfs 1 _ rfl
      have f2 := hfs 2 _ rfl
      have f3 := hfs 3 _ rfl
      have f4 := hfs 4 _ rfl
      simp only [List.getElem_toArray, List.getElem_cons_zero, List.getElem_cons_succ, ci, cb, List.drop_zero, List.drop_succ_cons, List.take_succ_cons, List.take_zero] at f0 f1 f2 f3 f4
      rw [List.getElem?_eq_getElem (by omega)] at f0 f1 f2 f3 f4
      obtain ⟨k0, e0, _⟩ := DataW.trod_int Try.underlying3 f0
      obtain ⟨k1, e1, _⟩ := DataW.trod_int Try.underlying3 f1
      obtain ⟨k2, e2, _⟩ := DataW.trod_int Try.underlying3 f2
      obtain ⟨k3, e3, _⟩ := DataW.trod_int Try.underlying3 f3
      have sl : ∃ a l c, v4 = .slice a l c := by
        rcases DataW.trod_slice Try.underlying36 f4 with ⟨hcs, _⟩ | ⟨ad, len, cap, _, _, _, _, hcs, _⟩
        · simp at hcs; exact ⟨_, _, _, hcs⟩
        · simp at hcs; exact ⟨_, _, _, hcs⟩
      obtain ⟨a4, l4, c4, rfl⟩ := sl
      obtain ⟨bs, hb, _⟩ := open_bytes (a := a4) (l := l4) (c := c4) Try.underlying36 Try.underlying5 (by kernel_rfl) f4
      simp at e0 e1 e2 e3
      subst e0 e1 e2 e3
      exact ⟨(⟨k0, k1, k2, k3, bs⟩, (a4, l4, c4)), rfl, hb⟩) hf
  exact ⟨ds, ⟨sees_old h1, fun d hd => sees_old (h3 d hd)⟩, h2⟩
theorem plays_law {H : Type} {enc : TypeId × Value → H} {W : World} {a : Option Addr} {l c : Nat} {d : DataW H} {ps : List MemPlace} (h : DataW.Trod enc Try.prog W 0 (fun _ => true) true 32 (.slice a l c) d ps) :
    Calls Try.prog 9 #[.slice a l c] W fun e w' => e = .returned (.bool true) ∧ RowKit.Below W.heap.size W w' := by
  obtain ⟨ds, hs, hm⟩ := open_deeds h
  exact plays_walk (St.start W) hs (by unfold maxLen at hm; omega) fun w' L' h => ⟨rfl, (h.front L').below⟩
theorem forks_law {H : Type} {enc : TypeId × Value → H} {W : World} {a : Option Addr} {l c : Nat} {d : DataW H} {ps : List MemPlace} (h : DataW.Trod enc Try.prog W 0 (fun _ => true) true 32 (.slice a l c) d ps)
    {a2 : Option Addr} {l2 c2 : Nat} {d2 : DataW H} {ps2 : List MemPlace} (h2 : DataW.Trod enc Try.prog W 0 (fun _ => true) true 32 (.slice a2 l2 c2) d2 ps2) :
    Calls Try.prog 10 #[.slice a l c, .slice a2 l2 c2] W fun e w' => e = .returned (.bool true) ∧ RowKit.Below W.heap.size W w' := by
  obtain ⟨ds, hs, _⟩ := open_deeds h
  obtain ⟨ds2, hs2, _⟩ := open_deeds h2
  exact forks_walk (St.start W) hs hs2 fun w' L' h => ⟨rfl, (h.front L').below⟩
end
end Go.Vc
