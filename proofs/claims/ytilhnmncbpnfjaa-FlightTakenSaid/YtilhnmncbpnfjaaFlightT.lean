/-
  What the other functions of the ref's net do.
-/
import Derived.Test.YtilhnmncbpnfjaaFlightS
namespace Go.Vc
open Go Go.Proofs Go.Proofs.Ytilhnmncbpnfjaa

section
variable {E w : World} {L : List Asrt} {p : Nat} {N : RNet} {R : Ending → World → Prop}

theorem St.own_add {a : Option Addr} {l c sz : Nat} {e : TypeId} {xs : List Value} (h : St E (ownS a l c e sz xs :: L) w) {ad : Addr} (ha : a = some ad) (i k : Nat) : (ad.add i).add k = ad.add (i + k) := by
  rcases h.ownS_open with ⟨h0, _⟩ | ⟨g, rest, h0, _⟩ <;> rw [h0] at ha
  · cases ha
  · injection ha with ha; subst ha; rw [add_mk, add_mk, add_mk, Nat.add_assoc]
theorem flat_set1 {α : Type} {f : α → List Value} {sz : Nat} (hf : ∀ q, (f q).length = sz) {v : Value} : ∀ (qs : List α) (j k : Nat) (q q' : α), qs[j]? = some q → k < sz → f q' = (f q).set k v →
    (qs.flatMap f).set (j * sz + k) v = (qs.set j q').flatMap f
  | [], j, k, q, q', h, _, _ => by simp at h
  | x :: r, 0, k, q, q', h, hk, he => by
    simp at h; subst h
    rw [List.flatMap_cons, Nat.zero_mul, Nat.zero_add, List.set_append_left _ _ (by rw [hf]; exact hk), ← he, List.set_cons_zero, List.flatMap_cons]
  | x :: r, j + 1, k, q, q', h, hk, he => by
    rw [List.flatMap_cons, List.set_append_right _ _ (by rw [hf, Nat.add_mul]; omega), hf, show (j + 1) * sz + k - sz = j * sz + k from by rw [Nat.add_mul]; omega, flat_set1 hf r j k q q' (by simpa using h) hk he, List.set_cons_succ, List.flatMap_cons]

def lives (l : List (Pkt × Bool)) : List (Pkt × Bool) := l.filter fun q => !q.2
theorem lives_len : (rUnder N).length = (lives N.all).length := by simp [rUnder, lives]
theorem place_spec {i : Int} {s : Sl} {qs : List SPk} (hb : w.heap[p]? = some (.cells ⟨refV N s⟩ 77 (0, 0))) (hr : RdS w s.1 s.2.1 5 (qs.flatMap sentV)) (hq : qs.map (·.1) = N.all) (hm : N.all.length ≤ 100000)
    (kn : i < 0 ∨ ((rUnder N).length : Int) ≤ i → R (.returned (.int .i64 (-1))) w)
    (ks : ∀ (j : Nat) (q : Pkt), j < N.all.length → N.all[j]? = some (q, false) → ((lives (N.all.take j)).length : Int) = i → R (.returned (.int .i64 (j : Int))) w) :
    Calls Try.prog 45 #[.pointer (some ⟨p, 0, none⟩), .int .i64 i] w R := by
  have hl := hr.count sentV_len (by decide)
  have hal : N.all.length = qs.length := by rw [← hq, List.length_map]
  refine C_ref04_Net_place ?_
  unfold T_ref04_Net_place T_ref04_Net_place_1
  intro X hX
  have go : ∀ (n j : Nat) (m : Nat), n = s.2.1 - j → j ≤ s.2.1 → m = (lives (N.all.take j)).length → (i < 0 ∨ (m : Int) ≤ i) → X (m : Int) (j : Int) w := by
    intro n
    induction n with
    | zero =>
      intro j m hn hj hm2 hi
      refine hX _ _ _ ?_
      unfold T_ref04_Net_place_1_body
      refine ⟨_, rfl, _, _, _, rd_cell hb rfl rfl, ite_d (fun hh => absurd hh (by omega)) (fun _ => kn ?_)⟩
      rw [List.take_of_length_le (by omega), ← lives_len] at hm2
      rw [← hm2]; exact hi
    | succ n ih =>
      intro j m hn hj hm2 hi
      refine hX _ _ _ ?_
      unfold T_ref04_Net_place_1_body
      have hjq : j < qs.length := by omega
      obtain ⟨ad, ha, _, hcell⟩ := hr.elem sentV_len (List.getElem?_eq_getElem hjq) (by decide)
      have haj : N.all[j]? = some qs[j].1 := by rw [← hq, List.getElem?_map, List.getElem?_eq_getElem hjq]; rfl
      have htk : N.all.take (j + 1) = N.all.take j ++ [qs[j].1] := by
        rw [List.take_add_one, haj]; rfl
      have hmb : m ≤ 100000 := by
        rw [hm2]
        exact Nat.le_trans (List.length_filter_le ..) (by rw [List.length_take]; omega)
      refine ⟨_, rfl, _, _, _, rd_cell hb rfl rfl, ite_d (fun _ => ?_) (fun hh => absurd hh (by omega))⟩
      rw [Int.toNat_natCast]
      refine ⟨_, rfl, _, _, _, rd_cell hb rfl rfl, by omega, by omega, ad, ha, _, hcell 4 _ rfl rfl, ite_b (fun hg => ?_) (fun hg => ?_)⟩
      · rw [wrap_id (x := (j : Int) + 1) (by omega) (by omega)]
        have := ih (j + 1) m (by omega) (by omega) (by rw [htk]; simp [lives, hg] at hm2 ⊢; exact hm2) hi
        exact_mod_cast this
      · split
        · rename_i hmi
          have hmi' : (m : Int) = i := by simpa using hmi
          refine ks j qs[j].1.1 (by omega) (by rw [haj, ← hg]) ?_
          rw [← hm2]; exact hmi'
        · rename_i hmi
          have hmi' : ¬ (m : Int) = i := by simpa using hmi
          rw [wrap_id (x := (j : Int) + 1) (by omega) (by omega), wrap_id (x := (m : Int) + 1) (by omega) (by omega)]
          have := ih (j + 1) (m + 1) (by omega) (by omega) (by rw [htk]; simp [lives, hg] at hm2 ⊢; exact hm2) (by omega)
          exact_mod_cast this
  have := go s.2.1 0 0 (by omega) (by omega) (by simp [lives]) (by omega)
  exact this

def dead (q : SPk) : SPk := ((q.1.1, true), q.2)
theorem rtake_spec {i : Int} (h : St E (refA p N :: L) w) (hN : okR N)
    (kn : ∀ w', (i < 0 ∨ ((rUnder N).length : Int) ≤ i) → St E (refA p N :: L) w' → R (.returned (.tuple #[.agg ⟨pktV (zeroP, (none, 0, 0))⟩, .int .i64 8])) w')
    (ks : ∀ w' (j : Nat) (q : Pkt) (sl : Sl), N.all[j]? = some (q, false) → ((lives (N.all.take j)).length : Int) = i → St E (rosA [(q, sl)] :: refA p { N with all := N.all.set j (q, true) } :: L) w' → R (.returned (.tuple #[.agg ⟨pktV (q, sl)⟩, .int .i64 0])) w') :
    Calls Try.prog 29 #[.pointer (some ⟨p, 0, none⟩), .int .i64 i] w R := by
  obtain ⟨s, qs, hp, hc, hq, ho⟩ := h.ref_open
  have hct := ref_count hq ho
  refine C_ref04_Net_Take ?_
  unfold T_ref04_Net_Take
  intro w3
  have h3 := ho.alloc (.cells #[.int .i64 0, .int .i64 0, .int .i64 0, .slice none 0 0] 41)
  refine ite_some (place_spec h3.f1.at_blk h3.f2.rdS_own hq (by have := hN.1; omega) (fun hi => ⟨_, rfl, ?_⟩) (fun j q hjl hj hcnt => ⟨_, rfl, ?_⟩))
  · refine ite_d (fun _ => ?_) (fun hh => absurd (by decide) hh)
    refine ⟨rfl, wrOk_agg h3.at_blk (by simp) (by decide), ?_⟩
    intro w12
    have h12 := h3.wr_agg0 (xs := pktV (zeroP, (none, 0, 0))) rfl
    exact ⟨_, _, _, _, _, _, rd_agg h12.at_blk (xs := pktV (zeroP, (none, 0, 0))) (fun n u hu => by rw [Nat.zero_add]; exact hu), kn _ hi (St.ref_mk (h12.drop :) hp hc hq)⟩
  · refine ite_d (fun hh => absurd hh (by omega)) (fun _ => ?_)
    have hjq : j < qs.length := by omega
    have haj : qs[j].1 = (q, false) := by
      have h1 : N.all[j]? = some qs[j].1 := by rw [← hq, List.getElem?_map, List.getElem?_eq_getElem hjq]; rfl
      rw [hj] at h1; exact (Option.some.inj h1).symm
    have hqj := List.getElem?_eq_getElem hjq
    obtain ⟨ad, ha, _, _⟩ := h3.f2.rdS_own.elem sentV_len hqj (by decide)
    simp -zeta only [Int.toNat_natCast]
    refine ⟨_, rfl, _, _, _, rd_cell h3.f1.at_blk rfl rfl, by omega, by omega, ad, ha, rfl, ?_⟩
    rw [h3.f2.own_add ha]
    have hlt : j * 5 + 4 < (qs.flatMap sentV).length := by rw [flat_len sentV_len]; omega
    obtain ⟨hok, h20⟩ := h3.f2.ownS_set ha hlt (v := .bool true) rfl
    rw [flat_set1 (v := .bool true) sentV_len qs j 4 qs[j] (dead qs[j]) hqj (by decide) rfl] at h20
    refine ⟨hok, ?_⟩
    intro w20
    have hqj2 : (qs.set j (dead qs[j]))[j]? = some (dead qs[j]) := by simp [hjq]
    obtain ⟨ad2, ha2, hrd, _⟩ := h20.rdS_own.elem sentV_len hqj2 (by decide)
    have hpk : rd w20 (ad2.add (j * 5)) (.agg ⟨pktV (pk qs[j])⟩) := by
      intro m u hu
      refine hrd m u ?_
      have hm : m < 4 := by have := (Array.getElem?_eq_some_iff.1 hu).1; simpa [Value.cells, pktV] using this
      match m, hm with
      | 0, _ => exact hu
      | 1, _ => exact hu
      | 2, _ => exact hu
      | 3, _ => exact hu
    refine ⟨_, rfl, _, _, _, rd_cell h20.f2.at_blk rfl rfl, by omega, by omega, ad2, ha2, _, _, _, _, _, _, hpk, rfl, wrOk_agg h20.f1.at_blk (by simp) (pktV_one1 (pk qs[j])), ?_⟩
    intro w28
    have h28 := h20.f1.wr_agg0 (xs := pktV (pk qs[j])) rfl
    refine ⟨_, _, _, _, _, _, rd_agg h28.at_blk (xs := pktV (pk qs[j])) (fun n u hu => by rw [Nat.zero_add]; exact hu), ?_⟩
    have h29 : St E (rosA (qs.map pk) :: ownS s.1 s.2.1 s.2.2 73 5 ((qs.set j (dead qs[j])).flatMap sentV) :: blkL p 77 (refV N s) :: L) w28 := h28.drop.f2
    have h30 := (St.dup (Dup.rosA_ _) h29).ros_sub (q1 := [pk qs[j]]) fun x hx => by
      simp at hx; subst hx
      exact List.mem_map_of_mem (List.getElem_mem hjq)
    have hpe : pk qs[j] = (q, qs[j].2) := by show (qs[j].1.1, _) = _; rw [haj]
    rw [hpe] at h30 ⊢
    refine ks _ j q qs[j].2 hj hcnt (St.ref_mk (qs := qs.set j (dead qs[j])) (N := { N with all := N.all.set j (q, true) }) (s := s) ?_ hp hc ?_).f1
    · have hmp : (qs.set j (dead qs[j])).map pk = qs.map pk := by
        rw [List.map_set]
        have : pk (dead qs[j]) = (qs.map pk)[j]'(by simpa using hjq) := by simp [pk, dead]
        rw [this, List.set_getElem_self]
      rw [hmp]
      exact h30.b3.f1.b2.b2
    · rw [List.map_set, hq]
      show N.all.set j (qs[j].1.1, true) = _
      rw [haj]
end
end Go.Vc
