/-
  The laws FlightRises, FlightParted: their walks.
-/
import Derived.Test.YtilhnmncbpnfjaaFlightX
namespace Go.Vc
open Go Go.Proofs Go.Proofs.Ytilhnmncbpnfjaa

section
variable {E w : World} {L : List Asrt} {p r n : Nat} {N : Net} {Q : RNet} {R : Ending → World → Prop}

/-! ### Rises -/
/-- Numbers rise. -/
def Rising (b : Int) : List Pkt → Prop
  | [] => True
  | q :: r => b < q.id ∧ Rising q.id r
theorem rising_lives : ∀ (all : List (Pkt × Bool)) (i : Nat) (b : Int), (∀ (j : Nat) (q : Pkt × Bool), all[j]? = some q → q.1.id = (i : Int) + j + 1) → b ≤ i → Rising b ((lives all).map (·.1))
  | [], _, _, _, _ => trivial
  | (q, g) :: rest, i, b, h, hb => by
    have h0 := h 0 (q, g) rfl
    have hr : ∀ (j : Nat) (q : Pkt × Bool), rest[j]? = some q → q.1.id = ((i + 1 : Nat) : Int) + j + 1 := fun j q hq => by
      have := h (j + 1) q (by simpa using hq)
      push_cast at this ⊢; omega
    cases g with
    | false =>
      show b < q.id ∧ Rising q.id ((lives rest).map (·.1))
      simp at h0
      exact ⟨by omega, rising_lives rest (i + 1) q.id hr (by push_cast; omega)⟩
    | true =>
      show Rising b ((lives rest).map (·.1))
      exact rising_lives rest (i + 1) b hr (by push_cast; omega)
theorem Rel.rising (h : Rel n N Q) : Rising 0 N.under := by
  rw [← h.und, runder_eq]
  exact rising_lives Q.all 0 0 (fun j q hq => by have := h.ids j q hq; omega) (by omega)
theorem rising_next : ∀ (ps : List Pkt) (b : Int) (i : Nat) (x y : Pkt), Rising b ps → ps[i]? = some x → ps[i + 1]? = some y → x.id < y.id
  | [], _, _, _, _, _, h, _ => by simp at h
  | q :: rest, b, 0, x, y, hr, hx, hy => by
    simp at hx; subst hx
    cases rest with
    | nil => simp at hy
    | cons z s => simp at hy; subst hy; exact hr.2.1
  | q :: rest, b, i + 1, x, y, hr, hx, hy => rising_next rest q.id i x y hr.2 (by simpa using hx) (by simpa using hy)
theorem Rel.id_le (h : Rel n N Q) {q : Pkt} (hq : q ∈ N.under) : q.id ≤ N.last := by
  obtain ⟨i, hi, he⟩ := List.getElem_of_mem (h.mem hq)
  have := h.ids i (q, false) (by rw [List.getElem?_eq_getElem hi, he])
  rw [h.last]
  show q.id ≤ _
  have h2 : (q, false).1.id = q.id := rfl
  rw [h2] at this; omega

theorem id_at {a : Option Addr} {l : Nat} {ps : List Pkt} (hs : SeesP E L a l ps) (h : St E L w) {i : Nat} {q : Pkt} (hq : ps[i]? = some q) : ∃ ad, a = some ad ∧ rd w (ad.add (i * 4)) (.int .i64 q.id) := by
  obtain ⟨qs, e, hr, _⟩ := hs w h
  have hi : i < qs.length := by have := (List.getElem?_eq_some_iff.1 hq).1; rw [← e, List.length_map] at this; exact this
  obtain ⟨ad, ha, hrd, _⟩ := hr.elem pktV_len (List.getElem?_eq_getElem hi) (by decide)
  refine ⟨ad, ha, fun m u hu => hrd m u ?_⟩
  have hqi : qs[i].1 = q := by rw [← e, List.getElem?_map, List.getElem?_eq_getElem hi] at hq; simpa using hq
  cases m with
  | zero =>
    rw [← hqi] at hu
    exact hu
  | succ m => simp [Value.cells] at hu

theorem rises_walk {a : Option Addr} {l c : Nat} {ds : List (Deed × Sl)} (h : St E L w) (hs : SeesD E L a l ds) (k : ∀ w' L', St E (L' ++ L) w' → R (.returned (.bool true)) w') :
    Calls Try.prog 6 #[.slice a l c] w R := by
  refine C_law04_FlightRises ?_
  unfold T_law04_FlightRises
  refine play_spec h hs fun w3 p r N Q hr h3 => ⟨_, _, _, rfl, ?_⟩
  rw [if_neg (by simp)]
  have okn := hr.okN (by omega)
  refine under_spec h3 okn fun w8 ua ul uc h8 => ⟨_, _, _, rfl, ?_⟩
  have hul : N.under.length = ul := by
    obtain ⟨qs, e, hu⟩ := h8.under_open
    rw [← e, List.length_map, hu.rdS_own.count pktV_len (by decide)]
  have hfull := hr.full
  unfold T_law04_FlightRises_1
  intro X hX
  have go : ∀ (n i : Nat) (w : World), n = ul - i → 1 ≤ i → St E (underA ua ul uc N.under :: netA p N :: refA r Q :: L) w → X (i : Int) w := by
    intro n
    induction n with
    | zero =>
      intro i w hn hi h
      refine hX _ _ ?_
      unfold T_law04_FlightRises_1_body
      refine ite_d (fun hh => absurd hh (by omega)) (fun _ => ?_)
      have hnil : Sees E (underA ua ul uc N.under :: refA r Q :: L) none 0 1 (bytesV []) := fun w _ => RdS.nil w none
      refine send_spec (f := 3) (t := 4) (bs := []) h.f1 hnil okn fun w23 h23 => ⟨_, _, rfl, ?_⟩
      refine live_spec h23 fun w27 h27 => ⟨true, rfl, ?_⟩
      have hR := k w27 [_, _, _] h27
      have hsee := fun {i : Nat} {q : Pkt} (hq : N.under[i]? = some q) => id_at (sees_under (E := E) (L := netA p (nSend N 3 4 []).1 :: refA r Q :: L) (a := ua) (l := ul) (c := uc) (ps := N.under)) h27.f1 hq
      generalize hv : nSend N 3 4 [] = v at hR hsee ⊢
      have hcase : v.2.2 ≠ 0 ∨ (v.2.2 = 0 ∧ v.2.1 = N.last + 1) := by
        rw [← hv]
        unfold nSend
        split
        · exact .inl (by simp)
        · split
          · exact .inl (by simp)
          · split
            · exact .inl (by simp)
            · exact .inr ⟨rfl, rfl⟩
      rcases hcase with h1 | ⟨h1, h2⟩
      · rw [if_pos rfl, if_pos (by simpa using h1)]; exact hR
      · rw [if_pos rfl, h1, if_neg (by simp), h2]
        have hl0 : 0 ≤ N.last := okn.2.2.1
        by_cases hz : ul = 0
        · subst hz
          rw [if_pos (by rfl), show decide (N.last + 1 > 0) = true by simp; omega]
          exact hR
        · rw [if_neg (by simpa using hz), show decide ((ul : Int) > 0) = true by simp; omega, if_pos rfl, wrap_id (by omega) (by omega)]
          have hlt : ul - 1 < N.under.length := by omega
          obtain ⟨ad, ha, hrd⟩ := hsee (List.getElem?_eq_getElem hlt)
          refine ⟨by omega, by omega, ad, ha, _, (by rw [show ((ul : Int) - 1).toNat = ul - 1 by omega]; exact hrd), ?_⟩
          have := hr.id_le (List.getElem_mem hlt)
          rw [show decide (N.last + 1 > N.under[ul - 1].id) = true by simp; omega]
          exact hR
    | succ n ih =>
      intro i w hn hi h
      refine hX _ _ ?_
      unfold T_law04_FlightRises_1_body
      refine ite_d (fun _ => ?_) (fun hh => absurd hh (by omega))
      intro w12
      have h12 : St E (underA ua ul uc N.under :: netA p N :: refA r Q :: L) w12 := h.drew
      have hi1 : i < N.under.length := by omega
      have hi0 : i - 1 < N.under.length := by omega
      obtain ⟨ad, ha, hrd⟩ := id_at sees_under h12 (List.getElem?_eq_getElem hi1)
      obtain ⟨ad0, ha0, hrd0⟩ := id_at sees_under h12 (List.getElem?_eq_getElem hi0)
      rw [wrap_id (x := (i : Int) - 1) (by omega) (by omega), Int.toNat_natCast, show ((i : Int) - 1).toNat = i - 1 by omega]
      refine ⟨by omega, by omega, ad, ha, _, hrd, by omega, by omega, ad0, ha0, _, hrd0, ?_⟩
      have hlt := rising_next N.under 0 (i - 1) N.under[i - 1] N.under[i] hr.rising (List.getElem?_eq_getElem hi0) (by rw [show i - 1 + 1 = i by omega]; exact List.getElem?_eq_getElem hi1)
      rw [if_neg (by simp; omega), wrap_id (by omega) (by omega)]
      have := ih (i + 1) w12 (by omega) (by omega) h12
      exact_mod_cast this
  have := go (ul - 1) 1 w8 rfl (Nat.le_refl _) h8
  exact this
theorem rises_law {H : Type} {enc : TypeId × Value → H} {W : World} {a : Option Addr} {l c : Nat} {d : DataW H} {ps : List MemPlace} (h : DataW.Trod enc Try.prog W 0 (fun _ => true) true 32 (.slice a l c) d ps) :
    Calls Try.prog 6 #[.slice a l c] W fun e w' => e = .returned (.bool true) ∧ RowKit.Below W.heap.size W w' := by
  obtain ⟨ds, hs, _⟩ := open_deeds h
  exact rises_walk (St.start W) hs fun w' L' h => ⟨rfl, (h.front L').below⟩
end
end Go.Vc
