/-
  The law FlightFull: its walk.
-/
import Derived.Test.YtilhnmncbpnfjaaFlightF
namespace Go.Vc
open Go Go.Proofs Go.Proofs.Ytilhnmncbpnfjaa

section
variable {E w : World} {L : List Asrt} {p : Nat} {N : Net} {R : Ending → World → Prop}

structure FullAt (N : Net) (j : Nat) : Prop where
  parted : N.parted = []
  len : N.under.length = min j 128
  last : N.last = (min j 128 : Nat)
  bytes : ∀ q ∈ N.under, q.bytes.length ≤ 65536
  clocks : N.clocks = N0.clocks
theorem FullAt.ok {j : Nat} (h : FullAt N j) : okN N := by
  refine ⟨by have := h.len; omega, h.bytes, by have := h.last; omega, by have := h.last; omega, ?_⟩
  rw [h.clocks]
  decide
theorem wrap_u8 {x : Int} (h1 : 0 ≤ x) (h2 : x ≤ 255) : IntKind.wrap .u8 x = x := by
  unfold IntKind.wrap
  simp [IntKind.signed, IntKind.bits]
  omega
theorem full_send {j : Nat} {f t : Int} {bs : List UInt8} (h : FullAt N j) (hl : isLink f t = true) (hb : bs.length ≤ 65536) :
    (j < 128 → (nSend N f t bs).2.2 = 0) ∧ (128 ≤ j → (nSend N f t bs).2.2 = 6) ∧ FullAt (nSend N f t bs).1 (j + 1) := by
  have hn := h.len
  by_cases hj : 128 ≤ j
  · have e : nSend N f t bs = (N, 0, 6) := by
      simp only [nSend, hl]
      rw [if_neg (by simp), if_pos (by omega)]
    rw [e]
    refine ⟨fun hh => by omega, fun _ => rfl, h.parted, by show N.under.length = _; omega, by have := h.last; show N.last = _; omega, h.bytes, h.clocks⟩
  · have e : nSend N f t bs = ({ N with last := N.last + 1, under := N.under ++ [⟨N.last + 1, f, t, bs⟩] }, N.last + 1, 0) := by
      simp only [nSend, hl]
      rw [if_neg (by simp), if_neg (by omega), h.parted, if_neg (by simp [mget])]
    rw [e]
    refine ⟨fun _ => rfl, fun hh => by omega, h.parted, by simp; omega, by have := h.last; show N.last + 1 = _; omega, fun q hq => ?_, h.clocks⟩
    rcases List.mem_append.1 hq with hq | hq
    · exact h.bytes q hq
    · simp at hq; subst hq; exact hb

theorem full_tail (g : Bool) (x28 x34 u : Int) (w : World) (h8 : (x28 == 8) = g) (hv : (x34 == 0) = if g = true then (decide (u > 0) && decide (u < 128)) else decide (u > 1)) (hR : R (.returned (.bool true)) w) :
    if (((x28 : Int) == 8) == g) = true then (if (!g) = true then (if (decide (u > 1)) = true then (R (.returned (.bool (((x34 : Int) == 0) == true))) w) else (if g = true then (if (decide (u > 0)) = true then (R (.returned (.bool (((x34 : Int) == 0) == (decide (u < 128))))) w) else (R (.returned (.bool (((x34 : Int) == 0) == false))) w)) else (R (.returned (.bool (((x34 : Int) == 0) == false))) w))) else (if g = true then (if (decide (u > 0)) = true then (R (.returned (.bool (((x34 : Int) == 0) == (decide (u < 128))))) w) else (R (.returned (.bool (((x34 : Int) == 0) == false))) w)) else (R (.returned (.bool (((x34 : Int) == 0) == false))) w))) else (R (.returned (.bool false)) w) := by
  rw [h8, hv]
  cases g
  · by_cases h1 : u > 1 <;> simp only [h1, decide_true, decide_false] <;> exact hR
  · by_cases h1 : u > 0
    · by_cases h2 : u < 128 <;> simp only [h1, h2, decide_true, decide_false] <;> exact hR
    · simp only [h1, decide_false]; exact hR
theorem full_walk {kk : Nat} {i : Int} (hk : kk ≤ 255) (h : St E L w) (k : ∀ w' L', St E (L' ++ L) w' → R (.returned (.bool true)) w') :
    Calls Try.prog 5 #[.int .u8 (kk : Int), .int .i64 i] w R := by
  refine C_law04_FlightFull ?_
  unfold T_law04_FlightFull
  refine new_spec h fun w4 p h4 => ⟨_, rfl, ?_⟩
  have hwr : IntKind.wrap .i64 (kk : Int) = (kk : Int) := wrap_id (by omega) (by omega)
  unfold T_law04_FlightFull_1
  intro X hX
  have go : ∀ (n j : Nat) (N : Net) (w : World), n = kk - j → j ≤ kk → FullAt N j → St E (netA p N :: L) w → X (j : Int) w := by
    intro n
    induction n with
    | zero =>
      intro j N w hn hj hF h
      have hjk : j = kk := by omega
      subst hjk
      refine hX _ _ ?_
      unfold T_law04_FlightFull_1_body
      rw [hwr]
      refine ite_d (fun hh => by omega) (fun _ => ?_)
      have hat : (if 128 < (j : Int) then 128 else (j : Int)) = ((min j 128 : Nat) : Int) := by split <;> omega
      rw [hat]
      refine len_spec h ⟨_, rfl, ?_⟩
      rw [if_neg (by rw [hF.len]; simp)]
      refine take_spec (i := i) h hF.ok fun w23 sl h23 => ⟨_, _, _, _, _, _, _, rfl, ?_⟩
      intro w29
      have h29 := h23.alloc (.cells #[.int .i64 0, .int .i64 0, .int .i64 0, .slice none 0 0] 41)
      refine ⟨rfl, wrOk_agg h29.at_blk (by simp) (pktV_one1 ((nTake N i).2.1, sl)), ?_⟩
      intro w30
      have h31 : St E (netA p (nTake N i).1 :: L) w30 := (h29.wr_agg0 (xs := pktV ((nTake N i).2.1, sl)) rfl).drop.drop
      clear_value w30
      have hlen := hF.len
      by_cases hg : i < 0 ∨ (min j 128 : Nat) ≤ i
      · have e : nTake N i = (N, zeroP, 8) := by
          unfold nTake
          split
          · rfl
          · rw [List.getElem?_eq_none (by omega)]
        rw [e] at h31 ⊢
        refine double_spec (i := 0) h31 hF.ok fun w32 h32 => ⟨_, _, rfl, ?_⟩
        have hd : (nDouble N 0).2.2 = if N.under.length = 0 then 8 else if 128 ≤ N.under.length then 6 else 0 := by
          unfold nDouble
          rw [if_neg (by omega)]
          cases hu : N.under with
          | nil => rfl
          | cons q r =>
            rw [if_neg (by simp)]
            show (if 128 ≤ (q :: r).length then (N, 0, 6) else (_, _, 0) : Net × Int × Int).2.2 = _
            split <;> rfl
        rw [hd, hlen]
        unfold T_law04_FlightFull_2
        have hv : ((if min j 128 = 0 then 8 else if 128 ≤ min j 128 then 6 else 0 : Int) == 0) = if true = true then (decide (((min j 128 : Nat) : Int) > 0) && decide (((min j 128 : Nat) : Int) < 128)) else decide (((min j 128 : Nat) : Int) > 1) := by
          rw [if_pos rfl]
          by_cases h0 : min j 128 = 0
          · rw [h0]; rfl
          · by_cases h1 : 128 ≤ min j 128
            · rw [show min j 128 = 128 by omega]; rfl
            · rw [if_neg h0, if_neg h1, show decide (((min j 128 : Nat) : Int) > 0) = true by simp; omega, show decide (((min j 128 : Nat) : Int) < 128) = true by simp; omega]; rfl
        refine ite_d (fun _ => live_spec h32 fun w43 h43 => ⟨_, rfl, full_tail true 8 _ _ w43 rfl hv (k w43 [_] h43)⟩) (fun hh => ?_)
        rw [show decide (i ≥ ((min j 128 : Nat) : Int)) = true by simp; omega]
        exact live_spec h32 fun w43 h43 => ⟨_, rfl, full_tail true 8 _ _ w43 rfl hv (k w43 [_] h43)⟩
      · obtain ⟨m, rfl⟩ := Int.eq_ofNat_of_zero_le (show 0 ≤ i by omega)
        have hm : m < N.under.length := by omega
        have e : nTake N (m : Int) = ({ N with under := N.under.eraseIdx m }, N.under[m], 0) := by
          simp only [nTake, Int.toNat_natCast]
          rw [if_neg (by omega), List.getElem?_eq_getElem hm]
        rw [e] at h31 ⊢
        have hok2 : okN { N with under := N.under.eraseIdx m } := by
          obtain ⟨a1, a2, a3, a4, a5⟩ := hF.ok
          refine ⟨?_, fun q hq => a2 q (List.mem_of_mem_eraseIdx hq), a3, a4, a5⟩
          show (N.under.eraseIdx m).length ≤ 128
          rw [List.length_eraseIdx_of_lt hm]; omega
        have hl2 : (N.under.eraseIdx m).length = min j 128 - 1 := by rw [List.length_eraseIdx_of_lt hm, hlen]
        refine double_spec (i := 0) h31 hok2 fun w32 h32 => ⟨_, _, rfl, ?_⟩
        have hd : (nDouble { N with under := N.under.eraseIdx m } 0).2.2 = if min j 128 ≤ 1 then 8 else 0 := by
          unfold nDouble
          rw [if_neg (by omega)]
          show (match (N.under.eraseIdx m)[0]? with | none => _ | some q => _ : Net × Int × Int).2.2 = _
          cases hu : N.under.eraseIdx m with
          | nil => rw [hu] at hl2; simp at hl2; rw [if_pos (by omega)]; rfl
          | cons q r =>
            rw [hu] at hl2
            simp only [List.length_cons] at hl2
            rw [if_neg (by omega)]
            show (if 128 ≤ (q :: r).length then _ else _ : Net × Int × Int).2.2 = _
            rw [if_neg (by simp only [List.length_cons]; omega)]
        rw [hd]
        unfold T_law04_FlightFull_2
        refine ite_d (fun hh => by omega) (fun _ => ?_)
        rw [show decide ((m : Int) ≥ ((min j 128 : Nat) : Int)) = false by simp; omega]
        refine live_spec h32 fun w43 h43 => ⟨_, rfl, ?_⟩
        refine full_tail false 0 _ _ w43 rfl ?_ (k w43 [_] h43)
        rw [if_neg (show ¬ (false = true) by simp)]
        by_cases h1 : min j 128 ≤ 1
        · rw [if_pos h1, show decide (((min j 128 : Nat) : Int) > 1) = false by simp; omega]; rfl
        · rw [if_neg h1, show decide (((min j 128 : Nat) : Int) > 1) = true by simp; omega]; rfl
    | succ n ih =>
      intro j N w hn hj hF h
      refine hX _ _ ?_
      unfold T_law04_FlightFull_1_body
      rw [hwr]
      refine ite_d (fun _ => ?_) (fun hh => by omega)
      intro w9
      have e8 : IntKind.wrap .u8 (j : Int) = ((UInt8.ofNat j).toNat : Int) := by
        rw [wrap_u8 (by omega) (by omega)]
        simp; omega
      have h9 := h.alloc (.cells #[.int .u8 (IntKind.wrap .u8 (j : Int))] 5)
      have h10 : St E (roS (some ⟨w.heap.size, 0, none⟩) 1 1 (bytesV [UInt8.ofNat j]) :: netA p N :: L) w9 := by
        rw [e8] at h9
        exact (h9.ownS_mk (l := 1) (c := 1) (sz := 1) (xs := bytesV [UInt8.ofNat j]) (rest := []) rfl (Nat.le_refl _) (by decide) rfl).ownS_ro
      have m3 : Int.tmod (j : Int) 3 = ((j % 3 : Nat) : Int) := rfl
      have m5 : Int.tmod (j : Int) 5 = ((j % 5 : Nat) : Int) := rfl
      rw [m3, m5, wrap_id (x := 1 + ((j % 3 : Nat) : Int)) (by omega) (by omega), wrap_id (x := 4 + ((j % 5 : Nat) : Int)) (by omega) (by omega)]
      have hl : isLink (1 + ((j % 3 : Nat) : Int)) (4 + ((j % 5 : Nat) : Int)) = true := by
        simp only [isLink, isNode, Bool.and_eq_true, decide_eq_true_eq, Bool.not_eq_true', decide_eq_false_iff_not]
        omega
      refine send_spec h10.f1 (fun w hw => hw.rdS) hF.ok fun w11 h11 => ⟨_, _, rfl, ?_⟩
      obtain ⟨s1, s2, s3⟩ := full_send (bs := [UInt8.ofNat j]) hF hl (by simp)
      have nxt : X (IntKind.wrap .i64 ((j : Int) + 1)) w11 := by
        rw [wrap_id (by omega) (by omega)]
        have := ih (j + 1) _ w11 (by omega) (by omega) s3 h11.f1.drop
        exact_mod_cast this
      by_cases hj2 : 128 ≤ j
      · rw [s2 hj2, show decide ((j : Int) < 128) = false by simp; omega]
        exact nxt
      · rw [s1 (by omega), show decide ((j : Int) < 128) = true by simp; omega]
        exact nxt
  exact go kk 0 N0 w4 (by omega) (by omega) ⟨rfl, rfl, rfl, by decide, rfl⟩ h4
theorem full_law {k i : Int} {W : World} (hk : (Lit.int .u8 k).wf = true) : Calls Try.prog 5 #[.int .u8 k, .int .i64 i] W fun e w' => e = .returned (.bool true) ∧ RowKit.Below W.heap.size W w' := by
  have hb : 0 ≤ k ∧ k ≤ 255 := by
    simp [Lit.wf, IntKind.min, IntKind.max, IntKind.signed, IntKind.bits] at hk
    omega
  obtain ⟨kk, rfl⟩ := Int.eq_ofNat_of_zero_le hb.1
  refine full_walk (by omega) (St.start W) fun w' L' h => ⟨rfl, ?_⟩
  exact (h.front L').below
end
end Go.Vc
