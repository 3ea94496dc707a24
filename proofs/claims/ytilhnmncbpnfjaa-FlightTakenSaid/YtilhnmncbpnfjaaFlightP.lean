/-
  The law FlightParted: its walk.
-/
import Derived.Test.YtilhnmncbpnfjaaFlightY
namespace Go.Vc
open Go Go.Proofs Go.Proofs.Ytilhnmncbpnfjaa

section
variable {E w : World} {L : List Asrt} {p r n : Nat} {N : Net} {Q : RNet} {R : Ending → World → Prop}

theorem ite_ne {x y : Int} {A B : Prop} (h1 : x ≠ y → A) (h2 : x = y → B) : if (x != y) = true then A else B := by
  by_cases h : x = y
  · rw [if_neg (by simpa using h)]; exact h2 h
  · rw [if_pos (by simpa using h)]; exact h1 h
theorem filter_fst2 (g : Pkt → Bool) (qs : List (Pkt × Sl)) : (qs.filter fun q => g q.1).map (·.1) = (qs.map (·.1)).filter g := filter_fst g qs

theorem parted_walk {a : Option Addr} {l c : Nat} {ds : List (Deed × Sl)} {f t : Int} (h : St E L w) (hs : SeesD E L a l ds) (k : ∀ w' L', St E (L' ++ L) w' → R (.returned (.bool true)) w') :
    Calls Try.prog 7 #[.slice a l c, .int .i64 f, .int .i64 t] w R := by
  refine C_law04_FlightParted ?_
  unfold T_law04_FlightParted
  refine play_spec h hs fun w5 p r N Q hr h5 => ⟨_, _, _, rfl, ?_⟩
  rw [if_neg (by simp)]
  have okn := hr.okN (by omega)
  have hfull := hr.full
  refine under_spec h5 okn fun w10 wa wl wc h10 => ⟨_, _, _, rfl, ?_⟩
  have hrp := rel_part (f := f) (t := t) hr
  refine part_spec (f := f) (t := t) h10.f1 okn fun w13 h13 => ⟨_, rfl, ?_⟩
  by_cases hl : isLink f t = false
  · have e : nPart N f t = (N, 2) := by simp [nPart, hl]
    rw [e] at h13 ⊢
    rw [if_pos (by rfl)]
    unfold T_law04_FlightParted_1
    refine live_spec h13 fun w21 h21 => ⟨true, rfl, ?_⟩
    have fin : Calls Try.prog 20 #[.pointer (some ⟨p, 0, none⟩)] w21 (ret (fun r23 w24 => ∃ s25a : Option Addr, ∃ s25l : Nat, ∃ s25c : Nat, r23 = .slice s25a s25l s25c ∧ Calls Try.prog 25 #[.slice s25a s25l s25c, .slice wa wl wc] w24 (ret (fun r26 w27 => ∃ b28 : Bool, r26 = .bool b28 ∧ R (.returned (.bool b28)) w27) (pan R))) (pan R)) := by
      refine under_spec h21 okn fun w24 a2 l2 c2 h24 => ⟨_, _, _, rfl, ?_⟩
      exact samePackets_spec (ps := N.under) h24 sees_under ((fun w hw => sees_under w hw.f2) : SeesP E _ _ _ _) (by omega) fun w27 h27 => ⟨_, rfl, k w27 [_, _, _, _] h27⟩
    refine ite_d (fun _ => fin) (fun h1 => ite_d (fun _ => fin) (fun h2 => ite_d (fun _ => fin) (fun h3 => ite_d (fun _ => fin) (fun h4 => ite_q (fun _ => fin) (fun h5 => ?_)))))
    exfalso
    simp only [isLink, isNode] at hl
    rw [show decide (1 ≤ f ∧ f ≤ 9) = true by simp; omega, show decide (1 ≤ t ∧ t ≤ 9) = true by simp; omega] at hl
    simp at hl
    exact h5 hl
  · have hl' : isLink f t = true := by simpa using hl
    have e : nPart N f t = ({ N with parted := mset N.parted (f, t) 1, under := N.under.filter fun q => !onLink f t q }, 0) := by simp only [nPart, hl']; rw [if_neg (by simp)]
    rw [e] at h13 hrp ⊢
    generalize hN2 : ({ N with parted := mset N.parted (f, t) 1, under := N.under.filter fun q => !onLink f t q } : Net) = N2 at h13 hrp ⊢
    have hun : N2.under = N.under.filter fun q => !onLink f t q := by rw [← hN2]
    have hpa : N2.parted = mset N.parted (f, t) 1 := by rw [← hN2]
    have hr2 : Rel (400 + 1) N2 (rPart Q f t).1 := hrp.2
    have okn2 := hr2.okN (by omega)
    rw [if_neg (by simp)]
    obtain ⟨qs, hq, ho⟩ := (h13.f1 : St E (underA wa wl wc N.under :: netA p N2 :: refA r Q :: L) w13).under_open
    have hql := ho.rdS_own.count pktV_len (by decide)
    have hqn : qs.length = N.under.length := by rw [← hq, List.length_map]
    -- behind the loop
    have tail : ∀ (va : Option Addr) (vl vc : Nat) (w90 : World), St E (ownS va vl vc 41 4 ((qs.filter fun q => !onLink f t q.1).flatMap pktV) :: ownS wa wl wc 41 4 (qs.flatMap pktV) :: pksA qs :: netA p N2 :: refA r Q :: L) w90 →
        T_law04_FlightParted_4 f t (some ⟨p, 0, none⟩) va vl vc w90 (fun b107 w108 => if b107 = true then (R (.returned (.bool false)) w108) else (Calls Try.prog 17 #[.pointer (some ⟨p, 0, none⟩), .int .i64 f, .int .i64 t, .slice none 0 0] w108 (ret (fun r109 w110 => ∃ x111 : Int, ∃ x112 : Int, r109 = .tuple #[.int .i64 x111, .int .i64 x112] ∧ Calls Try.prog 27 #[.pointer (some ⟨p, 0, none⟩), .int .i64 f, .int .i64 t] w110 (ret (fun r113 w114 => ∃ x115 : Int, r113 = .int .i64 x115 ∧ Calls Try.prog 17 #[.pointer (some ⟨p, 0, none⟩), .int .i64 f, .int .i64 t, .slice none 0 0] w114 (ret (fun r116 w117 => ∃ x118 : Int, ∃ x119 : Int, r116 = .tuple #[.int .i64 x118, .int .i64 x119] ∧ if (decide (((vl : Nat) : Int) ≥ 128)) = true then (T_law04_FlightParted_5 x112 x119 w117 (fun b128 w129 => R (.returned (.bool b128)) w129) (pan R)) else (Calls Try.prog 15 #[] w117 (ret (fun r130 w131 => ∃ b132 : Bool, r130 = .bool b132 ∧ if b132 = true then (if ((x112 : Int) == 8) = true then (if ((x115 : Int) == 0) = true then (if ((x119 : Int) == 0) = true then (if (decide ((x118 : Int) > 0)) = true then (Calls Try.prog 26 #[.pointer (some ⟨p, 0, none⟩), .int .i64 f, .int .i64 t] w131 (ret (fun r133 w134 => ∃ b135 : Bool, r133 = .bool b135 ∧ R (.returned (.bool (!b135))) w134) (pan R))) else (R (.returned (.bool false)) w131)) else (R (.returned (.bool false)) w131)) else (R (.returned (.bool false)) w131)) else (R (.returned (.bool false)) w131)) else (R (.returned (.bool false)) w131)) (pan R)))) (pan R))) (pan R))) (pan R)))) (pan R) := by
      intro va vl vc w90 h90
      have hvl : vl = N2.under.length := by
        rw [← h90.rdS_own.count pktV_len (by decide), hun, ← hq, ← filter_fst2, List.length_map]
      unfold T_law04_FlightParted_4
      refine under_spec (h90.f3 : St E (netA p N2 :: _) w90) okn2 fun w96 a2 l2 c2 h96 => ⟨_, _, _, rfl, ?_⟩
      have hwant : SeesP E (underA a2 l2 c2 N2.under :: netA p N2 :: ownS va vl vc 41 4 ((qs.filter fun q => !onLink f t q.1).flatMap pktV) :: ownS wa wl wc 41 4 (qs.flatMap pktV) :: pksA qs :: refA r Q :: L) va vl N2.under := fun w hw => by
        refine ⟨qs.filter fun q => !onLink f t q.1, by rw [filter_fst2 (fun q => !onLink f t q), hq, hun], hw.f2.rdS_own, fun q hqm => ?_⟩
        obtain ⟨i, hi, he⟩ := List.getElem_of_mem (List.mem_filter.1 hqm).1
        exact (hw.f4 : St E (pksA qs :: _) w).pks_rd (i := i) (by rw [List.getElem?_eq_getElem hi, he])
      refine samePackets_spec (ps := N2.under) h96 sees_under hwant (by have := hr2.full; omega) fun w99 h99 => ⟨true, rfl, ?_⟩
      rw [if_neg (by simp)]
      have h99' : St E (netA p N2 :: underA a2 l2 c2 N2.under :: ownS va vl vc 41 4 ((qs.filter fun q => !onLink f t q.1).flatMap pktV) :: ownS wa wl wc 41 4 (qs.flatMap pktV) :: pksA qs :: refA r Q :: L) w99 := h99.f1
      have hmget : mget N2.parted (f, t) = some 1 := by rw [hpa, mget_mset, if_pos rfl]
      have hpt : nParted N2 f t = true := by unfold nParted; rw [hmget]; rfl
      refine parted_spec (f := f) (t := t) h99' ⟨_, rfl, ?_⟩
      rw [hpt]
      refine ite_b (fun hh => by cases hh) (fun _ => ?_)
      have hnil : ∀ L', Sees E L' none 0 1 (bytesV []) := fun L' w _ => RdS.nil w none
      refine send_spec (f := f) (t := t) (bs := []) h99' (hnil _) okn2 fun w110 h110 => ⟨_, _, rfl, ?_⟩
      have e1 : nSend N2 f t [] = (N2, 0, if 128 ≤ N2.under.length then 6 else 8) := by
        unfold nSend
        rw [if_neg hl]
        by_cases hf : 128 ≤ N2.under.length
        · rw [if_pos (Or.inr hf), if_pos hf]
        · rw [if_neg (by simp; omega), hmget, if_pos (by decide), if_neg hf]
      rw [e1] at h110 ⊢
      refine heal_spec (f := f) (t := t) h110 fun w114 h114 => ⟨_, rfl, ?_⟩
      have hrh := (rel_heal (f := f) (t := t) hr2).2
      have e2 : nHeal N2 f t = ({ N2 with parted := mdel N2.parted (f, t) }, 0) := by simp only [nHeal, hl']; rw [if_neg (by simp)]
      rw [e2] at h114 hrh ⊢
      refine send_spec (f := f) (t := t) (bs := []) h114 (hnil _) (hrh.okN (by omega)) fun w117 h117 => ⟨_, _, rfl, ?_⟩
      have hmg2 : mget (mdel N2.parted (f, t)) (f, t) = none := by rw [mget_mdel hr2.nodup, if_pos rfl]
      by_cases hf : 128 ≤ N2.under.length
      · have e3 : nSend { N2 with parted := mdel N2.parted (f, t) } f t [] = ({ N2 with parted := mdel N2.parted (f, t) }, 0, 6) := by
          unfold nSend
          rw [if_neg hl, if_pos (Or.inr hf)]
        rw [e3] at h117 ⊢
        refine ite_d (fun _ => ?_) (fun hh => absurd hh (by omega))
        unfold T_law04_FlightParted_5
        refine live_spec h117 fun w123 h123 => ⟨true, rfl, ?_⟩
        rw [if_pos hf]
        exact k w123 [_, _, _, _, _, _] h123
      · have e3 : nSend { N2 with parted := mdel N2.parted (f, t) } f t [] = ({ N2 with parted := mdel N2.parted (f, t), last := N2.last + 1, under := N2.under ++ [⟨N2.last + 1, f, t, []⟩] }, N2.last + 1, 0) := by
          unfold nSend
          rw [if_neg hl, if_neg (by simp; omega)]
          show (if 0 < (mget (mdel N2.parted (f, t)) (f, t)).getD 0 then _ else _) = _
          rw [hmg2, if_neg (by decide)]
        rw [e3] at h117 ⊢
        refine ite_d (fun hh => absurd hh (by omega)) (fun _ => ?_)
        refine live_spec h117 fun w131 h131 => ⟨true, rfl, ?_⟩
        rw [if_neg hf]
        have hl0 : 0 ≤ N2.last := okn2.2.2.1
        rw [show decide (N2.last + 1 > 0) = true by simp; omega]
        refine parted_spec (f := f) (t := t) h131 ⟨_, rfl, ?_⟩
        have hpf : nParted { N2 with parted := mdel N2.parted (f, t), last := N2.last + 1, under := N2.under ++ [⟨N2.last + 1, f, t, []⟩] } f t = false := by
          unfold nParted
          show decide (0 < (mget (mdel N2.parted (f, t)) (f, t)).getD 0) = false
          rw [hmg2]; rfl
        rw [hpf]
        exact k w131 [_, _, _, _, _, _] h131
    unfold T_law04_FlightParted_2
    intro X hX
    have go : ∀ (n i : Nat) (va : Option Addr) (vl vc : Nat) (w : World), n = wl - i → i ≤ wl →
        St E (ownS va vl vc 41 4 (((qs.take i).filter fun q => !onLink f t q.1).flatMap pktV) :: ownS wa wl wc 41 4 (qs.flatMap pktV) :: pksA qs :: netA p N2 :: refA r Q :: L) w → X va vl vc (i : Int) w := by
      intro n
      induction n with
      | zero =>
        intro i va vl vc w hn hi h
        refine hX _ _ _ _ _ ?_
        unfold T_law04_FlightParted_2_body
        refine ite_d (fun hh => absurd hh (by omega)) (fun _ => ?_)
        rw [List.take_of_length_le (by omega)] at h
        exact tail va vl vc w h
      | succ n ih =>
        intro i va vl vc w hn hi h
        refine hX _ _ _ _ _ ?_
        unfold T_law04_FlightParted_2_body
        have hiq : i < qs.length := by omega
        obtain ⟨ad, ha, hrd, hcell⟩ := h.f1.rdS_own.elem pktV_len (List.getElem?_eq_getElem hiq) (by decide)
        refine ite_d (fun _ => ?_) (fun hh => absurd hh (by omega))
        have hvl : vl ≤ 1000 := by
          rw [← h.rdS_own.count pktV_len (by decide)]
          exact Nat.le_trans (List.length_filter_le ..) (by rw [List.length_take]; omega)
        have keep : onLink f t qs[i].1 = false → (0 ≤ (i : Int) ∧ (i : Int) < ((wl : Nat) : Int) ∧ ∃ b76, wa = some b76 ∧ ∃ x77 : Int, ∃ x78 : Int, ∃ x79 : Int, ∃ s80a : Option Addr, ∃ s80l : Nat, ∃ s80c : Nat, rd w (b76.add ((i : Int).toNat * 4)) (.agg #[.int .i64 x77, .int .i64 x78, .int .i64 x79, .slice s80a s80l s80c]) ∧ let w81 : World := w.alloc (.cells #[.int .i64 x77, .int .i64 x78, .int .i64 x79, .slice s80a s80l s80c] 41)
            runV Try.prog (Builtin.append_ #[33, 33] 33 #[.slice va vl vc, .slice (some (⟨w.heap.size, 0, none⟩ : Addr)) 1 1]) w81 (fun r82 w83 => ∃ s84a : Option Addr, ∃ s84l : Nat, ∃ s84c : Nat, r82 = .slice s84a s84l s84c ∧ X s84a s84l s84c (IntKind.wrap .i64 ((i : Int) + 1)) w83) (pan R)) := by
          intro hoff
          rw [Int.toNat_natCast]
          refine ⟨by omega, by omega, ad, ha, _, _, _, _, _, _, hrd, ?_⟩
          intro w81
          have h81 := h.alloc (.cells ⟨pktV qs[i]⟩ 41)
          have hro : RdS w81 (some ⟨w.heap.size, 0, none⟩) 1 4 ([qs[i]].flatMap pktV) := (h81.ownS_mk (l := 1) (c := 1) (xs := [qs[i]].flatMap pktV) (rest := []) rfl (Nat.le_refl _) (by decide) rfl).rdS_own
          obtain ⟨a', c', w83, hrun, h83⟩ := app_pkts (c2 := 1) h81.f1 hro (by omega)
          refine runV_ok hrun ⟨_, _, _, rfl, ?_⟩
          rw [wrap_id (by omega) (by omega)]
          have h84 : St E (ownS a' (vl + 1) c' 41 4 (((qs.take (i + 1)).filter fun q => !onLink f t q.1).flatMap pktV) :: ownS wa wl wc 41 4 (qs.flatMap pktV) :: pksA qs :: netA p N2 :: refA r Q :: L) w83 := by
            rw [List.take_succ_eq_append_getElem hiq, List.filter_append]
            rw [show [qs[i]].filter (fun q => !onLink f t q.1) = [qs[i]] by simp [hoff]]
            exact h83.f1.drop
          have := ih (i + 1) a' (vl + 1) c' w83 (by omega) (by omega) h84
          exact_mod_cast this
        unfold T_law04_FlightParted_3
        refine ⟨by omega, by omega, ad, ha, qs[i].1.fr, (by rw [Int.toNat_natCast]; exact hcell 1 _ rfl rfl), ite_ne (fun h1 => ?_) (fun h1 => ?_)⟩
        · exact ite_b (fun _ => keep (by simp [onLink, h1])) (fun hh => by cases hh)
        · refine ⟨by omega, by omega, ad, ha, qs[i].1.to, (by rw [Int.toNat_natCast]; exact hcell 2 _ rfl rfl), ?_⟩
          by_cases h2 : qs[i].1.to = t
          · rw [show (qs[i].1.to != t) = false by simp [h2]]
            refine ite_b (fun hh => by cases hh) (fun _ => ?_)
            rw [wrap_id (by omega) (by omega)]
            have h84 : St E (ownS va vl vc 41 4 (((qs.take (i + 1)).filter fun q => !onLink f t q.1).flatMap pktV) :: ownS wa wl wc 41 4 (qs.flatMap pktV) :: pksA qs :: netA p N2 :: refA r Q :: L) w := by
              rw [List.take_succ_eq_append_getElem hiq, List.filter_append]
              rw [show [qs[i]].filter (fun q => !onLink f t q.1) = [] by simp [onLink, h1, h2], List.append_nil]
              exact h
            have := ih (i + 1) va vl vc w (by omega) (by omega) h84
            exact_mod_cast this
          · rw [show (qs[i].1.to != t) = true by simp [h2]]
            exact ite_b (fun _ => keep (by simp [onLink, h2])) (fun hh => by cases hh)
    have := go wl 0 none 0 0 w13 (by omega) (by omega) ho.ownS_nil
    exact this
theorem parted_law {H : Type} {enc : TypeId × Value → H} {W : World} {a : Option Addr} {l c : Nat} {d : DataW H} {ps : List MemPlace} {f t : Int} (h : DataW.Trod enc Try.prog W 0 (fun _ => true) true 32 (.slice a l c) d ps) :
    Calls Try.prog 7 #[.slice a l c, .int .i64 f, .int .i64 t] W fun e w' => e = .returned (.bool true) ∧ RowKit.Below W.heap.size W w' := by
  obtain ⟨ds, hs, _⟩ := open_deeds h
  exact parted_walk (St.start W) hs fun w' L' h => ⟨rfl, (h.front L').below⟩
end
end Go.Vc
