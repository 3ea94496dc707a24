/-
  Both nets side by side: what ties them, and that each deed keeps the tie (plain).
-/
import Derived.Test.YtilhnmncbpnfjaaFlightU
namespace Go.Vc
open Go Go.Proofs Go.Proofs.Ytilhnmncbpnfjaa

structure Rel (n : Nat) (N : Net) (Q : RNet) : Prop where
  und : rUnder Q = N.under
  last : N.last = (Q.all.length : Int)
  gone : ∀ f t, isLink f t = true → Go.Vc.gone Q f t = decide (0 < (mget N.parted (f, t)).getD 0)
  clocks : Q.clocks = N.clocks
  nodup : (N.parted.map (·.1)).Nodup
  keys : ∀ f t, isLink f t = false → mget N.parted (f, t) = none
  plen : Q.parted.length = 100
  clen : N.clocks.length = 10
  ids : ∀ (i : Nat) (q : Pkt × Bool), Q.all[i]? = some q → q.1.id = (i : Int) + 1
  few : Q.all.length ≤ n
  full : N.under.length ≤ 128
  bytes : ∀ q ∈ Q.all, q.1.bytes.length ≤ 65536
  ticks : ∀ c ∈ N.clocks, 0 ≤ c ∧ c ≤ n

variable {n : Nat} {N : Net} {Q : RNet}
theorem Rel.mem {q : Pkt} (h : Rel n N Q) (hq : q ∈ N.under) : (q, false) ∈ Q.all := by
  rw [← h.und] at hq
  obtain ⟨x, hx, rfl⟩ := List.mem_map.1 hq
  have := List.mem_filter.1 hx
  obtain ⟨x1, x2⟩ := x
  simp at this
  rw [← this.2]; exact this.1
theorem Rel.okN (h : Rel n N Q) (hn : n ≤ 50000) : okN N := by
  have := h.few
  refine ⟨h.full, fun q hq => h.bytes _ (h.mem hq), by rw [h.last]; omega, by rw [h.last]; omega, fun c hc => ?_⟩
  have := h.ticks c hc; omega
theorem Rel.okR (h : Rel n N Q) (hn : n ≤ 50000) : okR Q := by
  have := h.few
  refine ⟨by omega, h.bytes, fun c hc => ?_⟩
  rw [h.clocks] at hc
  have := h.ticks c hc; omega
theorem Rel.mono {m : Nat} (h : Rel n N Q) (hm : n ≤ m) : Rel m N Q :=
  { h with few := by have := h.few; omega, ticks := fun c hc => by have := h.ticks c hc; omega }
theorem Rel.up (h : Rel n N Q) : Rel (n + 1) N Q :=
  { h with few := by have := h.few; omega, ticks := fun c hc => by have := h.ticks c hc; push_cast; omega }
theorem rel0 : Rel 0 N0 R0 where
  und := rfl
  last := rfl
  gone f t hl := by
    have : Go.Vc.gone R0 f t = false := by
      show ((List.replicate 100 false)[(10 * f + t).toNat]?).getD false = false
      rw [List.getElem?_replicate]
      split <;> rfl
    rw [this]; rfl
  clocks := rfl
  nodup := List.nodup_nil
  keys f t _ := rfl
  plen := List.length_replicate
  clen := rfl
  ids i q h := by simp [R0] at h
  few := Nat.le_refl _
  full := by decide
  bytes q h := by simp [R0] at h
  ticks c hc := by
    have : c = 0 := by simpa [N0] using hc
    omega

/-! ### lives -/
theorem runder_eq : rUnder Q = (lives Q.all).map (·.1) := rfl
theorem live_split {all : List (Pkt × Bool)} {j : Nat} {q : Pkt × Bool} (h : all[j]? = some q) : all = all.take j ++ q :: all.drop (j + 1) := by
  obtain ⟨hlt, he⟩ := List.getElem?_eq_some_iff.1 h
  rw [← he, ← List.drop_eq_getElem_cons hlt, List.take_append_drop]
theorem live_at {all : List (Pkt × Bool)} {j : Nat} {q : Pkt} (h : all[j]? = some (q, false)) : (lives all)[(lives (all.take j)).length]? = some (q, false) := by
  have e : lives all = lives (all.take j) ++ (q, false) :: lives (all.drop (j + 1)) := by
    conv => lhs; rw [live_split h]
    simp [lives]
  rw [e, List.getElem?_append_right (Nat.le_refl _), Nat.sub_self]
  rfl
theorem live_set {all : List (Pkt × Bool)} {j : Nat} {q : Pkt} (h : all[j]? = some (q, false)) : lives (all.set j (q, true)) = (lives all).eraseIdx (lives (all.take j)).length := by
  have hlt := (List.getElem?_eq_some_iff.1 h).1
  have e : lives all = lives (all.take j) ++ (q, false) :: lives (all.drop (j + 1)) := by
    conv => lhs; rw [live_split h]
    simp [lives]
  rw [e, List.eraseIdx_append_of_length_le (Nat.le_refl _), Nat.sub_self, List.eraseIdx_zero, List.tail_cons, set_split _ _ _ hlt]
  simp [lives]
theorem live_lt {all : List (Pkt × Bool)} {j : Nat} {q : Pkt} (h : all[j]? = some (q, false)) : (lives (all.take j)).length < (lives all).length := (List.getElem?_eq_some_iff.1 (live_at h)).1

/-! ### the deeds -/
theorem rel_send {f t : Int} {bs : List UInt8} (h : Rel n N Q) : (rSend Q f t bs).2 = (nSend N f t bs).2 ∧ Rel (n + 1) (nSend N f t bs).1 (rSend Q f t bs).1 := by
  unfold nSend rSend
  by_cases hl : isLink f t = false
  · rw [if_pos hl, if_pos hl]; exact ⟨rfl, h.up⟩
  · rw [if_neg hl, if_neg hl, h.und]
    have hl' : isLink f t = true := by simpa using hl
    by_cases hb : 65536 < bs.length ∨ 128 ≤ N.under.length
    · rw [if_pos hb, if_pos hb]; exact ⟨rfl, h.up⟩
    · rw [if_neg hb, if_neg hb]
      by_cases hg : 0 < (mget N.parted (f, t)).getD 0
      · rw [if_pos hg, if_pos (by rw [h.gone f t hl']; simpa using hg)]; exact ⟨rfl, h.up⟩
      · rw [if_neg hg, if_neg (by rw [h.gone f t hl']; simpa using hg)]
        refine ⟨by rw [h.last], ?_⟩
        refine { h with und := ?_, last := ?_, ids := fun i q hq => ?_, few := ?_, full := ?_, bytes := fun q hq => ?_, ticks := fun c hc => ?_ }
        · rw [← h.und, h.last]; simp [rUnder]
        · simp only [List.length_append, List.length_cons, List.length_nil, h.last]; push_cast; omega
        · simp only [List.getElem?_append] at hq
          split at hq
          · exact h.ids i q hq
          · rename_i hi
            have hi2 : i - Q.all.length = 0 := by
              have := (List.getElem?_eq_some_iff.1 hq).1
              simp at this; exact this
            rw [hi2] at hq
            simp at hq
            rw [← hq]
            show ((Q.all.length : Int) + 1) = _
            omega
        · have := h.few; simp; omega
        · simp; omega
        · rcases List.mem_append.1 hq with hq | hq
          · exact h.bytes q hq
          · simp at hq; subst hq; show bs.length ≤ 65536; omega
        · have := h.ticks c hc; push_cast; omega
theorem rel_take {j : Nat} {q : Pkt} (h : Rel n N Q) (hj : Q.all[j]? = some (q, false)) : nTake N ((lives (Q.all.take j)).length : Int) = ({ N with under := N.under.eraseIdx (lives (Q.all.take j)).length }, q, 0) ∧
    Rel (n + 1) { N with under := N.under.eraseIdx (lives (Q.all.take j)).length } { Q with all := Q.all.set j (q, true) } := by
  have hu : N.under[(lives (Q.all.take j)).length]? = some q := by rw [← h.und, runder_eq, List.getElem?_map, live_at hj]; rfl
  refine ⟨by unfold nTake; rw [if_neg (by omega), Int.toNat_natCast, hu], ?_⟩
  refine { h with und := ?_, last := by simp [h.last], ids := fun i x hx => ?_, few := by have := h.few; simp; omega, full := ?_, bytes := fun x hx => ?_, ticks := fun c hc => by have := h.ticks c hc; push_cast; omega }
  · show (lives (Q.all.set j (q, true))).map (·.1) = N.under.eraseIdx _
    rw [live_set hj, ← h.und, runder_eq, map_erase]
  · rw [List.getElem?_set] at hx
    split at hx
    · rename_i hij
      subst hij
      split at hx
      · simp at hx; rw [← hx]; exact h.ids j (q, false) hj
      · cases hx
    · exact h.ids i x hx
  · exact Nat.le_trans (List.length_eraseIdx_le ..) h.full
  · rcases List.mem_or_eq_of_mem_set hx with hx | rfl
    · exact h.bytes x hx
    · exact h.bytes (q, false) (List.mem_of_getElem? hj)
theorem rel_take0 {i : Int} (h : Rel n N Q) (hi : i < 0 ∨ ((rUnder Q).length : Int) ≤ i) : nTake N i = (N, zeroP, 8) := by
  unfold nTake
  split
  · rfl
  · rw [List.getElem?_eq_none (by rw [← h.und]; omega)]
theorem rel_double {j : Nat} {q : Pkt} (h : Rel n N Q) (hj : Q.all[j]? = some (q, false)) :
    (128 ≤ (rUnder Q).length → nDouble N ((lives (Q.all.take j)).length : Int) = (N, 0, 6)) ∧
    (¬ 128 ≤ (rUnder Q).length → nDouble N ((lives (Q.all.take j)).length : Int) = ({ N with last := N.last + 1, under := N.under ++ [⟨N.last + 1, q.fr, q.to, q.bytes⟩] }, N.last + 1, 0) ∧
      Rel (n + 1) { N with last := N.last + 1, under := N.under ++ [⟨N.last + 1, q.fr, q.to, q.bytes⟩] } { Q with all := Q.all ++ [(⟨(Q.all.length : Int) + 1, q.fr, q.to, q.bytes⟩, false)] }) := by
  have hu : N.under[(lives (Q.all.take j)).length]? = some q := by rw [← h.und, runder_eq, List.getElem?_map, live_at hj]; rfl
  refine ⟨fun hf => ?_, fun hf => ⟨?_, ?_⟩⟩
  · unfold nDouble; rw [if_neg (by omega), Int.toNat_natCast, hu]
    show (if 128 ≤ N.under.length then _ else _) = _
    rw [if_pos (by rw [← h.und]; exact hf)]
  · unfold nDouble; rw [if_neg (by omega), Int.toNat_natCast, hu]
    show (if 128 ≤ N.under.length then _ else _) = _
    rw [if_neg (by rw [← h.und]; exact hf)]
  · rw [h.und] at hf
    refine { h with und := ?_, last := ?_, ids := fun i x hx => ?_, few := ?_, full := ?_, bytes := fun x hx => ?_, ticks := fun c hc => ?_ }
    · rw [← h.und, h.last]; simp [rUnder]
    · simp only [List.length_append, List.length_cons, List.length_nil, h.last]; push_cast; omega
    · simp only [List.getElem?_append] at hx
      split at hx
      · exact h.ids i x hx
      · rename_i hi
        have hi2 : i - Q.all.length = 0 := by
          have := (List.getElem?_eq_some_iff.1 hx).1
          simp at this; exact this
        rw [hi2] at hx
        simp at hx
        rw [← hx]
        show ((Q.all.length : Int) + 1) = _
        omega
    · have := h.few; simp; omega
    · simp; omega
    · rcases List.mem_append.1 hx with hx | hx
      · exact h.bytes x hx
      · simp at hx; subst hx; exact h.bytes (q, false) (List.mem_of_getElem? hj)
    · have := h.ticks c hc; push_cast; omega
theorem rel_double0 {i : Int} (h : Rel n N Q) (hi : i < 0 ∨ ((rUnder Q).length : Int) ≤ i) : nDouble N i = (N, 0, 8) := by
  unfold nDouble
  split
  · rfl
  · rw [List.getElem?_eq_none (by rw [← h.und]; omega)]
theorem link_inj {f t f' t' : Int} (h : isLink f t = true) (h' : isLink f' t' = true) : ((10 * f + t).toNat = (10 * f' + t').toNat) ↔ (f, t) = (f', t') := by
  simp only [isLink, isNode, Bool.and_eq_true, decide_eq_true_eq] at h h'
  rw [Prod.mk.injEq]
  omega
theorem gone_after {f t f' t' : Int} {b : Bool} (hp : Q.parted.length = 100) (h : isLink f t = true) (h' : isLink f' t' = true) {all : List (Pkt × Bool)} : gone { Q with parted := Q.parted.set (10 * f + t).toNat b, all := all } f' t' = if (f, t) = (f', t') then b else gone Q f' t' := by
  unfold gone
  have hb : (10 * f + t).toNat < 100 := by
    simp only [isLink, isNode, Bool.and_eq_true, decide_eq_true_eq] at h
    omega
  simp only [List.getD, List.getElem?_set]
  by_cases hi : (10 * f + t).toNat = (10 * f' + t').toNat
  · rw [if_pos hi, if_pos ((link_inj h h').1 hi), if_pos (by omega)]; rfl
  · rw [if_neg hi, if_neg (fun he => hi ((link_inj h h').2 he))]
theorem under_mark {f t : Int} : ∀ (all : List (Pkt × Bool)), (lives (all.map (rMark f t))).map (·.1) = ((lives all).map (·.1)).filter fun q => !onLink f t q
  | [] => rfl
  | (q, g) :: r => by
    have ih := under_mark (f := f) (t := t) r
    unfold lives at ih ⊢
    simp only [List.map_cons, List.filter_cons]
    by_cases ho : onLink f t q = true
    · have e : rMark f t (q, g) = (q, true) := by simp [rMark, ho]
      rw [e]
      cases g <;> simp [ho] <;> simpa using ih
    · have ho' : onLink f t q = false := by simpa using ho
      have e : rMark f t (q, g) = (q, g) := by simp [rMark, ho']
      rw [e]
      cases g <;> simp [ho'] <;> simpa using ih
theorem rel_part {f t : Int} (h : Rel n N Q) : (rPart Q f t).2 = (nPart N f t).2 ∧ Rel (n + 1) (nPart N f t).1 (rPart Q f t).1 := by
  unfold nPart rPart
  by_cases hl : isLink f t = false
  · rw [if_pos hl, if_pos hl]; exact ⟨rfl, h.up⟩
  · rw [if_neg hl, if_neg hl]
    have hl' : isLink f t = true := by simpa using hl
    refine ⟨rfl, ?_⟩
    refine { h with und := ?_, last := by simp [h.last], gone := fun f' t' hl2 => ?_, nodup := nodup_mset h.nodup _ _, keys := fun f' t' hl2 => by rw [mget_mset, if_neg (by rintro ⟨rfl, rfl⟩; rw [hl'] at hl2; cases hl2)]; exact h.keys f' t' hl2, plen := by simpa using h.plen, ids := fun i q hq => ?_, few := by have := h.few; simp; omega, full := ?_, bytes := fun q hq => ?_, ticks := fun c hc => by have := h.ticks c hc; push_cast; omega }
    · show (lives (Q.all.map (rMark f t))).map (·.1) = _
      rw [under_mark, ← runder_eq, h.und]
    · rw [gone_after h.plen hl' hl2, mget_mset]
      by_cases he : (f, t) = (f', t')
      · rw [if_pos he, if_pos he]; rfl
      · rw [if_neg he, if_neg he]; exact h.gone f' t' hl2
    · rw [List.getElem?_map] at hq
      cases hx : Q.all[i]? with
      | none => simp [hx] at hq
      | some x =>
        simp [hx] at hq
        have := h.ids i x hx
        rw [← hq]
        unfold rMark
        split <;> exact this
    · exact Nat.le_trans (List.length_filter_le ..) h.full
    · obtain ⟨x, hx, rfl⟩ := List.mem_map.1 hq
      have := h.bytes x hx
      unfold rMark
      split <;> exact this
theorem rel_heal {f t : Int} (h : Rel n N Q) : (rHeal Q f t).2 = (nHeal N f t).2 ∧ Rel (n + 1) (nHeal N f t).1 (rHeal Q f t).1 := by
  unfold nHeal rHeal
  by_cases hl : isLink f t = false
  · rw [if_pos hl, if_pos hl]; exact ⟨rfl, h.up⟩
  · rw [if_neg hl, if_neg hl]
    have hl' : isLink f t = true := by simpa using hl
    refine ⟨rfl, ?_⟩
    refine { h with gone := fun f' t' hl2 => ?_, nodup := nodup_mdel h.nodup _, keys := fun f' t' hl2 => by rw [mget_mdel h.nodup, h.keys f' t' hl2]; split <;> rfl, plen := by simpa using h.plen, few := by have := h.few; simp; omega, ticks := fun c hc => by have := h.ticks c hc; push_cast; omega }
    rw [gone_after h.plen hl' hl2, mget_mdel h.nodup]
    by_cases he : (f, t) = (f', t')
    · rw [if_pos he, if_pos he]; rfl
    · rw [if_neg he, if_neg he]; exact h.gone f' t' hl2
theorem rel_tick {k : Int} (h : Rel n N Q) : (rTick Q k).2 = (nTick N k).2 ∧ Rel (n + 1) (nTick N k).1 (rTick Q k).1 := by
  unfold nTick rTick
  by_cases hl : isNode k = false
  · rw [if_pos hl, if_pos hl]; exact ⟨rfl, h.up⟩
  · rw [if_neg hl, if_neg hl, h.clocks]
    have hk : k.toNat < N.clocks.length := by
      have : isNode k = true := by simpa using hl
      simp only [isNode, decide_eq_true_eq] at this
      have := h.clen; omega
    refine ⟨rfl, ?_⟩
    refine { h with clocks := rfl, clen := by simpa using h.clen, few := by have := h.few; show Q.all.length ≤ _; omega, ticks := fun c hc => ?_ }
    rcases List.mem_or_eq_of_mem_set hc with hm | rfl
    · have := h.ticks c hm; push_cast; omega
    · have := h.ticks (N.clocks.getD k.toNat 0) (by rw [show N.clocks.getD k.toNat 0 = N.clocks[k.toNat] by simp [List.getD, hk]]; exact List.getElem_mem _)
      push_cast; omega
end Go.Vc
