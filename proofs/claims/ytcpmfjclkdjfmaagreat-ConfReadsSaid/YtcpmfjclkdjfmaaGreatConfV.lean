/-
  The law ConfReads: the command of bytes, or the error.
-/
import Derived.Test.YtcpmfjclkdjfmaaGreatConfU
import Derived.Test.YtcpmfjclkdjfmaaGreatGReads
import Derived.Test.YtcpmfjclkdjfmaaGreatVcLaw
namespace Go.Vc
open Go Go.Proofs Go.Proofs.YtcpmfjclkdjfmaaGreat Go.RowKit
set_option maxRecDepth 100000
section
variable {E w : World} {L : List Asrt} {R : Ending → World → Prop} {F : Fz}
theorem reads_walk {q : Sl} {b : Cm.Bs} (hs : Src F q b) (h : St E (kn F :: L) w) (k : ∀ G w', Fz.le F G → St E (kn G :: L) w' → R (.returned (.bool true)) w') : Calls Tryz.prog 10 #[.slice q.1 q.2.1 q.2.2] w R := by
  refine C_law08_ConfReads ?_
  unfold T_law08_ConfReads
  obtain ⟨cr, hcr⟩ : ∃ cr, getR b = cr := ⟨_, rfl⟩
  have hlen : cr.1.tg.length ≤ huge := by
    rw [← hcr]
    unfold getR
    cases hg : Cm.getC b with
    | error e => exact Nat.zero_le _
    | ok c =>
      have := Cm.chk_fine (Cm.putC_getC hg).1
      have := (Cm.chkT_zero this.t).2
      show c.tg.length ≤ huge
      unfold huge; omega
  refine GetCommand_spec hs h fun w3 G1 s1 k1 h3 r1 => ?_
  rw [hcr] at r1 ⊢
  refine ⟨_, _, _, _, _, _, _, _, _, _, _, rfl, ?_⟩
  intro w13
  have h13 := h3.alloc (.cells ⟨cmdL zeroC (none, 0, 0)⟩ 42)
  refine ⟨rfl, ok_cmd h13 rfl cr.1 s1, ?_⟩
  intro w14
  have h14 : St E (blkL w3.heap.size 42 (cmdL cr.1 s1) :: kn G1 :: L) w14 := St.wr_cmd h13 rfl cr.1 s1
  clear h13
  clear_value w14 w13
  generalize w3.heap.size = b1 at *
  refine RGetCommand_spec (hs.mono k1) h14.f1 fun w16 G2 s2 k2 h16 r2 => ?_
  rw [hcr] at r2 ⊢
  refine ⟨_, _, _, _, _, _, _, _, _, _, _, rfl, ?_⟩
  intro w26
  have h26 := h16.alloc (.cells ⟨cmdL zeroC (none, 0, 0)⟩ 42)
  refine ⟨rfl, ok_cmd h26 rfl cr.1 s2, ?_⟩
  intro w27
  have h27 : St E (blkL w16.heap.size 42 (cmdL cr.1 s2) :: kn G2 :: blkL b1 42 (cmdL cr.1 s1) :: L) w27 := St.wr_cmd h26 rfl cr.1 s2
  clear h26
  clear_value w27 w26
  generalize w16.heap.size = b2 at *
  refine live_spec h27.f1 fun G3 w29 k3 h29 => ⟨_, rfl, ite_b (fun _ => ?_) fun hh => by cases hh⟩
  refine ⟨_, _, _, _, _, _, _, _, _, _, rd_cmd h29.f2, _, _, _, _, _, _, _, _, _, _, rd_cmd h29.f1, ?_⟩
  refine SameCommand_spec (c1 := cr.1) (c2 := cr.1) (s1 := s1) (s2 := s2) at0 h29 (RdF.mono r1 (Fz.le_trans k2 k3)) (RdF.mono r2 k3) hlen fun w48 h48 => ⟨_, rfl, ite_b (fun _ => ?_) fun hh => by simp at hh⟩
  exact congB (k G3 _ (Fz.le_trans k1 (Fz.le_trans k2 k3)) (h48.sel 3 [0])) (by simp)
theorem slice_cap {H : Type} {enc : TypeId × Value → H} {P : Program} {W : World} {t e : TypeId} {a : Option Addr} {l c : Nat} {fuel : Nat} {x : DataW H × List MemPlace} (ht : P.underlying t = some (.slice e)) (h : DataW.trod enc P W 0 (fun _ => true) true fuel t [.slice a l c] = some x) : l ≤ c := by
  rcases DataW.trod_slice ht h with ⟨hcs, _⟩ | ⟨ad, len, cap, elems, rest, n, _, hcs, _, _, hl, _⟩
  · simp at hcs
    obtain ⟨rfl, rfl, rfl⟩ := hcs
    exact Nat.le_refl _
  · simp at hcs
    obtain ⟨rfl, rfl, rfl⟩ := hcs
    exact hl
/-- Bytes that came in. -/
theorem src_of {H : Type} {enc : TypeId × Value → H} {W : World} {a : Option Addr} {l c : Nat} {d : DataW H} {ps : List MemPlace} (h : DataW.Trod enc Tryz.prog W 0 (fun _ => true) true 56 (.slice a l c) d ps) : ∃ b, Src (fun b => W.heap[b]?) (a, l, c) b := by
  obtain ⟨m, hm⟩ := h
  obtain ⟨b, hr, hl⟩ := open_bytes Tryz.underlying56 Tryz.underlying5 (by kernel_rfl) hm
  have hn : b.length = l := by have := hr.1; simpa using this
  exact ⟨b, RdF.of_world hr, hn, slice_cap Tryz.underlying56 hm, by rw [hn]; exact hl⟩
theorem reads_law {H : Type} {enc : TypeId × Value → H} {W : World} {a : Option Addr} {l c : Nat} {d : DataW H} {ps : List MemPlace} (h : DataW.Trod enc Tryz.prog W 0 (fun _ => true) true 56 (.slice a l c) d ps) :
    Calls Tryz.prog 10 #[.slice a l c] W fun e w' => e = .returned (.bool true) ∧ RowKit.Below W.heap.size W w' := by
  obtain ⟨b, hs⟩ := src_of h
  exact reads_walk (q := (a, l, c)) hs (St.start_kn W) fun G w' hG h' => ⟨rfl, h'.below_kn hG⟩
end
end Go.Vc
