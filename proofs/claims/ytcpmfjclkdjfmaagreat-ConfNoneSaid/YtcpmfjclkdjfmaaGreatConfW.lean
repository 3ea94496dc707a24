/-
  The law ConfNone: a nil store answers so.
-/
import Derived.Test.YtcpmfjclkdjfmaaGreatConfU
import Derived.Test.YtcpmfjclkdjfmaaGreatConfX
import Derived.Test.YtcpmfjclkdjfmaaGreatGNone
namespace Go.Vc
open Go Go.Proofs Go.Proofs.YtcpmfjclkdjfmaaGreat Go.RowKit
set_option maxRecDepth 100000
section
variable {E w : World} {L : List Asrt} {R : Ending → World → Prop} {F : Fz} {c : Cm.Cmd} {q : Sl}
theorem Do_nil (h : St E L w) (k : ∀ w', St E L w' → R (.returned (.agg #[.int .i64 1, .int .i64 0])) w') : Calls Tryz.prog 17 #[.pointer none, cmdV c q] w R := by
  refine C_conf_Store_Do ?_
  unfold T_conf_Store_Do
  intro w10
  have h10 : St E (blkL w.heap.size 42 (cmdL c q) :: L) w10 := h.alloc _
  intro w11
  have h11 := h10.alloc (.cells #[.int .i64 0, .int .i64 0] 45)
  refine ite_none ⟨rfl, ok_res h11 rfl 1 0, ?_⟩
  intro w12
  have h12 := h11.wr_res rfl 1 0
  exact ⟨_, _, rd_res h12, k _ h12.drop.drop⟩
theorem Seen_nil {n : Int} (h : St E L w) (k : ∀ w', St E L w' → R (.returned (.tuple #[.int .i64 0, .agg #[.int .i64 0, .int .i64 0]])) w') : Calls Tryz.prog 24 #[.pointer none, .int .i64 n] w R := by
  refine C_conf_Store_Seen ?_
  unfold T_conf_Store_Seen
  intro w3
  have h3 := h.alloc (.cells #[.int .i64 0, .int .i64 0] 45)
  refine ite_none ⟨rfl, ok_res h3 rfl 0 0, ?_⟩
  intro w4
  have h4 := h3.wr_res rfl 0 0
  exact ⟨_, _, rd_res h4, k _ h4.drop⟩
theorem Put_nil (k : R (.returned (.slice none 0 0)) w) : Calls Tryz.prog 25 #[.pointer none] w R := by
  refine C_conf_Store_Put ?_
  unfold T_conf_Store_Put
  exact ite_none k
theorem Fork_nil (k : R (.returned (.pointer none)) w) : Calls Tryz.prog 27 #[.pointer none] w R := by
  refine C_conf_Store_Fork ?_
  unfold T_conf_Store_Fork
  exact ite_none k
theorem none_walk {n : Int} (h : St E (kn F :: L) w) (k : ∀ G w', Fz.le F G → St E (kn G :: L) w' → R (.returned (.bool true)) w') : Calls Tryz.prog 9 #[cmdV c q, .int .i64 n] w R := by
  refine C_law08_ConfNone ?_
  unfold T_law08_ConfNone
  intro w10
  have h10 : St E (blkL w.heap.size 42 (cmdL c q) :: kn F :: L) w10 := h.alloc _
  clear_value w10
  generalize w.heap.size = bc at *
  refine Seen_nil h10 fun w12 h12 => ⟨_, _, _, rfl, ?_⟩
  intro w16
  have h16 := h12.alloc (.cells #[.int .i64 0, .int .i64 0] 45)
  refine ⟨rfl, ok_res h16 rfl 0 0, ?_⟩
  intro w17
  have h17 : St E (blkL w12.heap.size 45 (rsL 0 0) :: blkL bc 42 (cmdL c q) :: kn F :: L) w17 := h16.wr_res rfl 0 0
  clear h16
  clear_value w17 w16
  generalize w12.heap.size = br at *
  refine live_spec h17.f2 fun G w19 hG h19 => ⟨_, rfl, ite_b (fun _ => ?_) fun hh => by cases hh⟩
  have hc : St E (blkL bc 42 (cmdL c q) :: L) w19 := h19.sel 3 [2]
  refine ⟨_, _, _, _, _, _, _, _, _, _, rd_cmd hc, Do_nil h19 fun w30 h30 => ⟨_, _, rfl, runV_ok (res_eq _ _ 1 0 1 0) ⟨_, rfl, ite_b (fun _ => ?_) fun hh => by simp at hh⟩⟩⟩
  refine Config_nil h30 fun w37 h37 => ⟨_, _, _, _, _, _, _, rfl, ?_⟩
  refine SameConfig_spec (v1 := 0) (v2 := 0) (ra1 := (none, 0, 0)) (pa1 := (none, 0, 0)) (ra2 := (none, 0, 0)) (pa2 := (none, 0, 0)) at0 h37 (cfgR_nil G) (cfgR_nil G) (by simp) (by simp) (fun x hx => by cases hx) fun w42 h42 => ⟨_, rfl, ite_b (fun _ => ?_) fun hh => by simp at hh⟩
  refine ite_b (fun _ => ?_) fun hh => by simp at hh
  refine ⟨_, _, rd_res h42.f1, runV_ok (res_eq _ _ 0 0 0 0) ⟨_, rfl, ite_b (fun _ => ?_) fun hh => by simp at hh⟩⟩
  exact Put_nil ⟨_, _, _, rfl, ite_b (fun _ => Fork_nil ⟨_, rfl, k G _ hG (h42.sel 3 [0])⟩) fun hh => by simp at hh⟩
theorem none_law {H : Type} {enc : TypeId × Value → H} {W : World} {cs : Array Value} {n : Int} {d : DataW H} {ps : List MemPlace} (h : DataW.Trod enc Tryz.prog W 0 (fun _ => true) true 42 (.agg cs) d ps) :
    Calls Tryz.prog 9 #[.agg cs, .int .i64 n] W fun e w' => e = .returned (.bool true) ∧ RowKit.Below W.heap.size W w' := by
  obtain ⟨c, q, e, _⟩ := open_one h
  rw [e]
  exact none_walk (St.start_kn W) fun G w' hG h' => ⟨rfl, h'.below_kn hG⟩
end
end Go.Vc
