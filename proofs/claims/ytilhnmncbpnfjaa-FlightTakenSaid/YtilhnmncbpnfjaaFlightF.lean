/-
  What must be whatever is asked (the laws' 'live'), and the nil net.
-/
import Derived.Test.YtilhnmncbpnfjaaFlightE
import Derived.Test.YtilhnmncbpnfjaaGc
namespace Go.Vc
open Go Go.Proofs Go.Proofs.Ytilhnmncbpnfjaa

section
variable {E w : World} {L : List Asrt} {p : Nat} {N : Net} {R : Ending → World → Prop}

theorem send_nil {f t : Int} {a : Option Addr} {l c : Nat} (k : R (.returned (.tuple #[.int .i64 0, .int .i64 1])) w) : Calls Try.prog 17 #[.pointer none, .int .i64 f, .int .i64 t, .slice a l c] w R := C_flight_Net_Send k
theorem double_nil {i : Int} (k : R (.returned (.tuple #[.int .i64 0, .int .i64 1])) w) : Calls Try.prog 21 #[.pointer none, .int .i64 i] w R := C_flight_Net_Double k
theorem tick_nil {i : Int} (k : R (.returned (.tuple #[.int .i64 0, .int .i64 1])) w) : Calls Try.prog 13 #[.pointer none, .int .i64 i] w R := C_flight_Net_Tick k
theorem heal_nil {f t : Int} (k : R (.returned (.int .i64 1)) w) : Calls Try.prog 27 #[.pointer none, .int .i64 f, .int .i64 t] w R := C_flight_Net_Heal k
theorem parted_nil {f t : Int} (k : R (.returned (.bool false)) w) : Calls Try.prog 26 #[.pointer none, .int .i64 f, .int .i64 t] w R := C_flight_Net_Parted k
theorem len_nil (k : R (.returned (.int .i64 0)) w) : Calls Try.prog 22 #[.pointer none] w R := C_flight_Net_Len k
theorem under_nil (k : R (.returned (.slice none 0 0)) w) : Calls Try.prog 20 #[.pointer none] w R := C_flight_Net_Under k
theorem now_nil {i : Int} (k : R (.returned (.int .i64 0)) w) : Calls Try.prog 14 #[.pointer none, .int .i64 i] w R := C_flight_Net_Now k
theorem fork_nil (k : R (.returned (.pointer none)) w) : Calls Try.prog 35 #[.pointer none] w R := C_flight_Net_Fork k
theorem part_nil {f t : Int} (h : St E L w) (k : ∀ w', St E L w' → R (.returned (.int .i64 1)) w') : Calls Try.prog 24 #[.pointer none, .int .i64 f, .int .i64 t] w R :=
  C_flight_Net_Part (k _ ((h.alloc (.cells #[.int .i64 f] 3)).drop.alloc (.cells #[.int .i64 t] 3)).drop)
theorem take_nil {i : Int} (h : St E L w) (k : ∀ w', St E L w' → R (.returned (.tuple #[.agg #[.int .i64 0, .int .i64 0, .int .i64 0, .slice none 0 0], .int .i64 1])) w') : Calls Try.prog 18 #[.pointer none, .int .i64 i] w R := by
  refine C_flight_Net_Take ?_
  unfold T_flight_Net_Take
  intro w3
  have h3 := h.alloc (.cells #[.int .i64 0, .int .i64 0, .int .i64 0, .slice none 0 0] 41)
  refine ite_none ⟨rfl, wrOk_agg h3.at_blk (by simp) (by decide), ?_⟩
  intro w4
  have h4 := h3.wr_agg0 (xs := [.int .i64 0, .int .i64 0, .int .i64 0, .slice none 0 0]) rfl
  exact ⟨0, 0, 0, none, 0, 0, rd_agg h4.at_blk (fun j u hu => by rw [Nat.zero_add]; exact hu), k _ h4.drop⟩

theorem live_spec (h : St E L w) (k : ∀ w', St E L w' → R (.returned (.bool true)) w') : Calls Try.prog 15 #[] w R := by
  refine C_law04_live ?_
  unfold T_law04_live
  refine new_spec h fun w2 p h2 => ⟨_, rfl, ?_⟩
  intro w4
  have h4 := h2.alloc (.cells #[.int .u8 97, .int .u8 98] 5)
  obtain ⟨w6, hr, h6⟩ := convert_bytes (P := Try.prog) (t := 36) (e := 5) (l := 2) (c := 2) (by kernel_rfl) (by kernel_rfl) (h4 : St E (blkL w2.heap.size 5 (bytesV [97, 98]) :: _) w4) rfl
  refine runV_ok hr ⟨_, _, _, rfl, ?_⟩
  have hsee : Sees E (roS (some ⟨w2.heap.size, 0, none⟩) 2 1 (bytesV [97, 98]) :: L) (some ⟨w2.heap.size, 0, none⟩) 2 1 (bytesV [97, 98]) := fun w hw => hw.rdS
  refine send_spec (f := 1) (t := 2) (h6.f1 : St E (netA p N0 :: _) w6) hsee (by unfold okN; decide) fun w9 h9 => ⟨_, _, rfl, ?_⟩
  have hn : Sees E L none 0 1 (bytesV []) := fun w _ => RdS.nil w none
  refine send_spec (f := 2) (t := 1) (bs := []) h9 (hn.more _) (by unfold okN; decide) fun w13 h13 => ⟨_, _, rfl, ?_⟩
  refine double_spec (i := 0) h13 (by unfold okN; decide) fun w17 h17 => ⟨_, _, rfl, ?_⟩
  refine part_spec (f := 1) (t := 2) h17 (by unfold okN; decide) fun w21 h21 => ⟨_, rfl, ?_⟩
  refine under_spec h21 (by unfold okN; decide) fun w24 a l c h24 => ⟨_, _, _, rfl, ?_⟩
  obtain ⟨qs, hq, hu⟩ := h24.under_open
  have hct := hu.rdS_own.count pktV_len (by decide)
  have hl : l = 1 := by rw [← hct, ← List.length_map (f := (·.1)), hq]; rfl
  subst hl
  match qs, hq, hct, hu with
  | [q], hq, _, hu =>
    have hq1 : q.1 = ⟨2, 2, 1, []⟩ := (List.cons.inj (hq.trans (by rfl) : [q.1] = [⟨2, 2, 1, []⟩])).1
    obtain ⟨ad, ha, _, hcell⟩ := hu.rdS_own.elem (j := 0) (q := q) pktV_len rfl (by decide)
    have h0 : ad.add (0 * 4) = (ad.add (0 * 4)).add 0 := by
      rcases hu.ownS_open with ⟨hx, _⟩ | ⟨g, rest, hx, _⟩ <;> rw [hx] at ha
      · cases ha
      · injection ha with ha; subst ha; rfl
    have hrd := hcell 0 (.int .i64 2) (by show some (Value.int .i64 q.1.id) = _; rw [hq1]) rfl
    rw [← h0] at hrd
    exact ⟨by decide, by decide, ad, ha, 2, hrd, k _ hu.drop.drop.drop.drop⟩

theorem none_walk {a b : Int} {x : Option Addr} {l c : Nat} (h : St E L w) (k : ∀ w', St E L w' → R (.returned (.bool true)) w') :
    Calls Try.prog 11 #[.int .i64 a, .int .i64 b, .slice x l c] w R := by
  refine C_law04_FlightNone ?_
  unfold T_law04_FlightNone
  refine send_nil ⟨_, _, rfl, take_nil h fun w9 h9 => ⟨_, _, _, _, _, _, _, rfl, ?_⟩⟩
  intro w15
  have h15 := h9.alloc (.cells #[.int .i64 0, .int .i64 0, .int .i64 0, .slice none 0 0] 41)
  refine ⟨rfl, wrOk_agg h15.at_blk (by simp) (by decide), ?_⟩
  intro w16
  have h16 := h15.wr_agg0 (xs := [.int .i64 0, .int .i64 0, .int .i64 0, .slice none 0 0]) rfl
  refine double_nil ⟨_, _, rfl, tick_nil ⟨_, _, rfl, live_spec h16 fun w26 h26 => ⟨_, rfl, ?_⟩⟩⟩
  refine part_nil h26 fun w29 h29 => ⟨_, rfl, heal_nil ⟨_, rfl, parted_nil ⟨_, rfl, len_nil ⟨_, rfl, under_nil ⟨_, _, _, rfl, now_nil ⟨_, rfl, fork_nil ⟨_, rfl, ?_⟩⟩⟩⟩⟩⟩⟩
  exact k _ h29.drop
/-- As the row's frame asks for it. -/
theorem law_of {f : FuncId} {args : Array Value} {W : World} (h : ∀ R : Ending → World → Prop, (∀ w' L, St W (old W :: L) w' → R (.returned (.bool true)) w') → Calls Try.prog f args W R) :
    Calls Try.prog f args W fun e w' => e = .returned (.bool true) ∧ RowKit.Below W.heap.size W w' := h _ fun _ _ hw => ⟨rfl, hw.below⟩
end
end Go.Vc
