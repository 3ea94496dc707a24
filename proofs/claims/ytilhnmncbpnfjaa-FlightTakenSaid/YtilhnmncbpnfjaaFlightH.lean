/-
  The law FlightClocks: its walk.
-/
import Derived.Test.YtilhnmncbpnfjaaFlightG
import Derived.ChangeSlices
import Derived.Carry
namespace Go.Vc
open Go Go.Proofs Go.Proofs.Ytilhnmncbpnfjaa

section
variable {E w : World} {L : List Asrt} {p : Nat} {N : Net} {R : Ending → World → Prop}

theorem sees_old {W : World} {a : Option Addr} {l sz : Nat} {xs : List Value} (h : RdS W a l sz xs) : Sees W [old W] a l sz xs := fun w hw => by
  refine ⟨h.1, h.2.imp id fun ⟨g, off, ha, hc⟩ => ⟨g, off, ha, fun i u hu => ?_⟩⟩
  have := hc i u hu
  unfold World.cell? at this ⊢
  cases hb : W.heap[g]? with
  | none => simp [hb] at this
  | some o => rw [hb] at this; rw [hw.at_old hb]; exact this
theorem Sees.has {E : World} {L : List Asrt} {a : Option Addr} {l sz : Nat} {xs : List Value} (h : Sees E L a l sz xs) : ∀ (L' : List Asrt), Sees E (L' ++ L) a l sz xs
  | [] => h
  | A :: L' => (h.has L').more A

def clk (cs : List Int) : Net := { N0 with clocks := cs }
theorem clk_ok {cs : List Int} (h : ∀ c ∈ cs, 0 ≤ c ∧ c ≤ 100000) : okN (clk cs) := by
  refine ⟨(by decide : (0 : Nat) ≤ 128), fun q hq => ?_, (by decide : (0 : Int) ≤ 0), (by decide : (0 : Int) ≤ 100000), h⟩
  simp [clk, N0] at hq

theorem int_at {a : Option Addr} {l : Nat} {zs : List Int} (h : RdS w a l 1 (zs.map vvI)) {i : Nat} (hi : i < zs.length) : ∃ ad, a = some ad ∧ rd w (ad.add ((i : Int).toNat * 1)) (.int .i64 zs[i]) := by
  have hl : zs.length = l := by have := h.1; simpa using this
  obtain ⟨ad, ha, _⟩ := h.cells (by omega)
  refine ⟨ad, ha, ?_⟩
  rw [Int.toNat_natCast, Nat.mul_one]
  exact h.rd_cell ha (by omega) (by simp [hi, vvI]) rfl
theorem count_at {cb t : Nat} {cs : List Int} (h : St E (blkL cb t (cs.map vvI) :: L) w) {x : Int} (hx : x.toNat < cs.length) : rd w ((⟨cb, 0, none⟩ : Addr).add (x.toNat * 1)) (.int .i64 (cs.getD x.toNat 0)) := by
  rw [Nat.mul_one]
  exact rd_fld h.at_blk (by simp [hx, vvI, List.getD]) rfl

set_option maxRecDepth 100000 in
theorem clocks_walk {a : Option Addr} {l c : Nat} {zs : List Int} (h : St E L w) (hs : Sees E L a l 1 (zs.map vvI)) (k : ∀ w' L', St E (L' ++ L) w' → R (.returned (.bool true)) w') :
    Calls Try.prog 3 #[.slice a l c] w R := by
  have hl : zs.length = l := by have := (hs w h).1; simpa using this
  refine C_law04_FlightClocks ?_
  unfold T_law04_FlightClocks
  refine new_spec h fun w3 p h3 => ⟨_, rfl, ?_⟩
  intro w5
  have h5 : St E (blkL w3.heap.size 25 (N0.clocks.map vvI) :: netA p N0 :: L) w5 := h3.alloc (.cells #[.int .i64 0, .int .i64 0, .int .i64 0, .int .i64 0, .int .i64 0, .int .i64 0, .int .i64 0, .int .i64 0, .int .i64 0, .int .i64 0] 25)
  generalize w3.heap.size = cb at h5 ⊢
  clear_value w5
  -- the second loop and what follows
  have tail : ∀ (w : World) (cs : List Int), cs.length = 10 → (∀ c ∈ cs, 0 ≤ c ∧ c ≤ 100000) → St E (blkL cb 25 (cs.map vvI) :: netA p (clk cs) :: L) w →
      T_law04_FlightClocks_5 1 (some ⟨p, 0, none⟩) (⟨cb, 0, none⟩ : Addr) w (fun w65 => Calls Try.prog 15 #[] w65 (ret (fun r66 w67 => ∃ b68 : Bool, r66 = .bool b68 ∧ if b68 = true then (Calls Try.prog 14 #[.pointer (some ⟨p, 0, none⟩), .int .i64 0] w67 (ret (fun r69 w70 => ∃ x71 : Int, r69 = .int .i64 x71 ∧ if ((x71 : Int) == 0) = true then (Calls Try.prog 14 #[.pointer (some ⟨p, 0, none⟩), .int .i64 10] w70 (ret (fun r72 w73 => ∃ x74 : Int, r72 = .int .i64 x74 ∧ R (.returned (.bool ((x74 : Int) == 0))) w73) (pan R))) else (R (.returned (.bool false)) w70)) (pan R))) else (R (.returned (.bool false)) w67)) (pan R))) (fun b75 w76 => R (.returned (.bool b75)) w76) (pan R) := by
    intro w cs hlen hc h
    unfold T_law04_FlightClocks_5
    intro X hX
    have go : ∀ (n i : Nat) (w : World), n = 10 - i → 1 ≤ i → i ≤ 10 → St E (blkL cb 25 (cs.map vvI) :: netA p (clk cs) :: L) w → X (i : Int) w := by
      intro n
      induction n with
      | zero =>
        intro i w hn h1 hi h
        refine hX _ _ ?_
        unfold T_law04_FlightClocks_5_body
        refine ite_d (fun hh => absurd hh (by omega)) (fun _ => ?_)
        refine live_spec h fun w67 h67 => ⟨_, rfl, ?_⟩
        refine now_spec h67.f1 ⟨_, rfl, ?_⟩
        refine now_spec h67.f1 ⟨_, rfl, ?_⟩
        exact k _ [_, _] h67
      | succ n ih =>
        intro i w hn h1 hi h
        refine hX _ _ ?_
        unfold T_law04_FlightClocks_5_body
        refine ite_d (fun _ => ?_) (fun hh => absurd hh (by omega))
        intro w56
        have h56 := h.drew
        have hrd := count_at h56 (x := (i : Int)) (by omega)
        refine ⟨by omega, by omega, _, hrd, now_spec h56.f1 ⟨_, rfl, ⟨hrd, trivial⟩, ?_⟩⟩
        have e : nNow (clk cs) (i : Int) = cs.getD (i : Int).toNat 0 := by
          unfold nNow
          rw [if_neg (by simp [isNode]; omega)]
          rfl
        rw [e, if_neg (by simp), wrap_id (by omega) (by omega)]
        have := ih (i + 1) _ (by omega) (by omega) (by omega) h56
        exact_mod_cast this
    exact go 9 1 w rfl (by omega) (by omega) h
  unfold T_law04_FlightClocks_1
  intro X hX
  have go : ∀ (n i : Nat) (cs : List Int) (w : World), n = l - i → i ≤ l → i ≤ 2000 → cs.length = 10 → (∀ c ∈ cs, 0 ≤ c ∧ c ≤ i) → St E (blkL cb 25 (cs.map vvI) :: netA p (clk cs) :: L) w → X (i : Int) w := by
    intro n
    induction n with
    | zero =>
      intro i cs w hn hi hi2 hlen hc h
      refine hX _ _ ?_
      unfold T_law04_FlightClocks_1_body T_law04_FlightClocks_2
      refine ite_d (fun hh => absurd hh (by omega)) (fun _ => ?_)
      exact tail w cs hlen (fun c hcm => by have := hc c hcm; omega) h
    | succ n ih =>
      intro i cs w hn hi hi2 hlen hc h
      refine hX _ _ ?_
      unfold T_law04_FlightClocks_1_body T_law04_FlightClocks_2
      refine ite_d (fun _ => ?_) (fun hh => absurd hh (by omega))
      by_cases h2000 : i < 2000
      · rw [show decide ((i : Int) < 2000) = true by simp; omega]
        have hiz : i < zs.length := by omega
        obtain ⟨ad, ha, hrd⟩ := int_at (hs w h.drop.drop) hiz
        refine ⟨by omega, by omega, ad, ha, _, hrd, ?_⟩
        have hok : okN (clk cs) := clk_ok fun c hcm => by have := hc c hcm; omega
        refine tick_spec h.f1 hok fun w20 h20 => ⟨_, _, rfl, ?_⟩
        obtain ⟨ad2, ha2, hrd2⟩ := int_at (hs w20 h20.drop.drop) hiz
        unfold T_law04_FlightClocks_3
        refine ⟨by omega, by omega, ad2, ha2, _, hrd2, ?_⟩
        have next : ∀ (cs' : List Int) (w' : World), cs'.length = 10 → (∀ c ∈ cs', 0 ≤ c ∧ c ≤ (i : Int) + 1) → St E (blkL cb 25 (cs'.map vvI) :: netA p (clk cs') :: L) w' → X (IntKind.wrap .i64 ((i : Int) + 1)) w' := by
          intro cs' w' h1 h2 h3
          rw [wrap_id (by omega) (by omega)]
          have := ih (i + 1) cs' w' (by omega) (by omega) (by omega) h1 (fun c hcm => by have := h2 c hcm; push_cast; omega) h3
          exact_mod_cast this
        by_cases hx : isNode zs[i] = true
        · have hx' : 1 ≤ zs[i] ∧ zs[i] ≤ 9 := by simpa [isNode] using hx
          have e : nTick (clk cs) zs[i] = (clk (cs.set zs[i].toNat (cs.getD zs[i].toNat 0 + 1)), cs.getD zs[i].toNat 0 + 1, 0) := by
            unfold nTick
            rw [if_neg (by simp [hx])]
            rfl
          rw [e] at h20 ⊢
          refine ite_d (fun hh => absurd hh (by omega)) (fun _ => ⟨by omega, by omega, ad2, ha2, _, hrd2, ?_⟩)
          rw [show decide (zs[i] > 9) = false by simp; omega]
          have hxl : zs[i].toNat < cs.length := by omega
          have hb : 0 ≤ cs.getD zs[i].toNat 0 ∧ cs.getD zs[i].toNat 0 ≤ i := by
            refine hc _ ?_
            rw [show cs.getD zs[i].toNat 0 = cs[zs[i].toNat] by simp [List.getD, hxl]]
            exact List.getElem_mem _
          have h21 : St E (blkL cb 25 (cs.map vvI) :: netA p (clk (cs.set zs[i].toNat (cs.getD zs[i].toNat 0 + 1))) :: L) w20 := h20.f1
          refine ⟨by omega, by omega, ad2, ha2, _, hrd2, by omega, by omega, _, count_at h21 hxl, by omega, by omega, rfl, ?_⟩
          rw [wrap_id (x := cs.getD zs[i].toNat 0 + 1) (by omega) (by omega), Nat.mul_one]
          refine ⟨wrOk_fld h21.at_blk (by simpa using hxl) rfl, ?_⟩
          intro w44
          have h44 : St E (blkL cb 25 ((cs.set zs[i].toNat (cs.getD zs[i].toNat 0 + 1)).map vvI) :: netA p (clk (cs.set zs[i].toNat (cs.getD zs[i].toNat 0 + 1))) :: L) w44 := by
            have := h21.wr_fld (k := zs[i].toNat) (v := .int .i64 (cs.getD zs[i].toNat 0 + 1)) rfl
            rw [List.map_set]
            exact this
          clear_value w44
          rw [if_neg (by simp)]
          obtain ⟨ad3, ha3, hrd3⟩ := int_at (hs w44 h44.drop.drop) hiz
          have hxl2 : zs[i].toNat < (cs.set zs[i].toNat (cs.getD zs[i].toNat 0 + 1)).length := by simpa using hxl
          refine ⟨by omega, by omega, ad3, ha3, _, hrd3, by omega, by omega, cs.getD zs[i].toNat 0 + 1, ?_, ?_⟩
          · have := count_at h44 (x := zs[i]) hxl2
            rw [show (cs.set zs[i].toNat (cs.getD zs[i].toNat 0 + 1)).getD zs[i].toNat 0 = cs.getD zs[i].toNat 0 + 1 by simp [List.getD, hxl]] at this
            exact this
          · rw [if_neg (by simp)]
            refine next _ _ (by simpa using hlen) (fun c hcm => ?_) h44
            rcases List.mem_or_eq_of_mem_set hcm with hm | rfl
            · have := hc c hm; omega
            · omega
        · have hxf : isNode zs[i] = false := by simpa using hx
          have e : nTick (clk cs) zs[i] = (clk cs, 0, 2) := by
            unfold nTick
            rw [if_pos hxf]
          rw [e] at h20 ⊢
          have h21 : St E (blkL cb 25 (cs.map vvI) :: netA p (clk cs) :: L) w20 := h20.f1
          have fin := next cs w20 hlen (fun c hcm => by have := hc c hcm; omega) h21
          have hx' : ¬ (1 ≤ zs[i] ∧ zs[i] ≤ 9) := by simpa [isNode] using hxf
          refine ite_d (fun _ => fin) (fun _ => ⟨by omega, by omega, ad2, ha2, _, hrd2, ?_⟩)
          rw [show decide (zs[i] > 9) = true by simp; omega]
          exact fin
      · rw [show decide ((i : Int) < 2000) = false by simp; omega]
        exact tail w cs hlen (fun c hcm => by have := hc c hcm; omega) h
  exact go l 0 N0.clocks w5 (by omega) (by omega) (by omega) rfl (by decide) h5
theorem clocks_law {H : Type} {enc : TypeId × Value → H} {W : World} {a : Option Addr} {l c : Nat} {d : DataW H} {ps : List MemPlace} (h : DataW.Trod enc Try.prog W 0 (fun _ => true) true 22 (.slice a l c) d ps) :
    Calls Try.prog 3 #[.slice a l c] W fun e w' => e = .returned (.bool true) ∧ RowKit.Below W.heap.size W w' := by
  obtain ⟨zs, hr⟩ : ∃ zs : List Int, RdS W a l 1 (zs.map vvI) := by
    obtain ⟨fuel, hf⟩ := h
    rcases ChangeShapes.open_ints Try.underlying22 Try.underlying3 (by kernel_rfl) hf with ⟨hcs, _⟩ | ⟨x, l', c', zs, hcs, _, hl, hm, hz, _, hcell, hwz⟩
    · simp [Value.cells] at hcs
      obtain ⟨rfl, rfl, rfl⟩ := hcs
      exact ⟨[], RdS.nil _ _⟩
    · simp [Value.cells] at hcs
      obtain ⟨rfl, rfl, rfl⟩ := hcs
      have hzl : l ≤ zs.length := by simp at hz; omega
      refine ⟨zs.take l, rdS_of (by simp [hzl]) (by decide) (.inr ⟨x, rfl, fun i u hu => ?_⟩)⟩
      rw [List.getElem?_map, List.getElem?_take] at hu
      split at hu
      · rename_i hil
        have hiz : i < zs.length := by omega
        rw [List.getElem?_eq_getElem hiz] at hu
        rw [hcell i hiz]
        simp at hu
        rw [← hu]
        simp [vvI, hiz]
      · simp at hu
  exact clocks_walk (St.start W) (sees_old hr) fun w' L' h => ⟨rfl, (h.front L').below⟩
end
end Go.Vc
