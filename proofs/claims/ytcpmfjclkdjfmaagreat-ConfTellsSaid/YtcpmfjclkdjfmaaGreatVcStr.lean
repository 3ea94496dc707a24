/-
  A text appended to bytes of ours; byte rows.
-/
import Derived.Test.YtcpmfjclkdjfmaaGreatVcFz
namespace Go.Vc
open Go Go.RowKit

def bytesV (l : List UInt8) : List Value := l.map fun b => .int .u8 (b.toNat : Int)
theorem bytesV_len (l : List UInt8) : (bytesV l).length = l.length := by simp [bytesV]
theorem bytesV_one (l : List UInt8) : ∀ u ∈ bytesV l, one u = true := by
  intro u hu
  obtain ⟨b, _, rfl⟩ := List.mem_map.1 hu
  rfl
theorem bytesV_app (a b : List UInt8) : bytesV (a ++ b) = bytesV a ++ bytesV b := List.map_append
theorem bytesV_inj {a b : List UInt8} (h : bytesV a = bytesV b) : a = b := by
  unfold bytesV at h
  refine List.map_inj_right (fun x y hxy => ?_) |>.1 h
  simp only [Value.int.injEq, true_and] at hxy
  exact UInt8.toNat_inj.1 (by exact_mod_cast hxy)
section
variable {P : Program} {E w : World} {L : List Asrt} {t u ty e : TypeId} {i : TypeInfo} {z : Value}
theorem str_cells (s : ByteArray) : (s.data.map fun b => Value.int .u8 (b.toNat : Int)) = (bytesV s.data.toList).toArray := by
  apply Array.ext'; simp [bytesV]
theorem run_first_str (s : ByteArray) (n : Nat) (w : World) : (Builtin.firstCells n s.size (.string s)).run P w = .ok (bytesV s.data.toList).toArray w := by
  have hx : (s.extract 0 s.size).data = s.data := by
    simp
  show (Sem.pure ((s.extract 0 s.size).data.map fun b => Value.int .u8 (b.toNat : Int))).run P w = _
  rw [hx, str_cells]; rfl
theorem append_str (ht : P.underlying t = some (.slice e)) (hu : P.underlying u = some .string) (hi : P.info? e = some i) (hz : i.zero = some z) (hzs : z.cells.size = 1) (hs1 : i.size = 1) (hb1 : i.bytes = 1)
    {a : Option Addr} {l c : Nat} {xs : List Value} {s : ByteArray} (h : St E (ownS a l c e 1 xs :: L) w) (hb : l + s.size ≤ 140737488355328) :
    ∃ a' c' w', (Builtin.append_ #[t, u] ty #[.slice a l c, .string s]).run P w = .ok (.slice a' (l + s.size) c') w' ∧ St E (ownS a' (l + s.size) c' e 1 (xs ++ bytesV s.data.toList) :: L) w' := by
  have hf := h.ownS_facts
  have hsz : (bytesV s.data.toList).length = s.size := by rw [bytesV_len]; simp
  rcases Nat.eq_zero_or_pos s.size with h0 | h0
  · have hnil : bytesV s.data.toList = [] := List.eq_nil_of_length_eq_zero (by rw [hsz]; exact h0)
    have hfc := run_first_str (P := P) s i.size w
    rw [hnil] at hfc
    refine ⟨a, c, w, ?_, by rw [hnil, h0]; simpa using h⟩
    rw [h0]
    rw [h0] at hfc
    cases a with
    | none => simp [Builtin.append_, run_underlying_ ht, run_underlying_ hu, sizeOf, typeInfo, hi, Builtin.lenOf, h0, hfc, hf.2.1]
    | some ad => simp [Builtin.append_, run_underlying_ ht, run_underlying_ hu, sizeOf, typeInfo, hi, Builtin.lenOf, h0, hfc, hf.2.1, storeCells]
  · have hm : maxLen = 140737488355328 ∨ 140737488355328 ≤ maxLen := by unfold maxLen; omega
    have fin : ∀ (cap : Nat), l + s.size ≤ cap → cap ≤ maxLen → ∀ (w' : World), w' = w.drew.alloc (.cells ((xs ++ bytesV s.data.toList) ++ (Builtin.zeroCells z.cells (cap - (l + s.size))).toList).toArray e) →
        St E (ownS (some ⟨w.heap.size, 0, none⟩) (l + s.size) cap e 1 (xs ++ bytesV s.data.toList) :: L) w' := fun cap hc hcm w' hw => by
      subst hw
      have h1 := (h.drop.drew).alloc (.cells ((xs ++ bytesV s.data.toList) ++ (Builtin.zeroCells z.cells (cap - (l + s.size))).toList).toArray e)
      exact h1.ownS_mk (by rw [List.length_append, hsz, hf.1]; omega) hc hcm (by simp [Builtin.zeroCells, hzs])
    rcases h.ownS_open with ⟨rfl, rfl, rfl, rfl⟩ | ⟨g, rest, rfl, hr, hs⟩
    · have hrun := run_append_nil_string (P := P) w t u ty e i z ht hu hi hz s h0 (by omega) (by rw [hb1]; omega)
      refine ⟨_, _, _, by rw [Nat.zero_add]; exact hrun, ?_⟩
      have := fin (grownCap w s.size 0 e) (by rw [Nat.zero_add]; exact grownCap_ge w s.size 0 e) (grownCap_le_maxLen w s.size 0 e (by unfold maxLen; omega)) _ rfl
      rw [Nat.zero_add] at this ⊢
      refine Eq.mp ?_ this
      congr 3
      apply Array.ext'
      simp [str_cells]
    · by_cases hroom : l + s.size ≤ c
      · have hst := run_storeCells (P := P) ⟨g, l, none⟩ (bytesV s.data.toList) 0 w fun j v hv => by
          have hj := (List.getElem?_eq_some_iff.1 hv).1
          rw [Nat.zero_add, add_mk]
          exact ⟨bytesV_one _ v (List.mem_of_getElem? hv), ⟨_, (cell_of hs.at_blk _).trans (List.getElem?_eq_getElem (by rw [List.length_append, hf.1, hr]; rw [hsz] at hj; omega))⟩, frozen_of hs.at_blk _⟩
        have hfc := run_first_str (P := P) s i.size w
        rw [hs1] at hfc
        refine ⟨some ⟨g, 0, none⟩, c, wr w ⟨g, l, none⟩ (.agg ⟨bytesV s.data.toList⟩), ?_, ?_⟩
        · rw [wr_agg_of]
          simp [Builtin.append_, run_underlying_ ht, run_underlying_ hu, sizeOf, typeInfo, hi, Builtin.lenOf, hroom, hfc, add_mk, hs1, hst]
        · have := hs.wr_agg (off := l) (xs := bytesV s.data.toList) (by rw [List.length_append, hf.1, hr, hsz]; omega)
          rw [List.take_append_of_le_length (by rw [hf.1]; omega), List.take_of_length_le (by rw [hf.1]; omega), List.drop_append, List.drop_of_length_le (by rw [hf.1]; omega), List.nil_append] at this
          refine this.ownS_mk (by rw [List.length_append, hsz, hf.1]; omega) hroom hf.2.2 ?_
          rw [List.length_drop, hr, hsz, hf.1]; omega
      · have hn : ¬ (l + s.size ≤ c) := hroom
        have h63' : ¬ (9223372036854775807 < ((l : Int) + (s.size : Int))) := by omega
        have hfit := growslice_fits (need := l + s.size) (old := c) (bytes := i.bytes) (by omega) (by rw [hb1]; omega)
        have h48' : ¬ (281474976710656 < Builtin.nextslicecap (l + s.size) c * i.bytes) := by omega
        have hfc := run_first_str (P := P) s i.size w.drew
        have hfo := run_firstCells_some (P := P) w.drew i.size l ⟨g, 0, none⟩ l c xs (by rw [hs1]; exact hf.1) (fun j v hv => by
          rw [add_mk, Nat.zero_add]
          exact (cell_of (w := w.drew) hs.at_blk j).trans (by rw [List.getElem?_append_left (List.getElem?_eq_some_iff.1 hv).1]; exact hv))
        refine ⟨some ⟨w.heap.size, 0, none⟩, grownCap w (l + s.size) c e, w.drew.alloc (.cells (xs.toArray ++ (bytesV s.data.toList).toArray ++ Builtin.zeroCells z.cells (grownCap w (l + s.size) c e - (l + s.size))) e), ?_, ?_⟩
        · simp [Builtin.append_, run_underlying_ ht, run_underlying_ hu, sizeOf, typeInfo, zeroValue, hi, hz, Builtin.lenOf, hn, h63', h48', Question.forced, hfc, hfo, newRow, grownCap]
          congr 2
          apply Array.ext'
          simp [List.append_assoc]
        · refine fin _ (grownCap_ge w (l + s.size) c e) (grownCap_le_maxLen w _ _ e (by unfold maxLen; omega)) _ ?_
          congr 2
          apply Array.ext'
          simp
end
end Go.Vc
