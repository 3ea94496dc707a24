/-
  A law's frame: from the world as it was to the world as it came out; bytes and strings.
-/
import Derived.Test.YtilhnmncbpnfjaaVcMap
import Derived.Below
import Derived.Laws.BytesString
import Derived.Laws.Strings
namespace Go.Vc
open Go Go.RowKit

theorem St.start (w : World) : St w [old w] w := by
  refine ⟨.refl w, fun b => (w.heap[b]?).map fun o => (false, o), ⟨fun b => (w.heap[b]?).map fun o => (false, o), fun _ => none, fun _ => .inr (.inl rfl), ?_, fun b o hb => ⟨false, by simp [hb]⟩, trivial⟩, fun b f o hb => ?_⟩
  · funext b
    unfold un
    cases hw : w.heap[b]? <;> simp [hw]
  · cases hw : w.heap[b]? <;> simp [hw] at hb
    rw [← hb.2]
theorem St.below {w w' : World} {L : List Asrt} (h : St w (old w :: L) w') : Below w.heap.size w w' := by
  have hat : ∀ k, k < w.heap.size → w'.heap[k]? = w.heap[k]? := fun k hk => by
    rw [Array.getElem?_eq_getElem hk]
    exact h.at_old (Array.getElem?_eq_getElem hk)
  refine ⟨h.1.os, h.1.tape, h.1.output, ?_, hat⟩
  rcases Nat.eq_zero_or_pos w.heap.size with h0 | h0
  · omega
  · have h1 := h.at_old (Array.getElem?_eq_getElem (show w.heap.size - 1 < w.heap.size by omega))
    have := (Array.getElem?_eq_some_iff.1 h1).1
    omega

section
variable {P : Program} {E w : World} {L : List Asrt} {t e g : TypeId}
/-- '[]byte(x)' of a slice of bytes made from a constant's letters: the same cells, marked. -/
theorem convert_bytes (ht : P.underlying t = some (.slice e)) (he : P.underlying e = some (.int .u8)) {b l c : Nat} {cells : List Value} (h : St E (blkL b g cells :: L) w) (hl : cells.length = l) :
    ∃ w', (convert t t (.slice (some ⟨b, 0, none⟩) l c)).run P w = .ok (.slice (some ⟨b, 0, none⟩) l c) w' ∧ St E (roS (some ⟨b, 0, none⟩) l 1 cells :: L) w' := by
  have hb := h.at_blk
  have hlt : b < w.heap.size := (Array.getElem?_eq_some_iff.1 hb).1
  refine ⟨w.freeze ⟨b, cells.length, none⟩ 1, ?_, ?_⟩
  · simp [convert, run_underlying_ ht, run_underlying_ he, markStringish, shape, Sem.run, World.shape?, hb]
  · have h2 : St E (blk b (.cells ⟨cells⟩ g (cells.length, cells.length + 1)) :: L) (w.freeze ⟨b, cells.length, none⟩ 1) := by
      refine h.upd ⟨rfl, rfl, rfl⟩ ?_ fun c hc _ => ?_
      · simp [World.freeze, Array.getElem?_modify, hb]
      · unfold World.freeze
        rw [if_neg (by omega)]
        show (w.heap.modify b _)[c]? = _
        rw [Array.getElem?_modify, if_neg (Ne.symm hc)]
    exact h2.mono fun x hx => ⟨by simp [hl], .inr ⟨b, 0, cells, g, _, true, rfl, hx, fun i u hu => by simpa using hu⟩⟩

theorem foldl_push (bs : List UInt8) : ∀ (acc : ByteArray), (bs.map fun b => (b.toNat : Int)).foldl (fun (r : ByteArray) (n : Int) => r.push (UInt8.ofNat n.toNat)) acc = ⟨acc.data ++ bs.toArray⟩ := by
  induction bs with
  | nil => intro acc; simp
  | cons b r ih =>
    intro acc
    simp only [List.map_cons, List.foldl_cons, ih]
    congr 1
    simp [ByteArray.push]
/-- 'string(x)' of bytes. -/
theorem convert_string (ht : P.underlying t = some (.slice e)) (he : P.underlying e = some (.int .u8)) (hs : P.underlying g = some .string) {a : Option Addr} {l c : Nat} {bs : List UInt8} (h : RdS w a l 1 (bs.map fun b => .int .u8 (b.toNat : Int))) :
    (convert t g (.slice a l c)).run P w = .ok (.string ⟨bs.toArray⟩) w := by
  have hlen : bs.length = l := by have := h.1; simpa using this
  cases a with
  | none =>
    have hl0 : l = 0 := by
      rcases Nat.eq_zero_or_pos l with h0 | h0
      · exact h0
      · obtain ⟨ad, ha, _⟩ := h.cells h0; cases ha
    subst hl0
    have hbs : bs = [] := List.eq_nil_of_length_eq_zero hlen
    subst hbs
    simp [convert, run_underlying_ ht, run_underlying_ he, run_underlying_ hs, Conv.bytesToString]
    rfl
  | some ad =>
    have hld : (loadCells ad l).run P w = .ok ((bs.map fun b => (b.toNat : Int)).map (Value.int .u8)).toArray w := by
      have h1 : (bs.map fun b => Value.int .u8 (b.toNat : Int)).length = l := by simpa using hlen
      rw [List.map_map, ← h1]
      refine run_loadCells_list w ad _ fun j v hv => ?_
      rcases Nat.eq_zero_or_pos l with h0 | h0
      · simp [h0] at h1; simp [h1] at hv
      · obtain ⟨ad', ha', _, hcc⟩ := h.cells h0
        injection ha' with ha'; subst ha'
        exact hcc j v hv
    have := run_bytesToString w ad l c (bs.map fun b => (b.toNat : Int)) hld
    rw [foldl_push] at this
    simp [convert, run_underlying_ ht, run_underlying_ he, run_underlying_ hs, this]
theorem toList_mk (bs : List UInt8) : (⟨bs.toArray⟩ : ByteArray).toList = bs := by
  rw [ByteArray.toList_eq]
end
end Go.Vc
