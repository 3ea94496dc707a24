/-
  A law's frame: from the world as it was to the world as it came out; bytes and strings.
-/
import Derived.Test.YtcpmfjclkdjfmaaGreatVcMap
import Derived.Below
import Derived.Laws.BytesString
import Derived.Laws.Strings
import Derived.ChangeSlices
namespace Go.Vc
open Go Go.RowKit

theorem St.start (w : World) : St w [old w] w := by
  refine ⟨.refl w, fun b => (w.heap[b]?).map fun o => (false, o), ⟨fun b => (w.heap[b]?).map fun o => (false, o), fun _ => none, fun _ => .inr (.inl rfl), ?_, fun b o hb => ⟨false, by simp [hb]⟩, trivial⟩, fun b f o hb => ?_⟩
  · funext b
    unfold un
    cases hw : w.heap[b]? <;> simp [hw]
  · cases hw : w.heap[b]? <;> simp [hw] at hb
    rw [← hb.2]
theorem St.below {w w' : World} {L : List Asrt} (h : St w (old w :: L) w') : Below w.heap.size w w' := by
  have hat : ∀ k, k < w.heap.size → w'.heap[k]? = w.heap[k]? := fun k hk => by
    rw [Array.getElem?_eq_getElem hk]
    exact h.at_old (Array.getElem?_eq_getElem hk)
  refine ⟨h.1.os, h.1.tape, h.1.output, ?_, hat⟩
  rcases Nat.eq_zero_or_pos w.heap.size with h0 | h0
  · omega
  · have h1 := h.at_old (Array.getElem?_eq_getElem (show w.heap.size - 1 < w.heap.size by omega))
    have := (Array.getElem?_eq_some_iff.1 h1).1
    omega

section
variable {P : Program} {E w : World} {L : List Asrt} {t e g : TypeId}
/-- '[]byte(x)' of a slice of bytes made from a constant's letters: the same cells, marked. -/
theorem convert_bytes (ht : P.underlying t = some (.slice e)) (he : P.underlying e = some (.int .u8)) {b l c : Nat} {cells : List Value} (h : St E (blkL b g cells :: L) w) (hl : cells.length = l) :
    ∃ w', (convert t t (.slice (some ⟨b, 0, none⟩) l c)).run P w = .ok (.slice (some ⟨b, 0, none⟩) l c) w' ∧ St E (roS (some ⟨b, 0, none⟩) l 1 cells :: L) w' := by
  have hb := h.at_blk
  have hlt : b < w.heap.size := (Array.getElem?_eq_some_iff.1 hb).1
  refine ⟨w.freeze ⟨b, cells.length, none⟩ 1, ?_, ?_⟩
  · simp [convert, run_underlying_ ht, run_underlying_ he, markStringish, shape, Sem.run, World.shape?, hb]
  · have h2 : St E (blk b (.cells ⟨cells⟩ g (cells.length, cells.length + 1)) :: L) (w.freeze ⟨b, cells.length, none⟩ 1) := by
      refine h.upd ⟨rfl, rfl, rfl⟩ ?_ fun c hc _ => ?_
      · simp [World.freeze, Array.getElem?_modify, hb]
      · unfold World.freeze
        rw [if_neg (by omega)]
        show (w.heap.modify b _)[c]? = _
        rw [Array.getElem?_modify, if_neg (Ne.symm hc)]
    exact h2.mono fun x hx => ⟨by simp [hl], .inr ⟨b, 0, cells, g, _, true, rfl, hx, fun i u hu => by simpa using hu⟩⟩

theorem foldl_push (bs : List UInt8) : ∀ (acc : ByteArray), (bs.map fun b => (b.toNat : Int)).foldl (fun (r : ByteArray) (n : Int) => r.push (UInt8.ofNat n.toNat)) acc = ⟨acc.data ++ bs.toArray⟩ := by
  induction bs with
  | nil => intro acc; simp
  | cons b r ih =>
    intro acc
    simp only [List.map_cons, List.foldl_cons, ih]
    congr 1
    simp [ByteArray.push]
/-- 'string(x)' of bytes. -/
theorem convert_string (ht : P.underlying t = some (.slice e)) (he : P.underlying e = some (.int .u8)) (hs : P.underlying g = some .string) {a : Option Addr} {l c : Nat} {bs : List UInt8} (h : RdS w a l 1 (bs.map fun b => .int .u8 (b.toNat : Int))) :
    (convert t g (.slice a l c)).run P w = .ok (.string ⟨bs.toArray⟩) w := by
  have hlen : bs.length = l := by have := h.1; simpa using this
  cases a with
  | none =>
    have hl0 : l = 0 := by
      rcases Nat.eq_zero_or_pos l with h0 | h0
      · exact h0
      · obtain ⟨ad, ha, _⟩ := h.cells h0; cases ha
    subst hl0
    have hbs : bs = [] := List.eq_nil_of_length_eq_zero hlen
    subst hbs
    simp [convert, run_underlying_ ht, run_underlying_ he, run_underlying_ hs, Conv.bytesToString]
    rfl
  | some ad =>
    have hld : (loadCells ad l).run P w = .ok ((bs.map fun b => (b.toNat : Int)).map (Value.int .u8)).toArray w := by
      have h1 : (bs.map fun b => Value.int .u8 (b.toNat : Int)).length = l := by simpa using hlen
      rw [List.map_map, ← h1]
      refine run_loadCells_list w ad _ fun j v hv => ?_
      rcases Nat.eq_zero_or_pos l with h0 | h0
      · simp [h0] at h1; simp [h1] at hv
      · obtain ⟨ad', ha', _, hcc⟩ := h.cells h0
        injection ha' with ha'; subst ha'
        exact hcc j v hv
    have := run_bytesToString w ad l c (bs.map fun b => (b.toNat : Int)) hld
    rw [foldl_push] at this
    simp [convert, run_underlying_ ht, run_underlying_ he, run_underlying_ hs, this]
theorem toList_mk (bs : List UInt8) : (⟨bs.toArray⟩ : ByteArray).toList = bs := by
  rw [ByteArray.toList_eq]
end

/-! ### what came in: slices -/
section
variable {H : Type} {enc : TypeId × Value → H} {P : Program} {W : World} {t e : TypeId} {a : Option Addr} {l c sz : Nat}
theorem rdS_of {xs : List Value} (hz : xs.length = l * sz) (hs : 0 < sz) (h : l = 0 ∨ ∃ ad, a = some ad ∧ ∀ i u, xs[i]? = some u → W.cell? (ad.add i) = some u) : RdS W a l sz xs := by
  refine ⟨hz, ?_⟩
  rcases Nat.eq_zero_or_pos l with h0 | h0
  · exact .inl h0
  · rcases h with h | ⟨ad, ha, hc⟩
    · omega
    · have hlt : 0 < xs.length := by rw [hz]; exact Nat.mul_pos h0 hs
      obtain ⟨g, off, spot⟩ := ad
      have h1 := hc 0 xs[0] (List.getElem?_eq_getElem hlt)
      have hspot : spot = none := by simpa [Addr.add] using World.cell?_spot h1
      subst hspot
      exact .inr ⟨g, off, ha, fun i u hu => by rw [← add_mk]; exact hc i u hu⟩
/-- A slice that came in, its elements by whatever reads them. -/
theorem open_elems {β : Type} {f : β → List Value} (good : β → Prop) (hf : ∀ b, (f b).length = sz) (h0 : 0 < sz) (ht : P.underlying t = some (.slice e)) (hc : P.cellsOf e = sz)
    (he : ∀ n cs x, DataW.trod enc P W 0 (fun _ => true) true n e cs = some x → ∃ b, cs = f b ∧ good b)
    {fuel : Nat} {x : DataW H × List MemPlace} (h : DataW.trod enc P W 0 (fun _ => true) true fuel t [.slice a l c] = some x) :
    ∃ bs : List β, RdS W a l sz (bs.flatMap f) ∧ l ≤ maxLen ∧ ∀ b ∈ bs, good b := by
  rcases DataW.trod_slice ht h with ⟨hcs, _⟩ | ⟨ad, len, cap, elems, rest, n, _, hcs, _, _, hl, hm, hlen, hel, _⟩
  · simp at hcs
    obtain ⟨rfl, rfl, rfl⟩ := hcs
    exact ⟨[], RdS.nil _ _, Nat.zero_le _, fun b hb => by simp at hb⟩
  · simp at hcs
    obtain ⟨rfl, rfl, rfl⟩ := hcs
    rw [hc] at hel
    have one : ∀ i, i < l → ∃ b, good b ∧ ∀ j u, (f b)[j]? = some u → W.cell? ((ad.add (i * sz)).add j) = some u := by
      intro i hi
      have h1 := hel i hi
      rw [List.getElem?_eq_getElem (by omega), Option.bind_eq_some_iff] at h1
      obtain ⟨cs, h2, h3⟩ := h1
      obtain ⟨b, rfl, hg⟩ := he _ _ _ h3
      refine ⟨b, hg, fun j u hu => ?_⟩
      unfold World.cells? at h2
      rw [if_pos (Nat.zero_le _)] at h2
      have hj : j < sz := by rw [← hf b]; exact (List.getElem?_eq_some_iff.1 hu).1
      have := mapM_some_get h2 j j (by simp [hj])
      rw [this, hu]
    have all : ∀ m, m ≤ l → ∃ bs : List β, bs.length = m ∧ (∀ b ∈ bs, good b) ∧ ∀ i b, bs[i]? = some b → ∀ j u, (f b)[j]? = some u → W.cell? ((ad.add (i * sz)).add j) = some u := by
      intro m
      induction m with
      | zero => intro _; exact ⟨[], rfl, fun b hb => by simp at hb, fun i b hb => by simp at hb⟩
      | succ m ih =>
        intro hml
        obtain ⟨bs, h1, h2, h3⟩ := ih (by omega)
        obtain ⟨b, g1, g2⟩ := one m (by omega)
        refine ⟨bs ++ [b], by simp [h1], fun x hx => ?_, fun i x hx => ?_⟩
        · rcases List.mem_append.1 hx with hx | hx
          · exact h2 x hx
          · simp at hx; subst hx; exact g1
        · rw [List.getElem?_append] at hx
          split at hx
          · exact h3 i x hx
          · have hi : i = m := by
              have := (List.getElem?_eq_some_iff.1 hx).1
              simp at this; omega
            subst hi
            rw [h1, Nat.sub_self] at hx
            simp at hx; subst hx; exact g2
    obtain ⟨bs, h1, h2, h3⟩ := all l (Nat.le_refl _)
    refine ⟨bs, ?_, by omega, h2⟩
    rcases Nat.eq_zero_or_pos l with hl0 | hl0
    · subst hl0
      have : bs = [] := List.eq_nil_of_length_eq_zero h1
      subst this
      exact ⟨by simp, .inl rfl⟩
    · -- the first cell tells the address's make
      obtain ⟨g, off, spot⟩ := ad
      have hb0 : bs[0]? = some bs[0] := List.getElem?_eq_getElem (by omega)
      have hc0 := h3 0 bs[0] hb0 0 ((f bs[0])[0]'(by rw [hf]; exact h0)) (List.getElem?_eq_getElem _)
      have hspot : spot = none := by simpa [Addr.add] using World.cell?_spot hc0
      subst hspot
      refine ⟨by rw [flat_len hf, h1], .inr ⟨g, off, rfl, fun i u hu => ?_⟩⟩
      have hi : i < l * sz := by have := (List.getElem?_eq_some_iff.1 hu).1; rwa [flat_len hf, h1] at this
      have hq : i / sz < bs.length := by rw [h1]; exact Nat.div_lt_of_lt_mul (by rw [Nat.mul_comm]; exact hi)
      have hm2 : i % sz < sz := Nat.mod_lt _ h0
      have e1 : i / sz * sz + i % sz = i := by rw [Nat.mul_comm]; exact Nat.div_add_mod i sz
      have e2 := flat_get hf bs (i / sz) (i % sz) bs[i / sz] (List.getElem?_eq_getElem hq) hm2
      rw [e1, hu] at e2
      have := h3 (i / sz) bs[i / sz] (List.getElem?_eq_getElem hq) (i % sz) u e2.symm
      rw [add_mk, add_mk, Nat.add_assoc, e1] at this
      exact this
theorem open_bytes (ht : P.underlying t = some (.slice e)) (he : P.underlying e = some (.int .u8)) (hc : P.cellsOf e = 1)
    {fuel : Nat} {x : DataW H × List MemPlace} (h : DataW.trod enc P W 0 (fun _ => true) true fuel t [.slice a l c] = some x) :
    ∃ bs : List UInt8, RdS W a l 1 (bs.map fun b => .int .u8 (b.toNat : Int)) ∧ l ≤ maxLen := by
  obtain ⟨bs, h1, h2, _⟩ := open_elems (β := UInt8) (f := fun b => [.int .u8 (b.toNat : Int)]) (fun _ => True) (fun _ => rfl) (by decide) ht hc (fun n cs x hx => by
    obtain ⟨k, rfl, _, hw⟩ := DataW.trod_int he hx
    refine ⟨UInt8.ofNat k.toNat, ?_, trivial⟩
    simp [Lit.wf, IntKind.min, IntKind.max, IntKind.signed, IntKind.bits] at hw
    congr 2
    simp
    omega) h
  refine ⟨bs, ?_, h2⟩
  have e : ∀ (bs : List UInt8), bs.flatMap (fun b => [Value.int .u8 (b.toNat : Int)]) = bs.map fun b => .int .u8 (b.toNat : Int) := by
    intro bs; induction bs with
    | nil => rfl
    | cons b r ih => simp [ih]
  rw [← e]; exact h1
end
end Go.Vc
