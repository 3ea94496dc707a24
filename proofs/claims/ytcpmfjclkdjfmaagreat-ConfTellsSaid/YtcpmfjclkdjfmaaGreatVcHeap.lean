/-
  Rows of cells, slices: reading, writing, appending.
-/
import Derived.Test.YtcpmfjclkdjfmaaGreatVcSep
import Derived.Maps.AppendAt
namespace Go.Vc
open Go

abbrev blkL (b : Nat) (t : TypeId) (l : List Value) : Asrt := blk b (.cells ⟨l⟩ t (0, 0))
abbrev roL (b : Nat) (t : TypeId) (l : List Value) (fr : Nat × Nat) : Asrt := ro b (.cells ⟨l⟩ t fr)

theorem add_mk (b o n : Nat) : (⟨b, o, none⟩ : Addr).add n = ⟨b, o + n, none⟩ := by
  unfold Addr.add
  split
  · rename_i h; subst h; rfl
  · rfl

section
variable {E w : World} {L : List Asrt} {b t off : Nat} {l : List Value} {fr : Nat × Nat}

theorem cell_of (hb : w.heap[b]? = some (.cells ⟨l⟩ t fr)) (off : Nat) : w.cell? ⟨b, off, none⟩ = l[off]? := by
  unfold World.cell?
  rw [hb]
  simp
theorem frozen_of (hb : w.heap[b]? = some (.cells ⟨l⟩ t (0, 0))) (off : Nat) : w.frozen? ⟨b, off, none⟩ = false := by
  unfold World.frozen?
  rw [hb]
  simp
theorem cells_one {v : Value} (h : one v = true) : v.cells = #[v] := by cases v <;> first | rfl | cases h
theorem rd_cell {v : Value} (hb : w.heap[b]? = some (.cells ⟨l⟩ t fr)) (hv : l[off]? = some v) (ho : one v = true) : rd w ⟨b, off, none⟩ v := by
  intro i u hu
  rw [cells_one ho] at hu
  cases i with
  | succ i => simp at hu
  | zero =>
    simp at hu
    subst hu
    rw [add_mk, cell_of hb]
    exact hv
theorem rd_agg {xs : List Value} (hb : w.heap[b]? = some (.cells ⟨l⟩ t fr)) (hv : ∀ i u, xs[i]? = some u → l[off + i]? = some u) : rd w ⟨b, off, none⟩ (.agg ⟨xs⟩) := by
  intro i u hu
  rw [add_mk, cell_of hb]
  exact hv i u (by simpa [Value.cells] using hu)
theorem rd_inj {v v' : Value} {a : Addr} (h : rd w a v) (h' : rd w a v') (ho : one v = true) (ho' : one v' = true) : v = v' := by
  have h1 := h 0 v (by rw [cells_one ho]; rfl)
  have h2 := h' 0 v' (by rw [cells_one ho']; rfl)
  rw [h1] at h2
  injection h2
theorem wrOk_cell {v : Value} (hb : w.heap[b]? = some (.cells ⟨l⟩ t (0, 0))) (hoff : off < l.length) (ho : one v = true) : wrOk w ⟨b, off, none⟩ v := by
  intro i u hu
  rw [cells_one ho] at hu
  cases i with
  | succ i => simp at hu
  | zero =>
    simp at hu
    subst hu
    exact ⟨ho, ⟨l[off], by rw [add_mk, cell_of hb]; exact List.getElem?_eq_getElem hoff⟩, by rw [add_mk]; exact frozen_of hb _⟩
theorem wrOk_agg {xs : List Value} (hb : w.heap[b]? = some (.cells ⟨l⟩ t (0, 0))) (hoff : off + xs.length ≤ l.length) (ho : ∀ u ∈ xs, one u = true) : wrOk w ⟨b, off, none⟩ (.agg ⟨xs⟩) := by
  intro i u hu
  have hu' : xs[i]? = some u := by simpa [Value.cells] using hu
  have hlt : i < xs.length := (List.getElem?_eq_some_iff.1 hu').1
  exact ⟨ho u (List.mem_of_getElem? hu'), ⟨l[off + i]'(by omega), by rw [add_mk, cell_of hb]; exact List.getElem?_eq_getElem _⟩, by rw [add_mk]; exact frozen_of hb _⟩

def setAll (l : List Value) (off : Nat) : List Value → List Value
  | [] => l
  | v :: r => setAll (l.set off v) (off + 1) r
theorem heap_setCell_at (hb : w.heap[b]? = some (.cells ⟨l⟩ t fr)) (v : Value) : (w.setCell ⟨b, off, none⟩ v).heap[b]? = some (.cells ⟨l.set off v⟩ t fr) := by
  simp [World.setCell, Array.getElem?_modify, hb]
theorem heap_setCell_ne {a : Addr} {c : Nat} (h : c ≠ a.block) (v : Value) : (w.setCell a v).heap[c]? = w.heap[c]? := by
  simp only [World.setCell, Array.getElem?_modify]
  rw [if_neg (fun e => h e.symm)]
theorem SameEnv.setCell (w : World) (a : Addr) (v : Value) : SameEnv w (w.setCell a v) := ⟨rfl, rfl, rfl⟩
theorem SameEnv.trans {a b c : World} (h : SameEnv a b) (k : SameEnv b c) : SameEnv a c := ⟨k.os.trans h.os, k.tape.trans h.tape, k.output.trans h.output⟩
theorem wrL_all : ∀ (xs : List Value) (i : Nat) (w : World) (l : List Value), w.heap[b]? = some (.cells ⟨l⟩ t fr) →
    (wrL w ⟨b, off, none⟩ xs i).heap[b]? = some (.cells ⟨setAll l (off + i) xs⟩ t fr) ∧ SameEnv w (wrL w ⟨b, off, none⟩ xs i) ∧ ∀ c, c ≠ b → (wrL w ⟨b, off, none⟩ xs i).heap[c]? = w.heap[c]?
  | [], _, w, _, h => ⟨h, .refl w, fun _ _ => rfl⟩
  | v :: r, i, w, l, h => by
    have h1 := heap_setCell_at (off := off + i) h v
    obtain ⟨h2, h3, h4⟩ := wrL_all r (i + 1) (w.setCell ((⟨b, off, none⟩ : Addr).add i) v) (l.set (off + i) v) (by rw [add_mk]; exact h1)
    refine ⟨?_, .trans (.setCell ..) h3, fun c hc => (h4 c hc).trans ?_⟩
    · exact h2
    · rw [add_mk]; exact heap_setCell_ne hc v
theorem St.wr_any {u : Value} (h : St E (blkL b t l :: L) w) : St E (blkL b t (setAll l off u.cells.toList) :: L) (wr w ⟨b, off, none⟩ u) := by
  obtain ⟨h1, h2, h3⟩ := wrL_all (off := off) u.cells.toList 0 w l h.at_blk
  exact h.upd h2 h1 fun c hc _ => h3 c hc
theorem St.wr_cell {v : Value} (h : St E (blkL b t l :: L) w) (ho : one v = true) : St E (blkL b t (l.set off v) :: L) (wr w ⟨b, off, none⟩ v) := by
  have := h.wr_any (off := off) (u := v)
  rw [cells_one ho] at this
  exact this
theorem setAll_eq : ∀ (xs l : List Value) (off : Nat), off + xs.length ≤ l.length → setAll l off xs = l.take off ++ xs ++ l.drop (off + xs.length)
  | [], l, off, _ => by simp [setAll]
  | v :: r, l, off, h => by
    simp only [List.length_cons] at h
    rw [setAll, setAll_eq r (l.set off v) (off + 1) (by simp; omega)]
    have hlt : off < l.length := by omega
    rw [List.take_set, List.drop_set]
    rw [if_pos (by omega)]
    rw [show (off + 1 + r.length) = off + (r.length + 1) from by omega]
    have : (l.take (off + 1)).set off v = l.take off ++ [v] := by
      rw [List.take_succ_eq_append_getElem hlt, List.set_append]
      simp [Nat.min_eq_left (Nat.le_of_lt hlt)]
    rw [this]
    simp
theorem St.wr_agg {xs : List Value} (h : St E (blkL b t l :: L) w) (hl : off + xs.length ≤ l.length) : St E (blkL b t (l.take off ++ xs ++ l.drop (off + xs.length)) :: L) (wr w ⟨b, off, none⟩ (.agg ⟨xs⟩)) := by
  have := h.wr_any (off := off) (u := .agg ⟨xs⟩)
  rw [show (Value.agg ⟨xs⟩).cells.toList = xs from rfl, setAll_eq _ _ _ hl] at this
  exact this
theorem St.wr_agg0 {xs : List Value} (h : St E (blkL b t l :: L) w) (hl : xs.length = l.length) : St E (blkL b t xs :: L) (wr w ⟨b, 0, none⟩ (.agg ⟨xs⟩)) := by
  have := h.wr_agg (off := 0) (xs := xs) (by omega)
  simpa [hl] using this
end

/-! ### slices -/

/-- A slice of ours: its elements' cells, in a row of its own. -/
def ownS (a : Option Addr) (l c : Nat) (e : TypeId) (sz : Nat) (xs : List Value) : Asrt := fun h =>
  xs.length = l * sz ∧ l ≤ c ∧ c ≤ maxLen ∧ ((a = none ∧ c = 0) ∨ ∃ g rest, a = some ⟨g, 0, none⟩ ∧ rest.length = (c - l) * sz ∧ h g = some (true, .cells ⟨xs ++ rest⟩ e (0, 0)))
/-- A slice that is read alone. -/
def roS (a : Option Addr) (l sz : Nat) (xs : List Value) : Asrt := fun h =>
  xs.length = l * sz ∧ (l = 0 ∨ ∃ g off cs t fr f, a = some ⟨g, off, none⟩ ∧ h g = some (f, .cells ⟨cs⟩ t fr) ∧ ∀ i u, xs[i]? = some u → cs[off + i]? = some u)

section
variable {E w : World} {L : List Asrt} {a : Option Addr} {l c sz : Nat} {e : TypeId} {xs : List Value}

theorem Dup.roS_ : Dup (roS a l sz xs) := fun h ⟨h1, h2⟩ => ⟨h1, h2.imp id fun ⟨g, off, cs, t, fr, f, ha, hg, hc⟩ => ⟨g, off, cs, t, fr, false, ha, by simp [toRO, hg], hc⟩⟩
theorem ownS_len {h : PHeap} (hh : ownS a l c e sz xs h) : xs.length = l * sz := hh.1
theorem St.ownS_facts (h : St E (ownS a l c e sz xs :: L) w) : xs.length = l * sz ∧ l ≤ c ∧ c ≤ maxLen := by
  obtain ⟨_, x, ⟨h1, h2, d, rfl, hA, _⟩, _⟩ := h
  exact ⟨hA.1, hA.2.1, hA.2.2.1⟩
theorem St.roS_facts (h : St E (roS a l sz xs :: L) w) : xs.length = l * sz := by
  obtain ⟨_, x, ⟨h1, h2, d, rfl, hA, _⟩, _⟩ := h
  exact hA.1
/-- An owned slice that is not nil, as its block. -/
theorem St.ownS_open (h : St E (ownS a l c e sz xs :: L) w) : (a = none ∧ l = 0 ∧ c = 0 ∧ xs = []) ∨ ∃ g rest, a = some ⟨g, 0, none⟩ ∧ rest.length = (c - l) * sz ∧ St E (blkL g e (xs ++ rest) :: L) w := by
  obtain ⟨en, x, ⟨h1, h2, d, rfl, ⟨p1, p2, p3, hA⟩, hL⟩, hl⟩ := h
  rcases hA with ⟨ha, hc⟩ | ⟨g, rest, ha, hr, hg⟩
  · have hl0 : l = 0 := by omega
    subst hl0
    exact .inl ⟨ha, rfl, hc, List.eq_nil_of_length_eq_zero (by simpa using p1)⟩
  · exact .inr ⟨g, rest, ha, hr, en, _, ⟨h1, h2, d, rfl, hg, hL⟩, hl⟩
theorem St.ownS_nil (h : St E L w) : St E (ownS none 0 0 e sz [] :: L) w := by
  obtain ⟨en, x, hs, hl⟩ := h
  exact ⟨en, x, ⟨fun _ => none, x, fun _ => .inl rfl, by funext b; rfl, ⟨by simp, Nat.le_refl _, Nat.zero_le _, .inl ⟨rfl, rfl⟩⟩, hs⟩, hl⟩
theorem St.ownS_mk {g : Nat} {rest : List Value} (h : St E (blkL g e (xs ++ rest) :: L) w) (h1 : xs.length = l * sz) (h2 : l ≤ c) (h3 : c ≤ maxLen) (hr : rest.length = (c - l) * sz) : St E (ownS (some ⟨g, 0, none⟩) l c e sz xs :: L) w :=
  h.mono fun _ hx => ⟨h1, h2, h3, .inr ⟨g, rest, rfl, hr, hx⟩⟩
theorem St.ownS_ro (h : St E (ownS a l c e sz xs :: L) w) : St E (roS a l sz xs :: L) w := h.mono fun x ⟨h1, h2, h3, hA⟩ => ⟨h1, by
  rcases hA with ⟨ha, hc⟩ | ⟨g, rest, ha, hr, hg⟩
  · exact .inl (by omega)
  · exact .inr ⟨g, 0, _, _, _, _, ha, hg, fun i u hu => by
      rw [Nat.zero_add, List.getElem?_append_left (List.getElem?_eq_some_iff.1 hu).1]; exact hu⟩⟩
theorem St.roS_nil (h : St E L w) (a : Option Addr) : St E (roS a 0 sz [] :: L) w := by
  obtain ⟨en, x, hs, hl⟩ := h
  exact ⟨en, x, ⟨fun _ => none, x, fun _ => .inl rfl, by funext b; rfl, ⟨by simp, .inl rfl⟩, hs⟩, hl⟩
/-- Where a read slice lies. -/
theorem St.roS_at (h : St E (roS a l sz xs :: L) w) (hl : 0 < l) : ∃ g off cs t fr, a = some ⟨g, off, none⟩ ∧ w.heap[g]? = some (.cells ⟨cs⟩ t fr) ∧ ∀ i u, xs[i]? = some u → cs[off + i]? = some u := by
  obtain ⟨_, x, ⟨h1, h2, d, rfl, ⟨_, hA⟩, _⟩, hh⟩ := h
  rcases hA with h0 | ⟨g, off, cs, t, fr, f, ha, hg, hc⟩
  · omega
  · exact ⟨g, off, cs, t, fr, ha, hh g f _ (by unfold un; rw [hg]), hc⟩
theorem St.roS_cells (h : St E (roS a l sz xs :: L) w) (hl : 0 < l) : ∃ ad, a = some ad ∧ ad.spot = none ∧ ∀ i u, xs[i]? = some u → w.cell? (ad.add i) = some u := by
  obtain ⟨g, off, cs, t, fr, ha, hg, hc⟩ := h.roS_at hl
  exact ⟨_, ha, rfl, fun i u hu => by rw [add_mk, cell_of hg]; exact hc i u hu⟩

theorem one_oneCell {u : Value} (h : one u = true) : u.oneCell' = true := by cases u <;> first | rfl | cases h

end
end Go.Vc
