/-
  Slices as rows of elements: reading, writing, appending, cutting.
-/
import Derived.Test.YtcpmfjclkdjfmaaGreatVcHeap
namespace Go.Vc
open Go

theorem ite_d {p : Prop} [Decidable p] {A B : Prop} (h1 : p → A) (h2 : ¬ p → B) : if decide p = true then A else B := by
  by_cases h : p
  · rw [if_pos (by simpa using h)]; exact h1 h
  · rw [if_neg (by simpa using h)]; exact h2 h
theorem ite_b {b : Bool} {A B : Prop} (h1 : b = true → A) (h2 : b = false → B) : if b = true then A else B := by
  cases b
  · exact h2 rfl
  · exact h1 rfl
theorem ite_n {b : Bool} {A B : Prop} (h1 : b = false → A) (h2 : b = true → B) : if (!b) = true then A else B := by
  cases b
  · exact h1 rfl
  · exact h2 rfl
theorem ite_some {α : Type} {a : α} {A B : Prop} (h : B) : if (some a).isNone = true then A else B := h
theorem ite_none {α : Type} {A B : Prop} (h : A) : if (none : Option α).isNone = true then A else B := h
/-- In world w the slice reads so. -/
def RdS (w : World) (a : Option Addr) (l sz : Nat) (xs : List Value) : Prop :=
  xs.length = l * sz ∧ (l = 0 ∨ ∃ g off, a = some ⟨g, off, none⟩ ∧ ∀ i u, xs[i]? = some u → w.cell? ⟨g, off + i, none⟩ = some u)

section
variable {E w : World} {L : List Asrt} {a : Option Addr} {l c sz : Nat} {e : TypeId} {xs : List Value}

theorem St.rdS (h : St E (roS a l sz xs :: L) w) : RdS w a l sz xs := by
  refine ⟨h.roS_facts, ?_⟩
  rcases Nat.eq_zero_or_pos l with h0 | h0
  · exact .inl h0
  · obtain ⟨g, off, cs, t, fr, ha, hg, hc⟩ := h.roS_at h0
    exact .inr ⟨g, off, ha, fun i u hu => by rw [cell_of hg]; exact hc i u hu⟩
theorem St.rdS_own (h : St E (ownS a l c e sz xs :: L) w) : RdS w a l sz xs := h.ownS_ro.rdS
theorem RdS.cells (h : RdS w a l sz xs) (hl : 0 < l) : ∃ ad, a = some ad ∧ ad.spot = none ∧ ∀ i u, xs[i]? = some u → w.cell? (ad.add i) = some u := by
  rcases h.2 with h0 | ⟨g, off, ha, hc⟩
  · omega
  · exact ⟨_, ha, rfl, fun i u hu => by rw [add_mk]; exact hc i u hu⟩
theorem RdS.grow {w' : World} (h : RdS w a l sz xs) (hk : ∀ b, b < w.heap.size → w'.heap[b]? = w.heap[b]?) : RdS w' a l sz xs := by
  refine ⟨h.1, h.2.imp id fun ⟨g, off, ha, hc⟩ => ⟨g, off, ha, fun i u hu => ?_⟩⟩
  have := hc i u hu
  have hlt : g < w.heap.size := by
    rcases Nat.lt_or_ge g w.heap.size with h' | h'
    · exact h'
    · simp [World.cell?, Array.getElem?_eq_none h'] at this
  rw [← this]
  unfold World.cell?
  rw [hk g hlt]
theorem RdS.alloc (h : RdS w a l sz xs) (o : Obj) : RdS (w.alloc o) a l sz xs := h.grow fun b hb => by
  show (w.heap.push o)[b]? = _
  rw [Array.getElem?_push, if_neg (by omega)]
theorem RdS.nil (w : World) (a : Option Addr) : RdS w a 0 sz [] := ⟨by simp, .inl rfl⟩
theorem RdS.sub (h : RdS w a l sz xs) {lo hi : Nat} (h1 : lo ≤ hi) (h2 : hi ≤ l) (c0 : Nat) (hc : hi ≤ c0) :
    RdS w (if c0 = lo then a else a.map fun x => x.add (lo * sz)) (hi - lo) sz ((xs.drop (lo * sz)).take ((hi - lo) * sz)) := by
  have hlen := h.1
  refine ⟨?_, ?_⟩
  · rw [List.length_take, List.length_drop, hlen, ← Nat.sub_mul]
    exact Nat.min_eq_left (Nat.mul_le_mul_right _ (by omega))
  · rcases Nat.eq_zero_or_pos (hi - lo) with h0 | h0
    · exact .inl h0
    · rcases h.2 with h0' | ⟨g, off, ha, hcs⟩
      · omega
      · rw [if_neg (by omega), ha]
        refine .inr ⟨g, off + lo * sz, by simp [add_mk], fun i u hu => ?_⟩
        rw [Nat.add_assoc]
        refine hcs _ _ ?_
        rw [List.getElem?_take] at hu
        split at hu
        · rwa [List.getElem?_drop] at hu
        · cases hu
theorem RdS.rd_cell (h : RdS w a l sz xs) {ad : Addr} (ha : a = some ad) (hl : 0 < l) {i : Nat} {v : Value} (hv : xs[i]? = some v) (ho : one v = true) : rd w (ad.add i) v := by
  obtain ⟨ad', ha', _, hc⟩ := h.cells hl
  rw [ha] at ha'; injection ha' with ha'; subst ha'
  intro j u hu
  rw [cells_one ho] at hu
  cases j with
  | succ j => simp at hu
  | zero =>
    simp at hu
    subst hu
    have := hc i v hv
    obtain ⟨g, off, spot⟩ := ad
    unfold Addr.add at this ⊢
    simpa using this
theorem RdS.rd_agg (h : RdS w a l sz xs) {ad : Addr} (ha : a = some ad) (hl : 0 < l) {o : Nat} {vs : List Value} (hv : ∀ i u, vs[i]? = some u → xs[o + i]? = some u) : rd w (ad.add o) (.agg ⟨vs⟩) := by
  rcases h.2 with h0 | ⟨g, off, ha', hc⟩
  · omega
  · rw [ha] at ha'; injection ha' with ha'; subst ha'
    intro i u hu
    rw [add_mk, add_mk, Nat.add_assoc]
    exact hc _ _ (hv i u (by simpa [Value.cells] using hu))
/-- 'append(s, x...)': s ours, x whatever is read. -/
theorem append_own {P : Program} {t ty e : TypeId} {i : TypeInfo} {z : Value} (ht : P.underlying t = some (.slice e)) (hi : P.info? e = some i) (hz : i.zero = some z) (hzs : z.cells.size = i.size) (hsz : 0 < i.size)
    {a a2 : Option Addr} {l c l2 c2 : Nat} {xs ys : List Value} (h : St E (ownS a l c e i.size xs :: L) w) (hro : RdS w a2 l2 i.size ys) (h1 : ∀ u ∈ ys, one u = true) (hb : (l + l2) * i.bytes ≤ 140737488355328) (h63 : l + l2 ≤ maxLen) :
    ∃ a' c' w', (Builtin.append_ #[t, t] ty #[.slice a l c, .slice a2 l2 c2]).run P w = .ok (.slice a' (l + l2) c') w' ∧ St E (ownS a' (l + l2) c' e i.size (xs ++ ys) :: L) w' := by
  have hfact := h.ownS_facts
  have hrol := hro.1
  cases a2 with
  | none =>
    have hl2 : l2 = 0 := by
      rcases Nat.eq_zero_or_pos l2 with h0 | h0
      · exact h0
      · obtain ⟨ad, ha, _⟩ := hro.cells h0; cases ha
    subst hl2
    have hys : ys = [] := List.eq_nil_of_length_eq_zero (by simpa using hrol)
    subst hys
    refine ⟨a, c, w, ?_, by simpa using h⟩
    rcases h.ownS_open with ⟨rfl, rfl, rfl, rfl⟩ | ⟨g, rest, rfl, _, _⟩
    · simp [Builtin.append_, run_underlying_ ht, sizeOf, typeInfo, hi, Builtin.lenOf, Builtin.firstCells, program, Sem.run]
    · simp [Builtin.append_, run_underlying_ ht, sizeOf, typeInfo, hi, Builtin.lenOf, Builtin.firstCells, hfact.2.1, storeCells, program, Sem.run]
  | some ad =>
    have hcells : ∀ j u, ys[j]? = some u → w.cell? (ad.add j) = some u := by
      intro j u hu
      rcases Nat.eq_zero_or_pos l2 with h0 | h0
      · subst h0
        have hys : ys = [] := List.eq_nil_of_length_eq_zero (by simpa using hrol)
        subst hys
        simp at hu
      · obtain ⟨ad', ha, _, hc⟩ := hro.cells h0
        injection ha with ha; subst ha
        exact hc j u hu
    have hown : w.ownsRow 0 e i.size (.slice a l c) l xs := by
      refine ⟨hfact.1, ?_⟩
      rcases h.ownS_open with ⟨rfl, rfl, rfl, rfl⟩ | ⟨g, rest, rfl, hr, hs⟩
      · exact .inl ⟨rfl, rfl⟩
      · refine .inr ⟨g, c, ⟨xs ++ rest⟩, rfl, Nat.zero_le _, hs.at_blk, hfact.2.1, hfact.2.2, ?_, ?_⟩
        · simp only [List.size_toArray, List.length_append, hfact.1, hr, ← Nat.add_mul]
          rw [show l + (c - l) = c from by omega]
        · simp [hfact.1]
    obtain ⟨v', w', hrun, hown', hgrow, _, hat⟩ := run_append_own_at (P := P) w 0 t ty e i z i.size i.bytes ht hi hz rfl rfl hzs hsz (.slice a l c) l xs hown ad l2 c2 ys hrol hcells (fun u hu => one_oneCell (h1 u hu)) h63 hb (Nat.zero_le _)
    have henv : SameEnv w w' := ⟨hgrow.os, hgrow.tape, hgrow.output⟩
    rcases hown'.2 with ⟨rfl, hn0⟩ | ⟨g', cap, cur, rfl, _, hg', hcap, hcapm, hcur, htake⟩
    · -- nothing at all
      have hl0 : l = 0 := by omega
      have hl20 : l2 = 0 := by omega
      subst hl0; subst hl20
      have hys : ys = [] := List.eq_nil_of_length_eq_zero (by simpa using hrol)
      have hxs : xs = [] := List.eq_nil_of_length_eq_zero (by simpa using hfact.1)
      subst hys; subst hxs
      refine ⟨none, 0, w', hrun, St.ownS_nil (h.drop.same henv fun b hb => ?_)⟩
      refine hgrow.block b hb ?_
      rcases hat with e | e
      · rw [← e]; simp [Value.ownBlock]
      · cases e
    · have hsplit : cur = ⟨(xs ++ ys) ++ cur.toList.drop ((l + l2) * i.size)⟩ := by
        apply Array.ext'
        show cur.toList = _
        rw [← htake, List.take_append_drop]
      have hrl : (cur.toList.drop ((l + l2) * i.size)).length = (cap - (l + l2)) * i.size := by
        rw [List.length_drop, Array.length_toList, hcur, Nat.sub_mul]
      have hlen : (xs ++ ys).length = (l + l2) * i.size := hown'.1
      refine ⟨some ⟨g', 0, none⟩, cap, w', hrun, St.ownS_mk (rest := cur.toList.drop ((l + l2) * i.size)) ?_ hlen hcap hcapm hrl⟩
      have hg2 : w'.heap[g']? = some (.cells ⟨(xs ++ ys) ++ cur.toList.drop ((l + l2) * i.size)⟩ e (0, 0)) := by rw [← hsplit]; exact hg'
      rcases hat with e1 | e1
      · -- in its own row
        rcases h.ownS_open with ⟨rfl, rfl, rfl, rfl⟩ | ⟨g, rest, rfl, hr, hs⟩
        · simp [Value.ownBlock] at e1
        · have hgg : g' = g := by simpa [Value.ownBlock] using e1
          subst hgg
          exact hs.upd henv hg2 fun b hb hlt => hgrow.block b hlt (by simpa [Value.ownBlock] using fun e => hb e)
      · -- in a new one
        have hgg : g' = w.heap.size := by simpa [Value.ownBlock] using e1
        subst hgg
        rcases h.ownS_open with ⟨rfl, rfl, rfl, rfl⟩ | ⟨g, rest, rfl, hr, hs⟩
        · exact (h.drop.add_new henv (Nat.le_refl _) hg2 fun b hb => hgrow.block b hb (by simp [Value.ownBlock]))
        · -- what was the old row is let go
          have hk : ∀ b, b < w.heap.size → b ≠ g → w'.heap[b]? = w.heap[b]? := fun b hb hne => hgrow.block b hb (by simpa [Value.ownBlock] using fun e => hne e)
          have hglt : g < w.heap.size := (Array.getElem?_eq_some_iff.1 hs.at_blk).1
          have hglt' : g < w'.heap.size := Nat.lt_of_lt_of_le hglt hgrow.size
          have hs2 : St E (blk g w'.heap[g] :: L) w' := hs.upd henv (Array.getElem?_eq_getElem hglt') fun b hb hlt => hk b hlt hb
          have hs3 := hs2.drop
          obtain ⟨en, x, hsx, hlx⟩ := hs.drop
          -- the rest lies in w, apart from g
          have hs4 : St E (blk w.heap.size (.cells ⟨(xs ++ ys) ++ cur.toList.drop ((l + l2) * i.size)⟩ e (0, 0)) :: L) w' := by
            obtain ⟨en', y, ⟨y1, y2, d, rfl, hA, hL⟩, hl⟩ := hs
            have hA' : y1 g = some (true, .cells ⟨xs ++ rest⟩ e (0, 0)) := hA
            have hy2g : y2 g = none := by
              rcases d g with h' | h' | ⟨o, h', _⟩
              · rw [hA'] at h'; cases h'
              · exact h'
              · rw [hA'] at h'; cases h'
            have hl2' : ∀ b f o, y2 b = some (f, o) → w.heap[b]? = some o := by
              intro b f o hb
              cases hy1 : y1 b with
              | none => exact hl b f o (by unfold un; rw [hy1]; exact hb)
              | some q =>
                rcases d b with h' | h' | ⟨o', h', h''⟩
                · rw [h'] at hy1; cases hy1
                · rw [h'] at hb; cases hb
                · rw [h''] at hb; injection hb with hb; injection hb with _ hb; subst hb
                  exact hl b false o' (by unfold un; rw [h'])
            have hnew : y2 w.heap.size = none := by
              cases hc : y2 w.heap.size with
              | none => rfl
              | some q => have := (Array.getElem?_eq_some_iff.1 (hl2' _ q.1 q.2 hc)).1; omega
            refine ⟨⟨henv.os.trans en'.os, henv.tape.trans en'.tape, henv.output.trans en'.output⟩, un (fun b => if b = w.heap.size then some (true, .cells ⟨(xs ++ ys) ++ cur.toList.drop ((l + l2) * i.size)⟩ e (0, 0)) else none) y2, ⟨_, y2, fun b => ?_, rfl, by simp [blk], hL⟩, fun b f o hb => ?_⟩
            · by_cases hbs : b = w.heap.size
              · subst hbs; exact .inr (.inl hnew)
              · exact .inl (by simp [hbs])
            · unfold un at hb
              by_cases hbs : b = w.heap.size
              · subst hbs
                simp only [if_true] at hb
                injection hb with hb
                injection hb with _ hb
                rw [hg2, ← hb]
              · simp only [hbs, if_false] at hb
                have hw := hl2' b f o hb
                have hne : b ≠ g := fun e => by subst e; rw [hy2g] at hb; cases hb
                rw [hk b (Array.getElem?_eq_some_iff.1 hw).1 hne, hw]
          exact hs4
end

/-- What is owned tells what the slice reads as. -/
def Sees (E : World) (L : List Asrt) (a : Option Addr) (l sz : Nat) (xs : List Value) : Prop := ∀ w, St E L w → RdS w a l sz xs
theorem Sees.more {E : World} {L : List Asrt} {a : Option Addr} {l sz : Nat} {xs : List Value} (h : Sees E L a l sz xs) (A : Asrt) : Sees E (A :: L) a l sz xs := fun w hw => h w hw.drop

section
variable {E w : World} {L : List Asrt} {b t k : Nat} {l : List Value} {fr : Nat × Nat} {v : Value}
theorem rd_fld (hb : w.heap[b]? = some (.cells ⟨l⟩ t fr)) (hv : l[k]? = some v) (ho : one v = true) : rd w ((⟨b, 0, none⟩ : Addr).add k) v := by
  rw [add_mk, Nat.zero_add]; exact Go.Vc.rd_cell hb hv ho
theorem wrOk_fld (hb : w.heap[b]? = some (.cells ⟨l⟩ t (0, 0))) (hk : k < l.length) (ho : one v = true) : wrOk w ((⟨b, 0, none⟩ : Addr).add k) v := by
  rw [add_mk, Nat.zero_add]; exact wrOk_cell hb hk ho
theorem St.wr_fld (h : St E (blkL b t l :: L) w) (ho : one v = true) : St E (blkL b t (l.set k v) :: L) (wr w ((⟨b, 0, none⟩ : Addr).add k) v) := by
  rw [add_mk, Nat.zero_add]; exact h.wr_cell ho
end

/-! ### elements -/
section
variable {α : Type} {f : α → List Value} {sz : Nat}
theorem flat_len (hf : ∀ q, (f q).length = sz) : ∀ (qs : List α), (qs.flatMap f).length = qs.length * sz
  | [] => by simp
  | q :: r => by simp only [List.flatMap_cons, List.length_append, List.length_cons, hf, flat_len hf r, Nat.add_mul]; omega
theorem flat_get (hf : ∀ q, (f q).length = sz) : ∀ (qs : List α) (j k : Nat) (q : α), qs[j]? = some q → k < sz → (qs.flatMap f)[j * sz + k]? = (f q)[k]?
  | [], j, k, q, h, _ => by simp at h
  | p :: r, 0, k, q, h, hk => by
    simp at h; subst h
    rw [List.flatMap_cons, Nat.zero_mul, Nat.zero_add, List.getElem?_append_left (by rw [hf]; exact hk)]
  | p :: r, j + 1, k, q, h, hk => by
    rw [List.flatMap_cons, List.getElem?_append_right (by rw [hf, Nat.add_mul]; omega), hf, show (j + 1) * sz + k - sz = j * sz + k from by rw [Nat.add_mul]; omega]
    exact flat_get hf r j k q (by simpa using h) hk
theorem flat_take (hf : ∀ q, (f q).length = sz) : ∀ (qs : List α) (j : Nat), (qs.flatMap f).take (j * sz) = (qs.take j).flatMap f
  | [], j => by simp
  | p :: r, 0 => by simp
  | p :: r, j + 1 => by
    rw [List.flatMap_cons, List.take_succ_cons, List.flatMap_cons, List.take_append, hf, List.take_of_length_le (by rw [hf, Nat.add_mul]; omega), show (j + 1) * sz - sz = j * sz from by rw [Nat.add_mul]; omega, flat_take hf r j]
theorem flat_drop (hf : ∀ q, (f q).length = sz) : ∀ (qs : List α) (j : Nat), (qs.flatMap f).drop (j * sz) = (qs.drop j).flatMap f
  | [], j => by simp
  | p :: r, 0 => by simp
  | p :: r, j + 1 => by
    rw [List.flatMap_cons, List.drop_succ_cons, List.drop_append, hf, List.drop_of_length_le (by rw [hf, Nat.add_mul]; omega), show (j + 1) * sz - sz = j * sz from by rw [Nat.add_mul]; omega, flat_drop hf r j, List.nil_append]
theorem set_split {β : Type} : ∀ (l : List β) (j : Nat) (q : β), j < l.length → l.set j q = l.take j ++ q :: l.drop (j + 1)
  | [], _, _, h => by simp at h
  | p :: r, 0, q, _ => by simp
  | p :: r, j + 1, q, h => by simp [set_split r j q (by simpa using h)]
theorem flat_set (hf : ∀ q, (f q).length = sz) (qs : List α) (j : Nat) (q : α) (hj : j < qs.length) :
    (qs.flatMap f).take (j * sz) ++ f q ++ (qs.flatMap f).drop (j * sz + (f q).length) = (qs.set j q).flatMap f := by
  rw [hf, show j * sz + sz = (j + 1) * sz from by rw [Nat.add_mul]; omega, flat_take hf, flat_drop hf, set_split qs j q hj]
  simp
variable {E w : World} {L : List Asrt} {a : Option Addr} {l c : Nat} {e : TypeId} {qs : List α}
theorem RdS.elem (h : RdS w a l sz (qs.flatMap f)) (hf : ∀ q, (f q).length = sz) {j : Nat} {q : α} (hj : qs[j]? = some q) (h0 : 0 < sz) : ∃ ad, a = some ad ∧ rd w (ad.add (j * sz)) (.agg ⟨f q⟩) ∧ ∀ k v, (f q)[k]? = some v → one v = true → rd w ((ad.add (j * sz)).add k) v := by
  have hl : qs.length = l := by have := h.1; rw [flat_len hf] at this; exact Nat.eq_of_mul_eq_mul_right h0 this
  have hjl : j < qs.length := (List.getElem?_eq_some_iff.1 hj).1
  have hk : ∀ k u, (f q)[k]? = some u → (qs.flatMap f)[j * sz + k]? = some u := fun k u hu => by
    rw [flat_get hf qs j k q hj (by have := (List.getElem?_eq_some_iff.1 hu).1; rwa [hf] at this)]; exact hu
  obtain ⟨ad, ha, hs, hc⟩ := h.cells (by omega)
  refine ⟨ad, ha, h.rd_agg ha (by omega) hk, fun k v hv ho => ?_⟩
  have := h.rd_cell ha (by omega) (hk k v hv) ho
  obtain ⟨g, off, spot⟩ := ad
  cases hs
  rw [add_mk, add_mk] at *
  rw [Nat.add_assoc]; exact this
theorem RdS.count (h : RdS w a l sz (qs.flatMap f)) (hf : ∀ q, (f q).length = sz) (h0 : 0 < sz) : qs.length = l := by
  have := h.1; rw [flat_len hf] at this; exact Nat.eq_of_mul_eq_mul_right h0 this
end

section
variable {E w : World} {L : List Asrt} {a : Option Addr} {l c sz : Nat} {e : TypeId} {xs : List Value}
/-- One cell of an owned slice is turned. -/
theorem St.ownS_set (h : St E (ownS a l c e sz xs :: L) w) {ad : Addr} (ha : a = some ad) {i : Nat} (hi : i < xs.length) {v : Value} (ho : one v = true) : wrOk w (ad.add i) v ∧ St E (ownS a l c e sz (xs.set i v) :: L) (wr w (ad.add i) v) := by
  have hf := h.ownS_facts
  rcases h.ownS_open with ⟨rfl, _⟩ | ⟨g, rest, rfl, hr, hs⟩
  · cases ha
  · injection ha with ha; subst ha
    rw [add_mk, Nat.zero_add]
    refine ⟨wrOk_cell hs.at_blk (by simp; omega) ho, ?_⟩
    have := hs.wr_cell (off := i) ho
    rw [List.set_append_left _ _ hi] at this
    exact this.ownS_mk (by simp [hf.1]) hf.2.1 hf.2.2 hr
/-- Some cells in a row. -/
theorem St.ownS_sets (h : St E (ownS a l c e sz xs :: L) w) {ad : Addr} (ha : a = some ad) {i : Nat} {vs : List Value} (hi : i + vs.length ≤ xs.length) (ho : ∀ u ∈ vs, one u = true) :
    wrOk w (ad.add i) (.agg ⟨vs⟩) ∧ St E (ownS a l c e sz (xs.take i ++ vs ++ xs.drop (i + vs.length)) :: L) (wr w (ad.add i) (.agg ⟨vs⟩)) := by
  have hf := h.ownS_facts
  rcases h.ownS_open with ⟨rfl, _⟩ | ⟨g, rest, rfl, hr, hs⟩
  · cases ha
  · injection ha with ha; subst ha
    rw [add_mk, Nat.zero_add]
    refine ⟨wrOk_agg hs.at_blk (by simp; omega) ho, ?_⟩
    have := hs.wr_agg (off := i) (xs := vs) (by simp; omega)
    rw [List.take_append_of_le_length (by omega), List.drop_append_of_le_length hi, ← List.append_assoc] at this
    exact this.ownS_mk (by simp; omega) hf.2.1 hf.2.2 hr
end
section
variable {P : Program} {E w : World} {L : List Asrt} {t ty e : TypeId} {i : TypeInfo} {z : Value}
theorem wr_agg_of {w : World} {a : Addr} {vs : List Value} : wr w a (.agg ⟨vs⟩) = wrL w a vs 0 := rfl
/-- 'append(s, x...)' within its row. -/
theorem append_in (ht : P.underlying t = some (.slice e)) (hi : P.info? e = some i) {g l c l2 c2 : Nat} {a2 : Option Addr} {cells ys : List Value}
    (h : St E (blkL g e cells :: L) w) (hro : RdS w a2 l2 i.size ys) (h1 : ∀ u ∈ ys, one u = true) (hc : l + l2 ≤ c) (hcl : (l + l2) * i.size ≤ cells.length) :
    ∃ w', (Builtin.append_ #[t, t] ty #[.slice (some ⟨g, 0, none⟩) l c, .slice a2 l2 c2]).run P w = .ok (.slice (some ⟨g, 0, none⟩) (l + l2) c) w' ∧ St E (blkL g e (cells.take (l * i.size) ++ ys ++ cells.drop (l * i.size + ys.length)) :: L) w' := by
  have hyl := hro.1
  have hmul := Nat.add_mul l l2 i.size
  cases a2 with
  | none =>
    have hl2 : l2 = 0 := by
      rcases Nat.eq_zero_or_pos l2 with h0 | h0
      · exact h0
      · obtain ⟨ad, ha, _⟩ := hro.cells h0; cases ha
    subst hl2
    have hys : ys = [] := List.eq_nil_of_length_eq_zero (by simpa using hyl)
    subst hys
    refine ⟨w, ?_, by simpa using h⟩
    simp [Builtin.append_, run_underlying_ ht, sizeOf, typeInfo, hi, Builtin.lenOf, Builtin.firstCells, storeCells, program, Sem.run]
    omega
  | some ad =>
    have hld : (loadCells ad (l2 * i.size)).run P w = .ok ys.toArray w := by
      rw [← hyl]
      refine run_loadCells_list w ad ys fun j v hv => ?_
      rcases Nat.eq_zero_or_pos l2 with h0 | h0
      · subst h0
        have hys : ys = [] := List.eq_nil_of_length_eq_zero (by simpa using hyl)
        subst hys; simp at hv
      · obtain ⟨ad', ha', _, hcc⟩ := hro.cells h0
        injection ha' with ha'; subst ha'
        exact hcc j v hv
    have hst := run_storeCells (P := P) ⟨g, l * i.size, none⟩ ys 0 w fun j v hv => by
      have hj := (List.getElem?_eq_some_iff.1 hv).1
      rw [Nat.zero_add, add_mk]
      exact ⟨h1 v (List.mem_of_getElem? hv), ⟨_, (cell_of h.at_blk _).trans (List.getElem?_eq_getElem (by omega))⟩, frozen_of h.at_blk _⟩
    refine ⟨_, ?_, h.wr_agg (off := l * i.size) (xs := ys) (by omega)⟩
    rw [wr_agg_of]
    simp [Builtin.append_, run_underlying_ ht, run_sizeOf_ (show szOf P e = some i.size by simp [szOf, hi]), Builtin.lenOf, Builtin.firstCells, hc, hld, add_mk, hst]
/-- 'clear(s[lo:hi])'. -/
theorem clear_in (ht : P.underlying t = some (.slice e)) (hz : (P.info? e).bind (·.zero) = some z) {g o n c : Nat} {cells : List Value}
    (h : St E (blkL g e cells :: L) w) (h1 : ∀ u ∈ z.cells.toList, one u = true) (hcl : n ≠ 0 → o + n * z.cells.size ≤ cells.length) :
    ∃ w' zs, (Builtin.clear_ #[t] ty #[.slice (some ⟨g, o, none⟩) n c]).run P w = .ok (.tuple #[]) w' ∧ zs.length = n * z.cells.size ∧ (n = 0 → w' = w) ∧ St E (blkL g e (if n = 0 then cells else cells.take o ++ zs ++ cells.drop (o + zs.length)) :: L) w' := by
  cases n with
  | zero => exact ⟨w, [], by simp [Builtin.clear_, run_underlying_ ht], by simp, fun _ => rfl, by simpa using h⟩
  | succ n =>
    let zs := (Builtin.zeroCells z.cells (n + 1)).toList
    have hzl : zs.length = (n + 1) * z.cells.size := by simp [zs, Builtin.zeroCells]
    have hcl' := hcl (by simp)
    have hzo : ∀ u ∈ zs, one u = true := by
      intro u hu
      simp only [zs, Builtin.zeroCells, Array.toList_map, List.mem_map] at hu
      obtain ⟨k, hk, rfl⟩ := hu
      have hs : 0 < z.cells.size := by
        rcases Nat.eq_zero_or_pos z.cells.size with h0 | h0
        · simp [h0] at hk
        · exact h0
      have hm := Nat.mod_lt k hs
      rw [getElem!_pos z.cells (k % z.cells.size) hm]
      exact h1 _ (by simp)
    have hst := run_storeCells (P := P) ⟨g, o, none⟩ zs 0 w fun j v hv => by
      have hj := (List.getElem?_eq_some_iff.1 hv).1
      rw [Nat.zero_add, add_mk]
      exact ⟨hzo v (List.mem_of_getElem? hv), ⟨_, (cell_of h.at_blk _).trans (List.getElem?_eq_getElem (by omega))⟩, frozen_of h.at_blk _⟩
    refine ⟨wr w ⟨g, o, none⟩ (.agg ⟨zs⟩), zs, ?_, hzl, fun hh => by omega, ?_⟩
    · rw [wr_agg_of]
      simp only [zs] at hst
      simp [Builtin.clear_, run_underlying_ ht, run_zeroValue_ hz, hst, zs]
    · rw [if_neg (by simp)]
      exact h.wr_agg (by omega)
end
end Go.Vc
