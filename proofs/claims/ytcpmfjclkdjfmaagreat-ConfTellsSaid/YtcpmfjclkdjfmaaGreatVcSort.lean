/-
  The library's sort at a slice of ours: what its contract's world is in words of separation; one sorted list.
-/
import Derived.Test.YtcpmfjclkdjfmaaGreatVcKeys
import Derived.Sort.Grow
import Derived.Sort.EncStr
import Derived.Sort.Walk0
import Derived.Shelf.GgSortFunc.RowK
import Derived.Shelf.GgSortFunc.InsertionK
import Derived.Shelf.SlSortCmp.Insertion
namespace Go.Vc
open Go Go.Proofs Go.RowKit Go.Sort Go.Shelf
section
variable {E w w' : World} {L : List Asrt} {a : Option Addr} {l c sz n : Nat} {e : TypeId} {xs : List Value}
theorem below_env {B : Nat} (h : Below B w w') : SameEnv w w' := ⟨h.os, h.tape, h.output⟩
/-- A row that is new. -/
theorem St.of_row {v : Value} (h : St E L w) (hb : Below w.heap.size w w') (hr : w'.ownsRow w.heap.size e sz v n xs) : ∃ a c, v = .slice a n c ∧ St E (ownS a n c e sz xs :: L) w' := by
  obtain ⟨h1, h2⟩ := hr
  rcases h2 with ⟨rfl, rfl⟩ | ⟨g, cap, cur, rfl, hg, hc, h3, h4, h5, h6⟩
  · have : xs = [] := List.eq_nil_of_length_eq_zero (by simpa using h1)
    subst this
    exact ⟨none, 0, rfl, (h.same (below_env hb) hb.block).ownS_nil⟩
  · refine ⟨_, _, rfl, St.ownS_mk (rest := cur.toList.drop (n * sz)) ?_ h1 h3 h4 ?_⟩
    · have := h.add_new (o := .cells cur e (0, 0)) (below_env hb) hg hc hb.block
      refine this.mono fun x hx => ?_
      show x g = some (true, .cells ⟨xs ++ cur.toList.drop (n * sz)⟩ e (0, 0))
      rw [← h6, List.take_append_drop]; exact hx
    · rw [List.length_drop, Array.length_toList, h5, Nat.sub_mul]
theorem put_cells {α : Type} [Inhabited α] (enc : α → Value) (ts : List α) (xs rest : List Value) (h : xs.length = ts.length) : putCells enc 0 ts.toArray ⟨xs ++ rest⟩ = ⟨ts.map enc ++ rest⟩ := by
  apply Array.ext'
  apply List.ext_getElem?
  intro j
  simp only [putCells, Array.toList_mapIdx, List.getElem?_mapIdx]
  by_cases hj : j < ts.length
  · have h1 : j < (ts.map enc).length := by simpa using hj
    have h2 : j < xs.length := by omega
    rw [List.getElem?_append_left (l₁ := xs) h2, List.getElem?_append_left (l₁ := ts.map enc) h1, List.getElem?_map]
    simp [hj, h2]
  · have h1 : (ts.map enc).length ≤ j := by simpa using hj
    have h2 : xs.length ≤ j := by omega
    rw [List.getElem?_append_right (l₁ := xs) h2, List.getElem?_append_right (l₁ := ts.map enc) h1]
    simp [hj, h]
/-- Behind the sort the slice holds the sorted row. -/
theorem St.sorted_row {α : Type} [Inhabited α] {enc : α → Value} {ts : List α} {g m : Nat} {os : Array Obj} {rest : List Value} (h : St E (blkL g e (xs ++ rest) :: L) w) (hx : xs.length = ts.length) :
    St E (blkL g e (ts.map enc ++ rest) :: L) (grow (putRow enc (Sort.ahead w m) g 0 ts.toArray) os) := by
  have hg : w.heap[g]? = some (.cells ⟨xs ++ rest⟩ e (0, 0)) := h.at_blk
  have hlt : g < w.heap.size := (Array.getElem?_eq_some_iff.1 hg).1
  refine St.upd (o := .cells ⟨xs ++ rest⟩ e (0, 0)) h ⟨rfl, rfl, rfl⟩ ?_ ?_
  · rw [heap_grow_old _ _ (by simpa using hlt)]
    simp [putRow, mapBlock, Sort.ahead, Array.getElem?_modify, hg, onCells, put_cells _ _ _ _ hx]
  · intro k hk hlt2
    rw [heap_grow_old _ _ (by simpa using hlt2)]
    simp [putRow, mapBlock, Sort.ahead, Array.getElem?_modify, Ne.symm hk]
theorem holds_row {α : Type} [Inhabited α] {enc : α → Value} {ss : List α} {g : Nat} {rest : List Value} (h : w.heap[g]? = some (.cells ⟨ss.map enc ++ rest⟩ e (0, 0))) : Holds enc w g 0 ss.toArray := by
  intro j hj
  have hj' : j < ss.length := by simpa using hj
  refine ⟨?_, by simp [World.frozen?, h]⟩
  have h1 : (ss.map enc ++ rest)[j]? = some (enc ss[j]) := by rw [List.getElem?_append_left (by simpa using hj')]; simp [hj']
  simp only [World.cell?, h, Nat.zero_add]
  simp only [Option.isSome_none, Bool.false_eq_true, if_false]
  rw [← Array.getElem?_toList, h1]
  simp [hj']
theorem flatK_eq {α : Type} [Inhabited α] (enc : α → List Value) (k : Nat) (hk : ∀ x, (enc x).length = k) (h0 : 0 < k) (ts : List α) : flatK enc k ts.toArray = (ts.flatMap enc).toArray := by
  apply Array.ext'
  apply List.ext_getElem?
  intro t
  by_cases ht : t < ts.length * k
  · have hq : t / k < ts.length := (Nat.div_lt_iff_lt_mul h0).2 ht
    have hr : t % k < k := Nat.mod_lt _ h0
    have e1 := flat_get (f := enc) hk ts (t / k) (t % k) ts[t / k] (by simp [hq]) hr
    rw [Nat.mul_comm, Nat.div_add_mod] at e1
    rw [show (ts.flatMap enc).toArray.toList = ts.flatMap enc from rfl, e1]
    simp [flatK, ht, hq]
    have : t % k < (enc ts[t / k]).length := by rw [hk]; exact hr
    simp [this]
  · rw [List.getElem?_eq_none (by simp [flatK]; omega), List.getElem?_eq_none (by simp only [flat_len hk]; omega)]
theorem sort_uniq {α : Type} {le : α → α → Bool} (tr : ∀ a b c, le a b = true → le b c = true → le a c = true) (to : ∀ a b, (le a b || le b a) = true) (an : ∀ a b, le a b = true → le b a = true → a = b)
    {ss ks : List α} (hp : ks.Perm ss) (hk : ks.Pairwise fun a b => le a b = true) : ss.mergeSort le = ks :=
  List.Perm.eq_of_pairwise (le := fun a b => le a b = true) (fun a b _ _ h1 h2 => an a b h1 h2) (List.pairwise_mergeSort tr to ss) hk ((List.mergeSort_perm ss le).trans hp.symm)
theorem uniq_str {ss ks : List (List UInt8)} (hp : ks.Perm ss) (hk : ks.Pairwise (· < ·)) : (ss.mergeSort fun x y => decide (x ≤ y)) = ks :=
  sort_uniq (le := fun x y => decide (x ≤ y)) (fun a b c h1 h2 => decide_eq_true (List.le_trans (of_decide_eq_true h1) (of_decide_eq_true h2))) (fun a b => by have := List.le_total a b; simpa using this)
    (fun a b h1 h2 => List.le_antisymm (of_decide_eq_true h1) (of_decide_eq_true h2)) hp (hk.imp fun {a b} h => decide_eq_true (List.le_of_lt h))
theorem uniq_int {ss ks : List Int} (hp : ks.Perm ss) (hk : ks.Pairwise (· < ·)) : (ss.mergeSort fun x y => decide (x ≤ y)) = ks :=
  sort_uniq (le := fun x y => decide (x ≤ y)) (fun a b c h1 h2 => decide_eq_true (Int.le_trans (of_decide_eq_true h1) (of_decide_eq_true h2))) (fun a b => by have := Int.le_total a b; simpa using this)
    (fun a b h1 h2 => Int.le_antisymm (of_decide_eq_true h1) (of_decide_eq_true h2)) hp (hk.imp fun {a b} h => decide_eq_true (Int.le_of_lt h))
abbrev Pr := List UInt8 × List UInt8
def prLt (a b : Pr) : Bool := decide (a.1 < b.1) || (decide (a.1 = b.1) && decide (a.2 < b.2))
/-- Of two texts: which one is ahead? -/
def cmpS (a b : List UInt8) : Int := if a < b then -1 else if b < a then 1 else 0
def cmpP (a b : Pr) : Int := if cmpS a.1 b.1 ≠ 0 then cmpS a.1 b.1 else cmpS a.2 b.2
theorem cmpS_lt (a b : List UInt8) : cmpS a b < 0 ↔ a < b := by
  unfold cmpS
  split
  · simp [*]
  · split <;> simp [*]
theorem cmpS_zero (a b : List UInt8) : cmpS a b = 0 ↔ a = b := by
  unfold cmpS
  constructor
  · intro h
    split at h
    · cases h
    · split at h
      · cases h
      · rename_i h1 h2
        exact List.le_antisymm (List.not_lt.1 h2) (List.not_lt.1 h1)
  · rintro rfl
    simp [List.lt_irrefl]
theorem cmpP_lt (a b : Pr) : ltOf cmpP a b = prLt a b := by
  simp only [ltOf, prLt]
  rw [Bool.eq_iff_iff]
  simp only [decide_eq_true_eq, Bool.or_eq_true, Bool.and_eq_true]
  unfold cmpP
  by_cases h : cmpS a.1 b.1 = 0
  · rw [if_neg (by simpa using h)]
    have e := (cmpS_zero _ _).1 h
    rw [cmpS_lt]
    constructor
    · exact fun hl => .inr ⟨e, hl⟩
    · rintro (hl | ⟨_, hl⟩)
      · rw [e] at hl; exact absurd hl (List.lt_irrefl _)
      · exact hl
  · rw [if_pos (by simpa using h), cmpS_lt]
    constructor
    · exact .inl
    · rintro (hl | ⟨e, _⟩)
      · exact hl
      · exact absurd ((cmpS_zero _ _).2 e) h
theorem prLt_iff (a b : Pr) : prLt a b = true ↔ a.1 < b.1 ∨ a.1 = b.1 ∧ a.2 < b.2 := by simp [prLt]
theorem str_tri (a b : List UInt8) : a < b ∨ a = b ∨ b < a := by
  rcases Decidable.em (a < b) with h | h
  · exact .inl h
  · rcases Decidable.em (b < a) with h2 | h2
    · exact .inr (.inr h2)
    · exact .inr (.inl (List.le_antisymm (List.not_lt.1 h2) (List.not_lt.1 h)))
theorem prLt_irrefl (a : Pr) : prLt a a = false := by
  cases h : prLt a a with
  | false => rfl
  | true => rcases (prLt_iff a a).1 h with h | h
            · exact absurd h (List.lt_irrefl _)
            · exact absurd h.2 (List.lt_irrefl _)
theorem prLt_trans {a b c : Pr} (h : prLt a b = true) (k : prLt b c = true) : prLt a c = true := by
  rw [prLt_iff] at *
  rcases h with h | ⟨h, h'⟩ <;> rcases k with k | ⟨k, k'⟩
  · exact .inl (List.lt_trans h k)
  · exact .inl (k ▸ h)
  · exact .inl (h ▸ k)
  · exact .inr ⟨h.trans k, List.lt_trans h' k'⟩
theorem prLt_tri {a b : Pr} (h : prLt a b = false) (k : prLt b a = false) : a = b := by
  have h1 : ¬ (a.1 < b.1 ∨ a.1 = b.1 ∧ a.2 < b.2) := fun e => by rw [(prLt_iff a b).2 e] at h; cases h
  have k1 : ¬ (b.1 < a.1 ∨ b.1 = a.1 ∧ b.2 < a.2) := fun e => by rw [(prLt_iff b a).2 e] at k; cases k
  rcases str_tri a.1 b.1 with e | e | e
  · exact absurd (.inl e) h1
  · rcases str_tri a.2 b.2 with f | f | f
    · exact absurd (.inr ⟨e, f⟩) h1
    · exact Prod.ext e f
    · exact absurd (.inr ⟨e.symm, f⟩) k1
  · exact absurd (.inl e) k1
theorem swoP : SWO (ltOf cmpP) where
  irrefl x := by rw [cmpP_lt]; exact prLt_irrefl x
  trans x y z h k := by rw [cmpP_lt] at *; exact prLt_trans h k
  ntrans x y z h k := by
    rw [cmpP_lt] at *
    cases hz : prLt x z with
    | false => rfl
    | true =>
      cases hyx : prLt y x with
      | true => rw [prLt_trans hyx hz] at k; cases k
      | false =>
        have := prLt_tri h hyx
        subst this
        rw [k] at hz; cases hz
theorem totP (x y : Pr) (h : ltOf cmpP x y = false) (k : ltOf cmpP y x = false) : x = y := by rw [cmpP_lt] at *; exact prLt_tri h k
theorem uniq_pr {ss ks : List Pr} (hp : ks.Perm ss) (hk : ks.Pairwise fun a b => prLt a b = true) : (ss.mergeSort fun x y => !(ltOf cmpP) y x) = ks :=
  sort_uniq (fun a b c h1 h2 => by
      simp only [Bool.not_eq_true', cmpP_lt] at *
      cases hc : prLt c a with
      | false => rfl
      | true =>
        have := swoP.ntrans c b a (by rw [cmpP_lt]; exact h2) (by rw [cmpP_lt]; exact h1)
        rw [cmpP_lt, hc] at this; cases this)
    (fun a b => by
      simp only [cmpP_lt]
      cases h : prLt b a with
      | false => rfl
      | true => cases k : prLt a b with
        | false => rfl
        | true => have := prLt_trans h k; rw [prLt_irrefl] at this; cases this)
    (fun a b h1 h2 => totP a b (by simpa using h2) (by simpa using h1)) hp
    (hk.imp fun {a b} h => by
      simp only [cmpP_lt, Bool.not_eq_true']
      cases k : prLt b a with
      | false => rfl
      | true => have := prLt_trans h k; rw [prLt_irrefl] at this; cases this)
theorem drewN_one (w : World) : w.drewN 1 = w.drew := rfl
end
end Go.Vc
