/-
  A range over a map of ours, step by step.
-/
import Derived.Test.YtcpmfjclkdjfmaaGreatVcFz
import Derived.Maps.RangeRun
namespace Go.Vc
open Go Go.RowKit

section
variable {κ ν : Type} [DecidableEq κ] {P : Program} {kt et t : TypeId} {kv : κ → Value} {vv : ν → Value} {E w : World} {L : List Asrt} {m rest : List (κ × ν)} {b r : Nat}

structure IterOk (kv : κ → Value) (vv : ν → Value) (m rest : List (κ × ν)) (es : Array MapEntry) (clock since : Nat) (seen : Array Nat) (c0 : Nat) : Prop where
  he : ents kv vv es.toList m
  hn : (m.map (·.1)).Nodup
  hg : goodM es clock
  old : ∀ x ∈ es.toList, x.born < since
  s0 : since ≤ c0
  s1 : since ≤ clock
  left : ents kv vv (es.toList.filter fun e => !seen.contains e.born) rest
/-- The iterator in block r over the map in block b, which holds m: these are still to come. -/
def iterA (r b : Nat) (kv : κ → Value) (vv : ν → Value) (m rest : List (κ × ν)) : Asrt := fun h => ∃ es clock since seen c0, IterOk kv vv m rest es clock since seen c0 ∧
  seps [blk r (.mapIter (some b) since seen c0), blk b (.map es clock)] h

omit [DecidableEq κ] in
theorem St.iter_open (h : St E (iterA r b kv vv m rest :: L) w) : ∃ es clock since seen c0, IterOk kv vv m rest es clock since seen c0 ∧ St E (blk r (.mapIter (some b) since seen c0) :: blk b (.map es clock) :: L) w := by
  obtain ⟨en, x, ⟨h1, h2, d, rfl, ⟨es, clock, since, seen, c0, ok, hs⟩, hL⟩, hl⟩ := h
  exact ⟨es, clock, since, seen, c0, ok, (St.open_ (L1 := [_, _]) ⟨en, _, ⟨h1, h2, d, rfl, hs, hL⟩, hl⟩ :)⟩
omit [DecidableEq κ] in
theorem St.iter_mk {es : Array MapEntry} {clock since : Nat} {seen : Array Nat} {c0 : Nat} (ok : IterOk kv vv m rest es clock since seen c0) (h : St E (blk r (.mapIter (some b) since seen c0) :: blk b (.map es clock) :: L) w) : St E (iterA r b kv vv m rest :: L) w :=
  (St.shut (L1 := [_, _]) h).mono fun _ hx => ⟨es, clock, since, seen, c0, ok, hx⟩
omit [DecidableEq κ] in
theorem St.iter_done (h : St E (iterA r b kv vv m rest :: L) w) : St E (mapA b kv vv m :: L) w := by
  obtain ⟨es, clock, since, seen, c0, ok, hs⟩ := h.iter_open
  exact hs.drop.mapA_mk ok.he ⟨ok.hn, ok.hg⟩
omit [DecidableEq κ] in
theorem range_run (ht : P.underlying t = some (.map kt et)) (h : St E (mapA b kv vv m :: L) w) :
    ∃ w', (Instr.range t (.map (some b))).run P w = .ok (.pointer (some ⟨w.heap.size, 0, none⟩)) w' ∧ St E (iterA w.heap.size b kv vv m m :: L) w' := by
  obtain ⟨es, clock, hs, he, hn, hg⟩ := h.mapA_open
  refine ⟨_, run_range_map w t kt et b es clock ht hs.at_blk, St.iter_mk ⟨he, hn, hg, hg.1, Nat.le_refl _, Nat.le_refl _, ?_⟩ (hs.alloc _)⟩
  rw [show (es.toList.filter fun e => !(#[] : Array Nat).contains e.born) = es.toList from List.filter_eq_self.2 fun x _ => by simp]
  exact he
omit [DecidableEq κ] in
theorem ents_split : ∀ {es1 : List MapEntry} {e : MapEntry} {es2 : List MapEntry} {m : List (κ × ν)}, ents kv vv (es1 ++ e :: es2) m → ∃ m1 p m2, m = m1 ++ p :: m2 ∧ e.key = kv p.1 ∧ e.val = vv p.2 ∧ ents kv vv (es1 ++ es2) (m1 ++ m2)
  | [], e, es2, [], h => by simp [ents] at h
  | [], e, es2, p :: m, h => by
    simp only [ents, List.nil_append, List.map_cons, List.cons.injEq, Prod.mk.injEq] at h
    exact ⟨[], p, m, rfl, h.1.1, h.1.2, by simpa [ents] using h.2⟩
  | e1 :: es1, e, es2, [], h => by simp [ents] at h
  | e1 :: es1, e, es2, q :: m, h => by
    simp only [ents, List.cons_append, List.map_cons, List.cons.injEq] at h
    obtain ⟨m1, p, m2, rfl, h1, h2, h3⟩ := ents_split (es1 := es1) (e := e) (es2 := es2) (m := m) h.2
    refine ⟨q :: m1, p, m2, rfl, h1, h2, ?_⟩
    simp only [ents, List.cons_append, List.map_cons, List.cons.injEq]
    exact ⟨h.1, h3⟩
theorem filter_one_less {l1 l2 : List MapEntry} {e : MapEntry} : ∀ (l : List MapEntry) (p : MapEntry → Bool), (l.map (·.born)).Nodup → l.filter p = l1 ++ e :: l2 → l.filter (fun x => p x && !(x.born == e.born)) = l1 ++ l2 := by
  intro l p hn hf
  have h1 : l.filter (fun x => p x && !(x.born == e.born)) = (l.filter p).filter (fun x => !(x.born == e.born)) := by
    rw [List.filter_filter]
    congr 1
    funext x
    cases p x <;> simp
  have hn2 : ((l1 ++ e :: l2).map (·.born)).Nodup := by rw [← hf]; exact hn.sublist (List.filter_sublist.map _)
  rw [h1, hf]
  rw [List.map_append, List.map_cons, List.nodup_append, List.nodup_cons] at hn2
  rw [List.filter_append, List.filter_cons, if_neg (by simp)]
  congr 1
  · refine List.filter_eq_self.2 fun x hx => ?_
    have := hn2.2.2 x.born (List.mem_map_of_mem hx) e.born (by simp)
    simpa using this
  · refine List.filter_eq_self.2 fun x hx => ?_
    have : e.born ∉ l2.map (·.born) := hn2.2.1.1
    have h3 : x.born ≠ e.born := fun he => this (he ▸ List.mem_map_of_mem hx)
    simpa using h3
omit [DecidableEq κ] in
theorem next_run (ty : TypeId) (h : St E (iterA r b kv vv m rest :: L) w) :
    (rest = [] ∧ (Instr.next (.pointer (some ⟨r, 0, none⟩)) false ty).run P w = .ok (.tuple #[.bool false]) w) ∨
    ∃ r1 p r2 w', rest = r1 ++ p :: r2 ∧ (Instr.next (.pointer (some ⟨r, 0, none⟩)) false ty).run P w = .ok (.tuple #[.bool true, kv p.1, vv p.2]) w' ∧ St E (iterA r b kv vv m (r1 ++ r2) :: L) w' ∧
      (Instr.entry (.pointer (some ⟨r, 0, none⟩))).run P w' = .ok (.tuple #[kv p.1, vv p.2]) w' := by
  obtain ⟨es, clock, since, seen, c0, ok, hs⟩ := h.iter_open
  have hleft : (leftOf es seen).toList = es.toList.filter fun e => !seen.contains e.born := by simp [leftOf]
  rcases run_next_at (P := P) w ty r b since c0 seen es clock hs.at_blk hs.f1.at_blk ok.old ok.s0 with ⟨h0, hrun⟩ | ⟨e, he, w1, hal, hrun⟩
  · refine .inl ⟨?_, hrun⟩
    have h1 : (leftOf es seen).toList = [] := List.eq_nil_of_length_eq_zero (by simpa using h0)
    have h2 := ok.left
    rw [← hleft, h1] at h2
    simp only [ents, List.map_nil] at h2
    exact List.map_eq_nil_iff.1 h2.symm
  · refine .inr ?_
    obtain ⟨l1, l2, hl⟩ := List.append_of_mem he
    rw [hleft] at hl
    have hL := ok.left
    rw [hl] at hL
    obtain ⟨m1, p, m2, rfl, hk, hv, hL2⟩ := ents_split hL
    have hs1 : St E (blk r (.mapIter (some b) since seen c0) :: blk b (.map es clock) :: L) w1 := by
      rcases hal with rfl | rfl
      · exact hs
      · exact hs.drew
    have hlt : r < w1.heap.size := (Array.getElem?_eq_some_iff.1 hs1.at_blk).1
    have hem : e ∈ es.toList := by rw [hleft] at he; exact (List.mem_filter.1 he).1
    have hs2 : St E (blk r (.mapIter (some b) since (seen.push e.born) clock) :: blk b (.map es clock) :: L) (ChangeMaps.setBlock w1 r (.mapIter (some b) since (seen.push e.born) clock)) := by
      refine hs1.upd ⟨rfl, rfl, rfl⟩ ?_ fun c hc _ => ?_
      · simp [ChangeMaps.setBlock, hlt]
      · simp [ChangeMaps.setBlock, Array.getElem?_setIfInBounds_ne (fun e => hc e.symm)]
    refine ⟨m1, p, m2, ChangeMaps.setBlock w1 r (.mapIter (some b) since (seen.push e.born) clock), rfl, by rw [hrun, hk, hv], St.iter_mk (since := since) (seen := seen.push e.born) (c0 := clock) ⟨ok.he, ok.hn, ok.hg, ok.old, ok.s1, ok.s1, ?_⟩ hs2,
      by rw [run_entry_at _ r b since seen es clock e hs2.at_blk hs2.f1.at_blk hem ok.hg.2, hk, hv]⟩
    · have := filter_one_less es.toList (fun x => !seen.contains x.born) ok.hg.2 hl
      rw [← this] at hL2
      refine Eq.mp ?_ hL2
      congr 2
      funext x
      by_cases hx : x.born = e.born <;> simp [hx]
end
end Go.Vc
