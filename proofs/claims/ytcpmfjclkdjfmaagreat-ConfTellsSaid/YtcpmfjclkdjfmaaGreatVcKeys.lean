/-
  A range over a map in the fenced walk: what holds of the iterator while other hands lay and turn blocks of theirs.
-/
import Derived.Test.YtcpmfjclkdjfmaaGreatVcIter
import Derived.Sort.MapsRangeIn
import Derived.RangeFuncGives
import Derived.TacticsInMore
import Derived.WalkKit
namespace Go.Vc
open Go Go.RowKit Go.Maps

section
variable {κ ν : Type} {P : Program} {kt et t : TypeId} {kv : κ → Value} {vv : ν → Value} {w : World} {m rest : List (κ × ν)} {b r : Nat}

def MapW (w : World) (b : Nat) (kv : κ → Value) (vv : ν → Value) (m : List (κ × ν)) : Prop := ∃ es clock, w.heap[b]? = some (.map es clock) ∧ ents kv vv es.toList m ∧ (m.map (·.1)).Nodup ∧ goodM es clock
def IterW (w : World) (r b : Nat) (kv : κ → Value) (vv : ν → Value) (m rest : List (κ × ν)) : Prop := ∃ es clock since seen c0, IterOk kv vv m rest es clock since seen c0 ∧ w.heap[r]? = some (.mapIter (some b) since seen c0) ∧ w.heap[b]? = some (.map es clock)
theorem St.mapW {E : World} {L : List Asrt} (h : St E (mapA b kv vv m :: L) w) : MapW w b kv vv m := by
  obtain ⟨es, clock, hs, he, hn, hg⟩ := h.mapA_open
  exact ⟨es, clock, hs.at_blk, he, hn, hg⟩
theorem MapW.later {w' : World} (h : MapW w b kv vv m) (hb : Below w.heap.size w w') : MapW w' b kv vv m := by
  obtain ⟨es, clock, h1, h2⟩ := h
  exact ⟨es, clock, (hb.block b (Array.getElem?_eq_some_iff.1 h1).1).trans h1, h2⟩
theorem IterW.of_walks {w' : World} (h : IterW w r b kv vv m rest) (hk : KeepsWalks w w') : IterW w' r b kv vv m rest := by
  obtain ⟨es, clock, since, seen, c0, ok, h1, h2⟩ := h
  exact ⟨es, clock, since, seen, c0, ok, hk.same r _ h1 rfl, hk.same b _ h2 rfl⟩
theorem IterW.walk (h : IterW w r b kv vv m rest) : ∃ o : Obj, w.heap[r]? = some o ∧ o.isWalk = true := by
  obtain ⟨es, clock, since, seen, c0, _, h1, _⟩ := h
  exact ⟨_, h1, rfl⟩
theorem IterW.left (h : IterW w r b kv vv m rest) : w.rangeLeft b r = rest.length := by
  obtain ⟨es, clock, since, seen, c0, ok, h1, h2⟩ := h
  simp only [World.rangeLeft, h1, h2]
  have := congrArg List.length ok.left
  simp only [List.length_map] at this
  have e : (leftOf es seen).toList = es.toList.filter fun e => !seen.contains e.born := by simp [leftOf]
  rw [← this, ← e, Array.length_toList]
theorem MapW.range (h : MapW w b kv vv m) (ht : P.underlying t = some (.map kt et)) :
    ∃ w', (Instr.range t (.map (some b))).run P w = .ok (.pointer (some ⟨w.heap.size, 0, none⟩)) w' ∧ IterW w' w.heap.size b kv vv m m ∧ w.grownBy w' none ∧ w'.heap.size = w.heap.size + 1 := by
  obtain ⟨es, clock, hb, he, hn, hg⟩ := h
  refine ⟨_, run_range_map w t kt et b es clock ht hb, ⟨es, clock, clock, #[], clock, ⟨he, hn, hg, hg.1, Nat.le_refl _, Nat.le_refl _, ?_⟩, World.alloc_heap_new w _, (Below.heap_alloc w _ b (Array.getElem?_eq_some_iff.1 hb).1).trans hb⟩, World.grownBy_alloc w _ none, by simp⟩
  rw [show (es.toList.filter fun e => !(#[] : Array Nat).contains e.born) = es.toList from List.filter_eq_self.2 fun x _ => by simp]
  exact he
theorem IterW.next (h : IterW w r b kv vv m rest) (ty : TypeId) :
    (rest = [] ∧ (Instr.next (.pointer (some ⟨r, 0, none⟩)) false ty).run P w = .ok (.tuple #[.bool false]) w) ∨
    ∃ r1 p r2 w', rest = r1 ++ p :: r2 ∧ (Instr.next (.pointer (some ⟨r, 0, none⟩)) false ty).run P w = .ok (.tuple #[.bool true, kv p.1, vv p.2]) w' ∧ IterW w' r b kv vv m (r1 ++ r2) ∧ w.grownBy w' (some r) ∧ w'.heap.size = w.heap.size ∧
      (Instr.entry (.pointer (some ⟨r, 0, none⟩))).run P w' = .ok (.tuple #[kv p.1, vv p.2]) w' := by
  obtain ⟨es, clock, since, seen, c0, ok, hr, hb⟩ := h
  have hne : r ≠ b := fun e => by rw [e, hb] at hr; cases hr
  have hleft : (leftOf es seen).toList = es.toList.filter fun e => !seen.contains e.born := by simp [leftOf]
  rcases run_next_at (P := P) w ty r b since c0 seen es clock hr hb ok.old ok.s0 with ⟨h0, hrun⟩ | ⟨e, he, w1, hal, hrun⟩
  · refine .inl ⟨?_, hrun⟩
    have h1 : (leftOf es seen).toList = [] := List.eq_nil_of_length_eq_zero (by simpa using h0)
    have h2 := ok.left
    rw [← hleft, h1] at h2
    simp only [ents, List.map_nil] at h2
    exact List.map_eq_nil_iff.1 h2.symm
  · refine .inr ?_
    have hem : e ∈ es.toList := by rw [hleft] at he; exact (List.mem_filter.1 he).1
    obtain ⟨l1, l2, hl⟩ := List.append_of_mem he
    rw [hleft] at hl
    have hL := ok.left
    rw [hl] at hL
    obtain ⟨m1, p, m2, rfl, hk, hv, hL2⟩ := ents_split hL
    have hr1 : w1.heap[r]? = some (.mapIter (some b) since seen c0) := by rcases hal with rfl | rfl <;> exact hr
    have hb1 : w1.heap[b]? = some (.map es clock) := by rcases hal with rfl | rfl <;> exact hb
    have hlt : r < w1.heap.size := (Array.getElem?_eq_some_iff.1 hr1).1
    have hr2 : (ChangeMaps.setBlock w1 r (.mapIter (some b) since (seen.push e.born) clock)).heap[r]? = some (.mapIter (some b) since (seen.push e.born) clock) := by simp [ChangeMaps.setBlock, hlt]
    have hb2 : (ChangeMaps.setBlock w1 r (.mapIter (some b) since (seen.push e.born) clock)).heap[b]? = some (.map es clock) := by
      simp only [ChangeMaps.setBlock]
      rw [Array.getElem?_setIfInBounds_ne hne]; exact hb1
    have hgr : w.grownBy (ChangeMaps.setBlock w1 r (.mapIter (some b) since (seen.push e.born) clock)) (some r) := by
      rcases hal with rfl | rfl <;> exact ⟨rfl, rfl, rfl, by simp [ChangeMaps.setBlock], fun i _ hi => by
        simp only [ChangeMaps.setBlock]
        rw [Array.getElem?_setIfInBounds_ne (fun e => hi (by rw [e]))]
        try rfl⟩
    have hent : (Instr.entry (.pointer (some ⟨r, 0, none⟩))).run P (ChangeMaps.setBlock w1 r (.mapIter (some b) since (seen.push e.born) clock)) = .ok (.tuple #[kv p.1, vv p.2]) (ChangeMaps.setBlock w1 r (.mapIter (some b) since (seen.push e.born) clock)) := by
      rw [run_entry_at _ r b since seen es clock e hr2 hb2 hem ok.hg.2, hk, hv]
    refine ⟨m1, p, m2, _, rfl, by rw [hrun, hk, hv], ⟨es, clock, since, seen.push e.born, clock, ⟨ok.he, ok.hn, ok.hg, ok.old, ok.s1, ok.s1, ?_⟩, hr2, hb2⟩, hgr, by rcases hal with rfl | rfl <;> simp [ChangeMaps.setBlock], hent⟩
    have := filter_one_less es.toList (fun x => !seen.contains x.born) ok.hg.2 hl
    rw [← this] at hL2
    refine Eq.mp ?_ hL2
    congr 2
    funext x
    by_cases hx : x.born = e.born <;> simp [hx]
end
section
variable {κ ν : Type} {F : Fence} {n : Nat} {P : Program} {kt et t : TypeId} {kv : κ → Value} {vv : ν → Value} (w : World) {m rest : List (κ × ν)} {b r : Nat} {ops : Array Oper} {ro : List Oper} {o : Oper} {a : Act} {Q : Exit → Act → World → Prop}
theorem wpListIn_range_it (hg : o.guard = none) (mo : Operand) (t : TypeId) (hop : o.op = Op.range t mo) (ht : P.underlying t = some (.map kt et)) (hm : a.eval mo = .map (some b)) (h : MapW w b kv vv m)
    (hK : ∀ w', IterW w' w.heap.size b kv vv m m → w.grownBy w' none → w'.heap.size = w.heap.size + 1 → wpListIn F n P ops Q ro (a.put o.dst (.pointer (some ⟨w.heap.size, 0, none⟩))) w') :
    wpListIn F n P ops Q (o :: ro) a w := by
  refine wpListIn_plain hg fun K' hK' => ?_
  obtain ⟨w', hrun, r1, r2, r3⟩ := h.range ht
  unfold Oper.wpIn
  refine ⟨?_, ?_⟩
  · simp [Oper.about, hop]
  · rw [Oper.semAt_plain F _ _ (by rw [hop]; intro c hc'; cases hc')]
    simp [execOp, hop, hm, hrun, Result.andThen]
    exact hK' _ _ (hK w' r1 r2 r3)
theorem wpListIn_next_it (hg : o.guard = none) (it : Operand) (hop : o.op = Op.next it false) (hit : a.eval it = .pointer (some ⟨r, 0, none⟩)) (h : IterW w r b kv vv m rest)
    (hDone : rest = [] → wpListIn F n P ops Q ro (a.put o.dst (.tuple #[.bool false])) w)
    (hMore : ∀ (r1 : List (κ × ν)) (p : κ × ν) (r2 : List (κ × ν)) (w' : World), rest = r1 ++ p :: r2 → IterW w' r b kv vv m (r1 ++ r2) → w.grownBy w' (some r) → w'.heap.size = w.heap.size →
      (Instr.entry (.pointer (some ⟨r, 0, none⟩))).run P w' = .ok (.tuple #[kv p.1, vv p.2]) w' → wpListIn F n P ops Q ro (a.put o.dst (.tuple #[.bool true, kv p.1, vv p.2])) w') :
    wpListIn F n P ops Q (o :: ro) a w := by
  refine wpListIn_plain hg fun K' hK' => ?_
  unfold Oper.wpIn
  refine ⟨by simp [Oper.about, hop], ?_⟩
  rw [Oper.semAt_plain F _ _ (by rw [hop]; intro c hc'; cases hc')]
  rcases h.next (P := P) o.type with ⟨h0, hrun⟩ | ⟨r1, p, r2, w', he, hrun, hrg, hgr, hsz, hen⟩
  · simp [execOp, hop, hit, hrun, Result.andThen]
    exact hK' _ _ (hDone h0)
  · simp [execOp, hop, hit, hrun, Result.andThen]
    exact hK' _ _ (hMore r1 p r2 w' he hrg hgr hsz hen)
end
end Go.Vc
