/-
  The program's store: what a client was told, a store's bytes; what maps hold when one is put in or taken out.
-/
import Derived.Test.YtcpmfjclkdjfmaaGreatConfH
namespace Go.Vc
open Go Go.Proofs Go.Proofs.YtcpmfjclkdjfmaaGreat
set_option maxRecDepth 100000
section
variable {κ ν : Type} [DecidableEq κ] {m : List (κ × ν)} {a : κ} {v : ν}
def butM (m : List (κ × ν)) (a : κ) : List (κ × ν) := m.filter fun e => !decide (e.1 = a)
theorem butM_self (h : a ∉ m.map (·.1)) : butM m a = m := List.filter_eq_self.2 fun e he => by
  simp only [Bool.not_eq_true', decide_eq_false_iff_not]
  exact fun h' => h (h' ▸ List.mem_map_of_mem he)
theorem mset_perm : ∀ {m : List (κ × ν)}, (m.map (·.1)).Nodup → ∀ (a : κ) (v : ν), (mset m a v).Perm ((a, v) :: butM m a)
  | [], _, _, _ => List.Perm.refl _
  | p :: r, hn, a, v => by
    rw [List.map_cons, List.nodup_cons] at hn
    unfold mset
    split
    · rename_i h
      have : butM (p :: r) a = r := by
        unfold butM
        rw [List.filter_cons, if_neg (by simp [h])]
        exact butM_self (by rw [← h]; exact hn.1)
      rw [this]
    · rename_i h
      have : butM (p :: r) a = p :: butM r a := by
        unfold butM
        rw [List.filter_cons, if_pos (by simp [h])]
      rw [this]
      exact ((mset_perm hn.2 a v).cons p).trans (.swap ..)
theorem mdel_eq : ∀ {m : List (κ × ν)}, (m.map (·.1)).Nodup → ∀ (a : κ), mdel m a = butM m a
  | [], _, _ => rfl
  | p :: r, hn, a => by
    rw [List.map_cons, List.nodup_cons] at hn
    unfold mdel
    split
    · rename_i h
      unfold butM
      rw [List.filter_cons, if_neg (by simp [h])]
      exact (butM_self (by rw [← h]; exact hn.1)).symm
    · rename_i h
      have : butM (p :: r) a = p :: butM r a := by
        unfold butM
        rw [List.filter_cons, if_pos (by simp [h])]
      rw [this, mdel_eq hn.2 a]
theorem butM_nodup (h : (m.map (·.1)).Nodup) (a : κ) : ((butM m a).map (·.1)).Nodup := h.sublist (List.Sublist.map _ List.filter_sublist)
theorem butM_not (a : κ) : a ∉ (butM m a).map (·.1) := fun h => by
  obtain ⟨e, he, h1⟩ := List.mem_map.1 h
  have := (List.mem_filter.1 he).2
  simp [h1] at this
/-- Put in and taken out again: what is left is all but that. -/
theorem undo_del (h : (m.map (·.1)).Nodup) (a : κ) (v : ν) : (mdel (mset m a v) a).Perm (butM m a) := by
  rw [mdel_eq (nodup_mset h a v)]
  have h1 := (mset_perm h a v).filter fun e => !decide (e.1 = a)
  refine h1.trans ?_
  rw [List.filter_cons, if_neg (by simp)]
  exact List.Perm.of_eq (List.filter_eq_self.2 fun e he => (List.mem_filter.1 he).2)
theorem but_back (h : (m.map (·.1)).Nodup) (hv : mget m a = some v) : ((a, v) :: butM m a).Perm m := by
  have h2 : mset m a v = m := by
    clear h
    induction m with
    | nil => cases hv
    | cons p r ih =>
      rw [mget_cons] at hv
      unfold mset
      split
      · rename_i h; rw [if_pos h] at hv; cases hv; rw [← h]
      · rename_i h; rw [if_neg h] at hv; rw [ih hv]
  have := mset_perm h a v
  rw [h2] at this
  exact this.symm
theorem undo_set (h : (m.map (·.1)).Nodup) {v' : ν} (hv : mget m a = some v) : (mset (mdel (mset m a v') a) a v).Perm m := by
  refine (mset_perm (nodup_mdel (nodup_mset h a v') a) a v).trans ?_
  refine List.Perm.trans (List.Perm.cons _ ?_) (but_back h hv)
  have := (undo_del h a v').filter fun e => !decide (e.1 = a)
  refine this.trans (List.Perm.of_eq (List.filter_eq_self.2 fun e he => (List.mem_filter.1 he).2))
theorem undo_none (h : (m.map (·.1)).Nodup) {v' : ν} (hv : mget m a = none) : (mdel (mset m a v') a).Perm m := by
  refine (undo_del h a v').trans (List.Perm.of_eq (butM_self (mget_none_iff.1 hv)))
end
section
variable {E w : World} {L : List Asrt} {R : Ending → World → Prop} {F G : Fz} {p : Nat} {s : Cm.Sm} {n : Cm.Bs}
theorem but_pools {M : List (Cm.Bs × PV)} (h : poolsR F M s.pools) : poolsR F (butM M n) (Cm.butPool s n) := by
  refine ⟨fun e he => h.1 e (List.mem_filter.1 he).1, ?_⟩
  have := h.2.filter fun p => !decide (p.name = n)
  refine List.Perm.trans (List.Perm.of_eq ?_) this
  rw [List.filter_map]; rfl
theorem put_pools {M : List (Cm.Bs × PV)} (h : poolsR F M s.pools) (hn : (M.map (·.1)).Nodup) {v : PV} (hv : goodP F v) : poolsR F (mset M n v) (Cm.put Cm.plLt (Cm.butPool s n) ⟨n, v.2⟩) := by
  have hp := mset_perm hn n v
  refine ⟨fun e he => ?_, ?_⟩
  · rcases List.mem_cons.1 (hp.mem_iff.1 he) with rfl | he
    · exact hv
    · exact h.1 e (List.mem_filter.1 he).1
  · refine (hp.map plOf).trans ?_
    refine List.Perm.trans (List.Perm.cons _ (but_pools h).2) (Cm.put_but_perm ⟨n, v.2⟩).symm
theorem poolsR.perm {M M' : List (Cm.Bs × PV)} {ps : List Cm.Pl} (h : poolsR F M ps) (hp : M'.Perm M) : poolsR F M' ps := ⟨fun e he => h.1 e (hp.mem_iff.1 he), (hp.map plOf).trans h.2⟩
theorem there_get {M : List (Cm.Bs × PV)} (h : poolsR F M s.pools) : (mget M n).isSome = Cm.there s n := by
  have hk := names_perm h
  cases hv : mget M n with
  | none =>
    have h1 := mget_none_iff.1 hv
    cases ht : Cm.there s n with
    | false => rfl
    | true =>
      simp only [Cm.there, List.any_eq_true, decide_eq_true_eq] at ht
      obtain ⟨x, hx, hxn⟩ := ht
      exact absurd (hk.mem_iff.1 (hxn ▸ List.mem_map_of_mem (f := nmK) hx)) h1
  | some v =>
    have h1 := hk.mem_iff.2 (List.mem_map_of_mem (f := (·.1)) (mget_some hv))
    obtain ⟨x, hx, hxn⟩ := List.mem_map.1 h1
    refine (List.any_eq_true.2 ⟨x, hx, ?_⟩).symm
    exact decide_eq_true hxn
theorem but_routes {M : List (Pr × Cm.Bs)} {h' p' : Cm.Bs} (h : routesR M s.routes) : routesR (butM M (h', p')) (Cm.butRoute s h' p') := by
  have := h.filter fun e => !decide (e.1 = (h', p'))
  refine List.Perm.trans this (List.Perm.of_eq ?_)
  rw [List.filter_map]
  congr 1
  unfold Cm.butRoute
  congr 1
  funext r
  simp [rtK, Cm.isAt, Prod.mk.injEq]
theorem put_routes {M : List (Pr × Cm.Bs)} {x : Cm.Rt} (h : routesR M s.routes) (hn : (M.map (·.1)).Nodup) : routesR (mset M (x.host, x.pfx) x.pool) (Cm.put Cm.rtLt (Cm.butRoute s x.host x.pfx) x) := by
  refine (mset_perm hn _ _).trans ?_
  refine List.Perm.trans (List.Perm.cons _ (but_routes h)) ?_
  exact ((Cm.put_butR_perm x).map rtK).symm
theorem known_get {M : List (Pr × Cm.Bs)} {h' p' : Cm.Bs} (h : routesR M s.routes) : (mget M (h', p')).isSome = Cm.known s h' p' := by
  have hk := places_perm h
  cases hv : mget M (h', p') with
  | none =>
    have h1 := mget_none_iff.1 hv
    cases ht : Cm.known s h' p' with
    | false => rfl
    | true =>
      simp only [Cm.known, List.any_eq_true, Cm.isAt, Bool.and_eq_true, decide_eq_true_eq] at ht
      obtain ⟨x, hx, hx1, hx2⟩ := ht
      refine absurd (hk.mem_iff.1 ?_) h1
      have := List.mem_map_of_mem (f := plK) hx
      rw [← hx1, ← hx2]; exact this
  | some v =>
    have h1 := hk.mem_iff.2 (List.mem_map_of_mem (f := (·.1)) (mget_some hv))
    obtain ⟨x, hx, hxn⟩ := List.mem_map.1 h1
    refine (List.any_eq_true.2 ⟨x, hx, ?_⟩).symm
    simp only [plK, Prod.mk.injEq] at hxn
    simp [Cm.isAt, hxn.1, hxn.2]
theorem client_get {M : List (Int × LV)} (h : clientsR M s.l) (hn : (M.map (·.1)).Nodup) (k : Int) : (mget M k).getD (0, 0, 0) = Cm.seenC s k := by
  unfold Cm.seenC
  cases hf : s.l.find? fun x => decide (x.client = k) with
  | some x =>
    have hx := List.mem_of_find?_eq_some hf
    have hk : x.client = k := by have := List.find?_some hf; simpa using this
    have : laK x ∈ M := h.mem_iff.2 (List.mem_map_of_mem hx)
    have := mget_mem hn this
    rw [show (laK x).1 = k from hk] at this
    rw [this]; rfl
  | none =>
    have : mget M k = none := mget_none_of fun hm => by
      obtain ⟨e, he, hek⟩ := List.mem_map.1 hm
      obtain ⟨x, hx, hxe⟩ := List.mem_map.1 (h.mem_iff.1 he)
      have := List.find?_eq_none.1 hf x hx
      rw [← hek, ← hxe] at this
      simp [laK] at this
    rw [this]; rfl
theorem put_clients {M : List (Int × LV)} {x : Cm.Last} (h : clientsR M s.l) (hn : (M.map (·.1)).Nodup) : clientsR (mset M x.client (x.seq, x.e, x.ver)) (Cm.put Cm.laLt s.l x) := by
  refine (mset_perm hn _ _).trans ?_
  refine List.Perm.trans (List.Perm.cons _ ?_) (((Cm.put_perm Cm.laOrd s.l x).map laK).symm)
  have := h.filter fun e => !decide (e.1 = x.client)
  refine List.Perm.trans this (List.Perm.of_eq ?_)
  rw [List.filter_map]
  congr 1
theorem look_client {mc : Nat} {Mc : List (Int × LV)} (hc : clientsR Mc s.l) (h : St E (mapA mc encI lvV Mc :: L) w) (k : Int) :
    (Instr.lookup 77 (.map (some mc)) (.int .i64 k) false).run Tryz.prog w = .ok (lvV (Cm.seenC s k)) w := by
  have := lookup_run intLaw und_clients tm_seen h k
  rw [← client_get hc h.nodup]
  cases hv : mget Mc k <;> rw [hv] at this <;> exact this
/-- (*Store).Seen: what a client was told last. -/
theorem Seen_spec {c : Int} (h : St E (stA F p s :: L) w) (k : ∀ w', St E (stA F p s :: L) w' → R (.returned (.tuple #[.int .i64 (Cm.seenC s c).1, .agg #[.int .i64 (Cm.seenC s c).2.1, .int .i64 (Cm.seenC s c).2.2]])) w') :
    Calls Tryz.prog 24 #[.pointer (some ⟨p, 0, none⟩), .int .i64 c] w R := by
  obtain ⟨mp, mr, mc, Mp, Mr, Mc, hp, hr, hc, h⟩ := h.st_open
  refine C_conf_Store_Seen ?_
  unfold T_conf_Store_Seen
  intro w3
  have h3 := h.alloc (.cells #[.int .i64 0, .int .i64 0] 45)
  refine ite_some ⟨_, rfl, _, rd_fld h3.f1.at_blk rfl rfl, runV_ok (look_client hc h3.f4 c) ⟨_, _, _, rfl, ?_⟩⟩
  generalize Cm.seenC s c = q at *
  intro w14
  have h14 := h3.alloc (.cells #[.int .i64 0, .int .i64 0, .int .i64 0] 91)
  refine ⟨rfl, wrOk_agg h14.at_blk (xs := [.int .i64 q.1, .int .i64 q.2.1, .int .i64 q.2.2]) (by simp) (by intro u hu; simp at hu; rcases hu with rfl | rfl | rfl <;> rfl), ?_⟩
  intro w15 w16
  have h16 : St E (blkL w3.heap.size 91 [.int .i64 q.1, .int .i64 q.2.1, .int .i64 q.2.2] :: blkL w.heap.size 45 [.int .i64 0, .int .i64 0] :: st4 p s.ver mp mr mc Mp Mr Mc L) w16 := (h14.wr_agg0 (xs := [.int .i64 q.1, .int .i64 q.2.1, .int .i64 q.2.2]) rfl).drew
  refine ⟨_, rd_cell h16.at_blk rfl rfl, _, _, rd_agg (xs := [.int .i64 q.2.1, .int .i64 q.2.2]) h16.at_blk (off := 1) (by intro i u hu; rw [Nat.add_comm]; exact hu), rfl, wrOk_agg h16.f1.at_blk (xs := [.int .i64 q.2.1, .int .i64 q.2.2]) (by simp) (by intro u hu; simp at hu; rcases hu with rfl | rfl <;> rfl), ?_⟩
  intro w20
  have h20 := h16.f1.wr_agg0 (xs := [.int .i64 q.2.1, .int .i64 q.2.2]) rfl
  refine ⟨trivial, _, _, rd_agg (xs := [.int .i64 q.2.1, .int .i64 q.2.2]) h20.at_blk (by intro i u hu; rw [Nat.zero_add]; exact hu), k _ (St.st_mk hp hr hc h20.drop.drop)⟩
end
end Go.Vc
