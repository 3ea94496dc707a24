/-
  Texts of this claim's own, laid into one: ConfRr.
-/
import Derived.Test.YtcpmfjclkdjfmaaGreatXConfLoadsA
import Derived.Test.YtcpmfjclkdjfmaaGreatXConfLoadsB
import Derived.Test.YtcpmfjclkdjfmaaGreatXConfLoadsC
import Derived.Test.YtcpmfjclkdjfmaaGreatXConfLoadsD
import Derived.Test.YtcpmfjclkdjfmaaGreatXConfLoadsE
import Derived.Test.YtcpmfjclkdjfmaaGreatXConfLoadsF
set_option linter.all false
/-
  The document's Load: which stores may be; Load, whole; the law ConfLoads.
-/
namespace Go.Cm
theorem rises_snoc {α : Type} (lt : α → α → Bool) : ∀ (l : List α) (x : α), rises lt (l ++ [x]) = (rises lt l && (match l.getLast? with | none => true | some y => lt y x))
  | [], _ => rfl
  | [a], x => by simp [rises]
  | a :: b :: r, x => by
    have ih := rises_snoc lt (b :: r) x
    simp only [List.cons_append] at ih ⊢
    show (lt a b && rises lt (b :: (r ++ [x]))) = _
    rw [ih]
    have : (a :: b :: r).getLast? = (b :: r).getLast? := by simp [List.getLast?_cons_cons]
    rw [this]
    show _ = ((lt a b && rises lt (b :: r)) && _)
    rw [Bool.and_assoc]
/-- The first j are all good, and rise. -/
def okTo {α : Type} (lt : α → α → Bool) (g : α → Bool) (l : List α) (j : Nat) : Bool := (l.take j).all g && rises lt (l.take j)
theorem okTo_zero {α : Type} (lt : α → α → Bool) (g : α → Bool) (l : List α) : okTo lt g l 0 = true := by simp [okTo, rises]
theorem okTo_all {α : Type} (lt : α → α → Bool) (g : α → Bool) (l : List α) : okTo lt g l l.length = (l.all g && rises lt l) := by simp [okTo]
theorem okTo_one {α : Type} {lt : α → α → Bool} {g : α → Bool} {l : List α} (h : 0 < l.length) : okTo lt g l 1 = g l[0] := by
  obtain ⟨a, r, rfl⟩ : ∃ a r, l = a :: r := by cases l with | nil => simp at h | cons a r => exact ⟨a, r, rfl⟩
  simp [okTo, rises]
theorem okTo_succ {α : Type} {lt : α → α → Bool} {g : α → Bool} {l : List α} {j : Nat} (h : j + 1 < l.length) : okTo lt g l (j + 1 + 1) = (okTo lt g l (j + 1) && (g l[j + 1] && lt l[j] l[j + 1])) := by
  unfold okTo
  have e1 : l.take (j + 1 + 1) = l.take (j + 1) ++ [l[j + 1]] := List.take_succ_eq_append_getElem h
  have e2 : (l.take (j + 1)).getLast? = some l[j] := by
    rw [List.take_succ_eq_append_getElem (by omega : j < l.length)]
    exact List.getLast?_concat ..
  rw [e1, rises_snoc, e2, List.all_append]
  simp only [List.all_cons, List.all_nil, Bool.and_true]
  cases (l.take (j + 1)).all g <;> cases g l[j + 1] <;> cases rises lt (l.take (j + 1)) <;> cases lt l[j] l[j + 1] <;> rfl
theorem okTo_false {α : Type} {lt : α → α → Bool} {g : α → Bool} {l : List α} {j : Nat} (hj : j ≤ l.length) (h : okTo lt g l j = false) : (l.all g && rises lt l) = false := by
  rw [← okTo_all]
  have key : ∀ i, j + i ≤ l.length → okTo lt g l (j + i) = false := by
    intro i
    induction i with
    | zero => intro _; exact h
    | succ i ih =>
      intro hi
      have := ih (by omega)
      rw [← Nat.add_assoc]
      cases hji : j + i with
      | zero => rw [hji, okTo_zero] at this; cases this
      | succ m =>
        rw [hji] at this
        rw [okTo_succ (by omega), this]; rfl
  have := key (l.length - j) (by omega)
  rwa [show j + (l.length - j) = l.length by omega] at this
def gPl (p : Pl) : Bool := isName p.name && decide (chkT p.tg = 0)
def gRt (ps : List Pl) (r : Rt) : Bool := ps.any (fun p => decide (p.name = r.pool)) && isHost r.host && isPfx r.pfx
theorem right_eq2 (s : Sm) : right s = ((((s.pools.all gPl && rises plLt s.pools) && (s.routes.all (gRt s.pools) && rises rtLt s.routes)) && (s.l.all (rightL s.ver) && rises laLt s.l)) && decide ((confB s.pools s.routes).length ≤ 12000)) := rfl
end Go.Cm
namespace Go.Vc
open Go Go.Proofs Go.Proofs.YtcpmfjclkdjfmaaGreat Go.RowKit
set_option maxRecDepth 100000
section
variable {E w : World} {L : List Asrt} {R : Ending → World → Prop} {F G : Fz} {q : Sl} {b : Cm.Bs} {st : Cm.Ps} {r r0 : Nat} {v : Int} {ra pa la : Sl} {ps : List PlS} {rs : List Cm.Rt} {ls : List Cm.Last}
theorem rr1 {Kn : World → Prop} {Kr : Bool → World → Prop} {Kp : List PanicEntry → World → Prop} (hm : kn F ∈ L) (hr : RdF F pa.1 pa.2.1 2 (ps.flatMap pcV)) (ht : ∀ x ∈ ps, RdF F x.1.1 x.1.2.1 2 (x.2.tg.flatMap tV)) (hl : ps.length ≤ 1000)
    (hg : ∀ x ∈ ps, x.2.name.length ≤ huge ∧ okTs x.2.tg) (h : St E (rsA r0 v ra pa la :: L) w)
    (k1 : ∀ w', ((ps.map (·.2)).all Cm.gPl && Cm.rises Cm.plLt (ps.map (·.2))) = true → St E (rsA r0 v ra pa la :: L) w' → Kn w')
    (k2 : ∀ w', ((ps.map (·.2)).all Cm.gPl && Cm.rises Cm.plLt (ps.map (·.2))) = false → St E (rsA r0 v ra pa la :: L) w' → Kr false w') : T_ref08_right_1 0 (some ⟨r0, 0, none⟩) w Kn Kr Kp := by
  have n1 := hr.count pcV_len (by decide) h (mem1 hm)
  have nm : (ps.map (·.2)).length = ps.length := List.length_map _
  unfold T_ref08_right_1
  intro X hX
  refine up_to ps.length (Q := fun j => ∀ w, Cm.okTo Cm.plLt Cm.gPl (ps.map (·.2)) j = true → St E (rsA r0 v ra pa la :: L) w → X (j : Int) w) ?_ w (Cm.okTo_zero ..) h
  intro j hj ih w hok h
  refine hX _ _ ?_
  unfold T_ref08_right_1_body
  refine ⟨_, rfl, _, _, _, rd_fld h.at_blk rfl rfl, ?_⟩
  rw [← n1]
  refine ite_d (fun hc => ?_) fun hc => ?_
  · have hjl : j < ps.length := by omega
    have hgo : ∀ {w : World}, (∃ i, i = j + 1 ∧ Cm.okTo Cm.plLt Cm.gPl (ps.map (·.2)) i = false) → St E (rsA r0 v ra pa la :: L) w → Kr false w := fun {w} ⟨i, hi, hf⟩ h => k2 w (Cm.okTo_false (by omega) hf) h
    have hgj : (ps.map (·.2))[j]'(by omega) = ps[j].2 := List.getElem_map _
    have hF : Cm.gPl ps[j].2 = false → Cm.okTo Cm.plLt Cm.gPl (ps.map (·.2)) (j + 1) = false := fun hz => by
      cases j with
      | zero => rw [Cm.okTo_one (by omega), hgj, hz]
      | succ m => rw [Cm.okTo_succ (by omega), hgj, hz]; simp
    obtain ⟨ad, ha, hel, hk⟩ := (hr.at h (mem1 hm)).elem pcV_len (List.getElem?_eq_getElem hjl) (by decide)
    rw [Int.toNat_natCast]
    refine ⟨_, rfl, _, _, _, rd_fld h.at_blk rfl rfl, by omega, by omega, ad, ha, _, _, _, _, hel, ?_⟩
    obtain ⟨gn, gt⟩ := hg _ (List.getElem_mem hjl)
    have htj := ht _ (List.getElem_mem hjl)
    generalize hx : ps[j] = x at *
    intro w11
    have h11 := h.alloc (.cells #[.string (ByteArray.mk #[]), .slice none 0 0] 34)
    refine ⟨rfl, wrOk_agg h11.at_blk (xs := pcV x) (Nat.le_refl 2) (by intro u hu; simp [pcV] at hu; rcases hu with rfl | rfl <;> rfl), ?_⟩
    intro w12 w13
    have h13 : St E (blkL w.heap.size 34 (pcV x) :: rsA r0 v ra pa la :: L) w13 := (h11.wr_agg0 (xs := pcV x) rfl).drew
    clear_value w13
    clear h11
    clear_value w12 w11
    generalize w.heap.size = bx at *
    refine ⟨_, rd_cell h13.at_blk rfl rfl, ?_⟩
    refine PoolName_spec h13 gn fun w16 h16 => ⟨_, rfl, trivial, ite_n (fun hz => ⟨trivial, hgo ⟨j + 1, rfl, hF (by unfold Cm.gPl; rw [hz]; rfl)⟩ h16.drop⟩) fun hz => ?_⟩
    refine ⟨_, _, _, rd_fld h16.at_blk rfl rfl, ?_⟩
    refine rightTargets_spec (s := x.1) (mem2 hm) h16 htj gt fun w20 h20 => ⟨_, rfl, trivial, ite_b (fun hh => hgo ⟨j + 1, rfl, hF ?_⟩ h20.drop) fun hh => ?_⟩
    · have : Cm.chkT x.2.tg ≠ 0 := by simpa using hh
      unfold Cm.gPl; simp [this]
    have hz2 : Cm.chkT x.2.tg = 0 := by simpa using hh
    have hgx : Cm.gPl x.2 = true := by unfold Cm.gPl; rw [hz, hz2]; rfl
    cases j with
    | zero =>
      refine ite_d (fun hh => absurd hh (by omega)) fun _ => ?_
      rw [succ_big (by unfold big; omega)]
      exact ih hjl w20 (by rw [Cm.okTo_one (by omega), hgj, hgx]) h20.drop
    | succ m =>
      refine ite_d (fun _ => ?_) fun hh => absurd (show ((m + 1 : Nat) : Int) > 0 by omega) hh
      have hw : IntKind.wrap .i64 (((m + 1 : Nat) : Int) - 1) = (m : Int) := by rw [wrap_id (by omega) (by omega)]; omega
      rw [hw, Int.toNat_natCast]
      obtain ⟨ad2, ha2, _, hk2⟩ := (hr.at h20 (mem2 hm)).elem pcV_len (List.getElem?_eq_getElem (show m < ps.length by omega)) (by decide)
      refine ⟨_, rfl, _, _, _, rd_fld h20.f1.at_blk rfl rfl, by omega, by omega, ad2, ha2, _, hk2 0 _ rfl rfl, _, rd_cell h20.at_blk rfl rfl, ?_⟩
      have hgm : (ps.map (·.2))[m]'(by omega) = (ps[m]'(by omega)).2 := List.getElem_map _
      have hs : Cm.okTo Cm.plLt Cm.gPl (ps.map (·.2)) (m + 1 + 1) = decide ((ps[m]'(by omega)).2.name < x.2.name) := by
        rw [Cm.okTo_succ (by omega), hok, hgj, hgm, hgx]; rfl
      rw [bytesLess_eq, bs_toList, bs_toList]
      refine ite_n (fun hz => hgo ⟨m + 1 + 1, rfl, by rw [hs, hz]⟩ h20.drop) fun hz => ?_
      rw [succ_big (by unfold big; omega)]
      exact ih hjl w20 (by rw [hs, hz]) h20.drop
  · have : j = ps.length := by omega
    subst this
    refine k1 w ?_ h
    rw [← Cm.okTo_all, nm]; exact hok
theorem rr3 {Kn : Bool → World → Prop} {Kp : List PanicEntry → World → Prop} {bx : Nat} {x : Cm.Rt} (hm : kn F ∈ L) (hr : RdF F pa.1 pa.2.1 2 (ps.flatMap pcV)) (hl : ps.length ≤ 1000) (h : St E (blkL bx 36 (rcV x) :: rsA r0 v ra pa la :: L) w)
    (k : ∀ w', St E (blkL bx 36 (rcV x) :: rsA r0 v ra pa la :: L) w' → Kn ((ps.map (·.2)).any fun p => decide (p.name = x.pool)) w') : T_ref08_right_3 false 0 (some ⟨r0, 0, none⟩) ⟨bx, 0, none⟩ w Kn Kp := by
  have n1 := hr.count pcV_len (by decide) h (mem2 hm)
  unfold T_ref08_right_3
  intro X hX
  refine up_to ps.length (Q := fun j => ∀ w, St E (blkL bx 36 (rcV x) :: rsA r0 v ra pa la :: L) w → X (((ps.take j).map (·.2)).any fun p => decide (p.name = x.pool)) (j : Int) w) ?_ w h
  intro j hj ih w h
  refine hX _ _ _ ?_
  unfold T_ref08_right_3_body
  refine ⟨_, rfl, _, _, _, rd_fld h.f1.at_blk rfl rfl, ?_⟩
  rw [← n1]
  refine ite_d (fun hc => ?_) fun hc => ?_
  · have hjl : j < ps.length := by omega
    intro w50
    have h50 : St E _ w50 := h.drew
    clear_value w50
    have e : ((ps.take (j + 1)).map (·.2)).any (fun p => decide (p.name = x.pool)) = (((ps.take j).map (·.2)).any (fun p => decide (p.name = x.pool)) || decide (ps[j].2.name = x.pool)) := by
      rw [List.take_succ_eq_append_getElem hjl, List.map_append, List.any_append]; simp only [List.map_cons, List.map_nil, List.any_cons, List.any_nil, Bool.or_false]
    have ih' := ih hjl w50 h50
    rw [e] at ih'
    rw [succ_big (by unfold big; omega), Int.toNat_natCast]
    refine ite_b (fun ht => by rw [ht] at ih'; exact ih') fun ht => ?_
    rw [ht] at ih'
    obtain ⟨ad2, ha2, _, hk2⟩ := (hr.at h50 (mem2 hm)).elem pcV_len (List.getElem?_eq_getElem hjl) (by decide)
    refine ⟨_, rfl, _, _, _, rd_fld h50.f1.at_blk rfl rfl, by omega, by omega, ad2, ha2, _, hk2 0 _ rfl rfl, _, rd_fld h50.at_blk rfl rfl, ?_⟩
    rw [str_beq]
    exact ih'
  · have : j = ps.length := by omega
    subst this
    have := k w h
    rwa [List.take_length]
set_option maxHeartbeats 1000000 in
theorem rr2 {Kn : World → Prop} {Kr : Bool → World → Prop} {Kp : List PanicEntry → World → Prop} (hm : kn F ∈ L) (hp : RdF F pa.1 pa.2.1 2 (ps.flatMap pcV)) (hpl : ps.length ≤ 1000) (hr : RdF F ra.1 ra.2.1 3 (rs.flatMap rcV)) (hl : rs.length ≤ 1000)
    (hg : ∀ x ∈ rs, x.host.length ≤ huge ∧ x.pfx.length ≤ huge) (h : St E (rsA r0 v ra pa la :: L) w)
    (k1 : ∀ w', (rs.all (Cm.gRt (ps.map (·.2))) && Cm.rises Cm.rtLt rs) = true → St E (rsA r0 v ra pa la :: L) w' → Kn w')
    (k2 : ∀ w', (rs.all (Cm.gRt (ps.map (·.2))) && Cm.rises Cm.rtLt rs) = false → St E (rsA r0 v ra pa la :: L) w' → Kr false w') : T_ref08_right_2 0 (some ⟨r0, 0, none⟩) w Kn Kr Kp := by
  have n1 := hr.count rcV_len (by decide) h (mem1 hm)
  unfold T_ref08_right_2
  intro X hX
  refine up_to rs.length (Q := fun j => ∀ w, Cm.okTo Cm.rtLt (Cm.gRt (ps.map (·.2))) rs j = true → St E (rsA r0 v ra pa la :: L) w → X (j : Int) w) ?_ w (Cm.okTo_zero ..) h
  intro j hj ih w hok h
  refine hX _ _ ?_
  unfold T_ref08_right_2_body
  refine ⟨_, rfl, _, _, _, rd_fld h.at_blk rfl rfl, ?_⟩
  rw [← n1]
  refine ite_d (fun hc => ?_) fun hc => ?_
  · have hjl : j < rs.length := by omega
    have hgo : ∀ {w : World}, (∃ i, i = j + 1 ∧ Cm.okTo Cm.rtLt (Cm.gRt (ps.map (·.2))) rs i = false) → St E (rsA r0 v ra pa la :: L) w → Kr false w := fun {w} ⟨i, hi, hf⟩ h => k2 w (Cm.okTo_false (by omega) hf) h
    have hF : Cm.gRt (ps.map (·.2)) rs[j] = false → Cm.okTo Cm.rtLt (Cm.gRt (ps.map (·.2))) rs (j + 1) = false := fun hz => by
      cases j with
      | zero => rw [Cm.okTo_one (by omega), hz]
      | succ m => rw [Cm.okTo_succ (by omega), hz]; simp
    obtain ⟨ad, ha, hel, hk⟩ := (hr.at h (mem1 hm)).elem rcV_len (List.getElem?_eq_getElem hjl) (by decide)
    rw [Int.toNat_natCast]
    refine ⟨_, rfl, _, _, _, rd_fld h.at_blk rfl rfl, by omega, by omega, ad, ha, _, _, _, hel, ?_⟩
    obtain ⟨gh, gp⟩ := hg _ (List.getElem_mem hjl)
    generalize hx : rs[j] = x at *
    intro w42
    have h42 := h.alloc (.cells #[.string (ByteArray.mk #[]), .string (ByteArray.mk #[]), .string (ByteArray.mk #[])] 36)
    refine ⟨rfl, wrOk_agg h42.at_blk (xs := rcV x) (Nat.le_refl 3) (by intro u hu; simp [rcV] at hu; rcases hu with rfl | rfl | rfl <;> rfl), ?_⟩
    intro w43
    have h43 : St E (blkL w.heap.size 36 (rcV x) :: rsA r0 v ra pa la :: L) w43 := h42.wr_agg0 (xs := rcV x) rfl
    clear_value w43
    clear h42
    clear_value w42
    generalize w.heap.size = bx at *
    refine rr3 hm hp hpl h43 fun w61 h61 => ?_
    intro w62
    have h62 : St E _ w62 := h61.drew
    clear_value w62
    refine ite_n (fun hz => ⟨trivial, trivial, trivial, hgo ⟨j + 1, rfl, hF (by unfold Cm.gRt; rw [hz]; rfl)⟩ h62.drop⟩) fun hz => ?_
    refine ⟨_, rd_cell h62.at_blk rfl rfl, ?_⟩
    refine Host_spec h62 gh fun w65 h65 => ⟨_, rfl, trivial, ite_n (fun hz2 => ⟨trivial, trivial, hgo ⟨j + 1, rfl, hF (by unfold Cm.gRt; rw [hz2]; simp)⟩ h65.drop⟩) fun hz2 => ?_⟩
    refine ⟨_, rd_fld h65.at_blk rfl rfl, ?_⟩
    refine Prefix_spec h65 gp fun w69 h69 => ⟨_, rfl, trivial, ite_n (fun hz3 => ⟨trivial, hgo ⟨j + 1, rfl, hF (by unfold Cm.gRt; rw [hz3]; simp)⟩ h69.drop⟩) fun hz3 => ?_⟩
    have hgx : Cm.gRt (ps.map (·.2)) x = true := by unfold Cm.gRt; rw [hz, hz2, hz3]; rfl
    cases j with
    | zero =>
      refine ite_d (fun hh => absurd hh (by omega)) fun _ => ⟨trivial, ?_⟩
      rw [succ_big (by unfold big; omega)]
      exact ih hjl w69 (by rw [Cm.okTo_one (by omega), hx, hgx]) h69.drop
    | succ m =>
      refine ite_d (fun _ => ?_) fun hh => absurd (show ((m + 1 : Nat) : Int) > 0 by omega) hh
      have hw : IntKind.wrap .i64 (((m + 1 : Nat) : Int) - 1) = (m : Int) := by rw [wrap_id (by omega) (by omega)]; omega
      rw [hw, Int.toNat_natCast]
      obtain ⟨ad2, ha2, hel2, _⟩ := (hr.at h69 (mem2 hm)).elem rcV_len (List.getElem?_eq_getElem (show m < rs.length by omega)) (by decide)
      refine ⟨_, rfl, _, _, _, rd_fld h69.f1.at_blk rfl rfl, by omega, by omega, ad2, ha2, _, _, _, hel2, _, _, _, rd_agg (xs := rcV x) h69.at_blk (by intro i u hu; rw [Nat.zero_add]; exact hu), ?_⟩
      have hs : Cm.okTo Cm.rtLt (Cm.gRt (ps.map (·.2))) rs (m + 1 + 1) = Cm.rtLt (rs[m]'(by omega)) x := by
        rw [Cm.okTo_succ (by omega), hok, hx, hgx]; rfl
      refine Rless_spec (x := rs[m]'(by omega)) (y := x) h69 fun w81 h81 => ⟨_, rfl, trivial, ite_n (fun hz4 => hgo ⟨m + 1 + 1, rfl, by rw [hs, hz4]⟩ h81.drop) fun hz4 => ?_⟩
      rw [succ_big (by unfold big; omega)]
      exact ih hjl w81 (by rw [hs, hz4]) h81.drop
  · have : j = rs.length := by omega
    subst this
    refine k1 w ?_ h
    rw [← Cm.okTo_all]; exact hok
theorem rr5 {Kn : Bool → World → Prop} {Kp : List PanicEntry → World → Prop} {e : Int} (k : Kn (Cm.told e) w) : T_ref08_right_5 e w Kn Kp := by
  unfold T_ref08_right_5
  have go : ∀ {a : Bool}, a = Cm.told e → Kn a w := fun h => h ▸ k
  refine ite_b (fun h => go ?_) fun h1 => ite_b (fun h => go ?_) fun h2 => ite_b (fun h => go ?_) fun h3 => ite_b (fun h => go ?_) fun h4 => go ?_
  · have : e = 0 := by simpa using h
    subst this; rfl
  · have : e = 6 := by simpa using h
    subst this; rfl
  · have : e = 8 := by simpa using h
    subst this; rfl
  · have : e = 12 := by simpa using h
    subst this; rfl
  · rw [eq_dec] at h1 h2 h3 h4
    unfold Cm.told
    rw [h1, h2, h3, h4, eq_dec]
    rfl
set_option maxHeartbeats 1000000 in
theorem rr4 {Kn : World → Prop} {Kr : Bool → World → Prop} {Kp : List PanicEntry → World → Prop} (hm : kn F ∈ L) (hr : RdF F la.1 la.2.1 4 (ls.flatMap lcV)) (hl : ls.length ≤ 1000) (h : St E (rsA r0 v ra pa la :: L) w)
    (k1 : ∀ w', (ls.all (Cm.rightL v) && Cm.rises Cm.laLt ls) = true → St E (rsA r0 v ra pa la :: L) w' → Kn w')
    (k2 : ∀ w', (ls.all (Cm.rightL v) && Cm.rises Cm.laLt ls) = false → St E (rsA r0 v ra pa la :: L) w' → Kr false w') : T_ref08_right_4 0 (some ⟨r0, 0, none⟩) w Kn Kr Kp := by
  have n1 := hr.count lcV_len (by decide) h (mem1 hm)
  unfold T_ref08_right_4
  intro X hX
  refine up_to ls.length (Q := fun j => ∀ w, Cm.okTo Cm.laLt (Cm.rightL v) ls j = true → St E (rsA r0 v ra pa la :: L) w → X (j : Int) w) ?_ w (Cm.okTo_zero ..) h
  intro j hj ih w hok h
  refine hX _ _ ?_
  unfold T_ref08_right_4_body
  refine ⟨_, rfl, _, _, _, rd_fld h.at_blk rfl rfl, ?_⟩
  rw [← n1]
  refine ite_d (fun hc => ?_) fun hc => ?_
  · have hjl : j < ls.length := by omega
    have hF : Cm.rightL v ls[j] = false → Cm.okTo Cm.laLt (Cm.rightL v) ls (j + 1) = false := fun hz => by
      cases j with
      | zero => rw [Cm.okTo_one (by omega), hz]
      | succ m => rw [Cm.okTo_succ (by omega), hz]; simp
    have hgo : ∀ {w : World} {A : Asrt}, Cm.rightL v ls[j] = false → St E (A :: rsA r0 v ra pa la :: L) w → Kr false w := fun {w A} hf h => k2 w (Cm.okTo_false (by omega) (hF hf)) h.drop
    obtain ⟨ad, ha, hel, _⟩ := la_at (hr.at h (mem1 hm)) hjl
    rw [Int.toNat_natCast]
    refine ⟨_, rfl, _, _, _, rd_fld h.at_blk rfl rfl, by omega, by omega, ad, ha, _, _, _, _, hel, ?_⟩
    generalize hx : ls[j] = x at *
    intro w99
    have h99 := h.alloc (.cells #[.int .i64 0, .int .i64 0, .int .i64 0, .int .i64 0] 113)
    refine ⟨rfl, wrOk_agg h99.at_blk (xs := lcV x) (Nat.le_refl 4) (one_lc x), ?_⟩
    intro w100
    have h100 : St E (blkL w.heap.size 113 (lcV x) :: rsA r0 v ra pa la :: L) w100 := h99.wr_agg0 (xs := lcV x) rfl
    clear_value w100
    clear h99
    clear_value w99
    generalize w.heap.size = bx at *
    refine ⟨_, rd_fld h100.at_blk rfl rfl, rr5 ?_⟩
    intro w108
    have h108 : St E _ w108 := h100.drew
    clear_value w108
    refine ⟨_, rd_cell h108.at_blk rfl rfl, ite_d (fun hh => hgo (by unfold Cm.rightL; rw [decide_eq_false (by omega : ¬ (1 ≤ x.client ∧ x.client ≤ 32))]; rfl) h108) fun c1 => ?_⟩
    refine ⟨_, rd_cell h108.at_blk rfl rfl, ite_d (fun hh => hgo (by unfold Cm.rightL; rw [decide_eq_false (by omega : ¬ (1 ≤ x.client ∧ x.client ≤ 32))]; rfl) h108) fun c2 => ?_⟩
    refine ⟨_, rd_fld h108.at_blk rfl rfl, ite_d (fun hh => hgo (by unfold Cm.rightL; rw [decide_eq_false (by omega : ¬ (1 ≤ x.seq))]; simp) h108) fun c3 => ?_⟩
    refine ite_n (fun c4 => hgo (by unfold Cm.rightL; rw [c4]; simp) h108) fun c4 => ?_
    refine ⟨x.ver, by rw [show ((⟨bx, 0, none⟩ : Addr).add 2).add 1 = (⟨bx, 0, none⟩ : Addr).add 3 from by rw [add_mk, add_mk, add_mk]]; exact rd_fld h108.at_blk rfl rfl, _, rfl, _, rd_cell h108.f1.at_blk rfl rfl, ite_d (fun hh => hgo (by unfold Cm.rightL; rw [decide_eq_false (by omega : ¬ (x.ver ≤ v))]; simp) h108) fun c5 => ?_⟩
    have hgx : Cm.rightL v x = true := by
      unfold Cm.rightL
      rw [decide_eq_true (by omega : 1 ≤ x.client ∧ x.client ≤ 32), decide_eq_true (by omega : 1 ≤ x.seq), c4, decide_eq_true (by omega : x.ver ≤ v)]; rfl
    cases j with
    | zero =>
      refine ite_d (fun hh => absurd hh (by omega)) fun _ => ?_
      rw [succ_big (by unfold big; omega)]
      exact ih hjl w108 (by rw [Cm.okTo_one (by omega), hx, hgx]) h108.drop
    | succ m =>
      refine ite_d (fun _ => ?_) fun hh => absurd (show ((m + 1 : Nat) : Int) > 0 by omega) hh
      have hw : IntKind.wrap .i64 (((m + 1 : Nat) : Int) - 1) = (m : Int) := by rw [wrap_id (by omega) (by omega)]; omega
      rw [hw, Int.toNat_natCast]
      obtain ⟨ad2, ha2, _, hk2, _⟩ := la_at (hr.at h108 (mem2 hm)) (show m < ls.length by omega)
      refine ⟨_, rfl, _, _, _, rd_fld h108.f1.at_blk rfl rfl, by omega, by omega, ad2, ha2, _, hk2 0 _ rfl rfl, _, rd_cell h108.at_blk rfl rfl, ?_⟩
      have hs : Cm.okTo Cm.laLt (Cm.rightL v) ls (m + 1 + 1) = decide ((ls[m]'(by omega)).client < x.client) := by
        rw [Cm.okTo_succ (by omega), hok, hx, hgx]; rfl
      refine ite_d (fun hh => ?_) fun hh => ?_
      · exact k2 w108 (Cm.okTo_false (j := m + 1 + 1) (by omega) (by rw [hs]; exact decide_eq_false (by omega))) h108.drop
      · rw [succ_big (by unfold big; omega)]
        exact ih hjl w108 (by rw [hs]; exact decide_eq_true (by omega)) h108.drop
  · have : j = ls.length := by omega
    subst this
    refine k1 w ?_ h
    rw [← Cm.okTo_all]; exact hok
end
end Go.Vc
namespace Go.Vc
open Go Go.Proofs Go.Proofs.YtcpmfjclkdjfmaaGreat Go.RowKit
set_option maxRecDepth 100000
section
variable {E w : World} {L : List Asrt} {R : Ending → World → Prop} {F G : Fz} {q : Sl} {b : Cm.Bs} {r0 : Nat} {ra pa la : Sl} {s : Cm.Sm}
theorem Rright_spec (hm : kn F ∈ L) (hb1 : s.pools.length ≤ 32) (hb2 : s.routes.length ≤ 64) (hb3 : s.l.length ≤ 1000) (hg : ∀ x ∈ s.pools, x.name.length ≤ huge ∧ okTs x.tg) (hgr : ∀ x ∈ s.routes, x.host.length ≤ huge ∧ x.pfx.length ≤ huge)
    (c : cfgR F ra pa s.routes s.pools) (hla : RdF F la.1 la.2.1 4 (s.l.flatMap lcV)) (h : St E (rsA r0 s.ver ra pa la :: L) w)
    (k : ∀ w', St E (rsA r0 s.ver ra pa la :: L) w' → R (.returned (.bool (Cm.right s))) w') : Calls Tryz.prog 72 #[.pointer (some ⟨r0, 0, none⟩)] w R := by
  have c0 := c
  obtain ⟨hr, ps, hps, hp, ht⟩ := c
  have hpl : ps.length = s.pools.length := by rw [← hps, List.length_map]
  refine C_ref08_right ?_
  unfold T_ref08_right
  have he := Cm.right_eq2 s
  refine rr1 hm hp ht (by omega) (fun x hx => hg x.2 (by rw [← hps]; exact List.mem_map_of_mem hx)) h (fun w1 e1 h1 => ?_) fun w1 e1 h1 => congB (k w1 h1) (by rw [he, ← hps, e1]; rfl)
  refine rr2 hm hp (by omega) hr (by omega) hgr h1 (fun w2 e2 h2 => ?_) fun w2 e2 h2 => congB (k w2 h2) (by rw [he, ← hps, e2]; simp)
  refine rr4 hm hla hb3 h2 (fun w3 e3 h3 => ?_) fun w3 e3 h3 => congB (k w3 h3) (by rw [he, e3]; simp)
  rw [hps] at e1 e2
  have S : Sz s := sz_ok (by rw [Cm.okP_nil]; exact e1) (by rw [Cm.okR_nil]; exact e2) hb1 hb2
  refine ⟨_, rfl, _, _, _, _, _, _, _, rd_rf h3, ?_⟩
  refine Rconfig_spec (b := (none, 0, 0)) (xs := []) (mem1 hm) S c0 h3.by_nil (by simp) fun w4 b4 h4 => ⟨_, _, _, rfl, ?_⟩
  have hl := h4.by_len
  refine congB (k w4 h4.drop) ?_
  rw [he, e1, e2, e3]
  simp only [Bool.and_self, Bool.true_and]
  exact decide_eq_decide.2 (by rw [List.nil_append] at hl; omega)
theorem RNew0 (h : St E L w) (k : ∀ r w', St E (rsA r 0 (none, 0, 0) (none, 0, 0) (none, 0, 0) :: L) w' → R (.returned (.pointer (some ⟨r, 0, none⟩))) w') : Calls Tryz.prog 36 #[] w R := by
  refine C_ref08_New ?_
  unfold T_ref08_New
  exact k _ _ (h.alloc _)
set_option maxHeartbeats 2000000 in
/-- The document's Load: at any bytes. -/
theorem RLoad_spec (hs : Src F q b) (h : St E (kn F :: L) w)
    (k1 : ∀ (e : Int) (G : Fz) (w' : World), Cm.load b = .error e → e ≠ 0 → Fz.le F G → St E (kn G :: L) w' → R (.returned (.tuple #[.pointer none, .int .i64 e])) w')
    (k2 : ∀ (s : Cm.Sm) (p : Nat) (G : Fz) (w' : World), Cm.load b = .ok s → Fz.le F G → St E (refA G p s :: kn G :: L) w' → R (.returned (.tuple #[.pointer (some ⟨p, 0, none⟩), .int .i64 0])) w') :
    Calls Tryz.prog 34 #[.slice q.1 q.2.1 q.2.2] w R := by
  refine C_ref08_Load ?_
  unfold T_ref08_Load
  intro w2
  have h2 : St E (scA w.heap.size q b (.ok b) :: kn F :: L) w2 := h.rdr_new _ q b
  clear_value w2
  generalize w.heap.size = r at *
  refine RNew0 h2 fun r0 w4 h4 => ⟨_, rfl, ?_⟩
  refine Rscan_num_spec (most := 1099511627776) (L := rsA r0 0 (none, 0, 0) (none, 0, 0) (none, 0, 0) :: kn F :: L) hs at1 h4.f1 fun w7 h7 => ⟨_, rfl, _, rfl, rfl, wrOk_cell h7.f1.at_blk (by simp) rfl, ?_⟩
  obtain ⟨v, hv⟩ : ∃ v : Int, ((Cm.rNum 1099511627776 (.ok b)).1 : Int) = v := ⟨_, rfl⟩
  have hsm : Cm.rSm b = (⟨((Cm.rNum 1099511627776 (.ok b)).1 : Int), (Cm.rMany Cm.rRt (Cm.rNum 64 (Cm.rMany Cm.rPl (Cm.rNum 32 (Cm.rNum 1099511627776 (.ok b)).2).1 (Cm.rNum 32 (Cm.rNum 1099511627776 (.ok b)).2).2).2).1 (Cm.rNum 64 (Cm.rMany Cm.rPl (Cm.rNum 32 (Cm.rNum 1099511627776 (.ok b)).2).1 (Cm.rNum 32 (Cm.rNum 1099511627776 (.ok b)).2).2).2).2).1, (Cm.rMany Cm.rPl (Cm.rNum 32 (Cm.rNum 1099511627776 (.ok b)).2).1 (Cm.rNum 32 (Cm.rNum 1099511627776 (.ok b)).2).2).1, _⟩, _) := rfl
  have hn1 := rNum_le 32 (Cm.rNum 1099511627776 (.ok b)).2
  rw [hv]
  intro w10
  have h10 : St E (rsA r0 v (none, 0, 0) (none, 0, 0) (none, 0, 0) :: scA r q b (Cm.rNum 1099511627776 (.ok b)).2 :: kn F :: L) w10 := h7.f1.wr_cell (off := 0) (v := .int .i64 v) rfl
  clear_value w10
  refine Rscan_num_spec (most := 32) (L := rsA r0 v (none, 0, 0) (none, 0, 0) (none, 0, 0) :: kn F :: L) hs at1 h10.f1 fun w12 h12 => ⟨_, rfl, ?_⟩
  have h13 : St E (scA r q b (Cm.rNum 32 (Cm.rNum 1099511627776 (.ok b)).2).2 :: plA (none, 0, 0) [] :: tgO [] :: rsA r0 v (none, 0, 0) (none, 0, 0) (none, 0, 0) :: kn F :: L) w12 :=
    St.sel (L := _ :: _ :: _ :: _ :: _ :: L) h12.tgO_nil.pl_nil 5 [2, 0, 1, 3, 4]
  refine rload1 hs (by omega) h13 fun w43 pa xs hxs h43 => ?_
  generalize hP1 : Cm.rMany Cm.rPl (Cm.rNum 32 (Cm.rNum 1099511627776 (.ok b)).2).1 (Cm.rNum 32 (Cm.rNum 1099511627776 (.ok b)).2).2 = P1 at *
  have hn2 := rNum_le 64 P1.2
  refine Rscan_num_spec (most := 64) (L := plA pa xs :: tgO xs :: rsA r0 v (none, 0, 0) pa (none, 0, 0) :: kn F :: L) hs at3 h43 fun w45 h45 => ⟨_, rfl, ?_⟩
  have h46 : St E (scA r q b (Cm.rNum 64 P1.2).2 :: rtA (none, 0, 0) [] :: rsA r0 v (none, 0, 0) pa (none, 0, 0) :: kn F :: plA pa xs :: tgO xs :: L) w45 :=
    St.sel (L := _ :: _ :: _ :: _ :: _ :: _ :: L) h45.rt_nil 6 [1, 0, 4, 5, 2, 3]
  refine rload3 hs (by omega) h46 fun w79 ra h79 => ?_
  generalize hR1 : Cm.rMany Cm.rRt (Cm.rNum 64 P1.2).1 (Cm.rNum 64 P1.2).2 = R1 at *
  have hn3 := rNum_le 32 R1.2
  refine Rscan_num_spec (most := 32) (L := rtA ra R1.1 :: rsA r0 v ra pa (none, 0, 0) :: kn F :: plA pa xs :: tgO xs :: L) hs at2 h79 fun w81 h81 => ⟨_, rfl, ?_⟩
  have h82 : St E (scA r q b (Cm.rNum 32 R1.2).2 :: laA (none, 0, 0) [] :: rsA r0 v ra pa (none, 0, 0) :: kn F :: rtA ra R1.1 :: plA pa xs :: tgO xs :: L) w81 :=
    St.sel (L := _ :: _ :: _ :: _ :: _ :: _ :: _ :: L) h81.la_nil 7 [1, 0, 3, 4, 2, 5, 6]
  refine rload5 hs (by omega) h82 fun w118 la h118 => ?_
  generalize hL1 : Cm.rMany Cm.rLa (Cm.rNum 32 R1.2).1 (Cm.rNum 32 R1.2).2 = L1 at *
  have hrm : Cm.rSm b = (⟨v, R1.1, P1.1, L1.1⟩, L1.2) := by
    rw [← hL1, ← hR1, ← hP1, ← hv]
    rfl
  have hpl : P1.1.length ≤ 32 := by rw [← hP1]; exact Nat.le_trans (rMany_all (g := fun _ => True) (fun _ => trivial) _ _).1 hn1
  have hrl : R1.1.length ≤ 64 := by rw [← hR1]; exact Nat.le_trans (rMany_all (g := fun _ => True) (fun _ => trivial) _ _).1 hn2
  have hll : L1.1.length ≤ 32 := by rw [← hL1]; exact Nat.le_trans (rMany_all (g := fun _ => True) (fun _ => trivial) _ _).1 hn3
  have hpg : ∀ x ∈ P1.1, x.name.length ≤ huge ∧ okTs x.tg := by
    rw [← hP1]
    exact (rMany_all (f := Cm.rPl) (g := fun x : Cm.Pl => x.name.length ≤ huge ∧ okTs x.tg) (fun s => ⟨Nat.le_trans (rText_len s) (show 128 ≤ huge by decide), (rTgs_short _).ok⟩) _ _).2
  have hrg : ∀ x ∈ R1.1, x.host.length ≤ huge ∧ x.pfx.length ≤ huge := by
    rw [← hR1]
    exact (rMany_all (f := Cm.rRt) (g := fun x : Cm.Rt => x.host.length ≤ huge ∧ x.pfx.length ≤ huge) (fun s => ⟨Nat.le_trans (rText_len s) (show 128 ≤ huge by decide), Nat.le_trans (rText_len _) (show 128 ≤ huge by decide)⟩) _ _).2
  obtain ⟨G1, k1', h119, hc⟩ := St.cfg_freeze hxs (St.sel (L := scA r q b L1.2 :: laA la L1.1 :: rsA r0 v ra pa la :: kn F :: rtA ra R1.1 :: plA pa xs :: tgO xs :: L) h118 7 [4, 5, 6, 3, 0, 1, 2])
  obtain ⟨G2, k2', h120, hla⟩ := St.freeze_la (St.sel (L := kn G1 :: scA r q b L1.2 :: laA la L1.1 :: rsA r0 v ra pa la :: L) h119 4 [2, 0, 1, 3])
  have h121 : St E (scA r q b L1.2 :: rsA r0 v ra pa la :: kn G2 :: L) w118 := St.sel (L := kn G2 :: scA r q b L1.2 :: rsA r0 v ra pa la :: L) h120 3 [1, 2, 0]
  have lG := Fz.le_trans k1' k2'
  have hc2 := hc.mono k2'
  obtain ⟨a, e, ho, h122⟩ := h121.rdr_open
  refine ⟨_, rfl, _, rd_fld h122.at_blk rfl rfl, ?_⟩
  cases hst : L1.2 with
  | error x =>
    rw [hst] at ho
    have hx : e = x ∧ x ≠ 0 := ho
    have hld : Cm.load b = .error x := by unfold Cm.load; rw [hrm]; simp only [hst]
    refine ite_b (fun _ => ?_) fun hh => absurd (by simpa using hh) (by rw [hx.1]; exact hx.2)
    intro w121
    have h123 : St E _ w121 := h122.drew
    clear_value w121
    refine ⟨_, rfl, _, rd_fld h123.at_blk rfl rfl, ?_⟩
    rw [hx.1]
    exact k1 x G2 _ hld hx.2 lG h123.drop.drop
  | ok rest =>
    rw [hst] at ho
    obtain ⟨he, hal, hrest⟩ := ho
    refine ite_b (fun hh => by simp [he] at hh) fun _ => ?_
    refine ⟨_, rfl, _, rd_fld h122.at_blk rfl rfl, ?_⟩
    have hqb := hs.len
    refine ite_b (fun hh => ?_) fun hh => ?_
    · have hne : rest ≠ [] := by
        rw [hrest]
        intro h0
        have := (drop_nil hal).1 h0
        have : (a : Int) ≠ (q.2.1 : Int) := by simpa using hh
        omega
      have hld : Cm.load b = .error 4 := by unfold Cm.load; rw [hrm]; simp only [hst]; rw [if_pos (.inl hne)]
      exact k1 4 G2 _ hld (by decide) lG h122.drop.drop
    · have hnil : rest = [] := by
        rw [hrest]
        refine (drop_nil hal).2 ?_
        have : (a : Int) = (q.2.1 : Int) := by simpa using hh
        omega
      refine Rright_spec (s := ⟨v, R1.1, P1.1, L1.1⟩) (L := kn G2 :: L) at0 hpl hrl (by show L1.1.length ≤ 1000; omega) hpg hrg hc2 hla h122.drop fun w127 h127 => ⟨_, rfl, ?_⟩
      refine ite_n (fun hr => ?_) fun hr => ?_
      · have hld : Cm.load b = .error 4 := by unfold Cm.load; rw [hrm]; simp only [hst]; rw [if_pos (.inr hr)]
        exact k1 4 G2 _ hld (by decide) lG h127.drop
      · have hld : Cm.load b = .ok ⟨v, R1.1, P1.1, L1.1⟩ := by
          unfold Cm.load; rw [hrm]; simp only [hst]
          rw [if_neg (by rintro (h1 | h1); exact h1 hnil; rw [hr] at h1; cases h1)]
        exact k2 ⟨v, R1.1, P1.1, L1.1⟩ r0 G2 _ hld lG (St.rf_mk hc2 hla h127)
theorem conv_srcL {q : Sl} {b : Cm.Bs} (hs : Src F q b) (hm : kn F ∈ L) (h : St E L w) : (convert 56 9 (.slice q.1 q.2.1 q.2.2)).run Tryz.prog w = .ok (.string (bs b)) w :=
  convert_string (e := 5) (by kernel_rfl) (by kernel_rfl) (by kernel_rfl) (hs.rd.at h hm)
theorem loads_walk (hs : Src F q b) (h : St E (kn F :: L) w) (k : ∀ G w', Fz.le F G → St E (kn G :: L) w' → R (.returned (.bool true)) w') : Calls Tryz.prog 12 #[.slice q.1 q.2.1 q.2.2] w R := by
  refine C_law08_ConfLoads ?_
  unfold T_law08_ConfLoads
  refine Load_spec hs h (fun e G w3 hl he hG h3 => ⟨_, _, rfl, ?_⟩) fun s p G w3 hl hG h3 => ⟨_, _, rfl, ?_⟩
  · refine RLoad_spec (hs.mono hG) h3 (fun e2 G2 w7 hl2 _ hG2 h7 => ⟨_, _, rfl, ?_⟩) fun s p G2 w7 hl2 _ _ => by rw [hl] at hl2; cases hl2
    have e2' : e2 = e := by rw [hl] at hl2; injection hl2 with hl2; exact hl2.symm
    subst e2'
    unfold T_law08_ConfLoads_1
    refine ite_b (fun hh => by simp at hh) fun _ => ite_b (fun hh => by cases hh) fun _ => ?_
    intro w19
    have h19 : St E (kn G2 :: L) w19 := h7.drew
    clear_value w19
    refine live_spec h19 fun G3 w21 hG3 h21 => ⟨_, rfl, trivial, ite_b (fun _ => ite_b (fun _ => ?_) fun hh => by cases hh) fun hh => by cases hh⟩
    have := k G3 _ (Fz.le_trans hG (Fz.le_trans hG2 hG3)) h21
    exact ⟨trivial, ⟨trivial, ⟨trivial, trivial, this⟩, ⟨trivial, trivial, this⟩⟩, ⟨trivial, trivial, trivial, this⟩⟩
  · refine RLoad_spec (L := stA G p s :: L) (hs.mono hG) h3.f1 (fun e2 G2 w7 hl2 _ _ _ => by rw [hl] at hl2; cases hl2) fun s2 p2 G2 w7 hl2 hG2 h7 => ⟨_, _, rfl, ?_⟩
    have es : s2 = s := by rw [hl] at hl2; injection hl2 with hl2; exact hl2.symm
    subst es
    obtain ⟨hput, I⟩ := Cm.load_got hl
    unfold T_law08_ConfLoads_1
    refine ite_b (fun hh => by simp at hh) fun _ => ite_b (fun hh => by cases hh) fun _ => ?_
    intro w19
    have h19 : St E (kn G2 :: refA G2 p2 s2 :: stA G p s2 :: L) w19 := (h7.f1).drew
    clear_value w19
    refine live_spec h19 fun G3 w21 hG3 h21 => ⟨_, rfl, trivial, ite_b (fun _ => ite_b (fun hh => by cases hh) fun _ => ?_) fun hh => by cases hh⟩
    have h22 : St E (stA G3 p s2 :: refA G2 p2 s2 :: kn G3 :: L) w21 := St.st_mono (St.sel (L := kn G3 :: refA G2 p2 s2 :: stA G p s2 :: L) h21 3 [2, 1, 0]) (Fz.le_trans hG2 hG3)
    have h23 : St E (stA G3 p s2 :: refA G3 p2 s2 :: kn G3 :: L) w21 := (h22.f1.rf_mono hG3).f1
    refine same_spec I h23 fun G4 w24 hG4 h24 => ⟨_, rfl, trivial, ite_b (fun _ => ?_) fun hh => by cases hh⟩
    have lF : Fz.le F G4 := Fz.le_trans hG (Fz.le_trans hG2 (Fz.le_trans hG3 hG4))
    have S := Sz.of I
    have hln := I.ln
    refine ⟨?_, ?_⟩
    · refine Put_spec (L := refA G4 p2 s2 :: kn G4 :: L) at1 S I.lr (by omega) h24 fun w27 b27 h27 => ⟨_, _, _, rfl, trivial, ⟨?_, ?_⟩⟩
      · refine runV_ok (conv_by2 h27) ⟨_, rfl, trivial, ?_⟩
        refine runV_ok (conv_srcL (hs.mono lF) at3 h27) ⟨_, rfl, trivial, congB (k G4 _ lF (h27.sel 4 [3])) (by rw [hput]; simp)⟩
      · refine runV_ok (conv_srcL (hs.mono lF) at3 h27) ⟨_, rfl, trivial, ?_⟩
        refine runV_ok (conv_by2 h27) ⟨_, rfl, trivial, congB (k G4 _ lF (h27.sel 4 [3])) (by rw [hput]; simp)⟩
    · refine runV_ok (conv_srcL (hs.mono lF) at2 h24) ⟨_, rfl, trivial, ?_⟩
      refine Put_spec (L := refA G4 p2 s2 :: kn G4 :: L) at1 S I.lr (by omega) h24 fun w27 b27 h27 => ⟨_, _, _, rfl, trivial, ?_⟩
      exact runV_ok (conv_by2 h27) ⟨_, rfl, trivial, congB (k G4 _ lF (h27.sel 4 [3])) (by rw [hput]; simp)⟩
theorem loads_law {H : Type} {enc : TypeId × Value → H} {W : World} {a : Option Addr} {l c : Nat} {d : DataW H} {ps : List MemPlace} (h : DataW.Trod enc Tryz.prog W 0 (fun _ => true) true 56 (.slice a l c) d ps) :
    Calls Tryz.prog 12 #[.slice a l c] W fun e w' => e = .returned (.bool true) ∧ RowKit.Below W.heap.size W w' := by
  obtain ⟨b, hs⟩ := src_of h
  exact loads_walk (q := (a, l, c)) hs (St.start_kn W) fun G w' hG h' => ⟨rfl, h'.below_kn hG⟩
end
end Go.Vc
