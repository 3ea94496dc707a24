/-
  Texts of this claim's own, laid into one: ConfJ, ConfN, ConfO, ConfQ, ConfR, ConfT, Gd, ConfU, Gh, ConfY, ConfZ, ConfAa, ConfX, Gi, ConfBb, ConfCk, Gr.
-/
import Derived.Test.YtcpmfjclkdjfmaaGreatProg
import Derived.KernelRfl
import Derived.Test.YtcpmfjclkdjfmaaGreatXConfLoadsA
import Derived.Test.YtcpmfjclkdjfmaaGreatXConfLoadsB
import Derived.Test.YtcpmfjclkdjfmaaGreatXConfLoadsC
import Derived.Test.YtcpmfjclkdjfmaaGreatXConfLoadsD
set_option linter.all false
/-
  The program's store does a command that is right.
-/
namespace Go.Vc
open Go Go.Proofs Go.Proofs.YtcpmfjclkdjfmaaGreat
set_option maxRecDepth 100000
section
variable {E w : World} {L : List Asrt} {R : Ending → World → Prop} {F G : Fz} {p : Nat} {s : Cm.Sm} {c : Cm.Cmd} {q : Sl}
theorem Clone_spec {tg : List Cm.Tgt} (hm : kn F ∈ L) (h : St E L w) (hr : RdF F q.1 q.2.1 2 (tg.flatMap tV)) (hl : tg.length ≤ 1000) (k : ∀ (q' : Sl) w', St E (tgA q' tg :: L) w' → R (.returned (.slice q'.1 q'.2.1 q'.2.2)) w') :
    Calls Tryz.prog 39 #[.slice q.1 q.2.1 q.2.2] w R := by
  have hn := tgs_len hm h hr
  obtain ⟨a, l, cc⟩ := q
  refine C_slices_Clone_api_Target ?_
  unfold T_slices_Clone_api_Target
  cases a with
  | none =>
    have : tg = [] := by
      rcases (hr.at h hm).2 with h0 | ⟨g, off, ha, _⟩
      · exact List.eq_nil_of_length_eq_zero (hn.trans h0)
      · cases ha
    subst this
    exact ite_none (k (none, 0, 0) w h.ownS_nil)
  | some ad =>
    refine ite_some ?_
    intro w2
    have h2 : St E (tgA (some ⟨w.heap.size, 0, none⟩, 0, 0) [] :: L) w2 := St.ownS_mk (rest := []) (h.alloc _) rfl (Nat.le_refl _) (Nat.zero_le _) rfl
    obtain ⟨s', w', hr2, hs⟩ := app_t (c2 := cc) h2 (hr.at h2 (List.mem_cons_of_mem _ hm)) (by simp; omega)
    exact runV_ok hr2 ⟨_, _, _, rfl, k s' w' (by simpa using hs)⟩

abbrev actL (bp bc : Nat) (c : Cm.Cmd) (q : Sl) (L : List Asrt) : List Asrt := blkL bp 89 (celP (c.host, c.pfx)) :: blkL bc 42 (cmdL c q) :: L
theorem act1_spec {bp bc mp mr mc : Nat} {Mp : List (Cm.Bs × PV)} {Mr : List (Pr × Cm.Bs)} {Mc : List (Int × LV)} {b : Bool} {Kn : Bool → World → Prop} {Kp : List PanicEntry → World → Prop} (hp : poolsR F Mp s.pools)
    (h : St E (actL bp bc c q (st4 p s.ver mp mr mc Mp Mr Mc L)) w) (k : Kn (!b && decide (32 ≤ s.pools.length)) w) : T_conf_Store_act_1 (some ⟨p, 0, none⟩) b w Kn Kp := by
  have hl : Mp.length = s.pools.length := by have := hp.2.length_eq; simpa using this
  unfold T_conf_Store_act_1
  refine ite_n (fun hb => ⟨_, rfl, _, rd_fld h.f2.at_blk rfl rfl, runV_ok (lenMap_run und_pools h.f3 _ _ rfl) ⟨_, rfl, cong k ?_⟩⟩) (fun hb => cong k (by simp [hb]))
  rw [hl, hb, Bool.eq_iff_iff]; simp; omega
theorem act3_spec {bp bc mp mr mc : Nat} {Mp : List (Cm.Bs × PV)} {Mr : List (Pr × Cm.Bs)} {Mc : List (Int × LV)} {b : Bool} {Kn : Bool → World → Prop} {Kp : List PanicEntry → World → Prop} (hr : routesR Mr s.routes)
    (h : St E (actL bp bc c q (st4 p s.ver mp mr mc Mp Mr Mc L)) w) (k : Kn (!b && decide (64 ≤ s.routes.length)) w) : T_conf_Store_act_3 (some ⟨p, 0, none⟩) b w Kn Kp := by
  have hl : Mr.length = s.routes.length := by have := List.Perm.length_eq hr; simpa using this
  unfold T_conf_Store_act_3
  refine ite_n (fun hb => ⟨_, rfl, _, rd_fld h.f2.at_blk rfl rfl, runV_ok (lenMap_run und_routes h.f4 _ _ rfl) ⟨_, rfl, cong k ?_⟩⟩) (fun hb => cong k (by simp [hb]))
  rw [hl, hb, Bool.eq_iff_iff]; simp; omega
/-- The walk through the routes: is there one of this pool? -/
theorem act2_spec {bp bc mp mr mc it : Nat} {Mp : List (Cm.Bs × PV)} {Mr : List (Pr × Cm.Bs)} {Mc : List (Int × LV)} {Kn : World → Prop} {Kr : Int → World → Prop} {Kp : List PanicEntry → World → Prop} (hr : routesR Mr s.routes)
    (h : St E (iterA it mr encP encS Mr Mr :: actL bp bc c q (blkL p 79 (stL s.ver mp mr mc) :: mapA mp encS pvV Mp :: mapA mc encI lvV Mc :: L)) w)
    (k1 : Cm.used s c.pool = true → ∀ w', St E (actL bp bc c q (st4 p s.ver mp mr mc Mp Mr Mc L)) w' → Kr 13 w')
    (k2 : Cm.used s c.pool = false → ∀ w', St E (actL bp bc c q (st4 p s.ver mp mr mc Mp Mr Mc L)) w' → Kn w') :
    T_conf_Store_act_2 ⟨bc, 0, none⟩ ⟨it, 0, none⟩ w Kn Kr Kp := by
  unfold T_conf_Store_act_2
  intro X hX
  have fin : ∀ {w : World} {rest : List (Pr × Cm.Bs)}, St E (iterA it mr encP encS Mr rest :: actL bp bc c q (blkL p 79 (stL s.ver mp mr mc) :: mapA mp encS pvV Mp :: mapA mc encI lvV Mc :: L)) w → St E (actL bp bc c q (st4 p s.ver mp mr mc Mp Mr Mc L)) w :=
    fun h => h.iter_done.sel 6 [1, 2, 3, 4, 0, 5]
  have hu : Cm.used s c.pool = Mr.any fun e => decide (e.2 = c.pool) := by
    rw [Bool.eq_iff_iff, List.any_eq_true]
    unfold Cm.used
    rw [List.any_eq_true]
    constructor
    · rintro ⟨r, hr1, hr2⟩
      exact ⟨rtK r, hr.mem_iff.2 (List.mem_map_of_mem hr1), hr2⟩
    · rintro ⟨e, he1, he2⟩
      obtain ⟨r, hr1, rfl⟩ := List.mem_map.1 (hr.mem_iff.1 he1)
      exact ⟨r, hr1, he2⟩
  have key : ∀ (n : Nat) (rest : List (Pr × Cm.Bs)) (w : World), rest.length = n → (∀ e ∈ rest, e ∈ Mr) → (∀ e ∈ Mr, e ∉ rest → e.2 ≠ c.pool) →
      St E (iterA it mr encP encS Mr rest :: actL bp bc c q (blkL p 79 (stL s.ver mp mr mc) :: mapA mp encS pvV Mp :: mapA mc encI lvV Mc :: L)) w → X w := by
    intro n
    induction n with
    | zero =>
      intro rest w hn hin hout h
      have hnil : rest = [] := List.eq_nil_of_length_eq_zero hn
      subst hnil
      refine hX _ ?_
      unfold T_conf_Store_act_2_body
      rcases next_run (P := Tryz.prog) 0 h with ⟨_, hrun⟩ | ⟨r1, e, r2, w', hrest, _⟩
      · refine runV_ok hrun ⟨_, _, rfl, ite_b (fun hh => by cases hh) fun _ => k2 ?_ _ (fin h)⟩
        rw [hu, List.any_eq_false]
        intro e he
        simpa using hout e he (by simp)
      · simp at hrest
    | succ n ih =>
      intro rest w hn hin hout h
      refine hX _ ?_
      unfold T_conf_Store_act_2_body
      rcases next_run (P := Tryz.prog) 0 h with ⟨hnil, hrun⟩ | ⟨r1, e, r2, w', hrest, hrun, h', hent⟩
      · rw [hnil] at hn; cases hn
      · refine runV_ok hrun ⟨_, _, rfl, ite_b (fun _ => ?_) fun hh => by cases hh⟩
        refine runV_ok hent ⟨_, _, rfl, _, rfl, _, rd_fld h'.f2.at_blk rfl rfl, ite_b (fun h1 => k1 ?_ _ (fin h')) fun h1 => ?_⟩
        · rw [hu, List.any_eq_true]
          exact ⟨e, hin e (by rw [hrest]; simp), by rw [show ({ data := e.2.toArray } : ByteArray) = bs e.2 from rfl, str_beq] at h1; exact h1⟩
        · rw [show ({ data := e.2.toArray } : ByteArray) = bs e.2 from rfl, str_beq, decide_eq_false_iff_not] at h1
          refine ih (r1 ++ r2) _ (by rw [hrest] at hn; simp at hn; simp; omega) (fun x hx => hin x (by rw [hrest]; simp only [List.mem_append, List.mem_cons] at hx ⊢; exact hx.elim .inl fun h => .inr (.inr h))) (fun x hx hnx => ?_) h'
          by_cases hxe : x = e
          · rw [hxe]; exact h1
          · exact hout x hx (by rw [hrest]; simp only [List.mem_append, List.mem_cons, not_or] at hnx ⊢; exact ⟨hnx.1, hxe, hnx.2⟩)
  exact key _ Mr w rfl (fun e he => he) (fun e he hn => absurd he hn) h
end
end Go.Vc

/-
  The program's store does a command that is right: as the lists say.
-/
namespace Go.Vc
open Go Go.Proofs Go.Proofs.YtcpmfjclkdjfmaaGreat
set_option maxRecDepth 100000
section
variable {E w : World} {L : List Asrt} {R : Ending → World → Prop} {F G : Fz} {p : Nat} {s : Cm.Sm} {c : Cm.Cmd} {q : Sl} {n : Cm.Bs}
def putP (s : Cm.Sm) (n : Cm.Bs) (tg : List Cm.Tgt) : Cm.Sm := { s with pools := Cm.put Cm.plLt (Cm.butPool s n) ⟨n, tg⟩ }
def putR (s : Cm.Sm) (x : Cm.Rt) : Cm.Sm := { s with routes := Cm.put Cm.rtLt (Cm.butRoute s x.host x.pfx) x }
theorem sz_putP (I : Cm.Inv s) (hc : Cm.chk c = 0) : Sz (putP s c.pool c.tg) := by
  have f := Cm.chk_fine hc
  have S := Sz.of I
  have hp := Cm.put_but_perm (s := s) ⟨c.pool, c.tg⟩
  refine { S with pl := fun x hx => ?_, pr := Cm.put_rises Cm.plOrd (Cm.filter_rises Cm.plOrd I.pr _) _, pn := ?_ }
  · rcases List.mem_cons.1 (hp.mem_iff.1 hx) with rfl | hx
    · exact ⟨by have := f.o; simp only; omega, short_of f.t⟩
    · exact S.pl x (List.mem_filter.1 hx).1
  · have h1 := hp.length_eq
    have h2 : (Cm.butPool s c.pool).length ≤ s.pools.length := List.length_filter_le ..
    have := I.pn
    show (Cm.put Cm.plLt (Cm.butPool s c.pool) ⟨c.pool, c.tg⟩).length ≤ 64
    rw [h1, List.length_cons]
    show (Cm.butPool s c.pool).length + 1 ≤ 64
    omega
theorem sz_putR (I : Cm.Inv s) (hc : Cm.chk c = 0) : Sz (putR s ⟨c.host, c.pfx, c.pool⟩) := by
  have f := Cm.chk_fine hc
  have S := Sz.of I
  have hp := Cm.put_butR_perm (s := s) ⟨c.host, c.pfx, c.pool⟩
  refine { S with rt := fun x hx => ?_, rr := Cm.put_rises Cm.rtOrd (Cm.filter_rises Cm.rtOrd I.rr _) _, rn := ?_ }
  · rcases List.mem_cons.1 (hp.mem_iff.1 hx) with rfl | hx
    · exact ⟨by have := f.h; simp only; omega, by have := f.p; simp only; omega, by have := f.o; simp only; omega⟩
    · exact S.rt x (List.mem_filter.1 hx).1
  · have h1 := hp.length_eq
    have h2 : (Cm.butRoute s c.host c.pfx).length ≤ s.routes.length := List.length_filter_le ..
    have := I.rn
    show (Cm.put Cm.rtLt (Cm.butRoute s c.host c.pfx) ⟨c.host, c.pfx, c.pool⟩).length ≤ 128
    rw [h1, List.length_cons]
    show (Cm.butRoute s c.host c.pfx).length + 1 ≤ 128
    omega
theorem but_put {tg : List Cm.Tgt} : (Cm.butPool (putP s n tg) n).Perm (Cm.butPool s n) := by
  have := (Cm.put_but_perm (s := s) ⟨n, tg⟩).filter fun p => !decide (p.name = n)
  refine List.Perm.trans this ?_
  rw [List.filter_cons, if_neg (by simp)]
  exact List.Perm.of_eq (List.filter_eq_self.2 fun e he => (List.mem_filter.1 he).2)
theorem but_putR {x : Cm.Rt} : (Cm.butRoute (putR s x) x.host x.pfx).Perm (Cm.butRoute s x.host x.pfx) := by
  have := (Cm.put_butR_perm (s := s) x).filter fun r => !Cm.isAt x.host x.pfx r
  refine List.Perm.trans this ?_
  rw [List.filter_cons, if_neg (by simp [Cm.isAt])]
  exact List.Perm.of_eq (List.filter_eq_self.2 fun e he => (List.mem_filter.1 he).2)
theorem del_pools {M : List (Cm.Bs × PV)} (h : poolsR F M s.pools) (hn : (M.map (·.1)).Nodup) : poolsR F (mdel M n) (Cm.butPool s n) := by
  rw [mdel_eq hn]; exact but_pools h
theorem poolsR.to {M : List (Cm.Bs × PV)} {ps ps' : List Cm.Pl} (h : poolsR F M ps) (hp : ps.Perm ps') : poolsR F M ps' := ⟨h.1, h.2.trans hp⟩
theorem but_none (h : Cm.there s n = false) : Cm.butPool s n = s.pools := List.filter_eq_self.2 fun e he => by
  have := List.any_eq_false.1 h e he
  simpa using this
theorem but_noneR {h' p' : Cm.Bs} (h : Cm.known s h' p' = false) : Cm.butRoute s h' p' = s.routes := List.filter_eq_self.2 fun e he => by
  have := List.any_eq_false.1 h e he
  simpa using this
theorem back_pools {M M2 : List (Cm.Bs × PV)} {tg : List Cm.Tgt} {v : PV} (h2 : poolsR G M2 (putP s n tg).pools) (hn2 : (M2.map (·.1)).Nodup) (h : poolsR F M s.pools) (hn : (M.map (·.1)).Nodup) (hFG : Fz.le F G) (hv : mget M n = some v) :
    poolsR G (mset (mdel M2 n) n v) s.pools := by
  have hd := del_pools (s := putP s n tg) (n := n) h2 hn2
  have hp := mset_perm (nodup_mdel hn2 n) n v
  refine ⟨fun e he => ?_, ?_⟩
  · rcases List.mem_cons.1 (hp.mem_iff.1 he) with rfl | he
    · exact RdF.mono (h.1 _ (mget_some hv)) hFG
    · exact hd.1 e (List.mem_filter.1 he).1
  · refine (hp.map plOf).trans ?_
    have h3 : ((butM (mdel M2 n) n).map plOf).Perm (Cm.butPool s n) := by
      have := (but_pools (s := { putP s n tg with pools := Cm.butPool (putP s n tg) n }) (n := n) hd).2
      refine this.trans ?_
      refine List.Perm.trans (List.Perm.of_eq (List.filter_eq_self.2 fun e he => (List.mem_filter.1 he).2)) but_put
    have h4 := ((but_back hn hv).map plOf).trans h.2
    refine List.Perm.trans (List.Perm.cons _ h3) (List.Perm.trans (List.Perm.cons _ ?_) h4)
    exact (but_pools h).2.symm
theorem routesR.to {M : List (Pr × Cm.Bs)} {rs rs' : List Cm.Rt} (h : routesR M rs) (hp : rs.Perm rs') : routesR M rs' := h.trans (hp.map rtK)
theorem del_routes {M : List (Pr × Cm.Bs)} {h' p' : Cm.Bs} (h : routesR M s.routes) (hn : (M.map (·.1)).Nodup) : routesR (mdel M (h', p')) (Cm.butRoute s h' p') := by
  rw [mdel_eq hn]; exact but_routes h
theorem back_routes {M M2 : List (Pr × Cm.Bs)} {x : Cm.Rt} {v : Cm.Bs} (h2 : routesR M2 (putR s x).routes) (hn2 : (M2.map (·.1)).Nodup) (h : routesR M s.routes) (hn : (M.map (·.1)).Nodup) (hv : mget M (x.host, x.pfx) = some v) :
    routesR (mset (mdel M2 (x.host, x.pfx)) (x.host, x.pfx) v) s.routes := by
  have hd : routesR (mdel M2 (x.host, x.pfx)) (Cm.butRoute s x.host x.pfx) := routesR.to (del_routes (s := putR s x) h2 hn2) but_putR
  refine (mset_perm (nodup_mdel hn2 _) _ v).trans ?_
  have h3 : (butM (mdel M2 (x.host, x.pfx)) (x.host, x.pfx)).Perm (butM M (x.host, x.pfx)) := by
    rw [mdel_eq hn2]
    refine List.Perm.trans (List.Perm.of_eq (List.filter_eq_self.2 fun e he => (List.mem_filter.1 he).2)) ?_
    rw [← mdel_eq hn2]
    exact List.Perm.trans hd (but_routes h).symm
  exact (List.Perm.cons _ h3).trans ((but_back hn hv).trans h)
theorem look_pool_ok {mp : Nat} {Mp : List (Cm.Bs × PV)} (hp : poolsR F Mp s.pools) (h : St E (mapA mp encS pvV Mp :: L) w) (n : Cm.Bs) :
    (Instr.lookup 75 (.map (some mp)) (.string (bs n)) true).run Tryz.prog w = .ok (.tuple #[pvV ((mget Mp n).getD ((none, 0, 0), [])), .bool (Cm.there s n)]) w := by
  have := lookup_ok_run strLaw und_pools tm_tgs h n
  rw [← there_get hp]
  cases hv : mget Mp n <;> rw [hv] at this <;> exact this
theorem look_route_ok {mr : Nat} {Mr : List (Pr × Cm.Bs)} (hr : routesR Mr s.routes) (h : St E (mapA mr encP encS Mr :: L) w) (h' p' : Cm.Bs) :
    (Instr.lookup 76 (.map (some mr)) (.agg #[.string (bs h'), .string (bs p')]) true).run Tryz.prog w = .ok (.tuple #[.string (bs ((mget Mr (h', p')).getD [])), .bool (Cm.known s h' p')]) w := by
  have := lookup_ok_run placeLaw und_routes tm_str h (h', p')
  rw [← known_get hr]
  cases hv : mget Mr (h', p') <;> rw [hv] at this <;> exact this
set_option maxHeartbeats 8000000 in
/-- (*Store).act. -/
theorem act_spec (I : Cm.Inv s) (hc : Cm.chk c = 0) (hr : RdF F q.1 q.2.1 2 (c.tg.flatMap tV)) (h : St E (stA F p s :: kn F :: L) w)
    (k : ∀ G w', Fz.le F G → St E (stA G p (Cm.act s c).1 :: kn G :: L) w' → R (.returned (.int .i64 (Cm.act s c).2)) w') : Calls Tryz.prog 41 #[.pointer (some ⟨p, 0, none⟩), cmdV c q] w R := by
  have ff := Cm.chk_fine hc
  obtain ⟨mp, mr, mc, Mp, Mr, Mc, hp, hrr, hcl, h⟩ := h.st_open
  have hnp := h.f1.nodup
  have hnr := h.f2.nodup
  refine C_conf_Store_act ?_
  unfold T_conf_Store_act
  intro w10
  have h10 : St E (blkL w.heap.size 42 (cmdL c q) :: st4 p s.ver mp mr mc Mp Mr Mc (kn F :: L)) w10 := h.alloc _
  refine ⟨_, rd_fld h10.at_blk rfl rfl, _, rd_fld h10.at_blk rfl rfl, ?_⟩
  intro w13
  have h13 := h10.alloc (.cells #[.string (ByteArray.mk #[]), .string (ByteArray.mk #[])] 89)
  refine ⟨rfl, wrOk_agg h13.at_blk (xs := celP (c.host, c.pfx)) (by simp [celP]) (by intro u hu; simp [celP] at hu; rcases hu with rfl | rfl <;> rfl), ?_⟩
  intro w14 w15
  have h15 : St E (actL w10.heap.size w.heap.size c q (st4 p s.ver mp mr mc Mp Mr Mc (kn F :: L))) w15 := (h13.wr_agg0 (xs := celP (c.host, c.pfx)) rfl).drew
  clear_value w15
  clear h13 h10
  clear_value w14 w13 w10
  generalize w10.heap.size = bp at *
  generalize w.heap.size = bc at *
  refine ⟨_, rfl, _, rd_fld h15.f2.at_blk rfl rfl, _, rd_fld h15.f1.at_blk rfl rfl, runV_ok (look_pool_ok hp h15.f3 c.pool) ⟨_, _, _, _, rfl, trivial, ?_⟩⟩
  intro w23
  have h23 : St E _ w23 := h15.drew
  clear_value w23
  refine ⟨_, rfl, _, rd_fld h23.f2.at_blk rfl rfl, _, _, rd_agg (xs := celP (c.host, c.pfx)) h23.at_blk (by intro i u hu; rw [Nat.zero_add]; exact hu), runV_ok (look_route_ok hrr h23.f4 c.host c.pfx) ⟨_, _, rfl, trivial, _, rd_cell h23.f1.at_blk rfl rfl, ?_⟩⟩
  refine ite_b (fun h1 => ?_) fun h1 => ite_b (fun h2 => ?_) fun h2 => ite_b (fun h3 => ?_) fun h3 => ?_
  · have h1 : c.act = 1 := by simpa using h1
    refine act1_spec hp h23 (ite_b (fun hb => ?_) fun hb => ?_)
    · have e : Cm.act s c = (s, 6) := by unfold Cm.act; rw [if_pos h1, if_pos hb]
      rw [e] at k
      exact k F _ (Fz.le_refl F) (St.st_mk hp hrr hcl h23.drop.drop)
    · have e : Cm.act s c = Cm.fit s (putP s c.pool c.tg) := by unfold Cm.act; rw [if_pos h1, if_neg (by simp [hb])]; rfl
      rw [e] at k
      intro w45
      have h45 : St E _ w45 := h23.drew
      clear_value w45
      refine ⟨_, rfl, _, rd_fld h45.f2.at_blk rfl rfl, _, rd_fld h45.f1.at_blk rfl rfl, _, _, _, rd_fld h45.f1.at_blk rfl rfl, Clone_spec (List.mem_cons_of_mem _ (List.mem_cons_of_mem _ at4)) h45 hr (by have := (short_of ff.t).1; omega) fun q' w51 h51 => ⟨_, _, _, rfl, ⟨rd_fld h51.f2.at_blk rfl rfl, rd_fld h51.f3.at_blk rfl rfl, trivial⟩, ?_⟩⟩
      obtain ⟨w53, hr53, h53⟩ := mapUpdate_run strLaw und_pools h51.f4 c.pool (q', c.tg)
      refine runV_ok hr53 ⟨trivial, ?_⟩
      obtain ⟨G, hFG, h54, hrG⟩ := St.freezeT (h53.sel 8 [1, 7, 0, 2, 3, 4, 5, 6])
      have hpG : poolsR G (mset Mp c.pool (q', c.tg)) (putP s c.pool c.tg).pools := put_pools (hp.mono hFG) hnp hrG
      have h55 : St E (stA G p (putP s c.pool c.tg) :: kn G :: blkL bc 42 (cmdL c q) :: L) w53 := St.st_mk (s := putP s c.pool c.tg) hpG hrr hcl (St.sel (L := kn G :: mapA mp encS pvV (mset Mp c.pool (q', c.tg)) :: blkL bp 89 (celP (c.host, c.pfx)) :: blkL bc 42 (cmdL c q) :: blkL p 79 (stL s.ver mp mr mc) :: mapA mr encP encS Mr :: mapA mc encI lvV Mc :: L) h54 7 [4, 1, 5, 6, 0, 3])
      refine config_spec (b := (none, 0, 0)) (xs := []) at0 (sz_putP I hc) h55.by_nil (by simp) fun w55 b' h56 => ⟨_, _, _, rfl, ?_⟩
      have hlen := h56.by_len
      rw [List.nil_append] at hlen h56
      refine ite_d (fun hgt => ?_) fun hgt => ?_
      · have e2 : Cm.fit s (putP s c.pool c.tg) = (s, 6) := by unfold Cm.fit; rw [if_pos (by omega)]
        rw [e2] at k
        intro w57
        have h57 : St E _ w57 := h56.drop.drew
        clear_value w57
        obtain ⟨mp2, mr2, mc2, Mp2, Mr2, Mc2, hp2, hr2, hc2, h58⟩ := h57.st_open
        have hn2 := h58.f1.nodup
        refine ⟨_, rfl, _, rd_fld h58.at_blk rfl rfl, _, rd_fld h58.f5.at_blk rfl rfl, ?_⟩
        obtain ⟨w62, hr62, h62⟩ := delete_run strLaw und_pools h58.f1 c.pool #[75, 9] 0 rfl
        refine runV_ok hr62 ⟨trivial, ite_b (fun hth => ?_) fun hth => ?_⟩
        · intro w63
          have h63 : St E _ w63 := h62.drew
          clear_value w63
          refine ⟨_, rfl, _, rd_fld h63.f1.at_blk rfl rfl, _, rd_fld h63.f5.at_blk rfl rfl, ?_⟩
          rw [← there_get hp] at hth
          obtain ⟨v, hv⟩ := Option.isSome_iff_exists.1 hth
          rw [hv]
          obtain ⟨w67, hr67, h67⟩ := mapUpdate_run strLaw und_pools h63 c.pool v
          exact runV_ok hr67 ⟨trivial, k G _ hFG (St.st_mk (back_pools hp2 hn2 hp hnp hFG hv) hr2 hc2 (h67.sel 6 [1, 0, 2, 3, 4]))⟩
        · have hd : poolsR G (mdel Mp2 c.pool) s.pools := by
            have := poolsR.to (del_pools (n := c.pool) hp2 hn2) but_put
            rwa [but_none hth] at this
          exact k G _ hFG (St.st_mk hd hr2 hc2 (h62.sel 6 [1, 0, 2, 3, 4]))
      · have e2 : Cm.fit s (putP s c.pool c.tg) = (putP s c.pool c.tg, 0) := by unfold Cm.fit; rw [if_neg (by omega)]
        rw [e2] at k
        exact k G _ hFG (h56.drop.sel 3 [0, 1])
  · have h1 : c.act ≠ 1 := by simpa using h1
    have h2 : c.act = 2 := by simpa using h2
    refine ite_n (fun hth => ?_) fun hth => ?_
    · have e : Cm.act s c = (s, 8) := by unfold Cm.act; rw [if_neg h1, if_pos h2, if_pos (by simp [hth])]
      rw [e] at k
      exact k F _ (Fz.le_refl F) (St.st_mk hp hrr hcl h23.drop.drop)
    · obtain ⟨w71, hr71, h71⟩ := range_run und_routes h23.f4
      refine ⟨_, rfl, _, rd_fld h23.f2.at_blk rfl rfl, runV_ok hr71 ⟨_, rfl, act2_spec hrr (L := kn F :: L) h71 (fun hu w' h' => ?_) fun hu w89 h89 => ?_⟩⟩
      · have e : Cm.act s c = (s, 13) := by unfold Cm.act; rw [if_neg h1, if_pos h2, if_neg (by simp [hth]), if_pos hu]
        rw [e] at k
        exact k F _ (Fz.le_refl F) (St.st_mk hp hrr hcl h'.drop.drop)
      · have e : Cm.act s c = ({ s with pools := Cm.butPool s c.pool }, 0) := by unfold Cm.act; rw [if_neg h1, if_pos h2, if_neg (by simp [hth]), if_neg (by simp [hu]), Cm.fit_butPool I]
        rw [e] at k
        intro w90
        have h90 : St E _ w90 := h89.drew
        clear_value w90
        refine ⟨_, rfl, _, rd_fld h90.f2.at_blk rfl rfl, _, rd_fld h90.f1.at_blk rfl rfl, ?_⟩
        obtain ⟨w95, hr95, h95⟩ := delete_run strLaw und_pools h90.f3 c.pool #[75, 9] 0 rfl
        exact runV_ok hr95 ⟨trivial, k F _ (Fz.le_refl F) (St.st_mk (s := { s with pools := Cm.butPool s c.pool }) (del_pools hp hnp) hrr hcl (h95.sel 6 [3, 0, 4, 5]))⟩
  · have h1 : c.act ≠ 1 := by simpa using h1
    have h2 : c.act ≠ 2 := by simpa using h2
    have h3 : c.act = 3 := by simpa using h3
    refine ite_n (fun hth => ?_) fun hth => ?_
    · have e : Cm.act s c = (s, 8) := by unfold Cm.act; rw [if_neg h1, if_neg h2, if_pos h3, if_pos (by simp [hth])]
      rw [e] at k
      exact k F _ (Fz.le_refl F) (St.st_mk hp hrr hcl h23.drop.drop)
    · refine act3_spec hrr h23 (ite_b (fun hb => ?_) fun hb => ?_)
      · have e : Cm.act s c = (s, 6) := by unfold Cm.act; rw [if_neg h1, if_neg h2, if_pos h3, if_neg (by simp [hth]), if_pos hb]
        rw [e] at k
        exact k F _ (Fz.le_refl F) (St.st_mk hp hrr hcl h23.drop.drop)
      · have e : Cm.act s c = Cm.fit s (putR s ⟨c.host, c.pfx, c.pool⟩) := by unfold Cm.act; rw [if_neg h1, if_neg h2, if_pos h3, if_neg (by simp [hth]), if_neg (by simp [hb])]; rfl
        rw [e] at k
        intro w110
        have h110 : St E _ w110 := h23.drew
        clear_value w110
        refine ⟨_, rfl, _, rd_fld h110.f2.at_blk rfl rfl, _, _, rd_agg (xs := celP (c.host, c.pfx)) h110.at_blk (by intro i u hu; rw [Nat.zero_add]; exact hu), _, rd_fld h110.f1.at_blk rfl rfl, ?_⟩
        obtain ⟨w116, hr116, h116⟩ := mapUpdate_run placeLaw und_routes h110.f4 (c.host, c.pfx) c.pool
        refine runV_ok hr116 ⟨trivial, ?_⟩
        have h117 : St E (stA F p (putR s ⟨c.host, c.pfx, c.pool⟩) :: kn F :: blkL bp 89 (celP (c.host, c.pfx)) :: L) w116 := St.st_mk (s := putR s ⟨c.host, c.pfx, c.pool⟩) hp (put_routes (x := ⟨c.host, c.pfx, c.pool⟩) hrr hnr) hcl (St.sel (L := mapA mr encP encS (mset Mr (c.host, c.pfx) c.pool) :: blkL bp 89 (celP (c.host, c.pfx)) :: blkL bc 42 (cmdL c q) :: blkL p 79 (stL s.ver mp mr mc) :: mapA mp encS pvV Mp :: mapA mc encI lvV Mc :: kn F :: L) h116 7 [3, 4, 0, 5, 6, 1])
        refine config_spec (b := (none, 0, 0)) (xs := []) at0 (sz_putR I hc) h117.by_nil (by simp) fun w55 b' h56 => ⟨_, _, _, rfl, ?_⟩
        have hlen := h56.by_len
        rw [List.nil_append] at hlen h56
        refine ite_d (fun hgt => ?_) fun hgt => ?_
        · have e2 : Cm.fit s (putR s ⟨c.host, c.pfx, c.pool⟩) = (s, 6) := by unfold Cm.fit; rw [if_pos (by omega)]
          rw [e2] at k
          intro w57
          have h57 : St E _ w57 := h56.drop.drew
          clear_value w57
          obtain ⟨mp2, mr2, mc2, Mp2, Mr2, Mc2, hp2, hr2, hc2, h58⟩ := h57.st_open
          have hn2 := h58.f2.nodup
          refine ⟨_, rfl, _, rd_fld h58.at_blk rfl rfl, _, _, rd_agg (xs := celP (c.host, c.pfx)) h58.f5.at_blk (by intro i u hu; rw [Nat.zero_add]; exact hu), ?_⟩
          obtain ⟨w62, hr62, h62⟩ := delete_run placeLaw und_routes h58.f2 (c.host, c.pfx) #[76, 89] 0 rfl
          refine runV_ok hr62 ⟨trivial, ite_b (fun hkn => ?_) fun hkn => ?_⟩
          · intro w63
            have h63 : St E _ w63 := h62.drew
            clear_value w63
            refine ⟨_, rfl, _, rd_fld h63.f1.at_blk rfl rfl, _, _, rd_agg (xs := celP (c.host, c.pfx)) h63.f5.at_blk (by intro i u hu; rw [Nat.zero_add]; exact hu), ?_⟩
            rw [← known_get hrr] at hkn
            obtain ⟨v, hv⟩ := Option.isSome_iff_exists.1 hkn
            rw [hv]
            obtain ⟨w67, hr67, h67⟩ := mapUpdate_run placeLaw und_routes h63 (c.host, c.pfx) v
            exact runV_ok hr67 ⟨trivial, k F _ (Fz.le_refl F) (St.st_mk hp2 (back_routes (x := ⟨c.host, c.pfx, c.pool⟩) hr2 hn2 hrr hnr hv) hc2 (h67.sel 6 [1, 2, 0, 3, 4]))⟩
          · have hd : routesR (mdel Mr2 (c.host, c.pfx)) s.routes := by
              have := routesR.to (del_routes (s := putR s ⟨c.host, c.pfx, c.pool⟩) (h' := c.host) (p' := c.pfx) hr2 hn2) (but_putR (x := ⟨c.host, c.pfx, c.pool⟩))
              rwa [but_noneR hkn] at this
            exact k F _ (Fz.le_refl F) (St.st_mk hp2 hd hc2 (h62.sel 6 [1, 2, 0, 3, 4]))
        · have e2 : Cm.fit s (putR s ⟨c.host, c.pfx, c.pool⟩) = (putR s ⟨c.host, c.pfx, c.pool⟩, 0) := by unfold Cm.fit; rw [if_neg (by omega)]
          rw [e2] at k
          exact k F _ (Fz.le_refl F) (h56.drop.sel 3 [0, 1])
  · have h1 : c.act ≠ 1 := by simpa using h1
    have h2 : c.act ≠ 2 := by simpa using h2
    have h3 : c.act ≠ 3 := by simpa using h3
    refine ite_n (fun hkn => ?_) fun hkn => ?_
    · have e : Cm.act s c = (s, 8) := by unfold Cm.act; rw [if_neg h1, if_neg h2, if_neg h3, if_pos (by simp [hkn])]
      rw [e] at k
      exact k F _ (Fz.le_refl F) (St.st_mk hp hrr hcl h23.drop.drop)
    · have e : Cm.act s c = ({ s with routes := Cm.butRoute s c.host c.pfx }, 0) := by unfold Cm.act; rw [if_neg h1, if_neg h2, if_neg h3, if_neg (by simp [hkn]), Cm.fit_butRoute I]
      rw [e] at k
      intro w133
      have h133 : St E _ w133 := h23.drew
      clear_value w133
      refine ⟨_, rfl, _, rd_fld h133.f2.at_blk rfl rfl, _, _, rd_agg (xs := celP (c.host, c.pfx)) h133.at_blk (by intro i u hu; rw [Nat.zero_add]; exact hu), ?_⟩
      obtain ⟨w139, hr139, h139⟩ := delete_run placeLaw und_routes h133.f4 (c.host, c.pfx) #[76, 89] 0 rfl
      exact runV_ok hr139 ⟨trivial, k F _ (Fz.le_refl F) (St.st_mk (s := { s with routes := Cm.butRoute s c.host c.pfx }) hp (del_routes hrr hnr) hcl (h139.sel 6 [3, 4, 0, 5]))⟩
end
end Go.Vc

/-
  The program's store does a command.
-/
namespace Go.Vc
open Go Go.Proofs Go.Proofs.YtcpmfjclkdjfmaaGreat
set_option maxRecDepth 100000
section
variable {E w : World} {L : List Asrt} {R : Ending → World → Prop} {F G : Fz} {p : Nat} {s : Cm.Sm} {c : Cm.Cmd} {q : Sl}
abbrev rsL (e v : Int) : List Value := [.int .i64 e, .int .i64 v]
abbrev doL (br bc : Nat) (e v : Int) (c : Cm.Cmd) (q : Sl) (L : List Asrt) : List Asrt := blkL br 45 (rsL e v) :: blkL bc 42 (cmdL c q) :: L
theorem one_res (e v : Int) : ∀ u ∈ rsL e v, one u = true := by intro u hu; simp at hu; rcases hu with rfl | rfl <;> rfl
theorem rd_res {b t : Nat} {e v : Int} (h : St E (blkL b t (rsL e v) :: L) w) : rd w ⟨b, 0, none⟩ (.agg #[.int .i64 e, .int .i64 v]) := rd_agg (xs := rsL e v) h.at_blk (by intro i u hu; rw [Nat.zero_add]; exact hu)
theorem ok_res {b t : Nat} {l : List Value} (h : St E (blkL b t l :: L) w) (hl : l.length = 2) (e v : Int) : wrOk w ⟨b, 0, none⟩ (.agg #[.int .i64 e, .int .i64 v]) := wrOk_agg h.at_blk (xs := rsL e v) (by rw [hl]; exact Nat.le_refl 2) (one_res e v)
theorem St.wr_res {b t : Nat} {l : List Value} (h : St E (blkL b t l :: L) w) (hl : l.length = 2) (e v : Int) : St E (blkL b t (rsL e v) :: L) (wr w ⟨b, 0, none⟩ (.agg #[.int .i64 e, .int .i64 v])) := h.wr_agg0 (xs := rsL e v) (by rw [hl]; rfl)
theorem rd_cmd {b : Nat} (h : St E (blkL b 42 (cmdL c q) :: L) w) : rd w ⟨b, 0, none⟩ (cmdV c q) := rd_agg (xs := cmdL c q) h.at_blk (by intro i u hu; rw [Nat.zero_add]; exact hu)
theorem St.do_shut {A B : Asrt} {mp mr mc : Nat} {Mp : List (Cm.Bs × PV)} {Mr : List (Pr × Cm.Bs)} {Mc : List (Int × LV)} (hp : poolsR F Mp s.pools) (hr : routesR Mr s.routes) (hc : clientsR Mc s.l) (h : St E (A :: B :: st4 p s.ver mp mr mc Mp Mr Mc L) w) : St E (A :: B :: stA F p s :: L) w :=
  St.sel (L := stA F p s :: A :: B :: L) (St.st_mk hp hr hc (h.sel 6 [2, 3, 4, 5, 0, 1])) 3 [1, 2, 0]
abbrev seenL (x : LV) : List Value := [.int .i64 x.1, .int .i64 x.2.1, .int .i64 x.2.2]
theorem ok_seen {b t : Nat} {l : List Value} (h : St E (blkL b t l :: L) w) (hl : l.length = 3) (x : LV) : wrOk w ⟨b, 0, none⟩ (lvV x) := wrOk_agg h.at_blk (xs := seenL x) (by rw [hl]; simp) (by intro u hu; simp at hu; rcases hu with rfl | rfl | rfl <;> rfl)
theorem St.wr_seen {b t : Nat} {l : List Value} (h : St E (blkL b t l :: L) w) (hl : l.length = 3) (x : LV) : St E (blkL b t (seenL x) :: L) (wr w ⟨b, 0, none⟩ (lvV x)) := h.wr_agg0 (xs := seenL x) (by rw [hl]; rfl)
set_option maxHeartbeats 2000000 in
theorem do1_spec {br bc mp mr mc : Nat} {e v : Int} {Mp : List (Cm.Bs × PV)} {Mr : List (Pr × Cm.Bs)} {Mc : List (Int × LV)} {Kn Kr : World → Prop} {Kp : List PanicEntry → World → Prop} (hcl : clientsR Mc s.l)
    (h : St E (doL br bc e v c q (st4 p s.ver mp mr mc Mp Mr Mc L)) w)
    (k1 : ¬ (0 < c.client ∧ c.seq = (Cm.seenC s c.client).1) → ¬ (0 < c.client ∧ c.seq < (Cm.seenC s c.client).1) → ∀ w', St E (doL br bc e v c q (st4 p s.ver mp mr mc Mp Mr Mc L)) w' → Kn w')
    (k2 : 0 < c.client ∧ c.seq = (Cm.seenC s c.client).1 → ∀ w', St E (doL br bc (Cm.seenC s c.client).2.1 (Cm.seenC s c.client).2.2 c q (st4 p s.ver mp mr mc Mp Mr Mc L)) w' → Kr w')
    (k3 : ¬ (0 < c.client ∧ c.seq = (Cm.seenC s c.client).1) → 0 < c.client ∧ c.seq < (Cm.seenC s c.client).1 → ∀ w', St E (doL br bc 12 s.ver c q (st4 p s.ver mp mr mc Mp Mr Mc L)) w' → Kr w') :
    T_conf_Store_Do_1 (some ⟨p, 0, none⟩) ⟨bc, 0, none⟩ ⟨br, 0, none⟩ (decide (c.client > 0)) w Kn Kr Kp := by
  unfold T_conf_Store_Do_1
  refine ite_b (fun hb => ?_) fun hb => k1 (fun hx => ?_) (fun hx => ?_) _ h
  · have hcc : 0 < c.client := of_decide_eq_true hb
    intro w36
    have h36 : St E _ w36 := h.drew
    clear_value w36
    have tail : ∀ (w : World) (bl : Nat), St E (blkL bl 91 (seenL (Cm.seenC s c.client)) :: doL br bc e v c q (st4 p s.ver mp mr mc Mp Mr Mc L)) w →
        ∃ x47 : Int, rd w ((⟨bc, 0, none⟩ : Addr).add 2) (.int .i64 x47) ∧ ∃ x48 : Int, rd w ⟨bl, 0, none⟩ (.int .i64 x48) ∧ if ((x47 : Int) == x48) = true then (∃ x49 : Int, ∃ x50 : Int, rd w ((⟨bl, 0, none⟩ : Addr).add 1) (.agg #[.int .i64 x49, .int .i64 x50]) ∧ (.agg #[.int .i64 x49, .int .i64 x50] : Value).cells.size = 2 ∧ wrOk w ⟨br, 0, none⟩ (.agg #[.int .i64 x49, .int .i64 x50]) ∧ let w51 : World := wr w ⟨br, 0, none⟩ (.agg #[.int .i64 x49, .int .i64 x50])
          Kr w51) else (∃ x52 : Int, rd w ((⟨bc, 0, none⟩ : Addr).add 2) (.int .i64 x52) ∧ ∃ x53 : Int, rd w ⟨bl, 0, none⟩ (.int .i64 x53) ∧ if (decide ((x52 : Int) < x53)) = true then (∃ a54, some (⟨p, 0, none⟩ : Addr) = some a54 ∧ ∃ x55 : Int, rd w a54 (.int .i64 x55) ∧ (.agg #[.int .i64 12, .int .i64 x55] : Value).cells.size = 2 ∧ wrOk w ⟨br, 0, none⟩ (.agg #[.int .i64 12, .int .i64 x55]) ∧ let w56 : World := wr w ⟨br, 0, none⟩ (.agg #[.int .i64 12, .int .i64 x55])
          Kr w56) else (Kn w)) := by
      intro w bl h
      refine ⟨_, rd_fld h.f2.at_blk rfl rfl, _, rd_cell h.at_blk rfl rfl, ite_b (fun h1 => ?_) fun h1 => ?_⟩
      · refine ⟨_, _, rd_agg (xs := rsL (Cm.seenC s c.client).2.1 (Cm.seenC s c.client).2.2) h.at_blk (off := 1) (by intro i u hu; rw [Nat.add_comm]; exact hu), rfl, ok_res h.f1 rfl _ _, k2 ⟨hcc, by simpa using h1⟩ _ (h.f1.wr_res rfl _ _).f1.drop⟩
      · have hne : ¬ (0 < c.client ∧ c.seq = (Cm.seenC s c.client).1) := fun hx => by rw [hx.2] at h1; simp at h1
        refine ⟨_, rd_fld h.f2.at_blk rfl rfl, _, rd_cell h.at_blk rfl rfl, ite_d (fun h2 => ?_) fun h2 => k1 hne (fun hx => h2 hx.2) _ h.drop⟩
        exact ⟨_, rfl, _, rd_cell h.f3.at_blk rfl rfl, rfl, ok_res h.f1 rfl _ _, k3 hne ⟨hcc, h2⟩ _ (h.f1.wr_res rfl _ _).f1.drop⟩
    refine ⟨_, rfl, _, rd_fld h36.f2.at_blk rfl rfl, _, rd_fld h36.f1.at_blk rfl rfl, ?_, ?_⟩
    · refine runV_ok (look_client hcl h36.f5 c.client) ⟨_, _, _, rfl, trivial, ?_⟩
      intro w45
      have h45 := h36.alloc (.cells #[.int .i64 0, .int .i64 0, .int .i64 0] 91)
      refine ⟨trivial, rfl, ok_seen h45 rfl _, ?_⟩
      intro w46
      exact ⟨trivial, tail _ _ (h45.wr_seen rfl _)⟩
    · intro w57
      have h57 : St E _ w57 := h36.alloc (.cells #[.int .i64 0, .int .i64 0, .int .i64 0] 91)
      refine ⟨⟨rd_fld h57.f2.at_blk rfl rfl, rd_fld h57.f3.at_blk rfl rfl, trivial⟩, runV_ok (look_client hcl (St.sel h57 7 [6, 0, 1, 2, 3, 4, 5]) c.client) ⟨_, _, _, rfl, trivial, rfl, ok_seen h57 rfl _, ?_⟩⟩
      intro w63
      exact ⟨trivial, tail _ _ (h57.wr_seen rfl _)⟩
  · exact absurd hx.1 (of_decide_eq_false hb)
  · exact absurd hx.1 (of_decide_eq_false hb)
theorem do2_spec {br bc mp mr mc : Nat} {e v : Int} {Mp : List (Cm.Bs × PV)} {Mr : List (Pr × Cm.Bs)} {Mc : List (Int × LV)} {Kn : Int → World → Prop} {Kp : List PanicEntry → World → Prop} (I : Cm.Inv s) (hc : Cm.chk c = 0) (hr : RdF F q.1 q.2.1 2 (c.tg.flatMap tV))
    (hp : poolsR F Mp s.pools) (hrr : routesR Mr s.routes) (hcl : clientsR Mc s.l) (h : St E (doL br bc e v c q (st4 p s.ver mp mr mc Mp Mr Mc (kn F :: L))) w)
    (k : ∀ G w', Fz.le F G → St E (doL br bc e v c q (stA G p (Cm.step s c).1 :: kn G :: L)) w' → Kn (Cm.step s c).2 w') :
    T_conf_Store_Do_2 (some ⟨p, 0, none⟩) ⟨bc, 0, none⟩ 12 w Kn Kp := by
  have nf : ∀ {w : World} {s' : Cm.Sm} {er : Int}, Cm.step s c = (s', er) → s' = s → St E (doL br bc e v c q (st4 p s.ver mp mr mc Mp Mr Mc (kn F :: L))) w → Kn er w := fun hs he h => by
    subst he
    rw [hs] at k
    exact k F _ (Fz.le_refl F) (h.do_shut hp hrr hcl)
  have go : ¬ (0 ≤ c.expect ∧ c.expect ≠ s.ver) → ∀ {w : World}, St E (doL br bc e v c q (st4 p s.ver mp mr mc Mp Mr Mc (kn F :: L))) w →
      (∃ a90, some (⟨p, 0, none⟩ : Addr) = some a90 ∧ ∃ x91 : Int, rd w a90 (.int .i64 x91) ∧ if ((x91 : Int) == 1099511627776) = true then (Kn 6 w) else (∃ x92 : Int, ∃ x93 : Int, ∃ x94 : Int, ∃ x95 : Int, ∃ s96 : ByteArray, ∃ s97 : ByteArray, ∃ s98 : ByteArray, ∃ s99a : Option Addr, ∃ s99l : Nat, ∃ s99c : Nat, rd w ⟨bc, 0, none⟩ (.agg #[.int .i64 x92, .int .i64 x93, .int .i64 x94, .int .i64 x95, .string s96, .string s97, .string s98, .slice s99a s99l s99c]) ∧ Calls Tryz.prog 41 #[.pointer (some (⟨p, 0, none⟩ : Addr)), .agg #[.int .i64 x92, .int .i64 x93, .int .i64 x94, .int .i64 x95, .string s96, .string s97, .string s98, .slice s99a s99l s99c]] w (ret (fun r100 w101 => ∃ x102 : Int, r100 = .int .i64 x102 ∧ Kn x102 w101) Kp))) := fun hne w h => by
    refine ⟨_, rfl, _, rd_cell h.f2.at_blk rfl rfl, ite_b (fun h1 => ?_) fun h1 => ?_⟩
    · exact nf (by unfold Cm.step; rw [if_neg hne, if_pos (by simpa using h1)]) rfl h
    · have hst : Cm.step s c = Cm.act s c := by unfold Cm.step; rw [if_neg hne, if_neg (by simpa using h1)]
      rw [hst] at k
      refine ⟨_, _, _, _, _, _, _, _, _, _, rd_cmd h.f1, act_spec I hc hr ((h.do_shut hp hrr hcl).sel 4 [2, 3, 0, 1]) fun G w' hFG h' => ⟨_, rfl, k G _ hFG (St.sel (L := _ :: _ :: _ :: _ :: L) h' 4 [2, 3, 0, 1])⟩⟩
  unfold T_conf_Store_Do_2 T_conf_Store_Do_3
  intro w80
  have h80 : St E _ w80 := h.drew
  clear_value w80
  refine ⟨_, rd_fld h80.f1.at_blk rfl rfl, ite_d (fun h1 => ?_) fun h1 => ?_⟩
  · refine ⟨_, rd_fld h80.f1.at_blk rfl rfl, _, rfl, _, rd_cell h80.f2.at_blk rfl rfl, ite_b (fun h2 => ?_) fun h2 => ?_⟩
    · exact nf (by unfold Cm.step; rw [if_pos ⟨h1, by simpa using h2⟩]) rfl h80
    · exact go (fun hx => by simp at h2; exact hx.2 h2) h80
  · exact ite_b (fun h2 => by cases h2) fun _ => go (fun hx => h1 hx.1) h80
set_option maxHeartbeats 2000000 in
/-- (*Store).Do: P8.2. -/
theorem Do_spec (I : Cm.Inv s) (hr : RdF F q.1 q.2.1 2 (c.tg.flatMap tV)) (ho : okC c) (h : St E (stA F p s :: kn F :: L) w)
    (k : ∀ G w', Fz.le F G → St E (stA G p (Cm.doC s c).1 :: kn G :: L) w' → R (.returned (.agg #[.int .i64 (Cm.doC s c).2.1, .int .i64 (Cm.doC s c).2.2])) w') : Calls Tryz.prog 17 #[.pointer (some ⟨p, 0, none⟩), cmdV c q] w R := by
  obtain ⟨mp, mr, mc, Mp, Mr, Mc, hp, hrr, hcl, h⟩ := h.st_open
  refine C_conf_Store_Do ?_
  unfold T_conf_Store_Do
  intro w10
  have h10 : St E (blkL w.heap.size 42 (cmdL c q) :: st4 p s.ver mp mr mc Mp Mr Mc (kn F :: L)) w10 := h.alloc _
  intro w11
  have h11 : St E (doL w10.heap.size w.heap.size 0 0 c q (st4 p s.ver mp mr mc Mp Mr Mc (kn F :: L))) w11 := h10.alloc _
  clear_value w11
  clear h10
  clear_value w10
  generalize w10.heap.size = br at *
  generalize w.heap.size = bc at *
  have done : ∀ {w : World} {e v : Int} {s' : Cm.Sm} {G : Fz}, Fz.le F G → Cm.doC s c = (s', e, v) → St E (doL br bc e v c q (stA G p s' :: kn G :: L)) w →
      ∃ x136 : Int, ∃ x137 : Int, rd w ⟨br, 0, none⟩ (.agg #[.int .i64 x136, .int .i64 x137]) ∧ R (.returned (.agg #[.int .i64 x136, .int .i64 x137])) w := fun hFG hd h => by
    rw [hd] at k
    exact ⟨_, _, rd_res h, k _ _ hFG h.drop.drop⟩
  have back : ∀ {w : World} {e v : Int}, St E (doL br bc e v c q (st4 p s.ver mp mr mc Mp Mr Mc (kn F :: L))) w → St E (doL br bc e v c q (stA F p s :: kn F :: L)) w := fun h =>
    h.do_shut hp hrr hcl
  refine ite_some ⟨_, _, _, _, _, _, _, _, _, _, rd_cmd h11.f1, Check_spec (List.mem_cons_of_mem _ (List.mem_cons_of_mem _ at4)) h11 hr ho fun w24 h24 => ⟨_, rfl, ite_b (fun h1 => ?_) fun h1 => ?_⟩⟩
  · have h1 : Cm.chk c ≠ 0 := by simpa using h1
    refine ⟨_, rfl, _, rd_cell h24.f2.at_blk rfl rfl, rfl, ok_res h24 rfl _ _, ?_⟩
    intro w28
    exact done (Fz.le_refl F) (by unfold Cm.doC; rw [if_pos h1]) (back (h24.wr_res rfl _ _))
  · have hc : Cm.chk c = 0 := by simpa using h1
    refine ⟨_, rd_fld h24.f1.at_blk rfl rfl, do1_spec hcl h24 (fun n1 n2 w74 h74 => ?_) (fun y1 w74 h74 => ?_) (fun n1 y2 w74 h74 => ?_)⟩
    · refine do2_spec I hc hr hp hrr hcl h74 fun G w107 hFG h107 => ?_
      have hd : Cm.doC s c = (if 0 < c.client then Cm.note { (Cm.step s c).1 with ver := Cm.vers (Cm.step s c) } ⟨c.client, c.seq, (Cm.step s c).2, Cm.vers (Cm.step s c)⟩ else { (Cm.step s c).1 with ver := Cm.vers (Cm.step s c) }, (Cm.step s c).2, Cm.vers (Cm.step s c)) := by
        unfold Cm.doC; rw [if_neg (by simpa using hc), if_neg n1, if_neg n2]
      obtain ⟨J, hv, hl, _, _, hz⟩ := Cm.step_keeps I hc
      generalize hst : Cm.step s c = st at *
      obtain ⟨s', er⟩ := st
      simp only at *
      obtain ⟨mp, mr, mc, Mp, Mr, Mc, hp, hrr, hcl, h107⟩ := (h107.sel 3 [2, 0, 1] : St E (stA G p s' :: blkL br 45 (rsL 0 0) :: blkL bc 42 (cmdL c q) :: kn G :: L) w107).st_open
      have fin : ∀ {w : World}, St E (st4 p (Cm.vers (s', er)) mp mr mc Mp Mr Mc (doL br bc 0 0 c q (kn G :: L))) w → (∃ a115, some (⟨p, 0, none⟩ : Addr) = some a115 ∧ ∃ x116 : Int, rd w a115 (.int .i64 x116) ∧ let w117 : World := w.alloc (.cells #[.int .i64 0, .int .i64 0] 45)
          (.agg #[.int .i64 er, .int .i64 x116] : Value).cells.size = 2 ∧ wrOk w117 (⟨w.heap.size, 0, none⟩ : Addr) (.agg #[.int .i64 er, .int .i64 x116]) ∧ let w118 : World := wr w117 (⟨w.heap.size, 0, none⟩ : Addr) (.agg #[.int .i64 er, .int .i64 x116])
          ∃ x119 : Int, rd w118 ((⟨bc, 0, none⟩ : Addr).add 1) (.int .i64 x119) ∧ if (decide ((x119 : Int) > 0)) = true then (let w120 : World := w118.drew
          ∃ a121, some (⟨p, 0, none⟩ : Addr) = some a121 ∧ ∃ m122 : Option Nat, rd w120 (a121.add 3) (.map m122) ∧ ∃ x123 : Int, rd w120 ((⟨bc, 0, none⟩ : Addr).add 1) (.int .i64 x123) ∧ ∃ x124 : Int, rd w120 ((⟨bc, 0, none⟩ : Addr).add 2) (.int .i64 x124) ∧ ∃ x125 : Int, ∃ x126 : Int, rd w120 (⟨w.heap.size, 0, none⟩ : Addr) (.agg #[.int .i64 x125, .int .i64 x126]) ∧ runV Tryz.prog (Instr.mapUpdate 77 (.map m122) (.int .i64 x123) (.agg #[.int .i64 x124, .int .i64 x125, .int .i64 x126])) w120 (fun _ w127 => (True) ∧ ∃ x128 : Int, ∃ x129 : Int, rd w127 (⟨w.heap.size, 0, none⟩ : Addr) (.agg #[.int .i64 x128, .int .i64 x129]) ∧ (.agg #[.int .i64 x128, .int .i64 x129] : Value).cells.size = 2 ∧ wrOk w127 (⟨br, 0, none⟩ : Addr) (.agg #[.int .i64 x128, .int .i64 x129]) ∧ let w130 : World := wr w127 (⟨br, 0, none⟩ : Addr) (.agg #[.int .i64 x128, .int .i64 x129])
          ∃ x131 : Int, ∃ x132 : Int, rd w130 (⟨br, 0, none⟩ : Addr) (.agg #[.int .i64 x131, .int .i64 x132]) ∧ R (.returned (.agg #[.int .i64 x131, .int .i64 x132])) w130) (pan R)) else (∃ x133 : Int, ∃ x134 : Int, rd w118 (⟨w.heap.size, 0, none⟩ : Addr) (.agg #[.int .i64 x133, .int .i64 x134]) ∧ (.agg #[.int .i64 x133, .int .i64 x134] : Value).cells.size = 2 ∧ wrOk w118 (⟨br, 0, none⟩ : Addr) (.agg #[.int .i64 x133, .int .i64 x134]) ∧ let w135 : World := wr w118 (⟨br, 0, none⟩ : Addr) (.agg #[.int .i64 x133, .int .i64 x134])
          ∃ x136 : Int, ∃ x137 : Int, rd w135 (⟨br, 0, none⟩ : Addr) (.agg #[.int .i64 x136, .int .i64 x137]) ∧ R (.returned (.agg #[.int .i64 x136, .int .i64 x137])) w135)) := fun {w} h => by
        refine ⟨_, rfl, _, rd_cell h.at_blk rfl rfl, ?_⟩
        intro w117
        have h117 := h.alloc (.cells #[.int .i64 0, .int .i64 0] 45)
        refine ⟨rfl, ok_res h117 rfl _ _, ?_⟩
        intro w118
        have h118 : St E (blkL w.heap.size 45 (rsL er (Cm.vers (s', er))) :: st4 p (Cm.vers (s', er)) mp mr mc Mp Mr Mc (doL br bc 0 0 c q (kn G :: L))) w118 := h117.wr_res rfl _ _
        clear_value w118
        generalize w.heap.size = b2 at *
        refine ⟨_, rd_fld (St.sel h118 7 [6, 0, 1, 2, 3, 4, 5]).at_blk rfl rfl, ite_d (fun hcc => ?_) fun hcc => ?_⟩
        · intro w120
          have h120 : St E _ w120 := h118.drew
          clear_value w120
          have hc6 := (St.sel h120 7 [6, 0, 1, 2, 3, 4, 5]).at_blk
          refine ⟨_, rfl, _, rd_fld h120.f1.at_blk rfl rfl, _, rd_fld hc6 rfl rfl, _, rd_fld hc6 rfl rfl, _, _, rd_res h120, ?_⟩
          obtain ⟨w127, hr127, h127⟩ := mapUpdate_run intLaw und_clients h120.f4 c.client ((c.seq, er, Cm.vers (s', er)) : LV)
          have h127 : St E (mapA mc encI lvV (mset Mc c.client (c.seq, er, Cm.vers (s', er))) :: blkL b2 45 (rsL er (Cm.vers (s', er))) :: blkL p 79 (stL (Cm.vers (s', er)) mp mr mc) :: mapA mp encS pvV Mp :: mapA mr encP encS Mr :: doL br bc 0 0 c q (kn G :: L)) w127 := h127
          refine runV_ok hr127 ⟨trivial, _, _, rd_res h127.f1, rfl, ok_res h127.f5 rfl _ _, ?_⟩
          intro w130
          have h130 := h127.f5.wr_res rfl er (Cm.vers (s', er))
          have hcl2 : clientsR (mset Mc c.client (c.seq, er, Cm.vers (s', er))) (Cm.note { s' with ver := Cm.vers (s', er) } ⟨c.client, c.seq, er, Cm.vers (s', er)⟩).l := put_clients (x := ⟨c.client, c.seq, er, Cm.vers (s', er)⟩) hcl h120.f4.nodup
          refine done hFG hd ?_
          rw [if_pos hcc]
          exact St.sel (L := _ :: _ :: _ :: kn G :: L) (St.st_mk (s := Cm.note { s' with ver := Cm.vers (s', er) } ⟨c.client, c.seq, er, Cm.vers (s', er)⟩) hp hrr hcl2 (St.sel (L := blkL br 45 (rsL er (Cm.vers (s', er))) :: mapA mc encI lvV (mset Mc c.client (c.seq, er, Cm.vers (s', er))) :: blkL b2 45 (rsL er (Cm.vers (s', er))) :: blkL p 79 (stL (Cm.vers (s', er)) mp mr mc) :: mapA mp encS pvV Mp :: mapA mr encP encS Mr :: blkL bc 42 (cmdL c q) :: kn G :: L) h130 7 [3, 4, 5, 1, 0, 6])) 3 [1, 2, 0]
        · refine ⟨_, _, rd_res h118, rfl, ok_res h118.f5 rfl _ _, ?_⟩
          intro w135
          have h135 := h118.f5.wr_res rfl er (Cm.vers (s', er))
          refine done hFG hd ?_
          rw [if_neg hcc]
          exact St.sel (L := _ :: _ :: _ :: kn G :: L) (St.st_mk (s := { s' with ver := Cm.vers (s', er) }) hp hrr hcl (St.sel (L := blkL br 45 (rsL er (Cm.vers (s', er))) :: blkL b2 45 (rsL er (Cm.vers (s', er))) :: blkL p 79 (stL (Cm.vers (s', er)) mp mr mc) :: mapA mp encS pvV Mp :: mapA mr encP encS Mr :: mapA mc encI lvV Mc :: blkL bc 42 (cmdL c q) :: kn G :: L) h135 7 [2, 3, 4, 5, 0, 6])) 3 [1, 2, 0]
      unfold T_conf_Store_Do_4
      refine ite_b (fun h0 => ?_) fun h0 => ?_
      · have h0 : er = 0 := by simpa using h0
        have hver : Cm.vers (s', er) = s'.ver + 1 := by unfold Cm.vers; rw [if_pos h0]
        have hw : IntKind.wrap .i64 (s'.ver + 1) = s'.ver + 1 := by
          have := hz h0
          have := J.v0
          exact wrap_id (by omega) (by omega)
        rw [hver] at fin
        refine ⟨_, rfl, _, rd_cell h107.at_blk rfl rfl, _, rfl, rfl, wrOk_cell h107.at_blk (by simp [stL]) rfl, ?_⟩
        intro w113
        have := h107.wr_cell (off := 0) (v := .int .i64 (IntKind.wrap .i64 (s'.ver + 1))) rfl
        rw [show (stL s'.ver mp mr mc).set 0 (.int .i64 (IntKind.wrap .i64 (s'.ver + 1))) = stL (s'.ver + 1) mp mr mc from by rw [hw]; rfl] at this
        exact fin this
      · have h0 : er ≠ 0 := by simpa using h0
        have hver : Cm.vers (s', er) = s'.ver := by unfold Cm.vers; rw [if_neg h0]
        rw [hver] at fin
        exact fin h107
    · refine done (Fz.le_refl F) (by unfold Cm.doC; rw [if_neg (by simpa using hc), if_pos y1]) (back h74)
    · refine done (Fz.le_refl F) (by unfold Cm.doC; rw [if_neg (by simpa using hc), if_neg n1, if_pos y2]) (back h74)
end
end Go.Vc

/-
  The program's store: its bytes, its configuration in new memory.
-/
namespace Go.Vc
open Go Go.Proofs Go.Proofs.YtcpmfjclkdjfmaaGreat
set_option maxRecDepth 100000
section
variable {E w : World} {L : List Asrt} {R : Ending → World → Prop} {F G : Fz} {p : Nat} {s : Cm.Sm}
def clK (x : Cm.Last) : Int := x.client
theorem clients_perm {M : List (Int × LV)} {ls : List Cm.Last} (h : clientsR M ls) : (ls.map clK).Perm (M.map (·.1)) := by
  have := (h.map (·.1)).symm
  rwa [List.map_map] at this
theorem clients_rise {l : List Cm.Last} (h : Cm.rises Cm.laLt l = true) : (l.map clK).Pairwise (· < ·) := by
  rw [List.pairwise_map]
  exact ((Cm.rises_iff Cm.laOrd _).1 h).imp fun {a b} h => of_decide_eq_true h
theorem seen_at {l : List Cm.Last} (h : Cm.rises Cm.laLt l = true) (hs : s.l = l) {x : Cm.Last} (hx : x ∈ l) : Cm.seenC s x.client = (x.seq, x.e, x.ver) := by
  unfold Cm.seenC
  rw [hs]
  cases hf : l.find? fun y => decide (y.client = x.client) with
  | some y =>
    have hy := List.mem_of_find?_eq_some hf
    have hk : y.client = x.client := by simpa using List.find?_some hf
    have := Cm.rises_same_eq Cm.laOrd h hy hx (decide_eq_true hk)
    rw [this]
  | none => exact absurd (List.find?_eq_none.1 hf x hx) (by simp)
theorem int_at {a : Option Addr} {ks : List Int} (h : RdS w a ks.length 1 (ks.flatMap celI)) {j : Nat} (hj : j < ks.length) : ∃ ad, a = some ad ∧ rd w (ad.add (j * 1)) (.int .i64 ks[j]) := by
  obtain ⟨ad, ha, _, hk⟩ := h.elem (f := celI) (fun _ => rfl) (List.getElem?_eq_getElem hj) (by decide)
  exact ⟨ad, ha, hk 0 _ rfl rfl⟩
theorem laB_len (x : Cm.Last) : (Cm.laB x).length ≤ 24 := by
  have := num_len x.client; have := num_len x.seq; have := num_len x.e; have := num_len x.ver
  simp only [Cm.laB, List.length_append]; omega
theorem las_len {l : List Cm.Last} (hl : l.length ≤ 64) (j : Nat) : ((l.take j).flatMap Cm.laB).length ≤ 1536 := by
  have h1 := flat_max (f := Cm.laB) (c := 24) (l := l.take j) fun a _ => laB_len a
  have h2 : (l.take j).length ≤ 64 := by simp; omega
  have : (l.take j).length * 24 ≤ 64 * 24 := Nat.mul_le_mul_right _ h2
  omega
set_option maxHeartbeats 1000000 in
theorem put_l {Kn : Option Addr → Nat → Nat → World → Prop} {Kp : List PanicEntry → World → Prop} {xs : Cm.Bs} {b : Sl} {ka : Option Addr} {kc mp mr mc : Nat} {Mp : List (Cm.Bs × PV)} {Mr : List (Pr × Cm.Bs)} {Mc : List (Int × LV)} (hlr : Cm.rises Cm.laLt s.l = true) (hln : s.l.length ≤ 64) (hcl : clientsR Mc s.l)
    (h : St E (byA b xs :: ownS ka (s.l.map clK).length kc 3 1 ((s.l.map clK).flatMap celI) :: st4 p s.ver mp mr mc Mp Mr Mc L) w) (hxl : xs.length ≤ 1000000)
    (k : ∀ (w : World) (b : Sl), St E (byA b (xs ++ s.l.flatMap Cm.laB) :: ownS ka (s.l.map clK).length kc 3 1 ((s.l.map clK).flatMap celI) :: st4 p s.ver mp mr mc Mp Mr Mc L) w → Kn b.1 b.2.1 b.2.2 w) :
    T_conf_Store_Put_1 b.1 b.2.1 b.2.2 0 (some ⟨p, 0, none⟩) ka (s.l.map clK).length kc (((s.l.map clK).length : Nat) : Int) w Kn Kp := by
  have hbig : big = 140737488355328 := rfl
  unfold T_conf_Store_Put_1
  intro X hX
  refine up_to s.l.length (Q := fun j => ∀ (w : World) (b : Sl), St E (byA b (xs ++ (s.l.take j).flatMap Cm.laB) :: ownS ka (s.l.map clK).length kc 3 1 ((s.l.map clK).flatMap celI) :: st4 p s.ver mp mr mc Mp Mr Mc L) w → X b.1 b.2.1 b.2.2 (j : Int) w) ?_ w b (by simpa using h)
  intro j hj ih w b h
  refine hX _ _ _ _ _ ?_
  unfold T_conf_Store_Put_1_body
  rw [List.length_map]
  refine ite_d (fun hc => ?_) (fun hc => ?_)
  · have hjl : j < s.l.length := by omega
    obtain ⟨ad, ha, hrd⟩ := int_at (ks := s.l.map clK) h.f1.rdS_own (j := j) (by simpa using hjl)
    rw [List.getElem_map] at hrd
    have hsl := seen_at (s := s) hlr rfl (List.getElem_mem hjl)
    have hlk := look_client hcl h.f5 s.l[j].client
    rw [hsl] at hlk
    refine ⟨by omega, by omega, ad, ha, _, by rw [Int.toNat_natCast]; exact hrd, _, rfl, _, rd_fld h.f2.at_blk rfl rfl, runV_ok hlk ⟨_, _, _, rfl, ?_⟩⟩
    have hl1 := las_len hln j
    have n1 := num_len s.l[j].client; have n2 := num_len s.l[j].seq; have n3 := num_len s.l[j].e; have n4 := num_len s.l[j].ver
    intro w41
    have h41 := h.alloc (.cells #[.int .i64 0, .int .i64 0, .int .i64 0] 91)
    refine ⟨rfl, ok_seen h41 rfl (s.l[j].seq, s.l[j].e, s.l[j].ver), ?_⟩
    intro w42 w43
    have h43 : St E (blkL w.heap.size 91 (seenL (s.l[j].seq, s.l[j].e, s.l[j].ver)) :: byA b (xs ++ (s.l.take j).flatMap Cm.laB) :: ownS ka (s.l.map clK).length kc 3 1 ((s.l.map clK).flatMap celI) :: st4 p s.ver mp mr mc Mp Mr Mc L) w43 := (h41.wr_seen rfl (s.l[j].seq, s.l[j].e, s.l[j].ver)).drew
    clear_value w43
    refine ⟨_, rd_cell h43.at_blk rfl rfl, _, rd_fld h43.at_blk rfl rfl, _, rd_fld (k := 2) h43.at_blk rfl rfl, ?_⟩
    refine num_spec (n := s.l[j].client) h43.f1 (by simp only [List.length_append]; omega) fun w48 b48 h48 => ⟨_, _, _, rfl, ⟨rd_fld (k := 2) h48.f1.at_blk rfl rfl, rd_fld h48.f1.at_blk rfl rfl, rd_cell h48.f1.at_blk rfl rfl, trivial⟩, ?_⟩
    refine num_spec (n := s.l[j].seq) h48 (by simp only [List.length_append]; omega) fun w51 b51 h51 => ⟨_, _, _, rfl, ⟨rd_fld (k := 2) h51.f1.at_blk rfl rfl, rd_fld h51.f1.at_blk rfl rfl, trivial⟩, ?_⟩
    refine num_spec (n := s.l[j].e) h51 (by simp only [List.length_append]; omega) fun w54 b54 h54 => ⟨_, _, _, rfl, ⟨rd_fld (k := 2) h54.f1.at_blk rfl rfl, trivial⟩, ?_⟩
    refine num_spec (n := s.l[j].ver) h54 (by simp only [List.length_append]; omega) fun w57 b57 h57 => ⟨_, _, _, rfl, trivial, ?_⟩
    rw [succ_big (by omega)]
    refine ih hjl _ _ ?_
    rw [List.take_succ_eq_append_getElem hjl, List.flatMap_append]
    have := h57.f1.drop
    simpa [Cm.laB] using this
  · rw [List.take_of_length_le (by omega)] at h
    exact k _ _ h
/-- (*Store).Put: P8.4. -/
theorem Put_spec (hm : kn F ∈ L) (S : Sz s) (hlr : Cm.rises Cm.laLt s.l = true) (hln : s.l.length ≤ 64) (h : St E (stA F p s :: L) w)
    (k : ∀ (w' : World) (b' : Sl), St E (byA b' (Cm.putS s) :: stA F p s :: L) w' → R (.returned (.slice b'.1 b'.2.1 b'.2.2)) w') : Calls Tryz.prog 25 #[.pointer (some ⟨p, 0, none⟩)] w R := by
  have hbig : big = 140737488355328 := rfl
  obtain ⟨mp, mr, mc, Mp, Mr, Mc, hp, hr, hcl, h⟩ := h.st_open
  have hlc : Mc.length = s.l.length := by have := List.Perm.length_eq hcl; simpa using this
  have hcb := confB_len S
  have hn1 := num_len s.ver
  have hn2 := num_len s.l.length
  refine C_conf_Store_Put ?_
  unfold T_conf_Store_Put
  refine ite_some ?_
  intro w2
  have h2 : St E _ w2 := h.drew
  clear_value w2
  refine ⟨_, rfl, _, rd_cell h2.at_blk rfl rfl, _, rfl, _, rd_fld h2.at_blk rfl rfl, num_spec (s := (none, 0, 0)) (xs := []) h2.by_nil (by rw [List.length_nil]; omega) fun w8 b8 h8 => ⟨_, _, _, rfl, ⟨rd_fld h8.f1.at_blk rfl rfl, trivial⟩, ?_⟩⟩
  rw [List.nil_append] at h8
  refine config_spec4 hm S hp hr h8 (by omega) fun w11 b11 h11 => ⟨_, _, _, rfl, ⟨rd_fld h11.f1.at_blk rfl rfl, trivial⟩, runV_ok (lenMap_run und_clients h11.f4 _ _ rfl) ⟨_, rfl, trivial, ?_⟩⟩
  rw [hlc]
  refine num_spec h11 (by simp only [List.length_append]; omega) fun w17 b17 h17 => ⟨_, _, _, rfl, trivial, ?_⟩
  refine ⟨_, rfl, _, rd_fld h17.f1.at_blk rfl rfl, KeysI_spec h17 fun B w22 h22 => ⟨_, rfl, rfl, ?_⟩⟩
  refine SortedI_spec (ks := s.l.map clK) (L := byA b17 (Cm.num s.ver ++ Cm.confB s.pools s.routes ++ Cm.num s.l.length) :: blkL p 79 (stL s.ver mp mr mc) :: mapA mp encS pvV Mp :: mapA mr encP encS Mr :: L) (h22.sel 6 [0, 5, 1, 2, 3, 4]) (by omega) (clients_perm hcl) (clients_rise hlr) fun ka kc w25 h25 => ⟨_, _, _, rfl, ?_⟩
  have h25 : St E (byA b17 (Cm.num s.ver ++ Cm.confB s.pools s.routes ++ Cm.num s.l.length) :: ownS ka (s.l.map clK).length kc 3 1 ((s.l.map clK).flatMap celI) :: st4 p s.ver mp mr mc Mp Mr Mc L) w25 := h25.sel 6 [2, 0, 3, 4, 5, 1]
  generalize hy : Cm.num s.ver ++ Cm.confB s.pools s.routes ++ Cm.num s.l.length = xs at h25
  have hxl : xs.length ≤ 1000000 := by rw [← hy]; simp only [List.length_append]; omega
  refine put_l hlr hln hcl h25 hxl fun w b h => k _ _ ?_
  rw [← hy] at h
  have h9 : St E (byA b (Cm.putS s) :: st4 p s.ver mp mr mc Mp Mr Mc L) w := by simpa [Cm.putS] using h.f1.drop
  exact (St.st_mk hp hr hcl (h9.sel 5 [1, 2, 3, 4, 0])).f1
end
end Go.Vc

/-
  Rows of pools, of routes, of what clients were told; a configuration in new memory.
-/
namespace Go.Vc
open Go Go.Proofs Go.Proofs.YtcpmfjclkdjfmaaGreat
set_option maxRecDepth 100000
abbrev PlS := Sl × Cm.Pl
def pcV (x : PlS) : List Value := [.string (bs x.2.name), .slice x.1.1 x.1.2.1 x.1.2.2]
def rcV (r : Cm.Rt) : List Value := [.string (bs r.host), .string (bs r.pfx), .string (bs r.pool)]
def lcV (x : Cm.Last) : List Value := [.int .i64 x.client, .int .i64 x.seq, .int .i64 x.e, .int .i64 x.ver]
section
variable {E w : World} {L : List Asrt} {R : Ending → World → Prop} {F G : Fz} {p : Nat} {s : Cm.Sm}

/-! ### pl -/
def plA (s : Sl) (l : List PlS) : Asrt := ownS s.1 s.2.1 s.2.2 34 2 (l.flatMap pcV)
theorem pcV_len (x : PlS) : (pcV x).length = 2 := rfl
theorem pcV_one (l : List PlS) : ∀ u ∈ l.flatMap pcV, one u = true := by
  intro u hu
  obtain ⟨x, _, hx⟩ := List.mem_flatMap.1 hu
  simp [pcV] at hx
  rcases hx with rfl | rfl <;> rfl
theorem app_pl {s : Sl} {a2 : Option Addr} {l2 c2 : Nat} {xs ys : List PlS} (h : St E (plA s xs :: L) w) (hro : RdS w a2 l2 2 (ys.flatMap pcV)) (hb : xs.length + ys.length ≤ 1000000) :
    ∃ (s' : Sl) (w' : World), (Builtin.append_ #[28, 28] 28 #[.slice s.1 s.2.1 s.2.2, .slice a2 l2 c2]).run Tryz.prog w = .ok (.slice s'.1 s'.2.1 s'.2.2) w' ∧ St E (plA s' (xs ++ ys) :: L) w' := by
  have hl : xs.length = s.2.1 := h.rdS_own.count pcV_len (by decide)
  have hl2 : ys.length = l2 := hro.count pcV_len (by decide)
  obtain ⟨a', c', w', hr, hs⟩ := append_own (P := Tryz.prog) (t := 28) (ty := 28) (e := 34) (i := Tryz.t34) (z := .agg #[.string (ByteArray.mk #[]), .slice none 0 0]) (by kernel_rfl) (by kernel_rfl) (by kernel_rfl) (by kernel_rfl) (by decide) (c2 := c2) h hro (pcV_one ys)
    (by have : Tryz.t34.bytes = 40 := by kernel_rfl
        rw [this]; omega) (by unfold maxLen; omega)
  rw [show Tryz.t34.size = 2 from by kernel_rfl, ← List.flatMap_append] at hs
  exact ⟨(a', s.2.1 + l2, c'), w', hr, hs⟩
theorem St.pl_new (h : St E L w) (x : PlS) : St E (plA (some ⟨w.heap.size, 0, none⟩, 1, 1) [x] :: L) (w.alloc (.cells ⟨pcV x⟩ 34)) := by
  refine (St.ownS_mk (xs := [x].flatMap pcV) (rest := []) (l := 1) (c := 1) (sz := 2) ?_ rfl (Nat.le_refl _) (by decide) rfl :)
  simpa using h.alloc (.cells ⟨pcV x⟩ 34)
theorem app_pl1 {s : Sl} {xs : List PlS} {x : PlS} (h : St E (plA s xs :: L) w) (hb : xs.length + 1 ≤ 1000000) :
    ∃ (s' : Sl) (w' : World), (Builtin.append_ #[28, 28] 28 #[.slice s.1 s.2.1 s.2.2, .slice (some ⟨w.heap.size, 0, none⟩) 1 1]).run Tryz.prog (w.alloc (.cells ⟨pcV x⟩ 34)) = .ok (.slice s'.1 s'.2.1 s'.2.2) w' ∧ St E (plA s' (xs ++ [x]) :: L) w' := by
  have h2 := h.pl_new x
  obtain ⟨s', w', hr, hs⟩ := app_pl (c2 := 1) h2.f1 (St.rdS_own h2) (by simpa using hb)
  exact ⟨s', w', hr, hs.f1.drop⟩
theorem St.pl_nil (h : St E L w) : St E (plA (none, 0, 0) [] :: L) w := h.ownS_nil
theorem St.pl_len {s : Sl} {l : List PlS} (h : St E (plA s l :: L) w) : l.length = s.2.1 := h.rdS_own.count pcV_len (by decide)
theorem St.freeze_pl {s : Sl} {l : List PlS} (h : St E (plA s l :: kn F :: L) w) : ∃ G, Fz.le F G ∧ St E (kn G :: L) w ∧ RdF G s.1 s.2.1 2 (l.flatMap pcV) := h.freezeS

/-! ### rt -/
def rtA (s : Sl) (l : List Cm.Rt) : Asrt := ownS s.1 s.2.1 s.2.2 36 3 (l.flatMap rcV)
theorem rcV_len (x : Cm.Rt) : (rcV x).length = 3 := rfl
theorem rcV_one (l : List Cm.Rt) : ∀ u ∈ l.flatMap rcV, one u = true := by
  intro u hu
  obtain ⟨x, _, hx⟩ := List.mem_flatMap.1 hu
  simp [rcV] at hx
  rcases hx with rfl | rfl | rfl <;> rfl
theorem app_rt {s : Sl} {a2 : Option Addr} {l2 c2 : Nat} {xs ys : List Cm.Rt} (h : St E (rtA s xs :: L) w) (hro : RdS w a2 l2 3 (ys.flatMap rcV)) (hb : xs.length + ys.length ≤ 1000000) :
    ∃ (s' : Sl) (w' : World), (Builtin.append_ #[27, 27] 27 #[.slice s.1 s.2.1 s.2.2, .slice a2 l2 c2]).run Tryz.prog w = .ok (.slice s'.1 s'.2.1 s'.2.2) w' ∧ St E (rtA s' (xs ++ ys) :: L) w' := by
  have hl : xs.length = s.2.1 := h.rdS_own.count rcV_len (by decide)
  have hl2 : ys.length = l2 := hro.count rcV_len (by decide)
  obtain ⟨a', c', w', hr, hs⟩ := append_own (P := Tryz.prog) (t := 27) (ty := 27) (e := 36) (i := Tryz.t36) (z := .agg #[.string (ByteArray.mk #[]), .string (ByteArray.mk #[]), .string (ByteArray.mk #[])]) (by kernel_rfl) (by kernel_rfl) (by kernel_rfl) (by kernel_rfl) (by decide) (c2 := c2) h hro (rcV_one ys)
    (by have : Tryz.t36.bytes = 48 := by kernel_rfl
        rw [this]; omega) (by unfold maxLen; omega)
  rw [show Tryz.t36.size = 3 from by kernel_rfl, ← List.flatMap_append] at hs
  exact ⟨(a', s.2.1 + l2, c'), w', hr, hs⟩
theorem St.rt_new (h : St E L w) (x : Cm.Rt) : St E (rtA (some ⟨w.heap.size, 0, none⟩, 1, 1) [x] :: L) (w.alloc (.cells ⟨rcV x⟩ 36)) := by
  refine (St.ownS_mk (xs := [x].flatMap rcV) (rest := []) (l := 1) (c := 1) (sz := 3) ?_ rfl (Nat.le_refl _) (by decide) rfl :)
  simpa using h.alloc (.cells ⟨rcV x⟩ 36)
theorem app_rt1 {s : Sl} {xs : List Cm.Rt} {x : Cm.Rt} (h : St E (rtA s xs :: L) w) (hb : xs.length + 1 ≤ 1000000) :
    ∃ (s' : Sl) (w' : World), (Builtin.append_ #[27, 27] 27 #[.slice s.1 s.2.1 s.2.2, .slice (some ⟨w.heap.size, 0, none⟩) 1 1]).run Tryz.prog (w.alloc (.cells ⟨rcV x⟩ 36)) = .ok (.slice s'.1 s'.2.1 s'.2.2) w' ∧ St E (rtA s' (xs ++ [x]) :: L) w' := by
  have h2 := h.rt_new x
  obtain ⟨s', w', hr, hs⟩ := app_rt (c2 := 1) h2.f1 (St.rdS_own h2) (by simpa using hb)
  exact ⟨s', w', hr, hs.f1.drop⟩
theorem St.rt_nil (h : St E L w) : St E (rtA (none, 0, 0) [] :: L) w := h.ownS_nil
theorem St.rt_len {s : Sl} {l : List Cm.Rt} (h : St E (rtA s l :: L) w) : l.length = s.2.1 := h.rdS_own.count rcV_len (by decide)
theorem St.rt_zero (h : St E L w) : St E (rtA (some ⟨w.heap.size, 0, none⟩, 0, 0) [] :: L) (w.alloc (.cells #[] 36)) := St.ownS_mk (rest := []) (h.alloc _) rfl (Nat.le_refl _) (Nat.zero_le _) rfl
theorem St.freeze_rt {s : Sl} {l : List Cm.Rt} (h : St E (rtA s l :: kn F :: L) w) : ∃ G, Fz.le F G ∧ St E (kn G :: L) w ∧ RdF G s.1 s.2.1 3 (l.flatMap rcV) := h.freezeS

/-! ### la -/
def laA (s : Sl) (l : List Cm.Last) : Asrt := ownS s.1 s.2.1 s.2.2 113 4 (l.flatMap lcV)
theorem lcV_len (x : Cm.Last) : (lcV x).length = 4 := rfl
theorem lcV_one (l : List Cm.Last) : ∀ u ∈ l.flatMap lcV, one u = true := by
  intro u hu
  obtain ⟨x, _, hx⟩ := List.mem_flatMap.1 hu
  simp [lcV] at hx
  rcases hx with rfl | rfl | rfl | rfl <;> rfl
theorem app_la {s : Sl} {a2 : Option Addr} {l2 c2 : Nat} {xs ys : List Cm.Last} (h : St E (laA s xs :: L) w) (hro : RdS w a2 l2 4 (ys.flatMap lcV)) (hb : xs.length + ys.length ≤ 1000000) :
    ∃ (s' : Sl) (w' : World), (Builtin.append_ #[106, 106] 106 #[.slice s.1 s.2.1 s.2.2, .slice a2 l2 c2]).run Tryz.prog w = .ok (.slice s'.1 s'.2.1 s'.2.2) w' ∧ St E (laA s' (xs ++ ys) :: L) w' := by
  have hl : xs.length = s.2.1 := h.rdS_own.count lcV_len (by decide)
  have hl2 : ys.length = l2 := hro.count lcV_len (by decide)
  obtain ⟨a', c', w', hr, hs⟩ := append_own (P := Tryz.prog) (t := 106) (ty := 106) (e := 113) (i := Tryz.t113) (z := .agg #[.int .i64 0, .int .i64 0, .int .i64 0, .int .i64 0]) (by kernel_rfl) (by kernel_rfl) (by kernel_rfl) (by kernel_rfl) (by decide) (c2 := c2) h hro (lcV_one ys)
    (by have : Tryz.t113.bytes = 32 := by kernel_rfl
        rw [this]; omega) (by unfold maxLen; omega)
  rw [show Tryz.t113.size = 4 from by kernel_rfl, ← List.flatMap_append] at hs
  exact ⟨(a', s.2.1 + l2, c'), w', hr, hs⟩
theorem St.la_new (h : St E L w) (x : Cm.Last) : St E (laA (some ⟨w.heap.size, 0, none⟩, 1, 1) [x] :: L) (w.alloc (.cells ⟨lcV x⟩ 113)) := by
  refine (St.ownS_mk (xs := [x].flatMap lcV) (rest := []) (l := 1) (c := 1) (sz := 4) ?_ rfl (Nat.le_refl _) (by decide) rfl :)
  simpa using h.alloc (.cells ⟨lcV x⟩ 113)
theorem app_la1 {s : Sl} {xs : List Cm.Last} {x : Cm.Last} (h : St E (laA s xs :: L) w) (hb : xs.length + 1 ≤ 1000000) :
    ∃ (s' : Sl) (w' : World), (Builtin.append_ #[106, 106] 106 #[.slice s.1 s.2.1 s.2.2, .slice (some ⟨w.heap.size, 0, none⟩) 1 1]).run Tryz.prog (w.alloc (.cells ⟨lcV x⟩ 113)) = .ok (.slice s'.1 s'.2.1 s'.2.2) w' ∧ St E (laA s' (xs ++ [x]) :: L) w' := by
  have h2 := h.la_new x
  obtain ⟨s', w', hr, hs⟩ := app_la (c2 := 1) h2.f1 (St.rdS_own h2) (by simpa using hb)
  exact ⟨s', w', hr, hs.f1.drop⟩
theorem St.la_nil (h : St E L w) : St E (laA (none, 0, 0) [] :: L) w := h.ownS_nil
theorem St.freeze_la {s : Sl} {l : List Cm.Last} (h : St E (laA s l :: kn F :: L) w) : ∃ G, Fz.le F G ∧ St E (kn G :: L) w ∧ RdF G s.1 s.2.1 4 (l.flatMap lcV) := h.freezeS

/-! ### a configuration -/
/-- The pools' targets, each in a row of its own. -/
def tgO (xs : List PlS) : Asrt := seps (xs.map fun x => tgA x.1 x.2.tg)
theorem St.tgO_nil (h : St E L w) : St E (tgO [] :: L) w := St.shut (L1 := []) h
theorem St.tgO_put {xs : List PlS} {x : PlS} (h : St E (tgA x.1 x.2.tg :: tgO xs :: L) w) : St E (tgO (xs ++ [x]) :: L) w := by
  have h1 : St E ((xs.map fun x => tgA x.1 x.2.tg) ++ (tgA x.1 x.2.tg :: L)) w := St.open_ (L1 := xs.map fun x => tgA x.1 x.2.tg) h.f1
  unfold tgO
  refine St.shut (L1 := (xs ++ [x]).map fun x => tgA x.1 x.2.tg) ?_
  simpa using h1
/-- All of them, known for good. -/
theorem St.tgO_freeze : ∀ {xs : List PlS} {F : Fz} {L : List Asrt}, St E (tgO xs :: kn F :: L) w → ∃ G, Fz.le F G ∧ St E (kn G :: L) w ∧ ∀ x ∈ xs, RdF G x.1.1 x.1.2.1 2 (x.2.tg.flatMap tV)
  | [], F, L, h => ⟨F, Fz.le_refl F, h.drop, fun x hx => by cases hx⟩
  | x :: r, F, L, h => by
    have h1 : St E (tgA x.1 x.2.tg :: ((r.map fun x => tgA x.1 x.2.tg) ++ (kn F :: L))) w := St.open_ (L1 := (x :: r).map fun x => tgA x.1 x.2.tg) h
    have h2 : St E (tgA x.1 x.2.tg :: kn F :: ((r.map fun x => tgA x.1 x.2.tg) ++ L)) w := h1.perm (List.Perm.cons _ List.perm_middle)
    obtain ⟨G1, hF, h3, hr⟩ := h2.freezeT
    have h4 : St E (tgO r :: kn G1 :: L) w := St.shut (L1 := r.map fun x : PlS => tgA x.1 x.2.tg) (h3.perm List.perm_middle.symm)
    obtain ⟨G, hG, h5, hrs⟩ := h4.tgO_freeze
    refine ⟨G, Fz.le_trans hF hG, h5, fun y hy => ?_⟩
    rcases List.mem_cons.1 hy with rfl | hy
    · exact RdF.mono hr hG
    · exact hrs y hy
def cfgV (v : Int) (ra pa : Sl) : Value := .agg #[.int .i64 v, .slice ra.1 ra.2.1 ra.2.2, .slice pa.1 pa.2.1 pa.2.2]
abbrev cfgL (v : Int) (ra pa : Sl) : List Value := [.int .i64 v, .slice ra.1 ra.2.1 ra.2.2, .slice pa.1 pa.2.1 pa.2.2]

theorem rd_cfg {b : Nat} {v : Int} {ra pa : Sl} (h : St E (blkL b 30 (cfgL v ra pa) :: L) w) : rd w ⟨b, 0, none⟩ (cfgV v ra pa) := rd_agg (xs := cfgL v ra pa) h.at_blk (by intro i u hu; rw [Nat.zero_add]; exact hu)
theorem one_cfg (v : Int) (ra pa : Sl) : ∀ u ∈ cfgL v ra pa, one u = true := by intro u hu; simp at hu; rcases hu with rfl | rfl | rfl <;> rfl
theorem ok_cfg {b t : Nat} {l : List Value} (h : St E (blkL b t l :: L) w) (hl : l.length = 3) (v : Int) (ra pa : Sl) : wrOk w ⟨b, 0, none⟩ (cfgV v ra pa) := wrOk_agg h.at_blk (xs := cfgL v ra pa) (by rw [hl]; exact Nat.le_refl 3) (one_cfg v ra pa)
theorem St.wr_cfg {b t : Nat} {l : List Value} (h : St E (blkL b t l :: L) w) (hl : l.length = 3) (v : Int) (ra pa : Sl) : St E (blkL b t (cfgL v ra pa) :: L) (wr w ⟨b, 0, none⟩ (cfgV v ra pa)) := h.wr_agg0 (xs := cfgL v ra pa) (by rw [hl]; rfl)
set_option maxHeartbeats 1000000 in
theorem cfg_l1 {Kn : World → Prop} {Kp : List PanicEntry → World → Prop} {ka : Option Addr} {kc bc mp mr mc : Nat} {v0 : Int} {Mp : List (Cm.Bs × PV)} {Mr : List (Pr × Cm.Bs)} {Mc : List (Int × LV)} (hm : kn F ∈ L) (S : Sz s) (hp : poolsR F Mp s.pools)
    (h : St E (blkL bc 30 (cfgL v0 (none, 0, 0) (none, 0, 0)) :: plA (none, 0, 0) [] :: tgO [] :: ownS ka (s.pools.map nmK).length kc 9 1 ((s.pools.map nmK).flatMap celS) :: st4 p s.ver mp mr mc Mp Mr Mc L) w)
    (k : ∀ (w : World) (pa : Sl) (xs : List PlS), xs.map (·.2) = s.pools → St E (blkL bc 30 (cfgL v0 (none, 0, 0) pa) :: plA pa xs :: tgO xs :: st4 p s.ver mp mr mc Mp Mr Mc L) w → Kn w) :
    T_conf_Store_Config_1 0 (some ⟨p, 0, none⟩) ⟨bc, 0, none⟩ ka (s.pools.map nmK).length kc (((s.pools.map nmK).length : Nat) : Int) w Kn Kp := by
  have hbig : big = 140737488355328 := rfl
  have hpn := S.pn
  unfold T_conf_Store_Config_1
  intro X hX
  refine up_to s.pools.length (Q := fun j => ∀ (w : World) (pa : Sl) (xs : List PlS), xs.map (·.2) = s.pools.take j → St E (blkL bc 30 (cfgL v0 (none, 0, 0) pa) :: plA pa xs :: tgO xs :: ownS ka (s.pools.map nmK).length kc 9 1 ((s.pools.map nmK).flatMap celS) :: st4 p s.ver mp mr mc Mp Mr Mc L) w → X (j : Int) w) ?_ w (none, 0, 0) [] rfl h
  intro j hj ih w pa xs hxs h
  have hxl : xs.length ≤ 64 := by have := congrArg List.length hxs; simp at this; omega
  refine hX _ _ ?_
  unfold T_conf_Store_Config_1_body
  rw [List.length_map]
  refine ite_d (fun hc => ?_) (fun hc => ?_)
  · have hjl : j < s.pools.length := by omega
    obtain ⟨ad, ha, hrd⟩ := key_at (ks := s.pools.map nmK) h.f3.rdS_own (j := j) (by simpa using hjl)
    rw [List.getElem_map] at hrd
    refine ⟨by omega, by omega, ad, ha, _, by rw [Int.toNat_natCast]; exact hrd, ?_⟩
    intro w4
    have h4 : St E _ w4 := h.drew
    clear_value w4
    obtain ⟨hx3, hx4⟩ := S.pl _ (List.getElem_mem hjl)
    obtain ⟨v, hv, hvt, hvg⟩ := pool_get hp h.f5.nodup (List.getElem_mem hjl)
    have hvg : RdF F v.1.1 v.1.2.1 2 (s.pools[j].tg.flatMap tV) := hvt ▸ hvg
    have hm8 : ∀ {A B C D H I J K : Asrt}, kn F ∈ A :: B :: C :: D :: H :: I :: J :: K :: L := List.mem_cons_of_mem _ (List.mem_cons_of_mem _ (List.mem_cons_of_mem _ (List.mem_cons_of_mem _ (List.mem_cons_of_mem _ (List.mem_cons_of_mem _ (List.mem_cons_of_mem _ (List.mem_cons_of_mem _ hm)))))))
    refine ⟨_, _, _, rd_fld h4.at_blk rfl rfl, _, rfl, _, rd_fld h4.f4.at_blk rfl rfl, runV_ok (look_pool h4.f5 hv) ⟨_, _, _, rfl, ⟨rd_fld h4.at_blk rfl rfl, trivial⟩, ?_⟩⟩
    refine Clone_spec (q := v.1) hm8 h4 hvg (by have := hx4.1; omega) fun q' w34 h34 => ⟨_, _, _, rfl, ⟨rd_fld h34.f1.at_blk rfl rfl, trivial⟩, ?_⟩
    intro w36
    have h36 := h34.alloc (.cells ⟨pcV (q', s.pools[j])⟩ 34)
    refine ⟨⟨rd_fld h36.f2.at_blk rfl rfl, trivial⟩, ?_⟩
    obtain ⟨pa', w38, hr38, h38⟩ := app_pl1 (x := (q', s.pools[j])) h34.f2 (by omega)
    refine runV_ok hr38 ⟨_, _, _, rfl, trivial, rfl, wrOk_fld h38.f2.at_blk (by show 2 < 3; decide) rfl, ?_⟩
    intro w40
    have h40 := h38.f2.wr_fld (k := 2) (v := .slice pa'.1 pa'.2.1 pa'.2.2) rfl
    refine ⟨trivial, ?_⟩
    rw [succ_big (by omega)]
    refine ih hjl _ pa' (xs ++ [(q', s.pools[j])]) (by rw [List.map_append, hxs, List.take_succ_eq_append_getElem hjl]; rfl) ?_
    have h41 : St E (blkL bc 30 (cfgL v0 (none, 0, 0) pa') :: plA pa' (xs ++ [(q', s.pools[j])]) :: tgA q' s.pools[j].tg :: tgO xs :: ownS ka (s.pools.map nmK).length kc 9 1 ((s.pools.map nmK).flatMap celS) :: st4 p s.ver mp mr mc Mp Mr Mc L) w40 := h40
    exact St.sel (L := _ :: _ :: _ :: _) (St.tgO_put (x := (q', s.pools[j])) (h41.sel 4 [2, 3, 0, 1])) 3 [1, 2, 0]
  · rw [List.take_of_length_le (by omega)] at hxs
    exact k _ _ _ hxs (h.sel 4 [0, 1, 2])
set_option maxHeartbeats 2000000 in
theorem cfg_l2 {Kn : World → Prop} {Kp : List PanicEntry → World → Prop} {ka : Option Addr} {kc bc mp mr mc : Nat} {v0 : Int} {pa : Sl} {Mp : List (Cm.Bs × PV)} {Mr : List (Pr × Cm.Bs)} {Mc : List (Int × LV)} (S : Sz s) (hr : routesR Mr s.routes)
    (h : St E (blkL bc 30 (cfgL v0 (none, 0, 0) pa) :: rtA (none, 0, 0) [] :: ownS ka (s.routes.map plK).length kc 89 2 ((s.routes.map plK).flatMap celP) :: st4 p s.ver mp mr mc Mp Mr Mc L) w)
    (k : ∀ (w : World) (ra : Sl), St E (blkL bc 30 (cfgL v0 ra pa) :: rtA ra s.routes :: st4 p s.ver mp mr mc Mp Mr Mc L) w → Kn w) :
    T_conf_Store_Config_2 0 (some ⟨p, 0, none⟩) ⟨bc, 0, none⟩ ka (s.routes.map plK).length kc (((s.routes.map plK).length : Nat) : Int) w Kn Kp := by
  have hbig : big = 140737488355328 := rfl
  have hrn := S.rn
  unfold T_conf_Store_Config_2
  intro X hX
  refine up_to s.routes.length (Q := fun j => ∀ (w : World) (ra : Sl), St E (blkL bc 30 (cfgL v0 ra pa) :: rtA ra (s.routes.take j) :: ownS ka (s.routes.map plK).length kc 89 2 ((s.routes.map plK).flatMap celP) :: st4 p s.ver mp mr mc Mp Mr Mc L) w → X (j : Int) w) ?_ w (none, 0, 0) h
  intro j hj ih w ra h
  refine hX _ _ ?_
  unfold T_conf_Store_Config_2_body
  rw [List.length_map]
  refine ite_d (fun hc => ?_) (fun hc => ?_)
  · have hjl : j < s.routes.length := by omega
    obtain ⟨ad, ha, hrd⟩ := place_at (ks := s.routes.map plK) h.f2.rdS_own (j := j) (by simpa using hjl)
    rw [List.getElem_map] at hrd
    refine ⟨by omega, by omega, ad, ha, _, _, by rw [Int.toNat_natCast]; exact hrd, ?_⟩
    have hv := route_get hr h.f5.nodup (List.getElem_mem hjl)
    intro w8
    have h8 := h.alloc (.cells #[.string (ByteArray.mk #[]), .string (ByteArray.mk #[])] 89)
    refine ⟨rfl, wrOk_agg h8.at_blk (xs := celP (plK s.routes[j])) (by simp [celP]) (by intro u hu; simp [celP] at hu; rcases hu with rfl | rfl <;> rfl), ?_⟩
    intro w9 w10
    have h10 : St E (blkL w.heap.size 89 (celP (plK s.routes[j])) :: blkL bc 30 (cfgL v0 ra pa) :: rtA ra (s.routes.take j) :: ownS ka (s.routes.map plK).length kc 89 2 ((s.routes.map plK).flatMap celP) :: st4 p s.ver mp mr mc Mp Mr Mc L) w10 := (h8.wr_agg0 (xs := celP (plK s.routes[j])) rfl).drew
    clear_value w10
    clear h8
    clear_value w9 w8
    generalize w.heap.size = bk at *
    refine ⟨_, _, _, rd_fld h10.f1.at_blk rfl rfl, _, rd_cell h10.at_blk rfl rfl, _, rd_fld h10.at_blk rfl rfl, _, rfl, _, rd_fld h10.f4.at_blk rfl rfl, _, _, rd_agg (xs := celP (plK s.routes[j])) h10.at_blk (by intro i u hu; rw [Nat.zero_add]; exact hu), ?_⟩
    have h10m : St E (mapA mr encP encS Mr :: L) w10 := h10.sel 8 [6]
    refine runV_ok (look_route h10m hv) ⟨_, rfl, ⟨rd_fld h10.at_blk rfl rfl, rd_cell h10.at_blk rfl rfl, rd_fld h10.f1.at_blk rfl rfl, trivial⟩, ?_⟩
    intro w66
    have h66 := h10.alloc (.cells ⟨rcV s.routes[j]⟩ 36)
    refine ⟨⟨rd_fld h66.f2.at_blk rfl rfl, trivial⟩, ?_⟩
    obtain ⟨ra', w68, hr68, h68⟩ := app_rt1 (x := s.routes[j]) h10.f2 (by simp; omega)
    refine runV_ok hr68 ⟨_, _, _, rfl, trivial, rfl, wrOk_fld h68.f2.at_blk (by show 1 < 3; decide) rfl, ?_⟩
    intro w70
    have h70 := h68.f2.wr_fld (k := 1) (v := .slice ra'.1 ra'.2.1 ra'.2.2) rfl
    refine ⟨trivial, ?_⟩
    rw [succ_big (by omega)]
    refine ih hjl _ ra' ?_
    rw [List.take_succ_eq_append_getElem hjl]
    have h71 : St E (blkL bc 30 (cfgL v0 ra' pa) :: rtA ra' (s.routes.take j ++ [s.routes[j]]) :: blkL bk 89 (celP (plK s.routes[j])) :: ownS ka (s.routes.map plK).length kc 89 2 ((s.routes.map plK).flatMap celP) :: st4 p s.ver mp mr mc Mp Mr Mc L) w70 := h70
    exact h71.sel 3 [0, 1]
  · rw [List.take_of_length_le (by omega)] at h
    exact k _ _ (h.sel 3 [0, 1])
set_option maxHeartbeats 2000000 in
/-- (*Store).Config: the configuration, in new memory. -/
theorem Config_spec (hm : kn F ∈ L) (S : Sz s) (h : St E (stA F p s :: L) w)
    (k : ∀ (w' : World) (ra pa : Sl) (xs : List PlS), xs.map (·.2) = s.pools → St E (rtA ra s.routes :: plA pa xs :: tgO xs :: stA F p s :: L) w' → R (.returned (cfgV s.ver ra pa)) w') : Calls Tryz.prog 14 #[.pointer (some ⟨p, 0, none⟩)] w R := by
  obtain ⟨mp, mr, mc, Mp, Mr, Mc, hp, hr, hcl, h⟩ := h.st_open
  have hlp : Mp.length = s.pools.length := by have := hp.2.length_eq; simpa using this
  have hlr : Mr.length = s.routes.length := by have := List.Perm.length_eq hr; simpa using this
  have hpn := S.pn
  have hrn := S.rn
  refine C_conf_Store_Config ?_
  unfold T_conf_Store_Config
  intro w2
  have h2 := h.alloc (.cells #[.int .i64 0, .slice none 0 0, .slice none 0 0] 30)
  refine ite_some ⟨_, rfl, _, rd_cell h2.f1.at_blk rfl rfl, ?_⟩
  intro w9
  have h9 := h2.alloc (.cells #[.int .i64 0, .slice none 0 0, .slice none 0 0] 30)
  refine ⟨rfl, ok_cfg h9 rfl s.ver (none, 0, 0) (none, 0, 0), ?_⟩
  intro w10
  have h10 : St E (blkL w2.heap.size 30 (cfgL s.ver (none, 0, 0) (none, 0, 0)) :: blkL w.heap.size 30 (cfgL 0 (none, 0, 0) (none, 0, 0)) :: st4 p s.ver mp mr mc Mp Mr Mc L) w10 := h9.wr_cfg rfl _ _ _
  clear_value w10
  clear h9 h2
  clear_value w9 w2
  generalize w2.heap.size = bc at *
  generalize w.heap.size = br at *
  refine ⟨_, rfl, _, rd_fld h10.f2.at_blk rfl rfl, KeysS_spec h10 fun B w14 h14 => ⟨_, rfl, rfl, ?_⟩⟩
  refine SortedS_spec (ks := s.pools.map nmK) (L := blkL bc 30 (cfgL s.ver (none, 0, 0) (none, 0, 0)) :: blkL br 30 (cfgL 0 (none, 0, 0) (none, 0, 0)) :: blkL p 79 (stL s.ver mp mr mc) :: mapA mr encP encS Mr :: mapA mc encI lvV Mc :: L) (h14.sel 7 [0, 4, 1, 2, 3, 5, 6]) (by omega) (names_perm hp) (names_rise S.pr) fun ka kc w17 h17 => ⟨_, _, _, rfl, ?_⟩
  have h18 : St E (blkL bc 30 (cfgL s.ver (none, 0, 0) (none, 0, 0)) :: ownS ka (s.pools.map nmK).length kc 9 1 ((s.pools.map nmK).flatMap celS) :: st4 p s.ver mp mr mc Mp Mr Mc (blkL br 30 (cfgL 0 (none, 0, 0) (none, 0, 0)) :: L)) w17 := h17.sel 7 [2, 0, 4, 1, 5, 6, 3]
  refine cfg_l1 (List.mem_cons_of_mem _ hm) S hp (h18.tgO_nil.pl_nil.sel 4 [2, 0, 1, 3]) fun w41 pa xs hxs h41 => ?_
  refine sorted_spec (ks := s.routes.map plK) (L := blkL bc 30 (cfgL s.ver (none, 0, 0) pa) :: plA pa xs :: tgO xs :: mapA mp encS pvV Mp :: mapA mc encI lvV Mc :: blkL br 30 (cfgL 0 (none, 0, 0) (none, 0, 0)) :: L) (h41.sel 8 [3, 5, 0, 1, 2, 4, 6, 7]) (by omega) (places_perm hr) (places_rise S.rr) fun ka kc w43 h43 => ⟨_, _, _, rfl, ?_⟩
  have h44 : St E (blkL bc 30 (cfgL s.ver (none, 0, 0) pa) :: ownS ka (s.routes.map plK).length kc 89 2 ((s.routes.map plK).flatMap celP) :: st4 p s.ver mp mr mc Mp Mr Mc (plA pa xs :: tgO xs :: blkL br 30 (cfgL 0 (none, 0, 0) (none, 0, 0)) :: L)) w43 := h43.sel 9 [3, 0, 1, 6, 2, 7, 4, 5, 8]
  refine cfg_l2 S hr (h44.rt_nil.f1) fun w71 ra h71 => ?_
  refine ⟨_, _, _, _, _, _, _, rd_cfg h71, rfl, ok_cfg (h71.sel 9 [8]) rfl s.ver ra pa, ?_⟩
  intro w75
  have h75 := St.wr_cfg (h71.sel 9 [8, 1, 2, 3, 4, 5, 6, 7]) rfl s.ver ra pa
  refine ⟨_, _, _, _, _, _, _, rd_cfg h75, k _ ra pa xs hxs ?_⟩
  have h76 : St E (rtA ra s.routes :: st4 p s.ver mp mr mc Mp Mr Mc (plA pa xs :: tgO xs :: L)) w75 := h75.drop
  exact St.sel (L := stA F p s :: rtA ra s.routes :: plA pa xs :: tgO xs :: L) (St.st_mk hp hr hcl (h76.sel 5 [1, 2, 3, 4, 0])) 4 [1, 2, 3, 0]
end
end Go.Vc

/-
  Configurations held against each other; results held against each other.
-/
namespace Go.Vc
open Go Go.Proofs Go.Proofs.YtcpmfjclkdjfmaaGreat
set_option maxRecDepth 100000
section
variable {E w : World} {L : List Asrt} {R : Ending → World → Prop} {F G : Fz}
theorem res_eq (x y : Operand) (a b c d : Int) : (do eqGuard .eql 45 x y (.agg #[.int .i64 a, .int .i64 b]) (.agg #[.int .i64 c, .int .i64 d]); binOp .eql 45 (.agg #[.int .i64 a, .int .i64 b]) (.agg #[.int .i64 c, .int .i64 d]) : Sem Value).run Tryz.prog w = .ok (.bool (decide ((a, b) = (c, d)))) w :=
  run_eq_agg (by kernel_rfl) ((keyLaw_int2 (P := Tryz.prog) (t := 45) (f0 := ⟨ "E", 43, 0, false, "", "", 0⟩) (f1 := ⟨ "Version", 3, 1, false, "", "", 8⟩) (by kernel_rfl) (by kernel_rfl) (by kernel_rfl) (by decide) (by decide) rfl rfl (by kernel_rfl)).eq (a, b) (c, d) w)
theorem res_ne (x y : Operand) (a b c d : Int) : (do eqGuard .neq 45 x y (.agg #[.int .i64 a, .int .i64 b]) (.agg #[.int .i64 c, .int .i64 d]); binOp .neq 45 (.agg #[.int .i64 a, .int .i64 b]) (.agg #[.int .i64 c, .int .i64 d]) : Sem Value).run Tryz.prog w = .ok (.bool (!decide ((a, b) = (c, d)))) w :=
  run_ne_agg (by kernel_rfl) ((keyLaw_int2 (P := Tryz.prog) (t := 45) (f0 := ⟨ "E", 43, 0, false, "", "", 0⟩) (f1 := ⟨ "Version", 3, 1, false, "", "", 8⟩) (by kernel_rfl) (by kernel_rfl) (by kernel_rfl) (by decide) (by decide) rfl rfl (by kernel_rfl)).eq (a, b) (c, d) w)
theorem route_eq (a b : Cm.Rt) : (Op.equal 36 (.agg #[.string (bs a.host), .string (bs a.pfx), .string (bs a.pool)]) (.agg #[.string (bs b.host), .string (bs b.pfx), .string (bs b.pool)])).run Tryz.prog w = .ok (decide (a = b)) w := by
  have := equal_str3 (P := Tryz.prog) (t := 36) (w := w) (f0 := ⟨ "Host", 9, 0, false, "", "", 0⟩) (f1 := ⟨ "Prefix", 9, 1, false, "", "", 16⟩) (f2 := ⟨ "Pool", 9, 2, false, "", "", 32⟩) (by kernel_rfl) (by kernel_rfl) (by kernel_rfl) (by kernel_rfl) (by decide) (by decide) (by decide) rfl rfl rfl (by kernel_rfl) (bs a.host) (bs a.pfx) (bs a.pool) (bs b.host) (bs b.pfx) (bs b.pool)
  rw [this]
  congr 1
  have e : ∀ x y : Cm.Bs, bs x = bs y ↔ x = y := fun x y => ⟨bs_inj, congrArg bs⟩
  obtain ⟨a1, a2, a3⟩ := a
  obtain ⟨b1, b2, b3⟩ := b
  simp only [e, Cm.Rt.mk.injEq]
  rw [Bool.eq_iff_iff]
  simp
/-- A configuration, known for good. -/
def cfgR (F : Fz) (ra pa : Sl) (rs : List Cm.Rt) (ps : List Cm.Pl) : Prop :=
  RdF F ra.1 ra.2.1 3 (rs.flatMap rcV) ∧ ∃ xs : List PlS, xs.map (·.2) = ps ∧ RdF F pa.1 pa.2.1 2 (xs.flatMap pcV) ∧ ∀ x ∈ xs, RdF F x.1.1 x.1.2.1 2 (x.2.tg.flatMap tV)
theorem cfgR.mono {ra pa : Sl} {rs : List Cm.Rt} {ps : List Cm.Pl} (h : cfgR F ra pa rs ps) (k : Fz.le F G) : cfgR G ra pa rs ps := by
  obtain ⟨h1, xs, h2, h3, h4⟩ := h
  exact ⟨RdF.mono h1 k, xs, h2, RdF.mono h3 k, fun x hx => RdF.mono (h4 x hx) k⟩
theorem St.cfg_freeze {ra pa : Sl} {rs : List Cm.Rt} {ps : List Cm.Pl} {xs : List PlS} (hx : xs.map (·.2) = ps) (h : St E (rtA ra rs :: plA pa xs :: tgO xs :: kn F :: L) w) : ∃ G, Fz.le F G ∧ St E (kn G :: L) w ∧ cfgR G ra pa rs ps := by
  obtain ⟨G1, k1, h1, r1⟩ := St.freeze_rt (h.sel 4 [0, 3, 1, 2])
  obtain ⟨G2, k2, h2, r2⟩ := St.freeze_pl (St.sel (L := kn G1 :: plA pa xs :: tgO xs :: L) h1 3 [1, 0, 2])
  obtain ⟨G3, k3, h3, r3⟩ := St.tgO_freeze (St.sel (L := kn G2 :: tgO xs :: L) h2 2 [1, 0])
  exact ⟨G3, Fz.le_trans k1 (Fz.le_trans k2 k3), h3, RdF.mono r1 (Fz.le_trans k2 k3), xs, hx, RdF.mono r2 k3, r3⟩
theorem len_ne (a b : Nat) : (((a : Nat) : Int) != ((b : Nat) : Int)) = !decide (a = b) := by
  rw [ne_dec, Bool.eq_iff_iff]; simp; omega
theorem eq_of_take {α : Type} {l1 l2 : List α} {j : Nat} (hl : l1.length = l2.length) (h : l1.take j = l2.take j) (hj : l1.length ≤ j) : l1 = l2 := by
  rwa [List.take_of_length_le hj, List.take_of_length_le (by omega)] at h
theorem take_step {α : Type} {l1 l2 : List α} {j : Nat} (h1 : j < l1.length) (h2 : j < l2.length) (h : l1.take j = l2.take j) (e : l1[j] = l2[j]) : l1.take (j + 1) = l2.take (j + 1) := by
  rw [List.take_succ_eq_append_getElem h1, List.take_succ_eq_append_getElem h2, h, e]
theorem ne_at {α : Type} {l1 l2 : List α} {j : Nat} (h1 : j < l1.length) (h2 : j < l2.length) (e : l1[j] ≠ l2[j]) : l1 ≠ l2 := fun h => e (by subst h; rfl)
theorem pl_at {xs : List PlS} {a : Option Addr} {l : Nat} (h : RdS w a l 2 (xs.flatMap pcV)) {j : Nat} (hj : j < xs.length) : ∃ ad, a = some ad ∧ rd w (ad.add (j * 2)) (.string (bs xs[j].2.name)) ∧ rd w ((ad.add (j * 2)).add 1) (.slice xs[j].1.1 xs[j].1.2.1 xs[j].1.2.2) ∧ rd w (ad.add (j * 2)) (.agg #[.string (bs xs[j].2.name), .slice xs[j].1.1 xs[j].1.2.1 xs[j].1.2.2]) := by
  obtain ⟨ad, ha, h1, h2⟩ := h.elem (f := pcV) pcV_len (List.getElem?_eq_getElem hj) (by decide)
  exact ⟨ad, ha, h2 0 _ rfl rfl, h2 1 _ rfl rfl, h1⟩
theorem rt_at {xs : List Cm.Rt} {a : Option Addr} {l : Nat} (h : RdS w a l 3 (xs.flatMap rcV)) {j : Nat} (hj : j < xs.length) : ∃ ad, a = some ad ∧ rd w (ad.add (j * 3)) (.agg #[.string (bs xs[j].host), .string (bs xs[j].pfx), .string (bs xs[j].pool)]) ∧ ∀ k v, (rcV xs[j])[k]? = some v → one v = true → rd w ((ad.add (j * 3)).add k) v := by
  obtain ⟨ad, ha, h1, h2⟩ := h.elem (f := rcV) rcV_len (List.getElem?_eq_getElem hj) (by decide)
  exact ⟨ad, ha, h1, h2⟩
variable {v1 v2 : Int} {ra1 pa1 ra2 pa2 : Sl} {rs1 rs2 : List Cm.Rt} {ps1 ps2 : List Cm.Pl} {a b : Nat}
abbrev scL (a b : Nat) (v1 : Int) (ra1 pa1 : Sl) (v2 : Int) (ra2 pa2 : Sl) (L : List Asrt) : List Asrt := blkL b 30 (cfgL v2 ra2 pa2) :: blkL a 30 (cfgL v1 ra1 pa1) :: L
set_option maxHeartbeats 1000000 in
theorem sc_pools {Kn : World → Prop} {Kr : Bool → World → Prop} {Kp : List PanicEntry → World → Prop} {xs1 xs2 : List PlS} (hm : kn F ∈ L) (h : St E (scL a b v1 ra1 pa1 v2 ra2 pa2 L) w) (r1 : RdF F pa1.1 pa1.2.1 2 (xs1.flatMap pcV)) (r2 : RdF F pa2.1 pa2.2.1 2 (xs2.flatMap pcV))
    (t1 : ∀ x ∈ xs1, RdF F x.1.1 x.1.2.1 2 (x.2.tg.flatMap tV)) (t2 : ∀ x ∈ xs2, RdF F x.1.1 x.1.2.1 2 (x.2.tg.flatMap tV)) (hl : xs1.length = xs2.length) (hb : xs1.length ≤ 1000000) (ht : ∀ x ∈ xs1, x.2.tg.length ≤ huge)
    (k1 : xs1.map (·.2) = xs2.map (·.2) → ∀ w', St E (scL a b v1 ra1 pa1 v2 ra2 pa2 L) w' → Kn w') (k2 : xs1.map (·.2) ≠ xs2.map (·.2) → ∀ w', St E (scL a b v1 ra1 pa1 v2 ra2 pa2 L) w' → Kr false w') :
    T_ref08_SameConfig_2 0 ⟨a, 0, none⟩ ⟨b, 0, none⟩ w Kn Kr Kp := by
  have hbig : big = 140737488355328 := rfl
  have n1 := r1.count pcV_len (by decide) h (List.mem_cons_of_mem _ (List.mem_cons_of_mem _ hm))
  have n2 := r2.count pcV_len (by decide) h (List.mem_cons_of_mem _ (List.mem_cons_of_mem _ hm))
  unfold T_ref08_SameConfig_2
  intro X hX
  refine up_to xs1.length (Q := fun j => ∀ w : World, (xs1.map (·.2)).take j = (xs2.map (·.2)).take j → St E (scL a b v1 ra1 pa1 v2 ra2 pa2 L) w → X (j : Int) w) ?_ w rfl h
  intro j hj ih w he h
  refine hX _ _ ?_
  unfold T_ref08_SameConfig_2_body
  refine ⟨_, _, _, rd_fld h.f1.at_blk rfl rfl, ?_⟩
  rw [← n1]
  refine ite_d (fun hc => ?_) fun hc => ?_
  · have hjl : j < xs1.length := by omega
    have hjl2 : j < xs2.length := by omega
    intro w26
    have h26 : St E _ w26 := h.drew
    clear_value w26
    obtain ⟨ad1, ha1, hn1, hs1, _⟩ := pl_at (r1.at h26 (List.mem_cons_of_mem _ (List.mem_cons_of_mem _ hm))) hjl
    obtain ⟨ad2, ha2, hn2, hs2, _⟩ := pl_at (r2.at h26 (List.mem_cons_of_mem _ (List.mem_cons_of_mem _ hm))) hjl2
    have e1 : (xs1.map (·.2))[j]'(by simpa using hjl) = xs1[j].2 := by simp
    have e2 : (xs2.map (·.2))[j]'(by simpa using hjl2) = xs2[j].2 := by simp
    refine ⟨_, _, _, rd_fld h26.f1.at_blk rfl rfl, by omega, by omega, ad1, ha1, _, by rw [Int.toNat_natCast]; exact hn1, _, _, _, rd_fld h26.at_blk rfl rfl, by omega, by omega, ad2, ha2, _, by rw [Int.toNat_natCast]; exact hn2, ite_b (fun hx => ?_) fun hx => ?_⟩
    · refine ⟨⟨rd_fld h26.at_blk rfl rfl, rd_fld h26.f1.at_blk rfl rfl, trivial⟩, k2 ?_ _ h26⟩
      rw [str_beq] at hx
      refine ne_at (by simpa using hjl) (by simpa using hjl2) fun e => ?_
      rw [e1, e2] at e
      simp [e] at hx
    · refine ⟨_, _, _, rd_fld h26.f1.at_blk rfl rfl, by omega, by omega, ad1, ha1, _, _, _, by rw [Int.toNat_natCast]; exact hs1, _, _, _, rd_fld h26.at_blk rfl rfl, by omega, by omega, ad2, ha2, _, _, _, by rw [Int.toNat_natCast]; exact hs2, ?_⟩
      refine SameTargets_spec (s1 := xs1[j].1) (s2 := xs2[j].1) (List.mem_cons_of_mem _ (List.mem_cons_of_mem _ hm)) h26 (t1 _ (List.getElem_mem hjl)) (t2 _ (List.getElem_mem hjl2)) (ht _ (List.getElem_mem hjl)) fun w40 h40 => ⟨_, rfl, ⟨rd_fld h40.at_blk rfl rfl, rd_fld h40.f1.at_blk rfl rfl, rd_fld h40.at_blk rfl rfl, rd_fld h40.f1.at_blk rfl rfl, trivial⟩, ite_b (fun hy => ?_) fun hy => ?_⟩
      · refine k2 (ne_at (by simpa using hjl) (by simpa using hjl2) fun e => ?_) _ h40
        rw [e1, e2] at e
        simp [e] at hy
      · rw [succ_big (by omega)]
        refine ih hjl _ (take_step (by simpa using hjl) (by simpa using hjl2) he ?_) h40
        rw [e1, e2]
        rw [str_beq] at hx
        have hx : xs1[j].2.name = xs2[j].2.name := by simpa using hx
        have hy : xs1[j].2.tg = xs2[j].2.tg := by simpa using hy
        generalize xs1[j].2 = q1 at *
        generalize xs2[j].2 = q2 at *
        cases q1; cases q2
        simp only at hx hy
        rw [hx, hy]
  · exact k1 (eq_of_take (by simpa using hl) he (by simp; omega)) _ h
set_option maxHeartbeats 1000000 in
theorem sc_routes {Kn : World → Prop} {Kr : Bool → World → Prop} {Kp : List PanicEntry → World → Prop} (hm : kn F ∈ L) (h : St E (scL a b v1 ra1 pa1 v2 ra2 pa2 L) w) (r1 : RdF F ra1.1 ra1.2.1 3 (rs1.flatMap rcV)) (r2 : RdF F ra2.1 ra2.2.1 3 (rs2.flatMap rcV))
    (hl : rs1.length = rs2.length) (hb : rs1.length ≤ 1000000)
    (k1 : rs1 = rs2 → ∀ w', St E (scL a b v1 ra1 pa1 v2 ra2 pa2 L) w' → Kn w') (k2 : rs1 ≠ rs2 → ∀ w', St E (scL a b v1 ra1 pa1 v2 ra2 pa2 L) w' → Kr false w') :
    T_ref08_SameConfig_3 0 ⟨a, 0, none⟩ ⟨b, 0, none⟩ w Kn Kr Kp := by
  have hbig : big = 140737488355328 := rfl
  have n1 := r1.count rcV_len (by decide) h (List.mem_cons_of_mem _ (List.mem_cons_of_mem _ hm))
  have n2 := r2.count rcV_len (by decide) h (List.mem_cons_of_mem _ (List.mem_cons_of_mem _ hm))
  unfold T_ref08_SameConfig_3
  intro X hX
  refine up_to rs1.length (Q := fun j => ∀ w : World, rs1.take j = rs2.take j → St E (scL a b v1 ra1 pa1 v2 ra2 pa2 L) w → X (j : Int) w) ?_ w rfl h
  intro j hj ih w he h
  refine hX _ _ ?_
  unfold T_ref08_SameConfig_3_body
  refine ⟨_, _, _, rd_fld h.f1.at_blk rfl rfl, ?_⟩
  rw [← n1]
  refine ite_d (fun hc => ?_) fun hc => ?_
  · have hjl : j < rs1.length := by omega
    have hjl2 : j < rs2.length := by omega
    intro w26
    have h26 : St E _ w26 := h.drew
    clear_value w26
    obtain ⟨ad1, ha1, hn1, _⟩ := rt_at (r1.at h26 (List.mem_cons_of_mem _ (List.mem_cons_of_mem _ hm))) hjl
    obtain ⟨ad2, ha2, hn2, _⟩ := rt_at (r2.at h26 (List.mem_cons_of_mem _ (List.mem_cons_of_mem _ hm))) hjl2
    refine ⟨_, _, _, rd_fld h26.f1.at_blk rfl rfl, by omega, by omega, ad1, ha1, _, _, _, by rw [Int.toNat_natCast]; exact hn1, _, _, _, rd_fld h26.at_blk rfl rfl, by omega, by omega, ad2, ha2, _, _, _, by rw [Int.toNat_natCast]; exact hn2, ?_⟩
    refine runV_ok (run_ne_agg (by kernel_rfl) (route_eq rs1[j] rs2[j])) ⟨_, rfl, trivial, ite_b (fun hx => ?_) fun hx => ?_⟩
    · exact k2 (ne_at hjl hjl2 fun e => by simp [e] at hx) _ h26
    · rw [succ_big (by omega)]
      exact ih hjl _ (take_step hjl hjl2 he (by simpa using hx)) h26
  · exact k1 (eq_of_take hl he (by omega)) _ h
/-- SameConfig. -/
theorem SameConfig_spec (hm : kn F ∈ L) (h : St E L w) (r1 : cfgR F ra1 pa1 rs1 ps1) (r2 : cfgR F ra2 pa2 rs2 ps2) (hp : ps1.length ≤ 1000000) (hr : rs1.length ≤ 1000000) (ht : ∀ x ∈ ps1, x.tg.length ≤ huge)
    (k : ∀ w', St E L w' → R (.returned (.bool (decide (v1 = v2 ∧ ps1 = ps2 ∧ rs1 = rs2)))) w') : Calls Tryz.prog 20 #[cfgV v1 ra1 pa1, cfgV v2 ra2 pa2] w R := by
  obtain ⟨rr1, xs1, rfl, rp1, rt1⟩ := r1
  obtain ⟨rr2, xs2, rfl, rp2, rt2⟩ := r2
  refine C_ref08_SameConfig ?_
  unfold T_ref08_SameConfig
  intro w7
  have h7 : St E (blkL w.heap.size 30 (cfgL v1 ra1 pa1) :: L) w7 := h.alloc _
  intro w8
  have h8 : St E (scL w.heap.size w7.heap.size v1 ra1 pa1 v2 ra2 pa2 L) w8 := h7.alloc _
  clear_value w8
  clear h7
  generalize w7.heap.size = b at *
  generalize w.heap.size = a at *
  have hm2 : ∀ {A B : Asrt}, kn F ∈ A :: B :: L := List.mem_cons_of_mem _ (List.mem_cons_of_mem _ hm)
  have n1 := rp1.count pcV_len (by decide) h8 hm2
  have n2 := rp2.count pcV_len (by decide) h8 hm2
  have m1 := rr1.count rcV_len (by decide) h8 hm2
  have m2 := rr2.count rcV_len (by decide) h8 hm2
  have no : ∀ {w : World}, St E (scL a b v1 ra1 pa1 v2 ra2 pa2 L) w → ¬ (v1 = v2 ∧ xs1.map (·.2) = xs2.map (·.2) ∧ rs1 = rs2) → R (.returned (.bool false)) w := fun h hn => congB (k _ h.drop.drop) (by simpa using hn)
  unfold T_ref08_SameConfig_1
  refine ⟨_, rd_cell h8.f1.at_blk rfl rfl, _, rd_cell h8.at_blk rfl rfl, ite_b (fun hx => ?_) fun hx => ⟨_, _, _, rd_fld h8.f1.at_blk rfl rfl, _, _, _, rd_fld h8.at_blk rfl rfl, ite_b (fun hy => ?_) fun hy => ⟨_, _, _, rd_fld h8.f1.at_blk rfl rfl, _, _, _, rd_fld h8.at_blk rfl rfl, ite_b (fun hz => ?_) fun hz => ?_⟩⟩⟩
  · exact ite_b (fun _ => no h8 fun hh => by simp [hh.1] at hx) fun hh => by cases hh
  · refine ite_b (fun _ => no h8 fun hh => ?_) fun hh => by cases hh
    rw [len_ne] at hy
    have := congrArg List.length hh.2.1
    simp only [List.length_map] at this
    simp [← n1, ← n2, this] at hy
  · rw [len_ne] at hz
    refine no h8 fun hh => ?_
    have := congrArg List.length hh.2.2
    simp [← m1, ← m2, this] at hz
  · rw [len_ne] at hy hz
    have hy : xs1.length = xs2.length := by rw [n1, n2]; simpa using hy
    have hz : rs1.length = rs2.length := by rw [m1, m2]; simpa using hz
    have hx : v1 = v2 := by simpa using hx
    refine sc_pools hm h8 rp1 rp2 rt1 rt2 hy (by simpa using hp) (fun x hx => ht x.2 (List.mem_map_of_mem hx)) (fun he w3 h3 => ?_) fun hne w3 h3 => no h3 fun hh => hne hh.2.1
    exact sc_routes hm h3 rr1 rr2 hz hr (fun he2 w4 h4 => congB (k _ h4.drop.drop) (by simp [hx, he, he2])) fun hne w4 h4 => no h4 fun hh => hne hh.2.2
end
end Go.Vc

/-
  What the functions' code comes to; printed by a program of this claim's own.
-/
namespace Go.Proofs.YtcpmfjclkdjfmaaGreat
open Go Go.Vc
set_option maxRecDepth 100000
set_option linter.unusedVariables false

/-! tollgate/tollgatelaw08.live -/
def T_law08_live  (w : World) (R : Ending → World → Prop) : Prop :=
  Calls Tryz.prog 35 #[] w (ret (fun r1 w2 => ∃ p3 : Option Addr, r1 = .pointer p3 ∧ Calls Tryz.prog 18 #[.string (ByteArray.mk #[97])] w2 (ret (fun r4 w5 => ∃ x6 : Int, ∃ x7 : Int, ∃ x8 : Int, ∃ x9 : Int, ∃ s10 : ByteArray, ∃ s11 : ByteArray, ∃ s12 : ByteArray, ∃ s13a : Option Addr, ∃ s13l : Nat, ∃ s13c : Nat, r4 = .agg #[.int .i64 x6, .int .i64 x7, .int .i64 x8, .int .i64 x9, .string s10, .string s11, .string s12, .slice s13a s13l s13c] ∧ Calls Tryz.prog 17 #[.pointer p3, .agg #[.int .i64 x6, .int .i64 x7, .int .i64 x8, .int .i64 x9, .string s10, .string s11, .string s12, .slice s13a s13l s13c]] w5 (ret (fun r14 w15 => ∃ x16 : Int, ∃ x17 : Int, r14 = .agg #[.int .i64 x16, .int .i64 x17] ∧ let w18 : World := w15.alloc (.cells #[.int .i64 0, .int .i64 0] 45)
  (.agg #[.int .i64 x16, .int .i64 x17] : Value).cells.size = 2 ∧ wrOk w18 (⟨w15.heap.size, 0, none⟩ : Addr) (.agg #[.int .i64 x16, .int .i64 x17]) ∧ let w19 : World := wr w18 (⟨w15.heap.size, 0, none⟩ : Addr) (.agg #[.int .i64 x16, .int .i64 x17])
  Calls Tryz.prog 19 #[.string (ByteArray.mk #[120, 46, 121]), .string (ByteArray.mk #[47]), .string (ByteArray.mk #[97])] w19 (ret (fun r20 w21 => ∃ x22 : Int, ∃ x23 : Int, ∃ x24 : Int, ∃ x25 : Int, ∃ s26 : ByteArray, ∃ s27 : ByteArray, ∃ s28 : ByteArray, ∃ s29a : Option Addr, ∃ s29l : Nat, ∃ s29c : Nat, r20 = .agg #[.int .i64 x22, .int .i64 x23, .int .i64 x24, .int .i64 x25, .string s26, .string s27, .string s28, .slice s29a s29l s29c] ∧ Calls Tryz.prog 17 #[.pointer p3, .agg #[.int .i64 x22, .int .i64 x23, .int .i64 x24, .int .i64 x25, .string s26, .string s27, .string s28, .slice s29a s29l s29c]] w21 (ret (fun r30 w31 => ∃ x32 : Int, ∃ x33 : Int, r30 = .agg #[.int .i64 x32, .int .i64 x33] ∧ let w34 : World := w31.alloc (.cells #[.int .i64 0, .int .i64 0] 45)
  (.agg #[.int .i64 x32, .int .i64 x33] : Value).cells.size = 2 ∧ wrOk w34 (⟨w31.heap.size, 0, none⟩ : Addr) (.agg #[.int .i64 x32, .int .i64 x33]) ∧ let w35 : World := wr w34 (⟨w31.heap.size, 0, none⟩ : Addr) (.agg #[.int .i64 x32, .int .i64 x33])
  Calls Tryz.prog 17 #[.pointer p3, .agg #[.int .i64 2, .int .i64 0, .int .i64 0, .int .i64 (-1), .string (ByteArray.mk #[]), .string (ByteArray.mk #[]), .string (ByteArray.mk #[97]), .slice none 0 0]] w35 (ret (fun r36 w37 => ∃ x38 : Int, ∃ x39 : Int, r36 = .agg #[.int .i64 x38, .int .i64 x39] ∧ let w40 : World := w37.alloc (.cells #[.int .i64 0, .int .i64 0] 45)
  (.agg #[.int .i64 x38, .int .i64 x39] : Value).cells.size = 2 ∧ wrOk w40 (⟨w37.heap.size, 0, none⟩ : Addr) (.agg #[.int .i64 x38, .int .i64 x39]) ∧ let w41 : World := wr w40 (⟨w37.heap.size, 0, none⟩ : Addr) (.agg #[.int .i64 x38, .int .i64 x39])
  Calls Tryz.prog 14 #[.pointer p3] w41 (ret (fun r42 w43 => ∃ x44 : Int, ∃ s45a : Option Addr, ∃ s45l : Nat, ∃ s45c : Nat, ∃ s46a : Option Addr, ∃ s46l : Nat, ∃ s46c : Nat, r42 = .agg #[.int .i64 x44, .slice s45a s45l s45c, .slice s46a s46l s46c] ∧ let w47 : World := w43.alloc (.cells #[.int .i64 0, .slice none 0 0, .slice none 0 0] 30)
  (.agg #[.int .i64 x44, .slice s45a s45l s45c, .slice s46a s46l s46c] : Value).cells.size = 3 ∧ wrOk w47 (⟨w43.heap.size, 0, none⟩ : Addr) (.agg #[.int .i64 x44, .slice s45a s45l s45c, .slice s46a s46l s46c]) ∧ let w48 : World := wr w47 (⟨w43.heap.size, 0, none⟩ : Addr) (.agg #[.int .i64 x44, .slice s45a s45l s45c, .slice s46a s46l s46c])
  ∃ x49 : Int, ∃ x50 : Int, rd w48 (⟨w15.heap.size, 0, none⟩ : Addr) (.agg #[.int .i64 x49, .int .i64 x50]) ∧ runV Tryz.prog (do eqGuard .eql 45 (.tmp 18) (.tmp 19) (.agg #[.int .i64 x49, .int .i64 x50]) (.agg #[.int .i64 0, .int .i64 1]); binOp .eql 45 (.agg #[.int .i64 x49, .int .i64 x50]) (.agg #[.int .i64 0, .int .i64 1])) w48 (fun r51 w52 => ∃ b53 : Bool, r51 = .bool b53 ∧ if b53 = true then (∃ x54 : Int, ∃ x55 : Int, rd w52 (⟨w31.heap.size, 0, none⟩ : Addr) (.agg #[.int .i64 x54, .int .i64 x55]) ∧ runV Tryz.prog (do eqGuard .eql 45 (.tmp 22) (.tmp 23) (.agg #[.int .i64 x54, .int .i64 x55]) (.agg #[.int .i64 0, .int .i64 2]); binOp .eql 45 (.agg #[.int .i64 x54, .int .i64 x55]) (.agg #[.int .i64 0, .int .i64 2])) w52 (fun r56 w57 => ∃ b58 : Bool, r56 = .bool b58 ∧ if b58 = true then (∃ x59 : Int, ∃ x60 : Int, rd w57 (⟨w37.heap.size, 0, none⟩ : Addr) (.agg #[.int .i64 x59, .int .i64 x60]) ∧ runV Tryz.prog (do eqGuard .eql 45 (.tmp 27) (.tmp 28) (.agg #[.int .i64 x59, .int .i64 x60]) (.agg #[.int .i64 13, .int .i64 2]); binOp .eql 45 (.agg #[.int .i64 x59, .int .i64 x60]) (.agg #[.int .i64 13, .int .i64 2])) w57 (fun r61 w62 => ∃ b63 : Bool, r61 = .bool b63 ∧ if b63 = true then (∃ x64 : Int, rd w62 (⟨w43.heap.size, 0, none⟩ : Addr) (.int .i64 x64) ∧ if ((x64 : Int) == 2) = true then (∃ s65a : Option Addr, ∃ s65l : Nat, ∃ s65c : Nat, rd w62 ((⟨w43.heap.size, 0, none⟩ : Addr).add 2) (.slice s65a s65l s65c) ∧ if (((s65l : Nat) : Int) == 1) = true then (∃ s66a : Option Addr, ∃ s66l : Nat, ∃ s66c : Nat, rd w62 ((⟨w43.heap.size, 0, none⟩ : Addr).add 1) (.slice s66a s66l s66c) ∧ if (((s66l : Nat) : Int) == 1) = true then (∃ s67a : Option Addr, ∃ s67l : Nat, ∃ s67c : Nat, rd w62 ((⟨w43.heap.size, 0, none⟩ : Addr).add 1) (.slice s67a s67l s67c) ∧ 0 ≤ (0 : Int) ∧ (0 : Int) < ((s67l : Nat) : Int) ∧ ∃ b68, s67a = some b68 ∧ ∃ s69 : ByteArray, rd w62 ((b68.add ((0 : Int).toNat * 3)).add 2) (.string s69) ∧ R (.returned (.bool (s69.toList == (ByteArray.mk #[97]).toList))) w62) else (R (.returned (.bool false)) w62)) else (R (.returned (.bool false)) w62)) else (R (.returned (.bool false)) w62)) else (R (.returned (.bool false)) w62)) (pan R)) else (R (.returned (.bool false)) w57)) (pan R)) else (R (.returned (.bool false)) w52)) (pan R)) (pan R))) (pan R))) (pan R))) (pan R))) (pan R))) (pan R))) (pan R))

theorem T_law08_live_hl : allP (hokL Tryz.prog (hookAt []) (bodyOf Tryz.f15) 1) = (True) := by kernel_rfl

theorem T_law08_live_eq  (w : World) (R : Ending → World → Prop) : vcCode Tryz.prog (hookAt []) (bodyOf Tryz.f15) 1 ⟨argEnv [] 0, Tryz.f15.ntmps, []⟩ w (finQ Tryz.prog Tryz.f15.results.toList R) = T_law08_live  w R := by kernel_rfl

theorem T_law08_live_b : Tryz.f15.body = some (bodyOf Tryz.f15) := by kernel_rfl
theorem T_law08_live_s : (quietSel (bodyOf Tryz.f15) && Nat.ble 0 Tryz.f15.ntmps) = true := by kernel_rfl

theorem C_law08_live  {w : World} {R : Ending → World → Prop} (h : T_law08_live  w R) : Calls Tryz.prog 15 #[] w R :=
  calls_of_text (args := []) mixed Tryz.func15 T_law08_live_b T_law08_live_s (HOk_of _ _ (by rw [T_law08_live_hl]; exact trivial)) (by rw [T_law08_live_eq]; exact h)

end Go.Proofs.YtcpmfjclkdjfmaaGreat

/-
  The commands that the statements make themselves; what must be whatever is asked.
-/
namespace Go.Vc
open Go Go.Proofs Go.Proofs.YtcpmfjclkdjfmaaGreat
set_option maxRecDepth 100000
section
variable {E w : World} {L : List Asrt} {R : Ending → World → Prop} {F G : Fz}
def tgt1 : Cm.Tgt := ⟨[116], 4607182418800017408⟩
def poolC (n : Cm.Bs) : Cm.Cmd := ⟨1, 0, 0, -1, [], [], n, [tgt1]⟩
def routeC (h p t : Cm.Bs) : Cm.Cmd := ⟨3, 0, 0, -1, h, p, t, []⟩
def dropC (n : Cm.Bs) : Cm.Cmd := ⟨2, 0, 0, -1, [], [], n, []⟩
theorem ok_poolC {n : Cm.Bs} (h : n.length ≤ huge) : okC (poolC n) := ⟨Nat.zero_le _, Nat.zero_le _, h, by simp [poolC, huge], fun t ht => by
  simp [poolC] at ht
  subst ht
  exact ⟨by simp [tgt1, huge], by simp [tgt1, two64]⟩⟩
theorem ok_routeC {h p t : Cm.Bs} (h1 : h.length ≤ huge) (h2 : p.length ≤ huge) (h3 : t.length ≤ huge) : okC (routeC h p t) := ⟨h1, h2, h3, Nat.zero_le _, fun t ht => by simp [routeC] at ht⟩
theorem ok_dropC {n : Cm.Bs} (h : n.length ≤ huge) : okC (dropC n) := ⟨Nat.zero_le _, Nat.zero_le _, h, Nat.zero_le _, fun t ht => by simp [dropC] at ht⟩
theorem St.wr_cmd {b t : Nat} {l : List Value} (h : St E (blkL b t l :: L) w) (hl : l.length = 8) (c : Cm.Cmd) (q : Sl) : St E (blkL b t (cmdL c q) :: L) (wr w ⟨b, 0, none⟩ (cmdV c q)) := h.wr_agg0 (xs := cmdL c q) (by rw [hl]; rfl)
theorem ok_cmd {b t : Nat} {l : List Value} (h : St E (blkL b t l :: L) w) (hl : l.length = 8) (c : Cm.Cmd) (q : Sl) : wrOk w ⟨b, 0, none⟩ (cmdV c q) := wrOk_agg h.at_blk (xs := cmdL c q) (by rw [hl]; exact Nat.le_refl 8) (one_cmdL c q)
theorem pool_spec {n : Cm.Bs} (h : St E (kn F :: L) w) (k : ∀ G (q : Sl) w', Fz.le F G → RdF G q.1 q.2.1 2 ((poolC n).tg.flatMap tV) → St E (kn G :: L) w' → R (.returned (cmdV (poolC n) q)) w') : Calls Tryz.prog 18 #[.string (bs n)] w R := by
  refine C_law08_pool ?_
  unfold T_law08_pool
  intro w2
  have h2 : St E (blkL w.heap.size 42 (cmdL zeroC (none, 0, 0)) :: kn F :: L) w2 := h.alloc _
  intro w3
  have h3 : St E (tgA (some ⟨w2.heap.size, 0, none⟩, 1, 1) [tgt1] :: blkL w.heap.size 42 (cmdL zeroC (none, 0, 0)) :: kn F :: L) w3 := (St.ownS_mk (xs := [tgt1].flatMap tV) (rest := []) (l := 1) (c := 1) (sz := 2) (h2.alloc _) rfl (Nat.le_refl _) (by decide) rfl :)
  refine ⟨rfl, ok_cmd h3.f1 rfl (poolC n) (some ⟨w2.heap.size, 0, none⟩, 1, 1), ?_⟩
  intro w4
  have h4 := St.wr_cmd h3.f1 rfl (poolC n) (some ⟨w2.heap.size, 0, none⟩, 1, 1)
  obtain ⟨G, hG, h5, hr⟩ := St.freezeT (h4.sel 3 [1, 2])
  exact ⟨_, _, _, _, _, _, _, _, _, _, rd_cmd h4, k G (some ⟨w2.heap.size, 0, none⟩, 1, 1) _ hG hr h5⟩
theorem route_spec {hh p t : Cm.Bs} (h : St E L w) (k : ∀ w', St E L w' → R (.returned (cmdV (routeC hh p t) (none, 0, 0))) w') : Calls Tryz.prog 19 #[.string (bs hh), .string (bs p), .string (bs t)] w R := by
  refine C_law08_route ?_
  unfold T_law08_route
  intro w4
  have h4 : St E (blkL w.heap.size 42 (cmdL zeroC (none, 0, 0)) :: L) w4 := h.alloc _
  refine ⟨rfl, ok_cmd h4 rfl (routeC hh p t) (none, 0, 0), ?_⟩
  intro w5
  have h5 := St.wr_cmd h4 rfl (routeC hh p t) (none, 0, 0)
  exact ⟨_, _, _, _, _, _, _, _, _, _, rd_cmd h5, k _ h5.drop⟩
def live1 : Cm.Sm := ⟨1, [], [⟨[97], [tgt1]⟩], []⟩
def live2 : Cm.Sm := ⟨2, [⟨[120, 46, 121], [47], [97]⟩], [⟨[97], [tgt1]⟩], []⟩
theorem do_live1 : Cm.doC Cm.new (poolC [97]) = (live1, 0, 1) := by kernel_rfl
theorem do_live2 : Cm.doC live1 (routeC [120, 46, 121] [47] [97]) = (live2, 0, 2) := by kernel_rfl
theorem do_live3 : Cm.doC live2 (dropC [97]) = (live2, 13, 2) := by kernel_rfl
theorem inv1 : Cm.Inv live1 := by have := Cm.doC_keeps Cm.Inv.new (poolC [97]); rwa [do_live1] at this
theorem inv2 : Cm.Inv live2 := by have := Cm.doC_keeps inv1 (routeC [120, 46, 121] [47] [97]); rwa [do_live2] at this
set_option maxHeartbeats 4000000 in
/-- live: it is true. -/
theorem live_spec (h : St E (kn F :: L) w) (k : ∀ G w', Fz.le F G → St E (kn G :: L) w' → R (.returned (.bool true)) w') : Calls Tryz.prog 15 #[] w R := by
  refine C_law08_live ?_
  unfold T_law08_live
  refine New_spec F h fun p w2 h2 => ⟨_, rfl, ?_⟩
  refine pool_spec (n := [97]) h2.f1 fun G1 q1 w5 k1 r1 h5 => ⟨_, _, _, _, _, _, _, _, _, _, rfl, ?_⟩
  refine Do_spec (c := poolC [97]) (q := q1) Cm.Inv.new r1 (ok_poolC (by simp [huge])) (h5.f1.st_mono k1) fun G2 w15 k2 h15 => ?_
  rw [do_live1] at h15 ⊢
  refine ⟨_, _, rfl, ?_⟩
  intro w18
  have h18 := h15.alloc (.cells #[.int .i64 0, .int .i64 0] 45)
  refine ⟨rfl, ok_res h18 rfl 0 1, ?_⟩
  intro w19
  have h19 : St E (blkL w15.heap.size 45 (rsL 0 1) :: stA G2 p live1 :: kn G2 :: L) w19 := h18.wr_res rfl 0 1
  clear h18
  clear_value w19 w18
  generalize w15.heap.size = b1 at *
  refine route_spec (hh := [120, 46, 121]) (p := [47]) (t := [97]) h19 fun w21 h21 => ⟨_, _, _, _, _, _, _, _, _, _, rfl, ?_⟩
  refine Do_spec (c := routeC [120, 46, 121] [47] [97]) (q := (none, 0, 0)) inv1 (RdF.nil G2 none) (ok_routeC (by simp [huge]) (by simp [huge]) (by simp [huge])) (h21.sel 3 [1, 2, 0]) fun G3 w31 k3 h31 => ?_
  rw [do_live2] at h31 ⊢
  refine ⟨_, _, rfl, ?_⟩
  intro w34
  have h34 := h31.alloc (.cells #[.int .i64 0, .int .i64 0] 45)
  refine ⟨rfl, ok_res h34 rfl 0 2, ?_⟩
  intro w35
  have h35 : St E (blkL w31.heap.size 45 (rsL 0 2) :: stA G3 p live2 :: kn G3 :: blkL b1 45 (rsL 0 1) :: L) w35 := h34.wr_res rfl 0 2
  clear h34
  clear_value w35 w34
  generalize w31.heap.size = b2 at *
  refine Do_spec (c := dropC [97]) (q := (none, 0, 0)) inv2 (RdF.nil G3 none) (ok_dropC (by simp [huge])) (h35.sel 4 [1, 2, 0, 3]) fun G4 w37 k4 h37 => ?_
  rw [do_live3] at h37 ⊢
  refine ⟨_, _, rfl, ?_⟩
  intro w40
  have h40 := h37.alloc (.cells #[.int .i64 0, .int .i64 0] 45)
  refine ⟨rfl, ok_res h40 rfl 13 2, ?_⟩
  intro w41
  have h41 : St E (blkL w37.heap.size 45 (rsL 13 2) :: stA G4 p live2 :: kn G4 :: blkL b2 45 (rsL 0 2) :: blkL b1 45 (rsL 0 1) :: L) w41 := h40.wr_res rfl 13 2
  clear h40
  clear_value w41 w40
  generalize w37.heap.size = b3 at *
  refine Config_spec (F := G4) at1 (Sz.of inv2) (h41.sel 3 [1, 0, 2]) fun w43 ra pa xs hxs h43 => ⟨_, _, _, _, _, _, _, rfl, ?_⟩
  intro w47
  have h47 := h43.alloc (.cells #[.int .i64 0, .slice none 0 0, .slice none 0 0] 30)
  refine ⟨rfl, ok_cfg h47 rfl 2 ra pa, ?_⟩
  intro w48
  have h48 : St E (blkL w43.heap.size 30 (cfgL 2 ra pa) :: rtA ra live2.routes :: plA pa xs :: tgO xs :: stA G4 p live2 :: blkL b3 45 (rsL 13 2) :: kn G4 :: blkL b2 45 (rsL 0 2) :: blkL b1 45 (rsL 0 1) :: L) w48 := St.wr_cfg h47 rfl 2 ra pa
  clear h47
  clear_value w48 w47
  generalize w43.heap.size = bc at *
  have hb1 : St E (blkL b1 45 (rsL 0 1) :: L) w48 := h48.sel 9 [8]
  have hb2 : St E (blkL b2 45 (rsL 0 2) :: L) w48 := h48.sel 9 [7]
  have hb3 : St E (blkL b3 45 (rsL 13 2) :: L) w48 := h48.sel 9 [5]
  have hpl := St.pl_len h48.f2
  have hrt := St.rt_len h48.f1
  have hx1 : xs.length = 1 := by have := congrArg List.length hxs; simpa [live2] using this
  have hr1 : live2.routes.length = 1 := rfl
  refine ⟨_, _, rd_res hb1, runV_ok (res_eq _ _ 0 1 0 1) ⟨_, rfl, ite_b (fun _ => ?_) fun hh => by simp at hh⟩⟩
  refine ⟨_, _, rd_res hb2, runV_ok (res_eq _ _ 0 2 0 2) ⟨_, rfl, ite_b (fun _ => ?_) fun hh => by simp at hh⟩⟩
  refine ⟨_, _, rd_res hb3, runV_ok (res_eq _ _ 13 2 13 2) ⟨_, rfl, ite_b (fun _ => ?_) fun hh => by simp at hh⟩⟩
  refine ⟨_, rd_cell h48.at_blk rfl rfl, ite_b (fun _ => ?_) fun hh => by simp at hh⟩
  refine ⟨_, _, _, rd_fld h48.at_blk rfl rfl, ite_b (fun _ => ?_) fun hh => by rw [← hpl, hx1] at hh; simp at hh⟩
  refine ⟨_, _, _, rd_fld h48.at_blk rfl rfl, ite_b (fun _ => ?_) fun hh => by rw [← hrt, hr1] at hh; simp at hh⟩
  obtain ⟨ad, ha, _, hk⟩ := rt_at (h48.f1).rdS_own (j := 0) (by rw [hr1]; decide)
  refine ⟨_, _, _, rd_fld h48.at_blk rfl rfl, by decide, by rw [← hrt, hr1]; decide, ad, ha, _, hk 2 _ rfl rfl, ?_⟩
  rw [show (ByteArray.mk #[97]) = bs [97] from rfl, str_beq]
  exact k G4 _ (Fz.le_trans k1 (Fz.le_trans k2 (Fz.le_trans k3 k4))) (h48.sel 9 [6])
end
end Go.Vc

/-
  What the functions' code comes to; printed by a program of this claim's own.
-/
namespace Go.Proofs.YtcpmfjclkdjfmaaGreat
open Go Go.Vc
set_option maxRecDepth 100000
set_option linter.unusedVariables false

/-! (*tollgate/tollgateref08.Store).Fork -/
/-! (*tollgate/tollgateref08.Store).Do -/
/-! tollgate/tollgateref08.New -/
def T_ref08_New  (w : World) (R : Ending → World → Prop) : Prop :=
  let w1 : World := w.alloc (.cells #[.int .i64 0, .slice none 0 0, .slice none 0 0, .slice none 0 0] 108)
  R (.returned (.pointer (some (⟨w.heap.size, 0, none⟩ : Addr)))) w1

theorem T_ref08_New_hl : allP (hokL Tryz.prog (hookAt []) (bodyOf Tryz.f36) 1) = (True) := by kernel_rfl

theorem T_ref08_New_eq  (w : World) (R : Ending → World → Prop) : vcCode Tryz.prog (hookAt []) (bodyOf Tryz.f36) 1 ⟨argEnv [] 0, Tryz.f36.ntmps, []⟩ w (finQ Tryz.prog Tryz.f36.results.toList R) = T_ref08_New  w R := by kernel_rfl

theorem T_ref08_New_b : Tryz.f36.body = some (bodyOf Tryz.f36) := by kernel_rfl
theorem T_ref08_New_s : (quietSel (bodyOf Tryz.f36) && Nat.ble 0 Tryz.f36.ntmps) = true := by kernel_rfl

theorem C_ref08_New  {w : World} {R : Ending → World → Prop} (h : T_ref08_New  w R) : Calls Tryz.prog 36 #[] w R :=
  calls_of_text (args := []) mixed Tryz.func36 T_ref08_New_b T_ref08_New_s (HOk_of _ _ (by rw [T_ref08_New_hl]; exact trivial)) (by rw [T_ref08_New_eq]; exact h)

/-! (*tollgate/tollgateref08.Store).Config -/
def T_ref08_Store_Config (s1 : Option Addr) (w : World) (R : Ending → World → Prop) : Prop :=
  let w2 : World := w.alloc (.cells #[.int .i64 0, .slice none 0 0, .slice none 0 0] 30)
  if s1.isNone = true then ((.agg #[.int .i64 0, .slice none 0 0, .slice none 0 0] : Value).cells.size = 3 ∧ wrOk w2 (⟨w.heap.size, 0, none⟩ : Addr) (.agg #[.int .i64 0, .slice none 0 0, .slice none 0 0]) ∧ let w3 : World := wr w2 (⟨w.heap.size, 0, none⟩ : Addr) (.agg #[.int .i64 0, .slice none 0 0, .slice none 0 0])
  ∃ x4 : Int, ∃ s5a : Option Addr, ∃ s5l : Nat, ∃ s5c : Nat, ∃ s6a : Option Addr, ∃ s6l : Nat, ∃ s6c : Nat, rd w3 (⟨w.heap.size, 0, none⟩ : Addr) (.agg #[.int .i64 x4, .slice s5a s5l s5c, .slice s6a s6l s6c]) ∧ R (.returned (.agg #[.int .i64 x4, .slice s5a s5l s5c, .slice s6a s6l s6c])) w3) else (∃ a7, s1 = some a7 ∧ ∃ x8 : Int, ∃ s9a : Option Addr, ∃ s9l : Nat, ∃ s9c : Nat, ∃ s10a : Option Addr, ∃ s10l : Nat, ∃ s10c : Nat, rd w2 a7 (.agg #[.int .i64 x8, .slice s9a s9l s9c, .slice s10a s10l s10c]) ∧ Calls Tryz.prog 59 #[.agg #[.int .i64 x8, .slice s9a s9l s9c, .slice s10a s10l s10c]] w2 (ret (fun r11 w12 => ∃ x13 : Int, ∃ s14a : Option Addr, ∃ s14l : Nat, ∃ s14c : Nat, ∃ s15a : Option Addr, ∃ s15l : Nat, ∃ s15c : Nat, r11 = .agg #[.int .i64 x13, .slice s14a s14l s14c, .slice s15a s15l s15c] ∧ (.agg #[.int .i64 x13, .slice s14a s14l s14c, .slice s15a s15l s15c] : Value).cells.size = 3 ∧ wrOk w12 (⟨w.heap.size, 0, none⟩ : Addr) (.agg #[.int .i64 x13, .slice s14a s14l s14c, .slice s15a s15l s15c]) ∧ let w16 : World := wr w12 (⟨w.heap.size, 0, none⟩ : Addr) (.agg #[.int .i64 x13, .slice s14a s14l s14c, .slice s15a s15l s15c])
  ∃ x17 : Int, ∃ s18a : Option Addr, ∃ s18l : Nat, ∃ s18c : Nat, ∃ s19a : Option Addr, ∃ s19l : Nat, ∃ s19c : Nat, rd w16 (⟨w.heap.size, 0, none⟩ : Addr) (.agg #[.int .i64 x17, .slice s18a s18l s18c, .slice s19a s19l s19c]) ∧ R (.returned (.agg #[.int .i64 x17, .slice s18a s18l s18c, .slice s19a s19l s19c])) w16) (pan R)))

theorem T_ref08_Store_Config_hl : allP (hokL Tryz.prog (hookAt []) (bodyOf Tryz.f53) 1) = (True) := by kernel_rfl

theorem T_ref08_Store_Config_eq (s1 : Option Addr) (w : World) (R : Ending → World → Prop) : vcCode Tryz.prog (hookAt []) (bodyOf Tryz.f53) 1 ⟨argEnv [.pointer s1] 0, Tryz.f53.ntmps, []⟩ w (finQ Tryz.prog Tryz.f53.results.toList R) = T_ref08_Store_Config s1 w R := by kernel_rfl

theorem T_ref08_Store_Config_b : Tryz.f53.body = some (bodyOf Tryz.f53) := by kernel_rfl
theorem T_ref08_Store_Config_s : (quietSel (bodyOf Tryz.f53) && Nat.ble 1 Tryz.f53.ntmps) = true := by kernel_rfl

theorem C_ref08_Store_Config {s1 : Option Addr} {w : World} {R : Ending → World → Prop} (h : T_ref08_Store_Config s1 w R) : Calls Tryz.prog 53 #[.pointer s1] w R :=
  calls_of_text (args := [.pointer s1]) mixed Tryz.func53 T_ref08_Store_Config_b T_ref08_Store_Config_s (HOk_of _ _ (by rw [T_ref08_Store_Config_hl]; exact trivial)) (by rw [T_ref08_Store_Config_eq]; exact h)

/-! (*tollgate/tollgateref08.Store).Put -/
def T_ref08_Store_Put_1_body (X : Option Addr → Nat → Nat → Int → World → Prop) (b20a : Option Addr) (b20l : Nat) (b20c : Nat) (i21 : Int) (s22 : Option Addr) (w : World) (Kn : Option Addr → Nat → Nat → World → Prop) (Kp : List PanicEntry → World → Prop)  : Prop :=
  ∃ a23, s22 = some a23 ∧ ∃ s24a : Option Addr, ∃ s24l : Nat, ∃ s24c : Nat, rd w (a23.add 3) (.slice s24a s24l s24c) ∧ if (decide ((i21 : Int) < ((s24l : Nat) : Int))) = true then (let w25 : World := w.drew
  ∃ a26, s22 = some a26 ∧ ∃ s27a : Option Addr, ∃ s27l : Nat, ∃ s27c : Nat, rd w25 (a26.add 3) (.slice s27a s27l s27c) ∧ 0 ≤ (i21 : Int) ∧ (i21 : Int) < ((s27l : Nat) : Int) ∧ ∃ b28, s27a = some b28 ∧ ∃ x29 : Int, rd w25 (b28.add ((i21 : Int).toNat * 4)) (.int .i64 x29) ∧ ∃ a30, s22 = some a30 ∧ ∃ s31a : Option Addr, ∃ s31l : Nat, ∃ s31c : Nat, rd w25 (a30.add 3) (.slice s31a s31l s31c) ∧ 0 ≤ (i21 : Int) ∧ (i21 : Int) < ((s31l : Nat) : Int) ∧ ∃ b32, s31a = some b32 ∧ ∃ x33 : Int, rd w25 ((b32.add ((i21 : Int).toNat * 4)).add 1) (.int .i64 x33) ∧ Calls Tryz.prog 94 #[.slice b20a b20l b20c, .int .i64 x29] w25 (ret (fun r34 w35 => ∃ s36a : Option Addr, ∃ s36l : Nat, ∃ s36c : Nat, r34 = .slice s36a s36l s36c ∧ (rd w35 ((b32.add ((i21 : Int).toNat * 4)).add 1) (.int .i64 x33) ∧ rd w35 (a30.add 3) (.slice s31a s31l s31c) ∧ rd w35 (a26.add 3) (.slice s27a s27l s27c) ∧ True) ∧ Calls Tryz.prog 94 #[.slice s36a s36l s36c, .int .i64 x33] w35 (ret (fun r37 w38 => ∃ s39a : Option Addr, ∃ s39l : Nat, ∃ s39c : Nat, r37 = .slice s39a s39l s39c ∧ (rd w38 (a30.add 3) (.slice s31a s31l s31c) ∧ rd w38 (a26.add 3) (.slice s27a s27l s27c) ∧ True) ∧ let w40 : World := w38.drew
  ∃ a41, s22 = some a41 ∧ ∃ s42a : Option Addr, ∃ s42l : Nat, ∃ s42c : Nat, rd w40 (a41.add 3) (.slice s42a s42l s42c) ∧ 0 ≤ (i21 : Int) ∧ (i21 : Int) < ((s42l : Nat) : Int) ∧ ∃ b43, s42a = some b43 ∧ ∃ x44 : Int, rd w40 ((b43.add ((i21 : Int).toNat * 4)).add 2) (.int .i64 x44) ∧ ∃ a45, s22 = some a45 ∧ ∃ s46a : Option Addr, ∃ s46l : Nat, ∃ s46c : Nat, rd w40 (a45.add 3) (.slice s46a s46l s46c) ∧ 0 ≤ (i21 : Int) ∧ (i21 : Int) < ((s46l : Nat) : Int) ∧ ∃ b47, s46a = some b47 ∧ ∃ x48 : Int, rd w40 (((b47.add ((i21 : Int).toNat * 4)).add 2).add 1) (.int .i64 x48) ∧ Calls Tryz.prog 94 #[.slice s39a s39l s39c, .int .i64 x44] w40 (ret (fun r49 w50 => ∃ s51a : Option Addr, ∃ s51l : Nat, ∃ s51c : Nat, r49 = .slice s51a s51l s51c ∧ (rd w50 (((b47.add ((i21 : Int).toNat * 4)).add 2).add 1) (.int .i64 x48) ∧ rd w50 (a45.add 3) (.slice s46a s46l s46c) ∧ rd w50 (a41.add 3) (.slice s42a s42l s42c) ∧ True) ∧ Calls Tryz.prog 94 #[.slice s51a s51l s51c, .int .i64 x48] w50 (ret (fun r52 w53 => ∃ s54a : Option Addr, ∃ s54l : Nat, ∃ s54c : Nat, r52 = .slice s54a s54l s54c ∧ (rd w53 (a45.add 3) (.slice s46a s46l s46c) ∧ rd w53 (a41.add 3) (.slice s42a s42l s42c) ∧ True) ∧ X s54a s54l s54c (IntKind.wrap .i64 ((i21 : Int) + 1)) w53) Kp)) Kp)) Kp)) Kp)) else (Kn b20a b20l b20c w)

def T_ref08_Store_Put_1 (b20a : Option Addr) (b20l : Nat) (b20c : Nat) (i21 : Int) (s22 : Option Addr) (w : World) (Kn : Option Addr → Nat → Nat → World → Prop) (Kp : List PanicEntry → World → Prop) : Prop :=
  ∀ X : Option Addr → Nat → Nat → Int → World → Prop, (∀ (b20a : Option Addr) (b20l : Nat) (b20c : Nat) (i21 : Int) (w : World), T_ref08_Store_Put_1_body X b20a b20l b20c i21 s22 w Kn Kp → X b20a b20l b20c i21 w) → X b20a b20l b20c i21 w

def T_ref08_Store_Put_1_outs : Exit → Option (List (Nat × Value)) := fun x => match x with | .normal => some [(3, .slice none 0 0)] | .panic _ => some [] | _ => none

def T_ref08_Store_Put_1_ks : Nat → Bool := ksOf [3, 4, 24, 25, 26, 27, 28, 29, 30, 31, 32, 33, 34, 35, 36, 37, 38, 39, 40, 41, 42, 43, 44, 45, 46, 47, 48, 49, 50, 51, 52, 53, 54, 55, 56, 57, 58, 59, 60, 61, 62, 63, 64, 65, 66, 67, 68, 69, 70, 71, 72]

def H_ref08_Store_Put_1 : Env → World → QT → Prop := unitHook 74 T_ref08_Store_Put_1_ks [(3, .slice none 0 0), (4, .int .i64 0), (0, .pointer none)] T_ref08_Store_Put_1_outs fun l w C => match l with | [v0, v1, v2] => T_ref08_Store_Put_1 (pA v0) (pL v0) (pC v0) (pInt v1) (pPtr v2) w (fun b56a b56l b56c w => C .normal [.slice b56a b56l b56c] w) (fun ch w => C (.panic ch) [] w) | _ => False

theorem T_ref08_Store_Put_1_hl : allP (hokL Tryz.prog (hookAt []) (at_ (bodyOf Tryz.f54) [1, 1, 1, 0, 1, 0, 0]) 244) = (True) := by kernel_rfl
theorem T_ref08_Store_Put_1_hok : HOk Tryz.prog (hookAt []) (at_ (bodyOf Tryz.f54) [1, 1, 1, 0, 1, 0, 0]) 244 := HOk_of _ _ (by rw [T_ref08_Store_Put_1_hl]; exact trivial)

theorem T_ref08_Store_Put_1_eq (C : Conts) (X : List Value → World → Prop) (b20a : Option Addr) (b20l : Nat) (b20c : Nat) (i21 : Int) (s22 : Option Addr) (w : World) : vcCode Tryz.prog (hookAt []) (at_ (bodyOf Tryz.f54) [1, 1, 1, 0, 1, 0, 0]) 244 ⟨[(3, .slice b20a b20l b20c), (4, .int .i64 i21)] ++ [(0, .pointer s22)], 74, []⟩ w (seqQ (fun e w => takeAll e [(3, .slice none 0 0), (4, .int .i64 0)] fun l => X l w) (blockQ 0 (unitQ T_ref08_Store_Put_1_outs C))) = T_ref08_Store_Put_1_body (fun b20a b20l b20c i21 w => X [.slice b20a b20l b20c, .int .i64 i21] w) b20a b20l b20c i21 s22 w (fun b57a b57l b57c w => C .normal [.slice b57a b57l b57c] w) (fun ch w => C (.panic ch) [] w) := by kernel_rfl

theorem T_ref08_Store_Put_1_ok : UnitOk Tryz.prog H_ref08_Store_Put_1 (at_ (bodyOf Tryz.f54) [1, 1, 1, 0, 1]) 61 := by
  have hc : at_ (bodyOf Tryz.f54) [1, 1, 1, 0, 1] = .block 0 (.loop (at_ (bodyOf Tryz.f54) [1, 1, 1, 0, 1, 0, 0])) := by kernel_rfl
  rw [hc]
  refine loop_unit_ok (carr := [(3, .slice none 0 0), (4, .int .i64 0)]) (fix := [(0, .pointer none)]) (ks := T_ref08_Store_Put_1_ks) (H := (hookAt [])) (B := fun C X l u w => match l, u with | [v0, v1], [v2] => T_ref08_Store_Put_1_body (fun b20a b20l b20c i21 w => X [.slice b20a b20l b20c, .int .i64 i21] w) (pA v0) (pL v0) (pC v0) (pInt v1) (pPtr v2) w (fun b58a b58l b58c w => C .normal [.slice b58a b58l b58c] w) (fun ch w => C (.panic ch) [] w) | _, _ => False) (by kernel_rfl) (by kernel_rfl) T_ref08_Store_Put_1_hok ?_ ?_
  · intro C X l u w hl hu
    obtain ⟨v0, l_v0, rfl, k_v0, hl_v0⟩ := Kinds.cons_ hl
    obtain ⟨b20a, b20l, b20c, rfl⟩ := kind_slice k_v0
    obtain ⟨v1, l_v1, rfl, k_v1, hl_v1⟩ := Kinds.cons_ hl_v0
    obtain ⟨i21, rfl⟩ := kind_int k_v1
    obtain rfl := Kinds.nil_ hl_v1
    obtain ⟨v2, l_v2, rfl, k_v2, hu_v2⟩ := Kinds.cons_ hu
    obtain ⟨s22, rfl⟩ := kind_pointer k_v2
    obtain rfl := Kinds.nil_ hu_v2
    exact T_ref08_Store_Put_1_eq C X b20a b20l b20c i21 s22 w
  · intro l u w C hl hu
    obtain ⟨v0, l_v0, rfl, k_v0, hl_v0⟩ := Kinds.cons_ hl
    obtain ⟨b20a, b20l, b20c, rfl⟩ := kind_slice k_v0
    obtain ⟨v1, l_v1, rfl, k_v1, hl_v1⟩ := Kinds.cons_ hl_v0
    obtain ⟨i21, rfl⟩ := kind_int k_v1
    obtain rfl := Kinds.nil_ hl_v1
    obtain ⟨v2, l_v2, rfl, k_v2, hu_v2⟩ := Kinds.cons_ hu
    obtain ⟨s22, rfl⟩ := kind_pointer k_v2
    obtain rfl := Kinds.nil_ hu_v2
    constructor
    · intro h X hX
      exact h (fun b20a b20l b20c i21 w => X [.slice b20a b20l b20c, .int .i64 i21] w) (fun b20a b20l b20c i21 w hb => hX [.slice b20a b20l b20c, .int .i64 i21] w ⟨rfl, rfl, trivial⟩ hb)
    · intro h X hX
      exact h (fun l w => match l with | [v0, v1] => X (pA v0) (pL v0) (pC v0) (pInt v1) w | _ => True) (fun l w hl hb => by
        obtain ⟨v0, l_v0, rfl, k_v0, hl_v0⟩ := Kinds.cons_ hl
        obtain ⟨b20a, b20l, b20c, rfl⟩ := kind_slice k_v0
        obtain ⟨v1, l_v1, rfl, k_v1, hl_v1⟩ := Kinds.cons_ hl_v0
        obtain ⟨i21, rfl⟩ := kind_int k_v1
        obtain rfl := Kinds.nil_ hl_v1
        exact hX b20a b20l b20c i21 w hb)

def T_ref08_Store_Put (s1 : Option Addr) (w : World) (R : Ending → World → Prop) : Prop :=
  if s1.isNone = true then (R (.returned (.slice none 0 0)) w) else (let w2 : World := w.drew
  ∃ a3, s1 = some a3 ∧ ∃ x4 : Int, rd w2 a3 (.int .i64 x4) ∧ ∃ a5, s1 = some a5 ∧ ∃ x6 : Int, ∃ s7a : Option Addr, ∃ s7l : Nat, ∃ s7c : Nat, ∃ s8a : Option Addr, ∃ s8l : Nat, ∃ s8c : Nat, rd w2 a5 (.agg #[.int .i64 x6, .slice s7a s7l s7c, .slice s8a s8l s8c]) ∧ ∃ a9, s1 = some a9 ∧ ∃ s10a : Option Addr, ∃ s10l : Nat, ∃ s10c : Nat, rd w2 (a9.add 3) (.slice s10a s10l s10c) ∧ Calls Tryz.prog 94 #[.slice none 0 0, .int .i64 x4] w2 (ret (fun r11 w12 => ∃ s13a : Option Addr, ∃ s13l : Nat, ∃ s13c : Nat, r11 = .slice s13a s13l s13c ∧ (rd w12 (a9.add 3) (.slice s10a s10l s10c) ∧ rd w12 a5 (.agg #[.int .i64 x6, .slice s7a s7l s7c, .slice s8a s8l s8c]) ∧ True) ∧ Calls Tryz.prog 95 #[.slice s13a s13l s13c, .agg #[.int .i64 x6, .slice s7a s7l s7c, .slice s8a s8l s8c]] w12 (ret (fun r14 w15 => ∃ s16a : Option Addr, ∃ s16l : Nat, ∃ s16c : Nat, r14 = .slice s16a s16l s16c ∧ (rd w15 (a9.add 3) (.slice s10a s10l s10c) ∧ True) ∧ Calls Tryz.prog 94 #[.slice s16a s16l s16c, .int .i64 ((s10l : Nat) : Int)] w15 (ret (fun r17 w18 => ∃ s19a : Option Addr, ∃ s19l : Nat, ∃ s19c : Nat, r17 = .slice s19a s19l s19c ∧ (True) ∧ T_ref08_Store_Put_1 s19a s19l s19c 0 s1 w18 (fun b59a b59l b59c w60 => R (.returned (.slice b59a b59l b59c)) w60) (pan R)) (pan R))) (pan R))) (pan R)))

theorem T_ref08_Store_Put_hl : allP (hokL Tryz.prog (hookAt [(61, H_ref08_Store_Put_1)]) (bodyOf Tryz.f54) 1) = (UnitOk Tryz.prog H_ref08_Store_Put_1 (at_ (bodyOf Tryz.f54) [1, 1, 1, 0, 1]) 61 ∧ True) := by kernel_rfl

theorem T_ref08_Store_Put_eq (s1 : Option Addr) (w : World) (R : Ending → World → Prop) : vcCode Tryz.prog (hookAt [(61, H_ref08_Store_Put_1)]) (bodyOf Tryz.f54) 1 ⟨argEnv [.pointer s1] 0, Tryz.f54.ntmps, []⟩ w (finQ Tryz.prog Tryz.f54.results.toList R) = T_ref08_Store_Put s1 w R := by kernel_rfl

theorem T_ref08_Store_Put_b : Tryz.f54.body = some (bodyOf Tryz.f54) := by kernel_rfl
theorem T_ref08_Store_Put_s : (quietSel (bodyOf Tryz.f54) && Nat.ble 1 Tryz.f54.ntmps) = true := by kernel_rfl

theorem C_ref08_Store_Put {s1 : Option Addr} {w : World} {R : Ending → World → Prop} (h : T_ref08_Store_Put s1 w R) : Calls Tryz.prog 54 #[.pointer s1] w R :=
  calls_of_text (args := [.pointer s1]) mixed Tryz.func54 T_ref08_Store_Put_b T_ref08_Store_Put_s (HOk_of _ _ (by rw [T_ref08_Store_Put_hl]; exact ⟨T_ref08_Store_Put_1_ok, trivial⟩)) (by rw [T_ref08_Store_Put_eq]; exact h)

/-! (*tollgate/tollgateref08.Store).Seen -/
def T_ref08_Store_Seen_2 (s8 : Option Addr) (i9 : Int) (w : World) (Kn : Bool → World → Prop) (Kp : List PanicEntry → World → Prop) : Prop :=
  if (!s8.isNone) = true then (∃ a10, s8 = some a10 ∧ ∃ s11a : Option Addr, ∃ s11l : Nat, ∃ s11c : Nat, rd w (a10.add 3) (.slice s11a s11l s11c) ∧ Kn (decide ((i9 : Int) < ((s11l : Nat) : Int))) w) else (Kn false w)

def T_ref08_Store_Seen_2_outs : Exit → Option (List (Nat × Value)) := fun x => match x with | .normal => some [(17, .bool false)] | .panic _ => some [] | _ => none

def T_ref08_Store_Seen_2_ks : Nat → Bool := ksOf [7, 8, 9, 10, 11, 12, 13, 14, 15, 16, 17]

def H_ref08_Store_Seen_2 : Env → World → QT → Prop := unitHook 47 T_ref08_Store_Seen_2_ks [(0, .pointer none), (6, .int .i64 0)] T_ref08_Store_Seen_2_outs fun l w C => match l with | [v0, v1] => T_ref08_Store_Seen_2 (pPtr v0) (pInt v1) w (fun b13 w => C .normal [.bool b13] w) (fun ch w => C (.panic ch) [] w) | _ => False

theorem T_ref08_Store_Seen_2_hl : allP (hokL Tryz.prog (hookAt []) (at_ (bodyOf Tryz.f55) [1, 0, 1, 0, 0, 0, 0]) 208) = (True) := by kernel_rfl
theorem T_ref08_Store_Seen_2_hok : HOk Tryz.prog (hookAt []) (at_ (bodyOf Tryz.f55) [1, 0, 1, 0, 0, 0, 0]) 208 := HOk_of _ _ (by rw [T_ref08_Store_Seen_2_hl]; exact trivial)

theorem T_ref08_Store_Seen_2_eq (C : Conts) (s8 : Option Addr) (i9 : Int) (w : World) : vcCode Tryz.prog (hookAt []) (at_ (bodyOf Tryz.f55) [1, 0, 1, 0, 0, 0, 0]) 208 ⟨[(0, .pointer s8), (6, .int .i64 i9)], 47, []⟩ w (unitQ T_ref08_Store_Seen_2_outs C) = T_ref08_Store_Seen_2 s8 i9 w (fun b14 w => C .normal [.bool b14] w) (fun ch w => C (.panic ch) [] w) := by kernel_rfl

theorem T_ref08_Store_Seen_2_ok : UnitOk Tryz.prog H_ref08_Store_Seen_2 (at_ (bodyOf Tryz.f55) [1, 0, 1, 0, 0, 0, 0]) 208 := unit_ok (H := (hookAt [])) (by kernel_rfl) T_ref08_Store_Seen_2_hok fun l w C hk => by
    obtain ⟨v0, l_v0, rfl, k_v0, hk_v0⟩ := Kinds.cons_ hk
    obtain ⟨s8, rfl⟩ := kind_pointer k_v0
    obtain ⟨v1, l_v1, rfl, k_v1, hk_v1⟩ := Kinds.cons_ hk_v0
    obtain ⟨i9, rfl⟩ := kind_int k_v1
    obtain rfl := Kinds.nil_ hk_v1
    exact T_ref08_Store_Seen_2_eq C s8 i9 w

def T_ref08_Store_Seen_1_body (X : Int → World → Prop) (i4 : Int) (s5 : Option Addr) (client6 : Int) (a7 : Addr) (w : World) (Kn : World → Prop) (Kr : Int → World → Prop) (Kp : List PanicEntry → World → Prop)  : Prop :=
  T_ref08_Store_Seen_2 s5 i4 w (fun b15 w16 => if b15 = true then (∃ a17, s5 = some a17 ∧ ∃ s18a : Option Addr, ∃ s18l : Nat, ∃ s18c : Nat, rd w16 (a17.add 3) (.slice s18a s18l s18c) ∧ 0 ≤ (i4 : Int) ∧ (i4 : Int) < ((s18l : Nat) : Int) ∧ ∃ b19, s18a = some b19 ∧ ∃ x20 : Int, rd w16 (b19.add ((i4 : Int).toNat * 4)) (.int .i64 x20) ∧ if ((x20 : Int) == client6) = true then (let w21 : World := w16.drew
  ∃ a22, s5 = some a22 ∧ ∃ s23a : Option Addr, ∃ s23l : Nat, ∃ s23c : Nat, rd w21 (a22.add 3) (.slice s23a s23l s23c) ∧ 0 ≤ (i4 : Int) ∧ (i4 : Int) < ((s23l : Nat) : Int) ∧ ∃ b24, s23a = some b24 ∧ ∃ x25 : Int, rd w21 ((b24.add ((i4 : Int).toNat * 4)).add 1) (.int .i64 x25) ∧ ∃ a26, s5 = some a26 ∧ ∃ s27a : Option Addr, ∃ s27l : Nat, ∃ s27c : Nat, rd w21 (a26.add 3) (.slice s27a s27l s27c) ∧ 0 ≤ (i4 : Int) ∧ (i4 : Int) < ((s27l : Nat) : Int) ∧ ∃ b28, s27a = some b28 ∧ ∃ x29 : Int, ∃ x30 : Int, rd w21 ((b28.add ((i4 : Int).toNat * 4)).add 2) (.agg #[.int .i64 x29, .int .i64 x30]) ∧ (.agg #[.int .i64 x29, .int .i64 x30] : Value).cells.size = 2 ∧ wrOk w21 a7 (.agg #[.int .i64 x29, .int .i64 x30]) ∧ let w31 : World := wr w21 a7 (.agg #[.int .i64 x29, .int .i64 x30])
  (True) ∧ Kr x25 w31) else (X (IntKind.wrap .i64 ((i4 : Int) + 1)) w16)) else (Kn  w16)) Kp

def T_ref08_Store_Seen_1 (i4 : Int) (s5 : Option Addr) (client6 : Int) (a7 : Addr) (w : World) (Kn : World → Prop) (Kr : Int → World → Prop) (Kp : List PanicEntry → World → Prop) : Prop :=
  ∀ X : Int → World → Prop, (∀ (i4 : Int) (w : World), T_ref08_Store_Seen_1_body X i4 s5 client6 a7 w Kn Kr Kp → X i4 w) → X i4 w

def T_ref08_Store_Seen_1_outs : Exit → Option (List (Nat × Value)) := fun x => match x with | .normal => some [] | .ret => some [(4, .int .i64 0)] | .panic _ => some [] | _ => none

def T_ref08_Store_Seen_1_ks : Nat → Bool := ksOf [4, 6, 7, 8, 9, 10, 11, 12, 13, 14, 15, 16, 17, 18, 19, 20, 21, 22, 23, 24, 25, 26, 27, 28, 29, 30, 31, 32, 33, 34, 35, 36, 37, 38, 39, 40, 41, 42, 43, 44, 45]

def H_ref08_Store_Seen_1 : Env → World → QT → Prop := unitHook 47 T_ref08_Store_Seen_1_ks [(6, .int .i64 0), (0, .pointer none), (1, .int .i64 0), (5, .pointer (some ⟨0, 0, none⟩))] T_ref08_Store_Seen_1_outs fun l w C => match l with | [v0, v1, v2, v3] => T_ref08_Store_Seen_1 (pInt v0) (pPtr v1) (pInt v2) (pAddr v3) w (fun w => C .normal [] w) (fun x33 w => C .ret [.int .i64 x33] w) (fun ch w => C (.panic ch) [] w) | _ => False

theorem T_ref08_Store_Seen_1_hl : allP (hokL Tryz.prog (hookAt [(208, H_ref08_Store_Seen_2)]) (at_ (bodyOf Tryz.f55) [1, 0, 1, 0, 0]) 52) = (UnitOk Tryz.prog H_ref08_Store_Seen_2 (at_ (bodyOf Tryz.f55) [1, 0, 1, 0, 0, 0, 0]) 208 ∧ True) := by kernel_rfl
theorem T_ref08_Store_Seen_1_hok : HOk Tryz.prog (hookAt [(208, H_ref08_Store_Seen_2)]) (at_ (bodyOf Tryz.f55) [1, 0, 1, 0, 0]) 52 := HOk_of _ _ (by rw [T_ref08_Store_Seen_1_hl]; exact ⟨T_ref08_Store_Seen_2_ok, trivial⟩)

theorem T_ref08_Store_Seen_1_eq (C : Conts) (X : List Value → World → Prop) (i4 : Int) (s5 : Option Addr) (client6 : Int) (a7 : Addr) (w : World) : vcCode Tryz.prog (hookAt [(208, H_ref08_Store_Seen_2)]) (at_ (bodyOf Tryz.f55) [1, 0, 1, 0, 0]) 52 ⟨[(6, .int .i64 i4)] ++ [(0, .pointer s5), (1, .int .i64 client6), (5, .pointer (some a7))], 47, []⟩ w (seqQ (fun e w => takeAll e [(6, .int .i64 0)] fun l => X l w) (blockQ 0 (unitQ T_ref08_Store_Seen_1_outs C))) = T_ref08_Store_Seen_1_body (fun i4 w => X [.int .i64 i4] w) i4 s5 client6 a7 w (fun w => C .normal [] w) (fun x34 w => C .ret [.int .i64 x34] w) (fun ch w => C (.panic ch) [] w) := by kernel_rfl

theorem T_ref08_Store_Seen_1_ok : UnitOk Tryz.prog H_ref08_Store_Seen_1 (at_ (bodyOf Tryz.f55) [1, 0, 1]) 13 := by
  have hc : at_ (bodyOf Tryz.f55) [1, 0, 1] = .block 0 (.loop (at_ (bodyOf Tryz.f55) [1, 0, 1, 0, 0])) := by kernel_rfl
  rw [hc]
  refine loop_unit_ok (carr := [(6, .int .i64 0)]) (fix := [(0, .pointer none), (1, .int .i64 0), (5, .pointer (some ⟨0, 0, none⟩))]) (ks := T_ref08_Store_Seen_1_ks) (H := (hookAt [(208, H_ref08_Store_Seen_2)])) (B := fun C X l u w => match l, u with | [v0], [v1, v2, v3] => T_ref08_Store_Seen_1_body (fun i4 w => X [.int .i64 i4] w) (pInt v0) (pPtr v1) (pInt v2) (pAddr v3) w (fun w => C .normal [] w) (fun x35 w => C .ret [.int .i64 x35] w) (fun ch w => C (.panic ch) [] w) | _, _ => False) (by kernel_rfl) (by kernel_rfl) T_ref08_Store_Seen_1_hok ?_ ?_
  · intro C X l u w hl hu
    obtain ⟨v0, l_v0, rfl, k_v0, hl_v0⟩ := Kinds.cons_ hl
    obtain ⟨i4, rfl⟩ := kind_int k_v0
    obtain rfl := Kinds.nil_ hl_v0
    obtain ⟨v1, l_v1, rfl, k_v1, hu_v1⟩ := Kinds.cons_ hu
    obtain ⟨s5, rfl⟩ := kind_pointer k_v1
    obtain ⟨v2, l_v2, rfl, k_v2, hu_v2⟩ := Kinds.cons_ hu_v1
    obtain ⟨client6, rfl⟩ := kind_int k_v2
    obtain ⟨v3, l_v3, rfl, k_v3, hu_v3⟩ := Kinds.cons_ hu_v2
    obtain ⟨a7, rfl⟩ := kind_addr k_v3
    obtain rfl := Kinds.nil_ hu_v3
    exact T_ref08_Store_Seen_1_eq C X i4 s5 client6 a7 w
  · intro l u w C hl hu
    obtain ⟨v0, l_v0, rfl, k_v0, hl_v0⟩ := Kinds.cons_ hl
    obtain ⟨i4, rfl⟩ := kind_int k_v0
    obtain rfl := Kinds.nil_ hl_v0
    obtain ⟨v1, l_v1, rfl, k_v1, hu_v1⟩ := Kinds.cons_ hu
    obtain ⟨s5, rfl⟩ := kind_pointer k_v1
    obtain ⟨v2, l_v2, rfl, k_v2, hu_v2⟩ := Kinds.cons_ hu_v1
    obtain ⟨client6, rfl⟩ := kind_int k_v2
    obtain ⟨v3, l_v3, rfl, k_v3, hu_v3⟩ := Kinds.cons_ hu_v2
    obtain ⟨a7, rfl⟩ := kind_addr k_v3
    obtain rfl := Kinds.nil_ hu_v3
    constructor
    · intro h X hX
      exact h (fun i4 w => X [.int .i64 i4] w) (fun i4 w hb => hX [.int .i64 i4] w ⟨rfl, trivial⟩ hb)
    · intro h X hX
      exact h (fun l w => match l with | [v0] => X (pInt v0) w | _ => True) (fun l w hl hb => by
        obtain ⟨v0, l_v0, rfl, k_v0, hl_v0⟩ := Kinds.cons_ hl
        obtain ⟨i4, rfl⟩ := kind_int k_v0
        obtain rfl := Kinds.nil_ hl_v0
        exact hX i4 w hb)

def T_ref08_Store_Seen (s1 : Option Addr) (client2 : Int) (w : World) (R : Ending → World → Prop) : Prop :=
  let w3 : World := w.alloc (.cells #[.int .i64 0, .int .i64 0] 45)
  T_ref08_Store_Seen_1 0 s1 client2 (⟨w.heap.size, 0, none⟩ : Addr) w3 (fun w36 => (.agg #[.int .i64 0, .int .i64 0] : Value).cells.size = 2 ∧ wrOk w36 (⟨w.heap.size, 0, none⟩ : Addr) (.agg #[.int .i64 0, .int .i64 0]) ∧ let w37 : World := wr w36 (⟨w.heap.size, 0, none⟩ : Addr) (.agg #[.int .i64 0, .int .i64 0])
  ∃ x38 : Int, ∃ x39 : Int, rd w37 (⟨w.heap.size, 0, none⟩ : Addr) (.agg #[.int .i64 x38, .int .i64 x39]) ∧ R (.returned (.tuple #[.int .i64 0, .agg #[.int .i64 x38, .int .i64 x39]])) w37) (fun x40 w41 => ∃ x42 : Int, ∃ x43 : Int, rd w41 (⟨w.heap.size, 0, none⟩ : Addr) (.agg #[.int .i64 x42, .int .i64 x43]) ∧ R (.returned (.tuple #[.int .i64 x40, .agg #[.int .i64 x42, .int .i64 x43]])) w41) (pan R)

theorem T_ref08_Store_Seen_hl : allP (hokL Tryz.prog (hookAt [(13, H_ref08_Store_Seen_1)]) (bodyOf Tryz.f55) 1) = (UnitOk Tryz.prog H_ref08_Store_Seen_1 (at_ (bodyOf Tryz.f55) [1, 0, 1]) 13 ∧ True) := by kernel_rfl

theorem T_ref08_Store_Seen_eq (s1 : Option Addr) (client2 : Int) (w : World) (R : Ending → World → Prop) : vcCode Tryz.prog (hookAt [(13, H_ref08_Store_Seen_1)]) (bodyOf Tryz.f55) 1 ⟨argEnv [.pointer s1, .int .i64 client2] 0, Tryz.f55.ntmps, []⟩ w (finQ Tryz.prog Tryz.f55.results.toList R) = T_ref08_Store_Seen s1 client2 w R := by kernel_rfl

theorem T_ref08_Store_Seen_b : Tryz.f55.body = some (bodyOf Tryz.f55) := by kernel_rfl
theorem T_ref08_Store_Seen_s : (quietSel (bodyOf Tryz.f55) && Nat.ble 2 Tryz.f55.ntmps) = true := by kernel_rfl

theorem C_ref08_Store_Seen {s1 : Option Addr} {client2 : Int} {w : World} {R : Ending → World → Prop} (h : T_ref08_Store_Seen s1 client2 w R) : Calls Tryz.prog 55 #[.pointer s1, .int .i64 client2] w R :=
  calls_of_text (args := [.pointer s1, .int .i64 client2]) mixed Tryz.func55 T_ref08_Store_Seen_b T_ref08_Store_Seen_s (HOk_of _ _ (by rw [T_ref08_Store_Seen_hl]; exact ⟨T_ref08_Store_Seen_1_ok, trivial⟩)) (by rw [T_ref08_Store_Seen_eq]; exact h)

/-! tollgate/tollgateref08.CopyConfig -/
def T_ref08_CopyConfig_1_body (X : Int → World → Prop) (i15 : Int) (c16 : Addr) (out17 : Addr) (w : World) (Kn : World → Prop) (Kp : List PanicEntry → World → Prop)  : Prop :=
  ∃ s18a : Option Addr, ∃ s18l : Nat, ∃ s18c : Nat, rd w (c16.add 2) (.slice s18a s18l s18c) ∧ if (decide ((i15 : Int) < ((s18l : Nat) : Int))) = true then (let w19 : World := w.drew
  ∃ s20a : Option Addr, ∃ s20l : Nat, ∃ s20c : Nat, rd w19 (out17.add 2) (.slice s20a s20l s20c) ∧ ∃ s21a : Option Addr, ∃ s21l : Nat, ∃ s21c : Nat, rd w19 (c16.add 2) (.slice s21a s21l s21c) ∧ 0 ≤ (i15 : Int) ∧ (i15 : Int) < ((s21l : Nat) : Int) ∧ ∃ b22, s21a = some b22 ∧ ∃ s23 : ByteArray, rd w19 (b22.add ((i15 : Int).toNat * 2)) (.string s23) ∧ ∃ s24a : Option Addr, ∃ s24l : Nat, ∃ s24c : Nat, rd w19 (c16.add 2) (.slice s24a s24l s24c) ∧ 0 ≤ (i15 : Int) ∧ (i15 : Int) < ((s24l : Nat) : Int) ∧ ∃ b25, s24a = some b25 ∧ ∃ s26a : Option Addr, ∃ s26l : Nat, ∃ s26c : Nat, rd w19 ((b25.add ((i15 : Int).toNat * 2)).add 1) (.slice s26a s26l s26c) ∧ let w27 : World := w19.alloc (.cells #[] 64)
  (rd w27 ((b25.add ((i15 : Int).toNat * 2)).add 1) (.slice s26a s26l s26c) ∧ rd w27 (c16.add 2) (.slice s24a s24l s24c) ∧ rd w27 (b22.add ((i15 : Int).toNat * 2)) (.string s23) ∧ rd w27 (c16.add 2) (.slice s21a s21l s21c) ∧ rd w27 (out17.add 2) (.slice s20a s20l s20c) ∧ True) ∧ runV Tryz.prog (Builtin.append_ #[32, 32] 32 #[.slice (some (⟨w19.heap.size, 0, none⟩ : Addr)) 0 0, .slice s26a s26l s26c]) w27 (fun r28 w29 => ∃ s30a : Option Addr, ∃ s30l : Nat, ∃ s30c : Nat, r28 = .slice s30a s30l s30c ∧ (rd w29 (c16.add 2) (.slice s24a s24l s24c) ∧ rd w29 (b22.add ((i15 : Int).toNat * 2)) (.string s23) ∧ rd w29 (c16.add 2) (.slice s21a s21l s21c) ∧ rd w29 (out17.add 2) (.slice s20a s20l s20c) ∧ True) ∧ let w31 : World := w29.alloc (.cells #[.string s23, .slice s30a s30l s30c] 34)
  (rd w31 (c16.add 2) (.slice s24a s24l s24c) ∧ rd w31 (c16.add 2) (.slice s21a s21l s21c) ∧ rd w31 (out17.add 2) (.slice s20a s20l s20c) ∧ True) ∧ runV Tryz.prog (Builtin.append_ #[28, 28] 28 #[.slice s20a s20l s20c, .slice (some (⟨w29.heap.size, 0, none⟩ : Addr)) 1 1]) w31 (fun r32 w33 => ∃ s34a : Option Addr, ∃ s34l : Nat, ∃ s34c : Nat, r32 = .slice s34a s34l s34c ∧ (rd w33 (c16.add 2) (.slice s24a s24l s24c) ∧ rd w33 (c16.add 2) (.slice s21a s21l s21c) ∧ True) ∧ (.slice s34a s34l s34c : Value).cells.size = 1 ∧ wrOk w33 (out17.add 2) (.slice s34a s34l s34c) ∧ let w35 : World := wr w33 (out17.add 2) (.slice s34a s34l s34c)
  (True) ∧ X (IntKind.wrap .i64 ((i15 : Int) + 1)) w35) Kp) Kp) else (Kn  w)

def T_ref08_CopyConfig_1 (i15 : Int) (c16 : Addr) (out17 : Addr) (w : World) (Kn : World → Prop) (Kp : List PanicEntry → World → Prop) : Prop :=
  ∀ X : Int → World → Prop, (∀ (i15 : Int) (w : World), T_ref08_CopyConfig_1_body X i15 c16 out17 w Kn Kp → X i15 w) → X i15 w

def T_ref08_CopyConfig_1_outs : Exit → Option (List (Nat × Value)) := fun x => match x with | .normal => some [] | .panic _ => some [] | _ => none

def T_ref08_CopyConfig_1_ks : Nat → Bool := ksOf [4, 12, 13, 14, 15, 16, 17, 18, 19, 20, 21, 22, 23, 24, 25, 26, 27, 28, 29, 30, 31, 32, 33, 34, 35, 36, 37, 38]

def H_ref08_CopyConfig_1 : Env → World → QT → Prop := unitHook 40 T_ref08_CopyConfig_1_ks [(4, .int .i64 0), (1, .pointer (some ⟨0, 0, none⟩)), (3, .pointer (some ⟨0, 0, none⟩))] T_ref08_CopyConfig_1_outs fun l w C => match l with | [v0, v1, v2] => T_ref08_CopyConfig_1 (pInt v0) (pAddr v1) (pAddr v2) w (fun w => C .normal [] w) (fun ch w => C (.panic ch) [] w) | _ => False

theorem T_ref08_CopyConfig_1_hl : allP (hokL Tryz.prog (hookAt []) (at_ (bodyOf Tryz.f59) [1, 1, 0, 1, 0, 0]) 116) = (True) := by kernel_rfl
theorem T_ref08_CopyConfig_1_hok : HOk Tryz.prog (hookAt []) (at_ (bodyOf Tryz.f59) [1, 1, 0, 1, 0, 0]) 116 := HOk_of _ _ (by rw [T_ref08_CopyConfig_1_hl]; exact trivial)

theorem T_ref08_CopyConfig_1_eq (C : Conts) (X : List Value → World → Prop) (i15 : Int) (c16 : Addr) (out17 : Addr) (w : World) : vcCode Tryz.prog (hookAt []) (at_ (bodyOf Tryz.f59) [1, 1, 0, 1, 0, 0]) 116 ⟨[(4, .int .i64 i15)] ++ [(1, .pointer (some c16)), (3, .pointer (some out17))], 40, []⟩ w (seqQ (fun e w => takeAll e [(4, .int .i64 0)] fun l => X l w) (blockQ 0 (unitQ T_ref08_CopyConfig_1_outs C))) = T_ref08_CopyConfig_1_body (fun i15 w => X [.int .i64 i15] w) i15 c16 out17 w (fun w => C .normal [] w) (fun ch w => C (.panic ch) [] w) := by kernel_rfl

theorem T_ref08_CopyConfig_1_ok : UnitOk Tryz.prog H_ref08_CopyConfig_1 (at_ (bodyOf Tryz.f59) [1, 1, 0, 1]) 29 := by
  have hc : at_ (bodyOf Tryz.f59) [1, 1, 0, 1] = .block 0 (.loop (at_ (bodyOf Tryz.f59) [1, 1, 0, 1, 0, 0])) := by kernel_rfl
  rw [hc]
  refine loop_unit_ok (carr := [(4, .int .i64 0)]) (fix := [(1, .pointer (some ⟨0, 0, none⟩)), (3, .pointer (some ⟨0, 0, none⟩))]) (ks := T_ref08_CopyConfig_1_ks) (H := (hookAt [])) (B := fun C X l u w => match l, u with | [v0], [v1, v2] => T_ref08_CopyConfig_1_body (fun i15 w => X [.int .i64 i15] w) (pInt v0) (pAddr v1) (pAddr v2) w (fun w => C .normal [] w) (fun ch w => C (.panic ch) [] w) | _, _ => False) (by kernel_rfl) (by kernel_rfl) T_ref08_CopyConfig_1_hok ?_ ?_
  · intro C X l u w hl hu
    obtain ⟨v0, l_v0, rfl, k_v0, hl_v0⟩ := Kinds.cons_ hl
    obtain ⟨i15, rfl⟩ := kind_int k_v0
    obtain rfl := Kinds.nil_ hl_v0
    obtain ⟨v1, l_v1, rfl, k_v1, hu_v1⟩ := Kinds.cons_ hu
    obtain ⟨c16, rfl⟩ := kind_addr k_v1
    obtain ⟨v2, l_v2, rfl, k_v2, hu_v2⟩ := Kinds.cons_ hu_v1
    obtain ⟨out17, rfl⟩ := kind_addr k_v2
    obtain rfl := Kinds.nil_ hu_v2
    exact T_ref08_CopyConfig_1_eq C X i15 c16 out17 w
  · intro l u w C hl hu
    obtain ⟨v0, l_v0, rfl, k_v0, hl_v0⟩ := Kinds.cons_ hl
    obtain ⟨i15, rfl⟩ := kind_int k_v0
    obtain rfl := Kinds.nil_ hl_v0
    obtain ⟨v1, l_v1, rfl, k_v1, hu_v1⟩ := Kinds.cons_ hu
    obtain ⟨c16, rfl⟩ := kind_addr k_v1
    obtain ⟨v2, l_v2, rfl, k_v2, hu_v2⟩ := Kinds.cons_ hu_v1
    obtain ⟨out17, rfl⟩ := kind_addr k_v2
    obtain rfl := Kinds.nil_ hu_v2
    constructor
    · intro h X hX
      exact h (fun i15 w => X [.int .i64 i15] w) (fun i15 w hb => hX [.int .i64 i15] w ⟨rfl, trivial⟩ hb)
    · intro h X hX
      exact h (fun l w => match l with | [v0] => X (pInt v0) w | _ => True) (fun l w hl hb => by
        obtain ⟨v0, l_v0, rfl, k_v0, hl_v0⟩ := Kinds.cons_ hl
        obtain ⟨i15, rfl⟩ := kind_int k_v0
        obtain rfl := Kinds.nil_ hl_v0
        exact hX i15 w hb)

def T_ref08_CopyConfig (x1 : Int) (s2a : Option Addr) (s2l : Nat) (s2c : Nat) (s3a : Option Addr) (s3l : Nat) (s3c : Nat) (w : World) (R : Ending → World → Prop) : Prop :=
  let w4 : World := w.alloc (.cells #[.int .i64 x1, .slice s2a s2l s2c, .slice s3a s3l s3c] 30)
  let w5 : World := w4.alloc (.cells #[.int .i64 0, .slice none 0 0, .slice none 0 0] 30)
  let w6 : World := w5.drew
  ∃ x7 : Int, rd w6 (⟨w.heap.size, 0, none⟩ : Addr) (.int .i64 x7) ∧ ∃ s8a : Option Addr, ∃ s8l : Nat, ∃ s8c : Nat, rd w6 ((⟨w.heap.size, 0, none⟩ : Addr).add 1) (.slice s8a s8l s8c) ∧ (let w9 : World := w6.alloc (.cells #[] 36)
  (rd w9 ((⟨w.heap.size, 0, none⟩ : Addr).add 1) (.slice s8a s8l s8c) ∧ rd w9 (⟨w.heap.size, 0, none⟩ : Addr) (.int .i64 x7) ∧ True) ∧ (runV Tryz.prog (Builtin.append_ #[27, 27] 27 #[.slice (some (⟨w6.heap.size, 0, none⟩ : Addr)) 0 0, .slice s8a s8l s8c]) w9 (fun r10 w11 => ∃ s12a : Option Addr, ∃ s12l : Nat, ∃ s12c : Nat, r10 = .slice s12a s12l s12c ∧ (rd w11 (⟨w.heap.size, 0, none⟩ : Addr) (.int .i64 x7) ∧ True) ∧ let w13 : World := w11.alloc (.cells #[.int .i64 0, .slice none 0 0, .slice none 0 0] 30)
  (rd w13 (⟨w.heap.size, 0, none⟩ : Addr) (.int .i64 x7) ∧ True) ∧ (.agg #[.int .i64 x7, .slice s12a s12l s12c, .slice none 0 0] : Value).cells.size = 3 ∧ wrOk w13 (⟨w11.heap.size, 0, none⟩ : Addr) (.agg #[.int .i64 x7, .slice s12a s12l s12c, .slice none 0 0]) ∧ let w14 : World := wr w13 (⟨w11.heap.size, 0, none⟩ : Addr) (.agg #[.int .i64 x7, .slice s12a s12l s12c, .slice none 0 0])
  (True) ∧ T_ref08_CopyConfig_1 0 (⟨w.heap.size, 0, none⟩ : Addr) (⟨w11.heap.size, 0, none⟩ : Addr) w14 (fun w36 => ∃ x37 : Int, ∃ s38a : Option Addr, ∃ s38l : Nat, ∃ s38c : Nat, ∃ s39a : Option Addr, ∃ s39l : Nat, ∃ s39c : Nat, rd w36 (⟨w11.heap.size, 0, none⟩ : Addr) (.agg #[.int .i64 x37, .slice s38a s38l s38c, .slice s39a s39l s39c]) ∧ (.agg #[.int .i64 x37, .slice s38a s38l s38c, .slice s39a s39l s39c] : Value).cells.size = 3 ∧ wrOk w36 (⟨w4.heap.size, 0, none⟩ : Addr) (.agg #[.int .i64 x37, .slice s38a s38l s38c, .slice s39a s39l s39c]) ∧ let w40 : World := wr w36 (⟨w4.heap.size, 0, none⟩ : Addr) (.agg #[.int .i64 x37, .slice s38a s38l s38c, .slice s39a s39l s39c])
  ∃ x41 : Int, ∃ s42a : Option Addr, ∃ s42l : Nat, ∃ s42c : Nat, ∃ s43a : Option Addr, ∃ s43l : Nat, ∃ s43c : Nat, rd w40 (⟨w4.heap.size, 0, none⟩ : Addr) (.agg #[.int .i64 x41, .slice s42a s42l s42c, .slice s43a s43l s43c]) ∧ R (.returned (.agg #[.int .i64 x41, .slice s42a s42l s42c, .slice s43a s43l s43c])) w40) (pan R)) (pan R)) ∧ (let w44 : World := w9.alloc (.cells #[.int .i64 0, .slice none 0 0, .slice none 0 0] 30)
  (rd w44 ((⟨w.heap.size, 0, none⟩ : Addr).add 1) (.slice s8a s8l s8c) ∧ rd w44 (⟨w.heap.size, 0, none⟩ : Addr) (.int .i64 x7) ∧ True) ∧ runV Tryz.prog (Builtin.append_ #[27, 27] 27 #[.slice (some (⟨w6.heap.size, 0, none⟩ : Addr)) 0 0, .slice s8a s8l s8c]) w44 (fun r45 w46 => ∃ s47a : Option Addr, ∃ s47l : Nat, ∃ s47c : Nat, r45 = .slice s47a s47l s47c ∧ (rd w46 (⟨w.heap.size, 0, none⟩ : Addr) (.int .i64 x7) ∧ True) ∧ (.agg #[.int .i64 x7, .slice s47a s47l s47c, .slice none 0 0] : Value).cells.size = 3 ∧ wrOk w46 (⟨w9.heap.size, 0, none⟩ : Addr) (.agg #[.int .i64 x7, .slice s47a s47l s47c, .slice none 0 0]) ∧ let w48 : World := wr w46 (⟨w9.heap.size, 0, none⟩ : Addr) (.agg #[.int .i64 x7, .slice s47a s47l s47c, .slice none 0 0])
  (True) ∧ T_ref08_CopyConfig_1 0 (⟨w.heap.size, 0, none⟩ : Addr) (⟨w9.heap.size, 0, none⟩ : Addr) w48 (fun w49 => ∃ x50 : Int, ∃ s51a : Option Addr, ∃ s51l : Nat, ∃ s51c : Nat, ∃ s52a : Option Addr, ∃ s52l : Nat, ∃ s52c : Nat, rd w49 (⟨w9.heap.size, 0, none⟩ : Addr) (.agg #[.int .i64 x50, .slice s51a s51l s51c, .slice s52a s52l s52c]) ∧ (.agg #[.int .i64 x50, .slice s51a s51l s51c, .slice s52a s52l s52c] : Value).cells.size = 3 ∧ wrOk w49 (⟨w4.heap.size, 0, none⟩ : Addr) (.agg #[.int .i64 x50, .slice s51a s51l s51c, .slice s52a s52l s52c]) ∧ let w53 : World := wr w49 (⟨w4.heap.size, 0, none⟩ : Addr) (.agg #[.int .i64 x50, .slice s51a s51l s51c, .slice s52a s52l s52c])
  ∃ x54 : Int, ∃ s55a : Option Addr, ∃ s55l : Nat, ∃ s55c : Nat, ∃ s56a : Option Addr, ∃ s56l : Nat, ∃ s56c : Nat, rd w53 (⟨w4.heap.size, 0, none⟩ : Addr) (.agg #[.int .i64 x54, .slice s55a s55l s55c, .slice s56a s56l s56c]) ∧ R (.returned (.agg #[.int .i64 x54, .slice s55a s55l s55c, .slice s56a s56l s56c])) w53) (pan R)) (pan R))) ∧ (let w57 : World := w6.alloc (.cells #[.int .i64 0, .slice none 0 0, .slice none 0 0] 30)
  (rd w57 ((⟨w.heap.size, 0, none⟩ : Addr).add 1) (.slice s8a s8l s8c) ∧ rd w57 (⟨w.heap.size, 0, none⟩ : Addr) (.int .i64 x7) ∧ True) ∧ let w58 : World := w57.alloc (.cells #[] 36)
  (rd w58 ((⟨w.heap.size, 0, none⟩ : Addr).add 1) (.slice s8a s8l s8c) ∧ rd w58 (⟨w.heap.size, 0, none⟩ : Addr) (.int .i64 x7) ∧ True) ∧ runV Tryz.prog (Builtin.append_ #[27, 27] 27 #[.slice (some (⟨w57.heap.size, 0, none⟩ : Addr)) 0 0, .slice s8a s8l s8c]) w58 (fun r59 w60 => ∃ s61a : Option Addr, ∃ s61l : Nat, ∃ s61c : Nat, r59 = .slice s61a s61l s61c ∧ (rd w60 (⟨w.heap.size, 0, none⟩ : Addr) (.int .i64 x7) ∧ True) ∧ (.agg #[.int .i64 x7, .slice s61a s61l s61c, .slice none 0 0] : Value).cells.size = 3 ∧ wrOk w60 (⟨w6.heap.size, 0, none⟩ : Addr) (.agg #[.int .i64 x7, .slice s61a s61l s61c, .slice none 0 0]) ∧ let w62 : World := wr w60 (⟨w6.heap.size, 0, none⟩ : Addr) (.agg #[.int .i64 x7, .slice s61a s61l s61c, .slice none 0 0])
  (True) ∧ T_ref08_CopyConfig_1 0 (⟨w.heap.size, 0, none⟩ : Addr) (⟨w6.heap.size, 0, none⟩ : Addr) w62 (fun w63 => ∃ x64 : Int, ∃ s65a : Option Addr, ∃ s65l : Nat, ∃ s65c : Nat, ∃ s66a : Option Addr, ∃ s66l : Nat, ∃ s66c : Nat, rd w63 (⟨w6.heap.size, 0, none⟩ : Addr) (.agg #[.int .i64 x64, .slice s65a s65l s65c, .slice s66a s66l s66c]) ∧ (.agg #[.int .i64 x64, .slice s65a s65l s65c, .slice s66a s66l s66c] : Value).cells.size = 3 ∧ wrOk w63 (⟨w4.heap.size, 0, none⟩ : Addr) (.agg #[.int .i64 x64, .slice s65a s65l s65c, .slice s66a s66l s66c]) ∧ let w67 : World := wr w63 (⟨w4.heap.size, 0, none⟩ : Addr) (.agg #[.int .i64 x64, .slice s65a s65l s65c, .slice s66a s66l s66c])
  ∃ x68 : Int, ∃ s69a : Option Addr, ∃ s69l : Nat, ∃ s69c : Nat, ∃ s70a : Option Addr, ∃ s70l : Nat, ∃ s70c : Nat, rd w67 (⟨w4.heap.size, 0, none⟩ : Addr) (.agg #[.int .i64 x68, .slice s69a s69l s69c, .slice s70a s70l s70c]) ∧ R (.returned (.agg #[.int .i64 x68, .slice s69a s69l s69c, .slice s70a s70l s70c])) w67) (pan R)) (pan R))

theorem T_ref08_CopyConfig_hl : allP (hokL Tryz.prog (hookAt [(29, H_ref08_CopyConfig_1)]) (bodyOf Tryz.f59) 1) = (UnitOk Tryz.prog H_ref08_CopyConfig_1 (at_ (bodyOf Tryz.f59) [1, 1, 0, 1]) 29 ∧ True) := by kernel_rfl

theorem T_ref08_CopyConfig_eq (x1 : Int) (s2a : Option Addr) (s2l : Nat) (s2c : Nat) (s3a : Option Addr) (s3l : Nat) (s3c : Nat) (w : World) (R : Ending → World → Prop) : vcCode Tryz.prog (hookAt [(29, H_ref08_CopyConfig_1)]) (bodyOf Tryz.f59) 1 ⟨argEnv [.agg #[.int .i64 x1, .slice s2a s2l s2c, .slice s3a s3l s3c]] 0, Tryz.f59.ntmps, []⟩ w (finQ Tryz.prog Tryz.f59.results.toList R) = T_ref08_CopyConfig x1 s2a s2l s2c s3a s3l s3c w R := by kernel_rfl

theorem T_ref08_CopyConfig_b : Tryz.f59.body = some (bodyOf Tryz.f59) := by kernel_rfl
theorem T_ref08_CopyConfig_s : (quietSel (bodyOf Tryz.f59) && Nat.ble 1 Tryz.f59.ntmps) = true := by kernel_rfl

theorem C_ref08_CopyConfig {x1 : Int} {s2a : Option Addr} {s2l : Nat} {s2c : Nat} {s3a : Option Addr} {s3l : Nat} {s3c : Nat} {w : World} {R : Ending → World → Prop} (h : T_ref08_CopyConfig x1 s2a s2l s2c s3a s3l s3c w R) : Calls Tryz.prog 59 #[.agg #[.int .i64 x1, .slice s2a s2l s2c, .slice s3a s3l s3c]] w R :=
  calls_of_text (args := [.agg #[.int .i64 x1, .slice s2a s2l s2c, .slice s3a s3l s3c]]) mixed Tryz.func59 T_ref08_CopyConfig_b T_ref08_CopyConfig_s (HOk_of _ _ (by rw [T_ref08_CopyConfig_hl]; exact ⟨T_ref08_CopyConfig_1_ok, trivial⟩)) (by rw [T_ref08_CopyConfig_eq]; exact h)

/-! tollgate/tollgateref08.act -/
/-! (*tollgate/tollgateref08.Store).note -/
/-! tollgate/tollgateref08.config -/
def T_ref08_config_1_body (X : Option Addr → Nat → Nat → Int → World → Prop) (b10a : Option Addr) (b10l : Nat) (b10c : Nat) (i11 : Int) (c12 : Addr) (w : World) (Kn : Option Addr → Nat → Nat → World → Prop) (Kp : List PanicEntry → World → Prop)  : Prop :=
  ∃ s13a : Option Addr, ∃ s13l : Nat, ∃ s13c : Nat, rd w (c12.add 2) (.slice s13a s13l s13c) ∧ if (decide ((i11 : Int) < ((s13l : Nat) : Int))) = true then (let w14 : World := w.drew
  ∃ s15a : Option Addr, ∃ s15l : Nat, ∃ s15c : Nat, rd w14 (c12.add 2) (.slice s15a s15l s15c) ∧ 0 ≤ (i11 : Int) ∧ (i11 : Int) < ((s15l : Nat) : Int) ∧ ∃ b16, s15a = some b16 ∧ ∃ s17 : ByteArray, rd w14 (b16.add ((i11 : Int).toNat * 2)) (.string s17) ∧ ∃ s18a : Option Addr, ∃ s18l : Nat, ∃ s18c : Nat, rd w14 (c12.add 2) (.slice s18a s18l s18c) ∧ 0 ≤ (i11 : Int) ∧ (i11 : Int) < ((s18l : Nat) : Int) ∧ ∃ b19, s18a = some b19 ∧ ∃ s20a : Option Addr, ∃ s20l : Nat, ∃ s20c : Nat, rd w14 ((b19.add ((i11 : Int).toNat * 2)).add 1) (.slice s20a s20l s20c) ∧ Calls Tryz.prog 124 #[.slice b10a b10l b10c, .string s17] w14 (ret (fun r21 w22 => ∃ s23a : Option Addr, ∃ s23l : Nat, ∃ s23c : Nat, r21 = .slice s23a s23l s23c ∧ (rd w22 ((b19.add ((i11 : Int).toNat * 2)).add 1) (.slice s20a s20l s20c) ∧ rd w22 (c12.add 2) (.slice s18a s18l s18c) ∧ rd w22 (c12.add 2) (.slice s15a s15l s15c) ∧ True) ∧ Calls Tryz.prog 123 #[.slice s23a s23l s23c, .slice s20a s20l s20c] w22 (ret (fun r24 w25 => ∃ s26a : Option Addr, ∃ s26l : Nat, ∃ s26c : Nat, r24 = .slice s26a s26l s26c ∧ (rd w25 (c12.add 2) (.slice s18a s18l s18c) ∧ rd w25 (c12.add 2) (.slice s15a s15l s15c) ∧ True) ∧ X s26a s26l s26c (IntKind.wrap .i64 ((i11 : Int) + 1)) w25) Kp)) Kp)) else (Kn b10a b10l b10c w)

def T_ref08_config_1 (b10a : Option Addr) (b10l : Nat) (b10c : Nat) (i11 : Int) (c12 : Addr) (w : World) (Kn : Option Addr → Nat → Nat → World → Prop) (Kp : List PanicEntry → World → Prop) : Prop :=
  ∀ X : Option Addr → Nat → Nat → Int → World → Prop, (∀ (b10a : Option Addr) (b10l : Nat) (b10c : Nat) (i11 : Int) (w : World), T_ref08_config_1_body X b10a b10l b10c i11 c12 w Kn Kp → X b10a b10l b10c i11 w) → X b10a b10l b10c i11 w

def T_ref08_config_1_outs : Exit → Option (List (Nat × Value)) := fun x => match x with | .normal => some [(0, .slice none 0 0)] | .panic _ => some [] | _ => none

def T_ref08_config_1_ks : Nat → Bool := ksOf [0, 5, 12, 13, 14, 15, 16, 17, 18, 19, 20, 21, 22, 23, 24, 25, 26, 27, 28, 29, 30, 31, 32, 33]

def H_ref08_config_1 : Env → World → QT → Prop := unitHook 69 T_ref08_config_1_ks [(0, .slice none 0 0), (5, .int .i64 0), (3, .pointer (some ⟨0, 0, none⟩))] T_ref08_config_1_outs fun l w C => match l with | [v0, v1, v2] => T_ref08_config_1 (pA v0) (pL v0) (pC v0) (pInt v1) (pAddr v2) w (fun b28a b28l b28c w => C .normal [.slice b28a b28l b28c] w) (fun ch w => C (.panic ch) [] w) | _ => False

theorem T_ref08_config_1_hl : allP (hokL Tryz.prog (hookAt []) (at_ (bodyOf Tryz.f95) [1, 1, 0, 1, 0, 0]) 116) = (True) := by kernel_rfl
theorem T_ref08_config_1_hok : HOk Tryz.prog (hookAt []) (at_ (bodyOf Tryz.f95) [1, 1, 0, 1, 0, 0]) 116 := HOk_of _ _ (by rw [T_ref08_config_1_hl]; exact trivial)

theorem T_ref08_config_1_eq (C : Conts) (X : List Value → World → Prop) (b10a : Option Addr) (b10l : Nat) (b10c : Nat) (i11 : Int) (c12 : Addr) (w : World) : vcCode Tryz.prog (hookAt []) (at_ (bodyOf Tryz.f95) [1, 1, 0, 1, 0, 0]) 116 ⟨[(0, .slice b10a b10l b10c), (5, .int .i64 i11)] ++ [(3, .pointer (some c12))], 69, []⟩ w (seqQ (fun e w => takeAll e [(0, .slice none 0 0), (5, .int .i64 0)] fun l => X l w) (blockQ 0 (unitQ T_ref08_config_1_outs C))) = T_ref08_config_1_body (fun b10a b10l b10c i11 w => X [.slice b10a b10l b10c, .int .i64 i11] w) b10a b10l b10c i11 c12 w (fun b29a b29l b29c w => C .normal [.slice b29a b29l b29c] w) (fun ch w => C (.panic ch) [] w) := by kernel_rfl

theorem T_ref08_config_1_ok : UnitOk Tryz.prog H_ref08_config_1 (at_ (bodyOf Tryz.f95) [1, 1, 0, 1]) 29 := by
  have hc : at_ (bodyOf Tryz.f95) [1, 1, 0, 1] = .block 0 (.loop (at_ (bodyOf Tryz.f95) [1, 1, 0, 1, 0, 0])) := by kernel_rfl
  rw [hc]
  refine loop_unit_ok (carr := [(0, .slice none 0 0), (5, .int .i64 0)]) (fix := [(3, .pointer (some ⟨0, 0, none⟩))]) (ks := T_ref08_config_1_ks) (H := (hookAt [])) (B := fun C X l u w => match l, u with | [v0, v1], [v2] => T_ref08_config_1_body (fun b10a b10l b10c i11 w => X [.slice b10a b10l b10c, .int .i64 i11] w) (pA v0) (pL v0) (pC v0) (pInt v1) (pAddr v2) w (fun b30a b30l b30c w => C .normal [.slice b30a b30l b30c] w) (fun ch w => C (.panic ch) [] w) | _, _ => False) (by kernel_rfl) (by kernel_rfl) T_ref08_config_1_hok ?_ ?_
  · intro C X l u w hl hu
    obtain ⟨v0, l_v0, rfl, k_v0, hl_v0⟩ := Kinds.cons_ hl
    obtain ⟨b10a, b10l, b10c, rfl⟩ := kind_slice k_v0
    obtain ⟨v1, l_v1, rfl, k_v1, hl_v1⟩ := Kinds.cons_ hl_v0
    obtain ⟨i11, rfl⟩ := kind_int k_v1
    obtain rfl := Kinds.nil_ hl_v1
    obtain ⟨v2, l_v2, rfl, k_v2, hu_v2⟩ := Kinds.cons_ hu
    obtain ⟨c12, rfl⟩ := kind_addr k_v2
    obtain rfl := Kinds.nil_ hu_v2
    exact T_ref08_config_1_eq C X b10a b10l b10c i11 c12 w
  · intro l u w C hl hu
    obtain ⟨v0, l_v0, rfl, k_v0, hl_v0⟩ := Kinds.cons_ hl
    obtain ⟨b10a, b10l, b10c, rfl⟩ := kind_slice k_v0
    obtain ⟨v1, l_v1, rfl, k_v1, hl_v1⟩ := Kinds.cons_ hl_v0
    obtain ⟨i11, rfl⟩ := kind_int k_v1
    obtain rfl := Kinds.nil_ hl_v1
    obtain ⟨v2, l_v2, rfl, k_v2, hu_v2⟩ := Kinds.cons_ hu
    obtain ⟨c12, rfl⟩ := kind_addr k_v2
    obtain rfl := Kinds.nil_ hu_v2
    constructor
    · intro h X hX
      exact h (fun b10a b10l b10c i11 w => X [.slice b10a b10l b10c, .int .i64 i11] w) (fun b10a b10l b10c i11 w hb => hX [.slice b10a b10l b10c, .int .i64 i11] w ⟨rfl, rfl, trivial⟩ hb)
    · intro h X hX
      exact h (fun l w => match l with | [v0, v1] => X (pA v0) (pL v0) (pC v0) (pInt v1) w | _ => True) (fun l w hl hb => by
        obtain ⟨v0, l_v0, rfl, k_v0, hl_v0⟩ := Kinds.cons_ hl
        obtain ⟨b10a, b10l, b10c, rfl⟩ := kind_slice k_v0
        obtain ⟨v1, l_v1, rfl, k_v1, hl_v1⟩ := Kinds.cons_ hl_v0
        obtain ⟨i11, rfl⟩ := kind_int k_v1
        obtain rfl := Kinds.nil_ hl_v1
        exact hX b10a b10l b10c i11 w hb)

def T_ref08_config_2_body (X : Option Addr → Nat → Nat → Int → World → Prop) (b37a : Option Addr) (b37l : Nat) (b37c : Nat) (i38 : Int) (c39 : Addr) (w : World) (Kn : Option Addr → Nat → Nat → World → Prop) (Kp : List PanicEntry → World → Prop)  : Prop :=
  ∃ s40a : Option Addr, ∃ s40l : Nat, ∃ s40c : Nat, rd w (c39.add 1) (.slice s40a s40l s40c) ∧ if (decide ((i38 : Int) < ((s40l : Nat) : Int))) = true then (let w41 : World := w.drew
  ∃ s42a : Option Addr, ∃ s42l : Nat, ∃ s42c : Nat, rd w41 (c39.add 1) (.slice s42a s42l s42c) ∧ 0 ≤ (i38 : Int) ∧ (i38 : Int) < ((s42l : Nat) : Int) ∧ ∃ b43, s42a = some b43 ∧ ∃ s44 : ByteArray, rd w41 (b43.add ((i38 : Int).toNat * 3)) (.string s44) ∧ ∃ s45a : Option Addr, ∃ s45l : Nat, ∃ s45c : Nat, rd w41 (c39.add 1) (.slice s45a s45l s45c) ∧ 0 ≤ (i38 : Int) ∧ (i38 : Int) < ((s45l : Nat) : Int) ∧ ∃ b46, s45a = some b46 ∧ ∃ s47 : ByteArray, rd w41 ((b46.add ((i38 : Int).toNat * 3)).add 1) (.string s47) ∧ ∃ s48a : Option Addr, ∃ s48l : Nat, ∃ s48c : Nat, rd w41 (c39.add 1) (.slice s48a s48l s48c) ∧ 0 ≤ (i38 : Int) ∧ (i38 : Int) < ((s48l : Nat) : Int) ∧ ∃ b49, s48a = some b49 ∧ ∃ s50 : ByteArray, rd w41 ((b49.add ((i38 : Int).toNat * 3)).add 2) (.string s50) ∧ Calls Tryz.prog 124 #[.slice b37a b37l b37c, .string s44] w41 (ret (fun r51 w52 => ∃ s53a : Option Addr, ∃ s53l : Nat, ∃ s53c : Nat, r51 = .slice s53a s53l s53c ∧ (rd w52 ((b49.add ((i38 : Int).toNat * 3)).add 2) (.string s50) ∧ rd w52 (c39.add 1) (.slice s48a s48l s48c) ∧ rd w52 ((b46.add ((i38 : Int).toNat * 3)).add 1) (.string s47) ∧ rd w52 (c39.add 1) (.slice s45a s45l s45c) ∧ rd w52 (c39.add 1) (.slice s42a s42l s42c) ∧ True) ∧ Calls Tryz.prog 124 #[.slice s53a s53l s53c, .string s47] w52 (ret (fun r54 w55 => ∃ s56a : Option Addr, ∃ s56l : Nat, ∃ s56c : Nat, r54 = .slice s56a s56l s56c ∧ (rd w55 ((b49.add ((i38 : Int).toNat * 3)).add 2) (.string s50) ∧ rd w55 (c39.add 1) (.slice s48a s48l s48c) ∧ rd w55 (c39.add 1) (.slice s45a s45l s45c) ∧ rd w55 (c39.add 1) (.slice s42a s42l s42c) ∧ True) ∧ Calls Tryz.prog 124 #[.slice s56a s56l s56c, .string s50] w55 (ret (fun r57 w58 => ∃ s59a : Option Addr, ∃ s59l : Nat, ∃ s59c : Nat, r57 = .slice s59a s59l s59c ∧ (rd w58 (c39.add 1) (.slice s48a s48l s48c) ∧ rd w58 (c39.add 1) (.slice s45a s45l s45c) ∧ rd w58 (c39.add 1) (.slice s42a s42l s42c) ∧ True) ∧ X s59a s59l s59c (IntKind.wrap .i64 ((i38 : Int) + 1)) w58) Kp)) Kp)) Kp)) else (Kn b37a b37l b37c w)

def T_ref08_config_2 (b37a : Option Addr) (b37l : Nat) (b37c : Nat) (i38 : Int) (c39 : Addr) (w : World) (Kn : Option Addr → Nat → Nat → World → Prop) (Kp : List PanicEntry → World → Prop) : Prop :=
  ∀ X : Option Addr → Nat → Nat → Int → World → Prop, (∀ (b37a : Option Addr) (b37l : Nat) (b37c : Nat) (i38 : Int) (w : World), T_ref08_config_2_body X b37a b37l b37c i38 c39 w Kn Kp → X b37a b37l b37c i38 w) → X b37a b37l b37c i38 w

def T_ref08_config_2_outs : Exit → Option (List (Nat × Value)) := fun x => match x with | .normal => some [(0, .slice none 0 0)] | .panic _ => some [] | _ => none

def T_ref08_config_2_ks : Nat → Bool := ksOf [0, 6, 39, 40, 41, 42, 43, 44, 45, 46, 47, 48, 49, 50, 51, 52, 53, 54, 55, 56, 57, 58, 59, 60, 61, 62, 63, 64, 65, 66, 67]

def H_ref08_config_2 : Env → World → QT → Prop := unitHook 69 T_ref08_config_2_ks [(0, .slice none 0 0), (6, .int .i64 0), (3, .pointer (some ⟨0, 0, none⟩))] T_ref08_config_2_outs fun l w C => match l with | [v0, v1, v2] => T_ref08_config_2 (pA v0) (pL v0) (pC v0) (pInt v1) (pAddr v2) w (fun b61a b61l b61c w => C .normal [.slice b61a b61l b61c] w) (fun ch w => C (.panic ch) [] w) | _ => False

theorem T_ref08_config_2_hl : allP (hokL Tryz.prog (hookAt []) (at_ (bodyOf Tryz.f95) [1, 1, 1, 1, 0, 1, 0, 0]) 500) = (True) := by kernel_rfl
theorem T_ref08_config_2_hok : HOk Tryz.prog (hookAt []) (at_ (bodyOf Tryz.f95) [1, 1, 1, 1, 0, 1, 0, 0]) 500 := HOk_of _ _ (by rw [T_ref08_config_2_hl]; exact trivial)

theorem T_ref08_config_2_eq (C : Conts) (X : List Value → World → Prop) (b37a : Option Addr) (b37l : Nat) (b37c : Nat) (i38 : Int) (c39 : Addr) (w : World) : vcCode Tryz.prog (hookAt []) (at_ (bodyOf Tryz.f95) [1, 1, 1, 1, 0, 1, 0, 0]) 500 ⟨[(0, .slice b37a b37l b37c), (6, .int .i64 i38)] ++ [(3, .pointer (some c39))], 69, []⟩ w (seqQ (fun e w => takeAll e [(0, .slice none 0 0), (6, .int .i64 0)] fun l => X l w) (blockQ 2 (unitQ T_ref08_config_2_outs C))) = T_ref08_config_2_body (fun b37a b37l b37c i38 w => X [.slice b37a b37l b37c, .int .i64 i38] w) b37a b37l b37c i38 c39 w (fun b62a b62l b62c w => C .normal [.slice b62a b62l b62c] w) (fun ch w => C (.panic ch) [] w) := by kernel_rfl

theorem T_ref08_config_2_ok : UnitOk Tryz.prog H_ref08_config_2 (at_ (bodyOf Tryz.f95) [1, 1, 1, 1, 0, 1]) 125 := by
  have hc : at_ (bodyOf Tryz.f95) [1, 1, 1, 1, 0, 1] = .block 2 (.loop (at_ (bodyOf Tryz.f95) [1, 1, 1, 1, 0, 1, 0, 0])) := by kernel_rfl
  rw [hc]
  refine loop_unit_ok (carr := [(0, .slice none 0 0), (6, .int .i64 0)]) (fix := [(3, .pointer (some ⟨0, 0, none⟩))]) (ks := T_ref08_config_2_ks) (H := (hookAt [])) (B := fun C X l u w => match l, u with | [v0, v1], [v2] => T_ref08_config_2_body (fun b37a b37l b37c i38 w => X [.slice b37a b37l b37c, .int .i64 i38] w) (pA v0) (pL v0) (pC v0) (pInt v1) (pAddr v2) w (fun b63a b63l b63c w => C .normal [.slice b63a b63l b63c] w) (fun ch w => C (.panic ch) [] w) | _, _ => False) (by kernel_rfl) (by kernel_rfl) T_ref08_config_2_hok ?_ ?_
  · intro C X l u w hl hu
    obtain ⟨v0, l_v0, rfl, k_v0, hl_v0⟩ := Kinds.cons_ hl
    obtain ⟨b37a, b37l, b37c, rfl⟩ := kind_slice k_v0
    obtain ⟨v1, l_v1, rfl, k_v1, hl_v1⟩ := Kinds.cons_ hl_v0
    obtain ⟨i38, rfl⟩ := kind_int k_v1
    obtain rfl := Kinds.nil_ hl_v1
    obtain ⟨v2, l_v2, rfl, k_v2, hu_v2⟩ := Kinds.cons_ hu
    obtain ⟨c39, rfl⟩ := kind_addr k_v2
    obtain rfl := Kinds.nil_ hu_v2
    exact T_ref08_config_2_eq C X b37a b37l b37c i38 c39 w
  · intro l u w C hl hu
    obtain ⟨v0, l_v0, rfl, k_v0, hl_v0⟩ := Kinds.cons_ hl
    obtain ⟨b37a, b37l, b37c, rfl⟩ := kind_slice k_v0
    obtain ⟨v1, l_v1, rfl, k_v1, hl_v1⟩ := Kinds.cons_ hl_v0
    obtain ⟨i38, rfl⟩ := kind_int k_v1
    obtain rfl := Kinds.nil_ hl_v1
    obtain ⟨v2, l_v2, rfl, k_v2, hu_v2⟩ := Kinds.cons_ hu
    obtain ⟨c39, rfl⟩ := kind_addr k_v2
    obtain rfl := Kinds.nil_ hu_v2
    constructor
    · intro h X hX
      exact h (fun b37a b37l b37c i38 w => X [.slice b37a b37l b37c, .int .i64 i38] w) (fun b37a b37l b37c i38 w hb => hX [.slice b37a b37l b37c, .int .i64 i38] w ⟨rfl, rfl, trivial⟩ hb)
    · intro h X hX
      exact h (fun l w => match l with | [v0, v1] => X (pA v0) (pL v0) (pC v0) (pInt v1) w | _ => True) (fun l w hl hb => by
        obtain ⟨v0, l_v0, rfl, k_v0, hl_v0⟩ := Kinds.cons_ hl
        obtain ⟨b37a, b37l, b37c, rfl⟩ := kind_slice k_v0
        obtain ⟨v1, l_v1, rfl, k_v1, hl_v1⟩ := Kinds.cons_ hl_v0
        obtain ⟨i38, rfl⟩ := kind_int k_v1
        obtain rfl := Kinds.nil_ hl_v1
        exact hX b37a b37l b37c i38 w hb)

def T_ref08_config (b1a : Option Addr) (b1l : Nat) (b1c : Nat) (x2 : Int) (s3a : Option Addr) (s3l : Nat) (s3c : Nat) (s4a : Option Addr) (s4l : Nat) (s4c : Nat) (w : World) (R : Ending → World → Prop) : Prop :=
  let w5 : World := w.alloc (.cells #[.int .i64 x2, .slice s3a s3l s3c, .slice s4a s4l s4c] 30)
  ∃ s6a : Option Addr, ∃ s6l : Nat, ∃ s6c : Nat, rd w5 ((⟨w.heap.size, 0, none⟩ : Addr).add 2) (.slice s6a s6l s6c) ∧ Calls Tryz.prog 94 #[.slice b1a b1l b1c, .int .i64 ((s6l : Nat) : Int)] w5 (ret (fun r7 w8 => ∃ s9a : Option Addr, ∃ s9l : Nat, ∃ s9c : Nat, r7 = .slice s9a s9l s9c ∧ T_ref08_config_1 s9a s9l s9c 0 (⟨w.heap.size, 0, none⟩ : Addr) w8 (fun b31a b31l b31c w32 => ∃ s33a : Option Addr, ∃ s33l : Nat, ∃ s33c : Nat, rd w32 ((⟨w.heap.size, 0, none⟩ : Addr).add 1) (.slice s33a s33l s33c) ∧ Calls Tryz.prog 94 #[.slice b31a b31l b31c, .int .i64 ((s33l : Nat) : Int)] w32 (ret (fun r34 w35 => ∃ s36a : Option Addr, ∃ s36l : Nat, ∃ s36c : Nat, r34 = .slice s36a s36l s36c ∧ T_ref08_config_2 s36a s36l s36c 0 (⟨w.heap.size, 0, none⟩ : Addr) w35 (fun b64a b64l b64c w65 => R (.returned (.slice b64a b64l b64c)) w65) (pan R)) (pan R))) (pan R)) (pan R))

theorem T_ref08_config_hl : allP (hokL Tryz.prog (hookAt [(29, H_ref08_config_1), (125, H_ref08_config_2)]) (bodyOf Tryz.f95) 1) = (UnitOk Tryz.prog H_ref08_config_1 (at_ (bodyOf Tryz.f95) [1, 1, 0, 1]) 29 ∧ UnitOk Tryz.prog H_ref08_config_2 (at_ (bodyOf Tryz.f95) [1, 1, 1, 1, 0, 1]) 125 ∧ True) := by kernel_rfl

theorem T_ref08_config_eq (b1a : Option Addr) (b1l : Nat) (b1c : Nat) (x2 : Int) (s3a : Option Addr) (s3l : Nat) (s3c : Nat) (s4a : Option Addr) (s4l : Nat) (s4c : Nat) (w : World) (R : Ending → World → Prop) : vcCode Tryz.prog (hookAt [(29, H_ref08_config_1), (125, H_ref08_config_2)]) (bodyOf Tryz.f95) 1 ⟨argEnv [.slice b1a b1l b1c, .agg #[.int .i64 x2, .slice s3a s3l s3c, .slice s4a s4l s4c]] 0, Tryz.f95.ntmps, []⟩ w (finQ Tryz.prog Tryz.f95.results.toList R) = T_ref08_config b1a b1l b1c x2 s3a s3l s3c s4a s4l s4c w R := by kernel_rfl

theorem T_ref08_config_b : Tryz.f95.body = some (bodyOf Tryz.f95) := by kernel_rfl
theorem T_ref08_config_s : (quietSel (bodyOf Tryz.f95) && Nat.ble 2 Tryz.f95.ntmps) = true := by kernel_rfl

theorem C_ref08_config {b1a : Option Addr} {b1l : Nat} {b1c : Nat} {x2 : Int} {s3a : Option Addr} {s3l : Nat} {s3c : Nat} {s4a : Option Addr} {s4l : Nat} {s4c : Nat} {w : World} {R : Ending → World → Prop} (h : T_ref08_config b1a b1l b1c x2 s3a s3l s3c s4a s4l s4c w R) : Calls Tryz.prog 95 #[.slice b1a b1l b1c, .agg #[.int .i64 x2, .slice s3a s3l s3c, .slice s4a s4l s4c]] w R :=
  calls_of_text (args := [.slice b1a b1l b1c, .agg #[.int .i64 x2, .slice s3a s3l s3c, .slice s4a s4l s4c]]) mixed Tryz.func95 T_ref08_config_b T_ref08_config_s (HOk_of _ _ (by rw [T_ref08_config_hl]; exact ⟨T_ref08_config_1_ok, T_ref08_config_2_ok, trivial⟩)) (by rw [T_ref08_config_eq]; exact h)

/-! tollgate/tollgateref08.withPool -/
/-! tollgate/tollgateref08.withRoute -/
end Go.Proofs.YtcpmfjclkdjfmaaGreat

/-
  The document's store: lists that rise; a configuration's bytes, lists with one at its place.
-/
namespace Go.Vc
open Go Go.Proofs Go.Proofs.YtcpmfjclkdjfmaaGreat
set_option maxRecDepth 100000
section
variable {E w : World} {L : List Asrt} {R : Ending → World → Prop} {F G : Fz} {s : Cm.Sm} {xs : Cm.Bs} {b ra pa : Sl}
theorem mem1 {A : Asrt} (hm : kn F ∈ L) : kn F ∈ A :: L := List.mem_cons_of_mem _ hm
theorem mem2 {A B : Asrt} (hm : kn F ∈ L) : kn F ∈ A :: B :: L := mem1 (mem1 hm)
set_option maxHeartbeats 1000000 in
theorem rconf_l1 {Kn : Option Addr → Nat → Nat → World → Prop} {Kp : List PanicEntry → World → Prop} {bc : Nat} {v : Int} {ps : List PlS} (hm : kn F ∈ L) (hp : ps.map (·.2) = s.pools) (S : Sz s) (r : RdF F pa.1 pa.2.1 2 (ps.flatMap pcV)) (t : ∀ x ∈ ps, RdF F x.1.1 x.1.2.1 2 (x.2.tg.flatMap tV))
    (h : St E (byA b xs :: blkL bc 30 (cfgL v ra pa) :: L) w) (hx : xs.length ≤ 1200000)
    (k : ∀ (w : World) (b : Sl), St E (byA b (xs ++ s.pools.flatMap Cm.plB) :: blkL bc 30 (cfgL v ra pa) :: L) w → Kn b.1 b.2.1 b.2.2 w) :
    T_ref08_config_1 b.1 b.2.1 b.2.2 0 ⟨bc, 0, none⟩ w Kn Kp := by
  have hbig : big = 140737488355328 := rfl
  have hpl : ps.length = s.pools.length := by rw [← hp]; simp
  have n1 := r.count pcV_len (by decide) h (mem2 hm)
  have hpn := S.pn
  unfold T_ref08_config_1
  intro X hX
  refine up_to s.pools.length (Q := fun j => ∀ (w : World) (b : Sl), St E (byA b (xs ++ (s.pools.take j).flatMap Cm.plB) :: blkL bc 30 (cfgL v ra pa) :: L) w → X b.1 b.2.1 b.2.2 (j : Int) w) ?_ w b (by simpa using h)
  intro j hj ih w b h
  refine hX _ _ _ _ _ ?_
  unfold T_ref08_config_1_body
  refine ⟨_, _, _, rd_fld h.f1.at_blk rfl rfl, ?_⟩
  rw [← n1, hpl]
  refine ite_d (fun hc => ?_) fun hc => ?_
  · have hjl : j < s.pools.length := by omega
    have hjp : j < ps.length := by omega
    intro w14
    have h14 : St E _ w14 := h.drew
    clear_value w14
    obtain ⟨ad, ha, hn, hs, _⟩ := pl_at (r.at h14 (mem2 hm)) hjp
    have e2 : ps[j].2 = s.pools[j] := by
      have : (ps.map (·.2))[j]'(by simpa using hjp) = s.pools[j] := by simp [hp]
      simpa using this
    have ht := t _ (List.getElem_mem hjp)
    rw [e2] at hn ht
    obtain ⟨hx3, hx4⟩ := S.pl _ (List.getElem_mem hjl)
    have hx5 := tgsMax_short hx4
    have hx6 := text_len s.pools[j].name
    have hx1 := pls_len S j
    refine ⟨_, _, _, rd_fld h14.f1.at_blk rfl rfl, by omega, by omega, ad, ha, _, by rw [Int.toNat_natCast]; exact hn, _, _, _, rd_fld h14.f1.at_blk rfl rfl, by omega, by omega, ad, ha, _, _, _, by rw [Int.toNat_natCast]; exact hs, ?_⟩
    refine Rtext_spec (x := s.pools[j].name) h14 (by simp only [List.length_append]; omega) fun w22 b22 h22 => ⟨_, _, _, rfl, ⟨?_, rd_fld h22.f1.at_blk rfl rfl, rd_fld h22.f1.at_blk rfl rfl, trivial⟩, ?_⟩
    · obtain ⟨ad', ha', _, hs', _⟩ := pl_at (r.at h22 (mem2 hm)) hjp
      rw [ha] at ha'
      injection ha' with ha'
      subst ha'
      rw [Int.toNat_natCast]; exact hs'
    · refine Rtargets_spec (q := ps[j].1) (mem1 hm) ht hx4.ok h22 (by simp only [List.length_append]; omega) fun w25 b25 h25 => ⟨_, _, _, rfl, ⟨rd_fld h25.f1.at_blk rfl rfl, rd_fld h25.f1.at_blk rfl rfl, trivial⟩, ?_⟩
      rw [succ_big (by omega)]
      refine ih hjl _ _ ?_
      rw [List.take_succ_eq_append_getElem hjl, List.flatMap_append]
      simpa [Cm.plB] using h25
  · rw [List.take_of_length_le (by omega)] at h
    exact k _ _ h
set_option maxHeartbeats 1000000 in
theorem rconf_l2 {Kn : Option Addr → Nat → Nat → World → Prop} {Kp : List PanicEntry → World → Prop} {bc : Nat} {v : Int} (hm : kn F ∈ L) (S : Sz s) (r : RdF F ra.1 ra.2.1 3 (s.routes.flatMap rcV))
    (h : St E (byA b xs :: blkL bc 30 (cfgL v ra pa) :: L) w) (hx : xs.length ≤ 1500000)
    (k : ∀ (w : World) (b : Sl), St E (byA b (xs ++ s.routes.flatMap Cm.rtB) :: blkL bc 30 (cfgL v ra pa) :: L) w → Kn b.1 b.2.1 b.2.2 w) :
    T_ref08_config_2 b.1 b.2.1 b.2.2 0 ⟨bc, 0, none⟩ w Kn Kp := by
  have hbig : big = 140737488355328 := rfl
  have n1 := r.count rcV_len (by decide) h (mem2 hm)
  have hrn := S.rn
  unfold T_ref08_config_2
  intro X hX
  refine up_to s.routes.length (Q := fun j => ∀ (w : World) (b : Sl), St E (byA b (xs ++ (s.routes.take j).flatMap Cm.rtB) :: blkL bc 30 (cfgL v ra pa) :: L) w → X b.1 b.2.1 b.2.2 (j : Int) w) ?_ w b (by simpa using h)
  intro j hj ih w b h
  refine hX _ _ _ _ _ ?_
  unfold T_ref08_config_2_body
  refine ⟨_, _, _, rd_fld h.f1.at_blk rfl rfl, ?_⟩
  rw [← n1]
  refine ite_d (fun hc => ?_) fun hc => ?_
  · have hjl : j < s.routes.length := by omega
    intro w14
    have h14 : St E _ w14 := h.drew
    clear_value w14
    obtain ⟨ad, ha, _, hk⟩ := rt_at (r.at h14 (mem2 hm)) hjl
    have rr : ∀ {w : World} {A B : Asrt}, St E (A :: B :: L) w → ∀ k v, (rcV s.routes[j])[k]? = some v → one v = true → rd w ((ad.add (j * 3)).add k) v := fun h k v h1 h2 => by
      obtain ⟨ad', ha', _, hk'⟩ := rt_at (r.at h (mem2 hm)) hjl
      rw [ha] at ha'
      injection ha' with ha'
      subst ha'
      exact hk' k v h1 h2
    obtain ⟨hx3, hx4, hx5⟩ := S.rt _ (List.getElem_mem hjl)
    have e1 := text_len s.routes[j].host
    have e2 := text_len s.routes[j].pfx
    have e3 := text_len s.routes[j].pool
    have hx1 := rts_len S j
    rw [Int.toNat_natCast]
    refine ⟨_, _, _, rd_fld h14.f1.at_blk rfl rfl, by omega, by omega, ad, ha, _, rr h14 0 _ rfl rfl, _, _, _, rd_fld h14.f1.at_blk rfl rfl, by omega, by omega, ad, ha, _, rr h14 1 _ rfl rfl, _, _, _, rd_fld h14.f1.at_blk rfl rfl, by omega, by omega, ad, ha, _, rr h14 2 _ rfl rfl, ?_⟩
    refine Rtext_spec (x := s.routes[j].host) h14 (by simp only [List.length_append]; omega) fun w22 b22 h22 => ⟨_, _, _, rfl, ⟨rr h22 2 _ rfl rfl, rd_fld h22.f1.at_blk rfl rfl, rr h22 1 _ rfl rfl, rd_fld h22.f1.at_blk rfl rfl, rd_fld h22.f1.at_blk rfl rfl, trivial⟩, ?_⟩
    refine Rtext_spec (x := s.routes[j].pfx) h22 (by simp only [List.length_append]; omega) fun w23 b23 h23 => ⟨_, _, _, rfl, ⟨rr h23 2 _ rfl rfl, rd_fld h23.f1.at_blk rfl rfl, rd_fld h23.f1.at_blk rfl rfl, rd_fld h23.f1.at_blk rfl rfl, trivial⟩, ?_⟩
    refine Rtext_spec (x := s.routes[j].pool) h23 (by simp only [List.length_append]; omega) fun w25 b25 h25 => ⟨_, _, _, rfl, ⟨rd_fld h25.f1.at_blk rfl rfl, rd_fld h25.f1.at_blk rfl rfl, rd_fld h25.f1.at_blk rfl rfl, trivial⟩, ?_⟩
    rw [succ_big (by omega)]
    refine ih hjl _ _ ?_
    rw [List.take_succ_eq_append_getElem hjl, List.flatMap_append]
    simpa [Cm.rtB] using h25
  · rw [List.take_of_length_le (by omega)] at h
    exact k _ _ h
/-- config: a configuration's bytes, behind others. -/
theorem Rconfig_spec {v : Int} (hm : kn F ∈ L) (S : Sz s) (c : cfgR F ra pa s.routes s.pools) (h : St E (byA b xs :: L) w) (hx : xs.length ≤ 1000000)
    (k : ∀ (w' : World) (b' : Sl), St E (byA b' (xs ++ Cm.confB s.pools s.routes) :: L) w' → R (.returned (.slice b'.1 b'.2.1 b'.2.2)) w') : Calls Tryz.prog 95 #[.slice b.1 b.2.1 b.2.2, cfgV v ra pa] w R := by
  have hbig : big = 140737488355328 := rfl
  obtain ⟨rr, ps, hps, rp, rt⟩ := c
  have hy1 := pls_len S s.pools.length
  rw [List.take_length] at hy1
  have hy2 := num_len s.pools.length
  have hy3 := num_len s.routes.length
  refine C_ref08_config ?_
  unfold T_ref08_config
  intro w5
  have h5 : St E (blkL w.heap.size 30 (cfgL v ra pa) :: byA b xs :: L) w5 := h.alloc _
  clear_value w5
  generalize w.heap.size = bc at *
  have n1 := rp.count pcV_len (by decide) h5 (mem2 hm)
  have n2 := rr.count rcV_len (by decide) h5 (mem2 hm)
  have hpl : ps.length = s.pools.length := by rw [← hps]; simp
  refine ⟨_, _, _, rd_fld h5.at_blk rfl rfl, ?_⟩
  rw [← n1, hpl]
  refine Rnum_spec h5.f1 (by omega) fun w8 b8 h8 => ⟨_, _, _, rfl, ?_⟩
  refine rconf_l1 hm hps S rp rt h8 (by simp only [List.length_append]; omega) fun w32 b32 h32 => ⟨_, _, _, rd_fld h32.f1.at_blk rfl rfl, ?_⟩
  rw [← n2]
  refine Rnum_spec h32 (by simp only [List.length_append]; omega) fun w35 b35 h35 => ⟨_, _, _, rfl, ?_⟩
  refine rconf_l2 hm S rr h35 (by simp only [List.length_append]; omega) fun w65 b65 h65 => k _ _ ?_
  have := h65.f1.drop
  simpa [Cm.confB] using this
/-- less. -/
theorem Rless_spec {x y : Cm.Rt} (h : St E L w) (k : ∀ w', St E L w' → R (.returned (.bool (Cm.rtLt x y))) w') :
    Calls Tryz.prog 107 #[.agg #[.string (bs x.host), .string (bs x.pfx), .string (bs x.pool)], .agg #[.string (bs y.host), .string (bs y.pfx), .string (bs y.pool)]] w R := by
  refine C_ref08_less ?_
  unfold T_ref08_less
  intro w7
  have h7 : St E (blkL w.heap.size 36 (rcV x) :: L) w7 := h.alloc _
  intro w8
  have h8 : St E (blkL w7.heap.size 36 (rcV y) :: blkL w.heap.size 36 (rcV x) :: L) w8 := h7.alloc _
  clear_value w8
  have e : ∀ a b : Cm.Bs, Op.bytesLess (bs a).toList (bs b).toList = decide (a < b) := fun a b => by rw [bs_toList, bs_toList, bytesLess_eq]
  refine ⟨_, rd_cell h8.f1.at_blk rfl rfl, _, rd_cell h8.at_blk rfl rfl, ?_⟩
  rw [e]
  refine ite_d (fun h1 => congB (k _ h8.drop.drop) (by simp [Cm.rtLt, h1])) fun h1 => ⟨_, rd_cell h8.f1.at_blk rfl rfl, _, rd_cell h8.at_blk rfl rfl, ?_⟩
  rw [str_beq]
  refine ite_d (fun h2 => ⟨_, rd_fld h8.f1.at_blk rfl rfl, _, rd_fld h8.at_blk rfl rfl, congB (k _ h8.drop.drop) ?_⟩) fun h2 => congB (k _ h8.drop.drop) (by simp [Cm.rtLt, h1, h2])
  rw [e]
  unfold Cm.rtLt
  rw [decide_eq_false h1, decide_eq_true h2, Bool.false_or, Bool.true_and]
end
end Go.Vc

/-
  The document's store does a command that is right: as the lists say.
-/
namespace Go.Vc
open Go Go.Proofs Go.Proofs.YtcpmfjclkdjfmaaGreat
set_option maxRecDepth 100000
section
variable {E w : World} {L : List Asrt} {R : Ending → World → Prop} {F G : Fz} {s : Cm.Sm} {c : Cm.Cmd} {q ra pa : Sl} {v : Int}
end
end Go.Vc

/-
  The document's store: what a client was told, and what it does with a command.
-/
namespace Go.Vc
open Go Go.Proofs Go.Proofs.YtcpmfjclkdjfmaaGreat
set_option maxRecDepth 100000
section
variable {E w : World} {L : List Asrt} {R : Ending → World → Prop} {F G : Fz} {s : Cm.Sm} {c : Cm.Cmd} {q : Sl} {r : Nat}
abbrev rfL (v : Int) (ra pa la : Sl) : List Value := [.int .i64 v, .slice ra.1 ra.2.1 ra.2.2, .slice pa.1 pa.2.1 pa.2.2, .slice la.1 la.2.1 la.2.2]
/-- The document's store at r is s; its lists are known for good. -/
def refA (F : Fz) (r : Nat) (s : Cm.Sm) : Asrt := fun h => ∃ x : Sl × Sl × Sl, cfgR F x.1 x.2.1 s.routes s.pools ∧ RdF F x.2.2.1 x.2.2.2.1 4 (s.l.flatMap lcV) ∧ blkL r 108 (rfL s.ver x.1 x.2.1 x.2.2) h
theorem St.rf_open (h : St E (refA F r s :: L) w) : ∃ ra pa la, cfgR F ra pa s.routes s.pools ∧ RdF F la.1 la.2.1 4 (s.l.flatMap lcV) ∧ St E (blkL r 108 (rfL s.ver ra pa la) :: L) w := by
  obtain ⟨en, x, ⟨h1, h2, d, rfl, ⟨y, ho1, ho2, hs⟩, hL⟩, hl⟩ := h
  exact ⟨_, _, _, ho1, ho2, en, _, ⟨h1, h2, d, rfl, hs, hL⟩, hl⟩
theorem St.rf_mk {ra pa la : Sl} (h1 : cfgR F ra pa s.routes s.pools) (h2 : RdF F la.1 la.2.1 4 (s.l.flatMap lcV)) (h : St E (blkL r 108 (rfL s.ver ra pa la) :: L) w) : St E (refA F r s :: L) w := h.mono fun _ hx => ⟨(ra, pa, la), h1, h2, hx⟩
theorem St.rf_mono (h : St E (refA F r s :: L) w) (k : Fz.le F G) : St E (refA G r s :: L) w := h.mono fun _ ⟨y, h1, h2, h3⟩ => ⟨y, h1.mono k, RdF.mono h2 k, h3⟩
theorem la_at {xs : List Cm.Last} {a : Option Addr} {l : Nat} (h : RdS w a l 4 (xs.flatMap lcV)) {j : Nat} (hj : j < xs.length) : ∃ ad, a = some ad ∧ rd w (ad.add (j * 4)) (.agg #[.int .i64 xs[j].client, .int .i64 xs[j].seq, .int .i64 xs[j].e, .int .i64 xs[j].ver]) ∧ (∀ k v, (lcV xs[j])[k]? = some v → one v = true → rd w ((ad.add (j * 4)).add k) v) ∧ rd w ((ad.add (j * 4)).add 2) (.agg #[.int .i64 xs[j].e, .int .i64 xs[j].ver]) := by
  obtain ⟨ad, ha, h1, h2⟩ := h.elem (f := lcV) lcV_len (List.getElem?_eq_getElem hj) (by decide)
  refine ⟨ad, ha, h1, h2, ?_⟩
  have hl : 0 < l := by have := h.count lcV_len (by decide); omega
  have := h.rd_agg ha hl (o := j * 4 + 2) (vs := [.int .i64 xs[j].e, .int .i64 xs[j].ver]) fun i u hu => by
    match i, hu with
    | 0, hu => rw [Nat.add_zero, flat_get lcV_len xs j 2 xs[j] (List.getElem?_eq_getElem hj) (by decide)]; exact hu
    | 1, hu => rw [Nat.add_assoc, flat_get lcV_len xs j (2 + 1) xs[j] (List.getElem?_eq_getElem hj) (by decide)]; exact hu
    | n + 2, hu => simp at hu
  have e : (ad.add (j * 4)).add 2 = ad.add (j * 4 + 2) := by
    obtain ⟨ad', ha', hsp, _⟩ := h.cells hl
    rw [ha] at ha'
    injection ha' with ha'
    subst ha'
    obtain ⟨b, o, sp⟩ := ad
    simp only at hsp
    subst hsp
    rw [add_mk, add_mk, add_mk, Nat.add_assoc]
  rw [e]
  exact this
set_option maxHeartbeats 1000000 in
theorem RSeen_spec {n : Int} (hm : kn F ∈ L) (hb : s.l.length ≤ 1000) (h : St E (refA F r s :: L) w) (k : ∀ w', St E (refA F r s :: L) w' → R (.returned (.tuple #[.int .i64 (Cm.seenC s n).1, .agg #[.int .i64 (Cm.seenC s n).2.1, .int .i64 (Cm.seenC s n).2.2]])) w') :
    Calls Tryz.prog 55 #[.pointer (some ⟨r, 0, none⟩), .int .i64 n] w R := by
  have hbig : big = 140737488355328 := rfl
  obtain ⟨ra, pa, la, hcf, hl, h⟩ := h.rf_open
  refine C_ref08_Store_Seen ?_
  unfold T_ref08_Store_Seen
  intro w3
  have h3 := h.alloc (.cells #[.int .i64 0, .int .i64 0] 45)
  have h3 : St E (blkL w.heap.size 45 (rsL 0 0) :: blkL r 108 (rfL s.ver ra pa la) :: L) w3 := h3
  clear_value w3
  generalize w.heap.size = br at *
  have n1 := hl.count lcV_len (by decide) h3 (mem2 hm)
  unfold T_ref08_Store_Seen_1
  intro X hX
  refine up_to s.l.length (Q := fun j => ∀ w : World, (s.l.find? fun x => decide (x.client = n)) = ((s.l.drop j).find? fun x => decide (x.client = n)) → St E (blkL br 45 (rsL 0 0) :: blkL r 108 (rfL s.ver ra pa la) :: L) w → X (j : Int) w) ?_ w3 (by simp) h3
  intro j hj ih w hf h
  refine hX _ _ ?_
  unfold T_ref08_Store_Seen_1_body T_ref08_Store_Seen_2
  refine ite_n (fun _ => ⟨_, rfl, _, _, _, rd_fld h.f1.at_blk rfl rfl, ?_⟩) fun hh => by cases hh
  rw [← n1]
  refine ite_d (fun hc => ?_) fun hc => ?_
  · have hjl : j < s.l.length := by omega
    obtain ⟨ad, ha, _, hk, hg⟩ := la_at (hl.at h (mem2 hm)) hjl
    rw [Int.toNat_natCast]
    refine ⟨_, rfl, _, _, _, rd_fld h.f1.at_blk rfl rfl, by omega, by omega, ad, ha, _, hk 0 _ rfl rfl, ite_b (fun h1 => ?_) fun h1 => ?_⟩
    · have h1 : s.l[j].client = n := by simpa using h1
      intro w21
      have h21 : St E _ w21 := h.drew
      clear_value w21
      obtain ⟨ad2, ha2, _, hk2, hg2⟩ := la_at (hl.at h21 (mem2 hm)) hjl
      refine ⟨_, rfl, _, _, _, rd_fld h21.f1.at_blk rfl rfl, by omega, by omega, ad2, ha2, _, hk2 1 _ rfl rfl, _, rfl, _, _, _, rd_fld h21.f1.at_blk rfl rfl, by omega, by omega, ad2, ha2, _, _, hg2, rfl, ok_res h21 rfl _ _, ?_⟩
      intro w31
      have h31 := h21.wr_res rfl s.l[j].e s.l[j].ver
      have hs : Cm.seenC s n = (s.l[j].seq, s.l[j].e, s.l[j].ver) := by
        unfold Cm.seenC
        rw [hf, List.drop_eq_getElem_cons hjl, List.find?_cons_of_pos (by simpa using h1)]
      refine ⟨trivial, _, _, rd_res h31, ?_⟩
      rw [hs] at k
      exact k _ (St.rf_mk hcf hl h31.drop)
    · have h1 : s.l[j].client ≠ n := by simpa using h1
      rw [succ_big (by omega)]
      refine ih hjl _ ?_ h
      rw [hf, List.drop_eq_getElem_cons hjl, List.find?_cons_of_neg (by simpa using h1)]
  · have hs : Cm.seenC s n = (0, 0, 0) := by
      unfold Cm.seenC
      rw [hf, List.drop_eq_nil_of_le (by omega)]
      rfl
    rw [hs] at k
    refine ⟨rfl, ok_res h rfl 0 0, ?_⟩
    intro w37
    have h37 := h.wr_res rfl 0 0
    exact ⟨_, _, rd_res h37, k _ (St.rf_mk hcf hl h37.drop)⟩
theorem one_lc (x : Cm.Last) : ∀ u ∈ lcV x, one u = true := by intro u hu; simp [lcV] at hu; rcases hu with rfl | rfl | rfl | rfl <;> rfl
end
end Go.Vc

/-
  Commands that came in: what stands in them.
-/
namespace Go.Vc
open Go Go.Proofs Go.Proofs.YtcpmfjclkdjfmaaGreat
set_option maxRecDepth 100000
section
variable {H : Type} {enc : TypeId × Value → H} {W : World}
/-- Commands that came in. -/
def CmdsR (F : Fz) (a : Option Addr) (l : Nat) (ds : List (Cm.Cmd × Sl)) : Prop := RdF F a l 8 (ds.flatMap fun d => cmdL d.1 d.2) ∧ ∀ d ∈ ds, okC d.1 ∧ RdF F d.2.1 d.2.2.1 2 (d.1.tg.flatMap tV)
end
end Go.Vc

/-
  What the functions' code comes to; printed by a program of this claim's own.
-/
namespace Go.Proofs.YtcpmfjclkdjfmaaGreat
open Go Go.Vc
set_option maxRecDepth 100000
set_option linter.unusedVariables false

/-! tollgate/tollgatelaw08.play -/
end Go.Proofs.YtcpmfjclkdjfmaaGreat

/-
  Commands on both stores: whatever they are, both come to the same.
-/
namespace Go.Vc
open Go Go.Proofs Go.Proofs.YtcpmfjclkdjfmaaGreat
set_option maxRecDepth 100000
section
variable {E w : World} {L : List Asrt} {R : Ending → World → Prop} {F G : Fz} {s : Cm.Sm} {c : Cm.Cmd} {q : Sl} {p r : Nat}
theorem CmdsR.mono {a : Option Addr} {l : Nat} {ds : List (Cm.Cmd × Sl)} (h : CmdsR F a l ds) (k : Fz.le F G) : CmdsR G a l ds := ⟨RdF.mono h.1 k, fun d hd => ⟨(h.2 d hd).1, RdF.mono (h.2 d hd).2 k⟩⟩
end
end Go.Vc

/-
  Config, and what it tells stays as it is.
-/
namespace Go.Vc
open Go Go.Proofs Go.Proofs.YtcpmfjclkdjfmaaGreat Go.RowKit
set_option maxRecDepth 100000
section
variable {E w : World} {L : List Asrt} {R : Ending → World → Prop} {F G : Fz} {s : Cm.Sm} {p : Nat}
/-- Config, and what it tells stays as it is. -/
theorem Config_kn (S : Sz s) (h : St E (stA F p s :: kn F :: L) w) (k : ∀ (G : Fz) (w' : World) (ra pa : Sl), Fz.le F G → cfgR G ra pa s.routes s.pools → St E (stA G p s :: kn G :: L) w' → R (.returned (cfgV s.ver ra pa)) w') :
    Calls Tryz.prog 14 #[.pointer (some ⟨p, 0, none⟩)] w R := by
  refine Config_spec (L := kn F :: L) at0 S h fun w' ra pa xs hxs h' => ?_
  obtain ⟨G, hG, h2, hc⟩ := St.cfg_freeze hxs (h'.sel 5 [0, 1, 2, 4, 3])
  have h3 : St E (kn G :: stA F p s :: L) w' := h2
  exact k G w' ra pa hG hc (h3.f1.st_mono hG)
theorem wrap_pred {j : Nat} (h : 0 < j) (hl : j ≤ 1000000) : IntKind.wrap .i64 ((j : Int) - 1) = ((j - 1 : Nat) : Int) := by rw [wrap_id (by omega) (by omega)]; omega
end
end Go.Vc

/-
  What the functions' code comes to; printed by a program of this claim's own.
-/
namespace Go.Proofs.YtcpmfjclkdjfmaaGreat
open Go Go.Vc
set_option maxRecDepth 100000
set_option linter.unusedVariables false

/-! tollgate/conf.GetCommand -/
/-! tollgate/tollgateref08.GetCommand -/
/-! (*tollgate/conf.reader).num -/
def T_conf_reader_num_1 (most15 : Int) (n16 : Int) (e17 : Int) (w : World) (Kn : Bool → World → Prop) (Kp : List PanicEntry → World → Prop) : Prop :=
  if ((e17 : Int) == 0) = true then (Kn (decide ((n16 : Int) > most15)) w) else (Kn false w)

def T_conf_reader_num_1_outs : Exit → Option (List (Nat × Value)) := fun x => match x with | .normal => some [(32, .bool false)] | .panic _ => some [] | _ => none

def T_conf_reader_num_1_ks : Nat → Bool := ksOf [26, 27, 28, 29, 30, 31, 32]

def H_conf_reader_num_1 : Env → World → QT → Prop := unitHook 44 T_conf_reader_num_1_ks [(1, .int .i64 0), (5, .int .i64 0), (7, .int .i64 0)] T_conf_reader_num_1_outs fun l w C => match l with | [v0, v1, v2] => T_conf_reader_num_1 (pInt v0) (pInt v1) (pInt v2) w (fun b19 w => C .normal [.bool b19] w) (fun ch w => C (.panic ch) [] w) | _ => False

theorem T_conf_reader_num_1_hl : allP (hokL Tryz.prog (hookAt []) (at_ (bodyOf Tryz.f63) [1, 1, 1, 0, 0]) 60) = (True) := by kernel_rfl
theorem T_conf_reader_num_1_hok : HOk Tryz.prog (hookAt []) (at_ (bodyOf Tryz.f63) [1, 1, 1, 0, 0]) 60 := HOk_of _ _ (by rw [T_conf_reader_num_1_hl]; exact trivial)

theorem T_conf_reader_num_1_eq (C : Conts) (most15 : Int) (n16 : Int) (e17 : Int) (w : World) : vcCode Tryz.prog (hookAt []) (at_ (bodyOf Tryz.f63) [1, 1, 1, 0, 0]) 60 ⟨[(1, .int .i64 most15), (5, .int .i64 n16), (7, .int .i64 e17)], 44, []⟩ w (unitQ T_conf_reader_num_1_outs C) = T_conf_reader_num_1 most15 n16 e17 w (fun b20 w => C .normal [.bool b20] w) (fun ch w => C (.panic ch) [] w) := by kernel_rfl

theorem T_conf_reader_num_1_ok : UnitOk Tryz.prog H_conf_reader_num_1 (at_ (bodyOf Tryz.f63) [1, 1, 1, 0, 0]) 60 := unit_ok (H := (hookAt [])) (by kernel_rfl) T_conf_reader_num_1_hok fun l w C hk => by
    obtain ⟨v0, l_v0, rfl, k_v0, hk_v0⟩ := Kinds.cons_ hk
    obtain ⟨most15, rfl⟩ := kind_int k_v0
    obtain ⟨v1, l_v1, rfl, k_v1, hk_v1⟩ := Kinds.cons_ hk_v0
    obtain ⟨n16, rfl⟩ := kind_int k_v1
    obtain ⟨v2, l_v2, rfl, k_v2, hk_v2⟩ := Kinds.cons_ hk_v1
    obtain ⟨e17, rfl⟩ := kind_int k_v2
    obtain rfl := Kinds.nil_ hk_v2
    exact T_conf_reader_num_1_eq C most15 n16 e17 w

def T_conf_reader_num_2 (e23 : Int) (b24 : Bool) (w : World) (Kn : Int → World → Prop) (Kp : List PanicEntry → World → Prop) : Prop :=
  if b24 = true then (Kn 6 w) else (Kn e23 w)

def T_conf_reader_num_2_outs : Exit → Option (List (Nat × Value)) := fun x => match x with | .normal => some [(7, .int .i64 0)] | .panic _ => some [] | _ => none

def T_conf_reader_num_2_ks : Nat → Bool := ksOf [7]

def H_conf_reader_num_2 : Env → World → QT → Prop := unitHook 44 T_conf_reader_num_2_ks [(7, .int .i64 0), (32, .bool false)] T_conf_reader_num_2_outs fun l w C => match l with | [v0, v1] => T_conf_reader_num_2 (pInt v0) (pBool v1) w (fun e26 w => C .normal [.int .i64 e26] w) (fun ch w => C (.panic ch) [] w) | _ => False

theorem T_conf_reader_num_2_hl : allP (hokL Tryz.prog (hookAt []) (at_ (bodyOf Tryz.f63) [1, 1, 1, 0, 1]) 61) = (True) := by kernel_rfl
theorem T_conf_reader_num_2_hok : HOk Tryz.prog (hookAt []) (at_ (bodyOf Tryz.f63) [1, 1, 1, 0, 1]) 61 := HOk_of _ _ (by rw [T_conf_reader_num_2_hl]; exact trivial)

theorem T_conf_reader_num_2_eq (C : Conts) (e23 : Int) (b24 : Bool) (w : World) : vcCode Tryz.prog (hookAt []) (at_ (bodyOf Tryz.f63) [1, 1, 1, 0, 1]) 61 ⟨[(7, .int .i64 e23), (32, .bool b24)], 44, []⟩ w (unitQ T_conf_reader_num_2_outs C) = T_conf_reader_num_2 e23 b24 w (fun e27 w => C .normal [.int .i64 e27] w) (fun ch w => C (.panic ch) [] w) := by kernel_rfl

theorem T_conf_reader_num_2_ok : UnitOk Tryz.prog H_conf_reader_num_2 (at_ (bodyOf Tryz.f63) [1, 1, 1, 0, 1]) 61 := unit_ok (H := (hookAt [])) (by kernel_rfl) T_conf_reader_num_2_hok fun l w C hk => by
    obtain ⟨v0, l_v0, rfl, k_v0, hk_v0⟩ := Kinds.cons_ hk
    obtain ⟨e23, rfl⟩ := kind_int k_v0
    obtain ⟨v1, l_v1, rfl, k_v1, hk_v1⟩ := Kinds.cons_ hk_v0
    obtain ⟨b24, rfl⟩ := kind_bool k_v1
    obtain rfl := Kinds.nil_ hk_v1
    exact T_conf_reader_num_2_eq C e23 b24 w

def T_conf_reader_num (r1 : Option Addr) (most2 : Int) (w : World) (R : Ending → World → Prop) : Prop :=
  ∃ a3, r1 = some a3 ∧ ∃ x4 : Int, rd w (a3.add 2) (.int .i64 x4) ∧ if ((x4 : Int) != 0) = true then (R (.returned (.int .i64 0)) w) else (let w5 : World := w.drew
  ∃ a6, r1 = some a6 ∧ ∃ s7a : Option Addr, ∃ s7l : Nat, ∃ s7c : Nat, rd w5 a6 (.slice s7a s7l s7c) ∧ ∃ a8, r1 = some a8 ∧ ∃ x9 : Int, rd w5 (a8.add 1) (.int .i64 x9) ∧ Calls Tryz.prog 101 #[.slice s7a s7l s7c, .int .i64 x9] w5 (ret (fun r10 w11 => ∃ x12 : Int, ∃ x13 : Int, ∃ x14 : Int, r10 = .tuple #[.int .i64 x12, .int .i64 x13, .int .i64 x14] ∧ (True) ∧ T_conf_reader_num_1 most2 x12 x14 w11 (fun b21 w22 => T_conf_reader_num_2 x14 b21 w22 (fun e28 w29 => if ((e28 : Int) != 0) = true then (∃ a30, r1 = some a30 ∧ (.int .i64 e28 : Value).cells.size = 1 ∧ wrOk w29 (a30.add 2) (.int .i64 e28) ∧ let w31 : World := wr w29 (a30.add 2) (.int .i64 e28)
  R (.returned (.int .i64 0)) w31) else (∃ a32, r1 = some a32 ∧ (.int .i64 x13 : Value).cells.size = 1 ∧ wrOk w29 (a32.add 1) (.int .i64 x13) ∧ let w33 : World := wr w29 (a32.add 1) (.int .i64 x13)
  R (.returned (.int .i64 x12)) w33)) (pan R)) (pan R)) (pan R)))

theorem T_conf_reader_num_hl : allP (hokL Tryz.prog (hookAt [(60, H_conf_reader_num_1), (61, H_conf_reader_num_2)]) (bodyOf Tryz.f63) 1) = (UnitOk Tryz.prog H_conf_reader_num_1 (at_ (bodyOf Tryz.f63) [1, 1, 1, 0, 0]) 60 ∧ UnitOk Tryz.prog H_conf_reader_num_2 (at_ (bodyOf Tryz.f63) [1, 1, 1, 0, 1]) 61 ∧ True) := by kernel_rfl

theorem T_conf_reader_num_eq (r1 : Option Addr) (most2 : Int) (w : World) (R : Ending → World → Prop) : vcCode Tryz.prog (hookAt [(60, H_conf_reader_num_1), (61, H_conf_reader_num_2)]) (bodyOf Tryz.f63) 1 ⟨argEnv [.pointer r1, .int .i64 most2] 0, Tryz.f63.ntmps, []⟩ w (finQ Tryz.prog Tryz.f63.results.toList R) = T_conf_reader_num r1 most2 w R := by kernel_rfl

theorem T_conf_reader_num_b : Tryz.f63.body = some (bodyOf Tryz.f63) := by kernel_rfl
theorem T_conf_reader_num_s : (quietSel (bodyOf Tryz.f63) && Nat.ble 2 Tryz.f63.ntmps) = true := by kernel_rfl

theorem C_conf_reader_num {r1 : Option Addr} {most2 : Int} {w : World} {R : Ending → World → Prop} (h : T_conf_reader_num r1 most2 w R) : Calls Tryz.prog 63 #[.pointer r1, .int .i64 most2] w R :=
  calls_of_text (args := [.pointer r1, .int .i64 most2]) mixed Tryz.func63 T_conf_reader_num_b T_conf_reader_num_s (HOk_of _ _ (by rw [T_conf_reader_num_hl]; exact ⟨T_conf_reader_num_1_ok, T_conf_reader_num_2_ok, trivial⟩)) (by rw [T_conf_reader_num_eq]; exact h)

/-! (*tollgate/conf.reader).text -/
def T_conf_reader_text (r1 : Option Addr) (w : World) (R : Ending → World → Prop) : Prop :=
  Calls Tryz.prog 63 #[.pointer r1, .int .i64 128] w (ret (fun r2 w3 => ∃ x4 : Int, r2 = .int .i64 x4 ∧ Calls Tryz.prog 102 #[.pointer r1, .int .i64 x4] w3 (ret (fun r5 w6 => ∃ s7a : Option Addr, ∃ s7l : Nat, ∃ s7c : Nat, r5 = .slice s7a s7l s7c ∧ runV Tryz.prog (convert 56 9 (.slice s7a s7l s7c)) w6 (fun r8 w9 => ∃ s10 : ByteArray, r8 = .string s10 ∧ R (.returned (.string s10)) w9) (pan R)) (pan R))) (pan R))

theorem T_conf_reader_text_hl : allP (hokL Tryz.prog (hookAt []) (bodyOf Tryz.f64) 1) = (True) := by kernel_rfl

theorem T_conf_reader_text_eq (r1 : Option Addr) (w : World) (R : Ending → World → Prop) : vcCode Tryz.prog (hookAt []) (bodyOf Tryz.f64) 1 ⟨argEnv [.pointer r1] 0, Tryz.f64.ntmps, []⟩ w (finQ Tryz.prog Tryz.f64.results.toList R) = T_conf_reader_text r1 w R := by kernel_rfl

theorem T_conf_reader_text_b : Tryz.f64.body = some (bodyOf Tryz.f64) := by kernel_rfl
theorem T_conf_reader_text_s : (quietSel (bodyOf Tryz.f64) && Nat.ble 1 Tryz.f64.ntmps) = true := by kernel_rfl

theorem C_conf_reader_text {r1 : Option Addr} {w : World} {R : Ending → World → Prop} (h : T_conf_reader_text r1 w R) : Calls Tryz.prog 64 #[.pointer r1] w R :=
  calls_of_text (args := [.pointer r1]) mixed Tryz.func64 T_conf_reader_text_b T_conf_reader_text_s (HOk_of _ _ (by rw [T_conf_reader_text_hl]; exact trivial)) (by rw [T_conf_reader_text_eq]; exact h)

/-! (*tollgate/conf.reader).targets -/
def T_conf_reader_targets_2 (r8 : Option Addr) (n9 : Int) (w : World) (Kn : Bool → World → Prop) (Kp : List PanicEntry → World → Prop) : Prop :=
  if (decide ((n9 : Int) > 0)) = true then (∃ a10, r8 = some a10 ∧ ∃ x11 : Int, rd w (a10.add 2) (.int .i64 x11) ∧ Kn ((x11 : Int) == 0) w) else (Kn false w)

def T_conf_reader_targets_2_outs : Exit → Option (List (Nat × Value)) := fun x => match x with | .normal => some [(15, .bool false)] | .panic _ => some [] | _ => none

def T_conf_reader_targets_2_ks : Nat → Bool := ksOf [7, 8, 9, 10, 11, 12, 13, 14, 15]

def H_conf_reader_targets_2 : Env → World → QT → Prop := unitHook 27 T_conf_reader_targets_2_ks [(0, .pointer none), (4, .int .i64 0)] T_conf_reader_targets_2_outs fun l w C => match l with | [v0, v1] => T_conf_reader_targets_2 (pPtr v0) (pInt v1) w (fun b13 w => C .normal [.bool b13] w) (fun ch w => C (.panic ch) [] w) | _ => False

theorem T_conf_reader_targets_2_hl : allP (hokL Tryz.prog (hookAt []) (at_ (bodyOf Tryz.f65) [1, 1, 0, 1, 0, 0, 0, 0]) 464) = (True) := by kernel_rfl
theorem T_conf_reader_targets_2_hok : HOk Tryz.prog (hookAt []) (at_ (bodyOf Tryz.f65) [1, 1, 0, 1, 0, 0, 0, 0]) 464 := HOk_of _ _ (by rw [T_conf_reader_targets_2_hl]; exact trivial)

theorem T_conf_reader_targets_2_eq (C : Conts) (r8 : Option Addr) (n9 : Int) (w : World) : vcCode Tryz.prog (hookAt []) (at_ (bodyOf Tryz.f65) [1, 1, 0, 1, 0, 0, 0, 0]) 464 ⟨[(0, .pointer r8), (4, .int .i64 n9)], 27, []⟩ w (unitQ T_conf_reader_targets_2_outs C) = T_conf_reader_targets_2 r8 n9 w (fun b14 w => C .normal [.bool b14] w) (fun ch w => C (.panic ch) [] w) := by kernel_rfl

theorem T_conf_reader_targets_2_ok : UnitOk Tryz.prog H_conf_reader_targets_2 (at_ (bodyOf Tryz.f65) [1, 1, 0, 1, 0, 0, 0, 0]) 464 := unit_ok (H := (hookAt [])) (by kernel_rfl) T_conf_reader_targets_2_hok fun l w C hk => by
    obtain ⟨v0, l_v0, rfl, k_v0, hk_v0⟩ := Kinds.cons_ hk
    obtain ⟨r8, rfl⟩ := kind_pointer k_v0
    obtain ⟨v1, l_v1, rfl, k_v1, hk_v1⟩ := Kinds.cons_ hk_v0
    obtain ⟨n9, rfl⟩ := kind_int k_v1
    obtain rfl := Kinds.nil_ hk_v1
    exact T_conf_reader_targets_2_eq C r8 n9 w

def T_conf_reader_targets_1_body (X : Option Addr → Nat → Nat → Int → World → Prop) (l5a : Option Addr) (l5l : Nat) (l5c : Nat) (n6 : Int) (r7 : Option Addr) (w : World) (Kn : Option Addr → Nat → Nat → World → Prop) (Kp : List PanicEntry → World → Prop)  : Prop :=
  T_conf_reader_targets_2 r7 n6 w (fun b15 w16 => if b15 = true then (Calls Tryz.prog 64 #[.pointer r7] w16 (ret (fun r17 w18 => ∃ s19 : ByteArray, r17 = .string s19 ∧ Calls Tryz.prog 103 #[.pointer r7] w18 (ret (fun r20 w21 => ∃ f22 : Nat, r20 = .float .f64 f22 ∧ let w23 : World := w21.alloc (.cells #[.string s19, .float .f64 f22] 64)
  runV Tryz.prog (Builtin.append_ #[32, 32] 32 #[.slice l5a l5l l5c, .slice (some (⟨w21.heap.size, 0, none⟩ : Addr)) 1 1]) w23 (fun r24 w25 => ∃ s26a : Option Addr, ∃ s26l : Nat, ∃ s26c : Nat, r24 = .slice s26a s26l s26c ∧ X s26a s26l s26c (IntKind.wrap .i64 ((n6 : Int) - 1)) w25) Kp) Kp)) Kp)) else (Kn l5a l5l l5c w16)) Kp

def T_conf_reader_targets_1 (l5a : Option Addr) (l5l : Nat) (l5c : Nat) (n6 : Int) (r7 : Option Addr) (w : World) (Kn : Option Addr → Nat → Nat → World → Prop) (Kp : List PanicEntry → World → Prop) : Prop :=
  ∀ X : Option Addr → Nat → Nat → Int → World → Prop, (∀ (l5a : Option Addr) (l5l : Nat) (l5c : Nat) (n6 : Int) (w : World), T_conf_reader_targets_1_body X l5a l5l l5c n6 r7 w Kn Kp → X l5a l5l l5c n6 w) → X l5a l5l l5c n6 w

def T_conf_reader_targets_1_outs : Exit → Option (List (Nat × Value)) := fun x => match x with | .normal => some [(3, .slice none 0 0)] | .panic _ => some [] | _ => none

def T_conf_reader_targets_1_ks : Nat → Bool := ksOf [3, 4, 7, 8, 9, 10, 11, 12, 13, 14, 15, 16, 17, 18, 19, 20, 21, 22, 23, 24, 25]

def H_conf_reader_targets_1 : Env → World → QT → Prop := unitHook 27 T_conf_reader_targets_1_ks [(3, .slice none 0 0), (4, .int .i64 0), (0, .pointer none)] T_conf_reader_targets_1_outs fun l w C => match l with | [v0, v1, v2] => T_conf_reader_targets_1 (pA v0) (pL v0) (pC v0) (pInt v1) (pPtr v2) w (fun l28a l28l l28c w => C .normal [.slice l28a l28l l28c] w) (fun ch w => C (.panic ch) [] w) | _ => False

theorem T_conf_reader_targets_1_hl : allP (hokL Tryz.prog (hookAt [(464, H_conf_reader_targets_2)]) (at_ (bodyOf Tryz.f65) [1, 1, 0, 1, 0, 0]) 116) = (UnitOk Tryz.prog H_conf_reader_targets_2 (at_ (bodyOf Tryz.f65) [1, 1, 0, 1, 0, 0, 0, 0]) 464 ∧ True) := by kernel_rfl
theorem T_conf_reader_targets_1_hok : HOk Tryz.prog (hookAt [(464, H_conf_reader_targets_2)]) (at_ (bodyOf Tryz.f65) [1, 1, 0, 1, 0, 0]) 116 := HOk_of _ _ (by rw [T_conf_reader_targets_1_hl]; exact ⟨T_conf_reader_targets_2_ok, trivial⟩)

theorem T_conf_reader_targets_1_eq (C : Conts) (X : List Value → World → Prop) (l5a : Option Addr) (l5l : Nat) (l5c : Nat) (n6 : Int) (r7 : Option Addr) (w : World) : vcCode Tryz.prog (hookAt [(464, H_conf_reader_targets_2)]) (at_ (bodyOf Tryz.f65) [1, 1, 0, 1, 0, 0]) 116 ⟨[(3, .slice l5a l5l l5c), (4, .int .i64 n6)] ++ [(0, .pointer r7)], 27, []⟩ w (seqQ (fun e w => takeAll e [(3, .slice none 0 0), (4, .int .i64 0)] fun l => X l w) (blockQ 0 (unitQ T_conf_reader_targets_1_outs C))) = T_conf_reader_targets_1_body (fun l5a l5l l5c n6 w => X [.slice l5a l5l l5c, .int .i64 n6] w) l5a l5l l5c n6 r7 w (fun l29a l29l l29c w => C .normal [.slice l29a l29l l29c] w) (fun ch w => C (.panic ch) [] w) := by kernel_rfl

theorem T_conf_reader_targets_1_ok : UnitOk Tryz.prog H_conf_reader_targets_1 (at_ (bodyOf Tryz.f65) [1, 1, 0, 1]) 29 := by
  have hc : at_ (bodyOf Tryz.f65) [1, 1, 0, 1] = .block 0 (.loop (at_ (bodyOf Tryz.f65) [1, 1, 0, 1, 0, 0])) := by kernel_rfl
  rw [hc]
  refine loop_unit_ok (carr := [(3, .slice none 0 0), (4, .int .i64 0)]) (fix := [(0, .pointer none)]) (ks := T_conf_reader_targets_1_ks) (H := (hookAt [(464, H_conf_reader_targets_2)])) (B := fun C X l u w => match l, u with | [v0, v1], [v2] => T_conf_reader_targets_1_body (fun l5a l5l l5c n6 w => X [.slice l5a l5l l5c, .int .i64 n6] w) (pA v0) (pL v0) (pC v0) (pInt v1) (pPtr v2) w (fun l30a l30l l30c w => C .normal [.slice l30a l30l l30c] w) (fun ch w => C (.panic ch) [] w) | _, _ => False) (by kernel_rfl) (by kernel_rfl) T_conf_reader_targets_1_hok ?_ ?_
  · intro C X l u w hl hu
    obtain ⟨v0, l_v0, rfl, k_v0, hl_v0⟩ := Kinds.cons_ hl
    obtain ⟨l5a, l5l, l5c, rfl⟩ := kind_slice k_v0
    obtain ⟨v1, l_v1, rfl, k_v1, hl_v1⟩ := Kinds.cons_ hl_v0
    obtain ⟨n6, rfl⟩ := kind_int k_v1
    obtain rfl := Kinds.nil_ hl_v1
    obtain ⟨v2, l_v2, rfl, k_v2, hu_v2⟩ := Kinds.cons_ hu
    obtain ⟨r7, rfl⟩ := kind_pointer k_v2
    obtain rfl := Kinds.nil_ hu_v2
    exact T_conf_reader_targets_1_eq C X l5a l5l l5c n6 r7 w
  · intro l u w C hl hu
    obtain ⟨v0, l_v0, rfl, k_v0, hl_v0⟩ := Kinds.cons_ hl
    obtain ⟨l5a, l5l, l5c, rfl⟩ := kind_slice k_v0
    obtain ⟨v1, l_v1, rfl, k_v1, hl_v1⟩ := Kinds.cons_ hl_v0
    obtain ⟨n6, rfl⟩ := kind_int k_v1
    obtain rfl := Kinds.nil_ hl_v1
    obtain ⟨v2, l_v2, rfl, k_v2, hu_v2⟩ := Kinds.cons_ hu
    obtain ⟨r7, rfl⟩ := kind_pointer k_v2
    obtain rfl := Kinds.nil_ hu_v2
    constructor
    · intro h X hX
      exact h (fun l5a l5l l5c n6 w => X [.slice l5a l5l l5c, .int .i64 n6] w) (fun l5a l5l l5c n6 w hb => hX [.slice l5a l5l l5c, .int .i64 n6] w ⟨rfl, rfl, trivial⟩ hb)
    · intro h X hX
      exact h (fun l w => match l with | [v0, v1] => X (pA v0) (pL v0) (pC v0) (pInt v1) w | _ => True) (fun l w hl hb => by
        obtain ⟨v0, l_v0, rfl, k_v0, hl_v0⟩ := Kinds.cons_ hl
        obtain ⟨l5a, l5l, l5c, rfl⟩ := kind_slice k_v0
        obtain ⟨v1, l_v1, rfl, k_v1, hl_v1⟩ := Kinds.cons_ hl_v0
        obtain ⟨n6, rfl⟩ := kind_int k_v1
        obtain rfl := Kinds.nil_ hl_v1
        exact hX l5a l5l l5c n6 w hb)

def T_conf_reader_targets (r1 : Option Addr) (w : World) (R : Ending → World → Prop) : Prop :=
  Calls Tryz.prog 63 #[.pointer r1, .int .i64 16] w (ret (fun r2 w3 => ∃ x4 : Int, r2 = .int .i64 x4 ∧ T_conf_reader_targets_1 none 0 0 x4 r1 w3 (fun l31a l31l l31c w32 => R (.returned (.slice l31a l31l l31c)) w32) (pan R)) (pan R))

theorem T_conf_reader_targets_hl : allP (hokL Tryz.prog (hookAt [(29, H_conf_reader_targets_1)]) (bodyOf Tryz.f65) 1) = (UnitOk Tryz.prog H_conf_reader_targets_1 (at_ (bodyOf Tryz.f65) [1, 1, 0, 1]) 29 ∧ True) := by kernel_rfl

theorem T_conf_reader_targets_eq (r1 : Option Addr) (w : World) (R : Ending → World → Prop) : vcCode Tryz.prog (hookAt [(29, H_conf_reader_targets_1)]) (bodyOf Tryz.f65) 1 ⟨argEnv [.pointer r1] 0, Tryz.f65.ntmps, []⟩ w (finQ Tryz.prog Tryz.f65.results.toList R) = T_conf_reader_targets r1 w R := by kernel_rfl

theorem T_conf_reader_targets_b : Tryz.f65.body = some (bodyOf Tryz.f65) := by kernel_rfl
theorem T_conf_reader_targets_s : (quietSel (bodyOf Tryz.f65) && Nat.ble 1 Tryz.f65.ntmps) = true := by kernel_rfl

theorem C_conf_reader_targets {r1 : Option Addr} {w : World} {R : Ending → World → Prop} (h : T_conf_reader_targets r1 w R) : Calls Tryz.prog 65 #[.pointer r1] w R :=
  calls_of_text (args := [.pointer r1]) mixed Tryz.func65 T_conf_reader_targets_b T_conf_reader_targets_s (HOk_of _ _ (by rw [T_conf_reader_targets_hl]; exact ⟨T_conf_reader_targets_1_ok, trivial⟩)) (by rw [T_conf_reader_targets_eq]; exact h)

/-! (*tollgate/conf.reader).end -/
def T_conf_reader_end_1 (r3 : Option Addr) (right4g : FuncId) (right4i : Array Value) (right4c : Array Value) (w : World) (Kn : Bool → World → Prop) (Kp : List PanicEntry → World → Prop) : Prop :=
  let w5 : World := w.drew
  ∃ a6, r3 = some a6 ∧ ∃ x7 : Int, rd w5 (a6.add 2) (.int .i64 x7) ∧ if ((x7 : Int) == 0) = true then (∃ a8, r3 = some a8 ∧ ∃ x9 : Int, rd w5 (a8.add 1) (.int .i64 x9) ∧ ∃ a10, r3 = some a10 ∧ ∃ s11a : Option Addr, ∃ s11l : Nat, ∃ s11c : Nat, rd w5 a10 (.slice s11a s11l s11c) ∧ if (decide ((x9 : Int) < ((s11l : Nat) : Int))) = true then ((rd w5 a10 (.slice s11a s11l s11c) ∧ rd w5 (a6.add 2) (.int .i64 x7) ∧ True) ∧ Kn true w5) else (hasBody Tryz.prog right4g = true ∧ Calls Tryz.prog right4g ⟨right4i.toList ++ ([] ++ right4c.toList)⟩ w5 (ret (fun r12 w13 => ∃ b14 : Bool, r12 = .bool b14 ∧ (rd w13 a10 (.slice s11a s11l s11c) ∧ rd w13 (a6.add 2) (.int .i64 x7) ∧ True) ∧ Kn (!b14) w13) Kp))) else ((rd w5 (a6.add 2) (.int .i64 x7) ∧ True) ∧ Kn false w5)

def T_conf_reader_end_1_outs : Exit → Option (List (Nat × Value)) := fun x => match x with | .normal => some [(26, .bool false)] | .panic _ => some [] | _ => none

def T_conf_reader_end_1_ks : Nat → Bool := ksOf [5, 6, 7, 8, 9, 10, 11, 12, 13, 14, 15, 16, 17, 18, 19, 20, 21, 22, 23, 24, 25, 26]

def H_conf_reader_end_1 : Env → World → QT → Prop := unitHook 34 T_conf_reader_end_1_ks [(0, .pointer none), (1, .func (.func 0) #[] #[])] T_conf_reader_end_1_outs fun l w C => match l with | [v0, v1] => T_conf_reader_end_1 (pPtr v0) (pFn v1) (pFi v1) (pCa v1) w (fun b16 w => C .normal [.bool b16] w) (fun ch w => C (.panic ch) [] w) | _ => False

theorem T_conf_reader_end_1_hl : allP (hokL Tryz.prog (hookAt []) (at_ (bodyOf Tryz.f66) [1, 0, 0]) 12) = (True) := by kernel_rfl
theorem T_conf_reader_end_1_hok : HOk Tryz.prog (hookAt []) (at_ (bodyOf Tryz.f66) [1, 0, 0]) 12 := HOk_of _ _ (by rw [T_conf_reader_end_1_hl]; exact trivial)

theorem T_conf_reader_end_1_eq (C : Conts) (r3 : Option Addr) (right4g : FuncId) (right4i : Array Value) (right4c : Array Value) (w : World) : vcCode Tryz.prog (hookAt []) (at_ (bodyOf Tryz.f66) [1, 0, 0]) 12 ⟨[(0, .pointer r3), (1, .func (.func right4g) right4i right4c)], 34, []⟩ w (unitQ T_conf_reader_end_1_outs C) = T_conf_reader_end_1 r3 right4g right4i right4c w (fun b17 w => C .normal [.bool b17] w) (fun ch w => C (.panic ch) [] w) := by kernel_rfl

theorem T_conf_reader_end_1_ok : UnitOk Tryz.prog H_conf_reader_end_1 (at_ (bodyOf Tryz.f66) [1, 0, 0]) 12 := unit_ok (H := (hookAt [])) (by kernel_rfl) T_conf_reader_end_1_hok fun l w C hk => by
    obtain ⟨v0, l_v0, rfl, k_v0, hk_v0⟩ := Kinds.cons_ hk
    obtain ⟨r3, rfl⟩ := kind_pointer k_v0
    obtain ⟨v1, l_v1, rfl, k_v1, hk_v1⟩ := Kinds.cons_ hk_v0
    obtain ⟨right4g, right4i, right4c, rfl⟩ := kind_func k_v1
    obtain rfl := Kinds.nil_ hk_v1
    exact T_conf_reader_end_1_eq C r3 right4g right4i right4c w

def T_conf_reader_end (r1 : Option Addr) (right2g : FuncId) (right2i : Array Value) (right2c : Array Value) (w : World) (R : Ending → World → Prop) : Prop :=
  T_conf_reader_end_1 r1 right2g right2i right2c w (fun b18 w19 => if b18 = true then (∃ a20, r1 = some a20 ∧ (.int .i64 4 : Value).cells.size = 1 ∧ wrOk w19 (a20.add 2) (.int .i64 4) ∧ let w21 : World := wr w19 (a20.add 2) (.int .i64 4)
  ∃ a22, r1 = some a22 ∧ ∃ x23 : Int, rd w21 (a22.add 2) (.int .i64 x23) ∧ R (.returned (.int .i64 x23)) w21) else (∃ a24, r1 = some a24 ∧ ∃ x25 : Int, rd w19 (a24.add 2) (.int .i64 x25) ∧ R (.returned (.int .i64 x25)) w19)) (pan R)

theorem T_conf_reader_end_hl : allP (hokL Tryz.prog (hookAt [(12, H_conf_reader_end_1)]) (bodyOf Tryz.f66) 1) = (UnitOk Tryz.prog H_conf_reader_end_1 (at_ (bodyOf Tryz.f66) [1, 0, 0]) 12 ∧ True) := by kernel_rfl

theorem T_conf_reader_end_eq (r1 : Option Addr) (right2g : FuncId) (right2i : Array Value) (right2c : Array Value) (w : World) (R : Ending → World → Prop) : vcCode Tryz.prog (hookAt [(12, H_conf_reader_end_1)]) (bodyOf Tryz.f66) 1 ⟨argEnv [.pointer r1, .func (.func right2g) right2i right2c] 0, Tryz.f66.ntmps, []⟩ w (finQ Tryz.prog Tryz.f66.results.toList R) = T_conf_reader_end r1 right2g right2i right2c w R := by kernel_rfl

theorem T_conf_reader_end_b : Tryz.f66.body = some (bodyOf Tryz.f66) := by kernel_rfl
theorem T_conf_reader_end_s : (quietSel (bodyOf Tryz.f66) && Nat.ble 2 Tryz.f66.ntmps) = true := by kernel_rfl

theorem C_conf_reader_end {r1 : Option Addr} {right2g : FuncId} {right2i : Array Value} {right2c : Array Value} {w : World} {R : Ending → World → Prop} (h : T_conf_reader_end r1 right2g right2i right2c w R) : Calls Tryz.prog 66 #[.pointer r1, .func (.func right2g) right2i right2c] w R :=
  calls_of_text (args := [.pointer r1, .func (.func right2g) right2i right2c]) mixed Tryz.func66 T_conf_reader_end_b T_conf_reader_end_s (HOk_of _ _ (by rw [T_conf_reader_end_hl]; exact ⟨T_conf_reader_end_1_ok, trivial⟩)) (by rw [T_conf_reader_end_eq]; exact h)

/-! tollgate/conf.GetCommand$1 -/
/-! (*tollgate/tollgateref08.scan).num -/
def T_ref08_scan_num (s1 : Option Addr) (most2 : Int) (w : World) (R : Ending → World → Prop) : Prop :=
  ∃ a3, s1 = some a3 ∧ ∃ x4 : Int, rd w (a3.add 2) (.int .i64 x4) ∧ if ((x4 : Int) != 0) = true then (R (.returned (.int .i64 0)) w) else (let w5 : World := w.drew
  ∃ a6, s1 = some a6 ∧ ∃ s7a : Option Addr, ∃ s7l : Nat, ∃ s7c : Nat, rd w5 a6 (.slice s7a s7l s7c) ∧ ∃ a8, s1 = some a8 ∧ ∃ x9 : Int, rd w5 (a8.add 1) (.int .i64 x9) ∧ Calls Tryz.prog 104 #[.slice s7a s7l s7c, .int .i64 x9] w5 (ret (fun r10 w11 => ∃ x12 : Int, ∃ x13 : Int, ∃ x14 : Int, r10 = .tuple #[.int .i64 x12, .int .i64 x13, .int .i64 x14] ∧ (True) ∧ if ((x14 : Int) != 0) = true then (∃ a15, s1 = some a15 ∧ (.int .i64 x14 : Value).cells.size = 1 ∧ wrOk w11 (a15.add 2) (.int .i64 x14) ∧ let w16 : World := wr w11 (a15.add 2) (.int .i64 x14)
  R (.returned (.int .i64 0)) w16) else (if (decide ((x12 : Int) > most2)) = true then (∃ a17, s1 = some a17 ∧ (.int .i64 6 : Value).cells.size = 1 ∧ wrOk w11 (a17.add 2) (.int .i64 6) ∧ let w18 : World := wr w11 (a17.add 2) (.int .i64 6)
  R (.returned (.int .i64 0)) w18) else (∃ a19, s1 = some a19 ∧ (.int .i64 x13 : Value).cells.size = 1 ∧ wrOk w11 (a19.add 1) (.int .i64 x13) ∧ let w20 : World := wr w11 (a19.add 1) (.int .i64 x13)
  R (.returned (.int .i64 x12)) w20))) (pan R)))

theorem T_ref08_scan_num_hl : allP (hokL Tryz.prog (hookAt []) (bodyOf Tryz.f68) 1) = (True) := by kernel_rfl

theorem T_ref08_scan_num_eq (s1 : Option Addr) (most2 : Int) (w : World) (R : Ending → World → Prop) : vcCode Tryz.prog (hookAt []) (bodyOf Tryz.f68) 1 ⟨argEnv [.pointer s1, .int .i64 most2] 0, Tryz.f68.ntmps, []⟩ w (finQ Tryz.prog Tryz.f68.results.toList R) = T_ref08_scan_num s1 most2 w R := by kernel_rfl

theorem T_ref08_scan_num_b : Tryz.f68.body = some (bodyOf Tryz.f68) := by kernel_rfl
theorem T_ref08_scan_num_s : (quietSel (bodyOf Tryz.f68) && Nat.ble 2 Tryz.f68.ntmps) = true := by kernel_rfl

theorem C_ref08_scan_num {s1 : Option Addr} {most2 : Int} {w : World} {R : Ending → World → Prop} (h : T_ref08_scan_num s1 most2 w R) : Calls Tryz.prog 68 #[.pointer s1, .int .i64 most2] w R :=
  calls_of_text (args := [.pointer s1, .int .i64 most2]) mixed Tryz.func68 T_ref08_scan_num_b T_ref08_scan_num_s (HOk_of _ _ (by rw [T_ref08_scan_num_hl]; exact trivial)) (by rw [T_ref08_scan_num_eq]; exact h)

/-! (*tollgate/tollgateref08.scan).text -/
def T_ref08_scan_text (s1 : Option Addr) (w : World) (R : Ending → World → Prop) : Prop :=
  Calls Tryz.prog 68 #[.pointer s1, .int .i64 128] w (ret (fun r2 w3 => ∃ x4 : Int, r2 = .int .i64 x4 ∧ Calls Tryz.prog 105 #[.pointer s1, .int .i64 x4] w3 (ret (fun r5 w6 => ∃ s7a : Option Addr, ∃ s7l : Nat, ∃ s7c : Nat, r5 = .slice s7a s7l s7c ∧ runV Tryz.prog (convert 56 9 (.slice s7a s7l s7c)) w6 (fun r8 w9 => ∃ s10 : ByteArray, r8 = .string s10 ∧ R (.returned (.string s10)) w9) (pan R)) (pan R))) (pan R))

theorem T_ref08_scan_text_hl : allP (hokL Tryz.prog (hookAt []) (bodyOf Tryz.f69) 1) = (True) := by kernel_rfl

theorem T_ref08_scan_text_eq (s1 : Option Addr) (w : World) (R : Ending → World → Prop) : vcCode Tryz.prog (hookAt []) (bodyOf Tryz.f69) 1 ⟨argEnv [.pointer s1] 0, Tryz.f69.ntmps, []⟩ w (finQ Tryz.prog Tryz.f69.results.toList R) = T_ref08_scan_text s1 w R := by kernel_rfl

theorem T_ref08_scan_text_b : Tryz.f69.body = some (bodyOf Tryz.f69) := by kernel_rfl
theorem T_ref08_scan_text_s : (quietSel (bodyOf Tryz.f69) && Nat.ble 1 Tryz.f69.ntmps) = true := by kernel_rfl

theorem C_ref08_scan_text {s1 : Option Addr} {w : World} {R : Ending → World → Prop} (h : T_ref08_scan_text s1 w R) : Calls Tryz.prog 69 #[.pointer s1] w R :=
  calls_of_text (args := [.pointer s1]) mixed Tryz.func69 T_ref08_scan_text_b T_ref08_scan_text_s (HOk_of _ _ (by rw [T_ref08_scan_text_hl]; exact trivial)) (by rw [T_ref08_scan_text_eq]; exact h)

/-! (*tollgate/tollgateref08.scan).targets -/
def T_ref08_scan_targets_2 (s10 : Option Addr) (n11 : Int) (i12 : Int) (w : World) (Kn : Bool → World → Prop) (Kp : List PanicEntry → World → Prop) : Prop :=
  if (decide ((i12 : Int) < n11)) = true then (∃ a13, s10 = some a13 ∧ ∃ x14 : Int, rd w (a13.add 2) (.int .i64 x14) ∧ Kn ((x14 : Int) == 0) w) else (Kn false w)

def T_ref08_scan_targets_2_outs : Exit → Option (List (Nat × Value)) := fun x => match x with | .normal => some [(22, .bool false)] | .panic _ => some [] | _ => none

def T_ref08_scan_targets_2_ks : Nat → Bool := ksOf [13, 14, 15, 16, 17, 18, 19, 20, 21, 22]

def H_ref08_scan_targets_2 : Env → World → QT → Prop := unitHook 51 T_ref08_scan_targets_2_ks [(0, .pointer none), (4, .int .i64 0), (5, .int .i64 0)] T_ref08_scan_targets_2_outs fun l w C => match l with | [v0, v1, v2] => T_ref08_scan_targets_2 (pPtr v0) (pInt v1) (pInt v2) w (fun b16 w => C .normal [.bool b16] w) (fun ch w => C (.panic ch) [] w) | _ => False

theorem T_ref08_scan_targets_2_hl : allP (hokL Tryz.prog (hookAt []) (at_ (bodyOf Tryz.f70) [1, 1, 1, 0, 1, 0, 0, 0, 0]) 976) = (True) := by kernel_rfl
theorem T_ref08_scan_targets_2_hok : HOk Tryz.prog (hookAt []) (at_ (bodyOf Tryz.f70) [1, 1, 1, 0, 1, 0, 0, 0, 0]) 976 := HOk_of _ _ (by rw [T_ref08_scan_targets_2_hl]; exact trivial)

theorem T_ref08_scan_targets_2_eq (C : Conts) (s10 : Option Addr) (n11 : Int) (i12 : Int) (w : World) : vcCode Tryz.prog (hookAt []) (at_ (bodyOf Tryz.f70) [1, 1, 1, 0, 1, 0, 0, 0, 0]) 976 ⟨[(0, .pointer s10), (4, .int .i64 n11), (5, .int .i64 i12)], 51, []⟩ w (unitQ T_ref08_scan_targets_2_outs C) = T_ref08_scan_targets_2 s10 n11 i12 w (fun b17 w => C .normal [.bool b17] w) (fun ch w => C (.panic ch) [] w) := by kernel_rfl

theorem T_ref08_scan_targets_2_ok : UnitOk Tryz.prog H_ref08_scan_targets_2 (at_ (bodyOf Tryz.f70) [1, 1, 1, 0, 1, 0, 0, 0, 0]) 976 := unit_ok (H := (hookAt [])) (by kernel_rfl) T_ref08_scan_targets_2_hok fun l w C hk => by
    obtain ⟨v0, l_v0, rfl, k_v0, hk_v0⟩ := Kinds.cons_ hk
    obtain ⟨s10, rfl⟩ := kind_pointer k_v0
    obtain ⟨v1, l_v1, rfl, k_v1, hk_v1⟩ := Kinds.cons_ hk_v0
    obtain ⟨n11, rfl⟩ := kind_int k_v1
    obtain ⟨v2, l_v2, rfl, k_v2, hk_v2⟩ := Kinds.cons_ hk_v1
    obtain ⟨i12, rfl⟩ := kind_int k_v2
    obtain rfl := Kinds.nil_ hk_v2
    exact T_ref08_scan_targets_2_eq C s10 n11 i12 w

def T_ref08_scan_targets_3_body (X : Int → Int → World → Prop) (bits26 : Int) (k27 : Int) (w28a : Option Addr) (w28l : Nat) (w28c : Nat) (w : World) (Kn : Int → World → Prop) (Kp : List PanicEntry → World → Prop)  : Prop :=
  if (decide ((k27 : Int) < ((w28l : Nat) : Int))) = true then (0 ≤ (k27 : Int) ∧ (k27 : Int) < ((w28l : Nat) : Int) ∧ ∃ b29, w28a = some b29 ∧ ∃ x30 : Int, rd w (b29.add ((k27 : Int).toNat * 1)) (.int .u8 x30) ∧ X (IntKind.wrap .u64 ((IntKind.wrap .u64 ((bits26 : Int) * 256) : Int) + (IntKind.wrap .u64 x30))) (IntKind.wrap .i64 ((k27 : Int) + 1)) w) else (Kn bits26 w)

def T_ref08_scan_targets_3 (bits26 : Int) (k27 : Int) (w28a : Option Addr) (w28l : Nat) (w28c : Nat) (w : World) (Kn : Int → World → Prop) (Kp : List PanicEntry → World → Prop) : Prop :=
  ∀ X : Int → Int → World → Prop, (∀ (bits26 : Int) (k27 : Int) (w : World), T_ref08_scan_targets_3_body X bits26 k27 w28a w28l w28c w Kn Kp → X bits26 k27 w) → X bits26 k27 w

def T_ref08_scan_targets_3_outs : Exit → Option (List (Nat × Value)) := fun x => match x with | .normal => some [(8, .int .u64 0)] | .panic _ => some [] | _ => none

def T_ref08_scan_targets_3_ks : Nat → Bool := ksOf [8, 9, 29, 30, 31, 32, 33, 34, 35, 36, 37, 38, 39, 40, 41, 42]

def H_ref08_scan_targets_3 : Env → World → QT → Prop := unitHook 51 T_ref08_scan_targets_3_ks [(8, .int .u64 0), (9, .int .i64 0), (7, .slice none 0 0)] T_ref08_scan_targets_3_outs fun l w C => match l with | [v0, v1, v2] => T_ref08_scan_targets_3 (pInt v0) (pInt v1) (pA v2) (pL v2) (pC v2) w (fun bits32 w => C .normal [.int .u64 bits32] w) (fun ch w => C (.panic ch) [] w) | _ => False

theorem T_ref08_scan_targets_3_hl : allP (hokL Tryz.prog (hookAt []) (at_ (bodyOf Tryz.f70) [1, 1, 1, 0, 1, 0, 0, 1, 0, 0, 1, 1, 1, 0, 1, 0, 0]) 250484) = (True) := by kernel_rfl
theorem T_ref08_scan_targets_3_hok : HOk Tryz.prog (hookAt []) (at_ (bodyOf Tryz.f70) [1, 1, 1, 0, 1, 0, 0, 1, 0, 0, 1, 1, 1, 0, 1, 0, 0]) 250484 := HOk_of _ _ (by rw [T_ref08_scan_targets_3_hl]; exact trivial)

theorem T_ref08_scan_targets_3_eq (C : Conts) (X : List Value → World → Prop) (bits26 : Int) (k27 : Int) (w28a : Option Addr) (w28l : Nat) (w28c : Nat) (w : World) : vcCode Tryz.prog (hookAt []) (at_ (bodyOf Tryz.f70) [1, 1, 1, 0, 1, 0, 0, 1, 0, 0, 1, 1, 1, 0, 1, 0, 0]) 250484 ⟨[(8, .int .u64 bits26), (9, .int .i64 k27)] ++ [(7, .slice w28a w28l w28c)], 51, []⟩ w (seqQ (fun e w => takeAll e [(8, .int .u64 0), (9, .int .i64 0)] fun l => X l w) (blockQ 2 (unitQ T_ref08_scan_targets_3_outs C))) = T_ref08_scan_targets_3_body (fun bits26 k27 w => X [.int .u64 bits26, .int .i64 k27] w) bits26 k27 w28a w28l w28c w (fun bits33 w => C .normal [.int .u64 bits33] w) (fun ch w => C (.panic ch) [] w) := by kernel_rfl

theorem T_ref08_scan_targets_3_ok : UnitOk Tryz.prog H_ref08_scan_targets_3 (at_ (bodyOf Tryz.f70) [1, 1, 1, 0, 1, 0, 0, 1, 0, 0, 1, 1, 1, 0, 1]) 62621 := by
  have hc : at_ (bodyOf Tryz.f70) [1, 1, 1, 0, 1, 0, 0, 1, 0, 0, 1, 1, 1, 0, 1] = .block 2 (.loop (at_ (bodyOf Tryz.f70) [1, 1, 1, 0, 1, 0, 0, 1, 0, 0, 1, 1, 1, 0, 1, 0, 0])) := by kernel_rfl
  rw [hc]
  refine loop_unit_ok (carr := [(8, .int .u64 0), (9, .int .i64 0)]) (fix := [(7, .slice none 0 0)]) (ks := T_ref08_scan_targets_3_ks) (H := (hookAt [])) (B := fun C X l u w => match l, u with | [v0, v1], [v2] => T_ref08_scan_targets_3_body (fun bits26 k27 w => X [.int .u64 bits26, .int .i64 k27] w) (pInt v0) (pInt v1) (pA v2) (pL v2) (pC v2) w (fun bits34 w => C .normal [.int .u64 bits34] w) (fun ch w => C (.panic ch) [] w) | _, _ => False) (by kernel_rfl) (by kernel_rfl) T_ref08_scan_targets_3_hok ?_ ?_
  · intro C X l u w hl hu
    obtain ⟨v0, l_v0, rfl, k_v0, hl_v0⟩ := Kinds.cons_ hl
    obtain ⟨bits26, rfl⟩ := kind_int k_v0
    obtain ⟨v1, l_v1, rfl, k_v1, hl_v1⟩ := Kinds.cons_ hl_v0
    obtain ⟨k27, rfl⟩ := kind_int k_v1
    obtain rfl := Kinds.nil_ hl_v1
    obtain ⟨v2, l_v2, rfl, k_v2, hu_v2⟩ := Kinds.cons_ hu
    obtain ⟨w28a, w28l, w28c, rfl⟩ := kind_slice k_v2
    obtain rfl := Kinds.nil_ hu_v2
    exact T_ref08_scan_targets_3_eq C X bits26 k27 w28a w28l w28c w
  · intro l u w C hl hu
    obtain ⟨v0, l_v0, rfl, k_v0, hl_v0⟩ := Kinds.cons_ hl
    obtain ⟨bits26, rfl⟩ := kind_int k_v0
    obtain ⟨v1, l_v1, rfl, k_v1, hl_v1⟩ := Kinds.cons_ hl_v0
    obtain ⟨k27, rfl⟩ := kind_int k_v1
    obtain rfl := Kinds.nil_ hl_v1
    obtain ⟨v2, l_v2, rfl, k_v2, hu_v2⟩ := Kinds.cons_ hu
    obtain ⟨w28a, w28l, w28c, rfl⟩ := kind_slice k_v2
    obtain rfl := Kinds.nil_ hu_v2
    constructor
    · intro h X hX
      exact h (fun bits26 k27 w => X [.int .u64 bits26, .int .i64 k27] w) (fun bits26 k27 w hb => hX [.int .u64 bits26, .int .i64 k27] w ⟨rfl, rfl, trivial⟩ hb)
    · intro h X hX
      exact h (fun l w => match l with | [v0, v1] => X (pInt v0) (pInt v1) w | _ => True) (fun l w hl hb => by
        obtain ⟨v0, l_v0, rfl, k_v0, hl_v0⟩ := Kinds.cons_ hl
        obtain ⟨bits26, rfl⟩ := kind_int k_v0
        obtain ⟨v1, l_v1, rfl, k_v1, hl_v1⟩ := Kinds.cons_ hl_v0
        obtain ⟨k27, rfl⟩ := kind_int k_v1
        obtain rfl := Kinds.nil_ hl_v1
        exact hX bits26 k27 w hb)

def T_ref08_scan_targets_1_body (X : Option Addr → Nat → Nat → Int → World → Prop) (out6a : Option Addr) (out6l : Nat) (out6c : Nat) (i7 : Int) (s8 : Option Addr) (n9 : Int) (w : World) (Kn : Option Addr → Nat → Nat → World → Prop) (Kp : List PanicEntry → World → Prop)  : Prop :=
  T_ref08_scan_targets_2 s8 n9 i7 w (fun b18 w19 => if b18 = true then (Calls Tryz.prog 69 #[.pointer s8] w19 (ret (fun r20 w21 => ∃ s22 : ByteArray, r20 = .string s22 ∧ Calls Tryz.prog 105 #[.pointer s8, .int .i64 8] w21 (ret (fun r23 w24 => ∃ s25a : Option Addr, ∃ s25l : Nat, ∃ s25c : Nat, r23 = .slice s25a s25l s25c ∧ T_ref08_scan_targets_3 0 0 s25a s25l s25c w24 (fun bits35 w36 => runV Tryz.prog (callFunc 106 #[.int .u64 bits35]) w36 (nxv (fun r37 w38 => ∃ f39 : Nat, r37 = .float .f64 f39 ∧ let w40 : World := w38.alloc (.cells #[.string s22, .float .f64 f39] 64)
  runV Tryz.prog (Builtin.append_ #[32, 32] 32 #[.slice out6a out6l out6c, .slice (some (⟨w38.heap.size, 0, none⟩ : Addr)) 1 1]) w40 (fun r41 w42 => ∃ s43a : Option Addr, ∃ s43l : Nat, ∃ s43c : Nat, r41 = .slice s43a s43l s43c ∧ X s43a s43l s43c (IntKind.wrap .i64 ((i7 : Int) + 1)) w42) Kp)) Kp) Kp) Kp)) Kp)) else (Kn out6a out6l out6c w19)) Kp

def T_ref08_scan_targets_1 (out6a : Option Addr) (out6l : Nat) (out6c : Nat) (i7 : Int) (s8 : Option Addr) (n9 : Int) (w : World) (Kn : Option Addr → Nat → Nat → World → Prop) (Kp : List PanicEntry → World → Prop) : Prop :=
  ∀ X : Option Addr → Nat → Nat → Int → World → Prop, (∀ (out6a : Option Addr) (out6l : Nat) (out6c : Nat) (i7 : Int) (w : World), T_ref08_scan_targets_1_body X out6a out6l out6c i7 s8 n9 w Kn Kp → X out6a out6l out6c i7 w) → X out6a out6l out6c i7 w

def T_ref08_scan_targets_1_outs : Exit → Option (List (Nat × Value)) := fun x => match x with | .normal => some [(3, .slice none 0 0)] | .panic _ => some [] | _ => none

def T_ref08_scan_targets_1_ks : Nat → Bool := ksOf [3, 5, 6, 7, 8, 9, 13, 14, 15, 16, 17, 18, 19, 20, 21, 22, 23, 24, 25, 26, 27, 28, 29, 30, 31, 32, 33, 34, 35, 36, 37, 38, 39, 40, 41, 42, 43, 44, 45, 46, 47, 48, 49]

def H_ref08_scan_targets_1 : Env → World → QT → Prop := unitHook 51 T_ref08_scan_targets_1_ks [(3, .slice none 0 0), (5, .int .i64 0), (0, .pointer none), (4, .int .i64 0)] T_ref08_scan_targets_1_outs fun l w C => match l with | [v0, v1, v2, v3] => T_ref08_scan_targets_1 (pA v0) (pL v0) (pC v0) (pInt v1) (pPtr v2) (pInt v3) w (fun out45a out45l out45c w => C .normal [.slice out45a out45l out45c] w) (fun ch w => C (.panic ch) [] w) | _ => False

theorem T_ref08_scan_targets_1_hl : allP (hokL Tryz.prog (hookAt [(976, H_ref08_scan_targets_2), (62621, H_ref08_scan_targets_3)]) (at_ (bodyOf Tryz.f70) [1, 1, 1, 0, 1, 0, 0]) 244) = (UnitOk Tryz.prog H_ref08_scan_targets_2 (at_ (bodyOf Tryz.f70) [1, 1, 1, 0, 1, 0, 0, 0, 0]) 976 ∧ UnitOk Tryz.prog H_ref08_scan_targets_3 (at_ (bodyOf Tryz.f70) [1, 1, 1, 0, 1, 0, 0, 1, 0, 0, 1, 1, 1, 0, 1]) 62621 ∧ True) := by kernel_rfl
theorem T_ref08_scan_targets_1_hok : HOk Tryz.prog (hookAt [(976, H_ref08_scan_targets_2), (62621, H_ref08_scan_targets_3)]) (at_ (bodyOf Tryz.f70) [1, 1, 1, 0, 1, 0, 0]) 244 := HOk_of _ _ (by rw [T_ref08_scan_targets_1_hl]; exact ⟨T_ref08_scan_targets_2_ok, T_ref08_scan_targets_3_ok, trivial⟩)

theorem T_ref08_scan_targets_1_eq (C : Conts) (X : List Value → World → Prop) (out6a : Option Addr) (out6l : Nat) (out6c : Nat) (i7 : Int) (s8 : Option Addr) (n9 : Int) (w : World) : vcCode Tryz.prog (hookAt [(976, H_ref08_scan_targets_2), (62621, H_ref08_scan_targets_3)]) (at_ (bodyOf Tryz.f70) [1, 1, 1, 0, 1, 0, 0]) 244 ⟨[(3, .slice out6a out6l out6c), (5, .int .i64 i7)] ++ [(0, .pointer s8), (4, .int .i64 n9)], 51, []⟩ w (seqQ (fun e w => takeAll e [(3, .slice none 0 0), (5, .int .i64 0)] fun l => X l w) (blockQ 0 (unitQ T_ref08_scan_targets_1_outs C))) = T_ref08_scan_targets_1_body (fun out6a out6l out6c i7 w => X [.slice out6a out6l out6c, .int .i64 i7] w) out6a out6l out6c i7 s8 n9 w (fun out46a out46l out46c w => C .normal [.slice out46a out46l out46c] w) (fun ch w => C (.panic ch) [] w) := by kernel_rfl

theorem T_ref08_scan_targets_1_ok : UnitOk Tryz.prog H_ref08_scan_targets_1 (at_ (bodyOf Tryz.f70) [1, 1, 1, 0, 1]) 61 := by
  have hc : at_ (bodyOf Tryz.f70) [1, 1, 1, 0, 1] = .block 0 (.loop (at_ (bodyOf Tryz.f70) [1, 1, 1, 0, 1, 0, 0])) := by kernel_rfl
  rw [hc]
  refine loop_unit_ok (carr := [(3, .slice none 0 0), (5, .int .i64 0)]) (fix := [(0, .pointer none), (4, .int .i64 0)]) (ks := T_ref08_scan_targets_1_ks) (H := (hookAt [(976, H_ref08_scan_targets_2), (62621, H_ref08_scan_targets_3)])) (B := fun C X l u w => match l, u with | [v0, v1], [v2, v3] => T_ref08_scan_targets_1_body (fun out6a out6l out6c i7 w => X [.slice out6a out6l out6c, .int .i64 i7] w) (pA v0) (pL v0) (pC v0) (pInt v1) (pPtr v2) (pInt v3) w (fun out47a out47l out47c w => C .normal [.slice out47a out47l out47c] w) (fun ch w => C (.panic ch) [] w) | _, _ => False) (by kernel_rfl) (by kernel_rfl) T_ref08_scan_targets_1_hok ?_ ?_
  · intro C X l u w hl hu
    obtain ⟨v0, l_v0, rfl, k_v0, hl_v0⟩ := Kinds.cons_ hl
    obtain ⟨out6a, out6l, out6c, rfl⟩ := kind_slice k_v0
    obtain ⟨v1, l_v1, rfl, k_v1, hl_v1⟩ := Kinds.cons_ hl_v0
    obtain ⟨i7, rfl⟩ := kind_int k_v1
    obtain rfl := Kinds.nil_ hl_v1
    obtain ⟨v2, l_v2, rfl, k_v2, hu_v2⟩ := Kinds.cons_ hu
    obtain ⟨s8, rfl⟩ := kind_pointer k_v2
    obtain ⟨v3, l_v3, rfl, k_v3, hu_v3⟩ := Kinds.cons_ hu_v2
    obtain ⟨n9, rfl⟩ := kind_int k_v3
    obtain rfl := Kinds.nil_ hu_v3
    exact T_ref08_scan_targets_1_eq C X out6a out6l out6c i7 s8 n9 w
  · intro l u w C hl hu
    obtain ⟨v0, l_v0, rfl, k_v0, hl_v0⟩ := Kinds.cons_ hl
    obtain ⟨out6a, out6l, out6c, rfl⟩ := kind_slice k_v0
    obtain ⟨v1, l_v1, rfl, k_v1, hl_v1⟩ := Kinds.cons_ hl_v0
    obtain ⟨i7, rfl⟩ := kind_int k_v1
    obtain rfl := Kinds.nil_ hl_v1
    obtain ⟨v2, l_v2, rfl, k_v2, hu_v2⟩ := Kinds.cons_ hu
    obtain ⟨s8, rfl⟩ := kind_pointer k_v2
    obtain ⟨v3, l_v3, rfl, k_v3, hu_v3⟩ := Kinds.cons_ hu_v2
    obtain ⟨n9, rfl⟩ := kind_int k_v3
    obtain rfl := Kinds.nil_ hu_v3
    constructor
    · intro h X hX
      exact h (fun out6a out6l out6c i7 w => X [.slice out6a out6l out6c, .int .i64 i7] w) (fun out6a out6l out6c i7 w hb => hX [.slice out6a out6l out6c, .int .i64 i7] w ⟨rfl, rfl, trivial⟩ hb)
    · intro h X hX
      exact h (fun l w => match l with | [v0, v1] => X (pA v0) (pL v0) (pC v0) (pInt v1) w | _ => True) (fun l w hl hb => by
        obtain ⟨v0, l_v0, rfl, k_v0, hl_v0⟩ := Kinds.cons_ hl
        obtain ⟨out6a, out6l, out6c, rfl⟩ := kind_slice k_v0
        obtain ⟨v1, l_v1, rfl, k_v1, hl_v1⟩ := Kinds.cons_ hl_v0
        obtain ⟨i7, rfl⟩ := kind_int k_v1
        obtain rfl := Kinds.nil_ hl_v1
        exact hX out6a out6l out6c i7 w hb)

def T_ref08_scan_targets (s1 : Option Addr) (w : World) (R : Ending → World → Prop) : Prop :=
  let w2 : World := w.alloc (.cells #[] 64)
  Calls Tryz.prog 68 #[.pointer s1, .int .i64 16] w2 (ret (fun r3 w4 => ∃ x5 : Int, r3 = .int .i64 x5 ∧ T_ref08_scan_targets_1 (some (⟨w.heap.size, 0, none⟩ : Addr)) 0 0 0 s1 x5 w4 (fun out48a out48l out48c w49 => R (.returned (.slice out48a out48l out48c)) w49) (pan R)) (pan R))

theorem T_ref08_scan_targets_hl : allP (hokL Tryz.prog (hookAt [(61, H_ref08_scan_targets_1)]) (bodyOf Tryz.f70) 1) = (UnitOk Tryz.prog H_ref08_scan_targets_1 (at_ (bodyOf Tryz.f70) [1, 1, 1, 0, 1]) 61 ∧ True) := by kernel_rfl

theorem T_ref08_scan_targets_eq (s1 : Option Addr) (w : World) (R : Ending → World → Prop) : vcCode Tryz.prog (hookAt [(61, H_ref08_scan_targets_1)]) (bodyOf Tryz.f70) 1 ⟨argEnv [.pointer s1] 0, Tryz.f70.ntmps, []⟩ w (finQ Tryz.prog Tryz.f70.results.toList R) = T_ref08_scan_targets s1 w R := by kernel_rfl

theorem T_ref08_scan_targets_b : Tryz.f70.body = some (bodyOf Tryz.f70) := by kernel_rfl
theorem T_ref08_scan_targets_s : (quietSel (bodyOf Tryz.f70) && Nat.ble 1 Tryz.f70.ntmps) = true := by kernel_rfl

theorem C_ref08_scan_targets {s1 : Option Addr} {w : World} {R : Ending → World → Prop} (h : T_ref08_scan_targets s1 w R) : Calls Tryz.prog 70 #[.pointer s1] w R :=
  calls_of_text (args := [.pointer s1]) mixed Tryz.func70 T_ref08_scan_targets_b T_ref08_scan_targets_s (HOk_of _ _ (by rw [T_ref08_scan_targets_hl]; exact ⟨T_ref08_scan_targets_1_ok, trivial⟩)) (by rw [T_ref08_scan_targets_eq]; exact h)

/-! tollgate/wire.TakeNumber -/
def T_wire_TakeNumber_1 (b3a : Option Addr) (b3l : Nat) (b3c : Nat) (at4 : Int) (w : World) (Kn : Bool → World → Prop) (Kp : List PanicEntry → World → Prop) : Prop :=
  if (decide ((at4 : Int) < 0)) = true then (Kn true w) else (Kn (decide ((at4 : Int) > ((b3l : Nat) : Int))) w)

def T_wire_TakeNumber_1_outs : Exit → Option (List (Nat × Value)) := fun x => match x with | .normal => some [(17, .bool false)] | .panic _ => some [] | _ => none

def T_wire_TakeNumber_1_ks : Nat → Bool := ksOf [10, 11, 12, 13, 14, 15, 16, 17]

def H_wire_TakeNumber_1 : Env → World → QT → Prop := unitHook 58 T_wire_TakeNumber_1_ks [(0, .slice none 0 0), (1, .int .i64 0)] T_wire_TakeNumber_1_outs fun l w C => match l with | [v0, v1] => T_wire_TakeNumber_1 (pA v0) (pL v0) (pC v0) (pInt v1) w (fun b6 w => C .normal [.bool b6] w) (fun ch w => C (.panic ch) [] w) | _ => False

theorem T_wire_TakeNumber_1_hl : allP (hokL Tryz.prog (hookAt []) (at_ (turnB 0 900001 900002 (bodyOf Tryz.f101)) [1, 0, 0]) 12) = (True) := by kernel_rfl
theorem T_wire_TakeNumber_1_hok : HOk Tryz.prog (hookAt []) (at_ (turnB 0 900001 900002 (bodyOf Tryz.f101)) [1, 0, 0]) 12 := HOk_of _ _ (by rw [T_wire_TakeNumber_1_hl]; exact trivial)

theorem T_wire_TakeNumber_1_eq (C : Conts) (b3a : Option Addr) (b3l : Nat) (b3c : Nat) (at4 : Int) (w : World) : vcCode Tryz.prog (hookAt []) (at_ (turnB 0 900001 900002 (bodyOf Tryz.f101)) [1, 0, 0]) 12 ⟨[(0, .slice b3a b3l b3c), (1, .int .i64 at4)], 58, []⟩ w (unitQ T_wire_TakeNumber_1_outs C) = T_wire_TakeNumber_1 b3a b3l b3c at4 w (fun b7 w => C .normal [.bool b7] w) (fun ch w => C (.panic ch) [] w) := by kernel_rfl

theorem T_wire_TakeNumber_1_ok : UnitOk Tryz.prog H_wire_TakeNumber_1 (at_ (turnB 0 900001 900002 (bodyOf Tryz.f101)) [1, 0, 0]) 12 := unit_ok (H := (hookAt [])) (by kernel_rfl) T_wire_TakeNumber_1_hok fun l w C hk => by
    obtain ⟨v0, l_v0, rfl, k_v0, hk_v0⟩ := Kinds.cons_ hk
    obtain ⟨b3a, b3l, b3c, rfl⟩ := kind_slice k_v0
    obtain ⟨v1, l_v1, rfl, k_v1, hk_v1⟩ := Kinds.cons_ hk_v0
    obtain ⟨at4, rfl⟩ := kind_int k_v1
    obtain rfl := Kinds.nil_ hk_v1
    exact T_wire_TakeNumber_1_eq C b3a b3l b3c at4 w

def T_wire_TakeNumber_3 (k19 : Int) (c20 : Int) (w : World) (Kn : Bool → World → Prop) (Kp : List PanicEntry → World → Prop) : Prop :=
  if ((c20 : Int) == 0) = true then (Kn (decide ((k19 : Int) > 1)) w) else (Kn false w)

def T_wire_TakeNumber_3_outs : Exit → Option (List (Nat × Value)) := fun x => match x with | .normal => some [(44, .bool false)] | .panic _ => some [] | _ => none

def T_wire_TakeNumber_3_ks : Nat → Bool := ksOf [44, 45, 46, 47, 48, 49, 50]

def H_wire_TakeNumber_3 : Env → World → QT → Prop := unitHook 58 T_wire_TakeNumber_3_ks [(8, .int .i64 0), (9, .int .i64 0)] T_wire_TakeNumber_3_outs fun l w C => match l with | [v0, v1] => T_wire_TakeNumber_3 (pInt v0) (pInt v1) w (fun b22 w => C .normal [.bool b22] w) (fun ch w => C (.panic ch) [] w) | _ => False

theorem T_wire_TakeNumber_3_hl : allP (hokL Tryz.prog (hookAt []) (at_ (turnB 0 900001 900002 (bodyOf Tryz.f101)) [1, 1, 1, 0, 0, 0, 0, 1, 1, 1, 1, 1, 0, 0, 0]) 61688) = (True) := by kernel_rfl
theorem T_wire_TakeNumber_3_hok : HOk Tryz.prog (hookAt []) (at_ (turnB 0 900001 900002 (bodyOf Tryz.f101)) [1, 1, 1, 0, 0, 0, 0, 1, 1, 1, 1, 1, 0, 0, 0]) 61688 := HOk_of _ _ (by rw [T_wire_TakeNumber_3_hl]; exact trivial)

theorem T_wire_TakeNumber_3_eq (C : Conts) (k19 : Int) (c20 : Int) (w : World) : vcCode Tryz.prog (hookAt []) (at_ (turnB 0 900001 900002 (bodyOf Tryz.f101)) [1, 1, 1, 0, 0, 0, 0, 1, 1, 1, 1, 1, 0, 0, 0]) 61688 ⟨[(8, .int .i64 k19), (9, .int .i64 c20)], 58, []⟩ w (unitQ T_wire_TakeNumber_3_outs C) = T_wire_TakeNumber_3 k19 c20 w (fun b23 w => C .normal [.bool b23] w) (fun ch w => C (.panic ch) [] w) := by kernel_rfl

theorem T_wire_TakeNumber_3_ok : UnitOk Tryz.prog H_wire_TakeNumber_3 (at_ (turnB 0 900001 900002 (bodyOf Tryz.f101)) [1, 1, 1, 0, 0, 0, 0, 1, 1, 1, 1, 1, 0, 0, 0]) 61688 := unit_ok (H := (hookAt [])) (by kernel_rfl) T_wire_TakeNumber_3_hok fun l w C hk => by
    obtain ⟨v0, l_v0, rfl, k_v0, hk_v0⟩ := Kinds.cons_ hk
    obtain ⟨k19, rfl⟩ := kind_int k_v0
    obtain ⟨v1, l_v1, rfl, k_v1, hk_v1⟩ := Kinds.cons_ hk_v0
    obtain ⟨c20, rfl⟩ := kind_int k_v1
    obtain rfl := Kinds.nil_ hk_v1
    exact T_wire_TakeNumber_3_eq C k19 c20 w

def T_wire_TakeNumber_2_body (X : Int → Int → World → Prop) (n10 : Int) (k11 : Int) (b12a : Option Addr) (b12l : Nat) (b12c : Nat) (at13 : Int) (w : World) (Kr : Int → Int → Int → World → Prop) (Kp : List PanicEntry → World → Prop)  : Prop :=
  if ((IntKind.wrap .i64 ((at13 : Int) + k11) : Int) == ((b12l : Nat) : Int)) = true then (Kr 0 0 3 w) else (0 ≤ (IntKind.wrap .i64 ((at13 : Int) + k11) : Int) ∧ (IntKind.wrap .i64 ((at13 : Int) + k11) : Int) < ((b12l : Nat) : Int) ∧ ∃ b14, b12a = some b14 ∧ ∃ x15 : Int, rd w (b14.add ((IntKind.wrap .i64 ((at13 : Int) + k11) : Int).toNat * 1)) (.int .u8 x15) ∧ runV Tryz.prog (do eqGuard .shl 3 (.tmp 33) (.tmp 35) (.int .i64 (IntKind.wrap .i64 ((BitVec.ofInt (IntKind.bits .i64) (IntKind.wrap .i64 x15)) &&& (BitVec.ofInt (IntKind.bits .i64) 127)).toNat)) (.int .i64 (IntKind.wrap .i64 ((7 : Int) * k11))); binOp .shl 3 (.int .i64 (IntKind.wrap .i64 ((BitVec.ofInt (IntKind.bits .i64) (IntKind.wrap .i64 x15)) &&& (BitVec.ofInt (IntKind.bits .i64) 127)).toNat)) (.int .i64 (IntKind.wrap .i64 ((7 : Int) * k11)))) w (fun r16 w17 => ∃ x18 : Int, r16 = .int .i64 x18 ∧ if (decide ((IntKind.wrap .i64 x15 : Int) ≥ 128)) = true then (if ((IntKind.wrap .i64 ((k11 : Int) + 1) : Int) == 6) = true then (Kr 0 0 6 w17) else (X (IntKind.wrap .i64 ((BitVec.ofInt (IntKind.bits .i64) n10) ||| (BitVec.ofInt (IntKind.bits .i64) x18)).toNat) (IntKind.wrap .i64 ((k11 : Int) + 1)) w17)) else (T_wire_TakeNumber_3 (IntKind.wrap .i64 ((k11 : Int) + 1)) (IntKind.wrap .i64 x15) w17 (fun b24 w25 => if b24 = true then (Kr 0 0 4 w25) else (if (decide ((IntKind.wrap .i64 ((BitVec.ofInt (IntKind.bits .i64) n10) ||| (BitVec.ofInt (IntKind.bits .i64) x18)).toNat : Int) > 1099511627776)) = true then (Kr 0 0 6 w25) else (Kr (IntKind.wrap .i64 ((BitVec.ofInt (IntKind.bits .i64) n10) ||| (BitVec.ofInt (IntKind.bits .i64) x18)).toNat) (IntKind.wrap .i64 ((at13 : Int) + (IntKind.wrap .i64 ((k11 : Int) + 1)))) 0 w25))) Kp)) Kp)

def T_wire_TakeNumber_2 (n10 : Int) (k11 : Int) (b12a : Option Addr) (b12l : Nat) (b12c : Nat) (at13 : Int) (w : World) (Kr : Int → Int → Int → World → Prop) (Kp : List PanicEntry → World → Prop) : Prop :=
  ∀ X : Int → Int → World → Prop, (∀ (n10 : Int) (k11 : Int) (w : World), T_wire_TakeNumber_2_body X n10 k11 b12a b12l b12c at13 w Kr Kp → X n10 k11 w) → X n10 k11 w

def T_wire_TakeNumber_2_outs : Exit → Option (List (Nat × Value)) := fun x => match x with | .ret => some [(4, .int .i64 0), (5, .int .i64 0), (6, .int .i64 0)] | .panic _ => some [] | _ => none

def T_wire_TakeNumber_2_ks : Nat → Bool := ksOf [4, 5, 6, 7, 8, 9, 18, 19, 20, 21, 22, 23, 24, 25, 26, 27, 28, 29, 30, 31, 32, 33, 34, 35, 36, 37, 38, 39, 40, 41, 42, 43, 44, 45, 46, 47, 48, 49, 50, 51, 52, 53, 54, 55, 56, 57]

def H_wire_TakeNumber_2 : Env → World → QT → Prop := unitHook 58 T_wire_TakeNumber_2_ks [(7, .int .i64 0), (8, .int .i64 0), (0, .slice none 0 0), (1, .int .i64 0)] T_wire_TakeNumber_2_outs fun l w C => match l with | [v0, v1, v2, v3] => T_wire_TakeNumber_2 (pInt v0) (pInt v1) (pA v2) (pL v2) (pC v2) (pInt v3) w (fun x29 x30 x31 w => C .ret [.int .i64 x29, .int .i64 x30, .int .i64 x31] w) (fun ch w => C (.panic ch) [] w) | _ => False

theorem T_wire_TakeNumber_2_hl : allP (hokL Tryz.prog (hookAt [(61688, H_wire_TakeNumber_3)]) (at_ (turnB 0 900001 900002 (bodyOf Tryz.f101)) [1, 1, 1, 0, 0]) 60) = (UnitOk Tryz.prog H_wire_TakeNumber_3 (at_ (turnB 0 900001 900002 (bodyOf Tryz.f101)) [1, 1, 1, 0, 0, 0, 0, 1, 1, 1, 1, 1, 0, 0, 0]) 61688 ∧ True) := by kernel_rfl
theorem T_wire_TakeNumber_2_hok : HOk Tryz.prog (hookAt [(61688, H_wire_TakeNumber_3)]) (at_ (turnB 0 900001 900002 (bodyOf Tryz.f101)) [1, 1, 1, 0, 0]) 60 := HOk_of _ _ (by rw [T_wire_TakeNumber_2_hl]; exact ⟨T_wire_TakeNumber_3_ok, trivial⟩)

theorem T_wire_TakeNumber_2_eq (C : Conts) (X : List Value → World → Prop) (n10 : Int) (k11 : Int) (b12a : Option Addr) (b12l : Nat) (b12c : Nat) (at13 : Int) (w : World) : vcCode Tryz.prog (hookAt [(61688, H_wire_TakeNumber_3)]) (at_ (turnB 0 900001 900002 (bodyOf Tryz.f101)) [1, 1, 1, 0, 0]) 60 ⟨[(7, .int .i64 n10), (8, .int .i64 k11)] ++ [(0, .slice b12a b12l b12c), (1, .int .i64 at13)], 58, []⟩ w (seqQ (fun e w => takeAll e [(7, .int .i64 0), (8, .int .i64 0)] fun l => X l w) (blockQ 900002 (unitQ T_wire_TakeNumber_2_outs C))) = T_wire_TakeNumber_2_body (fun n10 k11 w => X [.int .i64 n10, .int .i64 k11] w) n10 k11 b12a b12l b12c at13 w (fun x32 x33 x34 w => C .ret [.int .i64 x32, .int .i64 x33, .int .i64 x34] w) (fun ch w => C (.panic ch) [] w) := by kernel_rfl

theorem T_wire_TakeNumber_2_ok : UnitOk Tryz.prog H_wire_TakeNumber_2 (at_ (turnB 0 900001 900002 (bodyOf Tryz.f101)) [1, 1, 1]) 15 := by
  have hc : at_ (turnB 0 900001 900002 (bodyOf Tryz.f101)) [1, 1, 1] = .block 900002 (.loop (at_ (turnB 0 900001 900002 (bodyOf Tryz.f101)) [1, 1, 1, 0, 0])) := by kernel_rfl
  rw [hc]
  refine loop_unit_ok (carr := [(7, .int .i64 0), (8, .int .i64 0)]) (fix := [(0, .slice none 0 0), (1, .int .i64 0)]) (ks := T_wire_TakeNumber_2_ks) (H := (hookAt [(61688, H_wire_TakeNumber_3)])) (B := fun C X l u w => match l, u with | [v0, v1], [v2, v3] => T_wire_TakeNumber_2_body (fun n10 k11 w => X [.int .i64 n10, .int .i64 k11] w) (pInt v0) (pInt v1) (pA v2) (pL v2) (pC v2) (pInt v3) w (fun x35 x36 x37 w => C .ret [.int .i64 x35, .int .i64 x36, .int .i64 x37] w) (fun ch w => C (.panic ch) [] w) | _, _ => False) (by kernel_rfl) (by kernel_rfl) T_wire_TakeNumber_2_hok ?_ ?_
  · intro C X l u w hl hu
    obtain ⟨v0, l_v0, rfl, k_v0, hl_v0⟩ := Kinds.cons_ hl
    obtain ⟨n10, rfl⟩ := kind_int k_v0
    obtain ⟨v1, l_v1, rfl, k_v1, hl_v1⟩ := Kinds.cons_ hl_v0
    obtain ⟨k11, rfl⟩ := kind_int k_v1
    obtain rfl := Kinds.nil_ hl_v1
    obtain ⟨v2, l_v2, rfl, k_v2, hu_v2⟩ := Kinds.cons_ hu
    obtain ⟨b12a, b12l, b12c, rfl⟩ := kind_slice k_v2
    obtain ⟨v3, l_v3, rfl, k_v3, hu_v3⟩ := Kinds.cons_ hu_v2
    obtain ⟨at13, rfl⟩ := kind_int k_v3
    obtain rfl := Kinds.nil_ hu_v3
    exact T_wire_TakeNumber_2_eq C X n10 k11 b12a b12l b12c at13 w
  · intro l u w C hl hu
    obtain ⟨v0, l_v0, rfl, k_v0, hl_v0⟩ := Kinds.cons_ hl
    obtain ⟨n10, rfl⟩ := kind_int k_v0
    obtain ⟨v1, l_v1, rfl, k_v1, hl_v1⟩ := Kinds.cons_ hl_v0
    obtain ⟨k11, rfl⟩ := kind_int k_v1
    obtain rfl := Kinds.nil_ hl_v1
    obtain ⟨v2, l_v2, rfl, k_v2, hu_v2⟩ := Kinds.cons_ hu
    obtain ⟨b12a, b12l, b12c, rfl⟩ := kind_slice k_v2
    obtain ⟨v3, l_v3, rfl, k_v3, hu_v3⟩ := Kinds.cons_ hu_v2
    obtain ⟨at13, rfl⟩ := kind_int k_v3
    obtain rfl := Kinds.nil_ hu_v3
    constructor
    · intro h X hX
      exact h (fun n10 k11 w => X [.int .i64 n10, .int .i64 k11] w) (fun n10 k11 w hb => hX [.int .i64 n10, .int .i64 k11] w ⟨rfl, rfl, trivial⟩ hb)
    · intro h X hX
      exact h (fun l w => match l with | [v0, v1] => X (pInt v0) (pInt v1) w | _ => True) (fun l w hl hb => by
        obtain ⟨v0, l_v0, rfl, k_v0, hl_v0⟩ := Kinds.cons_ hl
        obtain ⟨n10, rfl⟩ := kind_int k_v0
        obtain ⟨v1, l_v1, rfl, k_v1, hl_v1⟩ := Kinds.cons_ hl_v0
        obtain ⟨k11, rfl⟩ := kind_int k_v1
        obtain rfl := Kinds.nil_ hl_v1
        exact hX n10 k11 w hb)

def T_wire_TakeNumber (b1a : Option Addr) (b1l : Nat) (b1c : Nat) (at2 : Int) (w : World) (R : Ending → World → Prop) : Prop :=
  T_wire_TakeNumber_1 b1a b1l b1c at2 w (fun b8 w9 => if b8 = true then (R (.returned (.tuple #[.int .i64 0, .int .i64 0, .int .i64 2])) w9) else (T_wire_TakeNumber_2 0 0 b1a b1l b1c at2 w9 (fun x38 x39 x40 w41 => R (.returned (.tuple #[.int .i64 x38, .int .i64 x39, .int .i64 x40])) w41) (pan R))) (pan R)

theorem T_wire_TakeNumber_hl : allP (hokL Tryz.prog (hookAt [(12, H_wire_TakeNumber_1), (15, H_wire_TakeNumber_2)]) (turnB 0 900001 900002 (bodyOf Tryz.f101)) 1) = (UnitOk Tryz.prog H_wire_TakeNumber_1 (at_ (turnB 0 900001 900002 (bodyOf Tryz.f101)) [1, 0, 0]) 12 ∧ UnitOk Tryz.prog H_wire_TakeNumber_2 (at_ (turnB 0 900001 900002 (bodyOf Tryz.f101)) [1, 1, 1]) 15 ∧ True) := by kernel_rfl

theorem T_wire_TakeNumber_eq (b1a : Option Addr) (b1l : Nat) (b1c : Nat) (at2 : Int) (w : World) (R : Ending → World → Prop) : vcCode Tryz.prog (hookAt [(12, H_wire_TakeNumber_1), (15, H_wire_TakeNumber_2)]) (turnB 0 900001 900002 (bodyOf Tryz.f101)) 1 ⟨argEnv [.slice b1a b1l b1c, .int .i64 at2] 0, Tryz.f101.ntmps, []⟩ w (finQ Tryz.prog Tryz.f101.results.toList R) = T_wire_TakeNumber b1a b1l b1c at2 w R := by kernel_rfl

theorem T_wire_TakeNumber_b : Tryz.f101.body = some (.seq (rOf (bodyOf Tryz.f101)) (.scope (cOf (bodyOf Tryz.f101)))) := by kernel_rfl
theorem T_wire_TakeNumber_f : findLabel (cOf (bodyOf Tryz.f101)) 0 = some (.seq .skip ((lapOf 0 (cOf (bodyOf Tryz.f101))).getD .skip)) := by kernel_rfl
theorem T_wire_TakeNumber_l : lapOf 0 (cOf (bodyOf Tryz.f101)) = some ((lapOf 0 (cOf (bodyOf Tryz.f101))).getD .skip) := by kernel_rfl

theorem T_wire_TakeNumber_s : ((quietSel (rOf (bodyOf Tryz.f101)) && quietSel (cOf (bodyOf Tryz.f101)) && quietSel ((lapOf 0 (cOf (bodyOf Tryz.f101))).getD .skip)) && (freshC 900001 ((lapOf 0 (cOf (bodyOf Tryz.f101))).getD .skip) && noExit 900001 ((lapOf 0 (cOf (bodyOf Tryz.f101))).getD .skip) && noExit 900002 ((lapOf 0 (cOf (bodyOf Tryz.f101))).getD .skip)) && Nat.ble 2 Tryz.f101.ntmps) = true := by kernel_rfl

theorem C_wire_TakeNumber {b1a : Option Addr} {b1l : Nat} {b1c : Nat} {at2 : Int} {w : World} {R : Ending → World → Prop} (h : T_wire_TakeNumber b1a b1l b1c at2 w R) : Calls Tryz.prog 101 #[.slice b1a b1l b1c, .int .i64 at2] w R :=
  calls_of_scope (args := [.slice b1a b1l b1c, .int .i64 at2]) mixed Tryz.func101 T_wire_TakeNumber_b T_wire_TakeNumber_f T_wire_TakeNumber_l T_wire_TakeNumber_s (HOk_of _ _ (show allP (hokL Tryz.prog (hookAt [(12, H_wire_TakeNumber_1), (15, H_wire_TakeNumber_2)]) (turnB 0 900001 900002 (bodyOf Tryz.f101)) 1) from by rw [T_wire_TakeNumber_hl]; exact ⟨T_wire_TakeNumber_1_ok, T_wire_TakeNumber_2_ok, trivial⟩)) (show vcCode Tryz.prog (hookAt [(12, H_wire_TakeNumber_1), (15, H_wire_TakeNumber_2)]) (turnB 0 900001 900002 (bodyOf Tryz.f101)) 1 ⟨argEnv [.slice b1a b1l b1c, .int .i64 at2] 0, Tryz.f101.ntmps, []⟩ w (finQ Tryz.prog Tryz.f101.results.toList R) from by rw [T_wire_TakeNumber_eq]; exact h)

/-! (*tollgate/conf.reader).take -/
def T_conf_reader_take_1 (r3 : Option Addr) (n4 : Int) (w : World) (Kn : Bool → World → Prop) (Kp : List PanicEntry → World → Prop) : Prop :=
  let w5 : World := w.drew
  ∃ a6, r3 = some a6 ∧ ∃ x7 : Int, rd w5 (a6.add 2) (.int .i64 x7) ∧ if ((x7 : Int) == 0) = true then (∃ a8, r3 = some a8 ∧ ∃ s9a : Option Addr, ∃ s9l : Nat, ∃ s9c : Nat, rd w5 a8 (.slice s9a s9l s9c) ∧ ∃ a10, r3 = some a10 ∧ ∃ x11 : Int, rd w5 (a10.add 1) (.int .i64 x11) ∧ Kn (decide ((IntKind.wrap .i64 (((s9l : Nat) : Int) - x11) : Int) < n4)) w5) else (Kn false w5)

def T_conf_reader_take_1_outs : Exit → Option (List (Nat × Value)) := fun x => match x with | .normal => some [(23, .bool false)] | .panic _ => some [] | _ => none

def T_conf_reader_take_1_ks : Nat → Bool := ksOf [5, 6, 7, 8, 9, 10, 11, 12, 13, 14, 15, 16, 17, 18, 19, 20, 21, 22, 23]

def H_conf_reader_take_1 : Env → World → QT → Prop := unitHook 55 T_conf_reader_take_1_ks [(0, .pointer none), (1, .int .i64 0)] T_conf_reader_take_1_outs fun l w C => match l with | [v0, v1] => T_conf_reader_take_1 (pPtr v0) (pInt v1) w (fun b13 w => C .normal [.bool b13] w) (fun ch w => C (.panic ch) [] w) | _ => False

theorem T_conf_reader_take_1_hl : allP (hokL Tryz.prog (hookAt []) (at_ (bodyOf Tryz.f102) [1, 0, 0]) 12) = (True) := by kernel_rfl
theorem T_conf_reader_take_1_hok : HOk Tryz.prog (hookAt []) (at_ (bodyOf Tryz.f102) [1, 0, 0]) 12 := HOk_of _ _ (by rw [T_conf_reader_take_1_hl]; exact trivial)

theorem T_conf_reader_take_1_eq (C : Conts) (r3 : Option Addr) (n4 : Int) (w : World) : vcCode Tryz.prog (hookAt []) (at_ (bodyOf Tryz.f102) [1, 0, 0]) 12 ⟨[(0, .pointer r3), (1, .int .i64 n4)], 55, []⟩ w (unitQ T_conf_reader_take_1_outs C) = T_conf_reader_take_1 r3 n4 w (fun b14 w => C .normal [.bool b14] w) (fun ch w => C (.panic ch) [] w) := by kernel_rfl

theorem T_conf_reader_take_1_ok : UnitOk Tryz.prog H_conf_reader_take_1 (at_ (bodyOf Tryz.f102) [1, 0, 0]) 12 := unit_ok (H := (hookAt [])) (by kernel_rfl) T_conf_reader_take_1_hok fun l w C hk => by
    obtain ⟨v0, l_v0, rfl, k_v0, hk_v0⟩ := Kinds.cons_ hk
    obtain ⟨r3, rfl⟩ := kind_pointer k_v0
    obtain ⟨v1, l_v1, rfl, k_v1, hk_v1⟩ := Kinds.cons_ hk_v0
    obtain ⟨n4, rfl⟩ := kind_int k_v1
    obtain rfl := Kinds.nil_ hk_v1
    exact T_conf_reader_take_1_eq C r3 n4 w

def T_conf_reader_take_2 (r17 : Option Addr) (b18 : Bool) (w : World) (Kn : World → Prop) (Kp : List PanicEntry → World → Prop) : Prop :=
  if b18 = true then (∃ a19, r17 = some a19 ∧ (.int .i64 3 : Value).cells.size = 1 ∧ wrOk w (a19.add 2) (.int .i64 3) ∧ let w20 : World := wr w (a19.add 2) (.int .i64 3)
  Kn  w20) else (Kn  w)

def T_conf_reader_take_2_outs : Exit → Option (List (Nat × Value)) := fun x => match x with | .normal => some [] | .panic _ => some [] | _ => none

def T_conf_reader_take_2_ks : Nat → Bool := ksOf [24, 25, 26]

def H_conf_reader_take_2 : Env → World → QT → Prop := unitHook 55 T_conf_reader_take_2_ks [(0, .pointer none), (23, .bool false)] T_conf_reader_take_2_outs fun l w C => match l with | [v0, v1] => T_conf_reader_take_2 (pPtr v0) (pBool v1) w (fun w => C .normal [] w) (fun ch w => C (.panic ch) [] w) | _ => False

theorem T_conf_reader_take_2_hl : allP (hokL Tryz.prog (hookAt []) (at_ (bodyOf Tryz.f102) [1, 0, 1]) 13) = (True) := by kernel_rfl
theorem T_conf_reader_take_2_hok : HOk Tryz.prog (hookAt []) (at_ (bodyOf Tryz.f102) [1, 0, 1]) 13 := HOk_of _ _ (by rw [T_conf_reader_take_2_hl]; exact trivial)

theorem T_conf_reader_take_2_eq (C : Conts) (r17 : Option Addr) (b18 : Bool) (w : World) : vcCode Tryz.prog (hookAt []) (at_ (bodyOf Tryz.f102) [1, 0, 1]) 13 ⟨[(0, .pointer r17), (23, .bool b18)], 55, []⟩ w (unitQ T_conf_reader_take_2_outs C) = T_conf_reader_take_2 r17 b18 w (fun w => C .normal [] w) (fun ch w => C (.panic ch) [] w) := by kernel_rfl

theorem T_conf_reader_take_2_ok : UnitOk Tryz.prog H_conf_reader_take_2 (at_ (bodyOf Tryz.f102) [1, 0, 1]) 13 := unit_ok (H := (hookAt [])) (by kernel_rfl) T_conf_reader_take_2_hok fun l w C hk => by
    obtain ⟨v0, l_v0, rfl, k_v0, hk_v0⟩ := Kinds.cons_ hk
    obtain ⟨r17, rfl⟩ := kind_pointer k_v0
    obtain ⟨v1, l_v1, rfl, k_v1, hk_v1⟩ := Kinds.cons_ hk_v0
    obtain ⟨b18, rfl⟩ := kind_bool k_v1
    obtain rfl := Kinds.nil_ hk_v1
    exact T_conf_reader_take_2_eq C r17 b18 w

def T_conf_reader_take (r1 : Option Addr) (n2 : Int) (w : World) (R : Ending → World → Prop) : Prop :=
  T_conf_reader_take_1 r1 n2 w (fun b15 w16 => T_conf_reader_take_2 r1 b15 w16 (fun w21 => ∃ a22, r1 = some a22 ∧ ∃ x23 : Int, rd w21 (a22.add 2) (.int .i64 x23) ∧ if ((x23 : Int) != 0) = true then (R (.returned (.slice none 0 0)) w21) else (∃ a24, r1 = some a24 ∧ ∃ x25 : Int, rd w21 (a24.add 1) (.int .i64 x25) ∧ ∃ a26, r1 = some a26 ∧ (.int .i64 (IntKind.wrap .i64 ((x25 : Int) + n2)) : Value).cells.size = 1 ∧ wrOk w21 (a26.add 1) (.int .i64 (IntKind.wrap .i64 ((x25 : Int) + n2))) ∧ let w27 : World := wr w21 (a26.add 1) (.int .i64 (IntKind.wrap .i64 ((x25 : Int) + n2)))
  let w28 : World := w27.drew
  ∃ a29, r1 = some a29 ∧ ∃ s30a : Option Addr, ∃ s30l : Nat, ∃ s30c : Nat, rd w28 a29 (.slice s30a s30l s30c) ∧ ∃ a31, r1 = some a31 ∧ ∃ x32 : Int, rd w28 (a31.add 1) (.int .i64 x32) ∧ ∃ a33, r1 = some a33 ∧ ∃ x34 : Int, rd w28 (a33.add 1) (.int .i64 x34) ∧ 0 ≤ (x34 : Int) ∧ (x34 : Int) ≤ ((s30c : Nat) : Int) ∧ 0 ≤ (IntKind.wrap .i64 ((x32 : Int) - n2) : Int) ∧ (IntKind.wrap .i64 ((x32 : Int) - n2) : Int) ≤ (((x34 : Int).toNat : Nat) : Int) ∧ R (.returned (.slice (if s30c = ((IntKind.wrap .i64 ((x32 : Int) - n2) : Int).toNat) then s30a else s30a.map (fun x => x.add (((IntKind.wrap .i64 ((x32 : Int) - n2) : Int).toNat) * 1))) (((x34 : Int).toNat) - ((IntKind.wrap .i64 ((x32 : Int) - n2) : Int).toNat)) (s30c - ((IntKind.wrap .i64 ((x32 : Int) - n2) : Int).toNat)))) w28)) (pan R)) (pan R)

theorem T_conf_reader_take_hl : allP (hokL Tryz.prog (hookAt [(12, H_conf_reader_take_1), (13, H_conf_reader_take_2)]) (bodyOf Tryz.f102) 1) = (UnitOk Tryz.prog H_conf_reader_take_1 (at_ (bodyOf Tryz.f102) [1, 0, 0]) 12 ∧ UnitOk Tryz.prog H_conf_reader_take_2 (at_ (bodyOf Tryz.f102) [1, 0, 1]) 13 ∧ True) := by kernel_rfl

theorem T_conf_reader_take_eq (r1 : Option Addr) (n2 : Int) (w : World) (R : Ending → World → Prop) : vcCode Tryz.prog (hookAt [(12, H_conf_reader_take_1), (13, H_conf_reader_take_2)]) (bodyOf Tryz.f102) 1 ⟨argEnv [.pointer r1, .int .i64 n2] 0, Tryz.f102.ntmps, []⟩ w (finQ Tryz.prog Tryz.f102.results.toList R) = T_conf_reader_take r1 n2 w R := by kernel_rfl

theorem T_conf_reader_take_b : Tryz.f102.body = some (bodyOf Tryz.f102) := by kernel_rfl
theorem T_conf_reader_take_s : (quietSel (bodyOf Tryz.f102) && Nat.ble 2 Tryz.f102.ntmps) = true := by kernel_rfl

theorem C_conf_reader_take {r1 : Option Addr} {n2 : Int} {w : World} {R : Ending → World → Prop} (h : T_conf_reader_take r1 n2 w R) : Calls Tryz.prog 102 #[.pointer r1, .int .i64 n2] w R :=
  calls_of_text (args := [.pointer r1, .int .i64 n2]) mixed Tryz.func102 T_conf_reader_take_b T_conf_reader_take_s (HOk_of _ _ (by rw [T_conf_reader_take_hl]; exact ⟨T_conf_reader_take_1_ok, T_conf_reader_take_2_ok, trivial⟩)) (by rw [T_conf_reader_take_eq]; exact h)

/-! (*tollgate/conf.reader).float -/
def T_conf_reader_float_1_body (X : Int → Int → World → Prop) (n5 : Int) (x6 : Int) (s7a : Option Addr) (s7l : Nat) (s7c : Nat) (x8 : Int) (w : World) (Kn : Int → World → Prop) (Kp : List PanicEntry → World → Prop)  : Prop :=
  if (decide ((x6 : Int) < x8)) = true then (0 ≤ (x6 : Int) ∧ (x6 : Int) < ((s7l : Nat) : Int) ∧ ∃ b9, s7a = some b9 ∧ ∃ x10 : Int, rd w (b9.add ((x6 : Int).toNat * 1)) (.int .u8 x10) ∧ X (IntKind.wrap .u64 ((BitVec.ofInt (IntKind.bits .u64) (IntKind.wrap .u64 ((n5 : Int) * 2 ^ 8))) ||| (BitVec.ofInt (IntKind.bits .u64) (IntKind.wrap .u64 x10))).toNat) (IntKind.wrap .i64 ((x6 : Int) + 1)) w) else (Kn n5 w)

def T_conf_reader_float_1 (n5 : Int) (x6 : Int) (s7a : Option Addr) (s7l : Nat) (s7c : Nat) (x8 : Int) (w : World) (Kn : Int → World → Prop) (Kp : List PanicEntry → World → Prop) : Prop :=
  ∀ X : Int → Int → World → Prop, (∀ (n5 : Int) (x6 : Int) (w : World), T_conf_reader_float_1_body X n5 x6 s7a s7l s7c x8 w Kn Kp → X n5 x6 w) → X n5 x6 w

def T_conf_reader_float_1_outs : Exit → Option (List (Nat × Value)) := fun x => match x with | .normal => some [(3, .int .u64 0)] | .panic _ => some [] | _ => none

def T_conf_reader_float_1_ks : Nat → Bool := ksOf [3, 5, 9, 10, 11, 12, 13, 14, 15, 16, 17, 18]

def H_conf_reader_float_1 : Env → World → QT → Prop := unitHook 21 T_conf_reader_float_1_ks [(3, .int .u64 0), (9, .int .i64 0), (7, .slice none 0 0), (8, .int .i64 0)] T_conf_reader_float_1_outs fun l w C => match l with | [v0, v1, v2, v3] => T_conf_reader_float_1 (pInt v0) (pInt v1) (pA v2) (pL v2) (pC v2) (pInt v3) w (fun n12 w => C .normal [.int .u64 n12] w) (fun ch w => C (.panic ch) [] w) | _ => False

theorem T_conf_reader_float_1_hl : allP (hokL Tryz.prog (hookAt []) (at_ (bodyOf Tryz.f103) [1, 1, 0, 1, 0, 0]) 116) = (True) := by kernel_rfl
theorem T_conf_reader_float_1_hok : HOk Tryz.prog (hookAt []) (at_ (bodyOf Tryz.f103) [1, 1, 0, 1, 0, 0]) 116 := HOk_of _ _ (by rw [T_conf_reader_float_1_hl]; exact trivial)

theorem T_conf_reader_float_1_eq (C : Conts) (X : List Value → World → Prop) (n5 : Int) (x6 : Int) (s7a : Option Addr) (s7l : Nat) (s7c : Nat) (x8 : Int) (w : World) : vcCode Tryz.prog (hookAt []) (at_ (bodyOf Tryz.f103) [1, 1, 0, 1, 0, 0]) 116 ⟨[(3, .int .u64 n5), (9, .int .i64 x6)] ++ [(7, .slice s7a s7l s7c), (8, .int .i64 x8)], 21, []⟩ w (seqQ (fun e w => takeAll e [(3, .int .u64 0), (9, .int .i64 0)] fun l => X l w) (blockQ 0 (unitQ T_conf_reader_float_1_outs C))) = T_conf_reader_float_1_body (fun n5 x6 w => X [.int .u64 n5, .int .i64 x6] w) n5 x6 s7a s7l s7c x8 w (fun n13 w => C .normal [.int .u64 n13] w) (fun ch w => C (.panic ch) [] w) := by kernel_rfl

theorem T_conf_reader_float_1_ok : UnitOk Tryz.prog H_conf_reader_float_1 (at_ (bodyOf Tryz.f103) [1, 1, 0, 1]) 29 := by
  have hc : at_ (bodyOf Tryz.f103) [1, 1, 0, 1] = .block 0 (.loop (at_ (bodyOf Tryz.f103) [1, 1, 0, 1, 0, 0])) := by kernel_rfl
  rw [hc]
  refine loop_unit_ok (carr := [(3, .int .u64 0), (9, .int .i64 0)]) (fix := [(7, .slice none 0 0), (8, .int .i64 0)]) (ks := T_conf_reader_float_1_ks) (H := (hookAt [])) (B := fun C X l u w => match l, u with | [v0, v1], [v2, v3] => T_conf_reader_float_1_body (fun n5 x6 w => X [.int .u64 n5, .int .i64 x6] w) (pInt v0) (pInt v1) (pA v2) (pL v2) (pC v2) (pInt v3) w (fun n14 w => C .normal [.int .u64 n14] w) (fun ch w => C (.panic ch) [] w) | _, _ => False) (by kernel_rfl) (by kernel_rfl) T_conf_reader_float_1_hok ?_ ?_
  · intro C X l u w hl hu
    obtain ⟨v0, l_v0, rfl, k_v0, hl_v0⟩ := Kinds.cons_ hl
    obtain ⟨n5, rfl⟩ := kind_int k_v0
    obtain ⟨v1, l_v1, rfl, k_v1, hl_v1⟩ := Kinds.cons_ hl_v0
    obtain ⟨x6, rfl⟩ := kind_int k_v1
    obtain rfl := Kinds.nil_ hl_v1
    obtain ⟨v2, l_v2, rfl, k_v2, hu_v2⟩ := Kinds.cons_ hu
    obtain ⟨s7a, s7l, s7c, rfl⟩ := kind_slice k_v2
    obtain ⟨v3, l_v3, rfl, k_v3, hu_v3⟩ := Kinds.cons_ hu_v2
    obtain ⟨x8, rfl⟩ := kind_int k_v3
    obtain rfl := Kinds.nil_ hu_v3
    exact T_conf_reader_float_1_eq C X n5 x6 s7a s7l s7c x8 w
  · intro l u w C hl hu
    obtain ⟨v0, l_v0, rfl, k_v0, hl_v0⟩ := Kinds.cons_ hl
    obtain ⟨n5, rfl⟩ := kind_int k_v0
    obtain ⟨v1, l_v1, rfl, k_v1, hl_v1⟩ := Kinds.cons_ hl_v0
    obtain ⟨x6, rfl⟩ := kind_int k_v1
    obtain rfl := Kinds.nil_ hl_v1
    obtain ⟨v2, l_v2, rfl, k_v2, hu_v2⟩ := Kinds.cons_ hu
    obtain ⟨s7a, s7l, s7c, rfl⟩ := kind_slice k_v2
    obtain ⟨v3, l_v3, rfl, k_v3, hu_v3⟩ := Kinds.cons_ hu_v2
    obtain ⟨x8, rfl⟩ := kind_int k_v3
    obtain rfl := Kinds.nil_ hu_v3
    constructor
    · intro h X hX
      exact h (fun n5 x6 w => X [.int .u64 n5, .int .i64 x6] w) (fun n5 x6 w hb => hX [.int .u64 n5, .int .i64 x6] w ⟨rfl, rfl, trivial⟩ hb)
    · intro h X hX
      exact h (fun l w => match l with | [v0, v1] => X (pInt v0) (pInt v1) w | _ => True) (fun l w hl hb => by
        obtain ⟨v0, l_v0, rfl, k_v0, hl_v0⟩ := Kinds.cons_ hl
        obtain ⟨n5, rfl⟩ := kind_int k_v0
        obtain ⟨v1, l_v1, rfl, k_v1, hl_v1⟩ := Kinds.cons_ hl_v0
        obtain ⟨x6, rfl⟩ := kind_int k_v1
        obtain rfl := Kinds.nil_ hl_v1
        exact hX n5 x6 w hb)

def T_conf_reader_float (r1 : Option Addr) (w : World) (R : Ending → World → Prop) : Prop :=
  Calls Tryz.prog 102 #[.pointer r1, .int .i64 8] w (ret (fun r2 w3 => ∃ s4a : Option Addr, ∃ s4l : Nat, ∃ s4c : Nat, r2 = .slice s4a s4l s4c ∧ T_conf_reader_float_1 0 0 s4a s4l s4c ((s4l : Nat) : Int) w3 (fun n15 w16 => runV Tryz.prog (callFunc 106 #[.int .u64 n15]) w16 (nxv (fun r17 w18 => ∃ f19 : Nat, r17 = .float .f64 f19 ∧ R (.returned (.float .f64 f19)) w18)) (pan R)) (pan R)) (pan R))

theorem T_conf_reader_float_hl : allP (hokL Tryz.prog (hookAt [(29, H_conf_reader_float_1)]) (bodyOf Tryz.f103) 1) = (UnitOk Tryz.prog H_conf_reader_float_1 (at_ (bodyOf Tryz.f103) [1, 1, 0, 1]) 29 ∧ True) := by kernel_rfl

theorem T_conf_reader_float_eq (r1 : Option Addr) (w : World) (R : Ending → World → Prop) : vcCode Tryz.prog (hookAt [(29, H_conf_reader_float_1)]) (bodyOf Tryz.f103) 1 ⟨argEnv [.pointer r1] 0, Tryz.f103.ntmps, []⟩ w (finQ Tryz.prog Tryz.f103.results.toList R) = T_conf_reader_float r1 w R := by kernel_rfl

theorem T_conf_reader_float_b : Tryz.f103.body = some (bodyOf Tryz.f103) := by kernel_rfl
theorem T_conf_reader_float_s : (quietSel (bodyOf Tryz.f103) && Nat.ble 1 Tryz.f103.ntmps) = true := by kernel_rfl

theorem C_conf_reader_float {r1 : Option Addr} {w : World} {R : Ending → World → Prop} (h : T_conf_reader_float r1 w R) : Calls Tryz.prog 103 #[.pointer r1] w R :=
  calls_of_text (args := [.pointer r1]) mixed Tryz.func103 T_conf_reader_float_b T_conf_reader_float_s (HOk_of _ _ (by rw [T_conf_reader_float_hl]; exact ⟨T_conf_reader_float_1_ok, trivial⟩)) (by rw [T_conf_reader_float_eq]; exact h)

/-! tollgate/tollgateref02.TakeNumber -/
def T_ref02_TakeNumber_1 (b3a : Option Addr) (b3l : Nat) (b3c : Nat) (at4 : Int) (w : World) (Kn : Bool → World → Prop) (Kp : List PanicEntry → World → Prop) : Prop :=
  if (decide ((at4 : Int) < 0)) = true then (Kn true w) else (Kn (decide ((at4 : Int) > ((b3l : Nat) : Int))) w)

def T_ref02_TakeNumber_1_outs : Exit → Option (List (Nat × Value)) := fun x => match x with | .normal => some [(18, .bool false)] | .panic _ => some [] | _ => none

def T_ref02_TakeNumber_1_ks : Nat → Bool := ksOf [11, 12, 13, 14, 15, 16, 17, 18]

def H_ref02_TakeNumber_1 : Env → World → QT → Prop := unitHook 59 T_ref02_TakeNumber_1_ks [(0, .slice none 0 0), (1, .int .i64 0)] T_ref02_TakeNumber_1_outs fun l w C => match l with | [v0, v1] => T_ref02_TakeNumber_1 (pA v0) (pL v0) (pC v0) (pInt v1) w (fun b6 w => C .normal [.bool b6] w) (fun ch w => C (.panic ch) [] w) | _ => False

theorem T_ref02_TakeNumber_1_hl : allP (hokL Tryz.prog (hookAt []) (at_ (bodyOf Tryz.f104) [1, 0, 0]) 12) = (True) := by kernel_rfl
theorem T_ref02_TakeNumber_1_hok : HOk Tryz.prog (hookAt []) (at_ (bodyOf Tryz.f104) [1, 0, 0]) 12 := HOk_of _ _ (by rw [T_ref02_TakeNumber_1_hl]; exact trivial)

theorem T_ref02_TakeNumber_1_eq (C : Conts) (b3a : Option Addr) (b3l : Nat) (b3c : Nat) (at4 : Int) (w : World) : vcCode Tryz.prog (hookAt []) (at_ (bodyOf Tryz.f104) [1, 0, 0]) 12 ⟨[(0, .slice b3a b3l b3c), (1, .int .i64 at4)], 59, []⟩ w (unitQ T_ref02_TakeNumber_1_outs C) = T_ref02_TakeNumber_1 b3a b3l b3c at4 w (fun b7 w => C .normal [.bool b7] w) (fun ch w => C (.panic ch) [] w) := by kernel_rfl

theorem T_ref02_TakeNumber_1_ok : UnitOk Tryz.prog H_ref02_TakeNumber_1 (at_ (bodyOf Tryz.f104) [1, 0, 0]) 12 := unit_ok (H := (hookAt [])) (by kernel_rfl) T_ref02_TakeNumber_1_hok fun l w C hk => by
    obtain ⟨v0, l_v0, rfl, k_v0, hk_v0⟩ := Kinds.cons_ hk
    obtain ⟨b3a, b3l, b3c, rfl⟩ := kind_slice k_v0
    obtain ⟨v1, l_v1, rfl, k_v1, hk_v1⟩ := Kinds.cons_ hk_v0
    obtain ⟨at4, rfl⟩ := kind_int k_v1
    obtain rfl := Kinds.nil_ hk_v1
    exact T_ref02_TakeNumber_1_eq C b3a b3l b3c at4 w

def T_ref02_TakeNumber_3 (k17 : Int) (c18 : Int) (w : World) (Kn : Bool → World → Prop) (Kp : List PanicEntry → World → Prop) : Prop :=
  if ((c18 : Int) == 0) = true then (Kn (decide ((k17 : Int) > 0)) w) else (Kn false w)

def T_ref02_TakeNumber_3_outs : Exit → Option (List (Nat × Value)) := fun x => match x with | .normal => some [(51, .bool false)] | .panic _ => some [] | _ => none

def T_ref02_TakeNumber_3_ks : Nat → Bool := ksOf [46, 47, 48, 49, 50, 51]

def H_ref02_TakeNumber_3 : Env → World → QT → Prop := unitHook 59 T_ref02_TakeNumber_3_ks [(9, .int .i64 0), (10, .int .i64 0)] T_ref02_TakeNumber_3_outs fun l w C => match l with | [v0, v1] => T_ref02_TakeNumber_3 (pInt v0) (pInt v1) w (fun b20 w => C .normal [.bool b20] w) (fun ch w => C (.panic ch) [] w) | _ => False

theorem T_ref02_TakeNumber_3_hl : allP (hokL Tryz.prog (hookAt []) (at_ (bodyOf Tryz.f104) [1, 1, 1, 1, 0, 1, 0, 0, 1, 0, 0, 1, 1, 1, 1, 1, 0, 0, 0]) 1025272) = (True) := by kernel_rfl
theorem T_ref02_TakeNumber_3_hok : HOk Tryz.prog (hookAt []) (at_ (bodyOf Tryz.f104) [1, 1, 1, 1, 0, 1, 0, 0, 1, 0, 0, 1, 1, 1, 1, 1, 0, 0, 0]) 1025272 := HOk_of _ _ (by rw [T_ref02_TakeNumber_3_hl]; exact trivial)

theorem T_ref02_TakeNumber_3_eq (C : Conts) (k17 : Int) (c18 : Int) (w : World) : vcCode Tryz.prog (hookAt []) (at_ (bodyOf Tryz.f104) [1, 1, 1, 1, 0, 1, 0, 0, 1, 0, 0, 1, 1, 1, 1, 1, 0, 0, 0]) 1025272 ⟨[(9, .int .i64 k17), (10, .int .i64 c18)], 59, []⟩ w (unitQ T_ref02_TakeNumber_3_outs C) = T_ref02_TakeNumber_3 k17 c18 w (fun b21 w => C .normal [.bool b21] w) (fun ch w => C (.panic ch) [] w) := by kernel_rfl

theorem T_ref02_TakeNumber_3_ok : UnitOk Tryz.prog H_ref02_TakeNumber_3 (at_ (bodyOf Tryz.f104) [1, 1, 1, 1, 0, 1, 0, 0, 1, 0, 0, 1, 1, 1, 1, 1, 0, 0, 0]) 1025272 := unit_ok (H := (hookAt [])) (by kernel_rfl) T_ref02_TakeNumber_3_hok fun l w C hk => by
    obtain ⟨v0, l_v0, rfl, k_v0, hk_v0⟩ := Kinds.cons_ hk
    obtain ⟨k17, rfl⟩ := kind_int k_v0
    obtain ⟨v1, l_v1, rfl, k_v1, hk_v1⟩ := Kinds.cons_ hk_v0
    obtain ⟨c18, rfl⟩ := kind_int k_v1
    obtain rfl := Kinds.nil_ hk_v1
    exact T_ref02_TakeNumber_3_eq C k17 c18 w

def T_ref02_TakeNumber_2_body (X : Int → Int → Int → World → Prop) (n10 : Int) (unit11 : Int) (k12 : Int) (b13a : Option Addr) (b13l : Nat) (b13c : Nat) (at14 : Int) (w : World) (Kn : World → Prop) (Kr : Int → Int → Int → World → Prop) (Kp : List PanicEntry → World → Prop)  : Prop :=
  if (decide ((k12 : Int) < 6)) = true then (if (decide ((IntKind.wrap .i64 ((at14 : Int) + k12) : Int) ≥ ((b13l : Nat) : Int))) = true then (Kr 0 0 3 w) else (0 ≤ (IntKind.wrap .i64 ((at14 : Int) + k12) : Int) ∧ (IntKind.wrap .i64 ((at14 : Int) + k12) : Int) < ((b13l : Nat) : Int) ∧ ∃ b15, b13a = some b15 ∧ ∃ x16 : Int, rd w (b15.add ((IntKind.wrap .i64 ((at14 : Int) + k12) : Int).toNat * 1)) (.int .u8 x16) ∧ if (decide ((IntKind.wrap .i64 x16 : Int) < 128)) = true then (T_ref02_TakeNumber_3 k12 (IntKind.wrap .i64 x16) w (fun b22 w23 => if b22 = true then (Kr 0 0 4 w23) else (if (decide ((IntKind.wrap .i64 ((n10 : Int) + (IntKind.wrap .i64 ((Int.tmod (IntKind.wrap .i64 x16) 128 : Int) * unit11))) : Int) > 1099511627776)) = true then (Kr 0 0 6 w23) else (Kr (IntKind.wrap .i64 ((n10 : Int) + (IntKind.wrap .i64 ((Int.tmod (IntKind.wrap .i64 x16) 128 : Int) * unit11)))) (IntKind.wrap .i64 ((IntKind.wrap .i64 ((at14 : Int) + k12) : Int) + 1)) 0 w23))) Kp) else (X (IntKind.wrap .i64 ((n10 : Int) + (IntKind.wrap .i64 ((Int.tmod (IntKind.wrap .i64 x16) 128 : Int) * unit11)))) (IntKind.wrap .i64 ((unit11 : Int) * 128)) (IntKind.wrap .i64 ((k12 : Int) + 1)) w))) else (Kn  w)

def T_ref02_TakeNumber_2 (n10 : Int) (unit11 : Int) (k12 : Int) (b13a : Option Addr) (b13l : Nat) (b13c : Nat) (at14 : Int) (w : World) (Kn : World → Prop) (Kr : Int → Int → Int → World → Prop) (Kp : List PanicEntry → World → Prop) : Prop :=
  ∀ X : Int → Int → Int → World → Prop, (∀ (n10 : Int) (unit11 : Int) (k12 : Int) (w : World), T_ref02_TakeNumber_2_body X n10 unit11 k12 b13a b13l b13c at14 w Kn Kr Kp → X n10 unit11 k12 w) → X n10 unit11 k12 w

def T_ref02_TakeNumber_2_outs : Exit → Option (List (Nat × Value)) := fun x => match x with | .normal => some [] | .ret => some [(4, .int .i64 0), (5, .int .i64 0), (6, .int .i64 0)] | .panic _ => some [] | _ => none

def T_ref02_TakeNumber_2_ks : Nat → Bool := ksOf [4, 5, 6, 7, 8, 9, 10, 19, 20, 21, 22, 23, 24, 25, 26, 27, 28, 29, 30, 31, 32, 33, 34, 35, 36, 37, 38, 39, 40, 41, 42, 43, 44, 45, 46, 47, 48, 49, 50, 51, 52, 53, 54, 55, 56, 57, 58]

def H_ref02_TakeNumber_2 : Env → World → QT → Prop := unitHook 59 T_ref02_TakeNumber_2_ks [(7, .int .i64 0), (8, .int .i64 0), (9, .int .i64 0), (0, .slice none 0 0), (1, .int .i64 0)] T_ref02_TakeNumber_2_outs fun l w C => match l with | [v0, v1, v2, v3, v4] => T_ref02_TakeNumber_2 (pInt v0) (pInt v1) (pInt v2) (pA v3) (pL v3) (pC v3) (pInt v4) w (fun w => C .normal [] w) (fun x27 x28 x29 w => C .ret [.int .i64 x27, .int .i64 x28, .int .i64 x29] w) (fun ch w => C (.panic ch) [] w) | _ => False

theorem T_ref02_TakeNumber_2_hl : allP (hokL Tryz.prog (hookAt [(1025272, H_ref02_TakeNumber_3)]) (at_ (bodyOf Tryz.f104) [1, 1, 1, 1, 0, 1, 0, 0]) 500) = (UnitOk Tryz.prog H_ref02_TakeNumber_3 (at_ (bodyOf Tryz.f104) [1, 1, 1, 1, 0, 1, 0, 0, 1, 0, 0, 1, 1, 1, 1, 1, 0, 0, 0]) 1025272 ∧ True) := by kernel_rfl
theorem T_ref02_TakeNumber_2_hok : HOk Tryz.prog (hookAt [(1025272, H_ref02_TakeNumber_3)]) (at_ (bodyOf Tryz.f104) [1, 1, 1, 1, 0, 1, 0, 0]) 500 := HOk_of _ _ (by rw [T_ref02_TakeNumber_2_hl]; exact ⟨T_ref02_TakeNumber_3_ok, trivial⟩)

theorem T_ref02_TakeNumber_2_eq (C : Conts) (X : List Value → World → Prop) (n10 : Int) (unit11 : Int) (k12 : Int) (b13a : Option Addr) (b13l : Nat) (b13c : Nat) (at14 : Int) (w : World) : vcCode Tryz.prog (hookAt [(1025272, H_ref02_TakeNumber_3)]) (at_ (bodyOf Tryz.f104) [1, 1, 1, 1, 0, 1, 0, 0]) 500 ⟨[(7, .int .i64 n10), (8, .int .i64 unit11), (9, .int .i64 k12)] ++ [(0, .slice b13a b13l b13c), (1, .int .i64 at14)], 59, []⟩ w (seqQ (fun e w => takeAll e [(7, .int .i64 0), (8, .int .i64 0), (9, .int .i64 0)] fun l => X l w) (blockQ 0 (unitQ T_ref02_TakeNumber_2_outs C))) = T_ref02_TakeNumber_2_body (fun n10 unit11 k12 w => X [.int .i64 n10, .int .i64 unit11, .int .i64 k12] w) n10 unit11 k12 b13a b13l b13c at14 w (fun w => C .normal [] w) (fun x30 x31 x32 w => C .ret [.int .i64 x30, .int .i64 x31, .int .i64 x32] w) (fun ch w => C (.panic ch) [] w) := by kernel_rfl

theorem T_ref02_TakeNumber_2_ok : UnitOk Tryz.prog H_ref02_TakeNumber_2 (at_ (bodyOf Tryz.f104) [1, 1, 1, 1, 0, 1]) 125 := by
  have hc : at_ (bodyOf Tryz.f104) [1, 1, 1, 1, 0, 1] = .block 0 (.loop (at_ (bodyOf Tryz.f104) [1, 1, 1, 1, 0, 1, 0, 0])) := by kernel_rfl
  rw [hc]
  refine loop_unit_ok (carr := [(7, .int .i64 0), (8, .int .i64 0), (9, .int .i64 0)]) (fix := [(0, .slice none 0 0), (1, .int .i64 0)]) (ks := T_ref02_TakeNumber_2_ks) (H := (hookAt [(1025272, H_ref02_TakeNumber_3)])) (B := fun C X l u w => match l, u with | [v0, v1, v2], [v3, v4] => T_ref02_TakeNumber_2_body (fun n10 unit11 k12 w => X [.int .i64 n10, .int .i64 unit11, .int .i64 k12] w) (pInt v0) (pInt v1) (pInt v2) (pA v3) (pL v3) (pC v3) (pInt v4) w (fun w => C .normal [] w) (fun x33 x34 x35 w => C .ret [.int .i64 x33, .int .i64 x34, .int .i64 x35] w) (fun ch w => C (.panic ch) [] w) | _, _ => False) (by kernel_rfl) (by kernel_rfl) T_ref02_TakeNumber_2_hok ?_ ?_
  · intro C X l u w hl hu
    obtain ⟨v0, l_v0, rfl, k_v0, hl_v0⟩ := Kinds.cons_ hl
    obtain ⟨n10, rfl⟩ := kind_int k_v0
    obtain ⟨v1, l_v1, rfl, k_v1, hl_v1⟩ := Kinds.cons_ hl_v0
    obtain ⟨unit11, rfl⟩ := kind_int k_v1
    obtain ⟨v2, l_v2, rfl, k_v2, hl_v2⟩ := Kinds.cons_ hl_v1
    obtain ⟨k12, rfl⟩ := kind_int k_v2
    obtain rfl := Kinds.nil_ hl_v2
    obtain ⟨v3, l_v3, rfl, k_v3, hu_v3⟩ := Kinds.cons_ hu
    obtain ⟨b13a, b13l, b13c, rfl⟩ := kind_slice k_v3
    obtain ⟨v4, l_v4, rfl, k_v4, hu_v4⟩ := Kinds.cons_ hu_v3
    obtain ⟨at14, rfl⟩ := kind_int k_v4
    obtain rfl := Kinds.nil_ hu_v4
    exact T_ref02_TakeNumber_2_eq C X n10 unit11 k12 b13a b13l b13c at14 w
  · intro l u w C hl hu
    obtain ⟨v0, l_v0, rfl, k_v0, hl_v0⟩ := Kinds.cons_ hl
    obtain ⟨n10, rfl⟩ := kind_int k_v0
    obtain ⟨v1, l_v1, rfl, k_v1, hl_v1⟩ := Kinds.cons_ hl_v0
    obtain ⟨unit11, rfl⟩ := kind_int k_v1
    obtain ⟨v2, l_v2, rfl, k_v2, hl_v2⟩ := Kinds.cons_ hl_v1
    obtain ⟨k12, rfl⟩ := kind_int k_v2
    obtain rfl := Kinds.nil_ hl_v2
    obtain ⟨v3, l_v3, rfl, k_v3, hu_v3⟩ := Kinds.cons_ hu
    obtain ⟨b13a, b13l, b13c, rfl⟩ := kind_slice k_v3
    obtain ⟨v4, l_v4, rfl, k_v4, hu_v4⟩ := Kinds.cons_ hu_v3
    obtain ⟨at14, rfl⟩ := kind_int k_v4
    obtain rfl := Kinds.nil_ hu_v4
    constructor
    · intro h X hX
      exact h (fun n10 unit11 k12 w => X [.int .i64 n10, .int .i64 unit11, .int .i64 k12] w) (fun n10 unit11 k12 w hb => hX [.int .i64 n10, .int .i64 unit11, .int .i64 k12] w ⟨rfl, rfl, rfl, trivial⟩ hb)
    · intro h X hX
      exact h (fun l w => match l with | [v0, v1, v2] => X (pInt v0) (pInt v1) (pInt v2) w | _ => True) (fun l w hl hb => by
        obtain ⟨v0, l_v0, rfl, k_v0, hl_v0⟩ := Kinds.cons_ hl
        obtain ⟨n10, rfl⟩ := kind_int k_v0
        obtain ⟨v1, l_v1, rfl, k_v1, hl_v1⟩ := Kinds.cons_ hl_v0
        obtain ⟨unit11, rfl⟩ := kind_int k_v1
        obtain ⟨v2, l_v2, rfl, k_v2, hl_v2⟩ := Kinds.cons_ hl_v1
        obtain ⟨k12, rfl⟩ := kind_int k_v2
        obtain rfl := Kinds.nil_ hl_v2
        exact hX n10 unit11 k12 w hb)

def T_ref02_TakeNumber (b1a : Option Addr) (b1l : Nat) (b1c : Nat) (at2 : Int) (w : World) (R : Ending → World → Prop) : Prop :=
  T_ref02_TakeNumber_1 b1a b1l b1c at2 w (fun b8 w9 => if b8 = true then (R (.returned (.tuple #[.int .i64 0, .int .i64 0, .int .i64 2])) w9) else (T_ref02_TakeNumber_2 0 1 0 b1a b1l b1c at2 w9 (fun w36 => R (.returned (.tuple #[.int .i64 0, .int .i64 0, .int .i64 6])) w36) (fun x37 x38 x39 w40 => R (.returned (.tuple #[.int .i64 x37, .int .i64 x38, .int .i64 x39])) w40) (pan R))) (pan R)

theorem T_ref02_TakeNumber_hl : allP (hokL Tryz.prog (hookAt [(12, H_ref02_TakeNumber_1), (125, H_ref02_TakeNumber_2)]) (bodyOf Tryz.f104) 1) = (UnitOk Tryz.prog H_ref02_TakeNumber_1 (at_ (bodyOf Tryz.f104) [1, 0, 0]) 12 ∧ UnitOk Tryz.prog H_ref02_TakeNumber_2 (at_ (bodyOf Tryz.f104) [1, 1, 1, 1, 0, 1]) 125 ∧ True) := by kernel_rfl

theorem T_ref02_TakeNumber_eq (b1a : Option Addr) (b1l : Nat) (b1c : Nat) (at2 : Int) (w : World) (R : Ending → World → Prop) : vcCode Tryz.prog (hookAt [(12, H_ref02_TakeNumber_1), (125, H_ref02_TakeNumber_2)]) (bodyOf Tryz.f104) 1 ⟨argEnv [.slice b1a b1l b1c, .int .i64 at2] 0, Tryz.f104.ntmps, []⟩ w (finQ Tryz.prog Tryz.f104.results.toList R) = T_ref02_TakeNumber b1a b1l b1c at2 w R := by kernel_rfl

theorem T_ref02_TakeNumber_b : Tryz.f104.body = some (bodyOf Tryz.f104) := by kernel_rfl
theorem T_ref02_TakeNumber_s : (quietSel (bodyOf Tryz.f104) && Nat.ble 2 Tryz.f104.ntmps) = true := by kernel_rfl

theorem C_ref02_TakeNumber {b1a : Option Addr} {b1l : Nat} {b1c : Nat} {at2 : Int} {w : World} {R : Ending → World → Prop} (h : T_ref02_TakeNumber b1a b1l b1c at2 w R) : Calls Tryz.prog 104 #[.slice b1a b1l b1c, .int .i64 at2] w R :=
  calls_of_text (args := [.slice b1a b1l b1c, .int .i64 at2]) mixed Tryz.func104 T_ref02_TakeNumber_b T_ref02_TakeNumber_s (HOk_of _ _ (by rw [T_ref02_TakeNumber_hl]; exact ⟨T_ref02_TakeNumber_1_ok, T_ref02_TakeNumber_2_ok, trivial⟩)) (by rw [T_ref02_TakeNumber_eq]; exact h)

/-! (*tollgate/tollgateref08.scan).row -/
def T_ref08_scan_row (s1 : Option Addr) (n2 : Int) (w : World) (R : Ending → World → Prop) : Prop :=
  ∃ a3, s1 = some a3 ∧ ∃ x4 : Int, rd w (a3.add 2) (.int .i64 x4) ∧ if ((x4 : Int) != 0) = true then (R (.returned (.slice none 0 0)) w) else (let w5 : World := w.drew
  ∃ a6, s1 = some a6 ∧ ∃ s7a : Option Addr, ∃ s7l : Nat, ∃ s7c : Nat, rd w5 a6 (.slice s7a s7l s7c) ∧ ∃ a8, s1 = some a8 ∧ ∃ x9 : Int, rd w5 (a8.add 1) (.int .i64 x9) ∧ if (decide ((IntKind.wrap .i64 (((s7l : Nat) : Int) - x9) : Int) < n2)) = true then (∃ a10, s1 = some a10 ∧ (.int .i64 3 : Value).cells.size = 1 ∧ wrOk w5 (a10.add 2) (.int .i64 3) ∧ let w11 : World := wr w5 (a10.add 2) (.int .i64 3)
  R (.returned (.slice none 0 0)) w11) else (let w12 : World := w5.drew
  ∃ a13, s1 = some a13 ∧ ∃ s14a : Option Addr, ∃ s14l : Nat, ∃ s14c : Nat, rd w12 a13 (.slice s14a s14l s14c) ∧ ∃ a15, s1 = some a15 ∧ ∃ x16 : Int, rd w12 (a15.add 1) (.int .i64 x16) ∧ ∃ a17, s1 = some a17 ∧ ∃ x18 : Int, rd w12 (a17.add 1) (.int .i64 x18) ∧ 0 ≤ (IntKind.wrap .i64 ((x18 : Int) + n2) : Int) ∧ (IntKind.wrap .i64 ((x18 : Int) + n2) : Int) ≤ ((s14c : Nat) : Int) ∧ 0 ≤ (x16 : Int) ∧ (x16 : Int) ≤ (((IntKind.wrap .i64 ((x18 : Int) + n2) : Int).toNat : Nat) : Int) ∧ ∃ a19, s1 = some a19 ∧ ∃ x20 : Int, rd w12 (a19.add 1) (.int .i64 x20) ∧ ∃ a21, s1 = some a21 ∧ (.int .i64 (IntKind.wrap .i64 ((x20 : Int) + n2)) : Value).cells.size = 1 ∧ wrOk w12 (a21.add 1) (.int .i64 (IntKind.wrap .i64 ((x20 : Int) + n2))) ∧ let w22 : World := wr w12 (a21.add 1) (.int .i64 (IntKind.wrap .i64 ((x20 : Int) + n2)))
  R (.returned (.slice (if s14c = ((x16 : Int).toNat) then s14a else s14a.map (fun x => x.add (((x16 : Int).toNat) * 1))) (((IntKind.wrap .i64 ((x18 : Int) + n2) : Int).toNat) - ((x16 : Int).toNat)) (s14c - ((x16 : Int).toNat)))) w22))

theorem T_ref08_scan_row_hl : allP (hokL Tryz.prog (hookAt []) (bodyOf Tryz.f105) 1) = (True) := by kernel_rfl

theorem T_ref08_scan_row_eq (s1 : Option Addr) (n2 : Int) (w : World) (R : Ending → World → Prop) : vcCode Tryz.prog (hookAt []) (bodyOf Tryz.f105) 1 ⟨argEnv [.pointer s1, .int .i64 n2] 0, Tryz.f105.ntmps, []⟩ w (finQ Tryz.prog Tryz.f105.results.toList R) = T_ref08_scan_row s1 n2 w R := by kernel_rfl

theorem T_ref08_scan_row_b : Tryz.f105.body = some (bodyOf Tryz.f105) := by kernel_rfl
theorem T_ref08_scan_row_s : (quietSel (bodyOf Tryz.f105) && Nat.ble 2 Tryz.f105.ntmps) = true := by kernel_rfl

theorem C_ref08_scan_row {s1 : Option Addr} {n2 : Int} {w : World} {R : Ending → World → Prop} (h : T_ref08_scan_row s1 n2 w R) : Calls Tryz.prog 105 #[.pointer s1, .int .i64 n2] w R :=
  calls_of_text (args := [.pointer s1, .int .i64 n2]) mixed Tryz.func105 T_ref08_scan_row_b T_ref08_scan_row_s (HOk_of _ _ (by rw [T_ref08_scan_row_hl]; exact trivial)) (by rw [T_ref08_scan_row_eq]; exact h)

end Go.Proofs.YtcpmfjclkdjfmaaGreat
