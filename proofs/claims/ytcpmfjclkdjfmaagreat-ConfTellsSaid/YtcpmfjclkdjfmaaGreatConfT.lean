/-
  Configurations held against each other; results held against each other.
-/
import Derived.Test.YtcpmfjclkdjfmaaGreatConfR
namespace Go.Vc
open Go Go.Proofs Go.Proofs.YtcpmfjclkdjfmaaGreat
set_option maxRecDepth 100000
section
variable {E w : World} {L : List Asrt} {R : Ending → World → Prop} {F G : Fz}
theorem res_eq (x y : Operand) (a b c d : Int) : (do eqGuard .eql 45 x y (.agg #[.int .i64 a, .int .i64 b]) (.agg #[.int .i64 c, .int .i64 d]); binOp .eql 45 (.agg #[.int .i64 a, .int .i64 b]) (.agg #[.int .i64 c, .int .i64 d]) : Sem Value).run Tryz.prog w = .ok (.bool (decide ((a, b) = (c, d)))) w :=
  run_eq_agg (by kernel_rfl) ((keyLaw_int2 (P := Tryz.prog) (t := 45) (f0 := ⟨ "E", 43, 0, false, "", "", 0⟩) (f1 := ⟨ "Version", 3, 1, false, "", "", 8⟩) (by kernel_rfl) (by kernel_rfl) (by kernel_rfl) (by decide) (by decide) rfl rfl (by kernel_rfl)).eq (a, b) (c, d) w)
theorem res_ne (x y : Operand) (a b c d : Int) : (do eqGuard .neq 45 x y (.agg #[.int .i64 a, .int .i64 b]) (.agg #[.int .i64 c, .int .i64 d]); binOp .neq 45 (.agg #[.int .i64 a, .int .i64 b]) (.agg #[.int .i64 c, .int .i64 d]) : Sem Value).run Tryz.prog w = .ok (.bool (!decide ((a, b) = (c, d)))) w :=
  run_ne_agg (by kernel_rfl) ((keyLaw_int2 (P := Tryz.prog) (t := 45) (f0 := ⟨ "E", 43, 0, false, "", "", 0⟩) (f1 := ⟨ "Version", 3, 1, false, "", "", 8⟩) (by kernel_rfl) (by kernel_rfl) (by kernel_rfl) (by decide) (by decide) rfl rfl (by kernel_rfl)).eq (a, b) (c, d) w)
theorem route_eq (a b : Cm.Rt) : (Op.equal 36 (.agg #[.string (bs a.host), .string (bs a.pfx), .string (bs a.pool)]) (.agg #[.string (bs b.host), .string (bs b.pfx), .string (bs b.pool)])).run Tryz.prog w = .ok (decide (a = b)) w := by
  have := equal_str3 (P := Tryz.prog) (t := 36) (w := w) (f0 := ⟨ "Host", 9, 0, false, "", "", 0⟩) (f1 := ⟨ "Prefix", 9, 1, false, "", "", 16⟩) (f2 := ⟨ "Pool", 9, 2, false, "", "", 32⟩) (by kernel_rfl) (by kernel_rfl) (by kernel_rfl) (by kernel_rfl) (by decide) (by decide) (by decide) rfl rfl rfl (by kernel_rfl) (bs a.host) (bs a.pfx) (bs a.pool) (bs b.host) (bs b.pfx) (bs b.pool)
  rw [this]
  congr 1
  have e : ∀ x y : Cm.Bs, bs x = bs y ↔ x = y := fun x y => ⟨bs_inj, congrArg bs⟩
  obtain ⟨a1, a2, a3⟩ := a
  obtain ⟨b1, b2, b3⟩ := b
  simp only [e, Cm.Rt.mk.injEq]
  rw [Bool.eq_iff_iff]
  simp
/-- A configuration, known for good. -/
def cfgR (F : Fz) (ra pa : Sl) (rs : List Cm.Rt) (ps : List Cm.Pl) : Prop :=
  RdF F ra.1 ra.2.1 3 (rs.flatMap rcV) ∧ ∃ xs : List PlS, xs.map (·.2) = ps ∧ RdF F pa.1 pa.2.1 2 (xs.flatMap pcV) ∧ ∀ x ∈ xs, RdF F x.1.1 x.1.2.1 2 (x.2.tg.flatMap tV)
theorem cfgR.mono {ra pa : Sl} {rs : List Cm.Rt} {ps : List Cm.Pl} (h : cfgR F ra pa rs ps) (k : Fz.le F G) : cfgR G ra pa rs ps := by
  obtain ⟨h1, xs, h2, h3, h4⟩ := h
  exact ⟨RdF.mono h1 k, xs, h2, RdF.mono h3 k, fun x hx => RdF.mono (h4 x hx) k⟩
theorem St.cfg_freeze {ra pa : Sl} {rs : List Cm.Rt} {ps : List Cm.Pl} {xs : List PlS} (hx : xs.map (·.2) = ps) (h : St E (rtA ra rs :: plA pa xs :: tgO xs :: kn F :: L) w) : ∃ G, Fz.le F G ∧ St E (kn G :: L) w ∧ cfgR G ra pa rs ps := by
  obtain ⟨G1, k1, h1, r1⟩ := St.freeze_rt (h.sel 4 [0, 3, 1, 2])
  obtain ⟨G2, k2, h2, r2⟩ := St.freeze_pl (St.sel (L := kn G1 :: plA pa xs :: tgO xs :: L) h1 3 [1, 0, 2])
  obtain ⟨G3, k3, h3, r3⟩ := St.tgO_freeze (St.sel (L := kn G2 :: tgO xs :: L) h2 2 [1, 0])
  exact ⟨G3, Fz.le_trans k1 (Fz.le_trans k2 k3), h3, RdF.mono r1 (Fz.le_trans k2 k3), xs, hx, RdF.mono r2 k3, r3⟩
theorem cfgR_nil (F : Fz) : cfgR F (none, 0, 0) (none, 0, 0) [] [] := ⟨RdF.nil F none, [], rfl, RdF.nil F none, fun x hx => by cases hx⟩
theorem len_ne (a b : Nat) : (((a : Nat) : Int) != ((b : Nat) : Int)) = !decide (a = b) := by
  rw [ne_dec, Bool.eq_iff_iff]; simp; omega
theorem eq_of_take {α : Type} {l1 l2 : List α} {j : Nat} (hl : l1.length = l2.length) (h : l1.take j = l2.take j) (hj : l1.length ≤ j) : l1 = l2 := by
  rwa [List.take_of_length_le hj, List.take_of_length_le (by omega)] at h
theorem take_step {α : Type} {l1 l2 : List α} {j : Nat} (h1 : j < l1.length) (h2 : j < l2.length) (h : l1.take j = l2.take j) (e : l1[j] = l2[j]) : l1.take (j + 1) = l2.take (j + 1) := by
  rw [List.take_succ_eq_append_getElem h1, List.take_succ_eq_append_getElem h2, h, e]
theorem ne_at {α : Type} {l1 l2 : List α} {j : Nat} (h1 : j < l1.length) (h2 : j < l2.length) (e : l1[j] ≠ l2[j]) : l1 ≠ l2 := fun h => e (by subst h; rfl)
theorem pl_at {xs : List PlS} {a : Option Addr} {l : Nat} (h : RdS w a l 2 (xs.flatMap pcV)) {j : Nat} (hj : j < xs.length) : ∃ ad, a = some ad ∧ rd w (ad.add (j * 2)) (.string (bs xs[j].2.name)) ∧ rd w ((ad.add (j * 2)).add 1) (.slice xs[j].1.1 xs[j].1.2.1 xs[j].1.2.2) ∧ rd w (ad.add (j * 2)) (.agg #[.string (bs xs[j].2.name), .slice xs[j].1.1 xs[j].1.2.1 xs[j].1.2.2]) := by
  obtain ⟨ad, ha, h1, h2⟩ := h.elem (f := pcV) pcV_len (List.getElem?_eq_getElem hj) (by decide)
  exact ⟨ad, ha, h2 0 _ rfl rfl, h2 1 _ rfl rfl, h1⟩
theorem rt_at {xs : List Cm.Rt} {a : Option Addr} {l : Nat} (h : RdS w a l 3 (xs.flatMap rcV)) {j : Nat} (hj : j < xs.length) : ∃ ad, a = some ad ∧ rd w (ad.add (j * 3)) (.agg #[.string (bs xs[j].host), .string (bs xs[j].pfx), .string (bs xs[j].pool)]) ∧ ∀ k v, (rcV xs[j])[k]? = some v → one v = true → rd w ((ad.add (j * 3)).add k) v := by
  obtain ⟨ad, ha, h1, h2⟩ := h.elem (f := rcV) rcV_len (List.getElem?_eq_getElem hj) (by decide)
  exact ⟨ad, ha, h1, h2⟩
variable {v1 v2 : Int} {ra1 pa1 ra2 pa2 : Sl} {rs1 rs2 : List Cm.Rt} {ps1 ps2 : List Cm.Pl} {a b : Nat}
abbrev scL (a b : Nat) (v1 : Int) (ra1 pa1 : Sl) (v2 : Int) (ra2 pa2 : Sl) (L : List Asrt) : List Asrt := blkL b 30 (cfgL v2 ra2 pa2) :: blkL a 30 (cfgL v1 ra1 pa1) :: L
set_option maxHeartbeats 1000000 in
theorem sc_pools {Kn : World → Prop} {Kr : Bool → World → Prop} {Kp : List PanicEntry → World → Prop} {xs1 xs2 : List PlS} (hm : kn F ∈ L) (h : St E (scL a b v1 ra1 pa1 v2 ra2 pa2 L) w) (r1 : RdF F pa1.1 pa1.2.1 2 (xs1.flatMap pcV)) (r2 : RdF F pa2.1 pa2.2.1 2 (xs2.flatMap pcV))
    (t1 : ∀ x ∈ xs1, RdF F x.1.1 x.1.2.1 2 (x.2.tg.flatMap tV)) (t2 : ∀ x ∈ xs2, RdF F x.1.1 x.1.2.1 2 (x.2.tg.flatMap tV)) (hl : xs1.length = xs2.length) (hb : xs1.length ≤ 1000000) (ht : ∀ x ∈ xs1, x.2.tg.length ≤ huge)
    (k1 : xs1.map (·.2) = xs2.map (·.2) → ∀ w', St E (scL a b v1 ra1 pa1 v2 ra2 pa2 L) w' → Kn w') (k2 : xs1.map (·.2) ≠ xs2.map (·.2) → ∀ w', St E (scL a b v1 ra1 pa1 v2 ra2 pa2 L) w' → Kr false w') :
    T_ref08_SameConfig_2 0 ⟨a, 0, none⟩ ⟨b, 0, none⟩ w Kn Kr Kp := by
  have hbig : big = 140737488355328 := rfl
  have n1 := r1.count pcV_len (by decide) h (List.mem_cons_of_mem _ (List.mem_cons_of_mem _ hm))
  have n2 := r2.count pcV_len (by decide) h (List.mem_cons_of_mem _ (List.mem_cons_of_mem _ hm))
  unfold T_ref08_SameConfig_2
  intro X hX
  refine up_to xs1.length (Q := fun j => ∀ w : World, (xs1.map (·.2)).take j = (xs2.map (·.2)).take j → St E (scL a b v1 ra1 pa1 v2 ra2 pa2 L) w → X (j : Int) w) ?_ w rfl h
  intro j hj ih w he h
  refine hX _ _ ?_
  unfold T_ref08_SameConfig_2_body
  refine ⟨_, _, _, rd_fld h.f1.at_blk rfl rfl, ?_⟩
  rw [← n1]
  refine ite_d (fun hc => ?_) fun hc => ?_
  · have hjl : j < xs1.length := by omega
    have hjl2 : j < xs2.length := by omega
    intro w26
    have h26 : St E _ w26 := h.drew
    clear_value w26
    obtain ⟨ad1, ha1, hn1, hs1, _⟩ := pl_at (r1.at h26 (List.mem_cons_of_mem _ (List.mem_cons_of_mem _ hm))) hjl
    obtain ⟨ad2, ha2, hn2, hs2, _⟩ := pl_at (r2.at h26 (List.mem_cons_of_mem _ (List.mem_cons_of_mem _ hm))) hjl2
    have e1 : (xs1.map (·.2))[j]'(by simpa using hjl) = xs1[j].2 := by simp
    have e2 : (xs2.map (·.2))[j]'(by simpa using hjl2) = xs2[j].2 := by simp
    refine ⟨_, _, _, rd_fld h26.f1.at_blk rfl rfl, by omega, by omega, ad1, ha1, _, by rw [Int.toNat_natCast]; exact hn1, _, _, _, rd_fld h26.at_blk rfl rfl, by omega, by omega, ad2, ha2, _, by rw [Int.toNat_natCast]; exact hn2, ite_b (fun hx => ?_) fun hx => ?_⟩
    · refine ⟨⟨rd_fld h26.at_blk rfl rfl, rd_fld h26.f1.at_blk rfl rfl, trivial⟩, k2 ?_ _ h26⟩
      rw [str_beq] at hx
      refine ne_at (by simpa using hjl) (by simpa using hjl2) fun e => ?_
      rw [e1, e2] at e
      simp [e] at hx
    · refine ⟨_, _, _, rd_fld h26.f1.at_blk rfl rfl, by omega, by omega, ad1, ha1, _, _, _, by rw [Int.toNat_natCast]; exact hs1, _, _, _, rd_fld h26.at_blk rfl rfl, by omega, by omega, ad2, ha2, _, _, _, by rw [Int.toNat_natCast]; exact hs2, ?_⟩
      refine SameTargets_spec (s1 := xs1[j].1) (s2 := xs2[j].1) (List.mem_cons_of_mem _ (List.mem_cons_of_mem _ hm)) h26 (t1 _ (List.getElem_mem hjl)) (t2 _ (List.getElem_mem hjl2)) (ht _ (List.getElem_mem hjl)) fun w40 h40 => ⟨_, rfl, ⟨rd_fld h40.at_blk rfl rfl, rd_fld h40.f1.at_blk rfl rfl, rd_fld h40.at_blk rfl rfl, rd_fld h40.f1.at_blk rfl rfl, trivial⟩, ite_b (fun hy => ?_) fun hy => ?_⟩
      · refine k2 (ne_at (by simpa using hjl) (by simpa using hjl2) fun e => ?_) _ h40
        rw [e1, e2] at e
        simp [e] at hy
      · rw [succ_big (by omega)]
        refine ih hjl _ (take_step (by simpa using hjl) (by simpa using hjl2) he ?_) h40
        rw [e1, e2]
        rw [str_beq] at hx
        have hx : xs1[j].2.name = xs2[j].2.name := by simpa using hx
        have hy : xs1[j].2.tg = xs2[j].2.tg := by simpa using hy
        generalize xs1[j].2 = q1 at *
        generalize xs2[j].2 = q2 at *
        cases q1; cases q2
        simp only at hx hy
        rw [hx, hy]
  · exact k1 (eq_of_take (by simpa using hl) he (by simp; omega)) _ h
set_option maxHeartbeats 1000000 in
theorem sc_routes {Kn : World → Prop} {Kr : Bool → World → Prop} {Kp : List PanicEntry → World → Prop} (hm : kn F ∈ L) (h : St E (scL a b v1 ra1 pa1 v2 ra2 pa2 L) w) (r1 : RdF F ra1.1 ra1.2.1 3 (rs1.flatMap rcV)) (r2 : RdF F ra2.1 ra2.2.1 3 (rs2.flatMap rcV))
    (hl : rs1.length = rs2.length) (hb : rs1.length ≤ 1000000)
    (k1 : rs1 = rs2 → ∀ w', St E (scL a b v1 ra1 pa1 v2 ra2 pa2 L) w' → Kn w') (k2 : rs1 ≠ rs2 → ∀ w', St E (scL a b v1 ra1 pa1 v2 ra2 pa2 L) w' → Kr false w') :
    T_ref08_SameConfig_3 0 ⟨a, 0, none⟩ ⟨b, 0, none⟩ w Kn Kr Kp := by
  have hbig : big = 140737488355328 := rfl
  have n1 := r1.count rcV_len (by decide) h (List.mem_cons_of_mem _ (List.mem_cons_of_mem _ hm))
  have n2 := r2.count rcV_len (by decide) h (List.mem_cons_of_mem _ (List.mem_cons_of_mem _ hm))
  unfold T_ref08_SameConfig_3
  intro X hX
  refine up_to rs1.length (Q := fun j => ∀ w : World, rs1.take j = rs2.take j → St E (scL a b v1 ra1 pa1 v2 ra2 pa2 L) w → X (j : Int) w) ?_ w rfl h
  intro j hj ih w he h
  refine hX _ _ ?_
  unfold T_ref08_SameConfig_3_body
  refine ⟨_, _, _, rd_fld h.f1.at_blk rfl rfl, ?_⟩
  rw [← n1]
  refine ite_d (fun hc => ?_) fun hc => ?_
  · have hjl : j < rs1.length := by omega
    have hjl2 : j < rs2.length := by omega
    intro w26
    have h26 : St E _ w26 := h.drew
    clear_value w26
    obtain ⟨ad1, ha1, hn1, _⟩ := rt_at (r1.at h26 (List.mem_cons_of_mem _ (List.mem_cons_of_mem _ hm))) hjl
    obtain ⟨ad2, ha2, hn2, _⟩ := rt_at (r2.at h26 (List.mem_cons_of_mem _ (List.mem_cons_of_mem _ hm))) hjl2
    refine ⟨_, _, _, rd_fld h26.f1.at_blk rfl rfl, by omega, by omega, ad1, ha1, _, _, _, by rw [Int.toNat_natCast]; exact hn1, _, _, _, rd_fld h26.at_blk rfl rfl, by omega, by omega, ad2, ha2, _, _, _, by rw [Int.toNat_natCast]; exact hn2, ?_⟩
    refine runV_ok (run_ne_agg (by kernel_rfl) (route_eq rs1[j] rs2[j])) ⟨_, rfl, trivial, ite_b (fun hx => ?_) fun hx => ?_⟩
    · exact k2 (ne_at hjl hjl2 fun e => by simp [e] at hx) _ h26
    · rw [succ_big (by omega)]
      exact ih hjl _ (take_step hjl hjl2 he (by simpa using hx)) h26
  · exact k1 (eq_of_take hl he (by omega)) _ h
/-- SameConfig. -/
theorem SameConfig_spec (hm : kn F ∈ L) (h : St E L w) (r1 : cfgR F ra1 pa1 rs1 ps1) (r2 : cfgR F ra2 pa2 rs2 ps2) (hp : ps1.length ≤ 1000000) (hr : rs1.length ≤ 1000000) (ht : ∀ x ∈ ps1, x.tg.length ≤ huge)
    (k : ∀ w', St E L w' → R (.returned (.bool (decide (v1 = v2 ∧ ps1 = ps2 ∧ rs1 = rs2)))) w') : Calls Tryz.prog 20 #[cfgV v1 ra1 pa1, cfgV v2 ra2 pa2] w R := by
  obtain ⟨rr1, xs1, rfl, rp1, rt1⟩ := r1
  obtain ⟨rr2, xs2, rfl, rp2, rt2⟩ := r2
  refine C_ref08_SameConfig ?_
  unfold T_ref08_SameConfig
  intro w7
  have h7 : St E (blkL w.heap.size 30 (cfgL v1 ra1 pa1) :: L) w7 := h.alloc _
  intro w8
  have h8 : St E (scL w.heap.size w7.heap.size v1 ra1 pa1 v2 ra2 pa2 L) w8 := h7.alloc _
  clear_value w8
  clear h7
  generalize w7.heap.size = b at *
  generalize w.heap.size = a at *
  have hm2 : ∀ {A B : Asrt}, kn F ∈ A :: B :: L := List.mem_cons_of_mem _ (List.mem_cons_of_mem _ hm)
  have n1 := rp1.count pcV_len (by decide) h8 hm2
  have n2 := rp2.count pcV_len (by decide) h8 hm2
  have m1 := rr1.count rcV_len (by decide) h8 hm2
  have m2 := rr2.count rcV_len (by decide) h8 hm2
  have no : ∀ {w : World}, St E (scL a b v1 ra1 pa1 v2 ra2 pa2 L) w → ¬ (v1 = v2 ∧ xs1.map (·.2) = xs2.map (·.2) ∧ rs1 = rs2) → R (.returned (.bool false)) w := fun h hn => congB (k _ h.drop.drop) (by simpa using hn)
  unfold T_ref08_SameConfig_1
  refine ⟨_, rd_cell h8.f1.at_blk rfl rfl, _, rd_cell h8.at_blk rfl rfl, ite_b (fun hx => ?_) fun hx => ⟨_, _, _, rd_fld h8.f1.at_blk rfl rfl, _, _, _, rd_fld h8.at_blk rfl rfl, ite_b (fun hy => ?_) fun hy => ⟨_, _, _, rd_fld h8.f1.at_blk rfl rfl, _, _, _, rd_fld h8.at_blk rfl rfl, ite_b (fun hz => ?_) fun hz => ?_⟩⟩⟩
  · exact ite_b (fun _ => no h8 fun hh => by simp [hh.1] at hx) fun hh => by cases hh
  · refine ite_b (fun _ => no h8 fun hh => ?_) fun hh => by cases hh
    rw [len_ne] at hy
    have := congrArg List.length hh.2.1
    simp only [List.length_map] at this
    simp [← n1, ← n2, this] at hy
  · rw [len_ne] at hz
    refine no h8 fun hh => ?_
    have := congrArg List.length hh.2.2
    simp [← m1, ← m2, this] at hz
  · rw [len_ne] at hy hz
    have hy : xs1.length = xs2.length := by rw [n1, n2]; simpa using hy
    have hz : rs1.length = rs2.length := by rw [m1, m2]; simpa using hz
    have hx : v1 = v2 := by simpa using hx
    refine sc_pools hm h8 rp1 rp2 rt1 rt2 hy (by simpa using hp) (fun x hx => ht x.2 (List.mem_map_of_mem hx)) (fun he w3 h3 => ?_) fun hne w3 h3 => no h3 fun hh => hne hh.2.1
    exact sc_routes hm h3 rr1 rr2 hz hr (fun he2 w4 h4 => congB (k _ h4.drop.drop) (by simp [hx, he, he2])) fun hne w4 h4 => no h4 fun hh => hne hh.2.2
end
end Go.Vc
