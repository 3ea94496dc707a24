/-
  Texts of this claim's own, laid into one: ConfT, Gd, ConfU, Gr, Gp, ConfPc, ConfX, GChecks, ConfCh.
-/
import Derived.Test.YtcpmfjclkdjfmaaProg
import Derived.KernelRfl
import Derived.SizedLaws
import Derived.Test.YtcpmfjclkdjfmaaXConfChecksA
import Derived.Test.YtcpmfjclkdjfmaaXConfChecksB
import Derived.Test.YtcpmfjclkdjfmaaXConfChecksC
import Derived.Test.YtcpmfjclkdjfmaaXConfChecksD
/-
  Configurations held against each other; results held against each other.
-/
namespace Go.Vc
open Go Go.Proofs Go.Proofs.Ytcpmfjclkdjfmaa
set_option maxRecDepth 100000
section
variable {E w : World} {L : List Asrt} {R : Ending → World → Prop} {F G : Fz}
theorem res_eq (x y : Operand) (a b c d : Int) : (do eqGuard .eql 37 x y (.agg #[.int .i64 a, .int .i64 b]) (.agg #[.int .i64 c, .int .i64 d]); binOp .eql 37 (.agg #[.int .i64 a, .int .i64 b]) (.agg #[.int .i64 c, .int .i64 d]) : Sem Value).run Try.prog w = .ok (.bool (decide ((a, b) = (c, d)))) w :=
  run_eq_agg (by kernel_rfl) ((keyLaw_int2 (P := Try.prog) (t := 37) (f0 := ⟨ "E", 35, 0, false, "", "", 0⟩) (f1 := ⟨ "Version", 3, 1, false, "", "", 8⟩) (by kernel_rfl) (by kernel_rfl) (by kernel_rfl) (by decide) (by decide) rfl rfl (by kernel_rfl)).eq (a, b) (c, d) w)
theorem res_ne (x y : Operand) (a b c d : Int) : (do eqGuard .neq 37 x y (.agg #[.int .i64 a, .int .i64 b]) (.agg #[.int .i64 c, .int .i64 d]); binOp .neq 37 (.agg #[.int .i64 a, .int .i64 b]) (.agg #[.int .i64 c, .int .i64 d]) : Sem Value).run Try.prog w = .ok (.bool (!decide ((a, b) = (c, d)))) w :=
  run_ne_agg (by kernel_rfl) ((keyLaw_int2 (P := Try.prog) (t := 37) (f0 := ⟨ "E", 35, 0, false, "", "", 0⟩) (f1 := ⟨ "Version", 3, 1, false, "", "", 8⟩) (by kernel_rfl) (by kernel_rfl) (by kernel_rfl) (by decide) (by decide) rfl rfl (by kernel_rfl)).eq (a, b) (c, d) w)
theorem route_eq (a b : Cm.Rt) : (Op.equal 77 (.agg #[.string (bs a.host), .string (bs a.pfx), .string (bs a.pool)]) (.agg #[.string (bs b.host), .string (bs b.pfx), .string (bs b.pool)])).run Try.prog w = .ok (decide (a = b)) w := by
  have := equal_str3 (P := Try.prog) (t := 77) (w := w) (f0 := ⟨ "Host", 9, 0, false, "", "", 0⟩) (f1 := ⟨ "Prefix", 9, 1, false, "", "", 16⟩) (f2 := ⟨ "Pool", 9, 2, false, "", "", 32⟩) (by kernel_rfl) (by kernel_rfl) (by kernel_rfl) (by kernel_rfl) (by decide) (by decide) (by decide) rfl rfl rfl (by kernel_rfl) (bs a.host) (bs a.pfx) (bs a.pool) (bs b.host) (bs b.pfx) (bs b.pool)
  rw [this]
  congr 1
  have e : ∀ x y : Cm.Bs, bs x = bs y ↔ x = y := fun x y => ⟨bs_inj, congrArg bs⟩
  obtain ⟨a1, a2, a3⟩ := a
  obtain ⟨b1, b2, b3⟩ := b
  simp only [e, Cm.Rt.mk.injEq]
  rw [Bool.eq_iff_iff]
  simp
/-- A configuration, known for good. -/
def cfgR (F : Fz) (ra pa : Sl) (rs : List Cm.Rt) (ps : List Cm.Pl) : Prop :=
  RdF F ra.1 ra.2.1 3 (rs.flatMap rcV) ∧ ∃ xs : List PlS, xs.map (·.2) = ps ∧ RdF F pa.1 pa.2.1 2 (xs.flatMap pcV) ∧ ∀ x ∈ xs, RdF F x.1.1 x.1.2.1 2 (x.2.tg.flatMap tV)
theorem cfgR.mono {ra pa : Sl} {rs : List Cm.Rt} {ps : List Cm.Pl} (h : cfgR F ra pa rs ps) (k : Fz.le F G) : cfgR G ra pa rs ps := by
  obtain ⟨h1, xs, h2, h3, h4⟩ := h
  exact ⟨RdF.mono h1 k, xs, h2, RdF.mono h3 k, fun x hx => RdF.mono (h4 x hx) k⟩
theorem St.cfg_freeze {ra pa : Sl} {rs : List Cm.Rt} {ps : List Cm.Pl} {xs : List PlS} (hx : xs.map (·.2) = ps) (h : St E (rtA ra rs :: plA pa xs :: tgO xs :: kn F :: L) w) : ∃ G, Fz.le F G ∧ St E (kn G :: L) w ∧ cfgR G ra pa rs ps := by
  obtain ⟨G1, k1, h1, r1⟩ := St.freeze_rt (h.sel 4 [0, 3, 1, 2])
  obtain ⟨G2, k2, h2, r2⟩ := St.freeze_pl (St.sel (L := kn G1 :: plA pa xs :: tgO xs :: L) h1 3 [1, 0, 2])
  obtain ⟨G3, k3, h3, r3⟩ := St.tgO_freeze (St.sel (L := kn G2 :: tgO xs :: L) h2 2 [1, 0])
  exact ⟨G3, Fz.le_trans k1 (Fz.le_trans k2 k3), h3, RdF.mono r1 (Fz.le_trans k2 k3), xs, hx, RdF.mono r2 k3, r3⟩
theorem cfgR_nil (F : Fz) : cfgR F (none, 0, 0) (none, 0, 0) [] [] := ⟨RdF.nil F none, [], rfl, RdF.nil F none, fun x hx => by cases hx⟩
theorem len_ne (a b : Nat) : (((a : Nat) : Int) != ((b : Nat) : Int)) = !decide (a = b) := by
  rw [ne_dec, Bool.eq_iff_iff]; simp; omega
theorem eq_of_take {α : Type} {l1 l2 : List α} {j : Nat} (hl : l1.length = l2.length) (h : l1.take j = l2.take j) (hj : l1.length ≤ j) : l1 = l2 := by
  rwa [List.take_of_length_le hj, List.take_of_length_le (by omega)] at h
theorem take_step {α : Type} {l1 l2 : List α} {j : Nat} (h1 : j < l1.length) (h2 : j < l2.length) (h : l1.take j = l2.take j) (e : l1[j] = l2[j]) : l1.take (j + 1) = l2.take (j + 1) := by
  rw [List.take_succ_eq_append_getElem h1, List.take_succ_eq_append_getElem h2, h, e]
theorem ne_at {α : Type} {l1 l2 : List α} {j : Nat} (h1 : j < l1.length) (h2 : j < l2.length) (e : l1[j] ≠ l2[j]) : l1 ≠ l2 := fun h => e (by subst h; rfl)
theorem pl_at {xs : List PlS} {a : Option Addr} {l : Nat} (h : RdS w a l 2 (xs.flatMap pcV)) {j : Nat} (hj : j < xs.length) : ∃ ad, a = some ad ∧ rd w (ad.add (j * 2)) (.string (bs xs[j].2.name)) ∧ rd w ((ad.add (j * 2)).add 1) (.slice xs[j].1.1 xs[j].1.2.1 xs[j].1.2.2) ∧ rd w (ad.add (j * 2)) (.agg #[.string (bs xs[j].2.name), .slice xs[j].1.1 xs[j].1.2.1 xs[j].1.2.2]) := by
  obtain ⟨ad, ha, h1, h2⟩ := h.elem (f := pcV) pcV_len (List.getElem?_eq_getElem hj) (by decide)
  exact ⟨ad, ha, h2 0 _ rfl rfl, h2 1 _ rfl rfl, h1⟩
theorem rt_at {xs : List Cm.Rt} {a : Option Addr} {l : Nat} (h : RdS w a l 3 (xs.flatMap rcV)) {j : Nat} (hj : j < xs.length) : ∃ ad, a = some ad ∧ rd w (ad.add (j * 3)) (.agg #[.string (bs xs[j].host), .string (bs xs[j].pfx), .string (bs xs[j].pool)]) ∧ ∀ k v, (rcV xs[j])[k]? = some v → one v = true → rd w ((ad.add (j * 3)).add k) v := by
  obtain ⟨ad, ha, h1, h2⟩ := h.elem (f := rcV) rcV_len (List.getElem?_eq_getElem hj) (by decide)
  exact ⟨ad, ha, h1, h2⟩
variable {v1 v2 : Int} {ra1 pa1 ra2 pa2 : Sl} {rs1 rs2 : List Cm.Rt} {ps1 ps2 : List Cm.Pl} {a b : Nat}
abbrev scL (a b : Nat) (v1 : Int) (ra1 pa1 : Sl) (v2 : Int) (ra2 pa2 : Sl) (L : List Asrt) : List Asrt := blkL b 33 (cfgL v2 ra2 pa2) :: blkL a 33 (cfgL v1 ra1 pa1) :: L
set_option maxHeartbeats 1000000 in
theorem sc_pools {Kn : World → Prop} {Kr : Bool → World → Prop} {Kp : List PanicEntry → World → Prop} {xs1 xs2 : List PlS} (hm : kn F ∈ L) (h : St E (scL a b v1 ra1 pa1 v2 ra2 pa2 L) w) (r1 : RdF F pa1.1 pa1.2.1 2 (xs1.flatMap pcV)) (r2 : RdF F pa2.1 pa2.2.1 2 (xs2.flatMap pcV))
    (t1 : ∀ x ∈ xs1, RdF F x.1.1 x.1.2.1 2 (x.2.tg.flatMap tV)) (t2 : ∀ x ∈ xs2, RdF F x.1.1 x.1.2.1 2 (x.2.tg.flatMap tV)) (hl : xs1.length = xs2.length) (hb : xs1.length ≤ 1000000) (ht : ∀ x ∈ xs1, x.2.tg.length ≤ huge)
    (k1 : xs1.map (·.2) = xs2.map (·.2) → ∀ w', St E (scL a b v1 ra1 pa1 v2 ra2 pa2 L) w' → Kn w') (k2 : xs1.map (·.2) ≠ xs2.map (·.2) → ∀ w', St E (scL a b v1 ra1 pa1 v2 ra2 pa2 L) w' → Kr false w') :
    T_ref08_SameConfig_2 0 ⟨a, 0, none⟩ ⟨b, 0, none⟩ w Kn Kr Kp := by
  have hbig : big = 140737488355328 := rfl
  have n1 := r1.count pcV_len (by decide) h (List.mem_cons_of_mem _ (List.mem_cons_of_mem _ hm))
  have n2 := r2.count pcV_len (by decide) h (List.mem_cons_of_mem _ (List.mem_cons_of_mem _ hm))
  unfold T_ref08_SameConfig_2
  intro X hX
  refine up_to xs1.length (Q := fun j => ∀ w : World, (xs1.map (·.2)).take j = (xs2.map (·.2)).take j → St E (scL a b v1 ra1 pa1 v2 ra2 pa2 L) w → X (j : Int) w) ?_ w rfl h
  intro j hj ih w he h
  refine hX _ _ ?_
  unfold T_ref08_SameConfig_2_body
  refine ⟨_, _, _, rd_fld h.f1.at_blk rfl rfl, ?_⟩
  rw [← n1]
  refine ite_d (fun hc => ?_) fun hc => ?_
  · have hjl : j < xs1.length := by omega
    have hjl2 : j < xs2.length := by omega
    intro w26
    have h26 : St E _ w26 := h.drew
    clear_value w26
    obtain ⟨ad1, ha1, hn1, hs1, _⟩ := pl_at (r1.at h26 (List.mem_cons_of_mem _ (List.mem_cons_of_mem _ hm))) hjl
    obtain ⟨ad2, ha2, hn2, hs2, _⟩ := pl_at (r2.at h26 (List.mem_cons_of_mem _ (List.mem_cons_of_mem _ hm))) hjl2
    have e1 : (xs1.map (·.2))[j]'(by simpa using hjl) = xs1[j].2 := by simp
    have e2 : (xs2.map (·.2))[j]'(by simpa using hjl2) = xs2[j].2 := by simp
    refine ⟨_, _, _, rd_fld h26.f1.at_blk rfl rfl, by omega, by omega, ad1, ha1, _, by rw [Int.toNat_natCast]; exact hn1, _, _, _, rd_fld h26.at_blk rfl rfl, by omega, by omega, ad2, ha2, _, by rw [Int.toNat_natCast]; exact hn2, ite_b (fun hx => ?_) fun hx => ?_⟩
    · refine ⟨⟨rd_fld h26.at_blk rfl rfl, rd_fld h26.f1.at_blk rfl rfl, trivial⟩, k2 ?_ _ h26⟩
      rw [str_beq] at hx
      refine ne_at (by simpa using hjl) (by simpa using hjl2) fun e => ?_
      rw [e1, e2] at e
      simp [e] at hx
    · refine ⟨_, _, _, rd_fld h26.f1.at_blk rfl rfl, by omega, by omega, ad1, ha1, _, _, _, by rw [Int.toNat_natCast]; exact hs1, _, _, _, rd_fld h26.at_blk rfl rfl, by omega, by omega, ad2, ha2, _, _, _, by rw [Int.toNat_natCast]; exact hs2, ?_⟩
      refine SameTargets_spec (s1 := xs1[j].1) (s2 := xs2[j].1) (List.mem_cons_of_mem _ (List.mem_cons_of_mem _ hm)) h26 (t1 _ (List.getElem_mem hjl)) (t2 _ (List.getElem_mem hjl2)) (ht _ (List.getElem_mem hjl)) fun w40 h40 => ⟨_, rfl, ⟨rd_fld h40.at_blk rfl rfl, rd_fld h40.f1.at_blk rfl rfl, rd_fld h40.at_blk rfl rfl, rd_fld h40.f1.at_blk rfl rfl, trivial⟩, ite_b (fun hy => ?_) fun hy => ?_⟩
      · refine k2 (ne_at (by simpa using hjl) (by simpa using hjl2) fun e => ?_) _ h40
        rw [e1, e2] at e
        simp [e] at hy
      · rw [succ_big (by omega)]
        refine ih hjl _ (take_step (by simpa using hjl) (by simpa using hjl2) he ?_) h40
        rw [e1, e2]
        rw [str_beq] at hx
        have hx : xs1[j].2.name = xs2[j].2.name := by simpa using hx
        have hy : xs1[j].2.tg = xs2[j].2.tg := by simpa using hy
        generalize xs1[j].2 = q1 at *
        generalize xs2[j].2 = q2 at *
        cases q1; cases q2
        simp only at hx hy
        rw [hx, hy]
  · exact k1 (eq_of_take (by simpa using hl) he (by simp; omega)) _ h
set_option maxHeartbeats 1000000 in
theorem sc_routes {Kn : World → Prop} {Kr : Bool → World → Prop} {Kp : List PanicEntry → World → Prop} (hm : kn F ∈ L) (h : St E (scL a b v1 ra1 pa1 v2 ra2 pa2 L) w) (r1 : RdF F ra1.1 ra1.2.1 3 (rs1.flatMap rcV)) (r2 : RdF F ra2.1 ra2.2.1 3 (rs2.flatMap rcV))
    (hl : rs1.length = rs2.length) (hb : rs1.length ≤ 1000000)
    (k1 : rs1 = rs2 → ∀ w', St E (scL a b v1 ra1 pa1 v2 ra2 pa2 L) w' → Kn w') (k2 : rs1 ≠ rs2 → ∀ w', St E (scL a b v1 ra1 pa1 v2 ra2 pa2 L) w' → Kr false w') :
    T_ref08_SameConfig_3 0 ⟨a, 0, none⟩ ⟨b, 0, none⟩ w Kn Kr Kp := by
  have hbig : big = 140737488355328 := rfl
  have n1 := r1.count rcV_len (by decide) h (List.mem_cons_of_mem _ (List.mem_cons_of_mem _ hm))
  have n2 := r2.count rcV_len (by decide) h (List.mem_cons_of_mem _ (List.mem_cons_of_mem _ hm))
  unfold T_ref08_SameConfig_3
  intro X hX
  refine up_to rs1.length (Q := fun j => ∀ w : World, rs1.take j = rs2.take j → St E (scL a b v1 ra1 pa1 v2 ra2 pa2 L) w → X (j : Int) w) ?_ w rfl h
  intro j hj ih w he h
  refine hX _ _ ?_
  unfold T_ref08_SameConfig_3_body
  refine ⟨_, _, _, rd_fld h.f1.at_blk rfl rfl, ?_⟩
  rw [← n1]
  refine ite_d (fun hc => ?_) fun hc => ?_
  · have hjl : j < rs1.length := by omega
    have hjl2 : j < rs2.length := by omega
    intro w26
    have h26 : St E _ w26 := h.drew
    clear_value w26
    obtain ⟨ad1, ha1, hn1, _⟩ := rt_at (r1.at h26 (List.mem_cons_of_mem _ (List.mem_cons_of_mem _ hm))) hjl
    obtain ⟨ad2, ha2, hn2, _⟩ := rt_at (r2.at h26 (List.mem_cons_of_mem _ (List.mem_cons_of_mem _ hm))) hjl2
    refine ⟨_, _, _, rd_fld h26.f1.at_blk rfl rfl, by omega, by omega, ad1, ha1, _, _, _, by rw [Int.toNat_natCast]; exact hn1, _, _, _, rd_fld h26.at_blk rfl rfl, by omega, by omega, ad2, ha2, _, _, _, by rw [Int.toNat_natCast]; exact hn2, ?_⟩
    refine runV_ok (run_ne_agg (by kernel_rfl) (route_eq rs1[j] rs2[j])) ⟨_, rfl, trivial, ite_b (fun hx => ?_) fun hx => ?_⟩
    · exact k2 (ne_at hjl hjl2 fun e => by simp [e] at hx) _ h26
    · rw [succ_big (by omega)]
      exact ih hjl _ (take_step hjl hjl2 he (by simpa using hx)) h26
  · exact k1 (eq_of_take hl he (by omega)) _ h
/-- SameConfig. -/
theorem SameConfig_spec (hm : kn F ∈ L) (h : St E L w) (r1 : cfgR F ra1 pa1 rs1 ps1) (r2 : cfgR F ra2 pa2 rs2 ps2) (hp : ps1.length ≤ 1000000) (hr : rs1.length ≤ 1000000) (ht : ∀ x ∈ ps1, x.tg.length ≤ huge)
    (k : ∀ w', St E L w' → R (.returned (.bool (decide (v1 = v2 ∧ ps1 = ps2 ∧ rs1 = rs2)))) w') : Calls Try.prog 11 #[cfgV v1 ra1 pa1, cfgV v2 ra2 pa2] w R := by
  obtain ⟨rr1, xs1, rfl, rp1, rt1⟩ := r1
  obtain ⟨rr2, xs2, rfl, rp2, rt2⟩ := r2
  refine C_ref08_SameConfig ?_
  unfold T_ref08_SameConfig
  intro w7
  have h7 : St E (blkL w.heap.size 33 (cfgL v1 ra1 pa1) :: L) w7 := h.alloc _
  intro w8
  have h8 : St E (scL w.heap.size w7.heap.size v1 ra1 pa1 v2 ra2 pa2 L) w8 := h7.alloc _
  clear_value w8
  clear h7
  generalize w7.heap.size = b at *
  generalize w.heap.size = a at *
  have hm2 : ∀ {A B : Asrt}, kn F ∈ A :: B :: L := List.mem_cons_of_mem _ (List.mem_cons_of_mem _ hm)
  have n1 := rp1.count pcV_len (by decide) h8 hm2
  have n2 := rp2.count pcV_len (by decide) h8 hm2
  have m1 := rr1.count rcV_len (by decide) h8 hm2
  have m2 := rr2.count rcV_len (by decide) h8 hm2
  have no : ∀ {w : World}, St E (scL a b v1 ra1 pa1 v2 ra2 pa2 L) w → ¬ (v1 = v2 ∧ xs1.map (·.2) = xs2.map (·.2) ∧ rs1 = rs2) → R (.returned (.bool false)) w := fun h hn => congB (k _ h.drop.drop) (by simpa using hn)
  unfold T_ref08_SameConfig_1
  refine ⟨_, rd_cell h8.f1.at_blk rfl rfl, _, rd_cell h8.at_blk rfl rfl, ite_b (fun hx => ?_) fun hx => ⟨_, _, _, rd_fld h8.f1.at_blk rfl rfl, _, _, _, rd_fld h8.at_blk rfl rfl, ite_b (fun hy => ?_) fun hy => ⟨_, _, _, rd_fld h8.f1.at_blk rfl rfl, _, _, _, rd_fld h8.at_blk rfl rfl, ite_b (fun hz => ?_) fun hz => ?_⟩⟩⟩
  · exact ite_b (fun _ => no h8 fun hh => by simp [hh.1] at hx) fun hh => by cases hh
  · refine ite_b (fun _ => no h8 fun hh => ?_) fun hh => by cases hh
    rw [len_ne] at hy
    have := congrArg List.length hh.2.1
    simp only [List.length_map] at this
    simp [← n1, ← n2, this] at hy
  · rw [len_ne] at hz
    refine no h8 fun hh => ?_
    have := congrArg List.length hh.2.2
    simp [← m1, ← m2, this] at hz
  · rw [len_ne] at hy hz
    have hy : xs1.length = xs2.length := by rw [n1, n2]; simpa using hy
    have hz : rs1.length = rs2.length := by rw [m1, m2]; simpa using hz
    have hx : v1 = v2 := by simpa using hx
    refine sc_pools hm h8 rp1 rp2 rt1 rt2 hy (by simpa using hp) (fun x hx => ht x.2 (List.mem_map_of_mem hx)) (fun he w3 h3 => ?_) fun hne w3 h3 => no h3 fun hh => hne hh.2.1
    exact sc_routes hm h3 rr1 rr2 hz hr (fun he2 w4 h4 => congB (k _ h4.drop.drop) (by simp [hx, he, he2])) fun hne w4 h4 => no h4 fun hh => hne hh.2.2
end
end Go.Vc

/-
  What the functions' code comes to; printed by a program of this claim's own.
-/
namespace Go.Proofs.Ytcpmfjclkdjfmaa
open Go Go.Vc
set_option maxRecDepth 100000
set_option linter.unusedVariables false

/-! tollgate/tollgatelaw08.live -/
def T_law08_live  (w : World) (R : Ending → World → Prop) : Prop :=
  Calls Try.prog 7 #[] w (ret (fun r1 w2 => ∃ p3 : Option Addr, r1 = .pointer p3 ∧ Calls Try.prog 20 #[.string (ByteArray.mk #[97])] w2 (ret (fun r4 w5 => ∃ x6 : Int, ∃ x7 : Int, ∃ x8 : Int, ∃ x9 : Int, ∃ s10 : ByteArray, ∃ s11 : ByteArray, ∃ s12 : ByteArray, ∃ s13a : Option Addr, ∃ s13l : Nat, ∃ s13c : Nat, r4 = .agg #[.int .i64 x6, .int .i64 x7, .int .i64 x8, .int .i64 x9, .string s10, .string s11, .string s12, .slice s13a s13l s13c] ∧ Calls Try.prog 10 #[.pointer p3, .agg #[.int .i64 x6, .int .i64 x7, .int .i64 x8, .int .i64 x9, .string s10, .string s11, .string s12, .slice s13a s13l s13c]] w5 (ret (fun r14 w15 => ∃ x16 : Int, ∃ x17 : Int, r14 = .agg #[.int .i64 x16, .int .i64 x17] ∧ let w18 : World := w15.alloc (.cells #[.int .i64 0, .int .i64 0] 37)
  (.agg #[.int .i64 x16, .int .i64 x17] : Value).cells.size = 2 ∧ wrOk w18 (⟨w15.heap.size, 0, none⟩ : Addr) (.agg #[.int .i64 x16, .int .i64 x17]) ∧ let w19 : World := wr w18 (⟨w15.heap.size, 0, none⟩ : Addr) (.agg #[.int .i64 x16, .int .i64 x17])
  Calls Try.prog 28 #[.string (ByteArray.mk #[120, 46, 121]), .string (ByteArray.mk #[47]), .string (ByteArray.mk #[97])] w19 (ret (fun r20 w21 => ∃ x22 : Int, ∃ x23 : Int, ∃ x24 : Int, ∃ x25 : Int, ∃ s26 : ByteArray, ∃ s27 : ByteArray, ∃ s28 : ByteArray, ∃ s29a : Option Addr, ∃ s29l : Nat, ∃ s29c : Nat, r20 = .agg #[.int .i64 x22, .int .i64 x23, .int .i64 x24, .int .i64 x25, .string s26, .string s27, .string s28, .slice s29a s29l s29c] ∧ Calls Try.prog 10 #[.pointer p3, .agg #[.int .i64 x22, .int .i64 x23, .int .i64 x24, .int .i64 x25, .string s26, .string s27, .string s28, .slice s29a s29l s29c]] w21 (ret (fun r30 w31 => ∃ x32 : Int, ∃ x33 : Int, r30 = .agg #[.int .i64 x32, .int .i64 x33] ∧ let w34 : World := w31.alloc (.cells #[.int .i64 0, .int .i64 0] 37)
  (.agg #[.int .i64 x32, .int .i64 x33] : Value).cells.size = 2 ∧ wrOk w34 (⟨w31.heap.size, 0, none⟩ : Addr) (.agg #[.int .i64 x32, .int .i64 x33]) ∧ let w35 : World := wr w34 (⟨w31.heap.size, 0, none⟩ : Addr) (.agg #[.int .i64 x32, .int .i64 x33])
  Calls Try.prog 10 #[.pointer p3, .agg #[.int .i64 2, .int .i64 0, .int .i64 0, .int .i64 (-1), .string (ByteArray.mk #[]), .string (ByteArray.mk #[]), .string (ByteArray.mk #[97]), .slice none 0 0]] w35 (ret (fun r36 w37 => ∃ x38 : Int, ∃ x39 : Int, r36 = .agg #[.int .i64 x38, .int .i64 x39] ∧ let w40 : World := w37.alloc (.cells #[.int .i64 0, .int .i64 0] 37)
  (.agg #[.int .i64 x38, .int .i64 x39] : Value).cells.size = 2 ∧ wrOk w40 (⟨w37.heap.size, 0, none⟩ : Addr) (.agg #[.int .i64 x38, .int .i64 x39]) ∧ let w41 : World := wr w40 (⟨w37.heap.size, 0, none⟩ : Addr) (.agg #[.int .i64 x38, .int .i64 x39])
  Calls Try.prog 9 #[.pointer p3] w41 (ret (fun r42 w43 => ∃ x44 : Int, ∃ s45a : Option Addr, ∃ s45l : Nat, ∃ s45c : Nat, ∃ s46a : Option Addr, ∃ s46l : Nat, ∃ s46c : Nat, r42 = .agg #[.int .i64 x44, .slice s45a s45l s45c, .slice s46a s46l s46c] ∧ let w47 : World := w43.alloc (.cells #[.int .i64 0, .slice none 0 0, .slice none 0 0] 33)
  (.agg #[.int .i64 x44, .slice s45a s45l s45c, .slice s46a s46l s46c] : Value).cells.size = 3 ∧ wrOk w47 (⟨w43.heap.size, 0, none⟩ : Addr) (.agg #[.int .i64 x44, .slice s45a s45l s45c, .slice s46a s46l s46c]) ∧ let w48 : World := wr w47 (⟨w43.heap.size, 0, none⟩ : Addr) (.agg #[.int .i64 x44, .slice s45a s45l s45c, .slice s46a s46l s46c])
  ∃ x49 : Int, ∃ x50 : Int, rd w48 (⟨w15.heap.size, 0, none⟩ : Addr) (.agg #[.int .i64 x49, .int .i64 x50]) ∧ runV Try.prog (do eqGuard .eql 37 (.tmp 18) (.tmp 19) (.agg #[.int .i64 x49, .int .i64 x50]) (.agg #[.int .i64 0, .int .i64 1]); binOp .eql 37 (.agg #[.int .i64 x49, .int .i64 x50]) (.agg #[.int .i64 0, .int .i64 1])) w48 (fun r51 w52 => ∃ b53 : Bool, r51 = .bool b53 ∧ if b53 = true then (∃ x54 : Int, ∃ x55 : Int, rd w52 (⟨w31.heap.size, 0, none⟩ : Addr) (.agg #[.int .i64 x54, .int .i64 x55]) ∧ runV Try.prog (do eqGuard .eql 37 (.tmp 22) (.tmp 23) (.agg #[.int .i64 x54, .int .i64 x55]) (.agg #[.int .i64 0, .int .i64 2]); binOp .eql 37 (.agg #[.int .i64 x54, .int .i64 x55]) (.agg #[.int .i64 0, .int .i64 2])) w52 (fun r56 w57 => ∃ b58 : Bool, r56 = .bool b58 ∧ if b58 = true then (∃ x59 : Int, ∃ x60 : Int, rd w57 (⟨w37.heap.size, 0, none⟩ : Addr) (.agg #[.int .i64 x59, .int .i64 x60]) ∧ runV Try.prog (do eqGuard .eql 37 (.tmp 27) (.tmp 28) (.agg #[.int .i64 x59, .int .i64 x60]) (.agg #[.int .i64 13, .int .i64 2]); binOp .eql 37 (.agg #[.int .i64 x59, .int .i64 x60]) (.agg #[.int .i64 13, .int .i64 2])) w57 (fun r61 w62 => ∃ b63 : Bool, r61 = .bool b63 ∧ if b63 = true then (∃ x64 : Int, rd w62 (⟨w43.heap.size, 0, none⟩ : Addr) (.int .i64 x64) ∧ if ((x64 : Int) == 2) = true then (∃ s65a : Option Addr, ∃ s65l : Nat, ∃ s65c : Nat, rd w62 ((⟨w43.heap.size, 0, none⟩ : Addr).add 2) (.slice s65a s65l s65c) ∧ if (((s65l : Nat) : Int) == 1) = true then (∃ s66a : Option Addr, ∃ s66l : Nat, ∃ s66c : Nat, rd w62 ((⟨w43.heap.size, 0, none⟩ : Addr).add 1) (.slice s66a s66l s66c) ∧ if (((s66l : Nat) : Int) == 1) = true then (∃ s67a : Option Addr, ∃ s67l : Nat, ∃ s67c : Nat, rd w62 ((⟨w43.heap.size, 0, none⟩ : Addr).add 1) (.slice s67a s67l s67c) ∧ 0 ≤ (0 : Int) ∧ (0 : Int) < ((s67l : Nat) : Int) ∧ ∃ b68, s67a = some b68 ∧ ∃ s69 : ByteArray, rd w62 ((b68.add ((0 : Int).toNat * 3)).add 2) (.string s69) ∧ R (.returned (.bool (s69.toList == (ByteArray.mk #[97]).toList))) w62) else (R (.returned (.bool false)) w62)) else (R (.returned (.bool false)) w62)) else (R (.returned (.bool false)) w62)) else (R (.returned (.bool false)) w62)) (pan R)) else (R (.returned (.bool false)) w57)) (pan R)) else (R (.returned (.bool false)) w52)) (pan R)) (pan R))) (pan R))) (pan R))) (pan R))) (pan R))) (pan R))) (pan R))

theorem T_law08_live_hl : allP (hokL Try.prog (hookAt []) (bodyOf Try.f12) 1) = (True) := by kernel_rfl

theorem T_law08_live_eq  (w : World) (R : Ending → World → Prop) : vcCode Try.prog (hookAt []) (bodyOf Try.f12) 1 ⟨argEnv [] 0, Try.f12.ntmps, []⟩ w (finQ Try.prog Try.f12.results.toList R) = T_law08_live  w R := by kernel_rfl

theorem T_law08_live_b : Try.f12.body = some (bodyOf Try.f12) := by kernel_rfl
theorem T_law08_live_s : (quietSel (bodyOf Try.f12) && Nat.ble 0 Try.f12.ntmps) = true := by kernel_rfl

theorem C_law08_live  {w : World} {R : Ending → World → Prop} (h : T_law08_live  w R) : Calls Try.prog 12 #[] w R :=
  calls_of_text (args := []) mixed Try.func12 T_law08_live_b T_law08_live_s (HOk_of _ _ (by rw [T_law08_live_hl]; exact trivial)) (by rw [T_law08_live_eq]; exact h)

end Go.Proofs.Ytcpmfjclkdjfmaa

/-
  The commands that the statements make themselves; what must be whatever is asked.
-/
namespace Go.Vc
open Go Go.Proofs Go.Proofs.Ytcpmfjclkdjfmaa
set_option maxRecDepth 100000
section
variable {E w : World} {L : List Asrt} {R : Ending → World → Prop} {F G : Fz}
def tgt1 : Cm.Tgt := ⟨[116], 4607182418800017408⟩
def poolC (n : Cm.Bs) : Cm.Cmd := ⟨1, 0, 0, -1, [], [], n, [tgt1]⟩
def routeC (h p t : Cm.Bs) : Cm.Cmd := ⟨3, 0, 0, -1, h, p, t, []⟩
def dropC (n : Cm.Bs) : Cm.Cmd := ⟨2, 0, 0, -1, [], [], n, []⟩
theorem ok_poolC {n : Cm.Bs} (h : n.length ≤ huge) : okC (poolC n) := ⟨Nat.zero_le _, Nat.zero_le _, h, by simp [poolC, huge], fun t ht => by
  simp [poolC] at ht
  subst ht
  exact ⟨by simp [tgt1, huge], by simp [tgt1, two64]⟩⟩
theorem ok_routeC {h p t : Cm.Bs} (h1 : h.length ≤ huge) (h2 : p.length ≤ huge) (h3 : t.length ≤ huge) : okC (routeC h p t) := ⟨h1, h2, h3, Nat.zero_le _, fun t ht => by simp [routeC] at ht⟩
theorem ok_dropC {n : Cm.Bs} (h : n.length ≤ huge) : okC (dropC n) := ⟨Nat.zero_le _, Nat.zero_le _, h, Nat.zero_le _, fun t ht => by simp [dropC] at ht⟩
theorem St.wr_cmd {b t : Nat} {l : List Value} (h : St E (blkL b t l :: L) w) (hl : l.length = 8) (c : Cm.Cmd) (q : Sl) : St E (blkL b t (cmdL c q) :: L) (wr w ⟨b, 0, none⟩ (cmdV c q)) := h.wr_agg0 (xs := cmdL c q) (by rw [hl]; rfl)
theorem ok_cmd {b t : Nat} {l : List Value} (h : St E (blkL b t l :: L) w) (hl : l.length = 8) (c : Cm.Cmd) (q : Sl) : wrOk w ⟨b, 0, none⟩ (cmdV c q) := wrOk_agg h.at_blk (xs := cmdL c q) (by rw [hl]; exact Nat.le_refl 8) (one_cmdL c q)
theorem pool_spec {n : Cm.Bs} (h : St E (kn F :: L) w) (k : ∀ G (q : Sl) w', Fz.le F G → RdF G q.1 q.2.1 2 ((poolC n).tg.flatMap tV) → St E (kn G :: L) w' → R (.returned (cmdV (poolC n) q)) w') : Calls Try.prog 20 #[.string (bs n)] w R := by
  refine C_law08_pool ?_
  unfold T_law08_pool
  intro w2
  have h2 : St E (blkL w.heap.size 28 (cmdL zeroC (none, 0, 0)) :: kn F :: L) w2 := h.alloc _
  intro w3
  have h3 : St E (tgA (some ⟨w2.heap.size, 0, none⟩, 1, 1) [tgt1] :: blkL w.heap.size 28 (cmdL zeroC (none, 0, 0)) :: kn F :: L) w3 := (St.ownS_mk (xs := [tgt1].flatMap tV) (rest := []) (l := 1) (c := 1) (sz := 2) (h2.alloc _) rfl (Nat.le_refl _) (by decide) rfl :)
  refine ⟨rfl, ok_cmd h3.f1 rfl (poolC n) (some ⟨w2.heap.size, 0, none⟩, 1, 1), ?_⟩
  intro w4
  have h4 := St.wr_cmd h3.f1 rfl (poolC n) (some ⟨w2.heap.size, 0, none⟩, 1, 1)
  obtain ⟨G, hG, h5, hr⟩ := St.freezeT (h4.sel 3 [1, 2])
  exact ⟨_, _, _, _, _, _, _, _, _, _, rd_cmd h4, k G (some ⟨w2.heap.size, 0, none⟩, 1, 1) _ hG hr h5⟩
theorem route_spec {hh p t : Cm.Bs} (h : St E L w) (k : ∀ w', St E L w' → R (.returned (cmdV (routeC hh p t) (none, 0, 0))) w') : Calls Try.prog 28 #[.string (bs hh), .string (bs p), .string (bs t)] w R := by
  refine C_law08_route ?_
  unfold T_law08_route
  intro w4
  have h4 : St E (blkL w.heap.size 28 (cmdL zeroC (none, 0, 0)) :: L) w4 := h.alloc _
  refine ⟨rfl, ok_cmd h4 rfl (routeC hh p t) (none, 0, 0), ?_⟩
  intro w5
  have h5 := St.wr_cmd h4 rfl (routeC hh p t) (none, 0, 0)
  exact ⟨_, _, _, _, _, _, _, _, _, _, rd_cmd h5, k _ h5.drop⟩
def live1 : Cm.Sm := ⟨1, [], [⟨[97], [tgt1]⟩], []⟩
def live2 : Cm.Sm := ⟨2, [⟨[120, 46, 121], [47], [97]⟩], [⟨[97], [tgt1]⟩], []⟩
theorem do_live1 : Cm.doC Cm.new (poolC [97]) = (live1, 0, 1) := by kernel_rfl
theorem do_live2 : Cm.doC live1 (routeC [120, 46, 121] [47] [97]) = (live2, 0, 2) := by kernel_rfl
theorem do_live3 : Cm.doC live2 (dropC [97]) = (live2, 13, 2) := by kernel_rfl
theorem inv1 : Cm.Inv live1 := by have := Cm.doC_keeps Cm.Inv.new (poolC [97]); rwa [do_live1] at this
theorem inv2 : Cm.Inv live2 := by have := Cm.doC_keeps inv1 (routeC [120, 46, 121] [47] [97]); rwa [do_live2] at this
set_option maxHeartbeats 4000000 in
/-- live: it is true. -/
theorem live_spec (h : St E (kn F :: L) w) (k : ∀ G w', Fz.le F G → St E (kn G :: L) w' → R (.returned (.bool true)) w') : Calls Try.prog 12 #[] w R := by
  refine C_law08_live ?_
  unfold T_law08_live
  refine New_spec F h fun p w2 h2 => ⟨_, rfl, ?_⟩
  refine pool_spec (n := [97]) h2.f1 fun G1 q1 w5 k1 r1 h5 => ⟨_, _, _, _, _, _, _, _, _, _, rfl, ?_⟩
  refine Do_spec (c := poolC [97]) (q := q1) Cm.Inv.new r1 (ok_poolC (by simp [huge])) (h5.f1.st_mono k1) fun G2 w15 k2 h15 => ?_
  rw [do_live1] at h15 ⊢
  refine ⟨_, _, rfl, ?_⟩
  intro w18
  have h18 := h15.alloc (.cells #[.int .i64 0, .int .i64 0] 37)
  refine ⟨rfl, ok_res h18 rfl 0 1, ?_⟩
  intro w19
  have h19 : St E (blkL w15.heap.size 37 (rsL 0 1) :: stA G2 p live1 :: kn G2 :: L) w19 := h18.wr_res rfl 0 1
  clear h18
  clear_value w19 w18
  generalize w15.heap.size = b1 at *
  refine route_spec (hh := [120, 46, 121]) (p := [47]) (t := [97]) h19 fun w21 h21 => ⟨_, _, _, _, _, _, _, _, _, _, rfl, ?_⟩
  refine Do_spec (c := routeC [120, 46, 121] [47] [97]) (q := (none, 0, 0)) inv1 (RdF.nil G2 none) (ok_routeC (by simp [huge]) (by simp [huge]) (by simp [huge])) (h21.sel 3 [1, 2, 0]) fun G3 w31 k3 h31 => ?_
  rw [do_live2] at h31 ⊢
  refine ⟨_, _, rfl, ?_⟩
  intro w34
  have h34 := h31.alloc (.cells #[.int .i64 0, .int .i64 0] 37)
  refine ⟨rfl, ok_res h34 rfl 0 2, ?_⟩
  intro w35
  have h35 : St E (blkL w31.heap.size 37 (rsL 0 2) :: stA G3 p live2 :: kn G3 :: blkL b1 37 (rsL 0 1) :: L) w35 := h34.wr_res rfl 0 2
  clear h34
  clear_value w35 w34
  generalize w31.heap.size = b2 at *
  refine Do_spec (c := dropC [97]) (q := (none, 0, 0)) inv2 (RdF.nil G3 none) (ok_dropC (by simp [huge])) (h35.sel 4 [1, 2, 0, 3]) fun G4 w37 k4 h37 => ?_
  rw [do_live3] at h37 ⊢
  refine ⟨_, _, rfl, ?_⟩
  intro w40
  have h40 := h37.alloc (.cells #[.int .i64 0, .int .i64 0] 37)
  refine ⟨rfl, ok_res h40 rfl 13 2, ?_⟩
  intro w41
  have h41 : St E (blkL w37.heap.size 37 (rsL 13 2) :: stA G4 p live2 :: kn G4 :: blkL b2 37 (rsL 0 2) :: blkL b1 37 (rsL 0 1) :: L) w41 := h40.wr_res rfl 13 2
  clear h40
  clear_value w41 w40
  generalize w37.heap.size = b3 at *
  refine Config_spec (F := G4) at1 (Sz.of inv2) (h41.sel 3 [1, 0, 2]) fun w43 ra pa xs hxs h43 => ⟨_, _, _, _, _, _, _, rfl, ?_⟩
  intro w47
  have h47 := h43.alloc (.cells #[.int .i64 0, .slice none 0 0, .slice none 0 0] 33)
  refine ⟨rfl, ok_cfg h47 rfl 2 ra pa, ?_⟩
  intro w48
  have h48 : St E (blkL w43.heap.size 33 (cfgL 2 ra pa) :: rtA ra live2.routes :: plA pa xs :: tgO xs :: stA G4 p live2 :: blkL b3 37 (rsL 13 2) :: kn G4 :: blkL b2 37 (rsL 0 2) :: blkL b1 37 (rsL 0 1) :: L) w48 := St.wr_cfg h47 rfl 2 ra pa
  clear h47
  clear_value w48 w47
  generalize w43.heap.size = bc at *
  have hb1 : St E (blkL b1 37 (rsL 0 1) :: L) w48 := h48.sel 9 [8]
  have hb2 : St E (blkL b2 37 (rsL 0 2) :: L) w48 := h48.sel 9 [7]
  have hb3 : St E (blkL b3 37 (rsL 13 2) :: L) w48 := h48.sel 9 [5]
  have hpl := St.pl_len h48.f2
  have hrt := St.rt_len h48.f1
  have hx1 : xs.length = 1 := by have := congrArg List.length hxs; simpa [live2] using this
  have hr1 : live2.routes.length = 1 := rfl
  refine ⟨_, _, rd_res hb1, runV_ok (res_eq _ _ 0 1 0 1) ⟨_, rfl, ite_b (fun _ => ?_) fun hh => by simp at hh⟩⟩
  refine ⟨_, _, rd_res hb2, runV_ok (res_eq _ _ 0 2 0 2) ⟨_, rfl, ite_b (fun _ => ?_) fun hh => by simp at hh⟩⟩
  refine ⟨_, _, rd_res hb3, runV_ok (res_eq _ _ 13 2 13 2) ⟨_, rfl, ite_b (fun _ => ?_) fun hh => by simp at hh⟩⟩
  refine ⟨_, rd_cell h48.at_blk rfl rfl, ite_b (fun _ => ?_) fun hh => by simp at hh⟩
  refine ⟨_, _, _, rd_fld h48.at_blk rfl rfl, ite_b (fun _ => ?_) fun hh => by rw [← hpl, hx1] at hh; simp at hh⟩
  refine ⟨_, _, _, rd_fld h48.at_blk rfl rfl, ite_b (fun _ => ?_) fun hh => by rw [← hrt, hr1] at hh; simp at hh⟩
  obtain ⟨ad, ha, _, hk⟩ := rt_at (h48.f1).rdS_own (j := 0) (by rw [hr1]; decide)
  refine ⟨_, _, _, rd_fld h48.at_blk rfl rfl, by decide, by rw [← hrt, hr1]; decide, ad, ha, _, hk 2 _ rfl rfl, ?_⟩
  rw [show (ByteArray.mk #[97]) = bs [97] from rfl, str_beq]
  exact k G4 _ (Fz.le_trans k1 (Fz.le_trans k2 (Fz.le_trans k3 k4))) (h48.sel 9 [6])
end
end Go.Vc

/-
  What the functions' code comes to; printed by a program of this claim's own.
-/
namespace Go.Proofs.Ytcpmfjclkdjfmaa
open Go Go.Vc
set_option maxRecDepth 100000
set_option linter.unusedVariables false

/-! tollgate/conf.GetCommand -/
def T_conf_GetCommand (b1a : Option Addr) (b1l : Nat) (b1c : Nat) (w : World) (R : Ending → World → Prop) : Prop :=
  let w2 : World := w.alloc (.cells #[.int .i64 0, .int .i64 0, .int .i64 0, .int .i64 0, .string (ByteArray.mk #[]), .string (ByteArray.mk #[]), .string (ByteArray.mk #[]), .slice none 0 0] 28)
  let w3 : World := w2.alloc (.cells #[.slice b1a b1l b1c, .int .i64 0, .int .i64 0] 89)
  Calls Try.prog 43 #[.pointer (some (⟨w2.heap.size, 0, none⟩ : Addr)), .int .i64 1099511627776] w3 (ret (fun r4 w5 => ∃ x6 : Int, r4 = .int .i64 x6 ∧ Calls Try.prog 43 #[.pointer (some (⟨w2.heap.size, 0, none⟩ : Addr)), .int .i64 1099511627776] w5 (ret (fun r7 w8 => ∃ x9 : Int, r7 = .int .i64 x9 ∧ Calls Try.prog 43 #[.pointer (some (⟨w2.heap.size, 0, none⟩ : Addr)), .int .i64 1099511627776] w8 (ret (fun r10 w11 => ∃ x12 : Int, r10 = .int .i64 x12 ∧ Calls Try.prog 43 #[.pointer (some (⟨w2.heap.size, 0, none⟩ : Addr)), .int .i64 1099511627776] w11 (ret (fun r13 w14 => ∃ x15 : Int, r13 = .int .i64 x15 ∧ let w16 : World := w14.alloc (.cells #[.int .i64 0, .int .i64 0, .int .i64 0, .int .i64 0, .string (ByteArray.mk #[]), .string (ByteArray.mk #[]), .string (ByteArray.mk #[]), .slice none 0 0] 28)
  (.agg #[.int .i64 x6, .int .i64 x9, .int .i64 x12, .int .i64 (IntKind.wrap .i64 ((x15 : Int) - 1)), .string (ByteArray.mk #[]), .string (ByteArray.mk #[]), .string (ByteArray.mk #[]), .slice none 0 0] : Value).cells.size = 8 ∧ wrOk w16 (⟨w14.heap.size, 0, none⟩ : Addr) (.agg #[.int .i64 x6, .int .i64 x9, .int .i64 x12, .int .i64 (IntKind.wrap .i64 ((x15 : Int) - 1)), .string (ByteArray.mk #[]), .string (ByteArray.mk #[]), .string (ByteArray.mk #[]), .slice none 0 0]) ∧ let w17 : World := wr w16 (⟨w14.heap.size, 0, none⟩ : Addr) (.agg #[.int .i64 x6, .int .i64 x9, .int .i64 x12, .int .i64 (IntKind.wrap .i64 ((x15 : Int) - 1)), .string (ByteArray.mk #[]), .string (ByteArray.mk #[]), .string (ByteArray.mk #[]), .slice none 0 0])
  Calls Try.prog 44 #[.pointer (some (⟨w2.heap.size, 0, none⟩ : Addr))] w17 (ret (fun r18 w19 => ∃ s20 : ByteArray, r18 = .string s20 ∧ Calls Try.prog 44 #[.pointer (some (⟨w2.heap.size, 0, none⟩ : Addr))] w19 (ret (fun r21 w22 => ∃ s23 : ByteArray, r21 = .string s23 ∧ Calls Try.prog 44 #[.pointer (some (⟨w2.heap.size, 0, none⟩ : Addr))] w22 (ret (fun r24 w25 => ∃ s26 : ByteArray, r24 = .string s26 ∧ (.string s20 : Value).cells.size = 1 ∧ wrOk w25 ((⟨w14.heap.size, 0, none⟩ : Addr).add 4) (.string s20) ∧ let w27 : World := wr w25 ((⟨w14.heap.size, 0, none⟩ : Addr).add 4) (.string s20)
  (.string s23 : Value).cells.size = 1 ∧ wrOk w27 ((⟨w14.heap.size, 0, none⟩ : Addr).add 5) (.string s23) ∧ let w28 : World := wr w27 ((⟨w14.heap.size, 0, none⟩ : Addr).add 5) (.string s23)
  (.string s26 : Value).cells.size = 1 ∧ wrOk w28 ((⟨w14.heap.size, 0, none⟩ : Addr).add 6) (.string s26) ∧ let w29 : World := wr w28 ((⟨w14.heap.size, 0, none⟩ : Addr).add 6) (.string s26)
  Calls Try.prog 45 #[.pointer (some (⟨w2.heap.size, 0, none⟩ : Addr))] w29 (ret (fun r30 w31 => ∃ s32a : Option Addr, ∃ s32l : Nat, ∃ s32c : Nat, r30 = .slice s32a s32l s32c ∧ (.slice s32a s32l s32c : Value).cells.size = 1 ∧ wrOk w31 ((⟨w14.heap.size, 0, none⟩ : Addr).add 7) (.slice s32a s32l s32c) ∧ let w33 : World := wr w31 ((⟨w14.heap.size, 0, none⟩ : Addr).add 7) (.slice s32a s32l s32c)
  Calls Try.prog 46 #[.pointer (some (⟨w2.heap.size, 0, none⟩ : Addr)), .func (.func 47) #[] #[.pointer (some (⟨w14.heap.size, 0, none⟩ : Addr))]] w33 (ret (fun r34 w35 => ∃ x36 : Int, r34 = .int .i64 x36 ∧ if ((x36 : Int) != 0) = true then ((.agg #[.int .i64 0, .int .i64 0, .int .i64 0, .int .i64 0, .string (ByteArray.mk #[]), .string (ByteArray.mk #[]), .string (ByteArray.mk #[]), .slice none 0 0] : Value).cells.size = 8 ∧ wrOk w35 (⟨w.heap.size, 0, none⟩ : Addr) (.agg #[.int .i64 0, .int .i64 0, .int .i64 0, .int .i64 0, .string (ByteArray.mk #[]), .string (ByteArray.mk #[]), .string (ByteArray.mk #[]), .slice none 0 0]) ∧ let w37 : World := wr w35 (⟨w.heap.size, 0, none⟩ : Addr) (.agg #[.int .i64 0, .int .i64 0, .int .i64 0, .int .i64 0, .string (ByteArray.mk #[]), .string (ByteArray.mk #[]), .string (ByteArray.mk #[]), .slice none 0 0])
  ∃ x38 : Int, ∃ x39 : Int, ∃ x40 : Int, ∃ x41 : Int, ∃ s42 : ByteArray, ∃ s43 : ByteArray, ∃ s44 : ByteArray, ∃ s45a : Option Addr, ∃ s45l : Nat, ∃ s45c : Nat, rd w37 (⟨w.heap.size, 0, none⟩ : Addr) (.agg #[.int .i64 x38, .int .i64 x39, .int .i64 x40, .int .i64 x41, .string s42, .string s43, .string s44, .slice s45a s45l s45c]) ∧ R (.returned (.tuple #[.agg #[.int .i64 x38, .int .i64 x39, .int .i64 x40, .int .i64 x41, .string s42, .string s43, .string s44, .slice s45a s45l s45c], .int .i64 x36])) w37) else (∃ x46 : Int, ∃ x47 : Int, ∃ x48 : Int, ∃ x49 : Int, ∃ s50 : ByteArray, ∃ s51 : ByteArray, ∃ s52 : ByteArray, ∃ s53a : Option Addr, ∃ s53l : Nat, ∃ s53c : Nat, rd w35 (⟨w14.heap.size, 0, none⟩ : Addr) (.agg #[.int .i64 x46, .int .i64 x47, .int .i64 x48, .int .i64 x49, .string s50, .string s51, .string s52, .slice s53a s53l s53c]) ∧ (.agg #[.int .i64 x46, .int .i64 x47, .int .i64 x48, .int .i64 x49, .string s50, .string s51, .string s52, .slice s53a s53l s53c] : Value).cells.size = 8 ∧ wrOk w35 (⟨w.heap.size, 0, none⟩ : Addr) (.agg #[.int .i64 x46, .int .i64 x47, .int .i64 x48, .int .i64 x49, .string s50, .string s51, .string s52, .slice s53a s53l s53c]) ∧ let w54 : World := wr w35 (⟨w.heap.size, 0, none⟩ : Addr) (.agg #[.int .i64 x46, .int .i64 x47, .int .i64 x48, .int .i64 x49, .string s50, .string s51, .string s52, .slice s53a s53l s53c])
  ∃ x55 : Int, ∃ x56 : Int, ∃ x57 : Int, ∃ x58 : Int, ∃ s59 : ByteArray, ∃ s60 : ByteArray, ∃ s61 : ByteArray, ∃ s62a : Option Addr, ∃ s62l : Nat, ∃ s62c : Nat, rd w54 (⟨w.heap.size, 0, none⟩ : Addr) (.agg #[.int .i64 x55, .int .i64 x56, .int .i64 x57, .int .i64 x58, .string s59, .string s60, .string s61, .slice s62a s62l s62c]) ∧ R (.returned (.tuple #[.agg #[.int .i64 x55, .int .i64 x56, .int .i64 x57, .int .i64 x58, .string s59, .string s60, .string s61, .slice s62a s62l s62c], .int .i64 0])) w54)) (pan R))) (pan R))) (pan R))) (pan R))) (pan R))) (pan R))) (pan R))) (pan R))) (pan R))

theorem T_conf_GetCommand_hl : allP (hokL Try.prog (hookAt []) (bodyOf Try.f18) 1) = (True) := by kernel_rfl

theorem T_conf_GetCommand_eq (b1a : Option Addr) (b1l : Nat) (b1c : Nat) (w : World) (R : Ending → World → Prop) : vcCode Try.prog (hookAt []) (bodyOf Try.f18) 1 ⟨argEnv [.slice b1a b1l b1c] 0, Try.f18.ntmps, []⟩ w (finQ Try.prog Try.f18.results.toList R) = T_conf_GetCommand b1a b1l b1c w R := by kernel_rfl

theorem T_conf_GetCommand_b : Try.f18.body = some (bodyOf Try.f18) := by kernel_rfl
theorem T_conf_GetCommand_s : (quietSel (bodyOf Try.f18) && Nat.ble 1 Try.f18.ntmps) = true := by kernel_rfl

theorem C_conf_GetCommand {b1a : Option Addr} {b1l : Nat} {b1c : Nat} {w : World} {R : Ending → World → Prop} (h : T_conf_GetCommand b1a b1l b1c w R) : Calls Try.prog 18 #[.slice b1a b1l b1c] w R :=
  calls_of_text (args := [.slice b1a b1l b1c]) mixed Try.func18 T_conf_GetCommand_b T_conf_GetCommand_s (HOk_of _ _ (by rw [T_conf_GetCommand_hl]; exact trivial)) (by rw [T_conf_GetCommand_eq]; exact h)

/-! (*tollgate/conf.reader).num -/
def T_conf_reader_num_1 (most15 : Int) (n16 : Int) (e17 : Int) (w : World) (Kn : Bool → World → Prop) (Kp : List PanicEntry → World → Prop) : Prop :=
  if ((e17 : Int) == 0) = true then (Kn (decide ((n16 : Int) > most15)) w) else (Kn false w)

def T_conf_reader_num_1_outs : Exit → Option (List (Nat × Value)) := fun x => match x with | .normal => some [(32, .bool false)] | .panic _ => some [] | _ => none

def T_conf_reader_num_1_ks : Nat → Bool := ksOf [26, 27, 28, 29, 30, 31, 32]

def H_conf_reader_num_1 : Env → World → QT → Prop := unitHook 44 T_conf_reader_num_1_ks [(1, .int .i64 0), (5, .int .i64 0), (7, .int .i64 0)] T_conf_reader_num_1_outs fun l w C => match l with | [v0, v1, v2] => T_conf_reader_num_1 (pInt v0) (pInt v1) (pInt v2) w (fun b19 w => C .normal [.bool b19] w) (fun ch w => C (.panic ch) [] w) | _ => False

theorem T_conf_reader_num_1_hl : allP (hokL Try.prog (hookAt []) (at_ (bodyOf Try.f43) [1, 1, 1, 0, 0]) 60) = (True) := by kernel_rfl
theorem T_conf_reader_num_1_hok : HOk Try.prog (hookAt []) (at_ (bodyOf Try.f43) [1, 1, 1, 0, 0]) 60 := HOk_of _ _ (by rw [T_conf_reader_num_1_hl]; exact trivial)

theorem T_conf_reader_num_1_eq (C : Conts) (most15 : Int) (n16 : Int) (e17 : Int) (w : World) : vcCode Try.prog (hookAt []) (at_ (bodyOf Try.f43) [1, 1, 1, 0, 0]) 60 ⟨[(1, .int .i64 most15), (5, .int .i64 n16), (7, .int .i64 e17)], 44, []⟩ w (unitQ T_conf_reader_num_1_outs C) = T_conf_reader_num_1 most15 n16 e17 w (fun b20 w => C .normal [.bool b20] w) (fun ch w => C (.panic ch) [] w) := by kernel_rfl

theorem T_conf_reader_num_1_ok : UnitOk Try.prog H_conf_reader_num_1 (at_ (bodyOf Try.f43) [1, 1, 1, 0, 0]) 60 := unit_ok (H := (hookAt [])) (by kernel_rfl) T_conf_reader_num_1_hok fun l w C hk => by
    obtain ⟨v0, l_v0, rfl, k_v0, hk_v0⟩ := Kinds.cons_ hk
    obtain ⟨most15, rfl⟩ := kind_int k_v0
    obtain ⟨v1, l_v1, rfl, k_v1, hk_v1⟩ := Kinds.cons_ hk_v0
    obtain ⟨n16, rfl⟩ := kind_int k_v1
    obtain ⟨v2, l_v2, rfl, k_v2, hk_v2⟩ := Kinds.cons_ hk_v1
    obtain ⟨e17, rfl⟩ := kind_int k_v2
    obtain rfl := Kinds.nil_ hk_v2
    exact T_conf_reader_num_1_eq C most15 n16 e17 w

def T_conf_reader_num_2 (e23 : Int) (b24 : Bool) (w : World) (Kn : Int → World → Prop) (Kp : List PanicEntry → World → Prop) : Prop :=
  if b24 = true then (Kn 6 w) else (Kn e23 w)

def T_conf_reader_num_2_outs : Exit → Option (List (Nat × Value)) := fun x => match x with | .normal => some [(7, .int .i64 0)] | .panic _ => some [] | _ => none

def T_conf_reader_num_2_ks : Nat → Bool := ksOf [7]

def H_conf_reader_num_2 : Env → World → QT → Prop := unitHook 44 T_conf_reader_num_2_ks [(7, .int .i64 0), (32, .bool false)] T_conf_reader_num_2_outs fun l w C => match l with | [v0, v1] => T_conf_reader_num_2 (pInt v0) (pBool v1) w (fun e26 w => C .normal [.int .i64 e26] w) (fun ch w => C (.panic ch) [] w) | _ => False

theorem T_conf_reader_num_2_hl : allP (hokL Try.prog (hookAt []) (at_ (bodyOf Try.f43) [1, 1, 1, 0, 1]) 61) = (True) := by kernel_rfl
theorem T_conf_reader_num_2_hok : HOk Try.prog (hookAt []) (at_ (bodyOf Try.f43) [1, 1, 1, 0, 1]) 61 := HOk_of _ _ (by rw [T_conf_reader_num_2_hl]; exact trivial)

theorem T_conf_reader_num_2_eq (C : Conts) (e23 : Int) (b24 : Bool) (w : World) : vcCode Try.prog (hookAt []) (at_ (bodyOf Try.f43) [1, 1, 1, 0, 1]) 61 ⟨[(7, .int .i64 e23), (32, .bool b24)], 44, []⟩ w (unitQ T_conf_reader_num_2_outs C) = T_conf_reader_num_2 e23 b24 w (fun e27 w => C .normal [.int .i64 e27] w) (fun ch w => C (.panic ch) [] w) := by kernel_rfl

theorem T_conf_reader_num_2_ok : UnitOk Try.prog H_conf_reader_num_2 (at_ (bodyOf Try.f43) [1, 1, 1, 0, 1]) 61 := unit_ok (H := (hookAt [])) (by kernel_rfl) T_conf_reader_num_2_hok fun l w C hk => by
    obtain ⟨v0, l_v0, rfl, k_v0, hk_v0⟩ := Kinds.cons_ hk
    obtain ⟨e23, rfl⟩ := kind_int k_v0
    obtain ⟨v1, l_v1, rfl, k_v1, hk_v1⟩ := Kinds.cons_ hk_v0
    obtain ⟨b24, rfl⟩ := kind_bool k_v1
    obtain rfl := Kinds.nil_ hk_v1
    exact T_conf_reader_num_2_eq C e23 b24 w

def T_conf_reader_num (r1 : Option Addr) (most2 : Int) (w : World) (R : Ending → World → Prop) : Prop :=
  ∃ a3, r1 = some a3 ∧ ∃ x4 : Int, rd w (a3.add 2) (.int .i64 x4) ∧ if ((x4 : Int) != 0) = true then (R (.returned (.int .i64 0)) w) else (let w5 : World := w.drew
  ∃ a6, r1 = some a6 ∧ ∃ s7a : Option Addr, ∃ s7l : Nat, ∃ s7c : Nat, rd w5 a6 (.slice s7a s7l s7c) ∧ ∃ a8, r1 = some a8 ∧ ∃ x9 : Int, rd w5 (a8.add 1) (.int .i64 x9) ∧ Calls Try.prog 70 #[.slice s7a s7l s7c, .int .i64 x9] w5 (ret (fun r10 w11 => ∃ x12 : Int, ∃ x13 : Int, ∃ x14 : Int, r10 = .tuple #[.int .i64 x12, .int .i64 x13, .int .i64 x14] ∧ (True) ∧ T_conf_reader_num_1 most2 x12 x14 w11 (fun b21 w22 => T_conf_reader_num_2 x14 b21 w22 (fun e28 w29 => if ((e28 : Int) != 0) = true then (∃ a30, r1 = some a30 ∧ (.int .i64 e28 : Value).cells.size = 1 ∧ wrOk w29 (a30.add 2) (.int .i64 e28) ∧ let w31 : World := wr w29 (a30.add 2) (.int .i64 e28)
  R (.returned (.int .i64 0)) w31) else (∃ a32, r1 = some a32 ∧ (.int .i64 x13 : Value).cells.size = 1 ∧ wrOk w29 (a32.add 1) (.int .i64 x13) ∧ let w33 : World := wr w29 (a32.add 1) (.int .i64 x13)
  R (.returned (.int .i64 x12)) w33)) (pan R)) (pan R)) (pan R)))

theorem T_conf_reader_num_hl : allP (hokL Try.prog (hookAt [(60, H_conf_reader_num_1), (61, H_conf_reader_num_2)]) (bodyOf Try.f43) 1) = (UnitOk Try.prog H_conf_reader_num_1 (at_ (bodyOf Try.f43) [1, 1, 1, 0, 0]) 60 ∧ UnitOk Try.prog H_conf_reader_num_2 (at_ (bodyOf Try.f43) [1, 1, 1, 0, 1]) 61 ∧ True) := by kernel_rfl

theorem T_conf_reader_num_eq (r1 : Option Addr) (most2 : Int) (w : World) (R : Ending → World → Prop) : vcCode Try.prog (hookAt [(60, H_conf_reader_num_1), (61, H_conf_reader_num_2)]) (bodyOf Try.f43) 1 ⟨argEnv [.pointer r1, .int .i64 most2] 0, Try.f43.ntmps, []⟩ w (finQ Try.prog Try.f43.results.toList R) = T_conf_reader_num r1 most2 w R := by kernel_rfl

theorem T_conf_reader_num_b : Try.f43.body = some (bodyOf Try.f43) := by kernel_rfl
theorem T_conf_reader_num_s : (quietSel (bodyOf Try.f43) && Nat.ble 2 Try.f43.ntmps) = true := by kernel_rfl

theorem C_conf_reader_num {r1 : Option Addr} {most2 : Int} {w : World} {R : Ending → World → Prop} (h : T_conf_reader_num r1 most2 w R) : Calls Try.prog 43 #[.pointer r1, .int .i64 most2] w R :=
  calls_of_text (args := [.pointer r1, .int .i64 most2]) mixed Try.func43 T_conf_reader_num_b T_conf_reader_num_s (HOk_of _ _ (by rw [T_conf_reader_num_hl]; exact ⟨T_conf_reader_num_1_ok, T_conf_reader_num_2_ok, trivial⟩)) (by rw [T_conf_reader_num_eq]; exact h)

/-! (*tollgate/conf.reader).text -/
def T_conf_reader_text (r1 : Option Addr) (w : World) (R : Ending → World → Prop) : Prop :=
  Calls Try.prog 43 #[.pointer r1, .int .i64 128] w (ret (fun r2 w3 => ∃ x4 : Int, r2 = .int .i64 x4 ∧ Calls Try.prog 71 #[.pointer r1, .int .i64 x4] w3 (ret (fun r5 w6 => ∃ s7a : Option Addr, ∃ s7l : Nat, ∃ s7c : Nat, r5 = .slice s7a s7l s7c ∧ runV Try.prog (convert 42 9 (.slice s7a s7l s7c)) w6 (fun r8 w9 => ∃ s10 : ByteArray, r8 = .string s10 ∧ R (.returned (.string s10)) w9) (pan R)) (pan R))) (pan R))

theorem T_conf_reader_text_hl : allP (hokL Try.prog (hookAt []) (bodyOf Try.f44) 1) = (True) := by kernel_rfl

theorem T_conf_reader_text_eq (r1 : Option Addr) (w : World) (R : Ending → World → Prop) : vcCode Try.prog (hookAt []) (bodyOf Try.f44) 1 ⟨argEnv [.pointer r1] 0, Try.f44.ntmps, []⟩ w (finQ Try.prog Try.f44.results.toList R) = T_conf_reader_text r1 w R := by kernel_rfl

theorem T_conf_reader_text_b : Try.f44.body = some (bodyOf Try.f44) := by kernel_rfl
theorem T_conf_reader_text_s : (quietSel (bodyOf Try.f44) && Nat.ble 1 Try.f44.ntmps) = true := by kernel_rfl

theorem C_conf_reader_text {r1 : Option Addr} {w : World} {R : Ending → World → Prop} (h : T_conf_reader_text r1 w R) : Calls Try.prog 44 #[.pointer r1] w R :=
  calls_of_text (args := [.pointer r1]) mixed Try.func44 T_conf_reader_text_b T_conf_reader_text_s (HOk_of _ _ (by rw [T_conf_reader_text_hl]; exact trivial)) (by rw [T_conf_reader_text_eq]; exact h)

/-! (*tollgate/conf.reader).targets -/
def T_conf_reader_targets_2 (r8 : Option Addr) (n9 : Int) (w : World) (Kn : Bool → World → Prop) (Kp : List PanicEntry → World → Prop) : Prop :=
  if (decide ((n9 : Int) > 0)) = true then (∃ a10, r8 = some a10 ∧ ∃ x11 : Int, rd w (a10.add 2) (.int .i64 x11) ∧ Kn ((x11 : Int) == 0) w) else (Kn false w)

def T_conf_reader_targets_2_outs : Exit → Option (List (Nat × Value)) := fun x => match x with | .normal => some [(15, .bool false)] | .panic _ => some [] | _ => none

def T_conf_reader_targets_2_ks : Nat → Bool := ksOf [7, 8, 9, 10, 11, 12, 13, 14, 15]

def H_conf_reader_targets_2 : Env → World → QT → Prop := unitHook 27 T_conf_reader_targets_2_ks [(0, .pointer none), (4, .int .i64 0)] T_conf_reader_targets_2_outs fun l w C => match l with | [v0, v1] => T_conf_reader_targets_2 (pPtr v0) (pInt v1) w (fun b13 w => C .normal [.bool b13] w) (fun ch w => C (.panic ch) [] w) | _ => False

theorem T_conf_reader_targets_2_hl : allP (hokL Try.prog (hookAt []) (at_ (bodyOf Try.f45) [1, 1, 0, 1, 0, 0, 0, 0]) 464) = (True) := by kernel_rfl
theorem T_conf_reader_targets_2_hok : HOk Try.prog (hookAt []) (at_ (bodyOf Try.f45) [1, 1, 0, 1, 0, 0, 0, 0]) 464 := HOk_of _ _ (by rw [T_conf_reader_targets_2_hl]; exact trivial)

theorem T_conf_reader_targets_2_eq (C : Conts) (r8 : Option Addr) (n9 : Int) (w : World) : vcCode Try.prog (hookAt []) (at_ (bodyOf Try.f45) [1, 1, 0, 1, 0, 0, 0, 0]) 464 ⟨[(0, .pointer r8), (4, .int .i64 n9)], 27, []⟩ w (unitQ T_conf_reader_targets_2_outs C) = T_conf_reader_targets_2 r8 n9 w (fun b14 w => C .normal [.bool b14] w) (fun ch w => C (.panic ch) [] w) := by kernel_rfl

theorem T_conf_reader_targets_2_ok : UnitOk Try.prog H_conf_reader_targets_2 (at_ (bodyOf Try.f45) [1, 1, 0, 1, 0, 0, 0, 0]) 464 := unit_ok (H := (hookAt [])) (by kernel_rfl) T_conf_reader_targets_2_hok fun l w C hk => by
    obtain ⟨v0, l_v0, rfl, k_v0, hk_v0⟩ := Kinds.cons_ hk
    obtain ⟨r8, rfl⟩ := kind_pointer k_v0
    obtain ⟨v1, l_v1, rfl, k_v1, hk_v1⟩ := Kinds.cons_ hk_v0
    obtain ⟨n9, rfl⟩ := kind_int k_v1
    obtain rfl := Kinds.nil_ hk_v1
    exact T_conf_reader_targets_2_eq C r8 n9 w

def T_conf_reader_targets_1_body (X : Option Addr → Nat → Nat → Int → World → Prop) (l5a : Option Addr) (l5l : Nat) (l5c : Nat) (n6 : Int) (r7 : Option Addr) (w : World) (Kn : Option Addr → Nat → Nat → World → Prop) (Kp : List PanicEntry → World → Prop)  : Prop :=
  T_conf_reader_targets_2 r7 n6 w (fun b15 w16 => if b15 = true then (Calls Try.prog 44 #[.pointer r7] w16 (ret (fun r17 w18 => ∃ s19 : ByteArray, r17 = .string s19 ∧ Calls Try.prog 72 #[.pointer r7] w18 (ret (fun r20 w21 => ∃ f22 : Nat, r20 = .float .f64 f22 ∧ let w23 : World := w21.alloc (.cells #[.string s19, .float .f64 f22] 55)
  runV Try.prog (Builtin.append_ #[26, 26] 26 #[.slice l5a l5l l5c, .slice (some (⟨w21.heap.size, 0, none⟩ : Addr)) 1 1]) w23 (fun r24 w25 => ∃ s26a : Option Addr, ∃ s26l : Nat, ∃ s26c : Nat, r24 = .slice s26a s26l s26c ∧ X s26a s26l s26c (IntKind.wrap .i64 ((n6 : Int) - 1)) w25) Kp) Kp)) Kp)) else (Kn l5a l5l l5c w16)) Kp

def T_conf_reader_targets_1 (l5a : Option Addr) (l5l : Nat) (l5c : Nat) (n6 : Int) (r7 : Option Addr) (w : World) (Kn : Option Addr → Nat → Nat → World → Prop) (Kp : List PanicEntry → World → Prop) : Prop :=
  ∀ X : Option Addr → Nat → Nat → Int → World → Prop, (∀ (l5a : Option Addr) (l5l : Nat) (l5c : Nat) (n6 : Int) (w : World), T_conf_reader_targets_1_body X l5a l5l l5c n6 r7 w Kn Kp → X l5a l5l l5c n6 w) → X l5a l5l l5c n6 w

def T_conf_reader_targets_1_outs : Exit → Option (List (Nat × Value)) := fun x => match x with | .normal => some [(3, .slice none 0 0)] | .panic _ => some [] | _ => none

def T_conf_reader_targets_1_ks : Nat → Bool := ksOf [3, 4, 7, 8, 9, 10, 11, 12, 13, 14, 15, 16, 17, 18, 19, 20, 21, 22, 23, 24, 25]

def H_conf_reader_targets_1 : Env → World → QT → Prop := unitHook 27 T_conf_reader_targets_1_ks [(3, .slice none 0 0), (4, .int .i64 0), (0, .pointer none)] T_conf_reader_targets_1_outs fun l w C => match l with | [v0, v1, v2] => T_conf_reader_targets_1 (pA v0) (pL v0) (pC v0) (pInt v1) (pPtr v2) w (fun l28a l28l l28c w => C .normal [.slice l28a l28l l28c] w) (fun ch w => C (.panic ch) [] w) | _ => False

theorem T_conf_reader_targets_1_hl : allP (hokL Try.prog (hookAt [(464, H_conf_reader_targets_2)]) (at_ (bodyOf Try.f45) [1, 1, 0, 1, 0, 0]) 116) = (UnitOk Try.prog H_conf_reader_targets_2 (at_ (bodyOf Try.f45) [1, 1, 0, 1, 0, 0, 0, 0]) 464 ∧ True) := by kernel_rfl
theorem T_conf_reader_targets_1_hok : HOk Try.prog (hookAt [(464, H_conf_reader_targets_2)]) (at_ (bodyOf Try.f45) [1, 1, 0, 1, 0, 0]) 116 := HOk_of _ _ (by rw [T_conf_reader_targets_1_hl]; exact ⟨T_conf_reader_targets_2_ok, trivial⟩)

theorem T_conf_reader_targets_1_eq (C : Conts) (X : List Value → World → Prop) (l5a : Option Addr) (l5l : Nat) (l5c : Nat) (n6 : Int) (r7 : Option Addr) (w : World) : vcCode Try.prog (hookAt [(464, H_conf_reader_targets_2)]) (at_ (bodyOf Try.f45) [1, 1, 0, 1, 0, 0]) 116 ⟨[(3, .slice l5a l5l l5c), (4, .int .i64 n6)] ++ [(0, .pointer r7)], 27, []⟩ w (seqQ (fun e w => takeAll e [(3, .slice none 0 0), (4, .int .i64 0)] fun l => X l w) (blockQ 0 (unitQ T_conf_reader_targets_1_outs C))) = T_conf_reader_targets_1_body (fun l5a l5l l5c n6 w => X [.slice l5a l5l l5c, .int .i64 n6] w) l5a l5l l5c n6 r7 w (fun l29a l29l l29c w => C .normal [.slice l29a l29l l29c] w) (fun ch w => C (.panic ch) [] w) := by kernel_rfl

theorem T_conf_reader_targets_1_ok : UnitOk Try.prog H_conf_reader_targets_1 (at_ (bodyOf Try.f45) [1, 1, 0, 1]) 29 := by
  have hc : at_ (bodyOf Try.f45) [1, 1, 0, 1] = .block 0 (.loop (at_ (bodyOf Try.f45) [1, 1, 0, 1, 0, 0])) := by kernel_rfl
  rw [hc]
  refine loop_unit_ok (carr := [(3, .slice none 0 0), (4, .int .i64 0)]) (fix := [(0, .pointer none)]) (ks := T_conf_reader_targets_1_ks) (H := (hookAt [(464, H_conf_reader_targets_2)])) (B := fun C X l u w => match l, u with | [v0, v1], [v2] => T_conf_reader_targets_1_body (fun l5a l5l l5c n6 w => X [.slice l5a l5l l5c, .int .i64 n6] w) (pA v0) (pL v0) (pC v0) (pInt v1) (pPtr v2) w (fun l30a l30l l30c w => C .normal [.slice l30a l30l l30c] w) (fun ch w => C (.panic ch) [] w) | _, _ => False) (by kernel_rfl) (by kernel_rfl) T_conf_reader_targets_1_hok ?_ ?_
  · intro C X l u w hl hu
    obtain ⟨v0, l_v0, rfl, k_v0, hl_v0⟩ := Kinds.cons_ hl
    obtain ⟨l5a, l5l, l5c, rfl⟩ := kind_slice k_v0
    obtain ⟨v1, l_v1, rfl, k_v1, hl_v1⟩ := Kinds.cons_ hl_v0
    obtain ⟨n6, rfl⟩ := kind_int k_v1
    obtain rfl := Kinds.nil_ hl_v1
    obtain ⟨v2, l_v2, rfl, k_v2, hu_v2⟩ := Kinds.cons_ hu
    obtain ⟨r7, rfl⟩ := kind_pointer k_v2
    obtain rfl := Kinds.nil_ hu_v2
    exact T_conf_reader_targets_1_eq C X l5a l5l l5c n6 r7 w
  · intro l u w C hl hu
    obtain ⟨v0, l_v0, rfl, k_v0, hl_v0⟩ := Kinds.cons_ hl
    obtain ⟨l5a, l5l, l5c, rfl⟩ := kind_slice k_v0
    obtain ⟨v1, l_v1, rfl, k_v1, hl_v1⟩ := Kinds.cons_ hl_v0
    obtain ⟨n6, rfl⟩ := kind_int k_v1
    obtain rfl := Kinds.nil_ hl_v1
    obtain ⟨v2, l_v2, rfl, k_v2, hu_v2⟩ := Kinds.cons_ hu
    obtain ⟨r7, rfl⟩ := kind_pointer k_v2
    obtain rfl := Kinds.nil_ hu_v2
    constructor
    · intro h X hX
      exact h (fun l5a l5l l5c n6 w => X [.slice l5a l5l l5c, .int .i64 n6] w) (fun l5a l5l l5c n6 w hb => hX [.slice l5a l5l l5c, .int .i64 n6] w ⟨rfl, rfl, trivial⟩ hb)
    · intro h X hX
      exact h (fun l w => match l with | [v0, v1] => X (pA v0) (pL v0) (pC v0) (pInt v1) w | _ => True) (fun l w hl hb => by
        obtain ⟨v0, l_v0, rfl, k_v0, hl_v0⟩ := Kinds.cons_ hl
        obtain ⟨l5a, l5l, l5c, rfl⟩ := kind_slice k_v0
        obtain ⟨v1, l_v1, rfl, k_v1, hl_v1⟩ := Kinds.cons_ hl_v0
        obtain ⟨n6, rfl⟩ := kind_int k_v1
        obtain rfl := Kinds.nil_ hl_v1
        exact hX l5a l5l l5c n6 w hb)

def T_conf_reader_targets (r1 : Option Addr) (w : World) (R : Ending → World → Prop) : Prop :=
  Calls Try.prog 43 #[.pointer r1, .int .i64 16] w (ret (fun r2 w3 => ∃ x4 : Int, r2 = .int .i64 x4 ∧ T_conf_reader_targets_1 none 0 0 x4 r1 w3 (fun l31a l31l l31c w32 => R (.returned (.slice l31a l31l l31c)) w32) (pan R)) (pan R))

theorem T_conf_reader_targets_hl : allP (hokL Try.prog (hookAt [(29, H_conf_reader_targets_1)]) (bodyOf Try.f45) 1) = (UnitOk Try.prog H_conf_reader_targets_1 (at_ (bodyOf Try.f45) [1, 1, 0, 1]) 29 ∧ True) := by kernel_rfl

theorem T_conf_reader_targets_eq (r1 : Option Addr) (w : World) (R : Ending → World → Prop) : vcCode Try.prog (hookAt [(29, H_conf_reader_targets_1)]) (bodyOf Try.f45) 1 ⟨argEnv [.pointer r1] 0, Try.f45.ntmps, []⟩ w (finQ Try.prog Try.f45.results.toList R) = T_conf_reader_targets r1 w R := by kernel_rfl

theorem T_conf_reader_targets_b : Try.f45.body = some (bodyOf Try.f45) := by kernel_rfl
theorem T_conf_reader_targets_s : (quietSel (bodyOf Try.f45) && Nat.ble 1 Try.f45.ntmps) = true := by kernel_rfl

theorem C_conf_reader_targets {r1 : Option Addr} {w : World} {R : Ending → World → Prop} (h : T_conf_reader_targets r1 w R) : Calls Try.prog 45 #[.pointer r1] w R :=
  calls_of_text (args := [.pointer r1]) mixed Try.func45 T_conf_reader_targets_b T_conf_reader_targets_s (HOk_of _ _ (by rw [T_conf_reader_targets_hl]; exact ⟨T_conf_reader_targets_1_ok, trivial⟩)) (by rw [T_conf_reader_targets_eq]; exact h)

/-! (*tollgate/conf.reader).end -/
def T_conf_reader_end_1 (r3 : Option Addr) (right4g : FuncId) (right4i : Array Value) (right4c : Array Value) (w : World) (Kn : Bool → World → Prop) (Kp : List PanicEntry → World → Prop) : Prop :=
  let w5 : World := w.drew
  ∃ a6, r3 = some a6 ∧ ∃ x7 : Int, rd w5 (a6.add 2) (.int .i64 x7) ∧ if ((x7 : Int) == 0) = true then (∃ a8, r3 = some a8 ∧ ∃ x9 : Int, rd w5 (a8.add 1) (.int .i64 x9) ∧ ∃ a10, r3 = some a10 ∧ ∃ s11a : Option Addr, ∃ s11l : Nat, ∃ s11c : Nat, rd w5 a10 (.slice s11a s11l s11c) ∧ if (decide ((x9 : Int) < ((s11l : Nat) : Int))) = true then ((rd w5 a10 (.slice s11a s11l s11c) ∧ rd w5 (a6.add 2) (.int .i64 x7) ∧ True) ∧ Kn true w5) else (hasBody Try.prog right4g = true ∧ Calls Try.prog right4g ⟨right4i.toList ++ ([] ++ right4c.toList)⟩ w5 (ret (fun r12 w13 => ∃ b14 : Bool, r12 = .bool b14 ∧ (rd w13 a10 (.slice s11a s11l s11c) ∧ rd w13 (a6.add 2) (.int .i64 x7) ∧ True) ∧ Kn (!b14) w13) Kp))) else ((rd w5 (a6.add 2) (.int .i64 x7) ∧ True) ∧ Kn false w5)

def T_conf_reader_end_1_outs : Exit → Option (List (Nat × Value)) := fun x => match x with | .normal => some [(26, .bool false)] | .panic _ => some [] | _ => none

def T_conf_reader_end_1_ks : Nat → Bool := ksOf [5, 6, 7, 8, 9, 10, 11, 12, 13, 14, 15, 16, 17, 18, 19, 20, 21, 22, 23, 24, 25, 26]

def H_conf_reader_end_1 : Env → World → QT → Prop := unitHook 34 T_conf_reader_end_1_ks [(0, .pointer none), (1, .func (.func 0) #[] #[])] T_conf_reader_end_1_outs fun l w C => match l with | [v0, v1] => T_conf_reader_end_1 (pPtr v0) (pFn v1) (pFi v1) (pCa v1) w (fun b16 w => C .normal [.bool b16] w) (fun ch w => C (.panic ch) [] w) | _ => False

theorem T_conf_reader_end_1_hl : allP (hokL Try.prog (hookAt []) (at_ (bodyOf Try.f46) [1, 0, 0]) 12) = (True) := by kernel_rfl
theorem T_conf_reader_end_1_hok : HOk Try.prog (hookAt []) (at_ (bodyOf Try.f46) [1, 0, 0]) 12 := HOk_of _ _ (by rw [T_conf_reader_end_1_hl]; exact trivial)

theorem T_conf_reader_end_1_eq (C : Conts) (r3 : Option Addr) (right4g : FuncId) (right4i : Array Value) (right4c : Array Value) (w : World) : vcCode Try.prog (hookAt []) (at_ (bodyOf Try.f46) [1, 0, 0]) 12 ⟨[(0, .pointer r3), (1, .func (.func right4g) right4i right4c)], 34, []⟩ w (unitQ T_conf_reader_end_1_outs C) = T_conf_reader_end_1 r3 right4g right4i right4c w (fun b17 w => C .normal [.bool b17] w) (fun ch w => C (.panic ch) [] w) := by kernel_rfl

theorem T_conf_reader_end_1_ok : UnitOk Try.prog H_conf_reader_end_1 (at_ (bodyOf Try.f46) [1, 0, 0]) 12 := unit_ok (H := (hookAt [])) (by kernel_rfl) T_conf_reader_end_1_hok fun l w C hk => by
    obtain ⟨v0, l_v0, rfl, k_v0, hk_v0⟩ := Kinds.cons_ hk
    obtain ⟨r3, rfl⟩ := kind_pointer k_v0
    obtain ⟨v1, l_v1, rfl, k_v1, hk_v1⟩ := Kinds.cons_ hk_v0
    obtain ⟨right4g, right4i, right4c, rfl⟩ := kind_func k_v1
    obtain rfl := Kinds.nil_ hk_v1
    exact T_conf_reader_end_1_eq C r3 right4g right4i right4c w

def T_conf_reader_end (r1 : Option Addr) (right2g : FuncId) (right2i : Array Value) (right2c : Array Value) (w : World) (R : Ending → World → Prop) : Prop :=
  T_conf_reader_end_1 r1 right2g right2i right2c w (fun b18 w19 => if b18 = true then (∃ a20, r1 = some a20 ∧ (.int .i64 4 : Value).cells.size = 1 ∧ wrOk w19 (a20.add 2) (.int .i64 4) ∧ let w21 : World := wr w19 (a20.add 2) (.int .i64 4)
  ∃ a22, r1 = some a22 ∧ ∃ x23 : Int, rd w21 (a22.add 2) (.int .i64 x23) ∧ R (.returned (.int .i64 x23)) w21) else (∃ a24, r1 = some a24 ∧ ∃ x25 : Int, rd w19 (a24.add 2) (.int .i64 x25) ∧ R (.returned (.int .i64 x25)) w19)) (pan R)

theorem T_conf_reader_end_hl : allP (hokL Try.prog (hookAt [(12, H_conf_reader_end_1)]) (bodyOf Try.f46) 1) = (UnitOk Try.prog H_conf_reader_end_1 (at_ (bodyOf Try.f46) [1, 0, 0]) 12 ∧ True) := by kernel_rfl

theorem T_conf_reader_end_eq (r1 : Option Addr) (right2g : FuncId) (right2i : Array Value) (right2c : Array Value) (w : World) (R : Ending → World → Prop) : vcCode Try.prog (hookAt [(12, H_conf_reader_end_1)]) (bodyOf Try.f46) 1 ⟨argEnv [.pointer r1, .func (.func right2g) right2i right2c] 0, Try.f46.ntmps, []⟩ w (finQ Try.prog Try.f46.results.toList R) = T_conf_reader_end r1 right2g right2i right2c w R := by kernel_rfl

theorem T_conf_reader_end_b : Try.f46.body = some (bodyOf Try.f46) := by kernel_rfl
theorem T_conf_reader_end_s : (quietSel (bodyOf Try.f46) && Nat.ble 2 Try.f46.ntmps) = true := by kernel_rfl

theorem C_conf_reader_end {r1 : Option Addr} {right2g : FuncId} {right2i : Array Value} {right2c : Array Value} {w : World} {R : Ending → World → Prop} (h : T_conf_reader_end r1 right2g right2i right2c w R) : Calls Try.prog 46 #[.pointer r1, .func (.func right2g) right2i right2c] w R :=
  calls_of_text (args := [.pointer r1, .func (.func right2g) right2i right2c]) mixed Try.func46 T_conf_reader_end_b T_conf_reader_end_s (HOk_of _ _ (by rw [T_conf_reader_end_hl]; exact ⟨T_conf_reader_end_1_ok, trivial⟩)) (by rw [T_conf_reader_end_eq]; exact h)

/-! tollgate/conf.GetCommand$1 -/
def T_conf_GetCommand_c1 (cap1 : Addr) (w : World) (R : Ending → World → Prop) : Prop :=
  ∃ x2 : Int, ∃ x3 : Int, ∃ x4 : Int, ∃ x5 : Int, ∃ s6 : ByteArray, ∃ s7 : ByteArray, ∃ s8 : ByteArray, ∃ s9a : Option Addr, ∃ s9l : Nat, ∃ s9c : Nat, rd w cap1 (.agg #[.int .i64 x2, .int .i64 x3, .int .i64 x4, .int .i64 x5, .string s6, .string s7, .string s8, .slice s9a s9l s9c]) ∧ Calls Try.prog 15 #[.agg #[.int .i64 x2, .int .i64 x3, .int .i64 x4, .int .i64 x5, .string s6, .string s7, .string s8, .slice s9a s9l s9c]] w (ret (fun r10 w11 => ∃ x12 : Int, r10 = .int .i64 x12 ∧ R (.returned (.bool ((x12 : Int) == 0))) w11) (pan R))

theorem T_conf_GetCommand_c1_hl : allP (hokL Try.prog (hookAt []) (bodyOf Try.f47) 1) = (True) := by kernel_rfl

theorem T_conf_GetCommand_c1_eq (cap1 : Addr) (w : World) (R : Ending → World → Prop) : vcCode Try.prog (hookAt []) (bodyOf Try.f47) 1 ⟨argEnv [.pointer (some cap1)] 0, Try.f47.ntmps, []⟩ w (finQ Try.prog Try.f47.results.toList R) = T_conf_GetCommand_c1 cap1 w R := by kernel_rfl

theorem T_conf_GetCommand_c1_b : Try.f47.body = some (bodyOf Try.f47) := by kernel_rfl
theorem T_conf_GetCommand_c1_s : (quietSel (bodyOf Try.f47) && Nat.ble 1 Try.f47.ntmps) = true := by kernel_rfl

theorem C_conf_GetCommand_c1 {cap1 : Addr} {w : World} {R : Ending → World → Prop} (h : T_conf_GetCommand_c1 cap1 w R) : Calls Try.prog 47 #[.pointer (some cap1)] w R :=
  calls_of_text (args := [.pointer (some cap1)]) mixed Try.func47 T_conf_GetCommand_c1_b T_conf_GetCommand_c1_s (HOk_of _ _ (by rw [T_conf_GetCommand_c1_hl]; exact trivial)) (by rw [T_conf_GetCommand_c1_eq]; exact h)

/-! tollgate/wire.TakeNumber -/
def T_wire_TakeNumber_1 (b3a : Option Addr) (b3l : Nat) (b3c : Nat) (at4 : Int) (w : World) (Kn : Bool → World → Prop) (Kp : List PanicEntry → World → Prop) : Prop :=
  if (decide ((at4 : Int) < 0)) = true then (Kn true w) else (Kn (decide ((at4 : Int) > ((b3l : Nat) : Int))) w)

def T_wire_TakeNumber_1_outs : Exit → Option (List (Nat × Value)) := fun x => match x with | .normal => some [(17, .bool false)] | .panic _ => some [] | _ => none

def T_wire_TakeNumber_1_ks : Nat → Bool := ksOf [10, 11, 12, 13, 14, 15, 16, 17]

def H_wire_TakeNumber_1 : Env → World → QT → Prop := unitHook 58 T_wire_TakeNumber_1_ks [(0, .slice none 0 0), (1, .int .i64 0)] T_wire_TakeNumber_1_outs fun l w C => match l with | [v0, v1] => T_wire_TakeNumber_1 (pA v0) (pL v0) (pC v0) (pInt v1) w (fun b6 w => C .normal [.bool b6] w) (fun ch w => C (.panic ch) [] w) | _ => False

theorem T_wire_TakeNumber_1_hl : allP (hokL Try.prog (hookAt []) (at_ (turnB 0 900001 900002 (bodyOf Try.f70)) [1, 0, 0]) 12) = (True) := by kernel_rfl
theorem T_wire_TakeNumber_1_hok : HOk Try.prog (hookAt []) (at_ (turnB 0 900001 900002 (bodyOf Try.f70)) [1, 0, 0]) 12 := HOk_of _ _ (by rw [T_wire_TakeNumber_1_hl]; exact trivial)

theorem T_wire_TakeNumber_1_eq (C : Conts) (b3a : Option Addr) (b3l : Nat) (b3c : Nat) (at4 : Int) (w : World) : vcCode Try.prog (hookAt []) (at_ (turnB 0 900001 900002 (bodyOf Try.f70)) [1, 0, 0]) 12 ⟨[(0, .slice b3a b3l b3c), (1, .int .i64 at4)], 58, []⟩ w (unitQ T_wire_TakeNumber_1_outs C) = T_wire_TakeNumber_1 b3a b3l b3c at4 w (fun b7 w => C .normal [.bool b7] w) (fun ch w => C (.panic ch) [] w) := by kernel_rfl

theorem T_wire_TakeNumber_1_ok : UnitOk Try.prog H_wire_TakeNumber_1 (at_ (turnB 0 900001 900002 (bodyOf Try.f70)) [1, 0, 0]) 12 := unit_ok (H := (hookAt [])) (by kernel_rfl) T_wire_TakeNumber_1_hok fun l w C hk => by
    obtain ⟨v0, l_v0, rfl, k_v0, hk_v0⟩ := Kinds.cons_ hk
    obtain ⟨b3a, b3l, b3c, rfl⟩ := kind_slice k_v0
    obtain ⟨v1, l_v1, rfl, k_v1, hk_v1⟩ := Kinds.cons_ hk_v0
    obtain ⟨at4, rfl⟩ := kind_int k_v1
    obtain rfl := Kinds.nil_ hk_v1
    exact T_wire_TakeNumber_1_eq C b3a b3l b3c at4 w

def T_wire_TakeNumber_3 (k19 : Int) (c20 : Int) (w : World) (Kn : Bool → World → Prop) (Kp : List PanicEntry → World → Prop) : Prop :=
  if ((c20 : Int) == 0) = true then (Kn (decide ((k19 : Int) > 1)) w) else (Kn false w)

def T_wire_TakeNumber_3_outs : Exit → Option (List (Nat × Value)) := fun x => match x with | .normal => some [(44, .bool false)] | .panic _ => some [] | _ => none

def T_wire_TakeNumber_3_ks : Nat → Bool := ksOf [44, 45, 46, 47, 48, 49, 50]

def H_wire_TakeNumber_3 : Env → World → QT → Prop := unitHook 58 T_wire_TakeNumber_3_ks [(8, .int .i64 0), (9, .int .i64 0)] T_wire_TakeNumber_3_outs fun l w C => match l with | [v0, v1] => T_wire_TakeNumber_3 (pInt v0) (pInt v1) w (fun b22 w => C .normal [.bool b22] w) (fun ch w => C (.panic ch) [] w) | _ => False

theorem T_wire_TakeNumber_3_hl : allP (hokL Try.prog (hookAt []) (at_ (turnB 0 900001 900002 (bodyOf Try.f70)) [1, 1, 1, 0, 0, 0, 0, 1, 1, 1, 1, 1, 0, 0, 0]) 61688) = (True) := by kernel_rfl
theorem T_wire_TakeNumber_3_hok : HOk Try.prog (hookAt []) (at_ (turnB 0 900001 900002 (bodyOf Try.f70)) [1, 1, 1, 0, 0, 0, 0, 1, 1, 1, 1, 1, 0, 0, 0]) 61688 := HOk_of _ _ (by rw [T_wire_TakeNumber_3_hl]; exact trivial)

theorem T_wire_TakeNumber_3_eq (C : Conts) (k19 : Int) (c20 : Int) (w : World) : vcCode Try.prog (hookAt []) (at_ (turnB 0 900001 900002 (bodyOf Try.f70)) [1, 1, 1, 0, 0, 0, 0, 1, 1, 1, 1, 1, 0, 0, 0]) 61688 ⟨[(8, .int .i64 k19), (9, .int .i64 c20)], 58, []⟩ w (unitQ T_wire_TakeNumber_3_outs C) = T_wire_TakeNumber_3 k19 c20 w (fun b23 w => C .normal [.bool b23] w) (fun ch w => C (.panic ch) [] w) := by kernel_rfl

theorem T_wire_TakeNumber_3_ok : UnitOk Try.prog H_wire_TakeNumber_3 (at_ (turnB 0 900001 900002 (bodyOf Try.f70)) [1, 1, 1, 0, 0, 0, 0, 1, 1, 1, 1, 1, 0, 0, 0]) 61688 := unit_ok (H := (hookAt [])) (by kernel_rfl) T_wire_TakeNumber_3_hok fun l w C hk => by
    obtain ⟨v0, l_v0, rfl, k_v0, hk_v0⟩ := Kinds.cons_ hk
    obtain ⟨k19, rfl⟩ := kind_int k_v0
    obtain ⟨v1, l_v1, rfl, k_v1, hk_v1⟩ := Kinds.cons_ hk_v0
    obtain ⟨c20, rfl⟩ := kind_int k_v1
    obtain rfl := Kinds.nil_ hk_v1
    exact T_wire_TakeNumber_3_eq C k19 c20 w

def T_wire_TakeNumber_2_body (X : Int → Int → World → Prop) (n10 : Int) (k11 : Int) (b12a : Option Addr) (b12l : Nat) (b12c : Nat) (at13 : Int) (w : World) (Kr : Int → Int → Int → World → Prop) (Kp : List PanicEntry → World → Prop)  : Prop :=
  if ((IntKind.wrap .i64 ((at13 : Int) + k11) : Int) == ((b12l : Nat) : Int)) = true then (Kr 0 0 3 w) else (0 ≤ (IntKind.wrap .i64 ((at13 : Int) + k11) : Int) ∧ (IntKind.wrap .i64 ((at13 : Int) + k11) : Int) < ((b12l : Nat) : Int) ∧ ∃ b14, b12a = some b14 ∧ ∃ x15 : Int, rd w (b14.add ((IntKind.wrap .i64 ((at13 : Int) + k11) : Int).toNat * 1)) (.int .u8 x15) ∧ runV Try.prog (do eqGuard .shl 3 (.tmp 33) (.tmp 35) (.int .i64 (IntKind.wrap .i64 ((BitVec.ofInt (IntKind.bits .i64) (IntKind.wrap .i64 x15)) &&& (BitVec.ofInt (IntKind.bits .i64) 127)).toNat)) (.int .i64 (IntKind.wrap .i64 ((7 : Int) * k11))); binOp .shl 3 (.int .i64 (IntKind.wrap .i64 ((BitVec.ofInt (IntKind.bits .i64) (IntKind.wrap .i64 x15)) &&& (BitVec.ofInt (IntKind.bits .i64) 127)).toNat)) (.int .i64 (IntKind.wrap .i64 ((7 : Int) * k11)))) w (fun r16 w17 => ∃ x18 : Int, r16 = .int .i64 x18 ∧ if (decide ((IntKind.wrap .i64 x15 : Int) ≥ 128)) = true then (if ((IntKind.wrap .i64 ((k11 : Int) + 1) : Int) == 6) = true then (Kr 0 0 6 w17) else (X (IntKind.wrap .i64 ((BitVec.ofInt (IntKind.bits .i64) n10) ||| (BitVec.ofInt (IntKind.bits .i64) x18)).toNat) (IntKind.wrap .i64 ((k11 : Int) + 1)) w17)) else (T_wire_TakeNumber_3 (IntKind.wrap .i64 ((k11 : Int) + 1)) (IntKind.wrap .i64 x15) w17 (fun b24 w25 => if b24 = true then (Kr 0 0 4 w25) else (if (decide ((IntKind.wrap .i64 ((BitVec.ofInt (IntKind.bits .i64) n10) ||| (BitVec.ofInt (IntKind.bits .i64) x18)).toNat : Int) > 1099511627776)) = true then (Kr 0 0 6 w25) else (Kr (IntKind.wrap .i64 ((BitVec.ofInt (IntKind.bits .i64) n10) ||| (BitVec.ofInt (IntKind.bits .i64) x18)).toNat) (IntKind.wrap .i64 ((at13 : Int) + (IntKind.wrap .i64 ((k11 : Int) + 1)))) 0 w25))) Kp)) Kp)

def T_wire_TakeNumber_2 (n10 : Int) (k11 : Int) (b12a : Option Addr) (b12l : Nat) (b12c : Nat) (at13 : Int) (w : World) (Kr : Int → Int → Int → World → Prop) (Kp : List PanicEntry → World → Prop) : Prop :=
  ∀ X : Int → Int → World → Prop, (∀ (n10 : Int) (k11 : Int) (w : World), T_wire_TakeNumber_2_body X n10 k11 b12a b12l b12c at13 w Kr Kp → X n10 k11 w) → X n10 k11 w

def T_wire_TakeNumber_2_outs : Exit → Option (List (Nat × Value)) := fun x => match x with | .ret => some [(4, .int .i64 0), (5, .int .i64 0), (6, .int .i64 0)] | .panic _ => some [] | _ => none

def T_wire_TakeNumber_2_ks : Nat → Bool := ksOf [4, 5, 6, 7, 8, 9, 18, 19, 20, 21, 22, 23, 24, 25, 26, 27, 28, 29, 30, 31, 32, 33, 34, 35, 36, 37, 38, 39, 40, 41, 42, 43, 44, 45, 46, 47, 48, 49, 50, 51, 52, 53, 54, 55, 56, 57]

def H_wire_TakeNumber_2 : Env → World → QT → Prop := unitHook 58 T_wire_TakeNumber_2_ks [(7, .int .i64 0), (8, .int .i64 0), (0, .slice none 0 0), (1, .int .i64 0)] T_wire_TakeNumber_2_outs fun l w C => match l with | [v0, v1, v2, v3] => T_wire_TakeNumber_2 (pInt v0) (pInt v1) (pA v2) (pL v2) (pC v2) (pInt v3) w (fun x29 x30 x31 w => C .ret [.int .i64 x29, .int .i64 x30, .int .i64 x31] w) (fun ch w => C (.panic ch) [] w) | _ => False

theorem T_wire_TakeNumber_2_hl : allP (hokL Try.prog (hookAt [(61688, H_wire_TakeNumber_3)]) (at_ (turnB 0 900001 900002 (bodyOf Try.f70)) [1, 1, 1, 0, 0]) 60) = (UnitOk Try.prog H_wire_TakeNumber_3 (at_ (turnB 0 900001 900002 (bodyOf Try.f70)) [1, 1, 1, 0, 0, 0, 0, 1, 1, 1, 1, 1, 0, 0, 0]) 61688 ∧ True) := by kernel_rfl
theorem T_wire_TakeNumber_2_hok : HOk Try.prog (hookAt [(61688, H_wire_TakeNumber_3)]) (at_ (turnB 0 900001 900002 (bodyOf Try.f70)) [1, 1, 1, 0, 0]) 60 := HOk_of _ _ (by rw [T_wire_TakeNumber_2_hl]; exact ⟨T_wire_TakeNumber_3_ok, trivial⟩)

theorem T_wire_TakeNumber_2_eq (C : Conts) (X : List Value → World → Prop) (n10 : Int) (k11 : Int) (b12a : Option Addr) (b12l : Nat) (b12c : Nat) (at13 : Int) (w : World) : vcCode Try.prog (hookAt [(61688, H_wire_TakeNumber_3)]) (at_ (turnB 0 900001 900002 (bodyOf Try.f70)) [1, 1, 1, 0, 0]) 60 ⟨[(7, .int .i64 n10), (8, .int .i64 k11)] ++ [(0, .slice b12a b12l b12c), (1, .int .i64 at13)], 58, []⟩ w (seqQ (fun e w => takeAll e [(7, .int .i64 0), (8, .int .i64 0)] fun l => X l w) (blockQ 900002 (unitQ T_wire_TakeNumber_2_outs C))) = T_wire_TakeNumber_2_body (fun n10 k11 w => X [.int .i64 n10, .int .i64 k11] w) n10 k11 b12a b12l b12c at13 w (fun x32 x33 x34 w => C .ret [.int .i64 x32, .int .i64 x33, .int .i64 x34] w) (fun ch w => C (.panic ch) [] w) := by kernel_rfl

theorem T_wire_TakeNumber_2_ok : UnitOk Try.prog H_wire_TakeNumber_2 (at_ (turnB 0 900001 900002 (bodyOf Try.f70)) [1, 1, 1]) 15 := by
  have hc : at_ (turnB 0 900001 900002 (bodyOf Try.f70)) [1, 1, 1] = .block 900002 (.loop (at_ (turnB 0 900001 900002 (bodyOf Try.f70)) [1, 1, 1, 0, 0])) := by kernel_rfl
  rw [hc]
  refine loop_unit_ok (carr := [(7, .int .i64 0), (8, .int .i64 0)]) (fix := [(0, .slice none 0 0), (1, .int .i64 0)]) (ks := T_wire_TakeNumber_2_ks) (H := (hookAt [(61688, H_wire_TakeNumber_3)])) (B := fun C X l u w => match l, u with | [v0, v1], [v2, v3] => T_wire_TakeNumber_2_body (fun n10 k11 w => X [.int .i64 n10, .int .i64 k11] w) (pInt v0) (pInt v1) (pA v2) (pL v2) (pC v2) (pInt v3) w (fun x35 x36 x37 w => C .ret [.int .i64 x35, .int .i64 x36, .int .i64 x37] w) (fun ch w => C (.panic ch) [] w) | _, _ => False) (by kernel_rfl) (by kernel_rfl) T_wire_TakeNumber_2_hok ?_ ?_
  · intro C X l u w hl hu
    obtain ⟨v0, l_v0, rfl, k_v0, hl_v0⟩ := Kinds.cons_ hl
    obtain ⟨n10, rfl⟩ := kind_int k_v0
    obtain ⟨v1, l_v1, rfl, k_v1, hl_v1⟩ := Kinds.cons_ hl_v0
    obtain ⟨k11, rfl⟩ := kind_int k_v1
    obtain rfl := Kinds.nil_ hl_v1
    obtain ⟨v2, l_v2, rfl, k_v2, hu_v2⟩ := Kinds.cons_ hu
    obtain ⟨b12a, b12l, b12c, rfl⟩ := kind_slice k_v2
    obtain ⟨v3, l_v3, rfl, k_v3, hu_v3⟩ := Kinds.cons_ hu_v2
    obtain ⟨at13, rfl⟩ := kind_int k_v3
    obtain rfl := Kinds.nil_ hu_v3
    exact T_wire_TakeNumber_2_eq C X n10 k11 b12a b12l b12c at13 w
  · intro l u w C hl hu
    obtain ⟨v0, l_v0, rfl, k_v0, hl_v0⟩ := Kinds.cons_ hl
    obtain ⟨n10, rfl⟩ := kind_int k_v0
    obtain ⟨v1, l_v1, rfl, k_v1, hl_v1⟩ := Kinds.cons_ hl_v0
    obtain ⟨k11, rfl⟩ := kind_int k_v1
    obtain rfl := Kinds.nil_ hl_v1
    obtain ⟨v2, l_v2, rfl, k_v2, hu_v2⟩ := Kinds.cons_ hu
    obtain ⟨b12a, b12l, b12c, rfl⟩ := kind_slice k_v2
    obtain ⟨v3, l_v3, rfl, k_v3, hu_v3⟩ := Kinds.cons_ hu_v2
    obtain ⟨at13, rfl⟩ := kind_int k_v3
    obtain rfl := Kinds.nil_ hu_v3
    constructor
    · intro h X hX
      exact h (fun n10 k11 w => X [.int .i64 n10, .int .i64 k11] w) (fun n10 k11 w hb => hX [.int .i64 n10, .int .i64 k11] w ⟨rfl, rfl, trivial⟩ hb)
    · intro h X hX
      exact h (fun l w => match l with | [v0, v1] => X (pInt v0) (pInt v1) w | _ => True) (fun l w hl hb => by
        obtain ⟨v0, l_v0, rfl, k_v0, hl_v0⟩ := Kinds.cons_ hl
        obtain ⟨n10, rfl⟩ := kind_int k_v0
        obtain ⟨v1, l_v1, rfl, k_v1, hl_v1⟩ := Kinds.cons_ hl_v0
        obtain ⟨k11, rfl⟩ := kind_int k_v1
        obtain rfl := Kinds.nil_ hl_v1
        exact hX n10 k11 w hb)

def T_wire_TakeNumber (b1a : Option Addr) (b1l : Nat) (b1c : Nat) (at2 : Int) (w : World) (R : Ending → World → Prop) : Prop :=
  T_wire_TakeNumber_1 b1a b1l b1c at2 w (fun b8 w9 => if b8 = true then (R (.returned (.tuple #[.int .i64 0, .int .i64 0, .int .i64 2])) w9) else (T_wire_TakeNumber_2 0 0 b1a b1l b1c at2 w9 (fun x38 x39 x40 w41 => R (.returned (.tuple #[.int .i64 x38, .int .i64 x39, .int .i64 x40])) w41) (pan R))) (pan R)

theorem T_wire_TakeNumber_hl : allP (hokL Try.prog (hookAt [(12, H_wire_TakeNumber_1), (15, H_wire_TakeNumber_2)]) (turnB 0 900001 900002 (bodyOf Try.f70)) 1) = (UnitOk Try.prog H_wire_TakeNumber_1 (at_ (turnB 0 900001 900002 (bodyOf Try.f70)) [1, 0, 0]) 12 ∧ UnitOk Try.prog H_wire_TakeNumber_2 (at_ (turnB 0 900001 900002 (bodyOf Try.f70)) [1, 1, 1]) 15 ∧ True) := by kernel_rfl

theorem T_wire_TakeNumber_eq (b1a : Option Addr) (b1l : Nat) (b1c : Nat) (at2 : Int) (w : World) (R : Ending → World → Prop) : vcCode Try.prog (hookAt [(12, H_wire_TakeNumber_1), (15, H_wire_TakeNumber_2)]) (turnB 0 900001 900002 (bodyOf Try.f70)) 1 ⟨argEnv [.slice b1a b1l b1c, .int .i64 at2] 0, Try.f70.ntmps, []⟩ w (finQ Try.prog Try.f70.results.toList R) = T_wire_TakeNumber b1a b1l b1c at2 w R := by kernel_rfl

theorem T_wire_TakeNumber_b : Try.f70.body = some (.seq (rOf (bodyOf Try.f70)) (.scope (cOf (bodyOf Try.f70)))) := by kernel_rfl
theorem T_wire_TakeNumber_f : findLabel (cOf (bodyOf Try.f70)) 0 = some (.seq .skip ((lapOf 0 (cOf (bodyOf Try.f70))).getD .skip)) := by kernel_rfl
theorem T_wire_TakeNumber_l : lapOf 0 (cOf (bodyOf Try.f70)) = some ((lapOf 0 (cOf (bodyOf Try.f70))).getD .skip) := by kernel_rfl

theorem T_wire_TakeNumber_s : ((quietSel (rOf (bodyOf Try.f70)) && quietSel (cOf (bodyOf Try.f70)) && quietSel ((lapOf 0 (cOf (bodyOf Try.f70))).getD .skip)) && (freshC 900001 ((lapOf 0 (cOf (bodyOf Try.f70))).getD .skip) && noExit 900001 ((lapOf 0 (cOf (bodyOf Try.f70))).getD .skip) && noExit 900002 ((lapOf 0 (cOf (bodyOf Try.f70))).getD .skip)) && Nat.ble 2 Try.f70.ntmps) = true := by kernel_rfl

theorem C_wire_TakeNumber {b1a : Option Addr} {b1l : Nat} {b1c : Nat} {at2 : Int} {w : World} {R : Ending → World → Prop} (h : T_wire_TakeNumber b1a b1l b1c at2 w R) : Calls Try.prog 70 #[.slice b1a b1l b1c, .int .i64 at2] w R :=
  calls_of_scope (args := [.slice b1a b1l b1c, .int .i64 at2]) mixed Try.func70 T_wire_TakeNumber_b T_wire_TakeNumber_f T_wire_TakeNumber_l T_wire_TakeNumber_s (HOk_of _ _ (show allP (hokL Try.prog (hookAt [(12, H_wire_TakeNumber_1), (15, H_wire_TakeNumber_2)]) (turnB 0 900001 900002 (bodyOf Try.f70)) 1) from by rw [T_wire_TakeNumber_hl]; exact ⟨T_wire_TakeNumber_1_ok, T_wire_TakeNumber_2_ok, trivial⟩)) (show vcCode Try.prog (hookAt [(12, H_wire_TakeNumber_1), (15, H_wire_TakeNumber_2)]) (turnB 0 900001 900002 (bodyOf Try.f70)) 1 ⟨argEnv [.slice b1a b1l b1c, .int .i64 at2] 0, Try.f70.ntmps, []⟩ w (finQ Try.prog Try.f70.results.toList R) from by rw [T_wire_TakeNumber_eq]; exact h)

/-! (*tollgate/conf.reader).take -/
def T_conf_reader_take_1 (r3 : Option Addr) (n4 : Int) (w : World) (Kn : Bool → World → Prop) (Kp : List PanicEntry → World → Prop) : Prop :=
  let w5 : World := w.drew
  ∃ a6, r3 = some a6 ∧ ∃ x7 : Int, rd w5 (a6.add 2) (.int .i64 x7) ∧ if ((x7 : Int) == 0) = true then (∃ a8, r3 = some a8 ∧ ∃ s9a : Option Addr, ∃ s9l : Nat, ∃ s9c : Nat, rd w5 a8 (.slice s9a s9l s9c) ∧ ∃ a10, r3 = some a10 ∧ ∃ x11 : Int, rd w5 (a10.add 1) (.int .i64 x11) ∧ Kn (decide ((IntKind.wrap .i64 (((s9l : Nat) : Int) - x11) : Int) < n4)) w5) else (Kn false w5)

def T_conf_reader_take_1_outs : Exit → Option (List (Nat × Value)) := fun x => match x with | .normal => some [(23, .bool false)] | .panic _ => some [] | _ => none

def T_conf_reader_take_1_ks : Nat → Bool := ksOf [5, 6, 7, 8, 9, 10, 11, 12, 13, 14, 15, 16, 17, 18, 19, 20, 21, 22, 23]

def H_conf_reader_take_1 : Env → World → QT → Prop := unitHook 55 T_conf_reader_take_1_ks [(0, .pointer none), (1, .int .i64 0)] T_conf_reader_take_1_outs fun l w C => match l with | [v0, v1] => T_conf_reader_take_1 (pPtr v0) (pInt v1) w (fun b13 w => C .normal [.bool b13] w) (fun ch w => C (.panic ch) [] w) | _ => False

theorem T_conf_reader_take_1_hl : allP (hokL Try.prog (hookAt []) (at_ (bodyOf Try.f71) [1, 0, 0]) 12) = (True) := by kernel_rfl
theorem T_conf_reader_take_1_hok : HOk Try.prog (hookAt []) (at_ (bodyOf Try.f71) [1, 0, 0]) 12 := HOk_of _ _ (by rw [T_conf_reader_take_1_hl]; exact trivial)

theorem T_conf_reader_take_1_eq (C : Conts) (r3 : Option Addr) (n4 : Int) (w : World) : vcCode Try.prog (hookAt []) (at_ (bodyOf Try.f71) [1, 0, 0]) 12 ⟨[(0, .pointer r3), (1, .int .i64 n4)], 55, []⟩ w (unitQ T_conf_reader_take_1_outs C) = T_conf_reader_take_1 r3 n4 w (fun b14 w => C .normal [.bool b14] w) (fun ch w => C (.panic ch) [] w) := by kernel_rfl

theorem T_conf_reader_take_1_ok : UnitOk Try.prog H_conf_reader_take_1 (at_ (bodyOf Try.f71) [1, 0, 0]) 12 := unit_ok (H := (hookAt [])) (by kernel_rfl) T_conf_reader_take_1_hok fun l w C hk => by
    obtain ⟨v0, l_v0, rfl, k_v0, hk_v0⟩ := Kinds.cons_ hk
    obtain ⟨r3, rfl⟩ := kind_pointer k_v0
    obtain ⟨v1, l_v1, rfl, k_v1, hk_v1⟩ := Kinds.cons_ hk_v0
    obtain ⟨n4, rfl⟩ := kind_int k_v1
    obtain rfl := Kinds.nil_ hk_v1
    exact T_conf_reader_take_1_eq C r3 n4 w

def T_conf_reader_take_2 (r17 : Option Addr) (b18 : Bool) (w : World) (Kn : World → Prop) (Kp : List PanicEntry → World → Prop) : Prop :=
  if b18 = true then (∃ a19, r17 = some a19 ∧ (.int .i64 3 : Value).cells.size = 1 ∧ wrOk w (a19.add 2) (.int .i64 3) ∧ let w20 : World := wr w (a19.add 2) (.int .i64 3)
  Kn  w20) else (Kn  w)

def T_conf_reader_take_2_outs : Exit → Option (List (Nat × Value)) := fun x => match x with | .normal => some [] | .panic _ => some [] | _ => none

def T_conf_reader_take_2_ks : Nat → Bool := ksOf [24, 25, 26]

def H_conf_reader_take_2 : Env → World → QT → Prop := unitHook 55 T_conf_reader_take_2_ks [(0, .pointer none), (23, .bool false)] T_conf_reader_take_2_outs fun l w C => match l with | [v0, v1] => T_conf_reader_take_2 (pPtr v0) (pBool v1) w (fun w => C .normal [] w) (fun ch w => C (.panic ch) [] w) | _ => False

theorem T_conf_reader_take_2_hl : allP (hokL Try.prog (hookAt []) (at_ (bodyOf Try.f71) [1, 0, 1]) 13) = (True) := by kernel_rfl
theorem T_conf_reader_take_2_hok : HOk Try.prog (hookAt []) (at_ (bodyOf Try.f71) [1, 0, 1]) 13 := HOk_of _ _ (by rw [T_conf_reader_take_2_hl]; exact trivial)

theorem T_conf_reader_take_2_eq (C : Conts) (r17 : Option Addr) (b18 : Bool) (w : World) : vcCode Try.prog (hookAt []) (at_ (bodyOf Try.f71) [1, 0, 1]) 13 ⟨[(0, .pointer r17), (23, .bool b18)], 55, []⟩ w (unitQ T_conf_reader_take_2_outs C) = T_conf_reader_take_2 r17 b18 w (fun w => C .normal [] w) (fun ch w => C (.panic ch) [] w) := by kernel_rfl

theorem T_conf_reader_take_2_ok : UnitOk Try.prog H_conf_reader_take_2 (at_ (bodyOf Try.f71) [1, 0, 1]) 13 := unit_ok (H := (hookAt [])) (by kernel_rfl) T_conf_reader_take_2_hok fun l w C hk => by
    obtain ⟨v0, l_v0, rfl, k_v0, hk_v0⟩ := Kinds.cons_ hk
    obtain ⟨r17, rfl⟩ := kind_pointer k_v0
    obtain ⟨v1, l_v1, rfl, k_v1, hk_v1⟩ := Kinds.cons_ hk_v0
    obtain ⟨b18, rfl⟩ := kind_bool k_v1
    obtain rfl := Kinds.nil_ hk_v1
    exact T_conf_reader_take_2_eq C r17 b18 w

def T_conf_reader_take (r1 : Option Addr) (n2 : Int) (w : World) (R : Ending → World → Prop) : Prop :=
  T_conf_reader_take_1 r1 n2 w (fun b15 w16 => T_conf_reader_take_2 r1 b15 w16 (fun w21 => ∃ a22, r1 = some a22 ∧ ∃ x23 : Int, rd w21 (a22.add 2) (.int .i64 x23) ∧ if ((x23 : Int) != 0) = true then (R (.returned (.slice none 0 0)) w21) else (∃ a24, r1 = some a24 ∧ ∃ x25 : Int, rd w21 (a24.add 1) (.int .i64 x25) ∧ ∃ a26, r1 = some a26 ∧ (.int .i64 (IntKind.wrap .i64 ((x25 : Int) + n2)) : Value).cells.size = 1 ∧ wrOk w21 (a26.add 1) (.int .i64 (IntKind.wrap .i64 ((x25 : Int) + n2))) ∧ let w27 : World := wr w21 (a26.add 1) (.int .i64 (IntKind.wrap .i64 ((x25 : Int) + n2)))
  let w28 : World := w27.drew
  ∃ a29, r1 = some a29 ∧ ∃ s30a : Option Addr, ∃ s30l : Nat, ∃ s30c : Nat, rd w28 a29 (.slice s30a s30l s30c) ∧ ∃ a31, r1 = some a31 ∧ ∃ x32 : Int, rd w28 (a31.add 1) (.int .i64 x32) ∧ ∃ a33, r1 = some a33 ∧ ∃ x34 : Int, rd w28 (a33.add 1) (.int .i64 x34) ∧ 0 ≤ (x34 : Int) ∧ (x34 : Int) ≤ ((s30c : Nat) : Int) ∧ 0 ≤ (IntKind.wrap .i64 ((x32 : Int) - n2) : Int) ∧ (IntKind.wrap .i64 ((x32 : Int) - n2) : Int) ≤ (((x34 : Int).toNat : Nat) : Int) ∧ R (.returned (.slice (if s30c = ((IntKind.wrap .i64 ((x32 : Int) - n2) : Int).toNat) then s30a else s30a.map (fun x => x.add (((IntKind.wrap .i64 ((x32 : Int) - n2) : Int).toNat) * 1))) (((x34 : Int).toNat) - ((IntKind.wrap .i64 ((x32 : Int) - n2) : Int).toNat)) (s30c - ((IntKind.wrap .i64 ((x32 : Int) - n2) : Int).toNat)))) w28)) (pan R)) (pan R)

theorem T_conf_reader_take_hl : allP (hokL Try.prog (hookAt [(12, H_conf_reader_take_1), (13, H_conf_reader_take_2)]) (bodyOf Try.f71) 1) = (UnitOk Try.prog H_conf_reader_take_1 (at_ (bodyOf Try.f71) [1, 0, 0]) 12 ∧ UnitOk Try.prog H_conf_reader_take_2 (at_ (bodyOf Try.f71) [1, 0, 1]) 13 ∧ True) := by kernel_rfl

theorem T_conf_reader_take_eq (r1 : Option Addr) (n2 : Int) (w : World) (R : Ending → World → Prop) : vcCode Try.prog (hookAt [(12, H_conf_reader_take_1), (13, H_conf_reader_take_2)]) (bodyOf Try.f71) 1 ⟨argEnv [.pointer r1, .int .i64 n2] 0, Try.f71.ntmps, []⟩ w (finQ Try.prog Try.f71.results.toList R) = T_conf_reader_take r1 n2 w R := by kernel_rfl

theorem T_conf_reader_take_b : Try.f71.body = some (bodyOf Try.f71) := by kernel_rfl
theorem T_conf_reader_take_s : (quietSel (bodyOf Try.f71) && Nat.ble 2 Try.f71.ntmps) = true := by kernel_rfl

theorem C_conf_reader_take {r1 : Option Addr} {n2 : Int} {w : World} {R : Ending → World → Prop} (h : T_conf_reader_take r1 n2 w R) : Calls Try.prog 71 #[.pointer r1, .int .i64 n2] w R :=
  calls_of_text (args := [.pointer r1, .int .i64 n2]) mixed Try.func71 T_conf_reader_take_b T_conf_reader_take_s (HOk_of _ _ (by rw [T_conf_reader_take_hl]; exact ⟨T_conf_reader_take_1_ok, T_conf_reader_take_2_ok, trivial⟩)) (by rw [T_conf_reader_take_eq]; exact h)

/-! (*tollgate/conf.reader).float -/
def T_conf_reader_float_1_body (X : Int → Int → World → Prop) (n5 : Int) (x6 : Int) (s7a : Option Addr) (s7l : Nat) (s7c : Nat) (x8 : Int) (w : World) (Kn : Int → World → Prop) (Kp : List PanicEntry → World → Prop)  : Prop :=
  if (decide ((x6 : Int) < x8)) = true then (0 ≤ (x6 : Int) ∧ (x6 : Int) < ((s7l : Nat) : Int) ∧ ∃ b9, s7a = some b9 ∧ ∃ x10 : Int, rd w (b9.add ((x6 : Int).toNat * 1)) (.int .u8 x10) ∧ X (IntKind.wrap .u64 ((BitVec.ofInt (IntKind.bits .u64) (IntKind.wrap .u64 ((n5 : Int) * 2 ^ 8))) ||| (BitVec.ofInt (IntKind.bits .u64) (IntKind.wrap .u64 x10))).toNat) (IntKind.wrap .i64 ((x6 : Int) + 1)) w) else (Kn n5 w)

def T_conf_reader_float_1 (n5 : Int) (x6 : Int) (s7a : Option Addr) (s7l : Nat) (s7c : Nat) (x8 : Int) (w : World) (Kn : Int → World → Prop) (Kp : List PanicEntry → World → Prop) : Prop :=
  ∀ X : Int → Int → World → Prop, (∀ (n5 : Int) (x6 : Int) (w : World), T_conf_reader_float_1_body X n5 x6 s7a s7l s7c x8 w Kn Kp → X n5 x6 w) → X n5 x6 w

def T_conf_reader_float_1_outs : Exit → Option (List (Nat × Value)) := fun x => match x with | .normal => some [(3, .int .u64 0)] | .panic _ => some [] | _ => none

def T_conf_reader_float_1_ks : Nat → Bool := ksOf [3, 5, 9, 10, 11, 12, 13, 14, 15, 16, 17, 18]

def H_conf_reader_float_1 : Env → World → QT → Prop := unitHook 21 T_conf_reader_float_1_ks [(3, .int .u64 0), (9, .int .i64 0), (7, .slice none 0 0), (8, .int .i64 0)] T_conf_reader_float_1_outs fun l w C => match l with | [v0, v1, v2, v3] => T_conf_reader_float_1 (pInt v0) (pInt v1) (pA v2) (pL v2) (pC v2) (pInt v3) w (fun n12 w => C .normal [.int .u64 n12] w) (fun ch w => C (.panic ch) [] w) | _ => False

theorem T_conf_reader_float_1_hl : allP (hokL Try.prog (hookAt []) (at_ (bodyOf Try.f72) [1, 1, 0, 1, 0, 0]) 116) = (True) := by kernel_rfl
theorem T_conf_reader_float_1_hok : HOk Try.prog (hookAt []) (at_ (bodyOf Try.f72) [1, 1, 0, 1, 0, 0]) 116 := HOk_of _ _ (by rw [T_conf_reader_float_1_hl]; exact trivial)

theorem T_conf_reader_float_1_eq (C : Conts) (X : List Value → World → Prop) (n5 : Int) (x6 : Int) (s7a : Option Addr) (s7l : Nat) (s7c : Nat) (x8 : Int) (w : World) : vcCode Try.prog (hookAt []) (at_ (bodyOf Try.f72) [1, 1, 0, 1, 0, 0]) 116 ⟨[(3, .int .u64 n5), (9, .int .i64 x6)] ++ [(7, .slice s7a s7l s7c), (8, .int .i64 x8)], 21, []⟩ w (seqQ (fun e w => takeAll e [(3, .int .u64 0), (9, .int .i64 0)] fun l => X l w) (blockQ 0 (unitQ T_conf_reader_float_1_outs C))) = T_conf_reader_float_1_body (fun n5 x6 w => X [.int .u64 n5, .int .i64 x6] w) n5 x6 s7a s7l s7c x8 w (fun n13 w => C .normal [.int .u64 n13] w) (fun ch w => C (.panic ch) [] w) := by kernel_rfl

theorem T_conf_reader_float_1_ok : UnitOk Try.prog H_conf_reader_float_1 (at_ (bodyOf Try.f72) [1, 1, 0, 1]) 29 := by
  have hc : at_ (bodyOf Try.f72) [1, 1, 0, 1] = .block 0 (.loop (at_ (bodyOf Try.f72) [1, 1, 0, 1, 0, 0])) := by kernel_rfl
  rw [hc]
  refine loop_unit_ok (carr := [(3, .int .u64 0), (9, .int .i64 0)]) (fix := [(7, .slice none 0 0), (8, .int .i64 0)]) (ks := T_conf_reader_float_1_ks) (H := (hookAt [])) (B := fun C X l u w => match l, u with | [v0, v1], [v2, v3] => T_conf_reader_float_1_body (fun n5 x6 w => X [.int .u64 n5, .int .i64 x6] w) (pInt v0) (pInt v1) (pA v2) (pL v2) (pC v2) (pInt v3) w (fun n14 w => C .normal [.int .u64 n14] w) (fun ch w => C (.panic ch) [] w) | _, _ => False) (by kernel_rfl) (by kernel_rfl) T_conf_reader_float_1_hok ?_ ?_
  · intro C X l u w hl hu
    obtain ⟨v0, l_v0, rfl, k_v0, hl_v0⟩ := Kinds.cons_ hl
    obtain ⟨n5, rfl⟩ := kind_int k_v0
    obtain ⟨v1, l_v1, rfl, k_v1, hl_v1⟩ := Kinds.cons_ hl_v0
    obtain ⟨x6, rfl⟩ := kind_int k_v1
    obtain rfl := Kinds.nil_ hl_v1
    obtain ⟨v2, l_v2, rfl, k_v2, hu_v2⟩ := Kinds.cons_ hu
    obtain ⟨s7a, s7l, s7c, rfl⟩ := kind_slice k_v2
    obtain ⟨v3, l_v3, rfl, k_v3, hu_v3⟩ := Kinds.cons_ hu_v2
    obtain ⟨x8, rfl⟩ := kind_int k_v3
    obtain rfl := Kinds.nil_ hu_v3
    exact T_conf_reader_float_1_eq C X n5 x6 s7a s7l s7c x8 w
  · intro l u w C hl hu
    obtain ⟨v0, l_v0, rfl, k_v0, hl_v0⟩ := Kinds.cons_ hl
    obtain ⟨n5, rfl⟩ := kind_int k_v0
    obtain ⟨v1, l_v1, rfl, k_v1, hl_v1⟩ := Kinds.cons_ hl_v0
    obtain ⟨x6, rfl⟩ := kind_int k_v1
    obtain rfl := Kinds.nil_ hl_v1
    obtain ⟨v2, l_v2, rfl, k_v2, hu_v2⟩ := Kinds.cons_ hu
    obtain ⟨s7a, s7l, s7c, rfl⟩ := kind_slice k_v2
    obtain ⟨v3, l_v3, rfl, k_v3, hu_v3⟩ := Kinds.cons_ hu_v2
    obtain ⟨x8, rfl⟩ := kind_int k_v3
    obtain rfl := Kinds.nil_ hu_v3
    constructor
    · intro h X hX
      exact h (fun n5 x6 w => X [.int .u64 n5, .int .i64 x6] w) (fun n5 x6 w hb => hX [.int .u64 n5, .int .i64 x6] w ⟨rfl, rfl, trivial⟩ hb)
    · intro h X hX
      exact h (fun l w => match l with | [v0, v1] => X (pInt v0) (pInt v1) w | _ => True) (fun l w hl hb => by
        obtain ⟨v0, l_v0, rfl, k_v0, hl_v0⟩ := Kinds.cons_ hl
        obtain ⟨n5, rfl⟩ := kind_int k_v0
        obtain ⟨v1, l_v1, rfl, k_v1, hl_v1⟩ := Kinds.cons_ hl_v0
        obtain ⟨x6, rfl⟩ := kind_int k_v1
        obtain rfl := Kinds.nil_ hl_v1
        exact hX n5 x6 w hb)

def T_conf_reader_float (r1 : Option Addr) (w : World) (R : Ending → World → Prop) : Prop :=
  Calls Try.prog 71 #[.pointer r1, .int .i64 8] w (ret (fun r2 w3 => ∃ s4a : Option Addr, ∃ s4l : Nat, ∃ s4c : Nat, r2 = .slice s4a s4l s4c ∧ T_conf_reader_float_1 0 0 s4a s4l s4c ((s4l : Nat) : Int) w3 (fun n15 w16 => runV Try.prog (callFunc 19 #[.int .u64 n15]) w16 (nxv (fun r17 w18 => ∃ f19 : Nat, r17 = .float .f64 f19 ∧ R (.returned (.float .f64 f19)) w18)) (pan R)) (pan R)) (pan R))

theorem T_conf_reader_float_hl : allP (hokL Try.prog (hookAt [(29, H_conf_reader_float_1)]) (bodyOf Try.f72) 1) = (UnitOk Try.prog H_conf_reader_float_1 (at_ (bodyOf Try.f72) [1, 1, 0, 1]) 29 ∧ True) := by kernel_rfl

theorem T_conf_reader_float_eq (r1 : Option Addr) (w : World) (R : Ending → World → Prop) : vcCode Try.prog (hookAt [(29, H_conf_reader_float_1)]) (bodyOf Try.f72) 1 ⟨argEnv [.pointer r1] 0, Try.f72.ntmps, []⟩ w (finQ Try.prog Try.f72.results.toList R) = T_conf_reader_float r1 w R := by kernel_rfl

theorem T_conf_reader_float_b : Try.f72.body = some (bodyOf Try.f72) := by kernel_rfl
theorem T_conf_reader_float_s : (quietSel (bodyOf Try.f72) && Nat.ble 1 Try.f72.ntmps) = true := by kernel_rfl

theorem C_conf_reader_float {r1 : Option Addr} {w : World} {R : Ending → World → Prop} (h : T_conf_reader_float r1 w R) : Calls Try.prog 72 #[.pointer r1] w R :=
  calls_of_text (args := [.pointer r1]) mixed Try.func72 T_conf_reader_float_b T_conf_reader_float_s (HOk_of _ _ (by rw [T_conf_reader_float_hl]; exact ⟨T_conf_reader_float_1_ok, trivial⟩)) (by rw [T_conf_reader_float_eq]; exact h)

end Go.Proofs.Ytcpmfjclkdjfmaa

/-
  What the functions' code comes to; printed by a program of this claim's own.
-/
namespace Go.Proofs.Ytcpmfjclkdjfmaa
open Go Go.Vc
set_option maxRecDepth 100000
set_option linter.unusedVariables false

/-! tollgate/conf.PutCommand -/
def T_conf_PutCommand (x1 : Int) (x2 : Int) (x3 : Int) (x4 : Int) (s5 : ByteArray) (s6 : ByteArray) (s7 : ByteArray) (s8a : Option Addr) (s8l : Nat) (s8c : Nat) (w : World) (R : Ending → World → Prop) : Prop :=
  let w9 : World := w.alloc (.cells #[.int .i64 x1, .int .i64 x2, .int .i64 x3, .int .i64 x4, .string s5, .string s6, .string s7, .slice s8a s8l s8c] 28)
  ∃ x10 : Int, ∃ x11 : Int, ∃ x12 : Int, ∃ x13 : Int, ∃ s14 : ByteArray, ∃ s15 : ByteArray, ∃ s16 : ByteArray, ∃ s17a : Option Addr, ∃ s17l : Nat, ∃ s17c : Nat, rd w9 (⟨w.heap.size, 0, none⟩ : Addr) (.agg #[.int .i64 x10, .int .i64 x11, .int .i64 x12, .int .i64 x13, .string s14, .string s15, .string s16, .slice s17a s17l s17c]) ∧ Calls Try.prog 15 #[.agg #[.int .i64 x10, .int .i64 x11, .int .i64 x12, .int .i64 x13, .string s14, .string s15, .string s16, .slice s17a s17l s17c]] w9 (ret (fun r18 w19 => ∃ x20 : Int, r18 = .int .i64 x20 ∧ if ((x20 : Int) != 0) = true then (R (.returned (.tuple #[.slice none 0 0, .int .i64 x20])) w19) else (let w21 : World := w19.drew
  ∃ x22 : Int, rd w21 (⟨w.heap.size, 0, none⟩ : Addr) (.int .i64 x22) ∧ ∃ x23 : Int, rd w21 ((⟨w.heap.size, 0, none⟩ : Addr).add 1) (.int .i64 x23) ∧ ∃ x24 : Int, rd w21 ((⟨w.heap.size, 0, none⟩ : Addr).add 2) (.int .i64 x24) ∧ ∃ x25 : Int, rd w21 ((⟨w.heap.size, 0, none⟩ : Addr).add 3) (.int .i64 x25) ∧ Calls Try.prog 29 #[.slice none 0 0, .int .i64 x22] w21 (ret (fun r26 w27 => ∃ s28a : Option Addr, ∃ s28l : Nat, ∃ s28c : Nat, r26 = .slice s28a s28l s28c ∧ (rd w27 ((⟨w.heap.size, 0, none⟩ : Addr).add 3) (.int .i64 x25) ∧ rd w27 ((⟨w.heap.size, 0, none⟩ : Addr).add 2) (.int .i64 x24) ∧ rd w27 ((⟨w.heap.size, 0, none⟩ : Addr).add 1) (.int .i64 x23) ∧ True) ∧ Calls Try.prog 29 #[.slice s28a s28l s28c, .int .i64 x23] w27 (ret (fun r29 w30 => ∃ s31a : Option Addr, ∃ s31l : Nat, ∃ s31c : Nat, r29 = .slice s31a s31l s31c ∧ (rd w30 ((⟨w.heap.size, 0, none⟩ : Addr).add 3) (.int .i64 x25) ∧ rd w30 ((⟨w.heap.size, 0, none⟩ : Addr).add 2) (.int .i64 x24) ∧ True) ∧ Calls Try.prog 29 #[.slice s31a s31l s31c, .int .i64 x24] w30 (ret (fun r32 w33 => ∃ s34a : Option Addr, ∃ s34l : Nat, ∃ s34c : Nat, r32 = .slice s34a s34l s34c ∧ (rd w33 ((⟨w.heap.size, 0, none⟩ : Addr).add 3) (.int .i64 x25) ∧ True) ∧ Calls Try.prog 29 #[.slice s34a s34l s34c, .int .i64 (IntKind.wrap .i64 ((x25 : Int) + 1))] w33 (ret (fun r35 w36 => ∃ s37a : Option Addr, ∃ s37l : Nat, ∃ s37c : Nat, r35 = .slice s37a s37l s37c ∧ (True) ∧ let w38 : World := w36.drew
  ∃ s39 : ByteArray, rd w38 ((⟨w.heap.size, 0, none⟩ : Addr).add 4) (.string s39) ∧ ∃ s40 : ByteArray, rd w38 ((⟨w.heap.size, 0, none⟩ : Addr).add 5) (.string s40) ∧ ∃ s41 : ByteArray, rd w38 ((⟨w.heap.size, 0, none⟩ : Addr).add 6) (.string s41) ∧ ∃ s42a : Option Addr, ∃ s42l : Nat, ∃ s42c : Nat, rd w38 ((⟨w.heap.size, 0, none⟩ : Addr).add 7) (.slice s42a s42l s42c) ∧ Calls Try.prog 31 #[.slice s37a s37l s37c, .string s39] w38 (ret (fun r43 w44 => ∃ s45a : Option Addr, ∃ s45l : Nat, ∃ s45c : Nat, r43 = .slice s45a s45l s45c ∧ (rd w44 ((⟨w.heap.size, 0, none⟩ : Addr).add 7) (.slice s42a s42l s42c) ∧ rd w44 ((⟨w.heap.size, 0, none⟩ : Addr).add 6) (.string s41) ∧ rd w44 ((⟨w.heap.size, 0, none⟩ : Addr).add 5) (.string s40) ∧ True) ∧ Calls Try.prog 31 #[.slice s45a s45l s45c, .string s40] w44 (ret (fun r46 w47 => ∃ s48a : Option Addr, ∃ s48l : Nat, ∃ s48c : Nat, r46 = .slice s48a s48l s48c ∧ (rd w47 ((⟨w.heap.size, 0, none⟩ : Addr).add 7) (.slice s42a s42l s42c) ∧ rd w47 ((⟨w.heap.size, 0, none⟩ : Addr).add 6) (.string s41) ∧ True) ∧ Calls Try.prog 31 #[.slice s48a s48l s48c, .string s41] w47 (ret (fun r49 w50 => ∃ s51a : Option Addr, ∃ s51l : Nat, ∃ s51c : Nat, r49 = .slice s51a s51l s51c ∧ (rd w50 ((⟨w.heap.size, 0, none⟩ : Addr).add 7) (.slice s42a s42l s42c) ∧ True) ∧ Calls Try.prog 30 #[.slice s51a s51l s51c, .slice s42a s42l s42c] w50 (ret (fun r52 w53 => ∃ s54a : Option Addr, ∃ s54l : Nat, ∃ s54c : Nat, r52 = .slice s54a s54l s54c ∧ (True) ∧ R (.returned (.tuple #[.slice s54a s54l s54c, .int .i64 0])) w53) (pan R))) (pan R))) (pan R))) (pan R))) (pan R))) (pan R))) (pan R))) (pan R)))) (pan R))

theorem T_conf_PutCommand_hl : allP (hokL Try.prog (hookAt []) (bodyOf Try.f13) 1) = (True) := by kernel_rfl

theorem T_conf_PutCommand_eq (x1 : Int) (x2 : Int) (x3 : Int) (x4 : Int) (s5 : ByteArray) (s6 : ByteArray) (s7 : ByteArray) (s8a : Option Addr) (s8l : Nat) (s8c : Nat) (w : World) (R : Ending → World → Prop) : vcCode Try.prog (hookAt []) (bodyOf Try.f13) 1 ⟨argEnv [.agg #[.int .i64 x1, .int .i64 x2, .int .i64 x3, .int .i64 x4, .string s5, .string s6, .string s7, .slice s8a s8l s8c]] 0, Try.f13.ntmps, []⟩ w (finQ Try.prog Try.f13.results.toList R) = T_conf_PutCommand x1 x2 x3 x4 s5 s6 s7 s8a s8l s8c w R := by kernel_rfl

theorem T_conf_PutCommand_b : Try.f13.body = some (bodyOf Try.f13) := by kernel_rfl
theorem T_conf_PutCommand_s : (quietSel (bodyOf Try.f13) && Nat.ble 1 Try.f13.ntmps) = true := by kernel_rfl

theorem C_conf_PutCommand {x1 : Int} {x2 : Int} {x3 : Int} {x4 : Int} {s5 : ByteArray} {s6 : ByteArray} {s7 : ByteArray} {s8a : Option Addr} {s8l : Nat} {s8c : Nat} {w : World} {R : Ending → World → Prop} (h : T_conf_PutCommand x1 x2 x3 x4 s5 s6 s7 s8a s8l s8c w R) : Calls Try.prog 13 #[.agg #[.int .i64 x1, .int .i64 x2, .int .i64 x3, .int .i64 x4, .string s5, .string s6, .string s7, .slice s8a s8l s8c]] w R :=
  calls_of_text (args := [.agg #[.int .i64 x1, .int .i64 x2, .int .i64 x3, .int .i64 x4, .string s5, .string s6, .string s7, .slice s8a s8l s8c]]) mixed Try.func13 T_conf_PutCommand_b T_conf_PutCommand_s (HOk_of _ _ (by rw [T_conf_PutCommand_hl]; exact trivial)) (by rw [T_conf_PutCommand_eq]; exact h)

/-! tollgate/tollgateref08.PutCommand -/
def T_ref08_PutCommand (x1 : Int) (x2 : Int) (x3 : Int) (x4 : Int) (s5 : ByteArray) (s6 : ByteArray) (s7 : ByteArray) (s8a : Option Addr) (s8l : Nat) (s8c : Nat) (w : World) (R : Ending → World → Prop) : Prop :=
  let w9 : World := w.alloc (.cells #[.int .i64 x1, .int .i64 x2, .int .i64 x3, .int .i64 x4, .string s5, .string s6, .string s7, .slice s8a s8l s8c] 28)
  ∃ x10 : Int, ∃ x11 : Int, ∃ x12 : Int, ∃ x13 : Int, ∃ s14 : ByteArray, ∃ s15 : ByteArray, ∃ s16 : ByteArray, ∃ s17a : Option Addr, ∃ s17l : Nat, ∃ s17c : Nat, rd w9 (⟨w.heap.size, 0, none⟩ : Addr) (.agg #[.int .i64 x10, .int .i64 x11, .int .i64 x12, .int .i64 x13, .string s14, .string s15, .string s16, .slice s17a s17l s17c]) ∧ Calls Try.prog 16 #[.agg #[.int .i64 x10, .int .i64 x11, .int .i64 x12, .int .i64 x13, .string s14, .string s15, .string s16, .slice s17a s17l s17c]] w9 (ret (fun r18 w19 => ∃ x20 : Int, r18 = .int .i64 x20 ∧ if ((x20 : Int) != 0) = true then (R (.returned (.tuple #[.slice none 0 0, .int .i64 x20])) w19) else (let w21 : World := w19.drew
  ∃ x22 : Int, rd w21 (⟨w.heap.size, 0, none⟩ : Addr) (.int .i64 x22) ∧ ∃ x23 : Int, rd w21 ((⟨w.heap.size, 0, none⟩ : Addr).add 1) (.int .i64 x23) ∧ let w24 : World := w21.alloc (.cells #[] 5)
  (rd w24 ((⟨w.heap.size, 0, none⟩ : Addr).add 1) (.int .i64 x23) ∧ rd w24 (⟨w.heap.size, 0, none⟩ : Addr) (.int .i64 x22) ∧ True) ∧ Calls Try.prog 32 #[.slice (some (⟨w21.heap.size, 0, none⟩ : Addr)) 0 0, .int .i64 x22] w24 (ret (fun r25 w26 => ∃ s27a : Option Addr, ∃ s27l : Nat, ∃ s27c : Nat, r25 = .slice s27a s27l s27c ∧ (rd w26 ((⟨w.heap.size, 0, none⟩ : Addr).add 1) (.int .i64 x23) ∧ True) ∧ Calls Try.prog 32 #[.slice s27a s27l s27c, .int .i64 x23] w26 (ret (fun r28 w29 => ∃ s30a : Option Addr, ∃ s30l : Nat, ∃ s30c : Nat, r28 = .slice s30a s30l s30c ∧ (True) ∧ let w31 : World := w29.drew
  ∃ x32 : Int, rd w31 ((⟨w.heap.size, 0, none⟩ : Addr).add 2) (.int .i64 x32) ∧ ∃ x33 : Int, rd w31 ((⟨w.heap.size, 0, none⟩ : Addr).add 3) (.int .i64 x33) ∧ Calls Try.prog 32 #[.slice s30a s30l s30c, .int .i64 x32] w31 (ret (fun r34 w35 => ∃ s36a : Option Addr, ∃ s36l : Nat, ∃ s36c : Nat, r34 = .slice s36a s36l s36c ∧ (rd w35 ((⟨w.heap.size, 0, none⟩ : Addr).add 3) (.int .i64 x33) ∧ True) ∧ Calls Try.prog 32 #[.slice s36a s36l s36c, .int .i64 (IntKind.wrap .i64 ((x33 : Int) + 1))] w35 (ret (fun r37 w38 => ∃ s39a : Option Addr, ∃ s39l : Nat, ∃ s39c : Nat, r37 = .slice s39a s39l s39c ∧ (True) ∧ let w40 : World := w38.drew
  ∃ s41 : ByteArray, rd w40 ((⟨w.heap.size, 0, none⟩ : Addr).add 4) (.string s41) ∧ ∃ s42 : ByteArray, rd w40 ((⟨w.heap.size, 0, none⟩ : Addr).add 5) (.string s42) ∧ ∃ s43 : ByteArray, rd w40 ((⟨w.heap.size, 0, none⟩ : Addr).add 6) (.string s43) ∧ Calls Try.prog 33 #[.slice s39a s39l s39c, .string s41] w40 (ret (fun r44 w45 => ∃ s46a : Option Addr, ∃ s46l : Nat, ∃ s46c : Nat, r44 = .slice s46a s46l s46c ∧ (rd w45 ((⟨w.heap.size, 0, none⟩ : Addr).add 6) (.string s43) ∧ rd w45 ((⟨w.heap.size, 0, none⟩ : Addr).add 5) (.string s42) ∧ True) ∧ Calls Try.prog 33 #[.slice s46a s46l s46c, .string s42] w45 (ret (fun r47 w48 => ∃ s49a : Option Addr, ∃ s49l : Nat, ∃ s49c : Nat, r47 = .slice s49a s49l s49c ∧ (rd w48 ((⟨w.heap.size, 0, none⟩ : Addr).add 6) (.string s43) ∧ True) ∧ Calls Try.prog 33 #[.slice s49a s49l s49c, .string s43] w48 (ret (fun r50 w51 => ∃ s52a : Option Addr, ∃ s52l : Nat, ∃ s52c : Nat, r50 = .slice s52a s52l s52c ∧ (True) ∧ ∃ s53a : Option Addr, ∃ s53l : Nat, ∃ s53c : Nat, rd w51 ((⟨w.heap.size, 0, none⟩ : Addr).add 7) (.slice s53a s53l s53c) ∧ Calls Try.prog 34 #[.slice s52a s52l s52c, .slice s53a s53l s53c] w51 (ret (fun r54 w55 => ∃ s56a : Option Addr, ∃ s56l : Nat, ∃ s56c : Nat, r54 = .slice s56a s56l s56c ∧ R (.returned (.tuple #[.slice s56a s56l s56c, .int .i64 0])) w55) (pan R))) (pan R))) (pan R))) (pan R))) (pan R))) (pan R))) (pan R))) (pan R)))) (pan R))

theorem T_ref08_PutCommand_hl : allP (hokL Try.prog (hookAt []) (bodyOf Try.f14) 1) = (True) := by kernel_rfl

theorem T_ref08_PutCommand_eq (x1 : Int) (x2 : Int) (x3 : Int) (x4 : Int) (s5 : ByteArray) (s6 : ByteArray) (s7 : ByteArray) (s8a : Option Addr) (s8l : Nat) (s8c : Nat) (w : World) (R : Ending → World → Prop) : vcCode Try.prog (hookAt []) (bodyOf Try.f14) 1 ⟨argEnv [.agg #[.int .i64 x1, .int .i64 x2, .int .i64 x3, .int .i64 x4, .string s5, .string s6, .string s7, .slice s8a s8l s8c]] 0, Try.f14.ntmps, []⟩ w (finQ Try.prog Try.f14.results.toList R) = T_ref08_PutCommand x1 x2 x3 x4 s5 s6 s7 s8a s8l s8c w R := by kernel_rfl

theorem T_ref08_PutCommand_b : Try.f14.body = some (bodyOf Try.f14) := by kernel_rfl
theorem T_ref08_PutCommand_s : (quietSel (bodyOf Try.f14) && Nat.ble 1 Try.f14.ntmps) = true := by kernel_rfl

theorem C_ref08_PutCommand {x1 : Int} {x2 : Int} {x3 : Int} {x4 : Int} {s5 : ByteArray} {s6 : ByteArray} {s7 : ByteArray} {s8a : Option Addr} {s8l : Nat} {s8c : Nat} {w : World} {R : Ending → World → Prop} (h : T_ref08_PutCommand x1 x2 x3 x4 s5 s6 s7 s8a s8l s8c w R) : Calls Try.prog 14 #[.agg #[.int .i64 x1, .int .i64 x2, .int .i64 x3, .int .i64 x4, .string s5, .string s6, .string s7, .slice s8a s8l s8c]] w R :=
  calls_of_text (args := [.agg #[.int .i64 x1, .int .i64 x2, .int .i64 x3, .int .i64 x4, .string s5, .string s6, .string s7, .slice s8a s8l s8c]]) mixed Try.func14 T_ref08_PutCommand_b T_ref08_PutCommand_s (HOk_of _ _ (by rw [T_ref08_PutCommand_hl]; exact trivial)) (by rw [T_ref08_PutCommand_eq]; exact h)

end Go.Proofs.Ytcpmfjclkdjfmaa

/-
  A command's bytes: the program's PutCommand and the document's.
-/
namespace Go.Vc
open Go Go.Proofs Go.Proofs.Ytcpmfjclkdjfmaa
set_option maxRecDepth 100000
section
variable {E w : World} {L : List Asrt} {R : Ending → World → Prop} {F : Fz} {c : Cm.Cmd} {q : Sl}
def putCE (c : Cm.Cmd) : Cm.Bs := if Cm.chk c = 0 then Cm.putC c else []
theorem mem1' {A : Asrt} (hm : kn F ∈ L) : kn F ∈ A :: L := List.mem_cons_of_mem _ hm
theorem rd_cmdC {b : Nat} (h : St E (blkL b 28 (cmdL c q) :: L) w) : rd w ⟨b, 0, none⟩ (cmdV c q) := rd_agg (xs := cmdL c q) h.at_blk (by intro i u hu; rw [Nat.zero_add]; exact hu)
theorem tgs_short {l : List Cm.Tgt} (h : Cm.chkT l = 0) : tgsMax l ≤ 10000 := by
  have hz := Cm.chkT_zero h
  have key : ∀ l : List Cm.Tgt, (∀ t ∈ l, t.addr.length ≤ 128) → (l.map fun t => 14 + t.addr.length).sum ≤ l.length * 142 := by
    intro l
    induction l with
    | nil => intro _; simp
    | cons a r ih =>
      intro hl
      have := ih fun t ht => hl t (List.mem_cons_of_mem _ ht)
      have := hl a List.mem_cons_self
      simp only [List.map_cons, List.sum_cons, List.length_cons]; omega
  have := key l fun t ht => (Cm.chkT_good h t ht).1
  have := hz.2
  unfold tgsMax; omega
/-- PutCommand. -/
theorem PutCommand_spec (hm : kn F ∈ L) (h : St E L w) (hr : RdF F q.1 q.2.1 2 (c.tg.flatMap tV)) (hc : okC c)
    (k : ∀ (w' : World) (b : Sl), St E (byA b (putCE c) :: L) w' → R (.returned (.tuple #[.slice b.1 b.2.1 b.2.2, .int .i64 (Cm.chk c)])) w') : Calls Try.prog 13 #[cmdV c q] w R := by
  have hbig : big = 140737488355328 := rfl
  refine C_conf_PutCommand ?_
  unfold T_conf_PutCommand
  intro w9
  have h9 : St E (blkL w.heap.size 28 (cmdL c q) :: L) w9 := h.alloc (.cells ⟨cmdL c q⟩ 28)
  clear_value w9
  refine ⟨_, _, _, _, _, _, _, _, _, _, rd_cmdC h9, ?_⟩
  refine Check_spec (mem1' hm) h9 hr hc fun w19 h19 => ⟨_, rfl, ?_⟩
  refine ite_b (fun hh => ?_) fun hh => ?_
  · have e : Cm.chk c ≠ 0 := by simpa using hh
    refine k _ (none, 0, 0) ?_
    rw [show putCE c = [] from if_neg e]
    exact h19.drop.by_nil
  have e : Cm.chk c = 0 := by simpa using hh
  rw [show putCE c = Cm.putC c from if_pos e, e] at k
  have fn := Cm.chk_fine e
  have m1 := num_len c.act; have m2 := num_len c.client; have m3 := num_len c.seq; have m4 := num_len (c.expect + 1)
  have m5 := text_len c.host; have m6 := text_len c.pfx; have m7 := text_len c.pool
  have f1 := fn.h; have f2 := fn.p; have f3 := fn.o; have f4 := tgs_short fn.t
  intro w21
  have h21 : St E _ w21 := h19.drew
  clear_value w21
  refine ⟨_, rd_cell h21.at_blk rfl rfl, _, rd_fld h21.at_blk rfl rfl, _, rd_fld h21.at_blk rfl rfl, _, rd_fld h21.at_blk rfl rfl, ?_⟩
  refine num_spec (s := (none, 0, 0)) (xs := []) h21.by_nil (by rw [List.length_nil]; omega) fun w27 b27 h27 => ⟨_, _, _, rfl, ⟨rd_fld h27.f1.at_blk rfl rfl, rd_fld h27.f1.at_blk rfl rfl, rd_fld h27.f1.at_blk rfl rfl, trivial⟩, ?_⟩
  rw [List.nil_append] at h27
  refine num_spec h27 (by omega) fun w30 b30 h30 => ⟨_, _, _, rfl, ⟨rd_fld h30.f1.at_blk rfl rfl, rd_fld h30.f1.at_blk rfl rfl, trivial⟩, ?_⟩
  refine num_spec h30 (by simp only [List.length_append]; omega) fun w33 b33 h33 => ⟨_, _, _, rfl, ⟨rd_fld h33.f1.at_blk rfl rfl, trivial⟩, ?_⟩
  rw [wrap_id (by have := fn.ex; omega) (by have := fn.ex; omega)]
  refine num_spec h33 (by simp only [List.length_append]; omega) fun w36 b36 h36 => ⟨_, _, _, rfl, trivial, ?_⟩
  intro w38
  have h38 : St E _ w38 := h36.drew
  clear_value w38
  refine ⟨_, rd_fld h38.f1.at_blk rfl rfl, _, rd_fld h38.f1.at_blk rfl rfl, _, rd_fld h38.f1.at_blk rfl rfl, _, _, _, rd_fld h38.f1.at_blk rfl rfl, ?_⟩
  refine text_spec (x := c.host) h38 (by simp only [List.length_append]; omega) fun w44 b44 h44 => ⟨_, _, _, rfl, ⟨rd_fld h44.f1.at_blk rfl rfl, rd_fld h44.f1.at_blk rfl rfl, rd_fld h44.f1.at_blk rfl rfl, trivial⟩, ?_⟩
  refine text_spec (x := c.pfx) h44 (by simp only [List.length_append]; omega) fun w47 b47 h47 => ⟨_, _, _, rfl, ⟨rd_fld h47.f1.at_blk rfl rfl, rd_fld h47.f1.at_blk rfl rfl, trivial⟩, ?_⟩
  refine text_spec (x := c.pool) h47 (by simp only [List.length_append]; omega) fun w50 b50 h50 => ⟨_, _, _, rfl, ⟨rd_fld h50.f1.at_blk rfl rfl, trivial⟩, ?_⟩
  refine row_spec (q := q) (mem1' hm) hr hc.2.2.2 h50 (by simp only [List.length_append]; omega) fun w53 b53 h53 => ⟨_, _, _, rfl, trivial, k _ b53 ?_⟩
  have h54 := h53.f1.drop
  simpa [Cm.putC] using h54
/-- The document's. -/
theorem RPutCommand_spec (hm : kn F ∈ L) (h : St E L w) (hr : RdF F q.1 q.2.1 2 (c.tg.flatMap tV)) (hc : okC c)
    (k : ∀ (w' : World) (b : Sl), St E (byA b (putCE c) :: L) w' → R (.returned (.tuple #[.slice b.1 b.2.1 b.2.2, .int .i64 (Cm.chk c)])) w') : Calls Try.prog 14 #[cmdV c q] w R := by
  have hbig : big = 140737488355328 := rfl
  refine C_ref08_PutCommand ?_
  unfold T_ref08_PutCommand
  intro w9
  have h9 : St E (blkL w.heap.size 28 (cmdL c q) :: L) w9 := h.alloc (.cells ⟨cmdL c q⟩ 28)
  clear_value w9
  refine ⟨_, _, _, _, _, _, _, _, _, _, rd_cmdC h9, ?_⟩
  refine RCheck_spec (mem1' hm) h9 hr hc fun w19 h19 => ⟨_, rfl, ?_⟩
  refine ite_b (fun hh => ?_) fun hh => ?_
  · have e : Cm.chk c ≠ 0 := by simpa using hh
    refine k _ (none, 0, 0) ?_
    rw [show putCE c = [] from if_neg e]
    exact h19.drop.by_nil
  have e : Cm.chk c = 0 := by simpa using hh
  rw [show putCE c = Cm.putC c from if_pos e, e] at k
  have fn := Cm.chk_fine e
  have m1 := num_len c.act; have m2 := num_len c.client; have m3 := num_len c.seq; have m4 := num_len (c.expect + 1)
  have m5 := text_len c.host; have m6 := text_len c.pfx; have m7 := text_len c.pool
  have f1 := fn.h; have f2 := fn.p; have f3 := fn.o; have f4 := tgs_short fn.t
  intro w21
  have h21 : St E _ w21 := h19.drew
  clear_value w21
  refine ⟨_, rd_cell h21.at_blk rfl rfl, _, rd_fld h21.at_blk rfl rfl, ?_⟩
  intro w24
  have h24 : St E (byA (some ⟨w21.heap.size, 0, none⟩, 0, 0) [] :: _) w24 := h21.by_new [] (by decide)
  refine ⟨⟨rd_fld h24.f1.at_blk rfl rfl, rd_cell h24.f1.at_blk rfl rfl, trivial⟩, ?_⟩
  refine Rnum_spec (s := (some ⟨w21.heap.size, 0, none⟩, 0, 0)) (xs := []) h24 (by rw [List.length_nil]; omega) fun w27 b27 h27 => ⟨_, _, _, rfl, ⟨rd_fld h27.f1.at_blk rfl rfl, trivial⟩, ?_⟩
  rw [List.nil_append] at h27
  refine Rnum_spec h27 (by omega) fun w30 b30 h30 => ⟨_, _, _, rfl, trivial, ?_⟩
  intro w31
  have h31 : St E _ w31 := h30.drew
  clear_value w31
  refine ⟨_, rd_fld h31.f1.at_blk rfl rfl, _, rd_fld h31.f1.at_blk rfl rfl, ?_⟩
  refine Rnum_spec h31 (by simp only [List.length_append]; omega) fun w33 b33 h33 => ⟨_, _, _, rfl, ⟨rd_fld h33.f1.at_blk rfl rfl, trivial⟩, ?_⟩
  rw [wrap_id (by have := fn.ex; omega) (by have := fn.ex; omega)]
  refine Rnum_spec h33 (by simp only [List.length_append]; omega) fun w36 b36 h36 => ⟨_, _, _, rfl, trivial, ?_⟩
  intro w38
  have h38 : St E _ w38 := h36.drew
  clear_value w38
  refine ⟨_, rd_fld h38.f1.at_blk rfl rfl, _, rd_fld h38.f1.at_blk rfl rfl, _, rd_fld h38.f1.at_blk rfl rfl, ?_⟩
  refine Rtext_spec (x := c.host) h38 (by simp only [List.length_append]; omega) fun w44 b44 h44 => ⟨_, _, _, rfl, ⟨rd_fld h44.f1.at_blk rfl rfl, rd_fld h44.f1.at_blk rfl rfl, trivial⟩, ?_⟩
  refine Rtext_spec (x := c.pfx) h44 (by simp only [List.length_append]; omega) fun w47 b47 h47 => ⟨_, _, _, rfl, ⟨rd_fld h47.f1.at_blk rfl rfl, trivial⟩, ?_⟩
  refine Rtext_spec (x := c.pool) h47 (by simp only [List.length_append]; omega) fun w50 b50 h50 => ⟨_, _, _, rfl, trivial, _, _, _, rd_fld h50.f1.at_blk rfl rfl, ?_⟩
  refine Rtargets_spec (q := q) (mem1' hm) hr hc.2.2.2 h50 (by simp only [List.length_append]; omega) fun w53 b53 h53 => ⟨_, _, _, rfl, k _ b53 ?_⟩
  have h54 := h53.f1.drop
  simpa [Cm.putC] using h54
end
end Go.Vc

/-
  Commands that came in: what stands in them.
-/
namespace Go.Vc
open Go Go.Proofs Go.Proofs.Ytcpmfjclkdjfmaa
set_option maxRecDepth 100000
section
variable {H : Type} {enc : TypeId × Value → H} {W : World}
theorem trod_float0 {t : TypeId} {fk : FloatKind} (ht : Try.prog.underlying t = some (.float fk)) {fuel : Nat} {cs : List Value} {x : DataW H × List MemPlace} (h : DataW.trod enc Try.prog W 0 (fun _ => true) true fuel t cs = some x) : ∃ b, cs = [.float fk b] ∧ x = (.lit (.float fk b), []) ∧ (Lit.float fk b).wf = true := by
  cases fuel with
  | zero => simp [DataW.trod] at h
  | succ n =>
    unfold DataW.trod at h
    rw [ht] at h
    split at h <;> simp_all
theorem trod_float {t : TypeId} (ht : Try.prog.underlying t = some (.float .f64)) {fuel : Nat} {cs : List Value} {x : DataW H × List MemPlace} (h : DataW.trod enc Try.prog W 0 (fun _ => true) true fuel t cs = some x) : ∃ b, cs = [.float .f64 b] ∧ b < two64 := by
  obtain ⟨b, h1, _, h2⟩ := trod_float0 ht h
  exact ⟨b, h1, of_decide_eq_true h2⟩
theorem sl_of {t e : TypeId} (ht : Try.prog.underlying t = some (.slice e)) {fuel : Nat} {v : Value} {x : DataW H × List MemPlace} (h : DataW.trod enc Try.prog W 0 (fun _ => true) true fuel t [v] = some x) : ∃ a l c, v = .slice a l c ∧ l ≤ c := by
  rcases DataW.trod_slice ht h with ⟨hcs, _⟩ | ⟨ad, len, cap, _, _, _, _, hcs, _, _, hl, _⟩
  · simp at hcs; exact ⟨_, _, _, hcs, Nat.le_refl _⟩
  · simp at hcs; exact ⟨_, _, _, hcs, hl⟩
/-- Targets that came in. -/
theorem open_tgs {a : Option Addr} {l c : Nat} {fuel : Nat} {x : DataW H × List MemPlace} (h : DataW.trod enc Try.prog W 0 (fun _ => true) true fuel 26 [.slice a l c] = some x) :
    ∃ tg : List Cm.Tgt, RdS W a l 2 (tg.flatMap tV) ∧ okTs tg := by
  obtain ⟨tg, h1, h2, h3⟩ := open_elems (β := Cm.Tgt) (f := tV) okT tV_len (by decide) Try.underlying26 (by kernel_rfl) (fun n cs x hx => by
    obtain ⟨xs, m, _, _, hcl, hxl, hfs⟩ := DataW.trod_struct Try.underlying55 hx
    rw [show Try.prog.cellsOf 55 = 2 by kernel_rfl] at hcl
    have hxl2 : xs.length = 2 := hxl
    have cs_ : Try.prog.cellsOf 9 = 1 := by kernel_rfl
    have cf : Try.prog.cellsOf 51 = 1 := by kernel_rfl
    match cs, hcl with
    | [v0, v1], _ =>
      have f0 := hfs 0 _ rfl
      have f1 := hfs 1 _ rfl
      simp only [List.getElem_toArray, List.getElem_cons_zero, List.getElem_cons_succ, cs_, cf, List.drop_zero, List.drop_succ_cons, List.take_succ_cons, List.take_zero] at f0 f1
      rw [List.getElem?_eq_getElem (by omega)] at f0 f1
      obtain ⟨s0, e0, _, w0⟩ := DataW.trod_string Try.underlying9 f0
      obtain ⟨b1, e1, w1⟩ := trod_float Try.underlying51 f1
      simp at e0 e1
      subst e0 e1
      refine ⟨⟨s0.data.toList, b1⟩, by unfold tV; dsimp only; rw [bs_of], ?_, w1⟩
      have : s0.data.toList.length = s0.size := Array.length_toList
      show s0.data.toList.length ≤ huge
      rw [this]; exact w0) h
  refine ⟨tg, h1, ?_, h3⟩
  have := h1.count tV_len (by decide)
  rw [this]; exact h2
/-- A command that came in. -/
theorem open_cmd {fuel : Nat} {cs : List Value} {x : DataW H × List MemPlace} (hx : DataW.trod enc Try.prog W 0 (fun _ => true) true fuel 28 cs = some x) :
    ∃ d : Cm.Cmd × Sl, cs = cmdL d.1 d.2 ∧ okC d.1 ∧ RdS W d.2.1 d.2.2.1 2 (d.1.tg.flatMap tV) := by
  obtain ⟨xs, m, _, _, hcl, hxl, hfs⟩ := DataW.trod_struct Try.underlying28 hx
  rw [show Try.prog.cellsOf 28 = 8 by kernel_rfl] at hcl
  have hxl8 : xs.length = 8 := hxl
  have c1 : Try.prog.cellsOf 9 = 1 := by kernel_rfl
  have c2 : Try.prog.cellsOf 3 = 1 := by kernel_rfl
  have c3 : Try.prog.cellsOf 25 = 1 := by kernel_rfl
  have c4 : Try.prog.cellsOf 26 = 1 := by kernel_rfl
  match cs, hcl with
  | [v0, v1, v2, v3, v4, v5, v6, v7], _ =>
    have f0 := hfs 0 _ rfl
    have f1 := hfs 1 _ rfl
    have f2 := hfs 2 _ rfl
    have f3 := hfs 3 _ rfl
    have f4 := hfs 4 _ rfl
    have f5 := hfs 5 _ rfl
    have f6 := hfs 6 _ rfl
    have f7 := hfs 7 _ rfl
    simp only [List.getElem_toArray, List.getElem_cons_zero, List.getElem_cons_succ, c1, c2, c3, c4, List.drop_zero, List.drop_succ_cons, List.take_succ_cons, List.take_zero] at f0 f1 f2 f3 f4 f5 f6 f7
    rw [List.getElem?_eq_getElem (by omega)] at f0 f1 f2 f3 f4 f5 f6 f7
    obtain ⟨k0, e0, _⟩ := DataW.trod_int Try.underlying25 f0
    obtain ⟨k1, e1, _⟩ := DataW.trod_int Try.underlying3 f1
    obtain ⟨k2, e2, _⟩ := DataW.trod_int Try.underlying3 f2
    obtain ⟨k3, e3, _⟩ := DataW.trod_int Try.underlying3 f3
    obtain ⟨s4, e4, _, w4⟩ := DataW.trod_string Try.underlying9 f4
    obtain ⟨s5, e5, _, w5⟩ := DataW.trod_string Try.underlying9 f5
    obtain ⟨s6, e6, _, w6⟩ := DataW.trod_string Try.underlying9 f6
    obtain ⟨a7, l7, c7, rfl, _⟩ := sl_of Try.underlying26 f7
    obtain ⟨tg, h7, o7⟩ := open_tgs f7
    simp at e0 e1 e2 e3 e4 e5 e6
    subst e0 e1 e2 e3 e4 e5 e6
    have len : ∀ s : ByteArray, s.data.toList.length = s.size := fun s => Array.length_toList
    exact ⟨(⟨k0, k1, k2, k3, s4.data.toList, s5.data.toList, s6.data.toList, tg⟩, (a7, l7, c7)), by unfold cmdL; dsimp only; rw [bs_of, bs_of, bs_of], ⟨by show s4.data.toList.length ≤ huge; rw [len]; exact w4, by show s5.data.toList.length ≤ huge; rw [len]; exact w5, by show s6.data.toList.length ≤ huge; rw [len]; exact w6, o7⟩, h7⟩
theorem cmdL_len (d : Cm.Cmd × Sl) : (cmdL d.1 d.2).length = 8 := rfl
/-- Commands that came in. -/
def CmdsR (F : Fz) (a : Option Addr) (l : Nat) (ds : List (Cm.Cmd × Sl)) : Prop := RdF F a l 8 (ds.flatMap fun d => cmdL d.1 d.2) ∧ ∀ d ∈ ds, okC d.1 ∧ RdF F d.2.1 d.2.2.1 2 (d.1.tg.flatMap tV)
theorem open_cmds {a : Option Addr} {l c : Nat} {d : DataW H} {ps : List MemPlace} (h : DataW.Trod enc Try.prog W 0 (fun _ => true) true 22 (.slice a l c) d ps) : ∃ ds, CmdsR (fun b => W.heap[b]?) a l ds ∧ l ≤ maxLen := by
  obtain ⟨fuel, hf⟩ := h
  obtain ⟨ds, h1, h2, h3⟩ := open_elems (β := Cm.Cmd × Sl) (f := fun d => cmdL d.1 d.2) (fun d => okC d.1 ∧ RdS W d.2.1 d.2.2.1 2 (d.1.tg.flatMap tV)) cmdL_len (by decide) Try.underlying22 (by kernel_rfl) (fun n cs x hx => by
    obtain ⟨d, e, h1, h2⟩ := open_cmd hx
    exact ⟨d, e, h1, h2⟩) hf
  exact ⟨ds, ⟨RdF.of_world h1, fun d hd => ⟨(h3 d hd).1, RdF.of_world (h3 d hd).2⟩⟩, h2⟩
/-- A command that came in by itself. -/
theorem open_one {cs : Array Value} {d : DataW H} {ps : List MemPlace} (h : DataW.Trod enc Try.prog W 0 (fun _ => true) true 28 (.agg cs) d ps) : ∃ (c : Cm.Cmd) (q : Sl), (.agg cs : Value) = cmdV c q ∧ okC c ∧ RdF (fun b => W.heap[b]?) q.1 q.2.1 2 (c.tg.flatMap tV) := by
  obtain ⟨fuel, hf⟩ := h
  obtain ⟨d, e, h1, h2⟩ := open_cmd (cs := cs.toList) hf
  refine ⟨d.1, d.2, ?_, h1, RdF.of_world h2⟩
  unfold cmdV
  rw [← e]
end
end Go.Vc

/-
  What the functions' code comes to; printed by a program of this claim's own.
-/
namespace Go.Proofs.Ytcpmfjclkdjfmaa
open Go Go.Vc
set_option maxRecDepth 100000
set_option linter.unusedVariables false

/-! tollgate/tollgatelaw08.ConfChecks -/
def T_law08_ConfChecks (x1 : Int) (x2 : Int) (x3 : Int) (x4 : Int) (s5 : ByteArray) (s6 : ByteArray) (s7 : ByteArray) (s8a : Option Addr) (s8l : Nat) (s8c : Nat) (w : World) (R : Ending → World → Prop) : Prop :=
  let w9 : World := w.alloc (.cells #[.int .i64 x1, .int .i64 x2, .int .i64 x3, .int .i64 x4, .string s5, .string s6, .string s7, .slice s8a s8l s8c] 28)
  ∃ x10 : Int, ∃ x11 : Int, ∃ x12 : Int, ∃ x13 : Int, ∃ s14 : ByteArray, ∃ s15 : ByteArray, ∃ s16 : ByteArray, ∃ s17a : Option Addr, ∃ s17l : Nat, ∃ s17c : Nat, rd w9 (⟨w.heap.size, 0, none⟩ : Addr) (.agg #[.int .i64 x10, .int .i64 x11, .int .i64 x12, .int .i64 x13, .string s14, .string s15, .string s16, .slice s17a s17l s17c]) ∧ let w18 : World := w9.alloc (.cells #[.int .i64 0, .int .i64 0, .int .i64 0, .int .i64 0, .string (ByteArray.mk #[]), .string (ByteArray.mk #[]), .string (ByteArray.mk #[]), .slice none 0 0] 28)
  (.agg #[.int .i64 x10, .int .i64 x11, .int .i64 x12, .int .i64 x13, .string s14, .string s15, .string s16, .slice s17a s17l s17c] : Value).cells.size = 8 ∧ wrOk w18 (⟨w9.heap.size, 0, none⟩ : Addr) (.agg #[.int .i64 x10, .int .i64 x11, .int .i64 x12, .int .i64 x13, .string s14, .string s15, .string s16, .slice s17a s17l s17c]) ∧ let w19 : World := wr w18 (⟨w9.heap.size, 0, none⟩ : Addr) (.agg #[.int .i64 x10, .int .i64 x11, .int .i64 x12, .int .i64 x13, .string s14, .string s15, .string s16, .slice s17a s17l s17c])
  let w20 : World := w19.alloc (.cells #[] 55)
  ∃ s21a : Option Addr, ∃ s21l : Nat, ∃ s21c : Nat, rd w20 ((⟨w.heap.size, 0, none⟩ : Addr).add 7) (.slice s21a s21l s21c) ∧ runV Try.prog (Builtin.append_ #[26, 26] 26 #[.slice (some (⟨w19.heap.size, 0, none⟩ : Addr)) 0 0, .slice s21a s21l s21c]) w20 (fun r22 w23 => ∃ s24a : Option Addr, ∃ s24l : Nat, ∃ s24c : Nat, r22 = .slice s24a s24l s24c ∧ (.slice s24a s24l s24c : Value).cells.size = 1 ∧ wrOk w23 ((⟨w9.heap.size, 0, none⟩ : Addr).add 7) (.slice s24a s24l s24c) ∧ let w25 : World := wr w23 ((⟨w9.heap.size, 0, none⟩ : Addr).add 7) (.slice s24a s24l s24c)
  ∃ x26 : Int, ∃ x27 : Int, ∃ x28 : Int, ∃ x29 : Int, ∃ s30 : ByteArray, ∃ s31 : ByteArray, ∃ s32 : ByteArray, ∃ s33a : Option Addr, ∃ s33l : Nat, ∃ s33c : Nat, rd w25 (⟨w9.heap.size, 0, none⟩ : Addr) (.agg #[.int .i64 x26, .int .i64 x27, .int .i64 x28, .int .i64 x29, .string s30, .string s31, .string s32, .slice s33a s33l s33c]) ∧ Calls Try.prog 13 #[.agg #[.int .i64 x26, .int .i64 x27, .int .i64 x28, .int .i64 x29, .string s30, .string s31, .string s32, .slice s33a s33l s33c]] w25 (ret (fun r34 w35 => ∃ s36a : Option Addr, ∃ s36l : Nat, ∃ s36c : Nat, ∃ x37 : Int, r34 = .tuple #[.slice s36a s36l s36c, .int .i64 x37] ∧ ∃ x38 : Int, ∃ x39 : Int, ∃ x40 : Int, ∃ x41 : Int, ∃ s42 : ByteArray, ∃ s43 : ByteArray, ∃ s44 : ByteArray, ∃ s45a : Option Addr, ∃ s45l : Nat, ∃ s45c : Nat, rd w35 (⟨w.heap.size, 0, none⟩ : Addr) (.agg #[.int .i64 x38, .int .i64 x39, .int .i64 x40, .int .i64 x41, .string s42, .string s43, .string s44, .slice s45a s45l s45c]) ∧ Calls Try.prog 14 #[.agg #[.int .i64 x38, .int .i64 x39, .int .i64 x40, .int .i64 x41, .string s42, .string s43, .string s44, .slice s45a s45l s45c]] w35 (ret (fun r46 w47 => ∃ s48a : Option Addr, ∃ s48l : Nat, ∃ s48c : Nat, ∃ x49 : Int, r46 = .tuple #[.slice s48a s48l s48c, .int .i64 x49] ∧ let w50 : World := w47.drew
  Calls Try.prog 12 #[] w50 (ret (fun r51 w52 => ∃ b53 : Bool, r51 = .bool b53 ∧ (True) ∧ if b53 = true then (∃ x54 : Int, ∃ x55 : Int, ∃ x56 : Int, ∃ x57 : Int, ∃ s58 : ByteArray, ∃ s59 : ByteArray, ∃ s60 : ByteArray, ∃ s61a : Option Addr, ∃ s61l : Nat, ∃ s61c : Nat, rd w52 (⟨w9.heap.size, 0, none⟩ : Addr) (.agg #[.int .i64 x54, .int .i64 x55, .int .i64 x56, .int .i64 x57, .string s58, .string s59, .string s60, .slice s61a s61l s61c]) ∧ ∃ x62 : Int, ∃ x63 : Int, ∃ x64 : Int, ∃ x65 : Int, ∃ s66 : ByteArray, ∃ s67 : ByteArray, ∃ s68 : ByteArray, ∃ s69a : Option Addr, ∃ s69l : Nat, ∃ s69c : Nat, rd w52 (⟨w.heap.size, 0, none⟩ : Addr) (.agg #[.int .i64 x62, .int .i64 x63, .int .i64 x64, .int .i64 x65, .string s66, .string s67, .string s68, .slice s69a s69l s69c]) ∧ Calls Try.prog 15 #[.agg #[.int .i64 x54, .int .i64 x55, .int .i64 x56, .int .i64 x57, .string s58, .string s59, .string s60, .slice s61a s61l s61c]] w52 (ret (fun r70 w71 => ∃ x72 : Int, r70 = .int .i64 x72 ∧ (rd w71 (⟨w.heap.size, 0, none⟩ : Addr) (.agg #[.int .i64 x62, .int .i64 x63, .int .i64 x64, .int .i64 x65, .string s66, .string s67, .string s68, .slice s69a s69l s69c]) ∧ True) ∧ Calls Try.prog 16 #[.agg #[.int .i64 x62, .int .i64 x63, .int .i64 x64, .int .i64 x65, .string s66, .string s67, .string s68, .slice s69a s69l s69c]] w71 (ret (fun r73 w74 => ∃ x75 : Int, r73 = .int .i64 x75 ∧ (True) ∧ if ((x72 : Int) == x75) = true then ((runV Try.prog (convert 42 9 (.slice s36a s36l s36c)) w74 (fun r76 w77 => ∃ s78 : ByteArray, r76 = .string s78 ∧ (True) ∧ runV Try.prog (convert 42 9 (.slice s48a s48l s48c)) w77 (fun r79 w80 => ∃ s81 : ByteArray, r79 = .string s81 ∧ (True) ∧ if (s78.toList == s81.toList) = true then (if ((x37 : Int) == x49) = true then (∃ x82 : Int, ∃ x83 : Int, ∃ x84 : Int, ∃ x85 : Int, ∃ s86 : ByteArray, ∃ s87 : ByteArray, ∃ s88 : ByteArray, ∃ s89a : Option Addr, ∃ s89l : Nat, ∃ s89c : Nat, rd w80 (⟨w9.heap.size, 0, none⟩ : Addr) (.agg #[.int .i64 x82, .int .i64 x83, .int .i64 x84, .int .i64 x85, .string s86, .string s87, .string s88, .slice s89a s89l s89c]) ∧ ∃ x90 : Int, ∃ x91 : Int, ∃ x92 : Int, ∃ x93 : Int, ∃ s94 : ByteArray, ∃ s95 : ByteArray, ∃ s96 : ByteArray, ∃ s97a : Option Addr, ∃ s97l : Nat, ∃ s97c : Nat, rd w80 (⟨w.heap.size, 0, none⟩ : Addr) (.agg #[.int .i64 x90, .int .i64 x91, .int .i64 x92, .int .i64 x93, .string s94, .string s95, .string s96, .slice s97a s97l s97c]) ∧ Calls Try.prog 17 #[.agg #[.int .i64 x82, .int .i64 x83, .int .i64 x84, .int .i64 x85, .string s86, .string s87, .string s88, .slice s89a s89l s89c], .agg #[.int .i64 x90, .int .i64 x91, .int .i64 x92, .int .i64 x93, .string s94, .string s95, .string s96, .slice s97a s97l s97c]] w80 (ret (fun r98 w99 => ∃ b100 : Bool, r98 = .bool b100 ∧ (True) ∧ R (.returned (.bool b100)) w99) (pan R))) else ((True) ∧ R (.returned (.bool false)) w80)) else ((True) ∧ R (.returned (.bool false)) w80)) (pan R)) (pan R)) ∧ (runV Try.prog (convert 42 9 (.slice s48a s48l s48c)) w74 (fun r101 w102 => ∃ s103 : ByteArray, r101 = .string s103 ∧ (True) ∧ runV Try.prog (convert 42 9 (.slice s36a s36l s36c)) w102 (fun r104 w105 => ∃ s106 : ByteArray, r104 = .string s106 ∧ (True) ∧ if (s106.toList == s103.toList) = true then (if ((x37 : Int) == x49) = true then (∃ x107 : Int, ∃ x108 : Int, ∃ x109 : Int, ∃ x110 : Int, ∃ s111 : ByteArray, ∃ s112 : ByteArray, ∃ s113 : ByteArray, ∃ s114a : Option Addr, ∃ s114l : Nat, ∃ s114c : Nat, rd w105 (⟨w9.heap.size, 0, none⟩ : Addr) (.agg #[.int .i64 x107, .int .i64 x108, .int .i64 x109, .int .i64 x110, .string s111, .string s112, .string s113, .slice s114a s114l s114c]) ∧ ∃ x115 : Int, ∃ x116 : Int, ∃ x117 : Int, ∃ x118 : Int, ∃ s119 : ByteArray, ∃ s120 : ByteArray, ∃ s121 : ByteArray, ∃ s122a : Option Addr, ∃ s122l : Nat, ∃ s122c : Nat, rd w105 (⟨w.heap.size, 0, none⟩ : Addr) (.agg #[.int .i64 x115, .int .i64 x116, .int .i64 x117, .int .i64 x118, .string s119, .string s120, .string s121, .slice s122a s122l s122c]) ∧ Calls Try.prog 17 #[.agg #[.int .i64 x107, .int .i64 x108, .int .i64 x109, .int .i64 x110, .string s111, .string s112, .string s113, .slice s114a s114l s114c], .agg #[.int .i64 x115, .int .i64 x116, .int .i64 x117, .int .i64 x118, .string s119, .string s120, .string s121, .slice s122a s122l s122c]] w105 (ret (fun r123 w124 => ∃ b125 : Bool, r123 = .bool b125 ∧ (True) ∧ R (.returned (.bool b125)) w124) (pan R))) else ((True) ∧ R (.returned (.bool false)) w105)) else ((True) ∧ R (.returned (.bool false)) w105)) (pan R)) (pan R))) else (((True) ∧ (True) ∧ (True) ∧ R (.returned (.bool false)) w74) ∧ ((True) ∧ (True) ∧ (True) ∧ R (.returned (.bool false)) w74))) (pan R))) (pan R))) else ((True) ∧ (True) ∧ ((True) ∧ (True) ∧ (True) ∧ R (.returned (.bool false)) w52) ∧ ((True) ∧ (True) ∧ (True) ∧ R (.returned (.bool false)) w52))) (pan R))) (pan R))) (pan R))) (pan R)

theorem T_law08_ConfChecks_hl : allP (hokL Try.prog (hookAt []) (bodyOf Try.f4) 1) = (True) := by kernel_rfl

theorem T_law08_ConfChecks_eq (x1 : Int) (x2 : Int) (x3 : Int) (x4 : Int) (s5 : ByteArray) (s6 : ByteArray) (s7 : ByteArray) (s8a : Option Addr) (s8l : Nat) (s8c : Nat) (w : World) (R : Ending → World → Prop) : vcCode Try.prog (hookAt []) (bodyOf Try.f4) 1 ⟨argEnv [.agg #[.int .i64 x1, .int .i64 x2, .int .i64 x3, .int .i64 x4, .string s5, .string s6, .string s7, .slice s8a s8l s8c]] 0, Try.f4.ntmps, []⟩ w (finQ Try.prog Try.f4.results.toList R) = T_law08_ConfChecks x1 x2 x3 x4 s5 s6 s7 s8a s8l s8c w R := by kernel_rfl

theorem T_law08_ConfChecks_b : Try.f4.body = some (bodyOf Try.f4) := by kernel_rfl
theorem T_law08_ConfChecks_s : (quietSel (bodyOf Try.f4) && Nat.ble 1 Try.f4.ntmps) = true := by kernel_rfl

theorem C_law08_ConfChecks {x1 : Int} {x2 : Int} {x3 : Int} {x4 : Int} {s5 : ByteArray} {s6 : ByteArray} {s7 : ByteArray} {s8a : Option Addr} {s8l : Nat} {s8c : Nat} {w : World} {R : Ending → World → Prop} (h : T_law08_ConfChecks x1 x2 x3 x4 s5 s6 s7 s8a s8l s8c w R) : Calls Try.prog 4 #[.agg #[.int .i64 x1, .int .i64 x2, .int .i64 x3, .int .i64 x4, .string s5, .string s6, .string s7, .slice s8a s8l s8c]] w R :=
  calls_of_text (args := [.agg #[.int .i64 x1, .int .i64 x2, .int .i64 x3, .int .i64 x4, .string s5, .string s6, .string s7, .slice s8a s8l s8c]]) mixed Try.func4 T_law08_ConfChecks_b T_law08_ConfChecks_s (HOk_of _ _ (by rw [T_law08_ConfChecks_hl]; exact trivial)) (by rw [T_law08_ConfChecks_eq]; exact h)

end Go.Proofs.Ytcpmfjclkdjfmaa

/-
  The law ConfChecks: which commands may be; their bytes.
-/
namespace Go.Vc
open Go Go.Proofs Go.Proofs.Ytcpmfjclkdjfmaa Go.RowKit
set_option maxRecDepth 100000
section
variable {E w : World} {L : List Asrt} {R : Ending → World → Prop} {F : Fz} {c : Cm.Cmd} {q : Sl}
theorem conv_by3 {b : Sl} {xs : Cm.Bs} (h : St E (byA b xs :: L) w) : (convert 42 9 (.slice b.1 b.2.1 b.2.2)).run Try.prog w = .ok (.string (bs xs)) w :=
  convert_string (e := 5) (by kernel_rfl) (by kernel_rfl) (by kernel_rfl) h.rdS_own
/-- An append of targets, however many that came in. -/
theorem app_tb {s : Sl} {a2 : Option Addr} {l2 c2 : Nat} {ys : List Cm.Tgt} (h : St E (tgA s [] :: L) w) (hro : RdS w a2 l2 2 (ys.flatMap tV)) (hb : l2 * 24 ≤ 140737488355328) :
    ∃ (s' : Sl) (w' : World), (Builtin.append_ #[26, 26] 26 #[.slice s.1 s.2.1 s.2.2, .slice a2 l2 c2]).run Try.prog w = .ok (.slice s'.1 s'.2.1 s'.2.2) w' ∧ St E (tgA s' ys :: L) w' := by
  have hl : ([] : List Cm.Tgt).length = s.2.1 := h.rdS_own.count tV_len (by decide)
  have hl : s.2.1 = 0 := hl.symm
  obtain ⟨a', c', w', hr, hs⟩ := append_own (P := Try.prog) (t := 26) (ty := 26) (e := 55) (i := Try.t55) (z := .agg #[.string (ByteArray.mk #[]), .float .f64 0]) (by kernel_rfl) (by kernel_rfl) (by kernel_rfl) (by kernel_rfl) (by decide) (c2 := c2) h hro (tV_one ys)
    (by have : Try.t55.bytes = 24 := by kernel_rfl
        rw [this]; omega) (by unfold maxLen; omega)
  rw [show Try.t55.size = 2 from by kernel_rfl, ← List.flatMap_append, List.nil_append] at hs
  exact ⟨(a', s.2.1 + l2, c'), w', hr, hs⟩
theorem cmd_sized {H : Type} {enc : TypeId × Value → H} {W : World} {cs : Array Value} {d : DataW H} {ps : List MemPlace} (h : DataW.Trod enc Try.prog W 0 (fun _ => true) true 28 (.agg cs) d ps)
    (hz : (DataW.weightsEach Try.prog [28] [d]).all (· ≤ reachBytes) = true) (he : (.agg cs : Value) = cmdV c q) : q.2.1 * 24 ≤ reachBytes := by
  obtain ⟨fuel, hf⟩ := h
  have hcs : cs = ⟨cmdL c q⟩ := by unfold cmdV at he; injection he
  subst hcs
  have hf : DataW.trod enc Try.prog W 0 (fun _ => true) true fuel 28 (cmdL c q) = some (d, ps) := hf
  obtain ⟨xs, m, _, hx, _, hxl, hfs⟩ := DataW.trod_struct Try.underlying28 hf
  have hxl8 : xs.length = 8 := hxl
  have f7 := hfs 7 _ rfl
  have c4 : Try.prog.cellsOf 26 = 1 := by kernel_rfl
  simp only [cmdL, List.getElem_toArray, List.getElem_cons_zero, List.getElem_cons_succ, c4, List.drop_zero, List.drop_succ_cons, List.take_succ_cons, List.take_zero] at f7
  rw [List.getElem?_eq_getElem (by omega)] at f7
  rcases DataW.trod_slice Try.underlying26 f7 with ⟨hcs, _⟩ | ⟨ad, len, cap, elems, rest, n, _, hcs, hx7, _, _, _, hlen, _⟩
  · simp at hcs
    rw [hcs.2.1]; simp
  · simp at hcs
    have hd : d = .agg (xs.map (·.1)) := by injection hx
    have hw : ∀ n ∈ DataW.weights Try.prog 26 (xs[7].1), n ∈ DataW.weightsEach Try.prog [28] [d] := fun n hn => by
      refine DataW.weights_mem_each (j := 0) rfl rfl n ?_
      rw [hd]
      unfold DataW.weights
      rw [Try.underlying28]
      exact DataW.weights_mem_each (j := 7) rfl (by rw [List.getElem?_map, List.getElem?_eq_getElem (by omega)]; rfl) n hn
    have h7 : (elems.length + rest.length) * Try.prog.bytesOf 55 ∈ DataW.weights Try.prog 26 (xs[7].1) := by
      rw [hx7]
      unfold DataW.weights
      rw [Try.underlying26]
      simp
    have := List.all_eq_true.1 hz _ (hw _ h7)
    have hb : Try.prog.bytesOf 55 = 24 := by kernel_rfl
    rw [hb] at this
    have := of_decide_eq_true this
    omega
set_option maxHeartbeats 2000000 in
theorem checks_walk (hr : RdF F q.1 q.2.1 2 (c.tg.flatMap tV)) (hc : okC c) (hb : q.2.1 * 24 ≤ 140737488355328) (h : St E (kn F :: L) w) (k : ∀ G w', Fz.le F G → St E (kn G :: L) w' → R (.returned (.bool true)) w') : Calls Try.prog 4 #[cmdV c q] w R := by
  refine C_law08_ConfChecks ?_
  unfold T_law08_ConfChecks
  intro w9
  have h9 : St E (blkL w.heap.size 28 (cmdL c q) :: kn F :: L) w9 := h.alloc (.cells ⟨cmdL c q⟩ 28)
  clear_value w9
  generalize w.heap.size = b1 at *
  refine ⟨_, _, _, _, _, _, _, _, _, _, rd_cmd h9, ?_⟩
  intro w18
  have h18 : St E (blkL w9.heap.size 28 (cmdL zeroC (none, 0, 0)) :: blkL b1 28 (cmdL c q) :: kn F :: L) w18 := h9.alloc _
  refine ⟨rfl, ok_cmd h18 rfl c q, ?_⟩
  intro w19
  have h19 : St E (blkL w9.heap.size 28 (cmdL c q) :: blkL b1 28 (cmdL c q) :: kn F :: L) w19 := St.wr_cmd h18 rfl c q
  clear_value w19
  clear h18
  clear_value w18
  generalize w9.heap.size = b2 at *
  intro w20
  have h20 : St E (tgA (some ⟨w19.heap.size, 0, none⟩, 0, 0) [] :: blkL b2 28 (cmdL c q) :: blkL b1 28 (cmdL c q) :: kn F :: L) w20 :=
    (St.ownS_mk (xs := ([] : List Cm.Tgt).flatMap tV) (rest := []) (l := 0) (c := 0) (sz := 2) (h19.alloc _) rfl (Nat.le_refl _) (by decide) rfl :)
  clear_value w20
  generalize w19.heap.size = b3 at *
  refine ⟨_, _, _, rd_fld h20.f2.at_blk rfl rfl, ?_⟩
  obtain ⟨s2, w23, hrun, h23⟩ := app_tb (c2 := q.2.2) h20 (hr.at h20 at3) hb
  refine runV_ok hrun ⟨_, _, _, rfl, rfl, wrOk_fld h23.f1.at_blk (by simp [cmdL]) rfl, ?_⟩
  intro w25
  have h25 : St E (blkL b2 28 (cmdL c s2) :: tgA s2 c.tg :: blkL b1 28 (cmdL c q) :: kn F :: L) w25 := h23.f1.wr_fld (k := 7) (v := .slice s2.1 s2.2.1 s2.2.2) rfl
  clear_value w25
  obtain ⟨G, hG, h26, r2⟩ := St.freezeT (St.sel (L := blkL b2 28 (cmdL c s2) :: tgA s2 c.tg :: blkL b1 28 (cmdL c q) :: kn F :: L) h25 4 [1, 3, 0, 2])
  have h26 : St E (kn G :: blkL b2 28 (cmdL c s2) :: blkL b1 28 (cmdL c q) :: L) w25 := h26
  have r1 := hr.mono hG
  refine ⟨_, _, _, _, _, _, _, _, _, _, rd_cmd h26.f1, ?_⟩
  refine PutCommand_spec (q := s2) at0 h26 r2 hc fun w35 bb h35 => ⟨_, _, _, _, rfl, ?_⟩
  refine ⟨_, _, _, _, _, _, _, _, _, _, rd_cmd h35.f3, ?_⟩
  refine RPutCommand_spec (q := q) at1 h35 r1 hc fun w47 b' h47 => ⟨_, _, _, _, rfl, ?_⟩
  intro w50
  have h50 : St E (byA b' (putCE c) :: byA bb (putCE c) :: kn G :: blkL b2 28 (cmdL c s2) :: blkL b1 28 (cmdL c q) :: L) w50 := h47.drew
  clear_value w50
  refine live_spec h50.f2 fun G2 w52 hG2 h52 => ⟨_, rfl, trivial, ite_b (fun _ => ?_) fun hh => by cases hh⟩
  have r1 := r1.mono hG2
  have r2 := r2.mono hG2
  refine ⟨_, _, _, _, _, _, _, _, _, _, rd_cmd h52.f3, _, _, _, _, _, _, _, _, _, _, rd_cmd h52.f4, ?_⟩
  refine Check_spec (s := s2) at0 h52 r2 hc fun w71 h71 => ⟨_, rfl, ⟨rd_cmd h71.f4, trivial⟩, ?_⟩
  refine RCheck_spec (s := q) at0 h71 r1 hc fun w74 h74 => ⟨_, rfl, trivial, ite_b (fun _ => ?_) fun hh => by simp at hh⟩
  have hlen : c.tg.length ≤ huge := hc.2.2.2.1
  have fin : ∀ {w : World}, St E (kn G2 :: byA b' (putCE c) :: byA bb (putCE c) :: blkL b2 28 (cmdL c s2) :: blkL b1 28 (cmdL c q) :: L) w →
      Calls Try.prog 17 #[cmdV c s2, cmdV c q] w (ret (fun r98 w99 => ∃ b100 : Bool, r98 = .bool b100 ∧ (True) ∧ R (.returned (.bool b100)) w99) (pan R)) := fun {w} h =>
    SameCommand_spec (c1 := c) (c2 := c) (s1 := s2) (s2 := q) at0 h r2 r1 hlen fun w' h' => ⟨_, rfl, trivial, congB (k G2 _ (Fz.le_trans hG hG2) (h'.sel 5 [0])) (by simp)⟩
  refine ⟨?_, ?_⟩
  · refine runV_ok (conv_by3 (h74.sel 3 [2])) ⟨_, rfl, trivial, ?_⟩
    refine runV_ok (conv_by3 (h74.sel 2 [1])) ⟨_, rfl, trivial, ite_b (fun _ => ite_b (fun _ => ?_) fun hh => by simp at hh) fun hh => by simp at hh⟩
    exact ⟨_, _, _, _, _, _, _, _, _, _, rd_cmd h74.f3, _, _, _, _, _, _, _, _, _, _, rd_cmd h74.f4, fin h74⟩
  · refine runV_ok (conv_by3 (h74.sel 2 [1])) ⟨_, rfl, trivial, ?_⟩
    refine runV_ok (conv_by3 (h74.sel 3 [2])) ⟨_, rfl, trivial, ite_b (fun _ => ite_b (fun _ => ?_) fun hh => by simp at hh) fun hh => by simp at hh⟩
    exact ⟨_, _, _, _, _, _, _, _, _, _, rd_cmd h74.f3, _, _, _, _, _, _, _, _, _, _, rd_cmd h74.f4, fin h74⟩
theorem checks_law {H : Type} {enc : TypeId × Value → H} {W : World} {cs : Array Value} {d : DataW H} {ps : List MemPlace} (h : DataW.Trod enc Try.prog W 0 (fun _ => true) true 28 (.agg cs) d ps)
    (hz : (DataW.weightsEach Try.prog [28] [d]).all (· ≤ reachBytes) = true) :
    Calls Try.prog 4 #[.agg cs] W fun e w' => e = .returned (.bool true) ∧ RowKit.Below W.heap.size W w' := by
  obtain ⟨c, q, e, hc, hr⟩ := open_one h
  have hb := cmd_sized h hz e
  rw [e]
  exact checks_walk hr hc (Nat.le_trans hb (by decide)) (St.start_kn W) fun G w' hG h' => ⟨rfl, h'.below_kn hG⟩
end
end Go.Vc
