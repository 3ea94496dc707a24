/-
  Weights, targets, commands: which may be; the program's functions and the document's.
-/
import Derived.Test.YtcpmfjclkdjfmaaGreatConfA
import Derived.Laws.Externs
namespace Go.Vc
open Go Go.Proofs Go.Proofs.YtcpmfjclkdjfmaaGreat
set_option maxRecDepth 100000

section
variable {E w : World} {L : List Asrt} {R : Ending → World → Prop}

/-! ### floats -/
theorem run_fgeq (t : TypeId) (x y : Operand) (a b : Nat) : (do eqGuard .geq t x y (.float .f64 a) (.float .f64 b); binOp .geq t (.float .f64 a) (.float .f64 b) : Sem Value).run Tryz.prog w =
    .ok (.bool (Ieee.double.order a b == some .gt || Ieee.double.order a b == some .eq)) w := by
  simp [eqGuard, binOp, Op.floatCmp, FloatKind.format]
theorem run_fgtr (t : TypeId) (x y : Operand) (a b : Nat) : (do eqGuard .gtr t x y (.float .f64 a) (.float .f64 b); binOp .gtr t (.float .f64 a) (.float .f64 b) : Sem Value).run Tryz.prog w =
    .ok (.bool (Ieee.double.order a b == some .gt)) w := by
  simp [eqGuard, binOp, Op.floatCmp, FloatKind.format]
theorem run_fleq (t : TypeId) (x y : Operand) (a b : Nat) : (do eqGuard .leq t x y (.float .f64 a) (.float .f64 b); binOp .leq t (.float .f64 a) (.float .f64 b) : Sem Value).run Tryz.prog w =
    .ok (.bool (Ieee.double.order a b == some .lt || Ieee.double.order a b == some .eq)) w := by
  simp [eqGuard, binOp, Op.floatCmp, FloatKind.format]
theorem run_fbits {b : Nat} : (callFunc 81 #[.float .f64 b]).run Tryz.prog w = .ok (.value (.int .u64 (b : Int))) w := by
  rw [run_callFunc_extern Tryz.func81 (e := Extern.MathFloatBits.float64bits) (by kernel_rfl) (by kernel_rfl) (by kernel_rfl) (by kernel_rfl)]
  rfl
theorem run_ffrom {n : Int} : (callFunc 106 #[.int .u64 n]).run Tryz.prog w = .ok (.value (.float .f64 n.toNat)) w := by
  rw [run_callFunc_extern Tryz.func106 (e := Extern.MathFloatBits.float64frombits) (by kernel_rfl) (by kernel_rfl) (by kernel_rfl) (by kernel_rfl)]
  rfl
theorem read_num (b : Nat) (h : b < 9218868437227405312) : ∃ (m j : Nat), Ieee.double.read b = .number false m (-1074 + (j : Int)) ∧ m ≤ 9007199254740991 ∧ j ≤ 2045 := by
  unfold Ieee.Format.read
  have e1 : Ieee.double.signWeight = 9223372036854775808 := by decide
  have e2 : Ieee.double.binade = 4503599627370496 := by decide
  have e3 : Ieee.double.infRung = 9218868437227405312 := by decide
  have e4 : Ieee.double.leastPlace = -1074 := by decide
  have e5 : (b / 9223372036854775808 % 2 == 1) = false := by simp; omega
  simp only [e1, e2, e3, e4, e5]
  rw [Nat.mod_eq_of_lt (by omega : b < 9223372036854775808)]
  split
  · exact ⟨b, 0, rfl, by omega, by omega⟩
  · exact ⟨_, b / 4503599627370496 - 1, rfl, by omega, by omega⟩
theorem read_zero : Ieee.double.read 0 = .number false 0 (-1074) := by decide
theorem read_max : Ieee.double.read 9218868437227405311 = .number false 9007199254740991 (-1074 + 2045) := by decide
theorem read_inf : Ieee.double.read 9218868437227405312 = .infinity false := by decide
theorem read_nan {b : Nat} (h1 : 9218868437227405312 < b) (h2 : b < 9223372036854775808) : ∃ n, Ieee.double.read b = .nan false n := by
  unfold Ieee.Format.read
  have e1 : Ieee.double.signWeight = 9223372036854775808 := by decide
  have e2 : Ieee.double.binade = 4503599627370496 := by decide
  have e3 : Ieee.double.infRung = 9218868437227405312 := by decide
  have e5 : (b / 9223372036854775808 % 2 == 1) = false := by simp; omega
  simp only [e1, e2, e3, e5]
  rw [Nat.mod_eq_of_lt h2, if_neg (by omega), if_neg (by omega), if_neg (by omega)]
  exact ⟨_, rfl⟩
theorem cmp_ge {a b : Int} (h : b ≤ a) : (some (compare a b) == some Ordering.gt || some (compare a b) == some Ordering.eq) = true := by
  rcases Int.lt_trichotomy a b with h1 | h1 | h1
  · omega
  · subst h1; simp
  · rw [Int.compare_eq_gt.2 h1]; rfl
theorem cmp_le {a b : Int} (h : a ≤ b) : (some (compare a b) == some Ordering.gt) = false ∧ (some (compare a b) == some Ordering.lt || some (compare a b) == some Ordering.eq) = true := by
  rcases Int.lt_trichotomy a b with h1 | h1 | h1
  · rw [Int.compare_eq_lt.2 h1]; exact ⟨rfl, rfl⟩
  · subst h1; simp
  · omega
theorem num_ge0 {b : Nat} (h : b < 9218868437227405312) : (Ieee.double.order b 0 == some .gt || Ieee.double.order b 0 == some .eq) = true := by
  obtain ⟨m, j, hr, _, _⟩ := read_num b h
  unfold Ieee.Format.order
  rw [hr, read_zero]
  unfold Ieee.Datum.order
  refine cmp_ge ?_
  simp only [Ieee.signed, Bool.false_eq_true, if_false, Nat.zero_shiftLeft]
  exact Int.natCast_nonneg _
theorem num_lemax {b : Nat} (h : b < 9218868437227405312) : (Ieee.double.order b 9218868437227405311 == some .gt) = false ∧ (Ieee.double.order b 9218868437227405311 == some .lt || Ieee.double.order b 9218868437227405311 == some .eq) = true := by
  obtain ⟨m, j, hr, hm, hj⟩ := read_num b h
  unfold Ieee.Format.order
  rw [hr, read_max]
  unfold Ieee.Datum.order
  refine cmp_le ?_
  have e : min (-1074 + (j : Int)) (-1074 + 2045) = -1074 + (j : Int) := by omega
  simp only [e, Ieee.signed, Bool.false_eq_true, if_false, Int.sub_self, Int.toNat_zero, Nat.shiftLeft_zero]
  rw [Nat.shiftLeft_eq]
  have : m * 1 ≤ 9007199254740991 * 2 ^ (-1074 + 2045 - (-1074 + (j : Int))).toNat := Nat.mul_le_mul hm (Nat.one_le_two_pow)
  rw [Nat.mul_one] at this
  exact_mod_cast this
theorem inf_cmp : (Ieee.double.order 9218868437227405312 0 == some .gt) = true ∧ (Ieee.double.order 9218868437227405312 9218868437227405311 == some .gt) = true ∧ (Ieee.double.order 9218868437227405312 9218868437227405311 == some .lt || Ieee.double.order 9218868437227405312 9218868437227405311 == some .eq) = false := by decide
theorem nan_cmp {b c : Nat} (h1 : 9218868437227405312 < b) (h2 : b < 9223372036854775808) : Ieee.double.order b c = none := by
  obtain ⟨n, hn⟩ := read_nan h1 h2
  unfold Ieee.Format.order
  rw [hn]
  cases Ieee.double.read c <;> rfl
theorem wrap_bits {b : Nat} (h : b < 18446744073709551616) : (decide (IntKind.wrap .i64 (b : Int) < 0)) = decide (9223372036854775808 ≤ b) := by
  rw [Bool.eq_iff_iff]
  simp only [decide_eq_true_eq]
  unfold IntKind.wrap
  simp [IntKind.signed, IntKind.bits]
  omega
abbrev two64 : Nat := 18446744073709551616
theorem signbit_spec {b : Nat} (hb : b < two64) (k : R (.returned (.bool (decide (9223372036854775808 ≤ b)))) w) : Calls Tryz.prog 117 #[.float .f64 b] w R := by
  refine C_math_Signbit ?_
  unfold T_math_Signbit
  refine runV_ok run_fbits ⟨_, rfl, ?_⟩
  rw [wrap_bits hb]; exact k
theorem weight_spec {b : Nat} (hb : b < two64) (k : R (.returned (.bool (Cm.isW b))) w) : Calls Tryz.prog 87 #[.float .f64 b] w R := by
  refine C_conf_weight ?_
  unfold T_conf_weight
  have no : Cm.isW b = false → R (.returned (.bool false)) w := fun e => e ▸ k
  refine runV_ok (run_fgeq _ _ _ _ _) ⟨_, rfl, ite_b (fun h1 => ?_) (fun h1 => no ?_)⟩
  · refine C_math_IsInf ?_
    unfold T_math_IsInf
    rw [if_neg (by decide), if_neg (by decide)]
    refine runV_ok (run_fgtr _ _ _ _ _) ⟨_, rfl, _, rfl, ite_n (fun h2 => signbit_spec hb ⟨_, rfl, congB k ?_⟩) (fun h2 => no ?_)⟩
    · unfold Cm.isW
      rw [Bool.eq_iff_iff]
      simp only [Bool.not_eq_true', decide_eq_true_eq, decide_eq_false_iff_not]
      constructor
      · intro h; omega
      · intro h
        rcases Nat.lt_trichotomy b 9218868437227405312 with h3 | h3 | h3
        · exact h3
        · subst h3; rw [inf_cmp.2.1] at h2; cases h2
        · rw [nan_cmp h3 (by omega)] at h1; cases h1
    · unfold Cm.isW
      rw [decide_eq_false_iff_not]
      intro h3
      rw [(num_lemax h3).1] at h2; cases h2
  · unfold Cm.isW
    rw [decide_eq_false_iff_not]
    intro h3
    rw [num_ge0 h3] at h1; cases h1
theorem Weight_spec {b : Nat} (k : R (.returned (.bool (Cm.isW b))) w) : Calls Tryz.prog 125 #[.float .f64 b] w R := by
  refine C_ref08_Weight ?_
  unfold T_ref08_Weight
  refine runV_ok run_fbits ⟨_, rfl, congB k ?_⟩
  unfold Cm.isW
  rw [Bool.eq_iff_iff]; simp only [decide_eq_true_eq]; omega

/-! ### targets -/
def tV (t : Cm.Tgt) : List Value := [.string (bs t.addr), .float .f64 t.w]
theorem tV_len (t : Cm.Tgt) : (tV t).length = 2 := rfl
theorem tV_one (ts : List Cm.Tgt) : ∀ u ∈ ts.flatMap tV, one u = true := by
  intro u hu
  obtain ⟨t, _, ht⟩ := List.mem_flatMap.1 hu
  simp only [tV, List.mem_cons, List.not_mem_nil, or_false] at ht
  rcases ht with rfl | rfl <;> rfl
/-- What may come in: texts and lists of sizes that there are. -/
def okT (t : Cm.Tgt) : Prop := t.addr.length ≤ huge ∧ t.w < two64
def okTs (l : List Cm.Tgt) : Prop := l.length ≤ huge ∧ ∀ t ∈ l, okT t
variable {F : Fz} {s : Sl} {l : List Cm.Tgt}
theorem tgs_len (hm : kn F ∈ L) (h : St E L w) (hr : RdF F s.1 s.2.1 2 (l.flatMap tV)) : l.length = s.2.1 := hr.count tV_len (by decide) h hm
theorem all_step {α : Type} {p : α → Bool} {l : List α} {j : Nat} (hj : j < l.length) : (l.drop j).all p = (p l[j] && (l.drop (j + 1)).all p) := by
  rw [List.drop_eq_getElem_cons hj, List.all_cons]
theorem targets_spec (hm : kn F ∈ L) (h : St E L w) (hr : RdF F s.1 s.2.1 2 (l.flatMap tV)) (hl : okTs l) (k : ∀ w', St E L w' → R (.returned (.int .i64 (Cm.chkT l))) w') :
    Calls Tryz.prog 48 #[.slice s.1 s.2.1 s.2.2] w R := by
  have hn := tgs_len hm h hr
  refine C_conf_targets ?_
  unfold T_conf_targets T_conf_targets_1
  intro X hX
  refine up_to l.length (Q := fun j => ∀ w, St E L w → (l.all (fun t => Cm.isAddr t.addr) = (l.drop j).all fun t => Cm.isAddr t.addr) → X (j : Int) w) ?_ w h rfl
  intro j hj ih w h he
  refine hX _ _ ?_
  unfold T_conf_targets_1_body
  rw [← hn]
  refine ite_d (fun hc => ?_) (fun hc => ?_)
  · have hjl : j < l.length := by omega
    rw [all_step hjl] at he
    obtain ⟨ad, ha, hrd, _⟩ := (hr.at h hm).elem tV_len (List.getElem?_eq_getElem hjl) (by decide)
    refine ⟨by omega, by omega, ad, ha, _, _, by rw [Int.toNat_natCast]; exact hrd, ?_⟩
    intro w8
    have h8 := h.alloc (.cells #[.string (ByteArray.mk #[]), .float .f64 0] 64)
    refine ⟨rfl, wrOk_agg h8.at_blk (xs := tV l[j]) (by simp [tV]) (by intro u hu; simp [tV] at hu; rcases hu with rfl | rfl <;> rfl), ?_⟩
    intro w9
    have h9 : St E (blkL w.heap.size 64 (tV l[j]) :: L) w9 := h8.wr_agg0 (xs := tV l[j]) rfl
    refine ⟨_, rd_cell h9.at_blk (l := tV l[j]) rfl rfl, address_spec h9.drop (hl.2 _ (List.getElem_mem hjl)).1 fun w' h' => ⟨_, rfl, ite_n (fun h1 => ?_) (fun h1 => ?_)⟩⟩
    · refine congI (k w' h') ?_
      unfold Cm.chkT; rw [he, h1]; rfl
    · rw [h1, Bool.true_and] at he
      rw [succ_huge (by have := hl.1; omega)]
      exact ih hjl _ h' he
  · rw [List.drop_eq_nil_of_le (by omega), List.all_nil] at he
    unfold T_conf_targets_2
    intro Y hY
    refine up_to l.length (Q := fun j => ∀ w, St E L w → (l.all (fun t => Cm.isW t.w) = (l.drop j).all fun t => Cm.isW t.w) → Y (j : Int) w) ?_ w h rfl
    intro j hj ih w h hw
    refine hY _ _ ?_
    unfold T_conf_targets_2_body
    refine ite_d (fun hc => ?_) (fun hc => ?_)
    · have hjl : j < l.length := by omega
      rw [all_step hjl] at hw
      obtain ⟨ad, ha, hrd, _⟩ := (hr.at h hm).elem tV_len (List.getElem?_eq_getElem hjl) (by decide)
      refine ⟨by omega, by omega, ad, ha, _, _, by rw [Int.toNat_natCast]; exact hrd, ?_⟩
      intro w8
      have h8 := h.alloc (.cells #[.string (ByteArray.mk #[]), .float .f64 0] 64)
      refine ⟨rfl, wrOk_agg h8.at_blk (xs := tV l[j]) (by simp [tV]) (by intro u hu; simp [tV] at hu; rcases hu with rfl | rfl <;> rfl), ?_⟩
      intro w9
      have h9 : St E (blkL w.heap.size 64 (tV l[j]) :: L) w9 := h8.wr_agg0 (xs := tV l[j]) rfl
      refine ⟨_, rd_fld h9.at_blk (l := tV l[j]) rfl rfl, weight_spec (hl.2 _ (List.getElem_mem hjl)).2 ⟨_, rfl, ite_n (fun h1 => ?_) (fun h1 => ?_)⟩⟩
      · refine congI (k w9 h9.drop) ?_
        unfold Cm.chkT; rw [he, hw, h1]; rfl
      · rw [h1, Bool.true_and] at hw
        rw [succ_huge (by have := hl.1; omega)]
        exact ih hjl _ h9.drop hw
    · rw [List.drop_eq_nil_of_le (by omega), List.all_nil] at hw
      refine ite_d (fun h1 => congI (k w h) ?_) (fun h1 => congI (k w h) ?_)
      · unfold Cm.chkT; rw [he, hw, if_neg (by simp), if_neg (by simp), if_pos (by omega)]
      · unfold Cm.chkT; rw [he, hw, if_neg (by simp), if_neg (by simp), if_neg (by omega)]
theorem rightTargets_spec (hm : kn F ∈ L) (h : St E L w) (hr : RdF F s.1 s.2.1 2 (l.flatMap tV)) (hl : okTs l) (k : ∀ w', St E L w' → R (.returned (.int .i64 (Cm.chkT l))) w') :
    Calls Tryz.prog 98 #[.slice s.1 s.2.1 s.2.2] w R := by
  have hn := tgs_len hm h hr
  refine C_ref08_rightTargets ?_
  unfold T_ref08_rightTargets T_ref08_rightTargets_1
  have main : ∀ e0 : Int, e0 = (if 16 < l.length then 6 else 0) → T_ref08_rightTargets_2 e0 0 s.1 s.2.1 s.2.2 w (fun e21 w22 => T_ref08_rightTargets_3 e21 0 s.1 s.2.1 s.2.2 w22 (fun e35 w36 => R (.returned (.int .i64 e35)) w36) (pan R)) (pan R) := fun e0 he0 => by
    unfold T_ref08_rightTargets_2
    intro X hX
    refine up_to l.length (Q := fun j => ∀ w (e : Int), St E L w → (if l.all (fun t => Cm.isW t.w) then e0 else 15) = (if (l.drop j).all (fun t => Cm.isW t.w) then e else 15) → X e (j : Int) w) ?_ w e0 h rfl
    intro j hj ih w e h he
    refine hX _ _ _ ?_
    unfold T_ref08_rightTargets_2_body
    rw [← hn]
    refine ite_d (fun hc => ?_) (fun hc => ?_)
    · have hjl : j < l.length := by omega
      rw [all_step hjl] at he
      obtain ⟨ad, ha, _, hrd⟩ := (hr.at h hm).elem tV_len (List.getElem?_eq_getElem hjl) (by decide)
      refine ⟨by omega, by omega, ad, ha, _, by rw [Int.toNat_natCast]; exact hrd 1 _ rfl rfl, Weight_spec ⟨_, rfl, ite_n (fun h1 => ?_) (fun h1 => ?_)⟩⟩
      · rw [succ_huge (by have := hl.1; omega)]
        exact ih hjl _ 15 h (by rw [he, h1]; simp)
      · rw [succ_huge (by have := hl.1; omega)]
        exact ih hjl _ e h (by rw [he, h1, Bool.true_and])
    · rw [List.drop_eq_nil_of_le (by omega), List.all_nil, if_pos rfl] at he
      unfold T_ref08_rightTargets_3
      intro Y hY
      have hfin : ∀ q : Int, q = (if l.all (fun t => Cm.isAddr t.addr) then e else 14) → q = Cm.chkT l := fun q hq => by
        rw [hq, ← he, he0]
        unfold Cm.chkT
        cases l.all (fun t => Cm.isAddr t.addr) <;> cases l.all (fun t => Cm.isW t.w) <;> simp
      refine up_to l.length (Q := fun j => ∀ w (q : Int), St E L w → (if l.all (fun t => Cm.isAddr t.addr) then e else 14) = (if (l.drop j).all (fun t => Cm.isAddr t.addr) then q else 14) → Y q (j : Int) w) ?_ w e h rfl
      intro j hj ih w q h hq
      refine hY _ _ _ ?_
      unfold T_ref08_rightTargets_3_body
      refine ite_d (fun hc => ?_) (fun hc => ?_)
      · have hjl : j < l.length := by omega
        rw [all_step hjl] at hq
        obtain ⟨ad, ha, _, hrd⟩ := (hr.at h hm).elem tV_len (List.getElem?_eq_getElem hjl) (by decide)
        refine ⟨by omega, by omega, ad, ha, _, by rw [Int.toNat_natCast]; exact hrd 0 _ rfl rfl, Addr_spec h (hl.2 _ (List.getElem_mem hjl)).1 fun w' h' => ⟨_, rfl, ite_n (fun h1 => ?_) (fun h1 => ?_)⟩⟩
        · rw [succ_huge (by have := hl.1; omega)]
          exact ih hjl _ 14 h' (by rw [hq, h1]; simp)
        · rw [succ_huge (by have := hl.1; omega)]
          exact ih hjl _ q h' (by rw [hq, h1, Bool.true_and])
      · rw [List.drop_eq_nil_of_le (by omega), List.all_nil, if_pos rfl] at hq
        exact congI (k w h) (hfin q hq.symm).symm
  refine ite_d (fun h1 => main 6 ?_) (fun h1 => main 0 ?_)
  · rw [if_pos (by omega)]
  · rw [if_neg (by omega)]

/-! ### commands -/
def cmdL (c : Cm.Cmd) (s : Sl) : List Value := [.int .i64 c.act, .int .i64 c.client, .int .i64 c.seq, .int .i64 c.expect, .string (bs c.host), .string (bs c.pfx), .string (bs c.pool), .slice s.1 s.2.1 s.2.2]
def cmdV (c : Cm.Cmd) (s : Sl) : Value := .agg ⟨cmdL c s⟩
def okC (c : Cm.Cmd) : Prop := c.host.length ≤ huge ∧ c.pfx.length ≤ huge ∧ c.pool.length ≤ huge ∧ okTs c.tg
theorem ne_nil (s : Cm.Bs) : (!((bs s).toList == (ByteArray.mk #[]).toList)) = decide (s ≠ []) := by
  rw [bs_toList, toList_nil]; cases s <;> simp
theorem eq_dec (a b : Int) : (a == b) = decide (a = b) := by rw [Bool.eq_iff_iff]; simp
theorem ne_dec (a b : Int) : (a != b) = decide (a ≠ b) := by rw [Bool.eq_iff_iff]; simp
section
variable {Kn : Bool → World → Prop} {Kp : List PanicEntry → World → Prop} {c : Cm.Cmd} {b : Nat}
theorem u1 (h : St E (blkL b 42 (cmdL c s) :: L) w) (k : Kn (Cm.usesPool c.act) w) : T_conf_Check_1 ⟨b, 0, none⟩ w Kn Kp := by
  unfold T_conf_Check_1
  simp only [eq_dec]
  refine ⟨_, rd_cell h.at_blk rfl rfl, ite_d (fun h1 => cong k ?_) fun h1 => ⟨_, rd_cell h.at_blk rfl rfl, ite_d (fun h2 => cong k ?_) fun h2 => ⟨_, rd_cell h.at_blk rfl rfl, cong k ?_⟩⟩⟩ <;> simp [Cm.usesPool, *]
theorem u2 (h : St E (blkL b 42 (cmdL c s) :: L) w) (k : Kn (Cm.usesRoute c.act) w) : T_conf_Check_2 ⟨b, 0, none⟩ w Kn Kp := by
  unfold T_conf_Check_2
  simp only [eq_dec]
  refine ⟨_, rd_cell h.at_blk rfl rfl, ite_d (fun h1 => cong k ?_) fun h1 => ⟨_, rd_cell h.at_blk rfl rfl, cong k ?_⟩⟩ <;> simp [Cm.usesRoute, *]
theorem u3 (h : St E (blkL b 42 (cmdL c s) :: L) w) (k : Kn (Cm.seqOk c) w) : T_conf_Check_3 ⟨b, 0, none⟩ (c.seq == 0) (c.client != 0) w Kn Kp := by
  unfold T_conf_Check_3
  simp only [eq_dec, ne_dec]
  refine ite_d (fun h1 => ⟨_, rd_fld h.at_blk rfl rfl, ite_d (fun h2 => ⟨_, rd_fld h.at_blk rfl rfl, cong k ?_⟩) fun h2 => cong k ?_⟩) fun h1 => cong k ?_
  · rw [Cm.seqOk, if_neg h1, Bool.eq_iff_iff]; simp; omega
  · rw [Cm.seqOk, if_neg h1]; simp; omega
  · rw [Cm.seqOk, if_pos (by omega)]
theorem u6 (h : St E (blkL b 42 (cmdL c s) :: L) w) (k : Kn (decide (c.client < 0) || decide (32 < c.client)) w) : T_conf_Check_6 ⟨b, 0, none⟩ w Kn Kp := by
  unfold T_conf_Check_6
  refine ⟨_, rd_fld h.at_blk rfl rfl, ite_d (fun h1 => cong k ?_) fun h1 => ⟨_, rd_fld h.at_blk rfl rfl, cong k ?_⟩⟩ <;> simp [*]
theorem u7 (h : St E (blkL b 42 (cmdL c s) :: L) w) (k : Kn (decide (c.expect < -1) || decide (1099511627776 ≤ c.expect)) w) : T_conf_Check_7 ⟨b, 0, none⟩ w Kn Kp := by
  unfold T_conf_Check_7
  refine ⟨_, rd_fld h.at_blk rfl rfl, ite_d (fun h1 => cong k ?_) fun h1 => ⟨_, rd_fld h.at_blk rfl rfl, cong k ?_⟩⟩ <;> simp [*]
theorem u8 {p : Bool} (h : St E (blkL b 42 (cmdL c s) :: L) w) (k : Kn (!p && decide (c.pool ≠ [])) w) : T_conf_Check_8 ⟨b, 0, none⟩ p w Kn Kp := by
  unfold T_conf_Check_8
  refine ite_n (fun h1 => ⟨_, rd_fld h.at_blk rfl rfl, ?_⟩) fun h1 => cong k (by simp [h1])
  rw [ne_nil]; exact cong k (by simp [h1])
theorem u9 {p : Bool} (h : St E (blkL b 42 (cmdL c s) :: L) w) (k : Kn (!p && (decide (c.host ≠ []) || decide (c.pfx ≠ []))) w) : T_conf_Check_9 ⟨b, 0, none⟩ p w Kn Kp := by
  unfold T_conf_Check_9
  refine ite_n (fun h1 => ⟨_, rd_fld h.at_blk rfl rfl, ?_⟩) fun h1 => cong k (by simp [h1])
  rw [ne_nil]
  refine ite_b (fun h2 => cong k (by rw [h1, h2]; rfl)) fun h2 => ⟨_, rd_fld h.at_blk rfl rfl, ?_⟩
  rw [ne_nil]; exact cong k (by rw [h1, h2]; simp)
theorem u5 (h : St E (blkL b 42 (cmdL c s) :: L) w) (hn : c.tg.length = s.2.1) (k : Kn (Cm.argBad c) w) : T_conf_Check_5 ⟨b, 0, none⟩ (Cm.usesPool c.act) (Cm.usesRoute c.act) (Cm.seqOk c) (!Cm.usesPool c.act && !Cm.usesRoute c.act) w Kn Kp := by
  unfold T_conf_Check_5
  have hk : ∀ q, Cm.argBad c = q → Kn q w := fun q e => e ▸ k
  unfold Cm.argBad at hk
  refine ite_b (fun h1 => hk _ ?_) fun h1 => u6 h (ite_b (fun h2 => hk _ ?_) fun h2 => ite_n (fun h3 => hk _ ?_) fun h3 => u7 h (ite_b (fun h4 => hk _ ?_) fun h4 => u8 h (ite_b (fun h5 => hk _ ?_) fun h5 => u9 h (ite_b (fun h6 => hk _ ?_) fun h6 => ⟨_, rd_cell h.at_blk rfl rfl, ?_⟩))))
  · rw [h1]; simp
  · rw [Bool.or_eq_true] at h2; rcases h2 with h2 | h2 <;> rw [h2] <;> simp
  · rw [h3]; simp
  · rw [Bool.or_eq_true] at h4; rcases h4 with h4 | h4 <;> rw [h4] <;> simp
  · rw [h5]; simp
  · rw [h6]; simp
  · have e0 : ((!Cm.usesPool c.act && !Cm.usesRoute c.act) || decide (c.client < 0) || decide (32 < c.client) || !Cm.seqOk c || decide (c.expect < -1) || decide (1099511627776 ≤ c.expect) ||
        (!Cm.usesPool c.act && decide (c.pool ≠ [])) || (!Cm.usesRoute c.act && (decide (c.host ≠ []) || decide (c.pfx ≠ [])))) = false := by
      simp only [Bool.or_eq_false_iff] at h2 h4
      rw [h1, h2.1, h2.2, h3, h4.1, h4.2, h5, h6]; rfl
    rw [e0, Bool.false_or] at hk
    rw [ne_dec]
    refine ite_d (fun h7 => ⟨_, _, _, rd_fld h.at_blk rfl rfl, hk _ ?_⟩) fun h7 => hk _ ?_
    · rw [hn, decide_eq_true h7, Bool.true_and, Bool.eq_iff_iff]; simp
    · rw [decide_eq_false h7]; rfl
theorem u10 (h : St E (blkL b 42 (cmdL c s) :: L) w) (hc : okC c) (k : ∀ w', St E (blkL b 42 (cmdL c s) :: L) w' → Kn (Cm.usesPool c.act && !Cm.isName c.pool) w') : T_conf_Check_10 ⟨b, 0, none⟩ (Cm.usesPool c.act) w Kn Kp := by
  unfold T_conf_Check_10
  refine ite_b (fun h1 => ⟨_, rd_fld h.at_blk rfl rfl, poolName_spec h hc.2.2.1 fun w' h' => ⟨_, rfl, cong (k w' h') ?_⟩⟩) fun h1 => cong (k w h) ?_ <;> simp [h1]
end
theorem Check_spec {c : Cm.Cmd} (hm : kn F ∈ L) (h : St E L w) (hr : RdF F s.1 s.2.1 2 (c.tg.flatMap tV)) (hc : okC c) (k : ∀ w', St E L w' → R (.returned (.int .i64 (Cm.chk c))) w') :
    Calls Tryz.prog 23 #[cmdV c s] w R := by
  have hn := tgs_len hm h hr
  refine C_conf_Check ?_
  unfold T_conf_Check
  intro w9
  have h9 : St E (blkL w.heap.size 42 (cmdL c s) :: L) w9 := h.alloc (.cells ⟨cmdL c s⟩ 42)
  refine u1 h9 (u2 h9 ⟨_, rd_fld h9.at_blk rfl rfl, _, rd_fld h9.at_blk rfl rfl, u3 h9 ?_⟩)
  have fin : ∀ w' (q : Int), St E L w' → Cm.chk c = q → R (.returned (.int .i64 q)) w' := fun w' q h' e => e ▸ k w' h'
  have u4 : T_conf_Check_4 (Cm.usesPool c.act) (Cm.usesRoute c.act) w9 = fun Kn Kp => if (!Cm.usesPool c.act) = true then Kn (!Cm.usesRoute c.act) w9 else Kn false w9 := rfl
  have u4' : ∀ (Kn : Bool → World → Prop) (Kp), Kn (!Cm.usesPool c.act && !Cm.usesRoute c.act) w9 → T_conf_Check_4 (Cm.usesPool c.act) (Cm.usesRoute c.act) w9 Kn Kp := fun Kn Kp hk => by
    rw [u4]; exact ite_n (fun h1 => cong hk (by simp [h1])) fun h1 => cong hk (by simp [h1])
  refine u4' _ _ (u5 h9 hn (ite_b (fun h1 => fin _ _ h9.drop ?_) fun h1 => u10 h9 hc fun w1 hw1 => ?_))
  · unfold Cm.chk; rw [h1]; rfl
  · have tg : ∀ w2, St E (blkL w.heap.size 42 (cmdL c s) :: L) w2 → Cm.nameBad c = false → ∃ (s95a : Option Addr) (s95l s95c : Nat), rd w2 ((⟨w.heap.size, 0, none⟩ : Addr).add 7) (.slice s95a s95l s95c) ∧
        Calls Tryz.prog 48 #[.slice s95a s95l s95c] w2 (ret (fun r96 w97 => ∃ x98 : Int, r96 = .int .i64 x98 ∧ R (.returned (.int .i64 x98)) w97) (pan R)) := fun w2 hw2 e =>
      ⟨_, _, _, rd_fld hw2.at_blk rfl rfl, targets_spec (List.mem_cons_of_mem _ hm) hw2 hr hc.2.2.2 fun w3 hw3 => ⟨_, rfl, fin _ _ hw3.drop (by unfold Cm.chk; rw [h1, e]; rfl)⟩⟩
    refine ite_b (fun h2 => ite_b (fun _ => fin _ _ hw1.drop ?_) fun hh => by rw [h2] at hh; cases hh) fun h2 => ite_b (fun h3 => ⟨_, rd_fld hw1.at_blk rfl rfl, host_spec hw1 hc.1 fun w2 hw2 => ⟨_, rfl, ite_n (fun h4 => fin _ _ hw2.drop ?_) fun h4 => ⟨_, rd_fld hw2.at_blk rfl rfl, prefix_spec hw2 hc.2.1 fun w3 hw3 => ⟨_, rfl, ite_n (fun h5 => fin _ _ hw3.drop ?_) fun h5 => tg w3 hw3 ?_⟩⟩⟩⟩) fun h3 => tg w1 hw1 ?_
    · unfold Cm.chk Cm.nameBad; rw [h1, h2]; rfl
    · unfold Cm.chk Cm.nameBad; rw [h1, h2, h3, h4]; rfl
    · unfold Cm.chk Cm.nameBad; rw [h1, h2, h3, h4, h5]; rfl
    · unfold Cm.nameBad; rw [h2, h3, h4, h5]; rfl
    · unfold Cm.nameBad; rw [h2, h3]; rfl
/-! ### the document's -/
section
variable {Kn : Bool → World → Prop} {Kp : List PanicEntry → World → Prop} {c : Cm.Cmd} {b : Nat}
def bad1 (c : Cm.Cmd) : Bool := decide (c.act < 1) || (decide (4 < c.act) || (decide (c.client < 0) || (decide (32 < c.client) || (decide (c.expect < -1) || decide (1099511627776 ≤ c.expect)))))
theorem r1 (h : St E (blkL b 42 (cmdL c s) :: L) w) (k : Kn (bad1 c) w) : T_ref08_Check_1 ⟨b, 0, none⟩ w Kn Kp := by
  unfold T_ref08_Check_1
  have hk : ∀ q, bad1 c = q → Kn q w := fun q e => e ▸ k
  unfold bad1 at hk
  refine ⟨_, rd_cell h.at_blk rfl rfl, ite_d (fun h1 => hk _ ?_) fun h1 => ⟨_, rd_cell h.at_blk rfl rfl, ite_d (fun h2 => hk _ ?_) fun h2 => ⟨_, rd_fld h.at_blk rfl rfl, ite_d (fun h3 => hk _ ?_) fun h3 =>
    ⟨_, rd_fld h.at_blk rfl rfl, ite_d (fun h4 => hk _ ?_) fun h4 => ⟨_, rd_fld h.at_blk rfl rfl, ite_d (fun h5 => hk _ ?_) fun h5 => ⟨_, rd_fld h.at_blk rfl rfl, hk _ ?_⟩⟩⟩⟩⟩⟩
  · simp [h1]
  · simp [show 4 < c.act from h2]
  · simp [h3]
  · simp [show 32 < c.client from h4]
  · simp [h5]
  · rw [decide_eq_false h1, decide_eq_false (show ¬ 4 < c.act from h2), decide_eq_false h3, decide_eq_false (show ¬ 32 < c.client from h4), decide_eq_false h5, Bool.eq_iff_iff]; simp; omega
theorem r2 (h : St E (blkL b 42 (cmdL c s) :: L) w) (k : bad1 c = false → Kn (!Cm.seqOk c) w) (h0 : bad1 c = false) : T_ref08_Check_2 ⟨b, 0, none⟩ w Kn Kp := by
  unfold T_ref08_Check_2
  have hc : 0 ≤ c.client := by simp [bad1] at h0; omega
  have hk : ∀ q, (!Cm.seqOk c) = q → Kn q w := fun q e => e ▸ k h0
  simp only [eq_dec, ne_dec]
  refine ⟨_, rd_fld h.at_blk rfl rfl, ite_d (fun h1 => ⟨_, rd_fld h.at_blk rfl rfl, ite_d (fun h2 => hk _ ?_) fun h2 => ⟨_, rd_fld h.at_blk rfl rfl, ite_d (fun h3 => absurd h3 (by omega)) fun h3 => hk _ ?_⟩⟩) fun h1 =>
    ⟨_, rd_fld h.at_blk rfl rfl, ite_d (fun h2 => ⟨_, rd_fld h.at_blk rfl rfl, ite_d (fun h3 => hk _ ?_) fun h3 => ⟨_, rd_fld h.at_blk rfl rfl, hk _ ?_⟩⟩) fun h2 => absurd h2 (by omega)⟩⟩
  · simp [Cm.seqOk, h1]; omega
  · simp [Cm.seqOk, h1]; omega
  · simp [Cm.seqOk, h1]; omega
  · rw [Bool.eq_iff_iff]; simp [Cm.seqOk, h1]; omega
theorem r4 (h : St E (blkL b 42 (cmdL c s) :: L) w) (hn : c.tg.length = s.2.1) (k : Kn (decide (c.host ≠ []) || (decide (c.pfx ≠ []) || (decide (c.act = 2) && decide (0 < c.tg.length)))) w) : T_ref08_Check_4 ⟨b, 0, none⟩ w Kn Kp := by
  unfold T_ref08_Check_4
  refine ⟨_, rd_fld h.at_blk rfl rfl, ?_⟩
  rw [ne_nil]
  refine ite_b (fun h1 => cong k (by rw [h1]; rfl)) fun h1 => ⟨_, rd_fld h.at_blk rfl rfl, ?_⟩
  rw [ne_nil]
  refine ite_b (fun h2 => cong k (by rw [h2]; simp)) fun h2 => ⟨_, rd_cell h.at_blk rfl rfl, ?_⟩
  rw [h1, h2, Bool.false_or, Bool.false_or] at k
  rw [eq_dec]
  refine ite_d (fun h3 => ⟨_, _, _, rd_fld h.at_blk rfl rfl, cong k ?_⟩) fun h3 => cong k ?_
  · rw [decide_eq_true h3, hn, Bool.true_and, Bool.eq_iff_iff]; simp
  · rw [decide_eq_false h3]; rfl
theorem r5 (h : St E (blkL b 42 (cmdL c s) :: L) w) (hn : c.tg.length = s.2.1) (k : Kn (decide (0 < c.tg.length) || decide (c.pool ≠ [])) w) : T_ref08_Check_5 ⟨b, 0, none⟩ w Kn Kp := by
  unfold T_ref08_Check_5
  refine ⟨_, _, _, rd_fld h.at_blk rfl rfl, ite_d (fun h1 => cong k ?_) fun h1 => ⟨_, rd_fld h.at_blk rfl rfl, ?_⟩⟩
  · rw [decide_eq_true (by omega)]; rfl
  · rw [ne_nil]; refine cong k ?_
    rw [decide_eq_false (by omega)]; rfl
end
theorem argBad_1 {c : Cm.Cmd} (h0 : bad1 c = true) : Cm.argBad c = true := by
  simp only [bad1, Bool.or_eq_true, decide_eq_true_eq] at h0
  simp only [Cm.argBad, Bool.or_eq_true]
  by_cases h1 : c.act < 1 ∨ 4 < c.act
  · have e : (!Cm.usesPool c.act && !Cm.usesRoute c.act) = true := by simp [Cm.usesPool, Cm.usesRoute]; omega
    simp [e]
  · by_cases h2 : c.client < 0
    · simp [h2]
    · by_cases h3 : 32 < c.client
      · simp [h3]
      · by_cases h4 : c.expect < -1
        · simp [h4]
        · have h5 : 1099511627776 ≤ c.expect := by omega
          simp [h5]
theorem argBad_2 {c : Cm.Cmd} (h0 : Cm.seqOk c = false) : Cm.argBad c = true := by simp [Cm.argBad, h0]
theorem argBad_3 {c : Cm.Cmd} (h0 : bad1 c = false) (h1 : Cm.seqOk c = true) : Cm.argBad c =
    ((!Cm.usesPool c.act && decide (c.pool ≠ [])) || (!Cm.usesRoute c.act && (decide (c.host ≠ []) || decide (c.pfx ≠ []))) || (decide (c.act ≠ 1) && decide (0 < c.tg.length))) := by
  simp only [bad1, Bool.or_eq_false_iff, decide_eq_false_iff_not] at h0
  obtain ⟨a1, a2, a3, a4, a5, a6⟩ := h0
  have e : (!Cm.usesPool c.act && !Cm.usesRoute c.act) = false := by simp [Cm.usesPool, Cm.usesRoute]; omega
  unfold Cm.argBad
  rw [e, decide_eq_false a3, decide_eq_false a4, h1, decide_eq_false a5, decide_eq_false a6]
  rfl
theorem RCheck_spec {c : Cm.Cmd} (hm : kn F ∈ L) (h : St E L w) (hr : RdF F s.1 s.2.1 2 (c.tg.flatMap tV)) (hc : okC c) (k : ∀ w', St E L w' → R (.returned (.int .i64 (Cm.chk c))) w') :
    Calls Tryz.prog 60 #[cmdV c s] w R := by
  have hn := tgs_len hm h hr
  refine C_ref08_Check ?_
  unfold T_ref08_Check
  intro w9
  have h9 : St E (blkL w.heap.size 42 (cmdL c s) :: L) w9 := h.alloc (.cells ⟨cmdL c s⟩ 42)
  have fin : ∀ w' (q : Int), St E L w' → Cm.chk c = q → R (.returned (.int .i64 q)) w' := fun w' q h' e => e ▸ k w' h'
  have two : ∀ w' , St E L w' → Cm.argBad c = true → R (.returned (.int .i64 2)) w' := fun w' h' e => fin w' 2 h' (by unfold Cm.chk; rw [e]; rfl)
  refine r1 h9 (ite_b (fun h1 => two _ h9.drop (argBad_1 h1)) fun h1 => r2 h9 (fun _ => ite_n (fun h2 => two _ h9.drop (argBad_2 h2)) fun h2 => ⟨_, rd_cell h9.at_blk rfl rfl, ?_⟩) h1)
  have ha := argBad_3 h1 h2
  have hact : 1 ≤ c.act ∧ c.act ≤ 4 := by simp [bad1] at h1; omega
  have tg : ∀ w2, St E (blkL w.heap.size 42 (cmdL c s) :: L) w2 → Cm.argBad c = false → Cm.nameBad c = false → ∃ (s95a : Option Addr) (s95l s95c : Nat), rd w2 ((⟨w.heap.size, 0, none⟩ : Addr).add 7) (.slice s95a s95l s95c) ∧
      Calls Tryz.prog 98 #[.slice s95a s95l s95c] w2 (ret (fun r96 w97 => ∃ x98 : Int, r96 = .int .i64 x98 ∧ R (.returned (.int .i64 x98)) w97) (pan R)) := fun w2 hw2 e e' =>
    ⟨_, _, _, rd_fld hw2.at_blk rfl rfl, rightTargets_spec (List.mem_cons_of_mem _ hm) hw2 hr hc.2.2.2 fun w3 hw3 => ⟨_, rfl, fin _ _ hw3.drop (by unfold Cm.chk; rw [e, e']; rfl)⟩⟩
  have nb : ∀ w', St E L w' → Cm.argBad c = false → Cm.nameBad c = true → R (.returned (.int .i64 14)) w' := fun w' h' e e' => fin w' 14 h' (by unfold Cm.chk; rw [e, e']; rfl)
  unfold T_ref08_Check_3
  have pools : ∀ (h3 : c.act = 1 ∨ c.act = 2), T_ref08_Check_4 (⟨w.heap.size, 0, none⟩ : Addr) w9 (fun b52 w53 => if b52 = true then (R (.returned (.int .i64 2)) w53) else (∃ s54 : ByteArray, rd w53 ((⟨w.heap.size, 0, none⟩ : Addr).add 6) (.string s54) ∧ Calls Tryz.prog 97 #[.string s54] w53 (ret (fun r55 w56 => ∃ b57 : Bool, r55 = .bool b57 ∧ if (!b57) = true then (R (.returned (.int .i64 14)) w56) else (∃ s58a : Option Addr, ∃ s58l : Nat, ∃ s58c : Nat, rd w56 ((⟨w.heap.size, 0, none⟩ : Addr).add 7) (.slice s58a s58l s58c) ∧ Calls Tryz.prog 98 #[.slice s58a s58l s58c] w56 (ret (fun r59 w60 => ∃ x61 : Int, r59 = .int .i64 x61 ∧ R (.returned (.int .i64 x61)) w60) (pan R)))) (pan R)))) (pan R) := fun h3 => by
    have e1 : Cm.usesPool c.act = true := by rcases h3 with h3 | h3 <;> simp [Cm.usesPool, h3]
    have e2 : Cm.usesRoute c.act = false := by rcases h3 with h3 | h3 <;> simp [Cm.usesRoute, h3]
    have ha2 : Cm.argBad c = (decide (c.host ≠ []) || (decide (c.pfx ≠ []) || (decide (c.act = 2) && decide (0 < c.tg.length)))) := by
      rw [ha, e1, e2]
      have : decide (c.act ≠ 1) = decide (c.act = 2) := by rw [Bool.eq_iff_iff]; simp; omega
      rw [this]; simp [Bool.or_assoc]
    refine r4 h9 hn ?_
    rw [← ha2]
    refine ite_b (fun h4 => two _ h9.drop h4) fun h4 => ⟨_, rd_fld h9.at_blk rfl rfl, PoolName_spec h9 hc.2.2.1 fun w2 hw2 => ⟨_, rfl, ite_n (fun h5 => nb _ hw2.drop h4 ?_) fun h5 => tg w2 hw2 h4 ?_⟩⟩
    · unfold Cm.nameBad; rw [e1, e2, h5]; rfl
    · unfold Cm.nameBad; rw [e1, e2, h5]; rfl
  simp only [eq_dec]
  by_cases h6 : c.act = 1
  · rw [decide_eq_true h6]; exact pools (.inl h6)
  rw [decide_eq_false h6]
  by_cases h7 : c.act = 2
  · rw [decide_eq_true h7]; exact pools (.inr h7)
  rw [decide_eq_false h7]
  simp only [Bool.false_eq_true, if_false]
  refine ite_d (fun h4 => ⟨_, _, _, rd_fld h9.at_blk rfl rfl, ite_d (fun h5 => two _ h9.drop ?_) fun h5 => ⟨_, rd_fld h9.at_blk rfl rfl, PoolName_spec h9 hc.2.2.1 fun w2 hw2 => ⟨_, rfl, ?_⟩⟩⟩) fun h4 => ?_
  · rw [ha, h4]; simp [Cm.usesPool, Cm.usesRoute]; omega
  · have e1 : Cm.usesPool c.act = true := by simp [Cm.usesPool, h4]
    have e2 : Cm.usesRoute c.act = true := by simp [Cm.usesRoute, h4]
    have h6 : Cm.argBad c = false := by rw [ha, e1, e2, decide_eq_false (by omega : ¬ 0 < c.tg.length)]; simp
    refine ite_b (fun h7 => ⟨_, rd_fld hw2.at_blk rfl rfl, Host_spec hw2 hc.1 fun w3 hw3 => ⟨_, rfl, ite_b (fun h8 => ⟨_, rd_fld hw3.at_blk rfl rfl, Prefix_spec hw3 hc.2.1 fun w4 hw4 => ⟨_, rfl, ite_n (fun h9 => nb _ hw4.drop h6 ?_) fun h9 => tg w4 hw4 h6 ?_⟩⟩) fun h8 => nb _ hw3.drop h6 ?_⟩⟩) fun h7 => nb _ hw2.drop h6 ?_
    all_goals (unfold Cm.nameBad; simp only [*]; rfl)
  · have h4' : c.act = 4 := by omega
    have e1 : Cm.usesPool c.act = false := by simp [Cm.usesPool, h4']
    have e2 : Cm.usesRoute c.act = true := by simp [Cm.usesRoute, h4']
    have h6 : Cm.argBad c = (decide (0 < c.tg.length) || decide (c.pool ≠ [])) := by rw [ha, e1, e2, h4']; cases decide (0 < c.tg.length) <;> cases decide (c.pool ≠ []) <;> rfl
    refine r5 h9 hn (ite_b (fun h5 => two _ h9.drop (h6.trans h5)) fun h5 => ⟨_, rd_fld h9.at_blk rfl rfl, Host_spec h9 hc.1 fun w3 hw3 => ⟨_, rfl, ite_b (fun h8 => ⟨_, rd_fld hw3.at_blk rfl rfl, Prefix_spec hw3 hc.2.1 fun w4 hw4 => ⟨_, rfl, ite_n (fun h9 => nb _ hw4.drop (h6.trans h5) ?_) fun h9 => tg w4 hw4 (h6.trans h5) ?_⟩⟩) fun h8 => nb _ hw3.drop (h6.trans h5) ?_⟩⟩)
    all_goals (unfold Cm.nameBad; simp only [*]; rfl)
end
end Go.Vc
