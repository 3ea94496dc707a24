/-
  Numbers, texts, weights, targets as bytes: appended and taken; the program's functions and the document's.
-/
import Derived.Test.YtcpmfjclkdjfmaaGreatConfB
import Derived.Test.YtcpmfjclkdjfmaaGreatGb
import Derived.Test.YtcpmfjclkdjfmaaGreatVcStr
namespace Go.Vc
open Go Go.Proofs Go.Proofs.YtcpmfjclkdjfmaaGreat
set_option maxRecDepth 100000

/-! ### arithmetic -/
theorem ofInt_nat (n : Nat) (h : n < 18446744073709551616) : (BitVec.ofInt 64 (n : Int)).toNat = n := by
  rw [BitVec.toNat_ofInt]; omega
theorem and127 (n : Nat) (h : n < 18446744073709551616) : ((BitVec.ofInt (IntKind.bits .i64) (n : Int)) &&& (BitVec.ofInt (IntKind.bits .i64) 127)).toNat = n % 128 := by
  show ((BitVec.ofInt 64 (n : Int)) &&& (BitVec.ofInt 64 127)).toNat = _
  rw [BitVec.toNat_and, ofInt_nat n h, show (BitVec.ofInt 64 127).toNat = 2 ^ 7 - 1 from by decide, Nat.and_two_pow_sub_one_eq_mod]
theorem or128 : ∀ x : Fin 128, x.val ||| 128 = x.val + 128 := by decide
theorem wrap_nat {n : Nat} (h : n < 9223372036854775808) : IntKind.wrap .i64 (n : Int) = n := wrap_id (by omega) (by omega)
theorem wrap_u8 {n : Nat} (h : n < 256) : IntKind.wrap .u8 (n : Int) = n := by
  unfold IntKind.wrap
  simp [IntKind.signed, IntKind.bits]
  omega
theorem wrap_u8_mod (n : Nat) : IntKind.wrap .u8 (n : Int) = ((UInt8.ofNat n).toNat : Int) := by
  unfold IntKind.wrap
  simp [IntKind.signed, IntKind.bits]
theorem low7 (n : Nat) (h : n < 9223372036854775808) : IntKind.wrap .u8 (IntKind.wrap .i64 ((BitVec.ofInt (IntKind.bits .i64) (IntKind.wrap .i64 ((BitVec.ofInt (IntKind.bits .i64) (n : Int)) &&& (BitVec.ofInt (IntKind.bits .i64) 127)).toNat)) ||| (BitVec.ofInt (IntKind.bits .i64) 128)).toNat) = ((UInt8.ofNat (n % 128 + 128)).toNat : Int) := by
  rw [and127 n (by omega), wrap_nat (n := n % 128) (by omega)]
  have e : ((BitVec.ofInt (IntKind.bits .i64) ((n % 128 : Nat) : Int)) ||| (BitVec.ofInt (IntKind.bits .i64) 128)).toNat = n % 128 + 128 := by
    show ((BitVec.ofInt 64 ((n % 128 : Nat) : Int)) ||| (BitVec.ofInt 64 128)).toNat = _
    rw [BitVec.toNat_or, ofInt_nat _ (by omega), show (BitVec.ofInt 64 128).toNat = 128 from by decide]
    exact or128 ⟨n % 128, by omega⟩
  rw [e, wrap_nat (n := n % 128 + 128) (by omega), wrap_u8_mod]
theorem or_add {acc x k : Nat} (h : acc < 2 ^ k) (hb : x * 2 ^ k + acc < 9223372036854775808) : IntKind.wrap .i64 ((BitVec.ofInt (IntKind.bits .i64) (acc : Int)) ||| (BitVec.ofInt (IntKind.bits .i64) ((x * 2 ^ k : Nat) : Int))).toNat = ((acc + x * 2 ^ k : Nat) : Int) := by
  have e : ((BitVec.ofInt (IntKind.bits .i64) (acc : Int)) ||| (BitVec.ofInt (IntKind.bits .i64) ((x * 2 ^ k : Nat) : Int))).toNat = acc + x * 2 ^ k := by
    show ((BitVec.ofInt 64 (acc : Int)) ||| (BitVec.ofInt 64 ((x * 2 ^ k : Nat) : Int))).toNat = _
    rw [BitVec.toNat_or, ofInt_nat _ (by omega), ofInt_nat _ (by omega), Nat.or_comm, Nat.mul_comm x, ← Nat.two_pow_add_eq_or_of_lt h, Nat.add_comm]
  rw [e, wrap_nat (by omega)]

section
variable {E w : World} {L : List Asrt} {R : Ending → World → Prop} {F : Fz}

/-! ### bytes of ours -/
def byA (s : Sl) (xs : Cm.Bs) : Asrt := ownS s.1 s.2.1 s.2.2 5 1 (bytesV xs)
theorem St.by_len {s : Sl} {xs : Cm.Bs} (h : St E (byA s xs :: L) w) : xs.length = s.2.1 := by have := h.ownS_facts.1; rw [bytesV_len] at this; omega
theorem St.by_nil (h : St E L w) : St E (byA (none, 0, 0) [] :: L) w := h.ownS_nil
theorem St.by_new (h : St E L w) (xs : Cm.Bs) (hl : xs.length ≤ big) : St E (byA (some ⟨w.heap.size, 0, none⟩, xs.length, xs.length) xs :: L) (w.alloc (.cells ⟨bytesV xs⟩ 5)) :=
  (St.ownS_mk (xs := bytesV xs) (rest := []) (l := xs.length) (c := xs.length) (sz := 1) (by rw [List.append_nil]; exact h.alloc _) (by rw [bytesV_len]; omega) (Nat.le_refl _) (by unfold big at hl; unfold maxLen; omega) (by simp) :)
theorem app_b {s : Sl} {a2 : Option Addr} {l2 c2 : Nat} {xs ys : Cm.Bs} (h : St E (byA s xs :: L) w) (hro : RdS w a2 l2 1 (bytesV ys)) (hb : xs.length + ys.length ≤ big) :
    ∃ (s' : Sl) (w' : World), (Builtin.append_ #[56, 56] 56 #[.slice s.1 s.2.1 s.2.2, .slice a2 l2 c2]).run Tryz.prog w = .ok (.slice s'.1 s'.2.1 s'.2.2) w' ∧ St E (byA s' (xs ++ ys) :: L) w' := by
  have hl := h.by_len
  have hl2 : ys.length = l2 := by have := hro.1; rw [bytesV_len] at this; omega
  obtain ⟨a', c', w', hr, hs⟩ := append_own (P := Tryz.prog) (t := 56) (ty := 56) (e := 5) (i := Tryz.t5) (z := .int .u8 0) (by kernel_rfl) (by kernel_rfl) (by kernel_rfl) (by kernel_rfl) (by decide) (c2 := c2) h hro (bytesV_one ys)
    (by have : Tryz.t5.bytes = 1 := by kernel_rfl
        rw [this]; unfold big at hb; omega) (by unfold big at hb; unfold maxLen; omega)
  exact ⟨(a', s.2.1 + l2, c'), w', hr, by rw [byA, bytesV_app]; exact hs⟩
theorem app_1 {s : Sl} {xs : Cm.Bs} {x : UInt8} (h : St E (byA s xs :: L) w) (hb : xs.length + 1 ≤ big) :
    ∃ (s' : Sl) (w' : World), (Builtin.append_ #[56, 56] 56 #[.slice s.1 s.2.1 s.2.2, .slice (some ⟨w.heap.size, 0, none⟩) 1 1]).run Tryz.prog (w.alloc (.cells #[.int .u8 (x.toNat : Int)] 5)) = .ok (.slice s'.1 s'.2.1 s'.2.2) w' ∧ St E (byA s' (xs ++ [x]) :: L) w' := by
  have h2 : St E (byA (some ⟨w.heap.size, 0, none⟩, 1, 1) [x] :: byA s xs :: L) (w.alloc (.cells #[.int .u8 (x.toNat : Int)] 5)) := h.by_new [x] (show 1 ≤ big by decide)
  obtain ⟨s', w', hr, hs⟩ := app_b (c2 := 1) h2.f1 (St.rdS_own h2) (by simpa using hb)
  exact ⟨s', w', hr, hs.f1.drop⟩
theorem app_s {s : Sl} {xs ys : Cm.Bs} (h : St E (byA s xs :: L) w) (hb : xs.length + ys.length ≤ big) :
    ∃ (s' : Sl) (w' : World), (Builtin.append_ #[56, 9] 56 #[.slice s.1 s.2.1 s.2.2, .string (bs ys)]).run Tryz.prog w = .ok (.slice s'.1 s'.2.1 s'.2.2) w' ∧ St E (byA s' (xs ++ ys) :: L) w' := by
  have hl := h.by_len
  obtain ⟨a', c', w', hr, hs⟩ := append_str (P := Tryz.prog) (t := 56) (u := 9) (ty := 56) (e := 5) (i := Tryz.t5) (z := .int .u8 0) (by kernel_rfl) (by kernel_rfl) (by kernel_rfl) (by kernel_rfl) (by kernel_rfl) (by kernel_rfl) (by kernel_rfl) (s := bs ys) h
    (by rw [bs_size]; unfold big at hb; omega)
  exact ⟨(a', s.2.1 + (bs ys).size, c'), w', hr, by rw [byA, bytesV_app]; exact hs⟩

/-! ### numbers -/
theorem number_spec {s : Sl} {xs : Cm.Bs} (j : Nat) {n : Nat} (hn : n < 128 ^ (j + 1)) (hj : j ≤ 5) (h : St E (byA s xs :: L) w) (hb : xs.length + 6 ≤ big)
    (k : ∀ (w' : World) (s' : Sl), St E (byA s' (xs ++ Cm.encNF j n) :: L) w' → R (.returned (.slice s'.1 s'.2.1 s'.2.2)) w') : Calls Tryz.prog 118 #[.slice s.1 s.2.1 s.2.2, .int .i64 (n : Int)] w R := by
  refine C_wire_number ?_
  unfold T_wire_number T_wire_number_1
  intro X hX
  have go : ∀ (j : Nat) (n : Nat) (s : Sl) (ys : Cm.Bs) (w : World), n < 128 ^ (j + 1) → j ≤ 5 → ys.length + j + 1 ≤ big → St E (byA s ys :: L) w → (∀ (w' : World) (s' : Sl), St E (byA s' (ys ++ Cm.encNF j n) :: L) w' → R (.returned (.slice s'.1 s'.2.1 s'.2.2)) w') → X s.1 s.2.1 s.2.2 (n : Int) w := by
    intro j
    induction j with
    | zero =>
      intro n s ys w hn hj hb h k
      refine hX _ _ _ _ _ ?_
      unfold T_wire_number_1_body
      refine ite_d (fun hc => absurd hc (by have : n < 128 := by simpa using hn
                                            omega)) (fun hc => ?_)
      dsimp -zeta only
      intro w20
      obtain ⟨s', w', hr, hs⟩ := app_1 (x := UInt8.ofNat n) h (by omega)
      rw [← wrap_u8_mod] at hr
      exact runV_ok hr ⟨_, _, _, rfl, k _ _ hs⟩
    | succ j ih =>
      intro n s ys w hn hj hb h k
      refine hX _ _ _ _ _ ?_
      unfold T_wire_number_1_body
      have hn2 : n < 9223372036854775808 := Nat.lt_of_lt_of_le hn (Nat.le_trans (Nat.pow_le_pow_right (by decide) (by omega : j + 1 + 1 ≤ 6)) (by decide))
      refine ite_d (fun hc => ?_) (fun hc => ?_)
      · intro w5
        obtain ⟨s', w', hr, hs⟩ := app_1 (x := UInt8.ofNat (n % 128 + 128)) h (by omega)
        rw [← low7 n hn2] at hr
        refine runV_ok hr ⟨_, _, _, rfl, ?_⟩
        rw [show Int.fdiv (n : Int) (2 ^ 7) = ((n / 128 : Nat) : Int) from by
          rw [Int.fdiv_eq_ediv_of_nonneg _ (by decide)]; norm_cast]
        refine ih (n / 128) s' _ _ (by rw [Nat.div_lt_iff_lt_mul (by decide)]; rwa [Nat.pow_succ] at hn) (by omega) (by simp; omega) hs fun w2 s2 h2 => k w2 s2 ?_
        rw [Cm.encNF, if_neg (by omega)]
        simpa using h2
      · dsimp -zeta only
        intro w20
        obtain ⟨s', w', hr, hs⟩ := app_1 (x := UInt8.ofNat n) h (by omega)
        rw [← wrap_u8_mod] at hr
        refine runV_ok hr ⟨_, _, _, rfl, k _ _ ?_⟩
        rw [Cm.encNF, if_pos (by omega)]
        exact hs
  exact go j n s xs w hn hj (by omega) h k
theorem num_len (n : Int) : (Cm.num n).length ≤ 6 := by
  unfold Cm.num
  split
  · simp
  · have : ∀ j n, (Cm.encNF j n).length ≤ j + 1 := by
      intro j
      induction j with
      | zero => intro n; simp [Cm.encNF]
      | succ j ih => intro n; rw [Cm.encNF]; split <;> simp [ih]
    exact this 5 _
def numE (n : Int) : Int := if n < 0 ∨ 1099511627776 < n then 2 else 0
theorem Number_spec {n : Int} (h : St E L w) (k : ∀ (w' : World) (s' : Sl), St E (byA s' (Cm.num n) :: L) w' → R (.returned (.tuple #[.slice s'.1 s'.2.1 s'.2.2, .int .i64 (numE n)])) w') : Calls Tryz.prog 88 #[.int .i64 n] w R := by
  refine C_wire_Number ?_
  unfold T_wire_Number
  unfold numE Cm.num at k
  refine ite_d (fun h1 => ?_) fun h1 => ite_d (fun h2 => ?_) fun h2 => ?_
  · rw [if_pos (.inl h1), if_pos (.inl h1)] at k
    exact k w (none, 0, 0) h.by_nil
  · rw [if_pos (.inr (by omega)), if_pos (.inr (by omega))] at k
    exact k w (none, 0, 0) h.by_nil
  · rw [if_neg (by omega), if_neg (by omega)] at k
    obtain ⟨m, rfl⟩ := Int.eq_ofNat_of_zero_le (by omega : 0 ≤ n)
    exact number_spec (s := (none, 0, 0)) (xs := []) 5 (n := m) (by omega) (by omega) h.by_nil (by decide) fun w' s' h' => ⟨_, _, _, rfl, k w' s' (by simpa using h')⟩
theorem RNumber_spec {n : Int} (h : St E L w) (k : ∀ (w' : World) (s' : Sl), St E (byA s' (Cm.num n) :: L) w' → R (.returned (.tuple #[.slice s'.1 s'.2.1 s'.2.2, .int .i64 (numE n)])) w') : Calls Tryz.prog 122 #[.int .i64 n] w R := by
  refine C_ref02_Number ?_
  unfold T_ref02_Number T_ref02_Number_1
  unfold numE Cm.num at k
  have no : n < 0 ∨ 1099511627776 < n → R (.returned (.tuple #[.slice none 0 0, .int .i64 2])) w := fun hh => by
    rw [if_pos hh, if_pos hh] at k
    exact k w (none, 0, 0) h.by_nil
  refine ite_d (fun h1 => ite_b (fun _ => no (.inl h1)) (fun hh => by cases hh)) fun h1 => ite_d (fun h2 => no (.inr (by omega))) fun h2 => ?_
  rw [if_neg (by omega), if_neg (by omega)] at k
  obtain ⟨m, rfl⟩ := Int.eq_ofNat_of_zero_le (by omega : 0 ≤ n)
  intro w8
  have h8 : St E (byA (some ⟨w.heap.size, 0, none⟩, 0, 0) [] :: L) w8 := h.by_new [] (by decide)
  unfold T_ref02_Number_2
  intro X hX
  have go : ∀ (j : Nat) (n : Nat) (s : Sl) (ys : Cm.Bs) (w : World), n < 128 ^ (j + 1) → j ≤ 5 → ys.length + j + 1 ≤ big → St E (byA s ys :: L) w → (∀ (w' : World) (s' : Sl), St E (byA s' (ys ++ Cm.encNF j n) :: L) w' → R (.returned (.tuple #[.slice s'.1 s'.2.1 s'.2.2, .int .i64 0])) w') → X (n : Int) s.1 s.2.1 s.2.2 w := by
    intro j
    induction j with
    | zero =>
      intro n s ys w hn hj hb h k
      refine hX _ _ _ _ _ ?_
      unfold T_ref02_Number_2_body
      have hn1 : n < 128 := by simpa using hn
      have e1 : Int.tdiv (n : Int) 128 = 0 := by rw [Int.tdiv_eq_ediv_of_nonneg (by omega)]; omega
      have e2 : Int.tmod (n : Int) 128 = (n : Int) := by rw [Int.tmod_eq_emod_of_nonneg (by omega)]; omega
      rw [e1, e2, if_pos (by decide)]
      intro w20
      obtain ⟨s', w', hr, hs⟩ := app_1 (x := UInt8.ofNat n) h (by omega)
      rw [← wrap_u8_mod] at hr
      exact runV_ok hr ⟨_, _, _, rfl, k _ _ hs⟩
    | succ j ih =>
      intro n s ys w hn hj hb h k
      refine hX _ _ _ _ _ ?_
      unfold T_ref02_Number_2_body
      have hn2 : n < 9223372036854775808 := Nat.lt_of_lt_of_le hn (Nat.le_trans (Nat.pow_le_pow_right (by decide) (by omega : j + 1 + 1 ≤ 6)) (by decide))
      have e1 : Int.tdiv (n : Int) 128 = ((n / 128 : Nat) : Int) := by rw [Int.tdiv_eq_ediv_of_nonneg (by omega)]; omega
      have e2 : Int.tmod (n : Int) 128 = ((n % 128 : Nat) : Int) := by rw [Int.tmod_eq_emod_of_nonneg (by omega)]; omega
      rw [e1, e2, wrap_nat (n := n / 128) (by omega), eq_dec, show ((n % 128 : Nat) : Int) + 128 = ((n % 128 + 128 : Nat) : Int) from by omega, wrap_nat (n := n % 128 + 128) (by omega)]
      refine ite_d (fun hc => ?_) (fun hc => ?_)
      · intro w20
        obtain ⟨s', w', hr, hs⟩ := app_1 (x := UInt8.ofNat (n % 128)) h (by omega)
        rw [← wrap_u8_mod] at hr
        refine runV_ok hr ⟨_, _, _, rfl, k _ _ ?_⟩
        rw [Cm.encNF, if_pos (by omega)]
        rwa [show n % 128 = n from by omega] at hs
      · intro w5
        obtain ⟨s', w', hr, hs⟩ := app_1 (x := UInt8.ofNat (n % 128 + 128)) h (by omega)
        rw [← wrap_u8_mod] at hr
        refine runV_ok hr ⟨_, _, _, rfl, ?_⟩
        refine ih (n / 128) s' _ _ (by rw [Nat.div_lt_iff_lt_mul (by decide)]; rwa [Nat.pow_succ] at hn) (by omega) (by simp; omega) hs fun w2 s2 h2 => k w2 s2 ?_
        rw [Cm.encNF, if_neg (by omega)]
        simpa using h2
  exact go 5 m (some ⟨w.heap.size, 0, none⟩, 0, 0) [] w8 (by omega) (by omega) (by decide) h8 fun w' s' h' => k w' s' (by simpa using h')
section
variable {s : Sl} {xs : Cm.Bs}
theorem num_spec {n : Int} (h : St E (byA s xs :: L) w) (hb : xs.length + 6 ≤ big) (k : ∀ (w' : World) (s' : Sl), St E (byA s' (xs ++ Cm.num n) :: L) w' → R (.returned (.slice s'.1 s'.2.1 s'.2.2)) w') : Calls Tryz.prog 49 #[.slice s.1 s.2.1 s.2.2, .int .i64 n] w R := by
  refine C_conf_num ?_
  unfold T_conf_num
  refine Number_spec h fun w' s' h' => ⟨_, _, _, _, rfl, ?_⟩
  obtain ⟨s2, w2, hr, hs⟩ := app_b (c2 := s'.2.2) h'.f1 (St.rdS_own h') (by have := num_len n; omega)
  exact runV_ok hr ⟨_, _, _, rfl, k w2 s2 hs.f1.drop⟩
theorem Rnum_spec {n : Int} (h : St E (byA s xs :: L) w) (hb : xs.length + 6 ≤ big) (k : ∀ (w' : World) (s' : Sl), St E (byA s' (xs ++ Cm.num n) :: L) w' → R (.returned (.slice s'.1 s'.2.1 s'.2.2)) w') : Calls Tryz.prog 94 #[.slice s.1 s.2.1 s.2.2, .int .i64 n] w R := by
  refine C_ref08_num ?_
  unfold T_ref08_num
  refine RNumber_spec h fun w' s' h' => ⟨_, _, _, _, rfl, ?_⟩
  obtain ⟨s2, w2, hr, hs⟩ := app_b (c2 := s'.2.2) h'.f1 (St.rdS_own h') (by have := num_len n; omega)
  exact runV_ok hr ⟨_, _, _, rfl, k w2 s2 hs.f1.drop⟩
theorem text_len (x : Cm.Bs) : (Cm.text x).length ≤ 6 + x.length := by have := num_len x.length; simp [Cm.text]; omega
theorem text_spec {x : Cm.Bs} (h : St E (byA s xs :: L) w) (hb : xs.length + 6 + x.length ≤ big) (k : ∀ (w' : World) (s' : Sl), St E (byA s' (xs ++ Cm.text x) :: L) w' → R (.returned (.slice s'.1 s'.2.1 s'.2.2)) w') : Calls Tryz.prog 90 #[.slice s.1 s.2.1 s.2.2, .string (bs x)] w R := by
  refine C_conf_text ?_
  unfold T_conf_text
  rw [bs_size]
  refine num_spec h (by omega) fun w' s' h' => ⟨_, _, _, rfl, ?_⟩
  obtain ⟨s2, w2, hr, hs⟩ := app_s (ys := x) h' (by have := num_len x.length; simp; omega)
  exact runV_ok hr ⟨_, _, _, rfl, k w2 s2 (by simpa [Cm.text] using hs)⟩
theorem Rtext_spec {x : Cm.Bs} (h : St E (byA s xs :: L) w) (hb : xs.length + 6 + x.length ≤ big) (k : ∀ (w' : World) (s' : Sl), St E (byA s' (xs ++ Cm.text x) :: L) w' → R (.returned (.slice s'.1 s'.2.1 s'.2.2)) w') : Calls Tryz.prog 124 #[.slice s.1 s.2.1 s.2.2, .string (bs x)] w R := by
  refine C_ref08_text ?_
  unfold T_ref08_text
  rw [bs_size]
  refine Rnum_spec h (by omega) fun w' s' h' => ⟨_, _, _, rfl, ?_⟩
  obtain ⟨s2, w2, hr, hs⟩ := app_s (ys := x) h' (by have := num_len x.length; simp; omega)
  exact runV_ok hr ⟨_, _, _, rfl, k w2 s2 (by simpa [Cm.text] using hs)⟩

/-! ### weights, targets -/
theorem run_shr (t : TypeId) (x y : Operand) {v n : Nat} {q : IntKind} (hn : n < 64) : (do eqGuard .shr t x y (.int .u64 (v : Int)) (.int q (n : Int)); binOp .shr t (.int .u64 (v : Int)) (.int q (n : Int)) : Sem Value).run Tryz.prog w = .ok (.int .u64 ((v / 2 ^ n : Nat) : Int)) w := by
  have e : min (n : Int).toNat (IntKind.bits .u64) = n := by rw [Int.toNat_natCast]; exact Nat.min_eq_left (by show n ≤ 64; omega)
  have h0 : ¬ ((n : Int) < 0) := by omega
  simp only [eqGuard, binOp, Op.shift]
  rw [if_neg h0, e, Int.fdiv_eq_ediv_of_nonneg _ (by exact_mod_cast Nat.zero_le _)]
  simp
def f64n (v : Nat) (i : Nat) : UInt8 := UInt8.ofNat (v / 2 ^ (56 - 8 * i))
theorem f64_take (v : Nat) : ∀ i, i ≤ 8 → (Cm.f64 v).take i = (List.range i).map (f64n v) := by
  intro i hi
  match i, hi with
  | 0, _ => rfl
  | 1, _ => rfl
  | 2, _ => rfl
  | 3, _ => rfl
  | 4, _ => rfl
  | 5, _ => rfl
  | 6, _ => rfl
  | 7, _ => rfl
  | 8, _ => simp [Cm.f64, List.range_succ, f64n]
theorem float_spec {v : Nat} (h : St E (byA s xs :: L) w) (hb : xs.length + 8 ≤ big) (k : ∀ (w' : World) (s' : Sl), St E (byA s' (xs ++ Cm.f64 v) :: L) w' → R (.returned (.slice s'.1 s'.2.1 s'.2.2)) w') : Calls Tryz.prog 119 #[.slice s.1 s.2.1 s.2.2, .float .f64 v] w R := by
  refine C_conf_float ?_
  unfold T_conf_float T_conf_float_1
  intro X hX
  refine up_to 8 (Q := fun j => ∀ (w : World) (s : Sl), St E (byA s (xs ++ (Cm.f64 v).take j) :: L) w → X s.1 s.2.1 s.2.2 (56 - 8 * (j : Int)) w) ?_ w s (by simpa using h)
  intro j hj ih w s h
  refine hX _ _ _ _ _ ?_
  unfold T_conf_float_1_body
  refine ite_d (fun hc => ?_) (fun hc => ?_)
  · have hj8 : j < 8 := by omega
    refine runV_ok run_fbits ⟨_, rfl, ?_⟩
    rw [show (56 - 8 * (j : Int)) = ((56 - 8 * j : Nat) : Int) from by omega]
    refine runV_ok (run_shr _ _ _ (by omega)) ⟨_, rfl, ?_⟩
    intro w12
    obtain ⟨s', w', hr, hs⟩ := app_1 (x := f64n v j) h (by simp [f64_take v j (by omega)]; omega)
    unfold f64n at hr
    rw [← wrap_u8_mod] at hr
    refine runV_ok hr ⟨_, _, _, rfl, ?_⟩
    rw [wrap_id (by omega) (by omega), show ((56 - 8 * j : Nat) : Int) - 8 = 56 - 8 * ((j + 1 : Nat) : Int) from by omega]
    refine ih hj8 _ _ ?_
    rw [f64_take v (j + 1) (by omega), List.range_succ, List.map_append, ← f64_take v j (by omega)]
    simpa using hs
  · have : j = 8 := by omega
    subst this
    exact k _ _ h
theorem tgt_len (t : Cm.Tgt) : (Cm.tgt t).length ≤ 14 + t.addr.length := by have := text_len t.addr; simp [Cm.tgt, Cm.f64_len]; omega
def tgsMax (l : List Cm.Tgt) : Nat := 6 + (l.map fun t => 14 + t.addr.length).sum
theorem flat_tgt_len (l : List Cm.Tgt) : (l.flatMap Cm.tgt).length ≤ (l.map fun t => 14 + t.addr.length).sum := by
  induction l with
  | nil => simp
  | cons t r ih => have := tgt_len t; simp only [List.flatMap_cons, List.length_append, List.map_cons, List.sum_cons]; omega
theorem sum_take_le (f : Cm.Tgt → Nat) : ∀ (l : List Cm.Tgt) (j : Nat) (h : j < l.length), ((l.take j).map f).sum + f l[j] ≤ (l.map f).sum
  | [], _, h => by simp at h
  | t :: r, 0, _ => by simp
  | t :: r, j + 1, h => by
    have := sum_take_le f r j (by simpa using h)
    simp only [List.take_succ_cons, List.map_cons, List.sum_cons, List.getElem_cons_succ]; omega
theorem row_spec {q : Sl} {l : List Cm.Tgt} (hm : kn F ∈ L) (hr : RdF F q.1 q.2.1 2 (l.flatMap tV)) (hl : okTs l) (h : St E (byA s xs :: L) w) (hb : xs.length + tgsMax l ≤ big)
    (k : ∀ (w' : World) (s' : Sl), St E (byA s' (xs ++ Cm.tgs l) :: L) w' → R (.returned (.slice s'.1 s'.2.1 s'.2.2)) w') : Calls Tryz.prog 89 #[.slice s.1 s.2.1 s.2.2, .slice q.1 q.2.1 q.2.2] w R := by
  have hn := tgs_len hm h.drop hr
  unfold tgsMax at hb
  refine C_conf_row ?_
  unfold T_conf_row
  refine num_spec h (by omega) fun w1 s1 h1 => ⟨_, _, _, rfl, ?_⟩
  unfold T_conf_row_1
  intro X hX
  refine up_to l.length (Q := fun j => ∀ (w : World) (s : Sl), St E (byA s (xs ++ Cm.num l.length ++ (l.take j).flatMap Cm.tgt) :: L) w → X s.1 s.2.1 s.2.2 (j : Int) w) ?_ w1 s1 (by rw [← hn] at h1; simpa using h1)
  intro j hj ih w s h
  refine hX _ _ _ _ _ ?_
  unfold T_conf_row_1_body
  rw [← hn]
  refine ite_d (fun hc => ?_) (fun hc => ?_)
  · have hjl : j < l.length := by omega
    obtain ⟨ad, ha, hrd, _⟩ := (hr.at h (List.mem_cons_of_mem _ hm)).elem tV_len (List.getElem?_eq_getElem hjl) (by decide)
    have hs1 := sum_take_le (fun t => 14 + t.addr.length) l j hjl
    have hs2 := flat_tgt_len (l.take j)
    have hs3 := num_len l.length
    have hs4 := text_len l[j].addr
    refine ⟨by omega, by omega, ad, ha, _, _, by rw [Int.toNat_natCast]; exact hrd, ?_⟩
    intro w8
    have h8 := h.alloc (.cells #[.string (ByteArray.mk #[]), .float .f64 0] 64)
    refine ⟨rfl, wrOk_agg h8.at_blk (xs := tV l[j]) (by simp [tV]) (by intro u hu; simp [tV] at hu; rcases hu with rfl | rfl <;> rfl), ?_⟩
    intro w9 w10
    have h9 : St E (blkL w.heap.size 64 (tV l[j]) :: byA s (xs ++ Cm.num l.length ++ (l.take j).flatMap Cm.tgt) :: L) w10 := (h8.wr_agg0 (xs := tV l[j]) rfl).drew
    refine ⟨_, rd_cell h9.at_blk (l := tV l[j]) rfl rfl, _, rd_fld h9.at_blk (l := tV l[j]) rfl rfl, ?_⟩
    refine text_spec (x := l[j].addr) h9.f1 (by simp only [List.length_append]; omega) fun w2 s2 h2 => ⟨_, _, _, rfl, ⟨rd_fld h2.f1.at_blk (l := tV l[j]) rfl rfl, trivial⟩, ?_⟩
    refine float_spec h2 (by simp only [List.length_append]; omega) fun w3 s3 h3 => ⟨_, _, _, rfl, trivial, ?_⟩
    rw [succ_huge (by have := hl.1; omega)]
    refine ih hjl _ _ ?_
    rw [List.take_succ_eq_append_getElem hjl, List.flatMap_append]
    have := h3.f1.drop
    simpa [Cm.tgt] using this
  · refine k _ _ ?_
    rw [List.take_of_length_le (by omega)] at h
    simpa [Cm.tgs] using h
theorem Rtargets_spec {q : Sl} {l : List Cm.Tgt} (hm : kn F ∈ L) (hr : RdF F q.1 q.2.1 2 (l.flatMap tV)) (hl : okTs l) (h : St E (byA s xs :: L) w) (hb : xs.length + tgsMax l ≤ big)
    (k : ∀ (w' : World) (s' : Sl), St E (byA s' (xs ++ Cm.tgs l) :: L) w' → R (.returned (.slice s'.1 s'.2.1 s'.2.2)) w') : Calls Tryz.prog 123 #[.slice s.1 s.2.1 s.2.2, .slice q.1 q.2.1 q.2.2] w R := by
  have hn := tgs_len hm h.drop hr
  unfold tgsMax at hb
  refine C_ref08_targets ?_
  unfold T_ref08_targets
  refine Rnum_spec h (by omega) fun w1 s1 h1 => ⟨_, _, _, rfl, ?_⟩
  unfold T_ref08_targets_1
  intro X hX
  refine up_to l.length (Q := fun j => ∀ (w : World) (s : Sl), St E (byA s (xs ++ Cm.num l.length ++ (l.take j).flatMap Cm.tgt) :: L) w → X s.1 s.2.1 s.2.2 (j : Int) w) ?_ w1 s1 (by rw [← hn] at h1; simpa using h1)
  intro j hj ih w s h
  refine hX _ _ _ _ _ ?_
  unfold T_ref08_targets_1_body
  rw [← hn]
  refine ite_d (fun hc => ?_) (fun hc => ?_)
  · have hjl : j < l.length := by omega
    have hel := fun (w : World) (s : Sl) (zs : Cm.Bs) (h : St E (byA s zs :: L) w) => (hr.at h (List.mem_cons_of_mem _ hm)).elem tV_len (List.getElem?_eq_getElem hjl) (by decide)
    obtain ⟨ad, ha, _, hrd⟩ := hel _ _ _ h
    have hs1 := sum_take_le (fun t => 14 + t.addr.length) l j hjl
    have hs2 := flat_tgt_len (l.take j)
    have hs3 := num_len l.length
    have hs4 := text_len l[j].addr
    refine ⟨by omega, by omega, ad, ha, _, by rw [Int.toNat_natCast]; exact hrd 0 _ rfl rfl, ?_⟩
    refine Rtext_spec (x := l[j].addr) h (by simp only [List.length_append]; omega) fun w2 s2 h2 => ⟨_, _, _, rfl, ?_⟩
    obtain ⟨ad2, ha2, _, hrd2⟩ := hel _ _ _ h2
    refine ⟨by omega, by omega, ad2, ha2, _, by rw [Int.toNat_natCast]; exact hrd2 1 _ rfl rfl, runV_ok run_fbits ⟨_, rfl, ?_⟩⟩
    unfold T_ref08_targets_2
    intro Y hY
    refine up_to 8 (Q := fun i => ∀ (w : World) (s : Sl), St E (byA s (xs ++ Cm.num l.length ++ (l.take j).flatMap Cm.tgt ++ Cm.text l[j].addr ++ (Cm.f64 l[j].w).take i) :: L) w → Y s.1 s.2.1 s.2.2 (i : Int) w) ?_ w2 s2 (by simpa using h2)
    intro i hi ihi w s h
    refine hY _ _ _ _ _ ?_
    unfold T_ref08_targets_2_body
    refine ite_d (fun hc => ?_) (fun hc => ?_)
    · have hi8 : i < 8 := by omega
      have e1 : IntKind.wrap .u64 (IntKind.wrap .i64 ((56 : Int) - (IntKind.wrap .i64 ((8 : Int) * (i : Int))))) = ((56 - 8 * i : Nat) : Int) := by
        rw [wrap_id (x := (8 : Int) * (i : Int)) (by omega) (by omega), wrap_id (by omega) (by omega)]
        unfold IntKind.wrap
        simp [IntKind.signed, IntKind.bits]
        omega
      rw [e1]
      refine runV_ok (run_shr _ _ _ (by omega)) ⟨_, rfl, ?_⟩
      intro w12
      obtain ⟨s', w', hr', hs'⟩ := app_1 (x := f64n l[j].w i) h (by simp only [List.length_append, f64_take _ i (by omega), List.length_map, List.length_range]; omega)
      unfold f64n at hr'
      rw [← wrap_u8_mod] at hr'
      refine runV_ok hr' ⟨_, _, _, rfl, ?_⟩
      rw [wrap_id (by omega) (by omega)]
      have := ihi hi8 w' s' (by
        rw [f64_take _ (i + 1) (by omega), List.range_succ, List.map_append, ← f64_take _ i (by omega)]
        simpa using hs')
      exact_mod_cast this
    · have hi8 : i = 8 := by omega
      subst hi8
      rw [succ_huge (by have := hl.1; omega)]
      refine ih hjl _ _ ?_
      rw [List.take_succ_eq_append_getElem hjl, List.flatMap_append]
      rw [List.take_of_length_le (l := Cm.f64 l[j].w) (by rw [Cm.f64_len]; omega)] at h
      simpa [Cm.tgt] using h
  · refine k _ _ ?_
    rw [List.take_of_length_le (by omega)] at h
    simpa [Cm.tgs] using h
end
end
end Go.Vc
