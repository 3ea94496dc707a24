/-
  Bytes that are gone through: the program's reader and the document's scan.
-/
import Derived.Test.YtcpmfjclkdjfmaaGreatConfC
namespace Go.Vc
open Go Go.Proofs Go.Proofs.YtcpmfjclkdjfmaaGreat
set_option maxRecDepth 100000

/-- Bytes that are read from, known for good. -/
structure Src (F : Fz) (q : Sl) (b : Cm.Bs) : Prop where
  rd : RdF F q.1 q.2.1 1 (bytesV b)
  len : b.length = q.2.1
  cap : q.2.1 ≤ q.2.2
  big : b.length ≤ 9223372036854775807
theorem Src.mono {F G : Fz} {q : Sl} {b : Cm.Bs} (h : Src F q b) (k : Fz.le F G) : Src G q b := ⟨h.rd.mono k, h.len, h.cap, h.big⟩
/-- The number that stands at a place, as the functions tell it. -/
def tkR (n0 : Nat) (x : Except Int (Nat × Cm.Bs)) : Int × Int × Int := match x with
  | .error e => (0, 0, e)
  | .ok (n, r) => (n, (n0 - r.length : Nat), 0)
def rdrL (q : Sl) (at_ : Nat) (e : Int) : List Value := [.slice q.1 q.2.1 q.2.2, .int .i64 (at_ : Int), .int .i64 e]
def rdrOk (b : Cm.Bs) (at_ : Nat) (e : Int) : Cm.Ps → Prop
  | .ok r => e = 0 ∧ at_ ≤ b.length ∧ r = b.drop at_
  | .error x => e = x ∧ x ≠ 0
def rdrA (ty p : Nat) (q : Sl) (b : Cm.Bs) (st : Cm.Ps) : Asrt := fun h => ∃ (at_ : Nat) (e : Int), rdrOk b at_ e st ∧ blkL p ty (rdrL q at_ e) h

section
variable {E w : World} {L : List Asrt} {R : Ending → World → Prop} {F : Fz} {q : Sl} {b : Cm.Bs} {st : Cm.Ps} {p ty : Nat}
theorem St.rdr_open (h : St E (rdrA ty p q b st :: L) w) : ∃ (at_ : Nat) (e : Int), rdrOk b at_ e st ∧ St E (blkL p ty (rdrL q at_ e) :: L) w := by
  obtain ⟨en, x, ⟨h1, h2, d, rfl, ⟨a, e, ho, hs⟩, hL⟩, hl⟩ := h
  exact ⟨a, e, ho, en, _, ⟨h1, h2, d, rfl, hs, hL⟩, hl⟩
theorem St.rdr_mk {at_ : Nat} {e : Int} (h : St E (blkL p ty (rdrL q at_ e) :: L) w) (ho : rdrOk b at_ e st) : St E (rdrA ty p q b st :: L) w := h.mono fun _ hx => ⟨at_, e, ho, hx⟩
theorem St.rdr_new (h : St E L w) (ty : Nat) (q : Sl) (b : Cm.Bs) : St E (rdrA ty w.heap.size q b (.ok b) :: L) (w.alloc (.cells ⟨rdrL q 0 0⟩ ty)) :=
  St.rdr_mk (at_ := 0) (e := 0) (h.alloc _) ⟨rfl, Nat.zero_le _, rfl⟩

/-! ### one number -/
theorem run_shl (t : TypeId) (x y : Operand) {v n : Nat} (hn : n < 64) : (do eqGuard .shl t x y (.int .i64 (v : Int)) (.int .i64 (n : Int)); binOp .shl t (.int .i64 (v : Int)) (.int .i64 (n : Int)) : Sem Value).run Tryz.prog w = .ok (.int .i64 (IntKind.wrap .i64 ((v * 2 ^ n : Nat) : Int))) w := by
  have e : min (n : Int).toNat (IntKind.bits .i64) = n := by rw [Int.toNat_natCast]; exact Nat.min_eq_left (by show n ≤ 64; omega)
  have h0 : ¬ ((n : Int) < 0) := by omega
  simp only [eqGuard, binOp, Op.shift]
  rw [if_neg h0, e]
  simp
theorem byte_at (hs : Src F q b) (hm : kn F ∈ L) (h : St E L w) {i : Nat} (hi : i < b.length) : ∃ ad, q.1 = some ad ∧ rd w (ad.add (i * 1)) (.int .u8 (b[i].toNat : Int)) := by
  have hr := hs.rd.at h hm
  obtain ⟨ad, ha, _, hc⟩ := hr.cells (by have := hs.len; omega)
  refine ⟨ad, ha, ?_⟩
  rw [Nat.mul_one]
  exact hr.rd_cell ha (by have := hs.len; omega) (v := .int .u8 (b[i].toNat : Int)) (by simp [bytesV, hi]) rfl
theorem takeGo_cons (j n : Nat) (c : UInt8) (r : Cm.Bs) : Cm.takeGo j n (c :: r) = if 128 ≤ c.toNat then (if j = 5 then .error 6 else Cm.takeGo (j + 1) (n + c.toNat % 128 * 128 ^ j) r)
    else if c.toNat = 0 ∧ 0 < j then .error 4 else if 1099511627776 < n + c.toNat % 128 * 128 ^ j then .error 6 else .ok (n + c.toNat % 128 * 128 ^ j, r) := rfl
theorem pow7 (k : Nat) (_h : k ≤ 5) : 128 ^ k = 2 ^ (7 * k) := by rw [show 128 = 2 ^ 7 from rfl, ← Nat.pow_mul]
theorem TakeNumber_spec {at_ : Nat} (hs : Src F q b) (hm : kn F ∈ L) (h : St E L w) (ha : at_ ≤ b.length)
    (k : ∀ w', St E L w' → R (.returned (.tuple #[.int .i64 (tkR b.length (Cm.takeGo 0 0 (b.drop at_))).1, .int .i64 (tkR b.length (Cm.takeGo 0 0 (b.drop at_))).2.1, .int .i64 (tkR b.length (Cm.takeGo 0 0 (b.drop at_))).2.2])) w') :
    Calls Tryz.prog 101 #[.slice q.1 q.2.1 q.2.2, .int .i64 (at_ : Int)] w R := by
  have hlen := hs.len
  have hbig := hs.big
  refine C_wire_TakeNumber ?_
  unfold T_wire_TakeNumber T_wire_TakeNumber_1
  refine ite_d (fun h1 => absurd h1 (by omega)) fun _ => ite_d (fun h1 => absurd h1 (by omega)) fun _ => ?_
  unfold T_wire_TakeNumber_2
  intro X hX
  have go : ∀ (r : Cm.Bs) (j n : Nat), r = b.drop (at_ + j) → j ≤ 5 → n < 2 ^ (7 * j) → at_ + j ≤ b.length → Cm.takeGo 0 0 (b.drop at_) = Cm.takeGo j n r → X (n : Int) (j : Int) w := by
    intro r
    induction r with
    | nil =>
      intro j n hr hj hn hle he
      refine hX _ _ _ ?_
      unfold T_wire_TakeNumber_2_body
      have : at_ + j = b.length := by have := congrArg List.length hr; simp at this; omega
      rw [show ((at_ : Int) + (j : Int)) = ((at_ + j : Nat) : Int) from by omega, wrap_nat (by omega), eq_dec]
      refine ite_d (fun _ => ?_) (fun hh => absurd hh (by omega))
      have := k w h
      rw [he] at this
      exact this
    | cons c r ih =>
      intro j n hr hj hn hle he
      refine hX _ _ _ ?_
      unfold T_wire_TakeNumber_2_body
      have hlt : at_ + j < b.length := by have := congrArg List.length hr; simp at this; omega
      have hd := List.drop_eq_getElem_cons hlt
      rw [← hr] at hd
      injection hd with hc hr2
      rw [show ((at_ : Int) + (j : Int)) = ((at_ + j : Nat) : Int) from by omega, wrap_nat (n := at_ + j) (by omega), eq_dec]
      refine ite_d (fun hh => absurd hh (by omega)) (fun _ => ?_)
      obtain ⟨ad, had, hrd⟩ := byte_at hs hm h hlt
      rw [← hc] at hrd
      have h256 := c.toNat_lt
      have hk := k w h
      rw [he] at hk
      refine ⟨by omega, by omega, ad, had, (c.toNat : Int), by rw [Int.toNat_natCast]; exact hrd, ?_⟩
      rw [wrap_nat (n := c.toNat) (by omega), and127 _ (by omega), wrap_nat (n := c.toNat % 128) (by omega), show (7 : Int) * (j : Int) = ((7 * j : Nat) : Int) from by omega, wrap_nat (n := 7 * j) (by omega)]
      have hp : 2 ^ (7 * j) ≤ 34359738368 := Nat.le_trans (Nat.pow_le_pow_right (by decide) (by omega : 7 * j ≤ 35)) (by decide)
      have hmul : c.toNat % 128 * 2 ^ (7 * j) ≤ 127 * 34359738368 := Nat.mul_le_mul (by omega) hp
      refine runV_ok (run_shl _ _ _ (by omega)) ⟨_, rfl, ?_⟩
      rw [wrap_nat (n := c.toNat % 128 * 2 ^ (7 * j)) (by omega), or_add hn (by omega), show ((j : Int) + 1) = ((j + 1 : Nat) : Int) from by omega, wrap_nat (n := j + 1) (by omega)]
      rw [← pow7 j hj]
      rw [takeGo_cons] at hk he
      refine ite_d (fun hc1 => ?_) (fun hc1 => ?_)
      · rw [if_pos (by omega)] at hk he
        rw [eq_dec]
        refine ite_d (fun h5 => ?_) (fun h5 => ?_)
        · rw [if_pos (by omega)] at hk
          exact hk
        · rw [if_neg (by omega)] at he
          refine ih (j + 1) _ hr2 (by omega) ?_ (by omega) he
          rw [pow7 j hj, show 7 * (j + 1) = 7 * j + 7 from by omega, Nat.pow_add]
          have : c.toNat % 128 * 2 ^ (7 * j) ≤ 127 * 2 ^ (7 * j) := Nat.mul_le_mul_right _ (by omega)
          omega
      · rw [if_neg (by omega)] at hk
        unfold T_wire_TakeNumber_3
        rw [eq_dec]
        have tail : ¬ (c.toNat = 0 ∧ 0 < j) → (if decide ((((n + c.toNat % 128 * 128 ^ j : Nat) : Int)) > 1099511627776) = true then R (.returned (.tuple #[.int .i64 0, .int .i64 0, .int .i64 6])) w else
            R (.returned (.tuple #[.int .i64 ((n + c.toNat % 128 * 128 ^ j : Nat) : Int), .int .i64 (IntKind.wrap .i64 ((at_ : Int) + ((j + 1 : Nat) : Int))), .int .i64 0])) w) := fun hz => by
          rw [if_neg hz] at hk
          refine ite_d (fun h6 => ?_) (fun h6 => ?_)
          · rw [if_pos (by omega)] at hk
            exact hk
          · rw [if_neg (by omega)] at hk
            rw [show ((at_ : Int) + ((j + 1 : Nat) : Int)) = ((at_ + (j + 1) : Nat) : Int) from by omega, wrap_nat (n := at_ + (j + 1)) (by omega)]
            have e : b.length - r.length = at_ + (j + 1) := by rw [hr2, List.length_drop]; omega
            simp only [tkR, e] at hk
            exact hk
        refine ite_d (fun h0 => ite_d (fun h2 => ?_) (fun h2 => tail (by omega))) (fun h0 => tail (by omega))
        rw [if_pos (by omega)] at hk
        exact hk
  exact go (b.drop at_) 0 0 rfl (by omega) (by decide) (by omega) rfl
theorem RTakeNumber_spec {at_ : Nat} (hs : Src F q b) (hm : kn F ∈ L) (h : St E L w) (ha : at_ ≤ b.length)
    (k : ∀ w', St E L w' → R (.returned (.tuple #[.int .i64 (tkR b.length (Cm.takeGo 0 0 (b.drop at_))).1, .int .i64 (tkR b.length (Cm.takeGo 0 0 (b.drop at_))).2.1, .int .i64 (tkR b.length (Cm.takeGo 0 0 (b.drop at_))).2.2])) w') :
    Calls Tryz.prog 104 #[.slice q.1 q.2.1 q.2.2, .int .i64 (at_ : Int)] w R := by
  have hlen := hs.len
  have hbig := hs.big
  refine C_ref02_TakeNumber ?_
  unfold T_ref02_TakeNumber T_ref02_TakeNumber_1
  refine ite_d (fun h1 => absurd h1 (by omega)) fun _ => ite_d (fun h1 => absurd h1 (by omega)) fun _ => ?_
  unfold T_ref02_TakeNumber_2
  intro X hX
  have six : ∀ n : Int, Cm.takeGo 0 0 (b.drop at_) = .error 6 → X n (128 ^ 6 : Nat) 6 w := fun n he => by
    refine hX _ _ _ _ ?_
    unfold T_ref02_TakeNumber_2_body
    have := k w h
    rw [he] at this
    exact this
  have go : ∀ (r : Cm.Bs) (j n : Nat), r = b.drop (at_ + j) → j ≤ 5 → n < 2 ^ (7 * j) → at_ + j ≤ b.length → Cm.takeGo 0 0 (b.drop at_) = Cm.takeGo j n r → X (n : Int) ((128 ^ j : Nat) : Int) (j : Int) w := by
    intro r
    induction r with
    | nil =>
      intro j n hr hj hn hle he
      refine hX _ _ _ _ ?_
      unfold T_ref02_TakeNumber_2_body
      have : at_ + j = b.length := by have := congrArg List.length hr; simp at this; omega
      rw [show ((at_ : Int) + (j : Int)) = ((at_ + j : Nat) : Int) from by omega, wrap_nat (by omega)]
      refine ite_d (fun _ => ite_d (fun _ => ?_) (fun hh => absurd hh (by omega))) (fun hh => absurd hh (by omega))
      have := k w h
      rw [he] at this
      exact this
    | cons c r ih =>
      intro j n hr hj hn hle he
      refine hX _ _ _ _ ?_
      unfold T_ref02_TakeNumber_2_body
      have hlt : at_ + j < b.length := by have := congrArg List.length hr; simp at this; omega
      have hd := List.drop_eq_getElem_cons hlt
      rw [← hr] at hd
      injection hd with hc hr2
      rw [show ((at_ : Int) + (j : Int)) = ((at_ + j : Nat) : Int) from by omega, wrap_nat (n := at_ + j) (by omega)]
      refine ite_d (fun _ => ite_d (fun hh => absurd hh (by omega)) (fun _ => ?_)) (fun hh => absurd hh (by omega))
      obtain ⟨ad, had, hrd⟩ := byte_at hs hm h hlt
      rw [← hc] at hrd
      have h256 := c.toNat_lt
      have hk := k w h
      rw [he] at hk
      refine ⟨by omega, by omega, ad, had, (c.toNat : Int), by rw [Int.toNat_natCast]; exact hrd, ?_⟩
      have hp : 2 ^ (7 * j) ≤ 34359738368 := Nat.le_trans (Nat.pow_le_pow_right (by decide) (by omega : 7 * j ≤ 35)) (by decide)
      have hp2 : 128 ^ j ≤ 34359738368 := by rw [pow7 j hj]; exact hp
      have hmul : c.toNat % 128 * 128 ^ j ≤ 127 * 34359738368 := Nat.mul_le_mul (by omega) hp2
      have hm1 : Int.tmod (c.toNat : Int) 128 = ((c.toNat % 128 : Nat) : Int) := by rw [Int.tmod_eq_emod_of_nonneg (by omega)]; omega
      have hsum : IntKind.wrap .i64 ((n : Int) + IntKind.wrap .i64 (((c.toNat % 128 : Nat) : Int) * ((128 ^ j : Nat) : Int))) = ((n + c.toNat % 128 * 128 ^ j : Nat) : Int) := by
        rw [show (((c.toNat % 128 : Nat) : Int) * ((128 ^ j : Nat) : Int)) = ((c.toNat % 128 * 128 ^ j : Nat) : Int) from by push_cast; rfl, wrap_nat (n := c.toNat % 128 * 128 ^ j) (by omega), show ((n : Int) + ((c.toNat % 128 * 128 ^ j : Nat) : Int)) = ((n + c.toNat % 128 * 128 ^ j : Nat) : Int) from by push_cast; rfl, wrap_nat (by omega)]
      rw [wrap_nat (n := c.toNat) (by omega), hm1, hsum]
      rw [takeGo_cons] at hk he
      refine ite_d (fun hc1 => ?_) (fun hc1 => ?_)
      · rw [if_neg (by omega)] at hk
        unfold T_ref02_TakeNumber_3
        rw [eq_dec]
        have tail : ¬ (c.toNat = 0 ∧ 0 < j) → (if decide ((((n + c.toNat % 128 * 128 ^ j : Nat) : Int)) > 1099511627776) = true then R (.returned (.tuple #[.int .i64 0, .int .i64 0, .int .i64 6])) w else
            R (.returned (.tuple #[.int .i64 ((n + c.toNat % 128 * 128 ^ j : Nat) : Int), .int .i64 (IntKind.wrap .i64 (((at_ + j : Nat) : Int) + 1)), .int .i64 0])) w) := fun hz => by
          rw [if_neg hz] at hk
          refine ite_d (fun h6 => ?_) (fun h6 => ?_)
          · rw [if_pos (by omega)] at hk
            exact hk
          · rw [if_neg (by omega)] at hk
            rw [show (((at_ + j : Nat) : Int) + 1) = ((at_ + j + 1 : Nat) : Int) from by omega, wrap_nat (n := at_ + j + 1) (by omega)]
            have e : b.length - r.length = at_ + j + 1 := by rw [hr2, List.length_drop]; omega
            simp only [tkR, e] at hk
            exact hk
        refine ite_d (fun h0 => ite_d (fun h2 => ?_) (fun h2 => tail (by omega))) (fun h0 => tail (by omega))
        rw [if_pos (by omega)] at hk
        exact hk
      · rw [if_pos (by omega)] at he
        rw [show ((128 ^ j : Nat) : Int) * 128 = ((128 ^ (j + 1) : Nat) : Int) from by rw [Nat.pow_succ]; push_cast; rfl, wrap_nat (n := 128 ^ (j + 1)) (by rw [Nat.pow_succ]; omega), show ((j : Int) + 1) = ((j + 1 : Nat) : Int) from by omega, wrap_nat (n := j + 1) (by omega)]
        by_cases h5 : j = 5
        · subst h5
          rw [if_pos rfl] at he
          exact six _ he
        · rw [if_neg h5] at he
          refine ih (j + 1) _ hr2 (by omega) ?_ (by omega) he
          rw [pow7 j hj, show 7 * (j + 1) = 7 * j + 7 from by omega, Nat.pow_add]
          have : c.toNat % 128 * 2 ^ (7 * j) ≤ 127 * 2 ^ (7 * j) := Nat.mul_le_mul_right _ (by omega)
          omega
  exact go (b.drop at_) 0 0 rfl (by omega) (by decide) (by omega) rfl
theorem takeGo_rest : ∀ (r : Cm.Bs) (j n m : Nat) (r' : Cm.Bs), Cm.takeGo j n r = .ok (m, r') → ∃ i, r' = r.drop i ∧ i ≤ r.length
  | [], _, _, _, _, h => by simp [Cm.takeGo] at h
  | c :: r, j, n, m, r', h => by
    unfold Cm.takeGo at h
    split at h
    · split at h
      · cases h
      · obtain ⟨i, h1, h2⟩ := takeGo_rest r _ _ m r' h
        exact ⟨i + 1, by simpa using h1, by simpa using h2⟩
    · split at h
      · cases h
      · split at h
        · cases h
        · injection h with h; injection h with h1 h2
          exact ⟨1, by simpa using h2.symm, by simp⟩
theorem takeGo_err : ∀ (r : Cm.Bs) (j n : Nat) (e : Int), Cm.takeGo j n r = .error e → e ≠ 0
  | [], _, _, e, h => by simp [Cm.takeGo] at h; omega
  | c :: r, j, n, e, h => by
    unfold Cm.takeGo at h
    split at h
    · split at h
      · injection h with h; omega
      · exact takeGo_err r _ _ e h
    · split at h
      · injection h with h; omega
      · split at h
        · injection h with h; omega
        · cases h

/-! ### the reader's steps -/
theorem rnum_spec {most : Nat} (hs : Src F q b) (hm : kn F ∈ L) (h : St E (rdrA 116 p q b st :: L) w)
    (k : ∀ w', St E (rdrA 116 p q b (Cm.rNum most st).2 :: L) w' → R (.returned (.int .i64 ((Cm.rNum most st).1 : Int))) w') : Calls Tryz.prog 63 #[.pointer (some ⟨p, 0, none⟩), .int .i64 (most : Int)] w R := by
  obtain ⟨a, e, ho, h0⟩ := h.rdr_open
  refine C_conf_reader_num ?_
  unfold T_conf_reader_num
  refine ⟨_, rfl, _, rd_fld h0.at_blk rfl rfl, ?_⟩
  rw [ne_dec]
  cases st with
  | error x =>
    obtain ⟨rfl, hx⟩ := ho
    exact ite_d (fun _ => k w h) fun hh => absurd hx hh
  | ok r =>
    obtain ⟨rfl, hab, rfl⟩ := ho
    refine ite_d (fun hh => absurd rfl hh) fun _ => ?_
    intro w5
    have h5 := h0.drew
    refine ⟨_, rfl, _, _, _, rd_cell h5.at_blk rfl rfl, _, rfl, _, rd_fld h5.at_blk rfl rfl, TakeNumber_spec hs (List.mem_cons_of_mem _ hm) h5 hab fun w1 h1 => ⟨_, _, _, rfl, trivial, ?_⟩⟩
    unfold T_conf_reader_num_1 T_conf_reader_num_2
    cases ht : Cm.takeGo 0 0 (b.drop a) with
    | error x =>
      have hx := takeGo_err _ _ _ _ ht
      have hk := k
      simp only [Cm.rNum, ht] at hk
      simp only [tkR, eq_dec, ne_dec]
      refine ite_d (fun hh => absurd hh hx) fun _ => ite_b (fun hh => by cases hh) fun _ => ite_d (fun _ => ⟨_, rfl, rfl, wrOk_fld h1.at_blk (by simp [rdrL]) rfl, hk _ (St.rdr_mk (at_ := a) (e := x) (h1.wr_fld (k := 2) (v := .int .i64 x) rfl) ⟨rfl, hx⟩)⟩) fun hh => absurd hx hh
    | ok nr =>
      obtain ⟨n, r'⟩ := nr
      obtain ⟨i, hi1, hi2⟩ := takeGo_rest _ _ _ _ _ ht
      have hk := k
      simp only [Cm.rNum, ht] at hk
      simp only [tkR, eq_dec, ne_dec]
      refine ite_d (fun _ => ite_d (fun hgt => ite_d (fun _ => ?_) fun hh => absurd (by decide) hh) fun hle => ite_d (fun hh => absurd (by trivial) hh) fun _ => ?_) fun hh => absurd (by trivial) hh
      · rw [if_pos (by omega)] at hk
        exact ⟨_, rfl, rfl, wrOk_fld h1.at_blk (by simp [rdrL]) rfl, hk _ (St.rdr_mk (at_ := a) (e := 6) (h1.wr_fld (k := 2) (v := .int .i64 6) rfl) ⟨rfl, by decide⟩)⟩
      · rw [if_neg (by omega)] at hk
        have hl : b.length - r'.length = a + i := by rw [hi1]; simp only [List.length_drop] at hi2 ⊢; omega
        rw [hl]
        exact ⟨_, rfl, rfl, wrOk_fld h1.at_blk (by simp [rdrL]) rfl, hk _ (St.rdr_mk (at_ := a + i) (e := 0) (h1.wr_fld (k := 1) (v := .int .i64 ((a + i : Nat) : Int)) rfl) ⟨rfl, by simp only [List.length_drop] at hi2; omega, by rw [hi1, List.drop_drop]⟩)⟩
theorem Rscan_num_spec {most : Nat} (hs : Src F q b) (hm : kn F ∈ L) (h : St E (rdrA 123 p q b st :: L) w)
    (k : ∀ w', St E (rdrA 123 p q b (Cm.rNum most st).2 :: L) w' → R (.returned (.int .i64 ((Cm.rNum most st).1 : Int))) w') : Calls Tryz.prog 68 #[.pointer (some ⟨p, 0, none⟩), .int .i64 (most : Int)] w R := by
  obtain ⟨a, e, ho, h0⟩ := h.rdr_open
  refine C_ref08_scan_num ?_
  unfold T_ref08_scan_num
  refine ⟨_, rfl, _, rd_fld h0.at_blk rfl rfl, ?_⟩
  rw [ne_dec]
  cases st with
  | error x =>
    obtain ⟨rfl, hx⟩ := ho
    exact ite_d (fun _ => k w h) fun hh => absurd hx hh
  | ok r =>
    obtain ⟨rfl, hab, rfl⟩ := ho
    refine ite_d (fun hh => absurd rfl hh) fun _ => ?_
    intro w5
    have h5 := h0.drew
    refine ⟨_, rfl, _, _, _, rd_cell h5.at_blk rfl rfl, _, rfl, _, rd_fld h5.at_blk rfl rfl, RTakeNumber_spec hs (List.mem_cons_of_mem _ hm) h5 hab fun w1 h1 => ⟨_, _, _, rfl, trivial, ?_⟩⟩
    cases ht : Cm.takeGo 0 0 (b.drop a) with
    | error x =>
      have hx := takeGo_err _ _ _ _ ht
      have hk := k
      simp only [Cm.rNum, ht] at hk
      simp only [tkR, ne_dec]
      exact ite_d (fun _ => ⟨_, rfl, rfl, wrOk_fld h1.at_blk (by simp [rdrL]) rfl, hk _ (St.rdr_mk (at_ := a) (e := x) (h1.wr_fld (k := 2) (v := .int .i64 x) rfl) ⟨rfl, hx⟩)⟩) fun hh => absurd hx hh
    | ok nr =>
      obtain ⟨n, r'⟩ := nr
      obtain ⟨i, hi1, hi2⟩ := takeGo_rest _ _ _ _ _ ht
      have hk := k
      simp only [Cm.rNum, ht] at hk
      simp only [tkR, ne_dec]
      refine ite_d (fun hh => absurd rfl hh) fun _ => ite_d (fun hgt => ?_) fun hle => ?_
      · rw [if_pos (by omega)] at hk
        exact ⟨_, rfl, rfl, wrOk_fld h1.at_blk (by simp [rdrL]) rfl, hk _ (St.rdr_mk (at_ := a) (e := 6) (h1.wr_fld (k := 2) (v := .int .i64 6) rfl) ⟨rfl, by decide⟩)⟩
      · rw [if_neg (by omega)] at hk
        have hl : b.length - r'.length = a + i := by rw [hi1]; simp only [List.length_drop] at hi2 ⊢; omega
        rw [hl]
        exact ⟨_, rfl, rfl, wrOk_fld h1.at_blk (by simp [rdrL]) rfl, hk _ (St.rdr_mk (at_ := a + i) (e := 0) (h1.wr_fld (k := 1) (v := .int .i64 ((a + i : Nat) : Int)) rfl) ⟨rfl, by simp only [List.length_drop] at hi2; omega, by rw [hi1, List.drop_drop]⟩)⟩
theorem Src.cut (hs : Src F q b) {a n : Nat} (h : a + n ≤ b.length) : RdF F (if q.2.2 = a then q.1 else q.1.map fun x => x.add (a * 1)) (a + n - a) 1 (bytesV ((b.drop a).take n)) := by
  have hlen := hs.len
  have hcap := hs.cap
  have := hs.rd.sub (lo := a) (hi := a + n) (by omega) (by omega) q.2.2 (by omega)
  refine Eq.mp ?_ this
  congr 1
  simp only [bytesV, List.map_take, List.map_drop, Nat.mul_one]
  congr 1; omega
theorem take_spec {n : Nat} (hn : n ≤ 1000000000) (hs : Src F q b) (hm : kn F ∈ L) (h : St E (rdrA 116 p q b st :: L) w)
    (k : ∀ w' (s : Sl), St E (rdrA 116 p q b (Cm.rRow n st).2 :: L) w' → RdF F s.1 s.2.1 1 (bytesV (Cm.rRow n st).1) → R (.returned (.slice s.1 s.2.1 s.2.2)) w') : Calls Tryz.prog 102 #[.pointer (some ⟨p, 0, none⟩), .int .i64 (n : Int)] w R := by
  have hlen := hs.len
  have hcap := hs.cap
  have hbig := hs.big
  obtain ⟨a, e, ho, h0⟩ := h.rdr_open
  refine C_conf_reader_take ?_
  unfold T_conf_reader_take T_conf_reader_take_1
  intro w5
  have h5 := h0.drew
  refine ⟨_, rfl, _, rd_fld h5.at_blk rfl rfl, ?_⟩
  rw [eq_dec]
  cases st with
  | error x =>
    obtain ⟨rfl, hx⟩ := ho
    refine ite_d (fun hh => absurd hh hx) fun _ => ?_
    unfold T_conf_reader_take_2
    refine ite_b (fun hh => by cases hh) fun _ => ⟨_, rfl, _, rd_fld h5.at_blk rfl rfl, ?_⟩
    rw [ne_dec]
    exact ite_d (fun _ => k w5 (none, 0, 0) (St.rdr_mk h5 ⟨rfl, hx⟩) (RdF.nil F none)) fun hh => absurd hx hh
  | ok r =>
    obtain ⟨rfl, hab, rfl⟩ := ho
    refine ite_d (fun _ => ⟨_, rfl, _, _, _, rd_cell h5.at_blk rfl rfl, _, rfl, _, rd_fld h5.at_blk rfl rfl, ?_⟩) fun hh => absurd rfl hh
    rw [show ((q.2.1 : Int) - (a : Int)) = ((q.2.1 - a : Nat) : Int) from by omega, wrap_nat (n := q.2.1 - a) (by omega)]
    unfold T_conf_reader_take_2
    simp only [Cm.rRow, List.length_drop] at k
    refine ite_d (fun hlt => ?_) fun hge => ?_
    · rw [if_pos (by omega)] at k
      refine ⟨_, rfl, rfl, wrOk_fld h5.at_blk (by simp [rdrL]) rfl, ?_⟩
      intro w20
      have h20 : St E (blkL p 116 (rdrL q a 3) :: L) w20 := h5.wr_fld (k := 2) (v := .int .i64 3) rfl
      exact ⟨_, rfl, _, rd_fld h20.at_blk rfl rfl, k w20 (none, 0, 0) (St.rdr_mk h20 ⟨rfl, by decide⟩) (RdF.nil F none)⟩
    · rw [if_neg (by omega)] at k
      refine ⟨_, rfl, _, rd_fld h5.at_blk rfl rfl, ?_⟩
      rw [ne_dec]
      refine ite_d (fun hh => absurd rfl hh) fun _ => ⟨_, rfl, _, rd_fld h5.at_blk rfl rfl, _, rfl, rfl, wrOk_fld h5.at_blk (by simp [rdrL]) rfl, ?_⟩
      rw [show ((a : Int) + (n : Int)) = ((a + n : Nat) : Int) from by omega, wrap_nat (n := a + n) (by omega)]
      intro w27 w28
      have h28 : St E (blkL p 116 (rdrL q (a + n) 0) :: L) w28 := (h5.wr_fld (k := 1) (v := .int .i64 ((a + n : Nat) : Int)) rfl).drew
      refine ⟨_, rfl, _, _, _, rd_cell h28.at_blk rfl rfl, _, rfl, _, rd_fld h28.at_blk rfl rfl, _, rfl, _, rd_fld h28.at_blk rfl rfl, by omega, by omega, ?_⟩
      rw [show (((a + n : Nat) : Int) - (n : Int)) = (a : Int) from by omega, wrap_nat (n := a) (by omega), Int.toNat_natCast, Int.toNat_natCast]
      exact ⟨by omega, by omega, k w28 (_, _, _) (St.rdr_mk h28 ⟨rfl, by omega, by rw [List.drop_drop]⟩) (hs.cut (by omega))⟩
theorem Rrow_spec {n : Nat} (hn : n ≤ 1000000000) (hs : Src F q b) (hm : kn F ∈ L) (h : St E (rdrA 123 p q b st :: L) w)
    (k : ∀ w' (s : Sl), St E (rdrA 123 p q b (Cm.rRow n st).2 :: L) w' → RdF F s.1 s.2.1 1 (bytesV (Cm.rRow n st).1) → R (.returned (.slice s.1 s.2.1 s.2.2)) w') : Calls Tryz.prog 105 #[.pointer (some ⟨p, 0, none⟩), .int .i64 (n : Int)] w R := by
  have hlen := hs.len
  have hcap := hs.cap
  have hbig := hs.big
  obtain ⟨a, e, ho, h0⟩ := h.rdr_open
  refine C_ref08_scan_row ?_
  unfold T_ref08_scan_row
  refine ⟨_, rfl, _, rd_fld h0.at_blk rfl rfl, ?_⟩
  rw [ne_dec]
  cases st with
  | error x =>
    obtain ⟨rfl, hx⟩ := ho
    exact ite_d (fun _ => k w (none, 0, 0) h (RdF.nil F none)) fun hh => absurd hx hh
  | ok r =>
    obtain ⟨rfl, hab, rfl⟩ := ho
    refine ite_d (fun hh => absurd rfl hh) fun _ => ?_
    intro w5
    have h5 := h0.drew
    refine ⟨_, rfl, _, _, _, rd_cell h5.at_blk rfl rfl, _, rfl, _, rd_fld h5.at_blk rfl rfl, ?_⟩
    rw [show ((q.2.1 : Int) - (a : Int)) = ((q.2.1 - a : Nat) : Int) from by omega, wrap_nat (n := q.2.1 - a) (by omega)]
    simp only [Cm.rRow, List.length_drop] at k
    refine ite_d (fun hlt => ?_) fun hge => ?_
    · rw [if_pos (by omega)] at k
      refine ⟨_, rfl, rfl, wrOk_fld h5.at_blk (by simp [rdrL]) rfl, ?_⟩
      intro w20
      have h20 : St E (blkL p 123 (rdrL q a 3) :: L) w20 := h5.wr_fld (k := 2) (v := .int .i64 3) rfl
      exact k w20 (none, 0, 0) (St.rdr_mk h20 ⟨rfl, by decide⟩) (RdF.nil F none)
    · rw [if_neg (by omega)] at k
      intro w12
      have h12 := h5.drew
      refine ⟨_, rfl, _, _, _, rd_cell h12.at_blk rfl rfl, _, rfl, _, rd_fld h12.at_blk rfl rfl, _, rfl, _, rd_fld h12.at_blk rfl rfl, ?_⟩
      rw [show ((a : Int) + (n : Int)) = ((a + n : Nat) : Int) from by omega, wrap_nat (n := a + n) (by omega)]
      simp only [Int.toNat_natCast]
      refine ⟨by omega, by omega, by omega, by omega, _, rfl, _, rd_fld h12.at_blk rfl rfl, _, rfl, rfl, wrOk_fld h12.at_blk (by simp [rdrL]) rfl, ?_⟩
      have h28 : St E (blkL p 123 (rdrL q (a + n) 0) :: L) (wr w12 ((⟨p, 0, none⟩ : Addr).add 1) (.int .i64 ((a + n : Nat) : Int))) := h12.wr_fld (k := 1) (v := .int .i64 ((a + n : Nat) : Int)) rfl
      rw [show ((a : Int) + (n : Int)) = ((a + n : Nat) : Int) from by omega, wrap_nat (n := a + n) (by omega)]
      exact k _ (_, _, _) (St.rdr_mk h28 ⟨rfl, by omega, by rw [List.drop_drop]⟩) (hs.cut (by omega))
theorem rNum_le (most : Nat) (st : Cm.Ps) : (Cm.rNum most st).1 ≤ most := by
  cases st with
  | error e => simp [Cm.rNum]
  | ok r =>
    simp only [Cm.rNum]
    split
    · simp
    · split
      · simp
      · simp only; omega
theorem rtext_spec (hs : Src F q b) (hm : kn F ∈ L) (h : St E (rdrA 116 p q b st :: L) w)
    (k : ∀ w', St E (rdrA 116 p q b (Cm.rText st).2 :: L) w' → R (.returned (.string (bs (Cm.rText st).1))) w') : Calls Tryz.prog 64 #[.pointer (some ⟨p, 0, none⟩)] w R := by
  refine C_conf_reader_text ?_
  unfold T_conf_reader_text
  refine rnum_spec (most := 128) hs hm h fun w1 h1 => ⟨_, rfl, take_spec (by have := rNum_le 128 st; omega) hs hm h1 fun w2 s h2 hr => ⟨_, _, _, rfl, ?_⟩⟩
  exact runV_ok (convert_string (e := 5) (by kernel_rfl) (by kernel_rfl) (by kernel_rfl) (hr.at h2 (List.mem_cons_of_mem _ hm))) ⟨_, rfl, k w2 h2⟩
theorem Rscan_text_spec (hs : Src F q b) (hm : kn F ∈ L) (h : St E (rdrA 123 p q b st :: L) w)
    (k : ∀ w', St E (rdrA 123 p q b (Cm.rText st).2 :: L) w' → R (.returned (.string (bs (Cm.rText st).1))) w') : Calls Tryz.prog 69 #[.pointer (some ⟨p, 0, none⟩)] w R := by
  refine C_ref08_scan_text ?_
  unfold T_ref08_scan_text
  refine Rscan_num_spec (most := 128) hs hm h fun w1 h1 => ⟨_, rfl, Rrow_spec (by have := rNum_le 128 st; omega) hs hm h1 fun w2 s h2 hr => ⟨_, _, _, rfl, ?_⟩⟩
  exact runV_ok (convert_string (e := 5) (by kernel_rfl) (by kernel_rfl) (by kernel_rfl) (hr.at h2 (List.mem_cons_of_mem _ hm))) ⟨_, rfl, k w2 h2⟩
/-! ### weights -/
theorem bits_pre (l : Cm.Bs) (_hl : l.length ≤ 8) : ∀ j, j ≤ l.length → Cm.bits (l.take j) < 256 ^ j := by
  intro j
  induction j with
  | zero => intro _; simp [Cm.bits]
  | succ j ih =>
    intro hj
    rw [List.take_succ_eq_append_getElem (by omega)]
    have := ih (by omega)
    have hlt := (l[j]'(by omega)).toNat_lt
    simp only [Cm.bits, List.foldl_append, List.foldl_cons, List.foldl_nil] at this ⊢
    rw [Nat.pow_succ]; omega
theorem wrap_u64 {n : Nat} (h : n < 18446744073709551616) : IntKind.wrap .u64 (n : Int) = n := by
  unfold IntKind.wrap
  simp [IntKind.signed, IntKind.bits]
  omega
theorem or8 (a : Nat) (c : Nat) (hc : c < 256) (h : a * 256 + c < 18446744073709551616) :
    IntKind.wrap .u64 ((BitVec.ofInt (IntKind.bits .u64) (IntKind.wrap .u64 ((a : Int) * 2 ^ 8))) ||| (BitVec.ofInt (IntKind.bits .u64) (IntKind.wrap .u64 (c : Int)))).toNat = ((a * 256 + c : Nat) : Int) := by
  rw [show ((a : Int) * 2 ^ 8) = ((a * 256 : Nat) : Int) from by push_cast; rfl, wrap_u64 (n := a * 256) (by omega), wrap_u64 (n := c) (by omega)]
  have e : ((BitVec.ofInt (IntKind.bits .u64) ((a * 256 : Nat) : Int)) ||| (BitVec.ofInt (IntKind.bits .u64) (c : Int))).toNat = a * 256 + c := by
    show ((BitVec.ofInt 64 ((a * 256 : Nat) : Int)) ||| (BitVec.ofInt 64 (c : Int))).toNat = _
    rw [BitVec.toNat_or, ofInt_nat _ (by omega), ofInt_nat _ (by omega), show a * 256 = 2 ^ 8 * a from by omega, ← Nat.two_pow_add_eq_or_of_lt (by omega)]
  rw [e, wrap_u64 h]
theorem rRow_len (n : Nat) (st : Cm.Ps) : (Cm.rRow n st).1.length ≤ n := by
  cases st with
  | error e => simp [Cm.rRow]
  | ok r => simp only [Cm.rRow]; split <;> simp; omega
theorem row_at {s : Sl} {l : Cm.Bs} (hr : RdF F s.1 s.2.1 1 (bytesV l)) (hm : kn F ∈ L) (h : St E L w) {i : Nat} (hi : i < l.length) : ∃ ad, s.1 = some ad ∧ rd w (ad.add (i * 1)) (.int .u8 (l[i].toNat : Int)) := by
  have hr' := hr.at h hm
  have hl : l.length = s.2.1 := by have := hr'.1; rw [bytesV_len] at this; omega
  obtain ⟨ad, ha, _, hc⟩ := hr'.cells (by omega)
  refine ⟨ad, ha, ?_⟩
  rw [Nat.mul_one]
  exact hr'.rd_cell ha (by omega) (v := .int .u8 (l[i].toNat : Int)) (by simp [bytesV, hi]) rfl
theorem row_len {s : Sl} {l : Cm.Bs} (hr : RdF F s.1 s.2.1 1 (bytesV l)) (hm : kn F ∈ L) (h : St E L w) : l.length = s.2.1 := by have := (hr.at h hm).1; rw [bytesV_len] at this; omega
theorem bits_next (l : Cm.Bs) (j : Nat) (hj : j < l.length) : Cm.bits (l.take (j + 1)) = Cm.bits (l.take j) * 256 + l[j].toNat := by
  rw [List.take_succ_eq_append_getElem hj]; simp only [Cm.bits, List.foldl_append, List.foldl_cons, List.foldl_nil]
theorem bits_small (l : Cm.Bs) (hl : l.length ≤ 8) (j : Nat) (hj : j ≤ l.length) : Cm.bits (l.take j) < 18446744073709551616 :=
  Nat.lt_of_lt_of_le (bits_pre l hl j hj) (Nat.le_trans (Nat.pow_le_pow_right (by decide) (by omega : j ≤ 8)) (by decide))
theorem rfloat_spec (hs : Src F q b) (hm : kn F ∈ L) (h : St E (rdrA 116 p q b st :: L) w)
    (k : ∀ w', St E (rdrA 116 p q b (Cm.rRow 8 st).2 :: L) w' → R (.returned (.float .f64 (Cm.bits (Cm.rRow 8 st).1))) w') : Calls Tryz.prog 103 #[.pointer (some ⟨p, 0, none⟩)] w R := by
  refine C_conf_reader_float ?_
  unfold T_conf_reader_float
  refine take_spec (n := 8) (by omega) hs hm h fun w1 s h1 hr => ⟨_, _, _, rfl, ?_⟩
  have hl8 := rRow_len 8 st
  have hm1 := List.mem_cons_of_mem (rdrA 116 p q b (Cm.rRow 8 st).2) hm
  have hln := row_len hr hm1 h1
  unfold T_conf_reader_float_1
  intro X hX
  refine up_to (Cm.rRow 8 st).1.length (Q := fun j => X ((Cm.bits ((Cm.rRow 8 st).1.take j) : Nat) : Int) (j : Int) w1) ?_
  intro j hj ih
  refine hX _ _ _ ?_
  unfold T_conf_reader_float_1_body
  rw [← hln]
  refine ite_d (fun hc => ?_) fun hc => ?_
  · have hjl : j < (Cm.rRow 8 st).1.length := by omega
    obtain ⟨ad, ha, hrd⟩ := row_at hr hm1 h1 hjl
    refine ⟨by omega, by omega, ad, ha, _, by rw [Int.toNat_natCast]; exact hrd, ?_⟩
    have e := bits_next (Cm.rRow 8 st).1 j hjl
    rw [or8 _ _ (UInt8.toNat_lt _) (by rw [← e]; exact bits_small _ hl8 _ (by omega)), ← e, succ_big (by unfold big; omega)]
    exact ih hjl
  · rw [List.take_of_length_le (by omega)]
    refine runV_ok run_ffrom ⟨_, rfl, ?_⟩
    rw [Int.toNat_natCast]
    exact k w1 h1

/-! ### targets -/
def tgA (s : Sl) (l : List Cm.Tgt) : Asrt := ownS s.1 s.2.1 s.2.2 64 2 (l.flatMap tV)
theorem app_t {s : Sl} {a2 : Option Addr} {l2 c2 : Nat} {xs ys : List Cm.Tgt} (h : St E (tgA s xs :: L) w) (hro : RdS w a2 l2 2 (ys.flatMap tV)) (hb : xs.length + ys.length ≤ 1000000) :
    ∃ (s' : Sl) (w' : World), (Builtin.append_ #[32, 32] 32 #[.slice s.1 s.2.1 s.2.2, .slice a2 l2 c2]).run Tryz.prog w = .ok (.slice s'.1 s'.2.1 s'.2.2) w' ∧ St E (tgA s' (xs ++ ys) :: L) w' := by
  have hl : xs.length = s.2.1 := h.rdS_own.count tV_len (by decide)
  have hl2 : ys.length = l2 := hro.count tV_len (by decide)
  obtain ⟨a', c', w', hr, hs⟩ := append_own (P := Tryz.prog) (t := 32) (ty := 32) (e := 64) (i := Tryz.t64) (z := .agg #[.string (ByteArray.mk #[]), .float .f64 0]) (by kernel_rfl) (by kernel_rfl) (by kernel_rfl) (by kernel_rfl) (by decide) (c2 := c2) h hro (tV_one ys)
    (by have : Tryz.t64.bytes = 24 := by kernel_rfl
        rw [this]; omega) (by unfold maxLen; omega)
  rw [show Tryz.t64.size = 2 from by kernel_rfl, ← List.flatMap_append] at hs
  exact ⟨(a', s.2.1 + l2, c'), w', hr, hs⟩
theorem app_t1 {s : Sl} {xs : List Cm.Tgt} {t : Cm.Tgt} (h : St E (tgA s xs :: L) w) (hb : xs.length + 1 ≤ 1000000) :
    ∃ (s' : Sl) (w' : World), (Builtin.append_ #[32, 32] 32 #[.slice s.1 s.2.1 s.2.2, .slice (some ⟨w.heap.size, 0, none⟩) 1 1]).run Tryz.prog (w.alloc (.cells #[.string (bs t.addr), .float .f64 t.w] 64)) = .ok (.slice s'.1 s'.2.1 s'.2.2) w' ∧ St E (tgA s' (xs ++ [t]) :: L) w' := by
  have h2 : St E (tgA (some ⟨w.heap.size, 0, none⟩, 1, 1) [t] :: tgA s xs :: L) (w.alloc (.cells #[.string (bs t.addr), .float .f64 t.w] 64)) :=
    (St.ownS_mk (xs := [t].flatMap tV) (rest := []) (l := 1) (c := 1) (sz := 2) (h.alloc _) rfl (Nat.le_refl _) (by decide) rfl :)
  obtain ⟨s', w', hr, hs⟩ := app_t (c2 := 1) h2.f1 (St.rdS_own h2) (by simpa using hb)
  exact ⟨s', w', hr, hs.f1.drop⟩
theorem rMany_bad {α : Type} (f : Cm.Ps → α × Cm.Ps) (n : Nat) {s : Cm.Ps} (h : Cm.bad s = true) : Cm.rMany f n s = ([], s) := by
  cases n with
  | zero => rfl
  | succ n => simp [Cm.rMany, h]
theorem rdrOk_bad {at_ : Nat} {e : Int} (h : rdrOk b at_ e st) : decide (e = 0) = !Cm.bad st := by
  cases st with
  | ok r => simp [Cm.bad, h.1]
  | error x => simp [Cm.bad, h.1, h.2]
theorem rtargets_spec (hs : Src F q b) (hm : kn F ∈ L) (h : St E (rdrA 116 p q b st :: L) w)
    (k : ∀ w' (s : Sl), St E (tgA s (Cm.rTgs st).1 :: rdrA 116 p q b (Cm.rTgs st).2 :: L) w' → R (.returned (.slice s.1 s.2.1 s.2.2)) w') : Calls Tryz.prog 65 #[.pointer (some ⟨p, 0, none⟩)] w R := by
  refine C_conf_reader_targets ?_
  unfold T_conf_reader_targets
  refine rnum_spec (most := 16) hs hm h fun w1 h1 => ⟨_, rfl, ?_⟩
  have hle := rNum_le 16 st
  unfold T_conf_reader_targets_1
  intro X hX
  have go : ∀ (n : Nat) (s : Sl) (xs : List Cm.Tgt) (st2 : Cm.Ps) (w : World), xs.length + n ≤ 16 → St E (tgA s xs :: rdrA 116 p q b st2 :: L) w → Cm.rTgs st = (xs ++ (Cm.rMany Cm.rTgt n st2).1, (Cm.rMany Cm.rTgt n st2).2) → X s.1 s.2.1 s.2.2 (n : Int) w := by
    intro n
    induction n with
    | zero =>
      intro s xs st2 w hn h he
      refine hX _ _ _ _ _ ?_
      unfold T_conf_reader_targets_1_body T_conf_reader_targets_2
      refine ite_d (fun hh => absurd hh (by decide)) fun _ => ite_b (fun hh => by cases hh) fun _ => ?_
      have := k w s
      rw [he] at this
      simp only [Cm.rMany, List.append_nil] at this
      exact this h
    | succ n ih =>
      intro s xs st2 w hn h he
      refine hX _ _ _ _ _ ?_
      unfold T_conf_reader_targets_1_body T_conf_reader_targets_2
      obtain ⟨a, e, ho, h0⟩ := h.f1.rdr_open
      refine ite_d (fun _ => ⟨_, rfl, _, rd_fld h0.at_blk rfl rfl, ?_⟩) fun hh => absurd (by omega) hh
      rw [eq_dec, rdrOk_bad ho]
      refine ite_n (fun hb => ?_) fun hb => ?_
      · refine rtext_spec hs (List.mem_cons_of_mem _ hm) h.f1 fun w2 h2 => ⟨_, rfl, rfloat_spec hs (List.mem_cons_of_mem _ hm) h2 fun w3 h3 => ⟨_, rfl, ?_⟩⟩
        intro w23
        obtain ⟨s', w', hr, hs'⟩ := app_t1 (t := (Cm.rTgt st2).1) h3.f1 (by omega)
        refine runV_ok hr ⟨_, _, _, rfl, ?_⟩
        rw [wrap_id (by omega) (by omega), show ((n + 1 : Nat) : Int) - 1 = (n : Int) from by omega]
        refine ih s' _ (Cm.rTgt st2).2 w' (by simp; omega) hs' ?_
        rw [he]
        simp only [Cm.rMany, hb, Bool.false_eq_true, if_false, List.append_assoc, List.cons_append, List.nil_append]
      · have := k w s
        rw [he, rMany_bad _ _ hb, List.append_nil] at this
        exact this h
  exact go _ (none, 0, 0) [] _ w1 (by simp; omega) (St.ownS_nil h1) rfl
theorem Rscan_targets_spec (hs : Src F q b) (hm : kn F ∈ L) (h : St E (rdrA 123 p q b st :: L) w)
    (k : ∀ w' (s : Sl), St E (tgA s (Cm.rTgs st).1 :: rdrA 123 p q b (Cm.rTgs st).2 :: L) w' → R (.returned (.slice s.1 s.2.1 s.2.2)) w') : Calls Tryz.prog 70 #[.pointer (some ⟨p, 0, none⟩)] w R := by
  refine C_ref08_scan_targets ?_
  unfold T_ref08_scan_targets
  intro w2
  have h2 : St E (tgA (some ⟨w.heap.size, 0, none⟩, 0, 0) [] :: rdrA 123 p q b st :: L) w2 := (h.alloc _).ownS_mk (rest := []) rfl (Nat.le_refl _) (Nat.zero_le _) rfl
  refine Rscan_num_spec (most := 16) hs (List.mem_cons_of_mem _ hm) h2.f1 fun w1 h1 => ⟨_, rfl, ?_⟩
  have hle := rNum_le 16 st
  unfold T_ref08_scan_targets_1
  intro X hX
  have go : ∀ (n : Nat) (s : Sl) (xs : List Cm.Tgt) (st2 : Cm.Ps) (w : World), xs.length + n = (Cm.rNum 16 st).1 → St E (tgA s xs :: rdrA 123 p q b st2 :: L) w → Cm.rTgs st = (xs ++ (Cm.rMany Cm.rTgt n st2).1, (Cm.rMany Cm.rTgt n st2).2) → X s.1 s.2.1 s.2.2 (xs.length : Int) w := by
    intro n
    induction n with
    | zero =>
      intro s xs st2 w hn h he
      refine hX _ _ _ _ _ ?_
      unfold T_ref08_scan_targets_1_body T_ref08_scan_targets_2
      refine ite_d (fun hh => absurd hh (by omega)) fun _ => ite_b (fun hh => by cases hh) fun _ => ?_
      have := k w s
      rw [he] at this
      simp only [Cm.rMany, List.append_nil] at this
      exact this h
    | succ n ih =>
      intro s xs st2 w hn h he
      refine hX _ _ _ _ _ ?_
      unfold T_ref08_scan_targets_1_body T_ref08_scan_targets_2
      obtain ⟨a, e, ho, h0⟩ := h.f1.rdr_open
      refine ite_d (fun _ => ⟨_, rfl, _, rd_fld h0.at_blk rfl rfl, ?_⟩) fun hh => absurd (by omega) hh
      rw [eq_dec, rdrOk_bad ho]
      refine ite_n (fun hb => ?_) fun hb => ?_
      · refine Rscan_text_spec hs (List.mem_cons_of_mem _ hm) h.f1 fun w2 h2 => ⟨_, rfl, Rrow_spec (n := 8) (by omega) hs (List.mem_cons_of_mem _ hm) h2 fun w3 s3 h3 hr => ⟨_, _, _, rfl, ?_⟩⟩
        have hl8 := rRow_len 8 (Cm.rText st2).2
        have hm1 := List.mem_cons_of_mem (rdrA 123 p q b (Cm.rRow 8 (Cm.rText st2).2).2) (List.mem_cons_of_mem (tgA s xs) hm)
        have hln := row_len hr hm1 h3
        unfold T_ref08_scan_targets_3
        intro Y hY
        refine up_to (Cm.rRow 8 (Cm.rText st2).2).1.length (Q := fun j => Y ((Cm.bits ((Cm.rRow 8 (Cm.rText st2).2).1.take j) : Nat) : Int) (j : Int) w3) ?_
        intro j hj ihj
        refine hY _ _ _ ?_
        unfold T_ref08_scan_targets_3_body
        rw [← hln]
        refine ite_d (fun hc => ?_) fun hc => ?_
        · have hjl : j < (Cm.rRow 8 (Cm.rText st2).2).1.length := by omega
          obtain ⟨ad, ha, hrd⟩ := row_at hr hm1 h3 hjl
          refine ⟨by omega, by omega, ad, ha, _, by rw [Int.toNat_natCast]; exact hrd, ?_⟩
          have e := bits_next (Cm.rRow 8 (Cm.rText st2).2).1 j hjl
          have hb1 := bits_small (Cm.rRow 8 (Cm.rText st2).2).1 hl8 (j + 1) (by omega)
          have h256 := ((Cm.rRow 8 (Cm.rText st2).2).1[j]).toNat_lt
          rw [e] at hb1
          rw [show ((Cm.bits ((Cm.rRow 8 (Cm.rText st2).2).1.take j) : Nat) : Int) * 256 = ((Cm.bits ((Cm.rRow 8 (Cm.rText st2).2).1.take j) * 256 : Nat) : Int) from by push_cast; rfl, wrap_u64 (n := Cm.bits ((Cm.rRow 8 (Cm.rText st2).2).1.take j) * 256) (by omega), wrap_u64 (n := ((Cm.rRow 8 (Cm.rText st2).2).1[j]).toNat) (by omega),
            show ((Cm.bits ((Cm.rRow 8 (Cm.rText st2).2).1.take j) * 256 : Nat) : Int) + ((((Cm.rRow 8 (Cm.rText st2).2).1[j]).toNat : Nat) : Int) = ((Cm.bits ((Cm.rRow 8 (Cm.rText st2).2).1.take j) * 256 + ((Cm.rRow 8 (Cm.rText st2).2).1[j]).toNat : Nat) : Int) from by push_cast; rfl, wrap_u64 hb1, ← e, succ_big (by unfold big; omega)]
          exact ihj hjl
        · rw [List.take_of_length_le (by omega)]
          refine runV_ok run_ffrom ⟨_, rfl, ?_⟩
          rw [Int.toNat_natCast]
          intro w23
          obtain ⟨s', w', hr', hs'⟩ := app_t1 (t := (Cm.rTgt st2).1) h3.f1 (by omega)
          refine runV_ok hr' ⟨_, _, _, rfl, ?_⟩
          rw [succ_big (by unfold big; omega)]
          have := ih s' (xs ++ [(Cm.rTgt st2).1]) (Cm.rTgt st2).2 w' (by simp; omega) hs' (by
            rw [he]
            simp only [Cm.rMany, hb, Bool.false_eq_true, if_false, List.append_assoc, List.cons_append, List.nil_append])
          simpa using this
      · have := k w s
        rw [he, rMany_bad _ _ hb, List.append_nil] at this
        exact this h
  exact go _ (some ⟨w.heap.size, 0, none⟩, 0, 0) [] _ w1 (by simp) h1.f1 rfl
end
end Go.Vc
