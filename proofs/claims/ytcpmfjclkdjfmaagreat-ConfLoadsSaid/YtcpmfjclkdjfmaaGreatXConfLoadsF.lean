/-
  Texts of this claim's own, laid into one: ConfP, ConfG, Ge, ConfJj, ConfKk, ConfLl, ConfMm, ConfNn, Gf, ConfQq, GDoes, ConfEe, ConfGg, GSaves, ConfOo, ConfPp, GReads, ConfV, GLoads.
-/
import Derived.Test.YtcpmfjclkdjfmaaGreatProg
import Derived.KernelRfl
import Derived.Test.YtcpmfjclkdjfmaaGreatXConfLoadsA
import Derived.Test.YtcpmfjclkdjfmaaGreatXConfLoadsB
import Derived.Test.YtcpmfjclkdjfmaaGreatXConfLoadsC
import Derived.Test.YtcpmfjclkdjfmaaGreatXConfLoadsD
import Derived.Test.YtcpmfjclkdjfmaaGreatXConfLoadsE
set_option linter.all false
/-
  Bytes that are gone through: the program's reader and the document's scan.
-/
namespace Go.Vc
open Go Go.Proofs Go.Proofs.YtcpmfjclkdjfmaaGreat
set_option maxRecDepth 100000

/-- Bytes that are read from, known for good. -/
structure Src (F : Fz) (q : Sl) (b : Cm.Bs) : Prop where
  rd : RdF F q.1 q.2.1 1 (bytesV b)
  len : b.length = q.2.1
  cap : q.2.1 ≤ q.2.2
  big : b.length ≤ 9223372036854775807
theorem Src.mono {F G : Fz} {q : Sl} {b : Cm.Bs} (h : Src F q b) (k : Fz.le F G) : Src G q b := ⟨h.rd.mono k, h.len, h.cap, h.big⟩
/-- The number that stands at a place, as the functions tell it. -/
def tkR (n0 : Nat) (x : Except Int (Nat × Cm.Bs)) : Int × Int × Int := match x with
  | .error e => (0, 0, e)
  | .ok (n, r) => (n, (n0 - r.length : Nat), 0)
def rdrL (q : Sl) (at_ : Nat) (e : Int) : List Value := [.slice q.1 q.2.1 q.2.2, .int .i64 (at_ : Int), .int .i64 e]
def rdrOk (b : Cm.Bs) (at_ : Nat) (e : Int) : Cm.Ps → Prop
  | .ok r => e = 0 ∧ at_ ≤ b.length ∧ r = b.drop at_
  | .error x => e = x ∧ x ≠ 0
def rdrA (ty p : Nat) (q : Sl) (b : Cm.Bs) (st : Cm.Ps) : Asrt := fun h => ∃ (at_ : Nat) (e : Int), rdrOk b at_ e st ∧ blkL p ty (rdrL q at_ e) h

section
variable {E w : World} {L : List Asrt} {R : Ending → World → Prop} {F : Fz} {q : Sl} {b : Cm.Bs} {st : Cm.Ps} {p ty : Nat}
theorem St.rdr_open (h : St E (rdrA ty p q b st :: L) w) : ∃ (at_ : Nat) (e : Int), rdrOk b at_ e st ∧ St E (blkL p ty (rdrL q at_ e) :: L) w := by
  obtain ⟨en, x, ⟨h1, h2, d, rfl, ⟨a, e, ho, hs⟩, hL⟩, hl⟩ := h
  exact ⟨a, e, ho, en, _, ⟨h1, h2, d, rfl, hs, hL⟩, hl⟩
theorem St.rdr_mk {at_ : Nat} {e : Int} (h : St E (blkL p ty (rdrL q at_ e) :: L) w) (ho : rdrOk b at_ e st) : St E (rdrA ty p q b st :: L) w := h.mono fun _ hx => ⟨at_, e, ho, hx⟩
theorem St.rdr_new (h : St E L w) (ty : Nat) (q : Sl) (b : Cm.Bs) : St E (rdrA ty w.heap.size q b (.ok b) :: L) (w.alloc (.cells ⟨rdrL q 0 0⟩ ty)) :=
  St.rdr_mk (at_ := 0) (e := 0) (h.alloc _) ⟨rfl, Nat.zero_le _, rfl⟩

/-! ### one number -/
theorem run_shl (t : TypeId) (x y : Operand) {v n : Nat} (hn : n < 64) : (do eqGuard .shl t x y (.int .i64 (v : Int)) (.int .i64 (n : Int)); binOp .shl t (.int .i64 (v : Int)) (.int .i64 (n : Int)) : Sem Value).run Tryz.prog w = .ok (.int .i64 (IntKind.wrap .i64 ((v * 2 ^ n : Nat) : Int))) w := by
  have e : min (n : Int).toNat (IntKind.bits .i64) = n := by rw [Int.toNat_natCast]; exact Nat.min_eq_left (by show n ≤ 64; omega)
  have h0 : ¬ ((n : Int) < 0) := by omega
  simp only [eqGuard, binOp, Op.shift]
  rw [if_neg h0, e]
  simp
theorem byte_at (hs : Src F q b) (hm : kn F ∈ L) (h : St E L w) {i : Nat} (hi : i < b.length) : ∃ ad, q.1 = some ad ∧ rd w (ad.add (i * 1)) (.int .u8 (b[i].toNat : Int)) := by
  have hr := hs.rd.at h hm
  obtain ⟨ad, ha, _, hc⟩ := hr.cells (by have := hs.len; omega)
  refine ⟨ad, ha, ?_⟩
  rw [Nat.mul_one]
  exact hr.rd_cell ha (by have := hs.len; omega) (v := .int .u8 (b[i].toNat : Int)) (by simp [bytesV, hi]) rfl
theorem takeGo_cons (j n : Nat) (c : UInt8) (r : Cm.Bs) : Cm.takeGo j n (c :: r) = if 128 ≤ c.toNat then (if j = 5 then .error 6 else Cm.takeGo (j + 1) (n + c.toNat % 128 * 128 ^ j) r)
    else if c.toNat = 0 ∧ 0 < j then .error 4 else if 1099511627776 < n + c.toNat % 128 * 128 ^ j then .error 6 else .ok (n + c.toNat % 128 * 128 ^ j, r) := rfl
theorem pow7 (k : Nat) (_h : k ≤ 5) : 128 ^ k = 2 ^ (7 * k) := by rw [show 128 = 2 ^ 7 from rfl, ← Nat.pow_mul]
theorem TakeNumber_spec {at_ : Nat} (hs : Src F q b) (hm : kn F ∈ L) (h : St E L w) (ha : at_ ≤ b.length)
    (k : ∀ w', St E L w' → R (.returned (.tuple #[.int .i64 (tkR b.length (Cm.takeGo 0 0 (b.drop at_))).1, .int .i64 (tkR b.length (Cm.takeGo 0 0 (b.drop at_))).2.1, .int .i64 (tkR b.length (Cm.takeGo 0 0 (b.drop at_))).2.2])) w') :
    Calls Tryz.prog 101 #[.slice q.1 q.2.1 q.2.2, .int .i64 (at_ : Int)] w R := by
  have hlen := hs.len
  have hbig := hs.big
  refine C_wire_TakeNumber ?_
  unfold T_wire_TakeNumber T_wire_TakeNumber_1
  refine ite_d (fun h1 => absurd h1 (by omega)) fun _ => ite_d (fun h1 => absurd h1 (by omega)) fun _ => ?_
  unfold T_wire_TakeNumber_2
  intro X hX
  have go : ∀ (r : Cm.Bs) (j n : Nat), r = b.drop (at_ + j) → j ≤ 5 → n < 2 ^ (7 * j) → at_ + j ≤ b.length → Cm.takeGo 0 0 (b.drop at_) = Cm.takeGo j n r → X (n : Int) (j : Int) w := by
    intro r
    induction r with
    | nil =>
      intro j n hr hj hn hle he
      refine hX _ _ _ ?_
      unfold T_wire_TakeNumber_2_body
      have : at_ + j = b.length := by have := congrArg List.length hr; simp at this; omega
      rw [show ((at_ : Int) + (j : Int)) = ((at_ + j : Nat) : Int) from by omega, wrap_nat (by omega), eq_dec]
      refine ite_d (fun _ => ?_) (fun hh => absurd hh (by omega))
      have := k w h
      rw [he] at this
      exact this
    | cons c r ih =>
      intro j n hr hj hn hle he
      refine hX _ _ _ ?_
      unfold T_wire_TakeNumber_2_body
      have hlt : at_ + j < b.length := by have := congrArg List.length hr; simp at this; omega
      have hd := List.drop_eq_getElem_cons hlt
      rw [← hr] at hd
      injection hd with hc hr2
      rw [show ((at_ : Int) + (j : Int)) = ((at_ + j : Nat) : Int) from by omega, wrap_nat (n := at_ + j) (by omega), eq_dec]
      refine ite_d (fun hh => absurd hh (by omega)) (fun _ => ?_)
      obtain ⟨ad, had, hrd⟩ := byte_at hs hm h hlt
      rw [← hc] at hrd
      have h256 := c.toNat_lt
      have hk := k w h
      rw [he] at hk
      refine ⟨by omega, by omega, ad, had, (c.toNat : Int), by rw [Int.toNat_natCast]; exact hrd, ?_⟩
      rw [wrap_nat (n := c.toNat) (by omega), and127 _ (by omega), wrap_nat (n := c.toNat % 128) (by omega), show (7 : Int) * (j : Int) = ((7 * j : Nat) : Int) from by omega, wrap_nat (n := 7 * j) (by omega)]
      have hp : 2 ^ (7 * j) ≤ 34359738368 := Nat.le_trans (Nat.pow_le_pow_right (by decide) (by omega : 7 * j ≤ 35)) (by decide)
      have hmul : c.toNat % 128 * 2 ^ (7 * j) ≤ 127 * 34359738368 := Nat.mul_le_mul (by omega) hp
      refine runV_ok (run_shl _ _ _ (by omega)) ⟨_, rfl, ?_⟩
      rw [wrap_nat (n := c.toNat % 128 * 2 ^ (7 * j)) (by omega), or_add hn (by omega), show ((j : Int) + 1) = ((j + 1 : Nat) : Int) from by omega, wrap_nat (n := j + 1) (by omega)]
      rw [← pow7 j hj]
      rw [takeGo_cons] at hk he
      refine ite_d (fun hc1 => ?_) (fun hc1 => ?_)
      · rw [if_pos (by omega)] at hk he
        rw [eq_dec]
        refine ite_d (fun h5 => ?_) (fun h5 => ?_)
        · rw [if_pos (by omega)] at hk
          exact hk
        · rw [if_neg (by omega)] at he
          refine ih (j + 1) _ hr2 (by omega) ?_ (by omega) he
          rw [pow7 j hj, show 7 * (j + 1) = 7 * j + 7 from by omega, Nat.pow_add]
          have : c.toNat % 128 * 2 ^ (7 * j) ≤ 127 * 2 ^ (7 * j) := Nat.mul_le_mul_right _ (by omega)
          omega
      · rw [if_neg (by omega)] at hk
        unfold T_wire_TakeNumber_3
        rw [eq_dec]
        have tail : ¬ (c.toNat = 0 ∧ 0 < j) → (if decide ((((n + c.toNat % 128 * 128 ^ j : Nat) : Int)) > 1099511627776) = true then R (.returned (.tuple #[.int .i64 0, .int .i64 0, .int .i64 6])) w else
            R (.returned (.tuple #[.int .i64 ((n + c.toNat % 128 * 128 ^ j : Nat) : Int), .int .i64 (IntKind.wrap .i64 ((at_ : Int) + ((j + 1 : Nat) : Int))), .int .i64 0])) w) := fun hz => by
          rw [if_neg hz] at hk
          refine ite_d (fun h6 => ?_) (fun h6 => ?_)
          · rw [if_pos (by omega)] at hk
            exact hk
          · rw [if_neg (by omega)] at hk
            rw [show ((at_ : Int) + ((j + 1 : Nat) : Int)) = ((at_ + (j + 1) : Nat) : Int) from by omega, wrap_nat (n := at_ + (j + 1)) (by omega)]
            have e : b.length - r.length = at_ + (j + 1) := by rw [hr2, List.length_drop]; omega
            simp only [tkR, e] at hk
            exact hk
        refine ite_d (fun h0 => ite_d (fun h2 => ?_) (fun h2 => tail (by omega))) (fun h0 => tail (by omega))
        rw [if_pos (by omega)] at hk
        exact hk
  exact go (b.drop at_) 0 0 rfl (by omega) (by decide) (by omega) rfl
theorem RTakeNumber_spec {at_ : Nat} (hs : Src F q b) (hm : kn F ∈ L) (h : St E L w) (ha : at_ ≤ b.length)
    (k : ∀ w', St E L w' → R (.returned (.tuple #[.int .i64 (tkR b.length (Cm.takeGo 0 0 (b.drop at_))).1, .int .i64 (tkR b.length (Cm.takeGo 0 0 (b.drop at_))).2.1, .int .i64 (tkR b.length (Cm.takeGo 0 0 (b.drop at_))).2.2])) w') :
    Calls Tryz.prog 104 #[.slice q.1 q.2.1 q.2.2, .int .i64 (at_ : Int)] w R := by
  have hlen := hs.len
  have hbig := hs.big
  refine C_ref02_TakeNumber ?_
  unfold T_ref02_TakeNumber T_ref02_TakeNumber_1
  refine ite_d (fun h1 => absurd h1 (by omega)) fun _ => ite_d (fun h1 => absurd h1 (by omega)) fun _ => ?_
  unfold T_ref02_TakeNumber_2
  intro X hX
  have six : ∀ n : Int, Cm.takeGo 0 0 (b.drop at_) = .error 6 → X n (128 ^ 6 : Nat) 6 w := fun n he => by
    refine hX _ _ _ _ ?_
    unfold T_ref02_TakeNumber_2_body
    have := k w h
    rw [he] at this
    exact this
  have go : ∀ (r : Cm.Bs) (j n : Nat), r = b.drop (at_ + j) → j ≤ 5 → n < 2 ^ (7 * j) → at_ + j ≤ b.length → Cm.takeGo 0 0 (b.drop at_) = Cm.takeGo j n r → X (n : Int) ((128 ^ j : Nat) : Int) (j : Int) w := by
    intro r
    induction r with
    | nil =>
      intro j n hr hj hn hle he
      refine hX _ _ _ _ ?_
      unfold T_ref02_TakeNumber_2_body
      have : at_ + j = b.length := by have := congrArg List.length hr; simp at this; omega
      rw [show ((at_ : Int) + (j : Int)) = ((at_ + j : Nat) : Int) from by omega, wrap_nat (by omega)]
      refine ite_d (fun _ => ite_d (fun _ => ?_) (fun hh => absurd hh (by omega))) (fun hh => absurd hh (by omega))
      have := k w h
      rw [he] at this
      exact this
    | cons c r ih =>
      intro j n hr hj hn hle he
      refine hX _ _ _ _ ?_
      unfold T_ref02_TakeNumber_2_body
      have hlt : at_ + j < b.length := by have := congrArg List.length hr; simp at this; omega
      have hd := List.drop_eq_getElem_cons hlt
      rw [← hr] at hd
      injection hd with hc hr2
      rw [show ((at_ : Int) + (j : Int)) = ((at_ + j : Nat) : Int) from by omega, wrap_nat (n := at_ + j) (by omega)]
      refine ite_d (fun _ => ite_d (fun hh => absurd hh (by omega)) (fun _ => ?_)) (fun hh => absurd hh (by omega))
      obtain ⟨ad, had, hrd⟩ := byte_at hs hm h hlt
      rw [← hc] at hrd
      have h256 := c.toNat_lt
      have hk := k w h
      rw [he] at hk
      refine ⟨by omega, by omega, ad, had, (c.toNat : Int), by rw [Int.toNat_natCast]; exact hrd, ?_⟩
      have hp : 2 ^ (7 * j) ≤ 34359738368 := Nat.le_trans (Nat.pow_le_pow_right (by decide) (by omega : 7 * j ≤ 35)) (by decide)
      have hp2 : 128 ^ j ≤ 34359738368 := by rw [pow7 j hj]; exact hp
      have hmul : c.toNat % 128 * 128 ^ j ≤ 127 * 34359738368 := Nat.mul_le_mul (by omega) hp2
      have hm1 : Int.tmod (c.toNat : Int) 128 = ((c.toNat % 128 : Nat) : Int) := by rw [Int.tmod_eq_emod_of_nonneg (by omega)]; omega
      have hsum : IntKind.wrap .i64 ((n : Int) + IntKind.wrap .i64 (((c.toNat % 128 : Nat) : Int) * ((128 ^ j : Nat) : Int))) = ((n + c.toNat % 128 * 128 ^ j : Nat) : Int) := by
        rw [show (((c.toNat % 128 : Nat) : Int) * ((128 ^ j : Nat) : Int)) = ((c.toNat % 128 * 128 ^ j : Nat) : Int) from by push_cast; rfl, wrap_nat (n := c.toNat % 128 * 128 ^ j) (by omega), show ((n : Int) + ((c.toNat % 128 * 128 ^ j : Nat) : Int)) = ((n + c.toNat % 128 * 128 ^ j : Nat) : Int) from by push_cast; rfl, wrap_nat (by omega)]
      rw [wrap_nat (n := c.toNat) (by omega), hm1, hsum]
      rw [takeGo_cons] at hk he
      refine ite_d (fun hc1 => ?_) (fun hc1 => ?_)
      · rw [if_neg (by omega)] at hk
        unfold T_ref02_TakeNumber_3
        rw [eq_dec]
        have tail : ¬ (c.toNat = 0 ∧ 0 < j) → (if decide ((((n + c.toNat % 128 * 128 ^ j : Nat) : Int)) > 1099511627776) = true then R (.returned (.tuple #[.int .i64 0, .int .i64 0, .int .i64 6])) w else
            R (.returned (.tuple #[.int .i64 ((n + c.toNat % 128 * 128 ^ j : Nat) : Int), .int .i64 (IntKind.wrap .i64 (((at_ + j : Nat) : Int) + 1)), .int .i64 0])) w) := fun hz => by
          rw [if_neg hz] at hk
          refine ite_d (fun h6 => ?_) (fun h6 => ?_)
          · rw [if_pos (by omega)] at hk
            exact hk
          · rw [if_neg (by omega)] at hk
            rw [show (((at_ + j : Nat) : Int) + 1) = ((at_ + j + 1 : Nat) : Int) from by omega, wrap_nat (n := at_ + j + 1) (by omega)]
            have e : b.length - r.length = at_ + j + 1 := by rw [hr2, List.length_drop]; omega
            simp only [tkR, e] at hk
            exact hk
        refine ite_d (fun h0 => ite_d (fun h2 => ?_) (fun h2 => tail (by omega))) (fun h0 => tail (by omega))
        rw [if_pos (by omega)] at hk
        exact hk
      · rw [if_pos (by omega)] at he
        rw [show ((128 ^ j : Nat) : Int) * 128 = ((128 ^ (j + 1) : Nat) : Int) from by rw [Nat.pow_succ]; push_cast; rfl, wrap_nat (n := 128 ^ (j + 1)) (by rw [Nat.pow_succ]; omega), show ((j : Int) + 1) = ((j + 1 : Nat) : Int) from by omega, wrap_nat (n := j + 1) (by omega)]
        by_cases h5 : j = 5
        · subst h5
          rw [if_pos rfl] at he
          exact six _ he
        · rw [if_neg h5] at he
          refine ih (j + 1) _ hr2 (by omega) ?_ (by omega) he
          rw [pow7 j hj, show 7 * (j + 1) = 7 * j + 7 from by omega, Nat.pow_add]
          have : c.toNat % 128 * 2 ^ (7 * j) ≤ 127 * 2 ^ (7 * j) := Nat.mul_le_mul_right _ (by omega)
          omega
  exact go (b.drop at_) 0 0 rfl (by omega) (by decide) (by omega) rfl
theorem takeGo_rest : ∀ (r : Cm.Bs) (j n m : Nat) (r' : Cm.Bs), Cm.takeGo j n r = .ok (m, r') → ∃ i, r' = r.drop i ∧ i ≤ r.length
  | [], _, _, _, _, h => by simp [Cm.takeGo] at h
  | c :: r, j, n, m, r', h => by
    unfold Cm.takeGo at h
    split at h
    · split at h
      · cases h
      · obtain ⟨i, h1, h2⟩ := takeGo_rest r _ _ m r' h
        exact ⟨i + 1, by simpa using h1, by simpa using h2⟩
    · split at h
      · cases h
      · split at h
        · cases h
        · injection h with h; injection h with h1 h2
          exact ⟨1, by simpa using h2.symm, by simp⟩
theorem takeGo_err : ∀ (r : Cm.Bs) (j n : Nat) (e : Int), Cm.takeGo j n r = .error e → e ≠ 0
  | [], _, _, e, h => by simp [Cm.takeGo] at h; omega
  | c :: r, j, n, e, h => by
    unfold Cm.takeGo at h
    split at h
    · split at h
      · injection h with h; omega
      · exact takeGo_err r _ _ e h
    · split at h
      · injection h with h; omega
      · split at h
        · injection h with h; omega
        · cases h

/-! ### the reader's steps -/
theorem rnum_spec {most : Nat} (hs : Src F q b) (hm : kn F ∈ L) (h : St E (rdrA 116 p q b st :: L) w)
    (k : ∀ w', St E (rdrA 116 p q b (Cm.rNum most st).2 :: L) w' → R (.returned (.int .i64 ((Cm.rNum most st).1 : Int))) w') : Calls Tryz.prog 63 #[.pointer (some ⟨p, 0, none⟩), .int .i64 (most : Int)] w R := by
  obtain ⟨a, e, ho, h0⟩ := h.rdr_open
  refine C_conf_reader_num ?_
  unfold T_conf_reader_num
  refine ⟨_, rfl, _, rd_fld h0.at_blk rfl rfl, ?_⟩
  rw [ne_dec]
  cases st with
  | error x =>
    obtain ⟨rfl, hx⟩ := ho
    exact ite_d (fun _ => k w h) fun hh => absurd hx hh
  | ok r =>
    obtain ⟨rfl, hab, rfl⟩ := ho
    refine ite_d (fun hh => absurd rfl hh) fun _ => ?_
    intro w5
    have h5 := h0.drew
    refine ⟨_, rfl, _, _, _, rd_cell h5.at_blk rfl rfl, _, rfl, _, rd_fld h5.at_blk rfl rfl, TakeNumber_spec hs (List.mem_cons_of_mem _ hm) h5 hab fun w1 h1 => ⟨_, _, _, rfl, trivial, ?_⟩⟩
    unfold T_conf_reader_num_1 T_conf_reader_num_2
    cases ht : Cm.takeGo 0 0 (b.drop a) with
    | error x =>
      have hx := takeGo_err _ _ _ _ ht
      have hk := k
      simp only [Cm.rNum, ht] at hk
      simp only [tkR, eq_dec, ne_dec]
      refine ite_d (fun hh => absurd hh hx) fun _ => ite_b (fun hh => by cases hh) fun _ => ite_d (fun _ => ⟨_, rfl, rfl, wrOk_fld h1.at_blk (by simp [rdrL]) rfl, hk _ (St.rdr_mk (at_ := a) (e := x) (h1.wr_fld (k := 2) (v := .int .i64 x) rfl) ⟨rfl, hx⟩)⟩) fun hh => absurd hx hh
    | ok nr =>
      obtain ⟨n, r'⟩ := nr
      obtain ⟨i, hi1, hi2⟩ := takeGo_rest _ _ _ _ _ ht
      have hk := k
      simp only [Cm.rNum, ht] at hk
      simp only [tkR, eq_dec, ne_dec]
      refine ite_d (fun _ => ite_d (fun hgt => ite_d (fun _ => ?_) fun hh => absurd (by decide) hh) fun hle => ite_d (fun hh => absurd (by trivial) hh) fun _ => ?_) fun hh => absurd (by trivial) hh
      · rw [if_pos (by omega)] at hk
        exact ⟨_, rfl, rfl, wrOk_fld h1.at_blk (by simp [rdrL]) rfl, hk _ (St.rdr_mk (at_ := a) (e := 6) (h1.wr_fld (k := 2) (v := .int .i64 6) rfl) ⟨rfl, by decide⟩)⟩
      · rw [if_neg (by omega)] at hk
        have hl : b.length - r'.length = a + i := by rw [hi1]; simp only [List.length_drop] at hi2 ⊢; omega
        rw [hl]
        exact ⟨_, rfl, rfl, wrOk_fld h1.at_blk (by simp [rdrL]) rfl, hk _ (St.rdr_mk (at_ := a + i) (e := 0) (h1.wr_fld (k := 1) (v := .int .i64 ((a + i : Nat) : Int)) rfl) ⟨rfl, by simp only [List.length_drop] at hi2; omega, by rw [hi1, List.drop_drop]⟩)⟩
theorem Rscan_num_spec {most : Nat} (hs : Src F q b) (hm : kn F ∈ L) (h : St E (rdrA 123 p q b st :: L) w)
    (k : ∀ w', St E (rdrA 123 p q b (Cm.rNum most st).2 :: L) w' → R (.returned (.int .i64 ((Cm.rNum most st).1 : Int))) w') : Calls Tryz.prog 68 #[.pointer (some ⟨p, 0, none⟩), .int .i64 (most : Int)] w R := by
  obtain ⟨a, e, ho, h0⟩ := h.rdr_open
  refine C_ref08_scan_num ?_
  unfold T_ref08_scan_num
  refine ⟨_, rfl, _, rd_fld h0.at_blk rfl rfl, ?_⟩
  rw [ne_dec]
  cases st with
  | error x =>
    obtain ⟨rfl, hx⟩ := ho
    exact ite_d (fun _ => k w h) fun hh => absurd hx hh
  | ok r =>
    obtain ⟨rfl, hab, rfl⟩ := ho
    refine ite_d (fun hh => absurd rfl hh) fun _ => ?_
    intro w5
    have h5 := h0.drew
    refine ⟨_, rfl, _, _, _, rd_cell h5.at_blk rfl rfl, _, rfl, _, rd_fld h5.at_blk rfl rfl, RTakeNumber_spec hs (List.mem_cons_of_mem _ hm) h5 hab fun w1 h1 => ⟨_, _, _, rfl, trivial, ?_⟩⟩
    cases ht : Cm.takeGo 0 0 (b.drop a) with
    | error x =>
      have hx := takeGo_err _ _ _ _ ht
      have hk := k
      simp only [Cm.rNum, ht] at hk
      simp only [tkR, ne_dec]
      exact ite_d (fun _ => ⟨_, rfl, rfl, wrOk_fld h1.at_blk (by simp [rdrL]) rfl, hk _ (St.rdr_mk (at_ := a) (e := x) (h1.wr_fld (k := 2) (v := .int .i64 x) rfl) ⟨rfl, hx⟩)⟩) fun hh => absurd hx hh
    | ok nr =>
      obtain ⟨n, r'⟩ := nr
      obtain ⟨i, hi1, hi2⟩ := takeGo_rest _ _ _ _ _ ht
      have hk := k
      simp only [Cm.rNum, ht] at hk
      simp only [tkR, ne_dec]
      refine ite_d (fun hh => absurd rfl hh) fun _ => ite_d (fun hgt => ?_) fun hle => ?_
      · rw [if_pos (by omega)] at hk
        exact ⟨_, rfl, rfl, wrOk_fld h1.at_blk (by simp [rdrL]) rfl, hk _ (St.rdr_mk (at_ := a) (e := 6) (h1.wr_fld (k := 2) (v := .int .i64 6) rfl) ⟨rfl, by decide⟩)⟩
      · rw [if_neg (by omega)] at hk
        have hl : b.length - r'.length = a + i := by rw [hi1]; simp only [List.length_drop] at hi2 ⊢; omega
        rw [hl]
        exact ⟨_, rfl, rfl, wrOk_fld h1.at_blk (by simp [rdrL]) rfl, hk _ (St.rdr_mk (at_ := a + i) (e := 0) (h1.wr_fld (k := 1) (v := .int .i64 ((a + i : Nat) : Int)) rfl) ⟨rfl, by simp only [List.length_drop] at hi2; omega, by rw [hi1, List.drop_drop]⟩)⟩
theorem Src.cut (hs : Src F q b) {a n : Nat} (h : a + n ≤ b.length) : RdF F (if q.2.2 = a then q.1 else q.1.map fun x => x.add (a * 1)) (a + n - a) 1 (bytesV ((b.drop a).take n)) := by
  have hlen := hs.len
  have hcap := hs.cap
  have := hs.rd.sub (lo := a) (hi := a + n) (by omega) (by omega) q.2.2 (by omega)
  refine Eq.mp ?_ this
  congr 1
  simp only [bytesV, List.map_take, List.map_drop, Nat.mul_one]
  congr 1; omega
theorem take_spec {n : Nat} (hn : n ≤ 1000000000) (hs : Src F q b) (hm : kn F ∈ L) (h : St E (rdrA 116 p q b st :: L) w)
    (k : ∀ w' (s : Sl), St E (rdrA 116 p q b (Cm.rRow n st).2 :: L) w' → RdF F s.1 s.2.1 1 (bytesV (Cm.rRow n st).1) → R (.returned (.slice s.1 s.2.1 s.2.2)) w') : Calls Tryz.prog 102 #[.pointer (some ⟨p, 0, none⟩), .int .i64 (n : Int)] w R := by
  have hlen := hs.len
  have hcap := hs.cap
  have hbig := hs.big
  obtain ⟨a, e, ho, h0⟩ := h.rdr_open
  refine C_conf_reader_take ?_
  unfold T_conf_reader_take T_conf_reader_take_1
  intro w5
  have h5 := h0.drew
  refine ⟨_, rfl, _, rd_fld h5.at_blk rfl rfl, ?_⟩
  rw [eq_dec]
  cases st with
  | error x =>
    obtain ⟨rfl, hx⟩ := ho
    refine ite_d (fun hh => absurd hh hx) fun _ => ?_
    unfold T_conf_reader_take_2
    refine ite_b (fun hh => by cases hh) fun _ => ⟨_, rfl, _, rd_fld h5.at_blk rfl rfl, ?_⟩
    rw [ne_dec]
    exact ite_d (fun _ => k w5 (none, 0, 0) (St.rdr_mk h5 ⟨rfl, hx⟩) (RdF.nil F none)) fun hh => absurd hx hh
  | ok r =>
    obtain ⟨rfl, hab, rfl⟩ := ho
    refine ite_d (fun _ => ⟨_, rfl, _, _, _, rd_cell h5.at_blk rfl rfl, _, rfl, _, rd_fld h5.at_blk rfl rfl, ?_⟩) fun hh => absurd rfl hh
    rw [show ((q.2.1 : Int) - (a : Int)) = ((q.2.1 - a : Nat) : Int) from by omega, wrap_nat (n := q.2.1 - a) (by omega)]
    unfold T_conf_reader_take_2
    simp only [Cm.rRow, List.length_drop] at k
    refine ite_d (fun hlt => ?_) fun hge => ?_
    · rw [if_pos (by omega)] at k
      refine ⟨_, rfl, rfl, wrOk_fld h5.at_blk (by simp [rdrL]) rfl, ?_⟩
      intro w20
      have h20 : St E (blkL p 116 (rdrL q a 3) :: L) w20 := h5.wr_fld (k := 2) (v := .int .i64 3) rfl
      exact ⟨_, rfl, _, rd_fld h20.at_blk rfl rfl, k w20 (none, 0, 0) (St.rdr_mk h20 ⟨rfl, by decide⟩) (RdF.nil F none)⟩
    · rw [if_neg (by omega)] at k
      refine ⟨_, rfl, _, rd_fld h5.at_blk rfl rfl, ?_⟩
      rw [ne_dec]
      refine ite_d (fun hh => absurd rfl hh) fun _ => ⟨_, rfl, _, rd_fld h5.at_blk rfl rfl, _, rfl, rfl, wrOk_fld h5.at_blk (by simp [rdrL]) rfl, ?_⟩
      rw [show ((a : Int) + (n : Int)) = ((a + n : Nat) : Int) from by omega, wrap_nat (n := a + n) (by omega)]
      intro w27 w28
      have h28 : St E (blkL p 116 (rdrL q (a + n) 0) :: L) w28 := (h5.wr_fld (k := 1) (v := .int .i64 ((a + n : Nat) : Int)) rfl).drew
      refine ⟨_, rfl, _, _, _, rd_cell h28.at_blk rfl rfl, _, rfl, _, rd_fld h28.at_blk rfl rfl, _, rfl, _, rd_fld h28.at_blk rfl rfl, by omega, by omega, ?_⟩
      rw [show (((a + n : Nat) : Int) - (n : Int)) = (a : Int) from by omega, wrap_nat (n := a) (by omega), Int.toNat_natCast, Int.toNat_natCast]
      exact ⟨by omega, by omega, k w28 (_, _, _) (St.rdr_mk h28 ⟨rfl, by omega, by rw [List.drop_drop]⟩) (hs.cut (by omega))⟩
theorem Rrow_spec {n : Nat} (hn : n ≤ 1000000000) (hs : Src F q b) (hm : kn F ∈ L) (h : St E (rdrA 123 p q b st :: L) w)
    (k : ∀ w' (s : Sl), St E (rdrA 123 p q b (Cm.rRow n st).2 :: L) w' → RdF F s.1 s.2.1 1 (bytesV (Cm.rRow n st).1) → R (.returned (.slice s.1 s.2.1 s.2.2)) w') : Calls Tryz.prog 105 #[.pointer (some ⟨p, 0, none⟩), .int .i64 (n : Int)] w R := by
  have hlen := hs.len
  have hcap := hs.cap
  have hbig := hs.big
  obtain ⟨a, e, ho, h0⟩ := h.rdr_open
  refine C_ref08_scan_row ?_
  unfold T_ref08_scan_row
  refine ⟨_, rfl, _, rd_fld h0.at_blk rfl rfl, ?_⟩
  rw [ne_dec]
  cases st with
  | error x =>
    obtain ⟨rfl, hx⟩ := ho
    exact ite_d (fun _ => k w (none, 0, 0) h (RdF.nil F none)) fun hh => absurd hx hh
  | ok r =>
    obtain ⟨rfl, hab, rfl⟩ := ho
    refine ite_d (fun hh => absurd rfl hh) fun _ => ?_
    intro w5
    have h5 := h0.drew
    refine ⟨_, rfl, _, _, _, rd_cell h5.at_blk rfl rfl, _, rfl, _, rd_fld h5.at_blk rfl rfl, ?_⟩
    rw [show ((q.2.1 : Int) - (a : Int)) = ((q.2.1 - a : Nat) : Int) from by omega, wrap_nat (n := q.2.1 - a) (by omega)]
    simp only [Cm.rRow, List.length_drop] at k
    refine ite_d (fun hlt => ?_) fun hge => ?_
    · rw [if_pos (by omega)] at k
      refine ⟨_, rfl, rfl, wrOk_fld h5.at_blk (by simp [rdrL]) rfl, ?_⟩
      intro w20
      have h20 : St E (blkL p 123 (rdrL q a 3) :: L) w20 := h5.wr_fld (k := 2) (v := .int .i64 3) rfl
      exact k w20 (none, 0, 0) (St.rdr_mk h20 ⟨rfl, by decide⟩) (RdF.nil F none)
    · rw [if_neg (by omega)] at k
      intro w12
      have h12 := h5.drew
      refine ⟨_, rfl, _, _, _, rd_cell h12.at_blk rfl rfl, _, rfl, _, rd_fld h12.at_blk rfl rfl, _, rfl, _, rd_fld h12.at_blk rfl rfl, ?_⟩
      rw [show ((a : Int) + (n : Int)) = ((a + n : Nat) : Int) from by omega, wrap_nat (n := a + n) (by omega)]
      simp only [Int.toNat_natCast]
      refine ⟨by omega, by omega, by omega, by omega, _, rfl, _, rd_fld h12.at_blk rfl rfl, _, rfl, rfl, wrOk_fld h12.at_blk (by simp [rdrL]) rfl, ?_⟩
      have h28 : St E (blkL p 123 (rdrL q (a + n) 0) :: L) (wr w12 ((⟨p, 0, none⟩ : Addr).add 1) (.int .i64 ((a + n : Nat) : Int))) := h12.wr_fld (k := 1) (v := .int .i64 ((a + n : Nat) : Int)) rfl
      rw [show ((a : Int) + (n : Int)) = ((a + n : Nat) : Int) from by omega, wrap_nat (n := a + n) (by omega)]
      exact k _ (_, _, _) (St.rdr_mk h28 ⟨rfl, by omega, by rw [List.drop_drop]⟩) (hs.cut (by omega))
theorem rNum_le (most : Nat) (st : Cm.Ps) : (Cm.rNum most st).1 ≤ most := by
  cases st with
  | error e => simp [Cm.rNum]
  | ok r =>
    simp only [Cm.rNum]
    split
    · simp
    · split
      · simp
      · simp only; omega
theorem rtext_spec (hs : Src F q b) (hm : kn F ∈ L) (h : St E (rdrA 116 p q b st :: L) w)
    (k : ∀ w', St E (rdrA 116 p q b (Cm.rText st).2 :: L) w' → R (.returned (.string (bs (Cm.rText st).1))) w') : Calls Tryz.prog 64 #[.pointer (some ⟨p, 0, none⟩)] w R := by
  refine C_conf_reader_text ?_
  unfold T_conf_reader_text
  refine rnum_spec (most := 128) hs hm h fun w1 h1 => ⟨_, rfl, take_spec (by have := rNum_le 128 st; omega) hs hm h1 fun w2 s h2 hr => ⟨_, _, _, rfl, ?_⟩⟩
  exact runV_ok (convert_string (e := 5) (by kernel_rfl) (by kernel_rfl) (by kernel_rfl) (hr.at h2 (List.mem_cons_of_mem _ hm))) ⟨_, rfl, k w2 h2⟩
theorem Rscan_text_spec (hs : Src F q b) (hm : kn F ∈ L) (h : St E (rdrA 123 p q b st :: L) w)
    (k : ∀ w', St E (rdrA 123 p q b (Cm.rText st).2 :: L) w' → R (.returned (.string (bs (Cm.rText st).1))) w') : Calls Tryz.prog 69 #[.pointer (some ⟨p, 0, none⟩)] w R := by
  refine C_ref08_scan_text ?_
  unfold T_ref08_scan_text
  refine Rscan_num_spec (most := 128) hs hm h fun w1 h1 => ⟨_, rfl, Rrow_spec (by have := rNum_le 128 st; omega) hs hm h1 fun w2 s h2 hr => ⟨_, _, _, rfl, ?_⟩⟩
  exact runV_ok (convert_string (e := 5) (by kernel_rfl) (by kernel_rfl) (by kernel_rfl) (hr.at h2 (List.mem_cons_of_mem _ hm))) ⟨_, rfl, k w2 h2⟩
/-! ### weights -/
theorem bits_pre (l : Cm.Bs) (_hl : l.length ≤ 8) : ∀ j, j ≤ l.length → Cm.bits (l.take j) < 256 ^ j := by
  intro j
  induction j with
  | zero => intro _; simp [Cm.bits]
  | succ j ih =>
    intro hj
    rw [List.take_succ_eq_append_getElem (by omega)]
    have := ih (by omega)
    have hlt := (l[j]'(by omega)).toNat_lt
    simp only [Cm.bits, List.foldl_append, List.foldl_cons, List.foldl_nil] at this ⊢
    rw [Nat.pow_succ]; omega
theorem wrap_u64 {n : Nat} (h : n < 18446744073709551616) : IntKind.wrap .u64 (n : Int) = n := by
  unfold IntKind.wrap
  simp [IntKind.signed, IntKind.bits]
  omega
theorem or8 (a : Nat) (c : Nat) (hc : c < 256) (h : a * 256 + c < 18446744073709551616) :
    IntKind.wrap .u64 ((BitVec.ofInt (IntKind.bits .u64) (IntKind.wrap .u64 ((a : Int) * 2 ^ 8))) ||| (BitVec.ofInt (IntKind.bits .u64) (IntKind.wrap .u64 (c : Int)))).toNat = ((a * 256 + c : Nat) : Int) := by
  rw [show ((a : Int) * 2 ^ 8) = ((a * 256 : Nat) : Int) from by push_cast; rfl, wrap_u64 (n := a * 256) (by omega), wrap_u64 (n := c) (by omega)]
  have e : ((BitVec.ofInt (IntKind.bits .u64) ((a * 256 : Nat) : Int)) ||| (BitVec.ofInt (IntKind.bits .u64) (c : Int))).toNat = a * 256 + c := by
    show ((BitVec.ofInt 64 ((a * 256 : Nat) : Int)) ||| (BitVec.ofInt 64 (c : Int))).toNat = _
    rw [BitVec.toNat_or, ofInt_nat _ (by omega), ofInt_nat _ (by omega), show a * 256 = 2 ^ 8 * a from by omega, ← Nat.two_pow_add_eq_or_of_lt (by omega)]
  rw [e, wrap_u64 h]
theorem rRow_len (n : Nat) (st : Cm.Ps) : (Cm.rRow n st).1.length ≤ n := by
  cases st with
  | error e => simp [Cm.rRow]
  | ok r => simp only [Cm.rRow]; split <;> simp; omega
theorem row_at {s : Sl} {l : Cm.Bs} (hr : RdF F s.1 s.2.1 1 (bytesV l)) (hm : kn F ∈ L) (h : St E L w) {i : Nat} (hi : i < l.length) : ∃ ad, s.1 = some ad ∧ rd w (ad.add (i * 1)) (.int .u8 (l[i].toNat : Int)) := by
  have hr' := hr.at h hm
  have hl : l.length = s.2.1 := by have := hr'.1; rw [bytesV_len] at this; omega
  obtain ⟨ad, ha, _, hc⟩ := hr'.cells (by omega)
  refine ⟨ad, ha, ?_⟩
  rw [Nat.mul_one]
  exact hr'.rd_cell ha (by omega) (v := .int .u8 (l[i].toNat : Int)) (by simp [bytesV, hi]) rfl
theorem row_len {s : Sl} {l : Cm.Bs} (hr : RdF F s.1 s.2.1 1 (bytesV l)) (hm : kn F ∈ L) (h : St E L w) : l.length = s.2.1 := by have := (hr.at h hm).1; rw [bytesV_len] at this; omega
theorem bits_next (l : Cm.Bs) (j : Nat) (hj : j < l.length) : Cm.bits (l.take (j + 1)) = Cm.bits (l.take j) * 256 + l[j].toNat := by
  rw [List.take_succ_eq_append_getElem hj]; simp only [Cm.bits, List.foldl_append, List.foldl_cons, List.foldl_nil]
theorem bits_small (l : Cm.Bs) (hl : l.length ≤ 8) (j : Nat) (hj : j ≤ l.length) : Cm.bits (l.take j) < 18446744073709551616 :=
  Nat.lt_of_lt_of_le (bits_pre l hl j hj) (Nat.le_trans (Nat.pow_le_pow_right (by decide) (by omega : j ≤ 8)) (by decide))
theorem rfloat_spec (hs : Src F q b) (hm : kn F ∈ L) (h : St E (rdrA 116 p q b st :: L) w)
    (k : ∀ w', St E (rdrA 116 p q b (Cm.rRow 8 st).2 :: L) w' → R (.returned (.float .f64 (Cm.bits (Cm.rRow 8 st).1))) w') : Calls Tryz.prog 103 #[.pointer (some ⟨p, 0, none⟩)] w R := by
  refine C_conf_reader_float ?_
  unfold T_conf_reader_float
  refine take_spec (n := 8) (by omega) hs hm h fun w1 s h1 hr => ⟨_, _, _, rfl, ?_⟩
  have hl8 := rRow_len 8 st
  have hm1 := List.mem_cons_of_mem (rdrA 116 p q b (Cm.rRow 8 st).2) hm
  have hln := row_len hr hm1 h1
  unfold T_conf_reader_float_1
  intro X hX
  refine up_to (Cm.rRow 8 st).1.length (Q := fun j => X ((Cm.bits ((Cm.rRow 8 st).1.take j) : Nat) : Int) (j : Int) w1) ?_
  intro j hj ih
  refine hX _ _ _ ?_
  unfold T_conf_reader_float_1_body
  rw [← hln]
  refine ite_d (fun hc => ?_) fun hc => ?_
  · have hjl : j < (Cm.rRow 8 st).1.length := by omega
    obtain ⟨ad, ha, hrd⟩ := row_at hr hm1 h1 hjl
    refine ⟨by omega, by omega, ad, ha, _, by rw [Int.toNat_natCast]; exact hrd, ?_⟩
    have e := bits_next (Cm.rRow 8 st).1 j hjl
    rw [or8 _ _ (UInt8.toNat_lt _) (by rw [← e]; exact bits_small _ hl8 _ (by omega)), ← e, succ_big (by unfold big; omega)]
    exact ih hjl
  · rw [List.take_of_length_le (by omega)]
    refine runV_ok run_ffrom ⟨_, rfl, ?_⟩
    rw [Int.toNat_natCast]
    exact k w1 h1

/-! ### targets -/
theorem rMany_bad {α : Type} (f : Cm.Ps → α × Cm.Ps) (n : Nat) {s : Cm.Ps} (h : Cm.bad s = true) : Cm.rMany f n s = ([], s) := by
  cases n with
  | zero => rfl
  | succ n => simp [Cm.rMany, h]
theorem rdrOk_bad {at_ : Nat} {e : Int} (h : rdrOk b at_ e st) : decide (e = 0) = !Cm.bad st := by
  cases st with
  | ok r => simp [Cm.bad, h.1]
  | error x => simp [Cm.bad, h.1, h.2]
theorem rtargets_spec (hs : Src F q b) (hm : kn F ∈ L) (h : St E (rdrA 116 p q b st :: L) w)
    (k : ∀ w' (s : Sl), St E (tgA s (Cm.rTgs st).1 :: rdrA 116 p q b (Cm.rTgs st).2 :: L) w' → R (.returned (.slice s.1 s.2.1 s.2.2)) w') : Calls Tryz.prog 65 #[.pointer (some ⟨p, 0, none⟩)] w R := by
  refine C_conf_reader_targets ?_
  unfold T_conf_reader_targets
  refine rnum_spec (most := 16) hs hm h fun w1 h1 => ⟨_, rfl, ?_⟩
  have hle := rNum_le 16 st
  unfold T_conf_reader_targets_1
  intro X hX
  have go : ∀ (n : Nat) (s : Sl) (xs : List Cm.Tgt) (st2 : Cm.Ps) (w : World), xs.length + n ≤ 16 → St E (tgA s xs :: rdrA 116 p q b st2 :: L) w → Cm.rTgs st = (xs ++ (Cm.rMany Cm.rTgt n st2).1, (Cm.rMany Cm.rTgt n st2).2) → X s.1 s.2.1 s.2.2 (n : Int) w := by
    intro n
    induction n with
    | zero =>
      intro s xs st2 w hn h he
      refine hX _ _ _ _ _ ?_
      unfold T_conf_reader_targets_1_body T_conf_reader_targets_2
      refine ite_d (fun hh => absurd hh (by decide)) fun _ => ite_b (fun hh => by cases hh) fun _ => ?_
      have := k w s
      rw [he] at this
      simp only [Cm.rMany, List.append_nil] at this
      exact this h
    | succ n ih =>
      intro s xs st2 w hn h he
      refine hX _ _ _ _ _ ?_
      unfold T_conf_reader_targets_1_body T_conf_reader_targets_2
      obtain ⟨a, e, ho, h0⟩ := h.f1.rdr_open
      refine ite_d (fun _ => ⟨_, rfl, _, rd_fld h0.at_blk rfl rfl, ?_⟩) fun hh => absurd (by omega) hh
      rw [eq_dec, rdrOk_bad ho]
      refine ite_n (fun hb => ?_) fun hb => ?_
      · refine rtext_spec hs (List.mem_cons_of_mem _ hm) h.f1 fun w2 h2 => ⟨_, rfl, rfloat_spec hs (List.mem_cons_of_mem _ hm) h2 fun w3 h3 => ⟨_, rfl, ?_⟩⟩
        intro w23
        obtain ⟨s', w', hr, hs'⟩ := app_t1 (t := (Cm.rTgt st2).1) h3.f1 (by omega)
        refine runV_ok hr ⟨_, _, _, rfl, ?_⟩
        rw [wrap_id (by omega) (by omega), show ((n + 1 : Nat) : Int) - 1 = (n : Int) from by omega]
        refine ih s' _ (Cm.rTgt st2).2 w' (by simp; omega) hs' ?_
        rw [he]
        simp only [Cm.rMany, hb, Bool.false_eq_true, if_false, List.append_assoc, List.cons_append, List.nil_append]
      · have := k w s
        rw [he, rMany_bad _ _ hb, List.append_nil] at this
        exact this h
  exact go _ (none, 0, 0) [] _ w1 (by simp; omega) (St.ownS_nil h1) rfl
theorem Rscan_targets_spec (hs : Src F q b) (hm : kn F ∈ L) (h : St E (rdrA 123 p q b st :: L) w)
    (k : ∀ w' (s : Sl), St E (tgA s (Cm.rTgs st).1 :: rdrA 123 p q b (Cm.rTgs st).2 :: L) w' → R (.returned (.slice s.1 s.2.1 s.2.2)) w') : Calls Tryz.prog 70 #[.pointer (some ⟨p, 0, none⟩)] w R := by
  refine C_ref08_scan_targets ?_
  unfold T_ref08_scan_targets
  intro w2
  have h2 : St E (tgA (some ⟨w.heap.size, 0, none⟩, 0, 0) [] :: rdrA 123 p q b st :: L) w2 := (h.alloc _).ownS_mk (rest := []) rfl (Nat.le_refl _) (Nat.zero_le _) rfl
  refine Rscan_num_spec (most := 16) hs (List.mem_cons_of_mem _ hm) h2.f1 fun w1 h1 => ⟨_, rfl, ?_⟩
  have hle := rNum_le 16 st
  unfold T_ref08_scan_targets_1
  intro X hX
  have go : ∀ (n : Nat) (s : Sl) (xs : List Cm.Tgt) (st2 : Cm.Ps) (w : World), xs.length + n = (Cm.rNum 16 st).1 → St E (tgA s xs :: rdrA 123 p q b st2 :: L) w → Cm.rTgs st = (xs ++ (Cm.rMany Cm.rTgt n st2).1, (Cm.rMany Cm.rTgt n st2).2) → X s.1 s.2.1 s.2.2 (xs.length : Int) w := by
    intro n
    induction n with
    | zero =>
      intro s xs st2 w hn h he
      refine hX _ _ _ _ _ ?_
      unfold T_ref08_scan_targets_1_body T_ref08_scan_targets_2
      refine ite_d (fun hh => absurd hh (by omega)) fun _ => ite_b (fun hh => by cases hh) fun _ => ?_
      have := k w s
      rw [he] at this
      simp only [Cm.rMany, List.append_nil] at this
      exact this h
    | succ n ih =>
      intro s xs st2 w hn h he
      refine hX _ _ _ _ _ ?_
      unfold T_ref08_scan_targets_1_body T_ref08_scan_targets_2
      obtain ⟨a, e, ho, h0⟩ := h.f1.rdr_open
      refine ite_d (fun _ => ⟨_, rfl, _, rd_fld h0.at_blk rfl rfl, ?_⟩) fun hh => absurd (by omega) hh
      rw [eq_dec, rdrOk_bad ho]
      refine ite_n (fun hb => ?_) fun hb => ?_
      · refine Rscan_text_spec hs (List.mem_cons_of_mem _ hm) h.f1 fun w2 h2 => ⟨_, rfl, Rrow_spec (n := 8) (by omega) hs (List.mem_cons_of_mem _ hm) h2 fun w3 s3 h3 hr => ⟨_, _, _, rfl, ?_⟩⟩
        have hl8 := rRow_len 8 (Cm.rText st2).2
        have hm1 := List.mem_cons_of_mem (rdrA 123 p q b (Cm.rRow 8 (Cm.rText st2).2).2) (List.mem_cons_of_mem (tgA s xs) hm)
        have hln := row_len hr hm1 h3
        unfold T_ref08_scan_targets_3
        intro Y hY
        refine up_to (Cm.rRow 8 (Cm.rText st2).2).1.length (Q := fun j => Y ((Cm.bits ((Cm.rRow 8 (Cm.rText st2).2).1.take j) : Nat) : Int) (j : Int) w3) ?_
        intro j hj ihj
        refine hY _ _ _ ?_
        unfold T_ref08_scan_targets_3_body
        rw [← hln]
        refine ite_d (fun hc => ?_) fun hc => ?_
        · have hjl : j < (Cm.rRow 8 (Cm.rText st2).2).1.length := by omega
          obtain ⟨ad, ha, hrd⟩ := row_at hr hm1 h3 hjl
          refine ⟨by omega, by omega, ad, ha, _, by rw [Int.toNat_natCast]; exact hrd, ?_⟩
          have e := bits_next (Cm.rRow 8 (Cm.rText st2).2).1 j hjl
          have hb1 := bits_small (Cm.rRow 8 (Cm.rText st2).2).1 hl8 (j + 1) (by omega)
          have h256 := ((Cm.rRow 8 (Cm.rText st2).2).1[j]).toNat_lt
          rw [e] at hb1
          rw [show ((Cm.bits ((Cm.rRow 8 (Cm.rText st2).2).1.take j) : Nat) : Int) * 256 = ((Cm.bits ((Cm.rRow 8 (Cm.rText st2).2).1.take j) * 256 : Nat) : Int) from by push_cast; rfl, wrap_u64 (n := Cm.bits ((Cm.rRow 8 (Cm.rText st2).2).1.take j) * 256) (by omega), wrap_u64 (n := ((Cm.rRow 8 (Cm.rText st2).2).1[j]).toNat) (by omega),
            show ((Cm.bits ((Cm.rRow 8 (Cm.rText st2).2).1.take j) * 256 : Nat) : Int) + ((((Cm.rRow 8 (Cm.rText st2).2).1[j]).toNat : Nat) : Int) = ((Cm.bits ((Cm.rRow 8 (Cm.rText st2).2).1.take j) * 256 + ((Cm.rRow 8 (Cm.rText st2).2).1[j]).toNat : Nat) : Int) from by push_cast; rfl, wrap_u64 hb1, ← e, succ_big (by unfold big; omega)]
          exact ihj hjl
        · rw [List.take_of_length_le (by omega)]
          refine runV_ok run_ffrom ⟨_, rfl, ?_⟩
          rw [Int.toNat_natCast]
          intro w23
          obtain ⟨s', w', hr', hs'⟩ := app_t1 (t := (Cm.rTgt st2).1) h3.f1 (by omega)
          refine runV_ok hr' ⟨_, _, _, rfl, ?_⟩
          rw [succ_big (by unfold big; omega)]
          have := ih s' (xs ++ [(Cm.rTgt st2).1]) (Cm.rTgt st2).2 w' (by simp; omega) hs' (by
            rw [he]
            simp only [Cm.rMany, hb, Bool.false_eq_true, if_false, List.append_assoc, List.cons_append, List.nil_append])
          simpa using this
      · have := k w s
        rw [he, rMany_bad _ _ hb, List.append_nil] at this
        exact this h
  exact go _ (some ⟨w.heap.size, 0, none⟩, 0, 0) [] _ w1 (by simp) h1.f1 rfl
end
end Go.Vc

/-
  Commands out of bytes; targets, commands, configurations held against each other.
-/
namespace Go.Vc
open Go Go.Proofs Go.Proofs.YtcpmfjclkdjfmaaGreat
set_option maxRecDepth 100000

section
variable {E w : World} {L : List Asrt} {R : Ending → World → Prop} {F : Fz} {q : Sl} {b : Cm.Bs} {st : Cm.Ps} {p ty : Nat}

/-! ### the end -/
def endE (st : Cm.Ps) (v : Bool) : Int := match st with
  | .error e => e
  | .ok r => if r ≠ [] ∨ v = false then 4 else 0
theorem drop_nil {a : Nat} (ha : a ≤ b.length) : b.drop a = [] ↔ ¬ a < b.length := by
  rw [List.drop_eq_nil_iff]; omega
theorem end_spec {g : FuncId} {gi gc : Array Value} {v : Bool} (hs : Src F q b) (hb : hasBody Tryz.prog g = true) (h : St E (rdrA 116 p q b st :: L) w)
    (hc : ∀ (A : Asrt) (w : World) (R : Ending → World → Prop), Cm.bad st = false → St E (A :: L) w → (∀ w', St E (A :: L) w' → R (.returned (.bool v)) w') → Calls Tryz.prog g ⟨gi.toList ++ ([] ++ gc.toList)⟩ w R)
    (k : ∀ w', St E L w' → R (.returned (.int .i64 (endE st v))) w') : Calls Tryz.prog 66 #[.pointer (some ⟨p, 0, none⟩), .func (.func g) gi gc] w R := by
  have hlen := hs.len
  obtain ⟨a, e, ho, h0⟩ := h.rdr_open
  refine C_conf_reader_end ?_
  unfold T_conf_reader_end T_conf_reader_end_1
  intro w5
  have h5 := h0.drew
  refine ⟨_, rfl, _, rd_fld h5.at_blk rfl rfl, ?_⟩
  rw [eq_dec]
  cases st with
  | error x =>
    obtain ⟨rfl, hx⟩ := ho
    refine ite_d (fun hh => absurd hh hx) fun _ => ⟨⟨rd_fld h5.at_blk rfl rfl, trivial⟩, ite_b (fun hh => by cases hh) fun _ => ⟨_, rfl, _, rd_fld h5.at_blk rfl rfl, k _ h5.drop⟩⟩
  | ok r =>
    obtain ⟨rfl, hab, rfl⟩ := ho
    have four : ∀ w1, St E (blkL p 116 (rdrL q a 0) :: L) w1 → endE (.ok (b.drop a)) v = 4 → ∃ a20, some (⟨p, 0, none⟩ : Addr) = some a20 ∧ (.int .i64 4 : Value).cells.size = 1 ∧ wrOk w1 (a20.add 2) (.int .i64 4) ∧ let w21 : World := wr w1 (a20.add 2) (.int .i64 4)
        ∃ a22, some (⟨p, 0, none⟩ : Addr) = some a22 ∧ ∃ x23 : Int, rd w21 (a22.add 2) (.int .i64 x23) ∧ R (.returned (.int .i64 x23)) w21 := fun w1 h1 e4 => by
      refine ⟨_, rfl, rfl, wrOk_fld h1.at_blk (by simp [rdrL]) rfl, ?_⟩
      intro w21
      have h21 : St E (blkL p 116 (rdrL q a 4) :: L) w21 := h1.wr_fld (k := 2) (v := .int .i64 4) rfl
      exact ⟨_, rfl, _, rd_fld h21.at_blk rfl rfl, congI (k _ h21.drop) e4⟩
    refine ite_d (fun _ => ⟨_, rfl, _, rd_fld h5.at_blk rfl rfl, _, rfl, _, _, _, rd_cell h5.at_blk rfl rfl, ite_d (fun hlt => ?_) fun hge => ?_⟩) fun hh => absurd rfl hh
    · refine ⟨⟨rd_cell h5.at_blk rfl rfl, rd_fld h5.at_blk rfl rfl, trivial⟩, ite_b (fun _ => four _ h5 ?_) fun hh => by cases hh⟩
      have : b.drop a ≠ [] := by rw [Ne, drop_nil hab]; omega
      simp [endE, this]
    · have hnil : b.drop a = [] := (drop_nil hab).2 (by omega)
      refine ⟨hb, hc _ _ _ rfl h5 fun w1 h1 => ⟨_, rfl, ⟨rd_cell h1.at_blk rfl rfl, rd_fld h1.at_blk rfl rfl, trivial⟩, ite_n (fun hv => four _ h1 ?_) fun hv => ⟨_, rfl, _, rd_fld h1.at_blk rfl rfl, congI (k _ h1.drop) ?_⟩⟩⟩
      · simp [endE, hv]
      · simp [endE, hv, hnil]

/-! ### a command out of bytes -/
theorem rText_len (st : Cm.Ps) : (Cm.rText st).1.length ≤ 128 := Nat.le_trans (rRow_len _ _) (rNum_le 128 st)
theorem rMany_all {α : Type} {f : Cm.Ps → α × Cm.Ps} {g : α → Prop} (hf : ∀ s, g (f s).1) : ∀ (n : Nat) (s : Cm.Ps), (Cm.rMany f n s).1.length ≤ n ∧ ∀ a ∈ (Cm.rMany f n s).1, g a
  | 0, s => ⟨by simp [Cm.rMany], fun a ha => by simp [Cm.rMany] at ha⟩
  | n + 1, s => by
    unfold Cm.rMany
    split
    · exact ⟨by simp, fun a ha => by simp at ha⟩
    · obtain ⟨h1, h2⟩ := rMany_all hf n (f s).2
      refine ⟨by simpa using h1, fun a ha => ?_⟩
      rcases List.mem_cons.1 ha with rfl | ha
      · exact hf s
      · exact h2 a ha
theorem bits_all (l : Cm.Bs) (hl : l.length ≤ 8) : Cm.bits l < two64 := by
  have := bits_small l hl l.length (Nat.le_refl _)
  rwa [List.take_length] at this
theorem rTgs_short (st : Cm.Ps) : shortTs (Cm.rTgs st).1 := by
  obtain ⟨h1, h2⟩ := rMany_all (f := Cm.rTgt) (g := fun t => t.addr.length ≤ 128 ∧ t.w < two64) (fun s => ⟨rText_len s, bits_all _ (rRow_len 8 _)⟩) (Cm.rNum 16 st).1 (Cm.rNum 16 st).2
  exact ⟨Nat.le_trans h1 (rNum_le 16 st), h2⟩
end
end Go.Vc

/-
  What the functions' code comes to; printed by a program of this claim's own.
-/
namespace Go.Proofs.YtcpmfjclkdjfmaaGreat
open Go Go.Vc
set_option maxRecDepth 100000
set_option linter.unusedVariables false

/-! tollgate/conf.Load -/
def T_conf_Load_2 (r25 : Addr) (n26 : Int) (w : World) (Kn : Bool → World → Prop) (Kp : List PanicEntry → World → Prop) : Prop :=
  if (decide ((n26 : Int) > 0)) = true then (∃ a27, some r25 = some a27 ∧ ∃ x28 : Int, rd w (a27.add 2) (.int .i64 x28) ∧ Kn ((x28 : Int) == 0) w) else (Kn false w)

def T_conf_Load_2_outs : Exit → Option (List (Nat × Value)) := fun x => match x with | .normal => some [(41, .bool false)] | .panic _ => some [] | _ => none

def T_conf_Load_2_ks : Nat → Bool := ksOf [33, 34, 35, 36, 37, 38, 39, 40, 41]

def H_conf_Load_2 : Env → World → QT → Prop := unitHook 239 T_conf_Load_2_ks [(4, .pointer (some ⟨0, 0, none⟩)), (8, .int .i64 0)] T_conf_Load_2_outs fun l w C => match l with | [v0, v1] => T_conf_Load_2 (pAddr v0) (pInt v1) w (fun b30 w => C .normal [.bool b30] w) (fun ch w => C (.panic ch) [] w) | _ => False

theorem T_conf_Load_2_hl : allP (hokL Tryz.prog (hookAt []) (at_ (bodyOf Tryz.f33) [1, 1, 1, 1, 1, 0, 1, 0, 0, 0, 0]) 4048) = (True) := by kernel_rfl
theorem T_conf_Load_2_hok : HOk Tryz.prog (hookAt []) (at_ (bodyOf Tryz.f33) [1, 1, 1, 1, 1, 0, 1, 0, 0, 0, 0]) 4048 := HOk_of _ _ (by rw [T_conf_Load_2_hl]; exact trivial)

theorem T_conf_Load_2_eq (C : Conts) (r25 : Addr) (n26 : Int) (w : World) : vcCode Tryz.prog (hookAt []) (at_ (bodyOf Tryz.f33) [1, 1, 1, 1, 1, 0, 1, 0, 0, 0, 0]) 4048 ⟨[(4, .pointer (some r25)), (8, .int .i64 n26)], 239, []⟩ w (unitQ T_conf_Load_2_outs C) = T_conf_Load_2 r25 n26 w (fun b31 w => C .normal [.bool b31] w) (fun ch w => C (.panic ch) [] w) := by kernel_rfl

theorem T_conf_Load_2_ok : UnitOk Tryz.prog H_conf_Load_2 (at_ (bodyOf Tryz.f33) [1, 1, 1, 1, 1, 0, 1, 0, 0, 0, 0]) 4048 := unit_ok (H := (hookAt [])) (by kernel_rfl) T_conf_Load_2_hok fun l w C hk => by
    obtain ⟨v0, l_v0, rfl, k_v0, hk_v0⟩ := Kinds.cons_ hk
    obtain ⟨r25, rfl⟩ := kind_addr k_v0
    obtain ⟨v1, l_v1, rfl, k_v1, hk_v1⟩ := Kinds.cons_ hk_v0
    obtain ⟨n26, rfl⟩ := kind_int k_v1
    obtain rfl := Kinds.nil_ hk_v1
    exact T_conf_Load_2_eq C r25 n26 w

def T_conf_Load_1_body (X : ByteArray → Int → World → Prop) (last20 : ByteArray) (n21 : Int) (r22 : Addr) (s23 : Addr) (ok24 : Addr) (w : World) (Kn : World → Prop) (Kp : List PanicEntry → World → Prop)  : Prop :=
  T_conf_Load_2 r22 n21 w (fun b32 w33 => if b32 = true then (Calls Tryz.prog 64 #[.pointer (some r22)] w33 (ret (fun r34 w35 => ∃ s36 : ByteArray, r34 = .string s36 ∧ let w37 : World := w35.drew
  ∃ p38 : Option Addr, rd w37 s23 (.pointer p38) ∧ ∃ a39, p38 = some a39 ∧ ∃ m40 : Option Nat, rd w37 (a39.add 1) (.map m40) ∧ Calls Tryz.prog 65 #[.pointer (some r22)] w37 (ret (fun r41 w42 => ∃ s43a : Option Addr, ∃ s43l : Nat, ∃ s43c : Nat, r41 = .slice s43a s43l s43c ∧ (rd w42 (a39.add 1) (.map m40) ∧ rd w42 s23 (.pointer p38) ∧ True) ∧ runV Tryz.prog (Instr.mapUpdate 75 (.map m40) (.string s36) (.slice s43a s43l s43c)) w42 (fun _ w44 => (True) ∧ ∃ b45 : Bool, rd w44 ok24 (.bool b45) ∧ if b45 = true then (Calls Tryz.prog 45 #[.string s36] w44 (ret (fun r46 w47 => ∃ b48 : Bool, r46 = .bool b48 ∧ if b48 = true then (if (!(Op.bytesLess s36.toList last20.toList || s36.toList == last20.toList)) = true then (∃ p49 : Option Addr, rd w47 s23 (.pointer p49) ∧ ∃ a50, p49 = some a50 ∧ ∃ m51 : Option Nat, rd w47 (a50.add 1) (.map m51) ∧ runV Tryz.prog (Instr.lookup 75 (.map m51) (.string s36) false) w47 (fun r52 w53 => ∃ s54a : Option Addr, ∃ s54l : Nat, ∃ s54c : Nat, r52 = .slice s54a s54l s54c ∧ Calls Tryz.prog 48 #[.slice s54a s54l s54c] w53 (ret (fun r55 w56 => ∃ x57 : Int, r55 = .int .i64 x57 ∧ (.bool ((x57 : Int) == 0) : Value).cells.size = 1 ∧ wrOk w56 ok24 (.bool ((x57 : Int) == 0)) ∧ let w58 : World := wr w56 ok24 (.bool ((x57 : Int) == 0))
  X s36 (IntKind.wrap .i64 ((n21 : Int) - 1)) w58) Kp)) Kp) else ((.bool false : Value).cells.size = 1 ∧ wrOk w47 ok24 (.bool false) ∧ let w59 : World := wr w47 ok24 (.bool false)
  X s36 (IntKind.wrap .i64 ((n21 : Int) - 1)) w59)) else ((.bool false : Value).cells.size = 1 ∧ wrOk w47 ok24 (.bool false) ∧ let w60 : World := wr w47 ok24 (.bool false)
  X s36 (IntKind.wrap .i64 ((n21 : Int) - 1)) w60)) Kp)) else ((.bool false : Value).cells.size = 1 ∧ wrOk w44 ok24 (.bool false) ∧ let w61 : World := wr w44 ok24 (.bool false)
  X s36 (IntKind.wrap .i64 ((n21 : Int) - 1)) w61)) Kp) Kp)) Kp)) else (Kn  w33)) Kp

def T_conf_Load_1 (last20 : ByteArray) (n21 : Int) (r22 : Addr) (s23 : Addr) (ok24 : Addr) (w : World) (Kn : World → Prop) (Kp : List PanicEntry → World → Prop) : Prop :=
  ∀ X : ByteArray → Int → World → Prop, (∀ (last20 : ByteArray) (n21 : Int) (w : World), T_conf_Load_1_body X last20 n21 r22 s23 ok24 w Kn Kp → X last20 n21 w) → X last20 n21 w

def T_conf_Load_1_outs : Exit → Option (List (Nat × Value)) := fun x => match x with | .normal => some [] | .panic _ => some [] | _ => none

def T_conf_Load_1_ks : Nat → Bool := ksOf [7, 8, 9, 33, 34, 35, 36, 37, 38, 39, 40, 41, 42, 43, 44, 45, 46, 47, 48, 49, 50, 51, 52, 53, 54, 55, 56, 57, 58, 59, 60, 61, 62, 63, 64, 65, 66, 67, 68, 69, 70, 71, 72, 73]

def H_conf_Load_1 : Env → World → QT → Prop := unitHook 239 T_conf_Load_1_ks [(7, .string default), (8, .int .i64 0), (4, .pointer (some ⟨0, 0, none⟩)), (5, .pointer (some ⟨0, 0, none⟩)), (6, .pointer (some ⟨0, 0, none⟩))] T_conf_Load_1_outs fun l w C => match l with | [v0, v1, v2, v3, v4] => T_conf_Load_1 (pStr v0) (pInt v1) (pAddr v2) (pAddr v3) (pAddr v4) w (fun w => C .normal [] w) (fun ch w => C (.panic ch) [] w) | _ => False

theorem T_conf_Load_1_hl : allP (hokL Tryz.prog (hookAt [(4048, H_conf_Load_2)]) (at_ (bodyOf Tryz.f33) [1, 1, 1, 1, 1, 0, 1, 0, 0]) 1012) = (UnitOk Tryz.prog H_conf_Load_2 (at_ (bodyOf Tryz.f33) [1, 1, 1, 1, 1, 0, 1, 0, 0, 0, 0]) 4048 ∧ True) := by kernel_rfl
theorem T_conf_Load_1_hok : HOk Tryz.prog (hookAt [(4048, H_conf_Load_2)]) (at_ (bodyOf Tryz.f33) [1, 1, 1, 1, 1, 0, 1, 0, 0]) 1012 := HOk_of _ _ (by rw [T_conf_Load_1_hl]; exact ⟨T_conf_Load_2_ok, trivial⟩)

theorem T_conf_Load_1_eq (C : Conts) (X : List Value → World → Prop) (last20 : ByteArray) (n21 : Int) (r22 : Addr) (s23 : Addr) (ok24 : Addr) (w : World) : vcCode Tryz.prog (hookAt [(4048, H_conf_Load_2)]) (at_ (bodyOf Tryz.f33) [1, 1, 1, 1, 1, 0, 1, 0, 0]) 1012 ⟨[(7, .string last20), (8, .int .i64 n21)] ++ [(4, .pointer (some r22)), (5, .pointer (some s23)), (6, .pointer (some ok24))], 239, []⟩ w (seqQ (fun e w => takeAll e [(7, .string default), (8, .int .i64 0)] fun l => X l w) (blockQ 0 (unitQ T_conf_Load_1_outs C))) = T_conf_Load_1_body (fun last20 n21 w => X [.string last20, .int .i64 n21] w) last20 n21 r22 s23 ok24 w (fun w => C .normal [] w) (fun ch w => C (.panic ch) [] w) := by kernel_rfl

theorem T_conf_Load_1_ok : UnitOk Tryz.prog H_conf_Load_1 (at_ (bodyOf Tryz.f33) [1, 1, 1, 1, 1, 0, 1]) 253 := by
  have hc : at_ (bodyOf Tryz.f33) [1, 1, 1, 1, 1, 0, 1] = .block 0 (.loop (at_ (bodyOf Tryz.f33) [1, 1, 1, 1, 1, 0, 1, 0, 0])) := by kernel_rfl
  rw [hc]
  refine loop_unit_ok (carr := [(7, .string default), (8, .int .i64 0)]) (fix := [(4, .pointer (some ⟨0, 0, none⟩)), (5, .pointer (some ⟨0, 0, none⟩)), (6, .pointer (some ⟨0, 0, none⟩))]) (ks := T_conf_Load_1_ks) (H := (hookAt [(4048, H_conf_Load_2)])) (B := fun C X l u w => match l, u with | [v0, v1], [v2, v3, v4] => T_conf_Load_1_body (fun last20 n21 w => X [.string last20, .int .i64 n21] w) (pStr v0) (pInt v1) (pAddr v2) (pAddr v3) (pAddr v4) w (fun w => C .normal [] w) (fun ch w => C (.panic ch) [] w) | _, _ => False) (by kernel_rfl) (by kernel_rfl) T_conf_Load_1_hok ?_ ?_
  · intro C X l u w hl hu
    obtain ⟨v0, l_v0, rfl, k_v0, hl_v0⟩ := Kinds.cons_ hl
    obtain ⟨last20, rfl⟩ := kind_string k_v0
    obtain ⟨v1, l_v1, rfl, k_v1, hl_v1⟩ := Kinds.cons_ hl_v0
    obtain ⟨n21, rfl⟩ := kind_int k_v1
    obtain rfl := Kinds.nil_ hl_v1
    obtain ⟨v2, l_v2, rfl, k_v2, hu_v2⟩ := Kinds.cons_ hu
    obtain ⟨r22, rfl⟩ := kind_addr k_v2
    obtain ⟨v3, l_v3, rfl, k_v3, hu_v3⟩ := Kinds.cons_ hu_v2
    obtain ⟨s23, rfl⟩ := kind_addr k_v3
    obtain ⟨v4, l_v4, rfl, k_v4, hu_v4⟩ := Kinds.cons_ hu_v3
    obtain ⟨ok24, rfl⟩ := kind_addr k_v4
    obtain rfl := Kinds.nil_ hu_v4
    exact T_conf_Load_1_eq C X last20 n21 r22 s23 ok24 w
  · intro l u w C hl hu
    obtain ⟨v0, l_v0, rfl, k_v0, hl_v0⟩ := Kinds.cons_ hl
    obtain ⟨last20, rfl⟩ := kind_string k_v0
    obtain ⟨v1, l_v1, rfl, k_v1, hl_v1⟩ := Kinds.cons_ hl_v0
    obtain ⟨n21, rfl⟩ := kind_int k_v1
    obtain rfl := Kinds.nil_ hl_v1
    obtain ⟨v2, l_v2, rfl, k_v2, hu_v2⟩ := Kinds.cons_ hu
    obtain ⟨r22, rfl⟩ := kind_addr k_v2
    obtain ⟨v3, l_v3, rfl, k_v3, hu_v3⟩ := Kinds.cons_ hu_v2
    obtain ⟨s23, rfl⟩ := kind_addr k_v3
    obtain ⟨v4, l_v4, rfl, k_v4, hu_v4⟩ := Kinds.cons_ hu_v3
    obtain ⟨ok24, rfl⟩ := kind_addr k_v4
    obtain rfl := Kinds.nil_ hu_v4
    constructor
    · intro h X hX
      exact h (fun last20 n21 w => X [.string last20, .int .i64 n21] w) (fun last20 n21 w hb => hX [.string last20, .int .i64 n21] w ⟨rfl, rfl, trivial⟩ hb)
    · intro h X hX
      exact h (fun l w => match l with | [v0, v1] => X (pStr v0) (pInt v1) w | _ => True) (fun l w hl hb => by
        obtain ⟨v0, l_v0, rfl, k_v0, hl_v0⟩ := Kinds.cons_ hl
        obtain ⟨last20, rfl⟩ := kind_string k_v0
        obtain ⟨v1, l_v1, rfl, k_v1, hl_v1⟩ := Kinds.cons_ hl_v0
        obtain ⟨n21, rfl⟩ := kind_int k_v1
        obtain rfl := Kinds.nil_ hl_v1
        exact hX last20 n21 w hb)

def T_conf_Load_4 (r73 : Addr) (n74 : Int) (w : World) (Kn : Bool → World → Prop) (Kp : List PanicEntry → World → Prop) : Prop :=
  if (decide ((n74 : Int) > 0)) = true then (∃ a75, some r73 = some a75 ∧ ∃ x76 : Int, rd w (a75.add 2) (.int .i64 x76) ∧ Kn ((x76 : Int) == 0) w) else (Kn false w)

def T_conf_Load_4_outs : Exit → Option (List (Nat × Value)) := fun x => match x with | .normal => some [(85, .bool false)] | .panic _ => some [] | _ => none

def T_conf_Load_4_ks : Nat → Bool := ksOf [77, 78, 79, 80, 81, 82, 83, 84, 85]

def H_conf_Load_4 : Env → World → QT → Prop := unitHook 239 T_conf_Load_4_ks [(4, .pointer (some ⟨0, 0, none⟩)), (11, .int .i64 0)] T_conf_Load_4_outs fun l w C => match l with | [v0, v1] => T_conf_Load_4 (pAddr v0) (pInt v1) w (fun b78 w => C .normal [.bool b78] w) (fun ch w => C (.panic ch) [] w) | _ => False

theorem T_conf_Load_4_hl : allP (hokL Tryz.prog (hookAt []) (at_ (bodyOf Tryz.f33) [1, 1, 1, 1, 1, 1, 1, 0, 1, 0, 0, 0, 0]) 16336) = (True) := by kernel_rfl
theorem T_conf_Load_4_hok : HOk Tryz.prog (hookAt []) (at_ (bodyOf Tryz.f33) [1, 1, 1, 1, 1, 1, 1, 0, 1, 0, 0, 0, 0]) 16336 := HOk_of _ _ (by rw [T_conf_Load_4_hl]; exact trivial)

theorem T_conf_Load_4_eq (C : Conts) (r73 : Addr) (n74 : Int) (w : World) : vcCode Tryz.prog (hookAt []) (at_ (bodyOf Tryz.f33) [1, 1, 1, 1, 1, 1, 1, 0, 1, 0, 0, 0, 0]) 16336 ⟨[(4, .pointer (some r73)), (11, .int .i64 n74)], 239, []⟩ w (unitQ T_conf_Load_4_outs C) = T_conf_Load_4 r73 n74 w (fun b79 w => C .normal [.bool b79] w) (fun ch w => C (.panic ch) [] w) := by kernel_rfl

theorem T_conf_Load_4_ok : UnitOk Tryz.prog H_conf_Load_4 (at_ (bodyOf Tryz.f33) [1, 1, 1, 1, 1, 1, 1, 0, 1, 0, 0, 0, 0]) 16336 := unit_ok (H := (hookAt [])) (by kernel_rfl) T_conf_Load_4_hok fun l w C hk => by
    obtain ⟨v0, l_v0, rfl, k_v0, hk_v0⟩ := Kinds.cons_ hk
    obtain ⟨r73, rfl⟩ := kind_addr k_v0
    obtain ⟨v1, l_v1, rfl, k_v1, hk_v1⟩ := Kinds.cons_ hk_v0
    obtain ⟨n74, rfl⟩ := kind_int k_v1
    obtain rfl := Kinds.nil_ hk_v1
    exact T_conf_Load_4_eq C r73 n74 w

def T_conf_Load_3_body (X : Int → World → Prop) (n68 : Int) (r69 : Addr) (s70 : Addr) (ok71 : Addr) (was72 : Addr) (w : World) (Kn : World → Prop) (Kp : List PanicEntry → World → Prop)  : Prop :=
  T_conf_Load_4 r69 n68 w (fun b80 w81 => if b80 = true then (Calls Tryz.prog 64 #[.pointer (some r69)] w81 (ret (fun r82 w83 => ∃ s84 : ByteArray, r82 = .string s84 ∧ Calls Tryz.prog 64 #[.pointer (some r69)] w83 (ret (fun r85 w86 => ∃ s87 : ByteArray, r85 = .string s87 ∧ let w88 : World := w86.alloc (.cells #[.string (ByteArray.mk #[]), .string (ByteArray.mk #[])] 89)
  (.agg #[.string s84, .string s87] : Value).cells.size = 2 ∧ wrOk w88 (⟨w86.heap.size, 0, none⟩ : Addr) (.agg #[.string s84, .string s87]) ∧ let w89 : World := wr w88 (⟨w86.heap.size, 0, none⟩ : Addr) (.agg #[.string s84, .string s87])
  Calls Tryz.prog 64 #[.pointer (some r69)] w89 (ret (fun r90 w91 => ∃ s92 : ByteArray, r90 = .string s92 ∧ ∃ p93 : Option Addr, rd w91 s70 (.pointer p93) ∧ ∃ a94, p93 = some a94 ∧ ∃ m95 : Option Nat, rd w91 (a94.add 1) (.map m95) ∧ runV Tryz.prog (Instr.lookup 75 (.map m95) (.string s92) true) w91 (fun r96 w97 => ∃ s98a : Option Addr, ∃ s98l : Nat, ∃ s98c : Nat, ∃ b99 : Bool, r96 = .tuple #[.slice s98a s98l s98c, .bool b99] ∧ let w100 : World := w97.drew
  ∃ p101 : Option Addr, rd w100 s70 (.pointer p101) ∧ ∃ a102, p101 = some a102 ∧ ∃ m103 : Option Nat, rd w100 (a102.add 2) (.map m103) ∧ ∃ s104 : ByteArray, ∃ s105 : ByteArray, rd w100 (⟨w86.heap.size, 0, none⟩ : Addr) (.agg #[.string s104, .string s105]) ∧ runV Tryz.prog (Instr.mapUpdate 76 (.map m103) (.agg #[.string s104, .string s105]) (.string s92)) w100 (fun _ w106 => (True) ∧ ∃ b107 : Bool, rd w106 ok71 (.bool b107) ∧ if b107 = true then (if b99 = true then (∃ s108 : ByteArray, rd w106 (⟨w86.heap.size, 0, none⟩ : Addr) (.string s108) ∧ Calls Tryz.prog 46 #[.string s108] w106 (ret (fun r109 w110 => ∃ b111 : Bool, r109 = .bool b111 ∧ if b111 = true then (∃ s112 : ByteArray, rd w110 ((⟨w86.heap.size, 0, none⟩ : Addr).add 1) (.string s112) ∧ Calls Tryz.prog 47 #[.string s112] w110 (ret (fun r113 w114 => ∃ b115 : Bool, r113 = .bool b115 ∧ if b115 = true then (∃ s116 : ByteArray, rd w114 (⟨w86.heap.size, 0, none⟩ : Addr) (.string s116) ∧ ∃ s117 : ByteArray, rd w114 was72 (.string s117) ∧ if (!(Op.bytesLess s116.toList s117.toList || s116.toList == s117.toList)) = true then ((.bool true : Value).cells.size = 1 ∧ wrOk w114 ok71 (.bool true) ∧ let w118 : World := wr w114 ok71 (.bool true)
  ∃ s119 : ByteArray, ∃ s120 : ByteArray, rd w118 (⟨w86.heap.size, 0, none⟩ : Addr) (.agg #[.string s119, .string s120]) ∧ (.agg #[.string s119, .string s120] : Value).cells.size = 2 ∧ wrOk w118 was72 (.agg #[.string s119, .string s120]) ∧ let w121 : World := wr w118 was72 (.agg #[.string s119, .string s120])
  X (IntKind.wrap .i64 ((n68 : Int) - 1)) w121) else (∃ s122 : ByteArray, rd w114 (⟨w86.heap.size, 0, none⟩ : Addr) (.string s122) ∧ ∃ s123 : ByteArray, rd w114 was72 (.string s123) ∧ if (s122.toList == s123.toList) = true then (∃ s124 : ByteArray, rd w114 ((⟨w86.heap.size, 0, none⟩ : Addr).add 1) (.string s124) ∧ ∃ s125 : ByteArray, rd w114 (was72.add 1) (.string s125) ∧ (.bool (!(Op.bytesLess s124.toList s125.toList || s124.toList == s125.toList)) : Value).cells.size = 1 ∧ wrOk w114 ok71 (.bool (!(Op.bytesLess s124.toList s125.toList || s124.toList == s125.toList))) ∧ let w126 : World := wr w114 ok71 (.bool (!(Op.bytesLess s124.toList s125.toList || s124.toList == s125.toList)))
  ∃ s127 : ByteArray, ∃ s128 : ByteArray, rd w126 (⟨w86.heap.size, 0, none⟩ : Addr) (.agg #[.string s127, .string s128]) ∧ (.agg #[.string s127, .string s128] : Value).cells.size = 2 ∧ wrOk w126 was72 (.agg #[.string s127, .string s128]) ∧ let w129 : World := wr w126 was72 (.agg #[.string s127, .string s128])
  X (IntKind.wrap .i64 ((n68 : Int) - 1)) w129) else ((.bool false : Value).cells.size = 1 ∧ wrOk w114 ok71 (.bool false) ∧ let w130 : World := wr w114 ok71 (.bool false)
  ∃ s131 : ByteArray, ∃ s132 : ByteArray, rd w130 (⟨w86.heap.size, 0, none⟩ : Addr) (.agg #[.string s131, .string s132]) ∧ (.agg #[.string s131, .string s132] : Value).cells.size = 2 ∧ wrOk w130 was72 (.agg #[.string s131, .string s132]) ∧ let w133 : World := wr w130 was72 (.agg #[.string s131, .string s132])
  X (IntKind.wrap .i64 ((n68 : Int) - 1)) w133))) else ((.bool false : Value).cells.size = 1 ∧ wrOk w114 ok71 (.bool false) ∧ let w134 : World := wr w114 ok71 (.bool false)
  ∃ s135 : ByteArray, ∃ s136 : ByteArray, rd w134 (⟨w86.heap.size, 0, none⟩ : Addr) (.agg #[.string s135, .string s136]) ∧ (.agg #[.string s135, .string s136] : Value).cells.size = 2 ∧ wrOk w134 was72 (.agg #[.string s135, .string s136]) ∧ let w137 : World := wr w134 was72 (.agg #[.string s135, .string s136])
  X (IntKind.wrap .i64 ((n68 : Int) - 1)) w137)) Kp)) else ((.bool false : Value).cells.size = 1 ∧ wrOk w110 ok71 (.bool false) ∧ let w138 : World := wr w110 ok71 (.bool false)
  ∃ s139 : ByteArray, ∃ s140 : ByteArray, rd w138 (⟨w86.heap.size, 0, none⟩ : Addr) (.agg #[.string s139, .string s140]) ∧ (.agg #[.string s139, .string s140] : Value).cells.size = 2 ∧ wrOk w138 was72 (.agg #[.string s139, .string s140]) ∧ let w141 : World := wr w138 was72 (.agg #[.string s139, .string s140])
  X (IntKind.wrap .i64 ((n68 : Int) - 1)) w141)) Kp)) else ((.bool false : Value).cells.size = 1 ∧ wrOk w106 ok71 (.bool false) ∧ let w142 : World := wr w106 ok71 (.bool false)
  ∃ s143 : ByteArray, ∃ s144 : ByteArray, rd w142 (⟨w86.heap.size, 0, none⟩ : Addr) (.agg #[.string s143, .string s144]) ∧ (.agg #[.string s143, .string s144] : Value).cells.size = 2 ∧ wrOk w142 was72 (.agg #[.string s143, .string s144]) ∧ let w145 : World := wr w142 was72 (.agg #[.string s143, .string s144])
  X (IntKind.wrap .i64 ((n68 : Int) - 1)) w145)) else ((.bool false : Value).cells.size = 1 ∧ wrOk w106 ok71 (.bool false) ∧ let w146 : World := wr w106 ok71 (.bool false)
  ∃ s147 : ByteArray, ∃ s148 : ByteArray, rd w146 (⟨w86.heap.size, 0, none⟩ : Addr) (.agg #[.string s147, .string s148]) ∧ (.agg #[.string s147, .string s148] : Value).cells.size = 2 ∧ wrOk w146 was72 (.agg #[.string s147, .string s148]) ∧ let w149 : World := wr w146 was72 (.agg #[.string s147, .string s148])
  X (IntKind.wrap .i64 ((n68 : Int) - 1)) w149)) Kp) Kp) Kp)) Kp)) Kp)) else (Kn  w81)) Kp

def T_conf_Load_3 (n68 : Int) (r69 : Addr) (s70 : Addr) (ok71 : Addr) (was72 : Addr) (w : World) (Kn : World → Prop) (Kp : List PanicEntry → World → Prop) : Prop :=
  ∀ X : Int → World → Prop, (∀ (n68 : Int) (w : World), T_conf_Load_3_body X n68 r69 s70 ok71 was72 w Kn Kp → X n68 w) → X n68 w

def T_conf_Load_3_outs : Exit → Option (List (Nat × Value)) := fun x => match x with | .normal => some [] | .panic _ => some [] | _ => none

def T_conf_Load_3_ks : Nat → Bool := ksOf [11, 12, 13, 14, 15, 77, 78, 79, 80, 81, 82, 83, 84, 85, 86, 87, 88, 89, 90, 91, 92, 93, 94, 95, 96, 97, 98, 99, 100, 101, 102, 103, 104, 105, 106, 107, 108, 109, 110, 111, 112, 113, 114, 115, 116, 117, 118, 119, 120, 121, 122, 123, 124, 125, 126, 127, 128, 129, 130, 131, 132, 133, 134, 135, 136, 137, 138, 139, 140, 141, 142, 143, 144, 145]

def H_conf_Load_3 : Env → World → QT → Prop := unitHook 239 T_conf_Load_3_ks [(11, .int .i64 0), (4, .pointer (some ⟨0, 0, none⟩)), (5, .pointer (some ⟨0, 0, none⟩)), (6, .pointer (some ⟨0, 0, none⟩)), (10, .pointer (some ⟨0, 0, none⟩))] T_conf_Load_3_outs fun l w C => match l with | [v0, v1, v2, v3, v4] => T_conf_Load_3 (pInt v0) (pAddr v1) (pAddr v2) (pAddr v3) (pAddr v4) w (fun w => C .normal [] w) (fun ch w => C (.panic ch) [] w) | _ => False

theorem T_conf_Load_3_hl : allP (hokL Tryz.prog (hookAt [(16336, H_conf_Load_4)]) (at_ (bodyOf Tryz.f33) [1, 1, 1, 1, 1, 1, 1, 0, 1, 0, 0]) 4084) = (UnitOk Tryz.prog H_conf_Load_4 (at_ (bodyOf Tryz.f33) [1, 1, 1, 1, 1, 1, 1, 0, 1, 0, 0, 0, 0]) 16336 ∧ True) := by kernel_rfl
theorem T_conf_Load_3_hok : HOk Tryz.prog (hookAt [(16336, H_conf_Load_4)]) (at_ (bodyOf Tryz.f33) [1, 1, 1, 1, 1, 1, 1, 0, 1, 0, 0]) 4084 := HOk_of _ _ (by rw [T_conf_Load_3_hl]; exact ⟨T_conf_Load_4_ok, trivial⟩)

theorem T_conf_Load_3_eq (C : Conts) (X : List Value → World → Prop) (n68 : Int) (r69 : Addr) (s70 : Addr) (ok71 : Addr) (was72 : Addr) (w : World) : vcCode Tryz.prog (hookAt [(16336, H_conf_Load_4)]) (at_ (bodyOf Tryz.f33) [1, 1, 1, 1, 1, 1, 1, 0, 1, 0, 0]) 4084 ⟨[(11, .int .i64 n68)] ++ [(4, .pointer (some r69)), (5, .pointer (some s70)), (6, .pointer (some ok71)), (10, .pointer (some was72))], 239, []⟩ w (seqQ (fun e w => takeAll e [(11, .int .i64 0)] fun l => X l w) (blockQ 2 (unitQ T_conf_Load_3_outs C))) = T_conf_Load_3_body (fun n68 w => X [.int .i64 n68] w) n68 r69 s70 ok71 was72 w (fun w => C .normal [] w) (fun ch w => C (.panic ch) [] w) := by kernel_rfl

theorem T_conf_Load_3_ok : UnitOk Tryz.prog H_conf_Load_3 (at_ (bodyOf Tryz.f33) [1, 1, 1, 1, 1, 1, 1, 0, 1]) 1021 := by
  have hc : at_ (bodyOf Tryz.f33) [1, 1, 1, 1, 1, 1, 1, 0, 1] = .block 2 (.loop (at_ (bodyOf Tryz.f33) [1, 1, 1, 1, 1, 1, 1, 0, 1, 0, 0])) := by kernel_rfl
  rw [hc]
  refine loop_unit_ok (carr := [(11, .int .i64 0)]) (fix := [(4, .pointer (some ⟨0, 0, none⟩)), (5, .pointer (some ⟨0, 0, none⟩)), (6, .pointer (some ⟨0, 0, none⟩)), (10, .pointer (some ⟨0, 0, none⟩))]) (ks := T_conf_Load_3_ks) (H := (hookAt [(16336, H_conf_Load_4)])) (B := fun C X l u w => match l, u with | [v0], [v1, v2, v3, v4] => T_conf_Load_3_body (fun n68 w => X [.int .i64 n68] w) (pInt v0) (pAddr v1) (pAddr v2) (pAddr v3) (pAddr v4) w (fun w => C .normal [] w) (fun ch w => C (.panic ch) [] w) | _, _ => False) (by kernel_rfl) (by kernel_rfl) T_conf_Load_3_hok ?_ ?_
  · intro C X l u w hl hu
    obtain ⟨v0, l_v0, rfl, k_v0, hl_v0⟩ := Kinds.cons_ hl
    obtain ⟨n68, rfl⟩ := kind_int k_v0
    obtain rfl := Kinds.nil_ hl_v0
    obtain ⟨v1, l_v1, rfl, k_v1, hu_v1⟩ := Kinds.cons_ hu
    obtain ⟨r69, rfl⟩ := kind_addr k_v1
    obtain ⟨v2, l_v2, rfl, k_v2, hu_v2⟩ := Kinds.cons_ hu_v1
    obtain ⟨s70, rfl⟩ := kind_addr k_v2
    obtain ⟨v3, l_v3, rfl, k_v3, hu_v3⟩ := Kinds.cons_ hu_v2
    obtain ⟨ok71, rfl⟩ := kind_addr k_v3
    obtain ⟨v4, l_v4, rfl, k_v4, hu_v4⟩ := Kinds.cons_ hu_v3
    obtain ⟨was72, rfl⟩ := kind_addr k_v4
    obtain rfl := Kinds.nil_ hu_v4
    exact T_conf_Load_3_eq C X n68 r69 s70 ok71 was72 w
  · intro l u w C hl hu
    obtain ⟨v0, l_v0, rfl, k_v0, hl_v0⟩ := Kinds.cons_ hl
    obtain ⟨n68, rfl⟩ := kind_int k_v0
    obtain rfl := Kinds.nil_ hl_v0
    obtain ⟨v1, l_v1, rfl, k_v1, hu_v1⟩ := Kinds.cons_ hu
    obtain ⟨r69, rfl⟩ := kind_addr k_v1
    obtain ⟨v2, l_v2, rfl, k_v2, hu_v2⟩ := Kinds.cons_ hu_v1
    obtain ⟨s70, rfl⟩ := kind_addr k_v2
    obtain ⟨v3, l_v3, rfl, k_v3, hu_v3⟩ := Kinds.cons_ hu_v2
    obtain ⟨ok71, rfl⟩ := kind_addr k_v3
    obtain ⟨v4, l_v4, rfl, k_v4, hu_v4⟩ := Kinds.cons_ hu_v3
    obtain ⟨was72, rfl⟩ := kind_addr k_v4
    obtain rfl := Kinds.nil_ hu_v4
    constructor
    · intro h X hX
      exact h (fun n68 w => X [.int .i64 n68] w) (fun n68 w hb => hX [.int .i64 n68] w ⟨rfl, trivial⟩ hb)
    · intro h X hX
      exact h (fun l w => match l with | [v0] => X (pInt v0) w | _ => True) (fun l w hl hb => by
        obtain ⟨v0, l_v0, rfl, k_v0, hl_v0⟩ := Kinds.cons_ hl
        obtain ⟨n68, rfl⟩ := kind_int k_v0
        obtain rfl := Kinds.nil_ hl_v0
        exact hX n68 w hb)

def T_conf_Load_6 (r159 : Addr) (n160 : Int) (w : World) (Kn : Bool → World → Prop) (Kp : List PanicEntry → World → Prop) : Prop :=
  if (decide ((n160 : Int) > 0)) = true then (∃ a161, some r159 = some a161 ∧ ∃ x162 : Int, rd w (a161.add 2) (.int .i64 x162) ∧ Kn ((x162 : Int) == 0) w) else (Kn false w)

def T_conf_Load_6_outs : Exit → Option (List (Nat × Value)) := fun x => match x with | .normal => some [(156, .bool false)] | .panic _ => some [] | _ => none

def T_conf_Load_6_ks : Nat → Bool := ksOf [148, 149, 150, 151, 152, 153, 154, 155, 156]

def H_conf_Load_6 : Env → World → QT → Prop := unitHook 239 T_conf_Load_6_ks [(4, .pointer (some ⟨0, 0, none⟩)), (17, .int .i64 0)] T_conf_Load_6_outs fun l w C => match l with | [v0, v1] => T_conf_Load_6 (pAddr v0) (pInt v1) w (fun b164 w => C .normal [.bool b164] w) (fun ch w => C (.panic ch) [] w) | _ => False

theorem T_conf_Load_6_hl : allP (hokL Tryz.prog (hookAt []) (at_ (bodyOf Tryz.f33) [1, 1, 1, 1, 1, 1, 1, 1, 1, 0, 1, 0, 0, 0, 0]) 65488) = (True) := by kernel_rfl
theorem T_conf_Load_6_hok : HOk Tryz.prog (hookAt []) (at_ (bodyOf Tryz.f33) [1, 1, 1, 1, 1, 1, 1, 1, 1, 0, 1, 0, 0, 0, 0]) 65488 := HOk_of _ _ (by rw [T_conf_Load_6_hl]; exact trivial)

theorem T_conf_Load_6_eq (C : Conts) (r159 : Addr) (n160 : Int) (w : World) : vcCode Tryz.prog (hookAt []) (at_ (bodyOf Tryz.f33) [1, 1, 1, 1, 1, 1, 1, 1, 1, 0, 1, 0, 0, 0, 0]) 65488 ⟨[(4, .pointer (some r159)), (17, .int .i64 n160)], 239, []⟩ w (unitQ T_conf_Load_6_outs C) = T_conf_Load_6 r159 n160 w (fun b165 w => C .normal [.bool b165] w) (fun ch w => C (.panic ch) [] w) := by kernel_rfl

theorem T_conf_Load_6_ok : UnitOk Tryz.prog H_conf_Load_6 (at_ (bodyOf Tryz.f33) [1, 1, 1, 1, 1, 1, 1, 1, 1, 0, 1, 0, 0, 0, 0]) 65488 := unit_ok (H := (hookAt [])) (by kernel_rfl) T_conf_Load_6_hok fun l w C hk => by
    obtain ⟨v0, l_v0, rfl, k_v0, hk_v0⟩ := Kinds.cons_ hk
    obtain ⟨r159, rfl⟩ := kind_addr k_v0
    obtain ⟨v1, l_v1, rfl, k_v1, hk_v1⟩ := Kinds.cons_ hk_v0
    obtain ⟨n160, rfl⟩ := kind_int k_v1
    obtain rfl := Kinds.nil_ hk_v1
    exact T_conf_Load_6_eq C r159 n160 w

def T_conf_Load_7 (x190 : Addr) (w : World) (Kn : Bool → World → Prop) (Kp : List PanicEntry → World → Prop) : Prop :=
  ∃ x191 : Int, rd w (x190.add 1) (.int .i64 x191) ∧ if ((x191 : Int) == 0) = true then (Kn true w) else (∃ x192 : Int, rd w (x190.add 1) (.int .i64 x192) ∧ if ((x192 : Int) == 6) = true then (Kn true w) else (∃ x193 : Int, rd w (x190.add 1) (.int .i64 x193) ∧ if ((x193 : Int) == 8) = true then (Kn true w) else (∃ x194 : Int, rd w (x190.add 1) (.int .i64 x194) ∧ if ((x194 : Int) == 12) = true then (Kn true w) else (∃ x195 : Int, rd w (x190.add 1) (.int .i64 x195) ∧ Kn ((x195 : Int) == 13) w))))

def T_conf_Load_7_outs : Exit → Option (List (Nat × Value)) := fun x => match x with | .normal => some [(20, .bool false)] | .panic _ => some [] | _ => none

def T_conf_Load_7_ks : Nat → Bool := ksOf [20, 175, 176, 177, 178, 179, 180, 181, 182, 183, 184, 185, 186, 187, 188, 189, 190, 191, 192, 193, 194, 195, 196, 197, 198, 199, 200, 201, 202]

def H_conf_Load_7 : Env → World → QT → Prop := unitHook 239 T_conf_Load_7_ks [(19, .pointer (some ⟨0, 0, none⟩))] T_conf_Load_7_outs fun l w C => match l with | [v0] => T_conf_Load_7 (pAddr v0) w (fun told197 w => C .normal [.bool told197] w) (fun ch w => C (.panic ch) [] w) | _ => False

theorem T_conf_Load_7_hl : allP (hokL Tryz.prog (hookAt []) (at_ (bodyOf Tryz.f33) [1, 1, 1, 1, 1, 1, 1, 1, 1, 0, 1, 0, 0, 1, 0, 0, 1, 1, 1, 0]) 2095694) = (True) := by kernel_rfl
theorem T_conf_Load_7_hok : HOk Tryz.prog (hookAt []) (at_ (bodyOf Tryz.f33) [1, 1, 1, 1, 1, 1, 1, 1, 1, 0, 1, 0, 0, 1, 0, 0, 1, 1, 1, 0]) 2095694 := HOk_of _ _ (by rw [T_conf_Load_7_hl]; exact trivial)

theorem T_conf_Load_7_eq (C : Conts) (x190 : Addr) (w : World) : vcCode Tryz.prog (hookAt []) (at_ (bodyOf Tryz.f33) [1, 1, 1, 1, 1, 1, 1, 1, 1, 0, 1, 0, 0, 1, 0, 0, 1, 1, 1, 0]) 2095694 ⟨[(19, .pointer (some x190))], 239, []⟩ w (unitQ T_conf_Load_7_outs C) = T_conf_Load_7 x190 w (fun told198 w => C .normal [.bool told198] w) (fun ch w => C (.panic ch) [] w) := by kernel_rfl

theorem T_conf_Load_7_ok : UnitOk Tryz.prog H_conf_Load_7 (at_ (bodyOf Tryz.f33) [1, 1, 1, 1, 1, 1, 1, 1, 1, 0, 1, 0, 0, 1, 0, 0, 1, 1, 1, 0]) 2095694 := unit_ok (H := (hookAt [])) (by kernel_rfl) T_conf_Load_7_hok fun l w C hk => by
    obtain ⟨v0, l_v0, rfl, k_v0, hk_v0⟩ := Kinds.cons_ hk
    obtain ⟨x190, rfl⟩ := kind_addr k_v0
    obtain rfl := Kinds.nil_ hk_v0
    exact T_conf_Load_7_eq C x190 w

def T_conf_Load_5_body (X : Int → Int → World → Prop) (least154 : Int) (n155 : Int) (r156 : Addr) (s157 : Addr) (ok158 : Addr) (w : World) (Kn : World → Prop) (Kp : List PanicEntry → World → Prop)  : Prop :=
  T_conf_Load_6 r156 n155 w (fun b166 w167 => if b166 = true then (Calls Tryz.prog 63 #[.pointer (some r156), .int .i64 1099511627776] w167 (ret (fun r168 w169 => ∃ x170 : Int, r168 = .int .i64 x170 ∧ Calls Tryz.prog 63 #[.pointer (some r156), .int .i64 1099511627776] w169 (ret (fun r171 w172 => ∃ x173 : Int, r171 = .int .i64 x173 ∧ Calls Tryz.prog 63 #[.pointer (some r156), .int .i64 1099511627776] w172 (ret (fun r174 w175 => ∃ x176 : Int, r174 = .int .i64 x176 ∧ Calls Tryz.prog 63 #[.pointer (some r156), .int .i64 1099511627776] w175 (ret (fun r177 w178 => ∃ x179 : Int, r177 = .int .i64 x179 ∧ let w180 : World := w178.alloc (.cells #[.int .i64 0, .int .i64 0, .int .i64 0] 91)
  (.agg #[.int .i64 x173, .int .i64 x176, .int .i64 x179] : Value).cells.size = 3 ∧ wrOk w180 (⟨w178.heap.size, 0, none⟩ : Addr) (.agg #[.int .i64 x173, .int .i64 x176, .int .i64 x179]) ∧ let w181 : World := wr w180 (⟨w178.heap.size, 0, none⟩ : Addr) (.agg #[.int .i64 x173, .int .i64 x176, .int .i64 x179])
  let w182 : World := w181.drew
  ∃ p183 : Option Addr, rd w182 s157 (.pointer p183) ∧ ∃ a184, p183 = some a184 ∧ ∃ m185 : Option Nat, rd w182 (a184.add 3) (.map m185) ∧ ∃ x186 : Int, ∃ x187 : Int, ∃ x188 : Int, rd w182 (⟨w178.heap.size, 0, none⟩ : Addr) (.agg #[.int .i64 x186, .int .i64 x187, .int .i64 x188]) ∧ runV Tryz.prog (Instr.mapUpdate 77 (.map m185) (.int .i64 x170) (.agg #[.int .i64 x186, .int .i64 x187, .int .i64 x188])) w182 (fun _ w189 => (True) ∧ T_conf_Load_7 (⟨w178.heap.size, 0, none⟩ : Addr) w189 (fun told199 w200 => let w201 : World := w200.drew
  ∃ b202 : Bool, rd w201 ok158 (.bool b202) ∧ if b202 = true then (if (decide ((x170 : Int) > least154)) = true then (if (decide ((x170 : Int) ≤ 32)) = true then (∃ x203 : Int, rd w201 (⟨w178.heap.size, 0, none⟩ : Addr) (.int .i64 x203) ∧ if (decide ((x203 : Int) > 0)) = true then (if told199 = true then (∃ x204 : Int, rd w201 (((⟨w178.heap.size, 0, none⟩ : Addr).add 1).add 1) (.int .i64 x204) ∧ ∃ p205 : Option Addr, rd w201 s157 (.pointer p205) ∧ ∃ a206, p205 = some a206 ∧ ∃ x207 : Int, rd w201 a206 (.int .i64 x207) ∧ (.bool (decide ((x204 : Int) ≤ x207)) : Value).cells.size = 1 ∧ wrOk w201 ok158 (.bool (decide ((x204 : Int) ≤ x207))) ∧ let w208 : World := wr w201 ok158 (.bool (decide ((x204 : Int) ≤ x207)))
  (True) ∧ X x170 (IntKind.wrap .i64 ((n155 : Int) - 1)) w208) else ((.bool false : Value).cells.size = 1 ∧ wrOk w201 ok158 (.bool false) ∧ let w209 : World := wr w201 ok158 (.bool false)
  (True) ∧ X x170 (IntKind.wrap .i64 ((n155 : Int) - 1)) w209)) else ((.bool false : Value).cells.size = 1 ∧ wrOk w201 ok158 (.bool false) ∧ let w210 : World := wr w201 ok158 (.bool false)
  (True) ∧ X x170 (IntKind.wrap .i64 ((n155 : Int) - 1)) w210)) else ((.bool false : Value).cells.size = 1 ∧ wrOk w201 ok158 (.bool false) ∧ let w211 : World := wr w201 ok158 (.bool false)
  (True) ∧ X x170 (IntKind.wrap .i64 ((n155 : Int) - 1)) w211)) else ((.bool false : Value).cells.size = 1 ∧ wrOk w201 ok158 (.bool false) ∧ let w212 : World := wr w201 ok158 (.bool false)
  (True) ∧ X x170 (IntKind.wrap .i64 ((n155 : Int) - 1)) w212)) else ((.bool false : Value).cells.size = 1 ∧ wrOk w201 ok158 (.bool false) ∧ let w213 : World := wr w201 ok158 (.bool false)
  (True) ∧ X x170 (IntKind.wrap .i64 ((n155 : Int) - 1)) w213)) Kp) Kp) Kp)) Kp)) Kp)) Kp)) else (Kn  w167)) Kp

def T_conf_Load_5 (least154 : Int) (n155 : Int) (r156 : Addr) (s157 : Addr) (ok158 : Addr) (w : World) (Kn : World → Prop) (Kp : List PanicEntry → World → Prop) : Prop :=
  ∀ X : Int → Int → World → Prop, (∀ (least154 : Int) (n155 : Int) (w : World), T_conf_Load_5_body X least154 n155 r156 s157 ok158 w Kn Kp → X least154 n155 w) → X least154 n155 w

def T_conf_Load_5_outs : Exit → Option (List (Nat × Value)) := fun x => match x with | .normal => some [] | .panic _ => some [] | _ => none

def T_conf_Load_5_ks : Nat → Bool := ksOf [16, 17, 18, 19, 20, 148, 149, 150, 151, 152, 153, 154, 155, 156, 157, 158, 159, 160, 161, 162, 163, 164, 165, 166, 167, 168, 169, 170, 171, 172, 173, 174, 175, 176, 177, 178, 179, 180, 181, 182, 183, 184, 185, 186, 187, 188, 189, 190, 191, 192, 193, 194, 195, 196, 197, 198, 199, 200, 201, 202, 203, 204, 205, 206, 207, 208, 209, 210, 211, 212, 213, 214, 215, 216, 217, 218, 219, 220, 221, 222, 223, 224, 225, 226, 227, 228, 229, 230, 231]

def H_conf_Load_5 : Env → World → QT → Prop := unitHook 239 T_conf_Load_5_ks [(16, .int .i64 0), (17, .int .i64 0), (4, .pointer (some ⟨0, 0, none⟩)), (5, .pointer (some ⟨0, 0, none⟩)), (6, .pointer (some ⟨0, 0, none⟩))] T_conf_Load_5_outs fun l w C => match l with | [v0, v1, v2, v3, v4] => T_conf_Load_5 (pInt v0) (pInt v1) (pAddr v2) (pAddr v3) (pAddr v4) w (fun w => C .normal [] w) (fun ch w => C (.panic ch) [] w) | _ => False

theorem T_conf_Load_5_hl : allP (hokL Tryz.prog (hookAt [(65488, H_conf_Load_6), (2095694, H_conf_Load_7)]) (at_ (bodyOf Tryz.f33) [1, 1, 1, 1, 1, 1, 1, 1, 1, 0, 1, 0, 0]) 16372) = (UnitOk Tryz.prog H_conf_Load_6 (at_ (bodyOf Tryz.f33) [1, 1, 1, 1, 1, 1, 1, 1, 1, 0, 1, 0, 0, 0, 0]) 65488 ∧ UnitOk Tryz.prog H_conf_Load_7 (at_ (bodyOf Tryz.f33) [1, 1, 1, 1, 1, 1, 1, 1, 1, 0, 1, 0, 0, 1, 0, 0, 1, 1, 1, 0]) 2095694 ∧ True) := by kernel_rfl
theorem T_conf_Load_5_hok : HOk Tryz.prog (hookAt [(65488, H_conf_Load_6), (2095694, H_conf_Load_7)]) (at_ (bodyOf Tryz.f33) [1, 1, 1, 1, 1, 1, 1, 1, 1, 0, 1, 0, 0]) 16372 := HOk_of _ _ (by rw [T_conf_Load_5_hl]; exact ⟨T_conf_Load_6_ok, T_conf_Load_7_ok, trivial⟩)

theorem T_conf_Load_5_eq (C : Conts) (X : List Value → World → Prop) (least154 : Int) (n155 : Int) (r156 : Addr) (s157 : Addr) (ok158 : Addr) (w : World) : vcCode Tryz.prog (hookAt [(65488, H_conf_Load_6), (2095694, H_conf_Load_7)]) (at_ (bodyOf Tryz.f33) [1, 1, 1, 1, 1, 1, 1, 1, 1, 0, 1, 0, 0]) 16372 ⟨[(16, .int .i64 least154), (17, .int .i64 n155)] ++ [(4, .pointer (some r156)), (5, .pointer (some s157)), (6, .pointer (some ok158))], 239, []⟩ w (seqQ (fun e w => takeAll e [(16, .int .i64 0), (17, .int .i64 0)] fun l => X l w) (blockQ 4 (unitQ T_conf_Load_5_outs C))) = T_conf_Load_5_body (fun least154 n155 w => X [.int .i64 least154, .int .i64 n155] w) least154 n155 r156 s157 ok158 w (fun w => C .normal [] w) (fun ch w => C (.panic ch) [] w) := by kernel_rfl

theorem T_conf_Load_5_ok : UnitOk Tryz.prog H_conf_Load_5 (at_ (bodyOf Tryz.f33) [1, 1, 1, 1, 1, 1, 1, 1, 1, 0, 1]) 4093 := by
  have hc : at_ (bodyOf Tryz.f33) [1, 1, 1, 1, 1, 1, 1, 1, 1, 0, 1] = .block 4 (.loop (at_ (bodyOf Tryz.f33) [1, 1, 1, 1, 1, 1, 1, 1, 1, 0, 1, 0, 0])) := by kernel_rfl
  rw [hc]
  refine loop_unit_ok (carr := [(16, .int .i64 0), (17, .int .i64 0)]) (fix := [(4, .pointer (some ⟨0, 0, none⟩)), (5, .pointer (some ⟨0, 0, none⟩)), (6, .pointer (some ⟨0, 0, none⟩))]) (ks := T_conf_Load_5_ks) (H := (hookAt [(65488, H_conf_Load_6), (2095694, H_conf_Load_7)])) (B := fun C X l u w => match l, u with | [v0, v1], [v2, v3, v4] => T_conf_Load_5_body (fun least154 n155 w => X [.int .i64 least154, .int .i64 n155] w) (pInt v0) (pInt v1) (pAddr v2) (pAddr v3) (pAddr v4) w (fun w => C .normal [] w) (fun ch w => C (.panic ch) [] w) | _, _ => False) (by kernel_rfl) (by kernel_rfl) T_conf_Load_5_hok ?_ ?_
  · intro C X l u w hl hu
    obtain ⟨v0, l_v0, rfl, k_v0, hl_v0⟩ := Kinds.cons_ hl
    obtain ⟨least154, rfl⟩ := kind_int k_v0
    obtain ⟨v1, l_v1, rfl, k_v1, hl_v1⟩ := Kinds.cons_ hl_v0
    obtain ⟨n155, rfl⟩ := kind_int k_v1
    obtain rfl := Kinds.nil_ hl_v1
    obtain ⟨v2, l_v2, rfl, k_v2, hu_v2⟩ := Kinds.cons_ hu
    obtain ⟨r156, rfl⟩ := kind_addr k_v2
    obtain ⟨v3, l_v3, rfl, k_v3, hu_v3⟩ := Kinds.cons_ hu_v2
    obtain ⟨s157, rfl⟩ := kind_addr k_v3
    obtain ⟨v4, l_v4, rfl, k_v4, hu_v4⟩ := Kinds.cons_ hu_v3
    obtain ⟨ok158, rfl⟩ := kind_addr k_v4
    obtain rfl := Kinds.nil_ hu_v4
    exact T_conf_Load_5_eq C X least154 n155 r156 s157 ok158 w
  · intro l u w C hl hu
    obtain ⟨v0, l_v0, rfl, k_v0, hl_v0⟩ := Kinds.cons_ hl
    obtain ⟨least154, rfl⟩ := kind_int k_v0
    obtain ⟨v1, l_v1, rfl, k_v1, hl_v1⟩ := Kinds.cons_ hl_v0
    obtain ⟨n155, rfl⟩ := kind_int k_v1
    obtain rfl := Kinds.nil_ hl_v1
    obtain ⟨v2, l_v2, rfl, k_v2, hu_v2⟩ := Kinds.cons_ hu
    obtain ⟨r156, rfl⟩ := kind_addr k_v2
    obtain ⟨v3, l_v3, rfl, k_v3, hu_v3⟩ := Kinds.cons_ hu_v2
    obtain ⟨s157, rfl⟩ := kind_addr k_v3
    obtain ⟨v4, l_v4, rfl, k_v4, hu_v4⟩ := Kinds.cons_ hu_v3
    obtain ⟨ok158, rfl⟩ := kind_addr k_v4
    obtain rfl := Kinds.nil_ hu_v4
    constructor
    · intro h X hX
      exact h (fun least154 n155 w => X [.int .i64 least154, .int .i64 n155] w) (fun least154 n155 w hb => hX [.int .i64 least154, .int .i64 n155] w ⟨rfl, rfl, trivial⟩ hb)
    · intro h X hX
      exact h (fun l w => match l with | [v0, v1] => X (pInt v0) (pInt v1) w | _ => True) (fun l w hl hb => by
        obtain ⟨v0, l_v0, rfl, k_v0, hl_v0⟩ := Kinds.cons_ hl
        obtain ⟨least154, rfl⟩ := kind_int k_v0
        obtain ⟨v1, l_v1, rfl, k_v1, hl_v1⟩ := Kinds.cons_ hl_v0
        obtain ⟨n155, rfl⟩ := kind_int k_v1
        obtain rfl := Kinds.nil_ hl_v1
        exact hX least154 n155 w hb)

def T_conf_Load (b1a : Option Addr) (b1l : Nat) (b1c : Nat) (w : World) (R : Ending → World → Prop) : Prop :=
  let w2 : World := w.alloc (.cells #[.slice b1a b1l b1c, .int .i64 0, .int .i64 0] 116)
  Calls Tryz.prog 35 #[] w2 (ret (fun r3 w4 => ∃ p5 : Option Addr, r3 = .pointer p5 ∧ let w6 : World := w4.alloc (.cells #[.pointer none] 23)
  (.pointer p5 : Value).cells.size = 1 ∧ wrOk w6 (⟨w4.heap.size, 0, none⟩ : Addr) (.pointer p5) ∧ let w7 : World := wr w6 (⟨w4.heap.size, 0, none⟩ : Addr) (.pointer p5)
  let w8 : World := w7.drew
  ∃ p9 : Option Addr, rd w8 (⟨w4.heap.size, 0, none⟩ : Addr) (.pointer p9) ∧ Calls Tryz.prog 63 #[.pointer (some (⟨w.heap.size, 0, none⟩ : Addr)), .int .i64 1099511627776] w8 (ret (fun r10 w11 => ∃ x12 : Int, r10 = .int .i64 x12 ∧ (rd w11 (⟨w4.heap.size, 0, none⟩ : Addr) (.pointer p9) ∧ True) ∧ ∃ a13, p9 = some a13 ∧ (.int .i64 x12 : Value).cells.size = 1 ∧ wrOk w11 a13 (.int .i64 x12) ∧ let w14 : World := wr w11 a13 (.int .i64 x12)
  (True) ∧ let w15 : World := w14.alloc (.cells #[.bool false] 4)
  (.bool true : Value).cells.size = 1 ∧ wrOk w15 (⟨w14.heap.size, 0, none⟩ : Addr) (.bool true) ∧ let w16 : World := wr w15 (⟨w14.heap.size, 0, none⟩ : Addr) (.bool true)
  Calls Tryz.prog 63 #[.pointer (some (⟨w.heap.size, 0, none⟩ : Addr)), .int .i64 32] w16 (ret (fun r17 w18 => ∃ x19 : Int, r17 = .int .i64 x19 ∧ T_conf_Load_1 (ByteArray.mk #[]) x19 (⟨w.heap.size, 0, none⟩ : Addr) (⟨w4.heap.size, 0, none⟩ : Addr) (⟨w14.heap.size, 0, none⟩ : Addr) w18 (fun w62 => let w63 : World := w62.alloc (.cells #[.string (ByteArray.mk #[]), .string (ByteArray.mk #[])] 89)
  (.agg #[.string (ByteArray.mk #[]), .string (ByteArray.mk #[])] : Value).cells.size = 2 ∧ wrOk w63 (⟨w62.heap.size, 0, none⟩ : Addr) (.agg #[.string (ByteArray.mk #[]), .string (ByteArray.mk #[])]) ∧ let w64 : World := wr w63 (⟨w62.heap.size, 0, none⟩ : Addr) (.agg #[.string (ByteArray.mk #[]), .string (ByteArray.mk #[])])
  Calls Tryz.prog 63 #[.pointer (some (⟨w.heap.size, 0, none⟩ : Addr)), .int .i64 64] w64 (ret (fun r65 w66 => ∃ x67 : Int, r65 = .int .i64 x67 ∧ T_conf_Load_3 x67 (⟨w.heap.size, 0, none⟩ : Addr) (⟨w4.heap.size, 0, none⟩ : Addr) (⟨w14.heap.size, 0, none⟩ : Addr) (⟨w62.heap.size, 0, none⟩ : Addr) w66 (fun w150 => Calls Tryz.prog 63 #[.pointer (some (⟨w.heap.size, 0, none⟩ : Addr)), .int .i64 32] w150 (ret (fun r151 w152 => ∃ x153 : Int, r151 = .int .i64 x153 ∧ T_conf_Load_5 0 x153 (⟨w.heap.size, 0, none⟩ : Addr) (⟨w4.heap.size, 0, none⟩ : Addr) (⟨w14.heap.size, 0, none⟩ : Addr) w152 (fun w214 => Calls Tryz.prog 66 #[.pointer (some (⟨w.heap.size, 0, none⟩ : Addr)), .func (.func 71) #[] #[.pointer (some (⟨w14.heap.size, 0, none⟩ : Addr)), .pointer (some (⟨w4.heap.size, 0, none⟩ : Addr))]] w214 (ret (fun r215 w216 => ∃ x217 : Int, r215 = .int .i64 x217 ∧ if ((x217 : Int) != 0) = true then (R (.returned (.tuple #[.pointer none, .int .i64 x217])) w216) else (∃ p218 : Option Addr, rd w216 (⟨w4.heap.size, 0, none⟩ : Addr) (.pointer p218) ∧ R (.returned (.tuple #[.pointer p218, .int .i64 0])) w216)) (pan R))) (pan R)) (pan R))) (pan R)) (pan R))) (pan R)) (pan R))) (pan R))) (pan R))

theorem T_conf_Load_hl : allP (hokL Tryz.prog (hookAt [(253, H_conf_Load_1), (1021, H_conf_Load_3), (4093, H_conf_Load_5)]) (bodyOf Tryz.f33) 1) = (UnitOk Tryz.prog H_conf_Load_1 (at_ (bodyOf Tryz.f33) [1, 1, 1, 1, 1, 0, 1]) 253 ∧ UnitOk Tryz.prog H_conf_Load_3 (at_ (bodyOf Tryz.f33) [1, 1, 1, 1, 1, 1, 1, 0, 1]) 1021 ∧ UnitOk Tryz.prog H_conf_Load_5 (at_ (bodyOf Tryz.f33) [1, 1, 1, 1, 1, 1, 1, 1, 1, 0, 1]) 4093 ∧ True) := by kernel_rfl

theorem T_conf_Load_eq (b1a : Option Addr) (b1l : Nat) (b1c : Nat) (w : World) (R : Ending → World → Prop) : vcCode Tryz.prog (hookAt [(253, H_conf_Load_1), (1021, H_conf_Load_3), (4093, H_conf_Load_5)]) (bodyOf Tryz.f33) 1 ⟨argEnv [.slice b1a b1l b1c] 0, Tryz.f33.ntmps, []⟩ w (finQ Tryz.prog Tryz.f33.results.toList R) = T_conf_Load b1a b1l b1c w R := by kernel_rfl

theorem T_conf_Load_b : Tryz.f33.body = some (bodyOf Tryz.f33) := by kernel_rfl
theorem T_conf_Load_s : (quietSel (bodyOf Tryz.f33) && Nat.ble 1 Tryz.f33.ntmps) = true := by kernel_rfl

theorem C_conf_Load {b1a : Option Addr} {b1l : Nat} {b1c : Nat} {w : World} {R : Ending → World → Prop} (h : T_conf_Load b1a b1l b1c w R) : Calls Tryz.prog 33 #[.slice b1a b1l b1c] w R :=
  calls_of_text (args := [.slice b1a b1l b1c]) mixed Tryz.func33 T_conf_Load_b T_conf_Load_s (HOk_of _ _ (by rw [T_conf_Load_hl]; exact ⟨T_conf_Load_1_ok, T_conf_Load_3_ok, T_conf_Load_5_ok, trivial⟩)) (by rw [T_conf_Load_eq]; exact h)

end Go.Proofs.YtcpmfjclkdjfmaaGreat

/-
  conf.Load: pools, read one by one into the store's map.
-/
namespace Go.Cm
/-- What Load asks of pools, behind a name. -/
def okP : Bs → List Pl → Bool
  | _, [] => true
  | last, x :: r => isName x.name && (decide (last < x.name) && (decide (chkT x.tg = 0) && okP x.name r))
theorem gt_dec (a b : Bs) : (!(decide (a < b) || decide (a = b))) = decide (b < a) := by
  rw [Bool.eq_iff_iff]
  simp only [Bool.not_eq_true', Bool.or_eq_false_iff, decide_eq_false_iff_not, decide_eq_true_eq]
  constructor
  · rintro ⟨h1, h2⟩
    rcases slt_tri a b with h | h | h
    · exact absurd h h1
    · exact absurd h h2
    · exact h
  · intro h
    exact ⟨fun h1 => slt_irrefl _ (slt_trans h h1), fun h1 => slt_irrefl b (by rw [h1] at h; exact h)⟩
end Go.Cm
namespace Go.Vc
open Go Go.Proofs Go.Proofs.YtcpmfjclkdjfmaaGreat Go.RowKit
set_option maxRecDepth 100000
section
variable {E w : World} {L : List Asrt} {R : Ending → World → Prop} {F G : Fz} {q : Sl} {b : Cm.Bs} {st : Cm.Ps} {p r b0 bp mp mr mc : Nat} {v : Int} {Mp : List (Cm.Bs × PV)} {Mr : List (Pr × Cm.Bs)} {Mc : List (Int × LV)}
theorem rdr_err {ty : Nat} (h : St E (rdrA ty r q b st :: L) w) : ∃ e : Int, rd w ((⟨r, 0, none⟩ : Addr).add 2) (.int .i64 e) ∧ (e == 0) = !Cm.bad st := by
  obtain ⟨a, e, ho, h0⟩ := h.rdr_open
  refine ⟨e, rd_fld h0.at_blk rfl rfl, ?_⟩
  cases st with
  | ok r => simp [Cm.bad, ho.1]
  | error x => simp [Cm.bad, ho.1, ho.2]
abbrev ldL (r b0 bp p mp mr mc : Nat) (q : Sl) (b : Cm.Bs) (st : Cm.Ps) (ok : Bool) (v : Int) (Mp : List (Cm.Bs × PV)) (Mr : List (Pr × Cm.Bs)) (Mc : List (Int × LV)) (F : Fz) (L : List Asrt) : List Asrt :=
  rdrA 116 r q b st :: blkL b0 4 [.bool ok] :: blkL bp 23 [.pointer (some ⟨p, 0, none⟩)] :: st4 p v mp mr mc Mp Mr Mc (kn F :: L)
theorem mget_mset2 {κ ν : Type} [DecidableEq κ] {m : List (κ × ν)} (hn : (m.map (·.1)).Nodup) (a : κ) (v : ν) : mget (mset m a v) a = some v :=
  mget_mem (e := (a, v)) (nodup_mset hn a v) ((mset_perm hn a v).mem_iff.2 List.mem_cons_self)
theorem pools_more {xs : List Cm.Pl} {x : Cm.Bs} {tg : List Cm.Tgt} {s : Sl} (h : poolsR F Mp xs) (hn : (Mp.map (·.1)).Nodup) (hx : ∀ y ∈ xs, y.name ≠ x) (hr : RdF F s.1 s.2.1 2 (tg.flatMap tV)) : poolsR F (mset Mp x (s, tg)) (xs ++ [⟨x, tg⟩]) := by
  have hni : x ∉ Mp.map (·.1) := fun hm => by
    obtain ⟨e, he, h1⟩ := List.mem_map.1 hm
    exact hx (plOf e) (h.2.mem_iff.1 (List.mem_map_of_mem he)) h1
  have hp : (mset Mp x (s, tg)).Perm ((x, s, tg) :: Mp) := by
    have := mset_perm hn x (s, tg)
    rwa [butM_self hni] at this
  refine ⟨fun e he => ?_, ?_⟩
  · rcases List.mem_cons.1 (hp.mem_iff.1 he) with rfl | he
    · exact hr
    · exact h.1 e he
  · refine (hp.map plOf).trans ?_
    refine List.Perm.trans (List.Perm.cons _ h.2) ?_
    exact (List.perm_append_singleton _ _).symm
set_option maxHeartbeats 4000000 in
theorem load1_spec {Kn : World → Prop} {Kp : List PanicEntry → World → Prop} {n0 : Nat} (hs : Src F q b) (hn0 : n0 ≤ 1000) (h : St E (ldL r b0 bp p mp mr mc q b st true v [] Mr Mc F L) w)
    (k : ∀ (G : Fz) (w' : World) (Mp : List (Cm.Bs × PV)), Fz.le F G → (Cm.okP [] (Cm.rMany Cm.rPl n0 st).1 = true → poolsR G Mp (Cm.rMany Cm.rPl n0 st).1) → St E (ldL r b0 bp p mp mr mc q b (Cm.rMany Cm.rPl n0 st).2 (Cm.okP [] (Cm.rMany Cm.rPl n0 st).1) v Mp Mr Mc G L) w' → Kn w') :
    T_conf_Load_1 (bs []) (n0 : Int) ⟨r, 0, none⟩ ⟨bp, 0, none⟩ ⟨b0, 0, none⟩ w Kn Kp := by
  unfold T_conf_Load_1
  intro X hX
  have key : ∀ (n : Nat) (st : Cm.Ps) (last : Cm.Bs) (ok : Bool) (xs : List Cm.Pl) (Mp : List (Cm.Bs × PV)) (F : Fz) (w : World), n ≤ 1000 → Src F q b → (ok = true → poolsR F Mp xs ∧ ∀ y ∈ xs, y.name = last ∨ y.name < last) → St E (ldL r b0 bp p mp mr mc q b st ok v Mp Mr Mc F L) w →
      (∀ (G : Fz) (w' : World) (Mp' : List (Cm.Bs × PV)), Fz.le F G → ((ok && Cm.okP last (Cm.rMany Cm.rPl n st).1) = true → poolsR G Mp' (xs ++ (Cm.rMany Cm.rPl n st).1)) → St E (ldL r b0 bp p mp mr mc q b (Cm.rMany Cm.rPl n st).2 (ok && Cm.okP last (Cm.rMany Cm.rPl n st).1) v Mp' Mr Mc G L) w' → Kn w') →
      X (bs last) (n : Int) w := by
    intro n
    induction n with
    | zero =>
      intro st last ok xs Mp F w hn hs hok h k
      refine hX _ _ _ ?_
      unfold T_conf_Load_1_body T_conf_Load_2
      refine ite_d (fun hh => absurd hh (by omega)) fun _ => ite_b (fun hh => by cases hh) fun _ => k F w Mp (Fz.le_refl F) (fun ho => ?_) ?_
      · rw [show (Cm.rMany Cm.rPl 0 st).1 = [] from rfl, List.append_nil]
        exact (hok (by simpa [Cm.rMany, Cm.okP] using ho)).1
      · have e : (ok && Cm.okP last (Cm.rMany Cm.rPl 0 st).1) = ok := by simp [Cm.rMany, Cm.okP]
        rw [e]
        exact h
    | succ n ihn =>
      intro st last ok xs Mp F w hn hs hok h k
      refine hX _ _ _ ?_
      unfold T_conf_Load_1_body T_conf_Load_2
      obtain ⟨er, he, hb⟩ := rdr_err h
      refine ite_d (fun _ => ⟨_, rfl, er, he, ?_⟩) fun hh => absurd (show ((n + 1 : Nat) : Int) > 0 by omega) hh
      rw [hb]
      cases hbad : Cm.bad st with
      | true =>
        have em : Cm.rMany Cm.rPl (n + 1) st = ([], st) := by unfold Cm.rMany; rw [hbad]; rfl
        rw [em] at k
        refine ite_b (fun hh => by cases hh) fun _ => k F w Mp (Fz.le_refl F) (fun ho => ?_) ?_
        · rw [List.append_nil]
          exact (hok (by simpa [Cm.okP] using ho)).1
        · have e : (ok && Cm.okP last []) = ok := by simp [Cm.okP]
          rw [e]
          exact h
      | false =>
        have em : Cm.rMany Cm.rPl (n + 1) st = ((Cm.rPl st).1 :: (Cm.rMany Cm.rPl n (Cm.rPl st).2).1, (Cm.rMany Cm.rPl n (Cm.rPl st).2).2) := by
          conv => lhs; unfold Cm.rMany
          rw [hbad]; rfl
        rw [em] at k
        refine ite_b (fun _ => ?_) fun hh => by cases hh
        refine rtext_spec hs at6 h fun w35 h35 => ⟨_, rfl, ?_⟩
        intro w37
        have h37 : St E (ldL r b0 bp p mp mr mc q b (Cm.rText st).2 ok v Mp Mr Mc F L) w37 := h35.drew
        clear_value w37
        have hnl := rText_len st
        refine ⟨_, rd_cell h37.f2.at_blk rfl rfl, _, rfl, _, rd_fld h37.f3.at_blk rfl rfl, ?_⟩
        refine rtargets_spec hs at6 h37 fun w42 s h42 => ⟨_, _, _, rfl, ⟨rd_fld h42.f4.at_blk rfl rfl, rd_cell h42.f3.at_blk rfl rfl, trivial⟩, ?_⟩
        have hx : Cm.rPl st = (⟨(Cm.rText st).1, (Cm.rTgs (Cm.rText st).2).1⟩, (Cm.rTgs (Cm.rText st).2).2) := rfl
        rw [hx] at k
        have hsh := rTgs_short (Cm.rText st).2
        generalize (Cm.rTgs (Cm.rText st).2).1 = tg at *
        generalize (Cm.rTgs (Cm.rText st).2).2 = st2 at *
        generalize (Cm.rText st).1 = x at *
        obtain ⟨G, hG, h43, hrt⟩ := St.freezeT (h42.sel 9 [0, 8, 1, 2, 3, 4, 5, 6, 7])
        have h43 : St E (kn G :: rdrA 116 r q b st2 :: blkL b0 4 [.bool ok] :: blkL bp 23 [.pointer (some ⟨p, 0, none⟩)] :: st4 p v mp mr mc Mp Mr Mc L) w42 := h43
        have hnd : (Mp.map (·.1)).Nodup := St.nodup h43.f5
        obtain ⟨w44, hr44, h44⟩ := mapUpdate_run strLaw und_pools h43.f5 x ((s, tg) : PV)
        have h45 : St E (ldL r b0 bp p mp mr mc q b st2 ok v (mset Mp x (s, tg)) Mr Mc G L) w44 := St.sel (L := mapA mp encS pvV (mset Mp x (s, tg)) :: kn G :: rdrA 116 r q b st2 :: blkL b0 4 [.bool ok] :: blkL bp 23 [.pointer (some ⟨p, 0, none⟩)] :: blkL p 79 (stL v mp mr mc) :: mapA mr encP encS Mr :: mapA mc encI lvV Mc :: L) h44 8 [2, 3, 4, 5, 0, 6, 7, 1]
        -- one step on: with what 'ok' has become
        have fin : ∀ (w : World) (val : Bool), val = (ok && (Cm.isName x && (decide (last < x) && decide (Cm.chkT tg = 0)))) → St E (ldL r b0 bp p mp mr mc q b st2 ok v (mset Mp x (s, tg)) Mr Mc G L) w →
            (.bool val : Value).cells.size = 1 ∧ wrOk w (⟨b0, 0, none⟩ : Addr) (.bool val) ∧ let w58 : World := wr w (⟨b0, 0, none⟩ : Addr) (.bool val)
            X (bs x) (IntKind.wrap .i64 (((n + 1 : Nat) : Int) - 1)) w58 := fun w val hval h => by
          refine ⟨rfl, wrOk_cell h.f1.at_blk (by simp) rfl, ?_⟩
          intro w58
          have h58 : St E (blkL b0 4 [.bool val] :: rdrA 116 r q b st2 :: blkL bp 23 [.pointer (some ⟨p, 0, none⟩)] :: st4 p v mp mr mc (mset Mp x (s, tg)) Mr Mc (kn G :: L)) w58 := h.f1.wr_cell (off := 0) (v := .bool val) rfl
          rw [wrap_pred (by omega) (by omega)]
          refine ihn st2 x val (xs ++ [⟨x, tg⟩]) (mset Mp x (s, tg)) G w58 (by omega) (hs.mono hG) (fun ho => ?_) h58.f1 fun G' w' Mp' hG' hp' h' => ?_
          · rw [hval] at ho
            simp only [Bool.and_eq_true, decide_eq_true_eq] at ho
            obtain ⟨h1, h2, h3, h4⟩ := ho
            obtain ⟨hp, hle⟩ := hok h1
            refine ⟨pools_more (hp.mono hG) hnd (fun y hy e => ?_) hrt, fun y hy => ?_⟩
            · rcases hle y hy with h5 | h5
              · rw [← h5, e] at h3; exact Cm.slt_irrefl _ h3
              · rw [e] at h5; exact Cm.slt_irrefl _ (Cm.slt_trans h3 h5)
            · rcases List.mem_append.1 hy with hy | hy
              · refine .inr ?_
                rcases hle y hy with h5 | h5
                · rw [h5]; exact h3
                · exact Cm.slt_trans h5 h3
              · rw [List.mem_singleton.1 hy]; exact .inl rfl
          · have e : (val && Cm.okP x (Cm.rMany Cm.rPl n st2).1) = (ok && Cm.okP last (⟨x, tg⟩ :: (Cm.rMany Cm.rPl n st2).1)) := by
              rw [hval]
              simp only [Cm.okP, Bool.and_assoc]
            rw [e] at hp' h'
            refine k G' w' Mp' (Fz.le_trans hG hG') (fun ho => ?_) h'
            have := hp' ho
            rwa [List.append_assoc] at this
        refine runV_ok hr44 ⟨trivial, ?_⟩
        refine ⟨_, rd_cell h45.f1.at_blk rfl rfl, ite_b (fun ho => ?_) fun ho => fin _ _ (by rw [ho]; rfl) h45⟩
        refine poolName_spec h45 (by unfold huge; omega) fun w47 h47 => ⟨_, rfl, ite_b (fun h1 => ?_) fun h1 => fin _ _ (by rw [h1, Bool.false_and, Bool.and_false]) h47⟩
        rw [str_beq, bs_toList, bs_toList, bytesLess_eq, Cm.gt_dec]
        refine ite_d (fun h2 => ?_) fun h2 => fin _ _ (by rw [decide_eq_false h2, Bool.false_and, Bool.and_false, Bool.and_false]) h47
        refine ⟨_, rd_cell h47.f2.at_blk rfl rfl, _, rfl, _, rd_fld h47.f3.at_blk rfl rfl, ?_⟩
        refine runV_ok (look_pool (v := (s, tg)) h47.f4 (mget_mset2 hnd x (s, tg))) ⟨_, _, _, rfl, ?_⟩
        refine targets_spec (s := s) at7 h47 hrt hsh.ok fun w56 h56 => ⟨_, rfl, ?_⟩
        exact fin _ _ (by rw [ho, h1, decide_eq_true h2, eq_dec]; rfl) h56
  refine key n0 st [] true [] [] F w hn0 hs (fun _ => ⟨⟨fun e he => (nomatch he), List.Perm.nil⟩, fun y hy => (nomatch hy)⟩) h fun G w' Mp' hG hp h' => ?_
  rw [Bool.true_and] at hp h'
  exact k G w' Mp' hG hp h'
end
end Go.Vc

/-
  conf.Load: routes, read one by one into the store's map.
-/
namespace Go.Cm
/-- What Load asks of routes, behind a place. -/
def okR (ps : List Pl) : Bs → Bs → List Rt → Bool
  | _, _, [] => true
  | h, p, x :: r => ps.any (fun y => decide (y.name = x.pool)) && (isHost x.host && (isPfx x.pfx && ((decide (h < x.host) || (decide (x.host = h) && decide (p < x.pfx))) && okR ps x.host x.pfx r)))
end Go.Cm
namespace Go.Vc
open Go Go.Proofs Go.Proofs.YtcpmfjclkdjfmaaGreat Go.RowKit
set_option maxRecDepth 100000
section
variable {E w : World} {L : List Asrt} {R : Ending → World → Prop} {F G : Fz} {q : Sl} {b : Cm.Bs} {st : Cm.Ps} {p r b0 bp bw mp mr mc : Nat} {v : Int} {Mp : List (Cm.Bs × PV)} {Mr : List (Pr × Cm.Bs)} {Mc : List (Int × LV)} {ps : List Cm.Pl}
abbrev ldR (r b0 bp bw p mp mr mc : Nat) (q : Sl) (b : Cm.Bs) (st : Cm.Ps) (ok : Bool) (lh lp : Cm.Bs) (v : Int) (Mp : List (Cm.Bs × PV)) (Mr : List (Pr × Cm.Bs)) (Mc : List (Int × LV)) (F : Fz) (L : List Asrt) : List Asrt :=
  rdrA 116 r q b st :: blkL b0 4 [.bool ok] :: blkL bp 23 [.pointer (some ⟨p, 0, none⟩)] :: blkL bw 89 (celP (lh, lp)) :: st4 p v mp mr mc Mp Mr Mc (kn F :: L)
theorem routes_more {xs : List Cm.Rt} {x : Cm.Rt} (h : routesR Mr xs) (hn : (Mr.map (·.1)).Nodup) (hx : ∀ y ∈ xs, ¬ (y.host = x.host ∧ y.pfx = x.pfx)) : routesR (mset Mr (x.host, x.pfx) x.pool) (xs ++ [x]) := by
  have hni : (x.host, x.pfx) ∉ Mr.map (·.1) := fun hm => by
    obtain ⟨e, he, h1⟩ := List.mem_map.1 hm
    obtain ⟨y, hy, h2⟩ := List.mem_map.1 (List.Perm.mem_iff h |>.1 he)
    rw [← h2] at h1
    simp only [rtK, Prod.mk.injEq] at h1
    exact hx y hy h1
  have hp := mset_perm hn (x.host, x.pfx) x.pool
  rw [butM_self hni] at hp
  refine hp.trans ?_
  refine List.Perm.trans (List.Perm.cons _ h) ?_
  rw [List.map_append]
  exact (List.perm_append_singleton _ _).symm
theorem ok_place {bk t : Nat} {l : List Value} (h : St E (blkL bk t l :: L) w) (hl : l.length = 2) (x y : Cm.Bs) : wrOk w ⟨bk, 0, none⟩ (.agg #[.string (bs x), .string (bs y)]) :=
  wrOk_agg h.at_blk (xs := celP (x, y)) (by rw [hl]; simp [celP]) (by intro u hu; simp [celP] at hu; rcases hu with rfl | rfl <;> rfl)
theorem rd_place {bk t : Nat} {x y : Cm.Bs} (h : St E (blkL bk t (celP (x, y)) :: L) w) : rd w ⟨bk, 0, none⟩ (.agg #[.string (bs x), .string (bs y)]) := rd_agg (xs := celP (x, y)) h.at_blk (by intro i u hu; rw [Nat.zero_add]; exact hu)
theorem St.wr_place {bk t : Nat} {l : List Value} (h : St E (blkL bk t l :: L) w) (hl : l.length = 2) (x y : Cm.Bs) : St E (blkL bk t (celP (x, y)) :: L) (wr w ⟨bk, 0, none⟩ (.agg #[.string (bs x), .string (bs y)])) := h.wr_agg0 (xs := celP (x, y)) (by rw [hl]; rfl)
theorem some_any (hp : poolsR F Mp ps) (n : Cm.Bs) : (mget Mp n).isSome = ps.any fun y => decide (y.name = n) :=
  there_get (s := ⟨0, [], ps, []⟩) hp (n := n)
set_option maxHeartbeats 8000000 in
theorem load3_spec {Kn : World → Prop} {Kp : List PanicEntry → World → Prop} {n0 : Nat} {ok0 : Bool} (hs : Src F q b) (hn0 : n0 ≤ 1000) (hp0 : ok0 = true → poolsR F Mp ps) (h : St E (ldR r b0 bp bw p mp mr mc q b st ok0 [] [] v Mp [] Mc F L) w)
    (k : ∀ (w' : World) (Mr : List (Pr × Cm.Bs)) (lh lp : Cm.Bs), ((ok0 && Cm.okR ps [] [] (Cm.rMany Cm.rRt n0 st).1) = true → routesR Mr (Cm.rMany Cm.rRt n0 st).1) → St E (ldR r b0 bp bw p mp mr mc q b (Cm.rMany Cm.rRt n0 st).2 (ok0 && Cm.okR ps [] [] (Cm.rMany Cm.rRt n0 st).1) lh lp v Mp Mr Mc F L) w' → Kn w') :
    T_conf_Load_3 (n0 : Int) ⟨r, 0, none⟩ ⟨bp, 0, none⟩ ⟨b0, 0, none⟩ ⟨bw, 0, none⟩ w Kn Kp := by
  unfold T_conf_Load_3
  intro X hX
  have key : ∀ (n : Nat) (st : Cm.Ps) (lh lp : Cm.Bs) (ok : Bool) (xs : List Cm.Rt) (Mr : List (Pr × Cm.Bs)) (w : World), n ≤ 1000 → (ok = true → poolsR F Mp ps ∧ routesR Mr xs ∧ ∀ y ∈ xs, (y.host = lh ∧ y.pfx = lp) ∨ y.host < lh ∨ (y.host = lh ∧ y.pfx < lp)) → St E (ldR r b0 bp bw p mp mr mc q b st ok lh lp v Mp Mr Mc F L) w →
      (∀ (w' : World) (Mr' : List (Pr × Cm.Bs)) (lh' lp' : Cm.Bs), ((ok && Cm.okR ps lh lp (Cm.rMany Cm.rRt n st).1) = true → routesR Mr' (xs ++ (Cm.rMany Cm.rRt n st).1)) → St E (ldR r b0 bp bw p mp mr mc q b (Cm.rMany Cm.rRt n st).2 (ok && Cm.okR ps lh lp (Cm.rMany Cm.rRt n st).1) lh' lp' v Mp Mr' Mc F L) w' → Kn w') →
      X (n : Int) w := by
    intro n
    induction n with
    | zero =>
      intro st lh lp ok xs Mr w hn hok h k
      refine hX _ _ ?_
      unfold T_conf_Load_3_body T_conf_Load_4
      refine ite_d (fun hh => absurd hh (by omega)) fun _ => ite_b (fun hh => by cases hh) fun _ => k w Mr lh lp (fun ho => ?_) ?_
      · rw [show (Cm.rMany Cm.rRt 0 st).1 = [] from rfl, List.append_nil]
        exact (hok (by simpa [Cm.rMany, Cm.okR] using ho)).2.1
      · have e : (ok && Cm.okR ps lh lp (Cm.rMany Cm.rRt 0 st).1) = ok := by simp [Cm.rMany, Cm.okR]
        rw [e]
        exact h
    | succ n ihn =>
      intro st lh lp ok xs Mr w hn hok h k
      refine hX _ _ ?_
      unfold T_conf_Load_3_body T_conf_Load_4
      obtain ⟨er, he, hb⟩ := rdr_err h
      refine ite_d (fun _ => ⟨_, rfl, er, he, ?_⟩) fun hh => absurd (show ((n + 1 : Nat) : Int) > 0 by omega) hh
      rw [hb]
      cases hbad : Cm.bad st with
      | true =>
        have em : Cm.rMany Cm.rRt (n + 1) st = ([], st) := by unfold Cm.rMany; rw [hbad]; rfl
        rw [em] at k
        refine ite_b (fun hh => by cases hh) fun _ => k w Mr lh lp (fun ho => ?_) ?_
        · rw [List.append_nil]
          exact (hok (by simpa [Cm.okR] using ho)).2.1
        · have e : (ok && Cm.okR ps lh lp []) = ok := by simp [Cm.okR]
          rw [e]
          exact h
      | false =>
        have em : Cm.rMany Cm.rRt (n + 1) st = ((Cm.rRt st).1 :: (Cm.rMany Cm.rRt n (Cm.rRt st).2).1, (Cm.rMany Cm.rRt n (Cm.rRt st).2).2) := by
          conv => lhs; unfold Cm.rMany
          rw [hbad]; rfl
        rw [em] at k
        refine ite_b (fun _ => ?_) fun hh => by cases hh
        refine rtext_spec hs at7 h fun w83 h83 => ⟨_, rfl, rtext_spec hs at7 h83 fun w86 h86 => ⟨_, rfl, ?_⟩⟩
        intro w88
        have h88 := h86.alloc (.cells #[.string (ByteArray.mk #[]), .string (ByteArray.mk #[])] 89)
        refine ⟨rfl, ok_place h88 rfl _ _, ?_⟩
        intro w89
        have h89 : St E (blkL w86.heap.size 89 (celP ((Cm.rText st).1, (Cm.rText (Cm.rText st).2).1)) :: ldR r b0 bp bw p mp mr mc q b (Cm.rText (Cm.rText st).2).2 ok lh lp v Mp Mr Mc F L) w89 := St.wr_place h88 rfl _ _
        clear_value w89
        clear h88
        clear_value w88
        generalize w86.heap.size = bk at *
        refine rtext_spec hs at8 h89.f1 fun w91 h91 => ⟨_, rfl, ?_⟩
        have hx : Cm.rRt st = (⟨(Cm.rText st).1, (Cm.rText (Cm.rText st).2).1, (Cm.rText (Cm.rText (Cm.rText st).2).2).1⟩, (Cm.rText (Cm.rText (Cm.rText st).2).2).2) := rfl
        rw [hx] at k
        have hl1 := rText_len st
        have hl2 := rText_len (Cm.rText st).2
        generalize (Cm.rText (Cm.rText (Cm.rText st).2).2).1 = xo at *
        generalize (Cm.rText (Cm.rText (Cm.rText st).2).2).2 = st2 at *
        generalize (Cm.rText (Cm.rText st).2).1 = xp at *
        generalize (Cm.rText st).1 = xh at *
        have h91 : St E (rdrA 116 r q b st2 :: blkL bk 89 (celP (xh, xp)) :: blkL b0 4 [.bool ok] :: blkL bp 23 [.pointer (some ⟨p, 0, none⟩)] :: blkL bw 89 (celP (lh, lp)) :: st4 p v mp mr mc Mp Mr Mc (kn F :: L)) w91 := h91
        refine ⟨_, rd_cell h91.f3.at_blk rfl rfl, _, rfl, _, rd_fld h91.f5.at_blk rfl rfl, ?_⟩
        have hlk := lookup_ok_run strLaw und_pools tm_tgs (St.sel h91 9 [6, 0, 1, 2, 3, 4, 5, 7, 8]) xo
        obtain ⟨sv, hsv⟩ : ∃ sv : Sl, (Instr.lookup 75 (.map (some mp)) (.string (bs xo)) true).run Tryz.prog w91 = .ok (.tuple #[.slice sv.1 sv.2.1 sv.2.2, .bool (mget Mp xo).isSome]) w91 := by
          cases hv : mget Mp xo with
          | none => rw [hv] at hlk; exact ⟨(none, 0, 0), hlk⟩
          | some u => rw [hv] at hlk; exact ⟨u.1, hlk⟩
        refine runV_ok hsv ⟨_, _, _, _, rfl, ?_⟩
        intro w100
        have h100 : St E (rdrA 116 r q b st2 :: blkL bk 89 (celP (xh, xp)) :: blkL b0 4 [.bool ok] :: blkL bp 23 [.pointer (some ⟨p, 0, none⟩)] :: blkL bw 89 (celP (lh, lp)) :: st4 p v mp mr mc Mp Mr Mc (kn F :: L)) w100 := h91.drew
        clear_value w100
        refine ⟨_, rd_cell h100.f3.at_blk rfl rfl, _, rfl, _, rd_fld h100.f5.at_blk rfl rfl, _, _, rd_place h100.f1, ?_⟩
        have hnd : (Mr.map (·.1)).Nodup := St.nodup (St.sel h100 9 [7, 0])
        obtain ⟨w106, hr106, h106⟩ := mapUpdate_run placeLaw und_routes (St.sel h100 9 [7, 1, 0, 2, 3, 4, 5, 6, 8]) (xh, xp) xo
        have h107 : St E (blkL bk 89 (celP (xh, xp)) :: ldR r b0 bp bw p mp mr mc q b st2 ok lh lp v Mp (mset Mr (xh, xp) xo) Mc F L) w106 := St.sel (L := mapA mr encP encS (mset Mr (xh, xp) xo) :: blkL bk 89 (celP (xh, xp)) :: rdrA 116 r q b st2 :: blkL b0 4 [.bool ok] :: blkL bp 23 [.pointer (some ⟨p, 0, none⟩)] :: blkL bw 89 (celP (lh, lp)) :: blkL p 79 (stL v mp mr mc) :: mapA mp encS pvV Mp :: mapA mc encI lvV Mc :: kn F :: L) h106 10 [1, 2, 3, 4, 5, 6, 7, 0, 8, 9]
        refine runV_ok hr106 ⟨trivial, ?_⟩
        have fin : ∀ (w : World) (val : Bool), val = (ok && ((mget Mp xo).isSome && (Cm.isHost xh && (Cm.isPfx xp && (decide (lh < xh) || (decide (xh = lh) && decide (lp < xp))))))) → St E (blkL bk 89 (celP (xh, xp)) :: ldR r b0 bp bw p mp mr mc q b st2 ok lh lp v Mp (mset Mr (xh, xp) xo) Mc F L) w →
            (.bool val : Value).cells.size = 1 ∧ wrOk w (⟨b0, 0, none⟩ : Addr) (.bool val) ∧ let w1 : World := wr w (⟨b0, 0, none⟩ : Addr) (.bool val)
            ∃ s1 : ByteArray, ∃ s2 : ByteArray, rd w1 (⟨bk, 0, none⟩ : Addr) (.agg #[.string s1, .string s2]) ∧ (.agg #[.string s1, .string s2] : Value).cells.size = 2 ∧ wrOk w1 (⟨bw, 0, none⟩ : Addr) (.agg #[.string s1, .string s2]) ∧ let w2 : World := wr w1 (⟨bw, 0, none⟩ : Addr) (.agg #[.string s1, .string s2])
            X (IntKind.wrap .i64 (((n + 1 : Nat) : Int) - 1)) w2 := fun w val hval h => by
          refine ⟨rfl, wrOk_cell h.f2.at_blk (by simp) rfl, ?_⟩
          intro w1
          have h1 : St E (blkL b0 4 [.bool val] :: blkL bk 89 (celP (xh, xp)) :: rdrA 116 r q b st2 :: blkL bp 23 [.pointer (some ⟨p, 0, none⟩)] :: blkL bw 89 (celP (lh, lp)) :: st4 p v mp mr mc Mp (mset Mr (xh, xp) xo) Mc (kn F :: L)) w1 := h.f2.wr_cell (off := 0) (v := .bool val) rfl
          clear_value w1
          refine ⟨_, _, rd_place h1.f1, rfl, ok_place h1.f4 rfl _ _, ?_⟩
          intro w2
          have h2 := St.wr_place h1.f4 rfl xh xp
          have h3 : St E (ldR r b0 bp bw p mp mr mc q b st2 val xh xp v Mp (mset Mr (xh, xp) xo) Mc F L) w2 := St.sel (L := blkL bw 89 (celP (xh, xp)) :: blkL b0 4 [.bool val] :: blkL bk 89 (celP (xh, xp)) :: rdrA 116 r q b st2 :: blkL bp 23 [.pointer (some ⟨p, 0, none⟩)] :: st4 p v mp mr mc Mp (mset Mr (xh, xp) xo) Mc (kn F :: L)) h2 5 [3, 1, 4, 0]
          rw [wrap_pred (by omega) (by omega)]
          have hall : val = true → poolsR F Mp ps ∧ routesR Mr xs ∧ (∀ y ∈ xs, (y.host = lh ∧ y.pfx = lp) ∨ y.host < lh ∨ (y.host = lh ∧ y.pfx < lp)) ∧ (lh < xh ∨ (xh = lh ∧ lp < xp)) := fun ho => by
            rw [hval] at ho
            simp only [Bool.and_eq_true, Bool.or_eq_true, decide_eq_true_eq] at ho
            obtain ⟨a1, _, _, _, a5⟩ := ho
            obtain ⟨c1, c2, c3⟩ := hok a1
            exact ⟨c1, c2, c3, a5⟩
          refine ihn st2 xh xp val (xs ++ [⟨xh, xp, xo⟩]) (mset Mr (xh, xp) xo) w2 (by omega) (fun ho => ?_) h3 fun w' Mr' lh' lp' hp' h' => ?_
          · obtain ⟨c1, c2, c3, c4⟩ := hall ho
            have lt : ∀ y ∈ xs, y.host < xh ∨ (y.host = xh ∧ y.pfx < xp) := fun y hy => by
              rcases c3 y hy with ⟨d1, d2⟩ | d | ⟨d1, d2⟩ <;> rcases c4 with c | ⟨c, c'⟩
              · exact .inl (d1 ▸ c)
              · exact .inr ⟨d1.trans c.symm, d2 ▸ c'⟩
              · exact .inl (Cm.slt_trans d c)
              · exact .inl (c ▸ d)
              · exact .inl (d1 ▸ c)
              · exact .inr ⟨d1.trans c.symm, Cm.slt_trans d2 c'⟩
            refine ⟨c1, routes_more (x := ⟨xh, xp, xo⟩) c2 hnd fun y hy e => ?_, fun y hy => ?_⟩
            · rcases lt y hy with d | ⟨_, d⟩
              · rw [e.1] at d; exact Cm.slt_irrefl _ d
              · rw [e.2] at d; exact Cm.slt_irrefl _ d
            · rcases List.mem_append.1 hy with hy | hy
              · exact .inr (lt y hy)
              · rw [List.mem_singleton.1 hy]; exact .inl ⟨rfl, rfl⟩
          · have e : (val && Cm.okR ps xh xp (Cm.rMany Cm.rRt n st2).1) = (ok && Cm.okR ps lh lp (⟨xh, xp, xo⟩ :: (Cm.rMany Cm.rRt n st2).1)) := by
              rw [hval]
              cases hk : ok with
              | false => rfl
              | true =>
                simp only [Cm.okR, Bool.true_and, Bool.and_assoc]
                rw [some_any (hok hk).1]
            rw [e] at hp' h'
            refine k w' Mr' lh' lp' (fun ho => ?_) h'
            have := hp' ho
            rwa [List.append_assoc] at this
        refine ⟨_, rd_cell h107.f2.at_blk rfl rfl, ite_b (fun ho => ?_) fun ho => fin _ _ (by rw [ho]; rfl) h107⟩
        refine ite_b (fun ht => ?_) fun ht => fin _ _ (by rw [ht, Bool.false_and, Bool.and_false]) h107
        refine ⟨bs xh, rd_cell h107.at_blk rfl rfl, ?_⟩
        refine host_spec h107 (by unfold huge; omega) fun w110 h110 => ⟨_, rfl, ite_b (fun h1 => ?_) fun h1 => fin _ _ (by rw [h1, Bool.false_and, Bool.and_false, Bool.and_false]) h110⟩
        refine ⟨bs xp, rd_fld h110.at_blk rfl rfl, ?_⟩
        refine prefix_spec h110 (by unfold huge; omega) fun w114 h114 => ⟨_, rfl, ite_b (fun h2 => ?_) fun h2 => fin _ _ (by rw [h2, Bool.false_and, Bool.and_false, Bool.and_false, Bool.and_false]) h114⟩
        refine ⟨bs xh, rd_cell h114.at_blk rfl rfl, bs lh, rd_cell h114.f4.at_blk rfl rfl, ?_⟩
        rw [str_beq, bs_toList, bs_toList, bytesLess_eq, Cm.gt_dec]
        refine ite_d (fun h3 => fin _ _ (by rw [ho, ht, h1, h2, decide_eq_true h3]; rfl) h114) fun h3 => ?_
        refine ⟨bs xh, rd_cell h114.at_blk rfl rfl, bs lh, rd_cell h114.f4.at_blk rfl rfl, ?_⟩
        rw [str_beq]
        refine ite_d (fun h4 => ?_) fun h4 => fin _ _ (by rw [decide_eq_false h3, decide_eq_false h4, Bool.false_and, Bool.or_false, Bool.and_false, Bool.and_false, Bool.and_false, Bool.and_false]) h114
        refine ⟨bs xp, rd_fld h114.at_blk rfl rfl, bs lp, rd_fld h114.f4.at_blk rfl rfl, ?_⟩
        rw [str_beq, bs_toList, bs_toList, bytesLess_eq, Cm.gt_dec]
        exact fin _ _ (by rw [ho, ht, h1, h2, decide_eq_false h3, decide_eq_true h4]; rfl) h114
  refine key n0 st [] [] ok0 [] [] w hn0 (fun ho => ⟨hp0 ho, List.Perm.nil, fun y hy => (nomatch hy)⟩) h fun w' Mr' lh lp hp h' => k w' Mr' lh lp hp h'
end
end Go.Vc

/-
  conf.Load: what was told last, read one by one into the store's map.
-/
namespace Go.Cm
/-- What Load asks of what was told last, behind a client. -/
def okL (v : Int) : Int → List Last → Bool
  | _, [] => true
  | least, x :: r => decide (least < x.client) && (decide (x.client ≤ 32) && (decide (0 < x.seq) && (told x.e && (decide (x.ver ≤ v) && okL v x.client r))))
end Go.Cm
namespace Go.Vc
open Go Go.Proofs Go.Proofs.YtcpmfjclkdjfmaaGreat Go.RowKit
set_option maxRecDepth 100000
section
variable {E w : World} {L : List Asrt} {R : Ending → World → Prop} {F G : Fz} {q : Sl} {b : Cm.Bs} {st : Cm.Ps} {p r b0 bp mp mr mc : Nat} {v : Int} {Mp : List (Cm.Bs × PV)} {Mr : List (Pr × Cm.Bs)} {Mc : List (Int × LV)}
theorem clients_more {xs : List Cm.Last} {x : Cm.Last} (h : clientsR Mc xs) (hn : (Mc.map (·.1)).Nodup) (hx : ∀ y ∈ xs, y.client ≠ x.client) : clientsR (mset Mc x.client (x.seq, x.e, x.ver)) (xs ++ [x]) := by
  have hni : x.client ∉ Mc.map (·.1) := fun hm => by
    obtain ⟨e, he, h1⟩ := List.mem_map.1 hm
    obtain ⟨y, hy, h2⟩ := List.mem_map.1 (List.Perm.mem_iff h |>.1 he)
    rw [← h2] at h1
    exact hx y hy h1
  have hp := mset_perm hn x.client ((x.seq, x.e, x.ver) : LV)
  rw [butM_self hni] at hp
  refine hp.trans ?_
  refine List.Perm.trans (List.Perm.cons _ h) ?_
  rw [List.map_append]
  exact (List.perm_append_singleton _ _).symm
theorem rd_seen {bk t : Nat} {x : LV} (h : St E (blkL bk t (seenL x) :: L) w) : rd w ⟨bk, 0, none⟩ (.agg #[.int .i64 x.1, .int .i64 x.2.1, .int .i64 x.2.2]) := rd_agg (xs := seenL x) h.at_blk (by intro i u hu; rw [Nat.zero_add]; exact hu)
theorem told7_spec {Kn : Bool → World → Prop} {Kp : List PanicEntry → World → Prop} {bk t : Nat} {x : LV} (h : St E (blkL bk t (seenL x) :: L) w) (k : Kn (Cm.told x.2.1) w) : T_conf_Load_7 ⟨bk, 0, none⟩ w Kn Kp := by
  unfold T_conf_Load_7
  have rdE : rd w ((⟨bk, 0, none⟩ : Addr).add 1) (.int .i64 x.2.1) := rd_fld h.at_blk rfl rfl
  have e : Cm.told x.2.1 = (decide (x.2.1 = 0) || decide (x.2.1 = 6) || decide (x.2.1 = 8) || decide (x.2.1 = 12) || decide (x.2.1 = 13)) := rfl
  rw [e] at k
  refine ⟨_, rdE, ?_⟩
  rw [eq_dec]
  refine ite_d (fun h0 => by rw [decide_eq_true h0] at k; simpa using k) fun h0 => ⟨_, rdE, ?_⟩
  rw [eq_dec]
  refine ite_d (fun h1 => by rw [decide_eq_true h1] at k; simpa using k) fun h1 => ⟨_, rdE, ?_⟩
  rw [eq_dec]
  refine ite_d (fun h2 => by rw [decide_eq_true h2] at k; simpa using k) fun h2 => ⟨_, rdE, ?_⟩
  rw [eq_dec]
  refine ite_d (fun h3 => by rw [decide_eq_true h3] at k; simpa using k) fun h3 => ⟨_, rdE, ?_⟩
  rw [eq_dec]
  rw [decide_eq_false h0, decide_eq_false h1, decide_eq_false h2, decide_eq_false h3] at k
  simpa using k
set_option maxHeartbeats 8000000 in
theorem load5_spec {Kn : World → Prop} {Kp : List PanicEntry → World → Prop} {n0 : Nat} {ok0 : Bool} (hs : Src F q b) (hn0 : n0 ≤ 1000) (h : St E (ldL r b0 bp p mp mr mc q b st ok0 v Mp Mr [] F L) w)
    (k : ∀ (w' : World) (Mc : List (Int × LV)), ((ok0 && Cm.okL v 0 (Cm.rMany Cm.rLa n0 st).1) = true → clientsR Mc (Cm.rMany Cm.rLa n0 st).1) → St E (ldL r b0 bp p mp mr mc q b (Cm.rMany Cm.rLa n0 st).2 (ok0 && Cm.okL v 0 (Cm.rMany Cm.rLa n0 st).1) v Mp Mr Mc F L) w' → Kn w') :
    T_conf_Load_5 0 (n0 : Int) ⟨r, 0, none⟩ ⟨bp, 0, none⟩ ⟨b0, 0, none⟩ w Kn Kp := by
  unfold T_conf_Load_5
  intro X hX
  have key : ∀ (n : Nat) (st : Cm.Ps) (least : Int) (ok : Bool) (xs : List Cm.Last) (Mc : List (Int × LV)) (w : World), n ≤ 1000 → (ok = true → clientsR Mc xs ∧ ∀ y ∈ xs, y.client ≤ least) → St E (ldL r b0 bp p mp mr mc q b st ok v Mp Mr Mc F L) w →
      (∀ (w' : World) (Mc' : List (Int × LV)), ((ok && Cm.okL v least (Cm.rMany Cm.rLa n st).1) = true → clientsR Mc' (xs ++ (Cm.rMany Cm.rLa n st).1)) → St E (ldL r b0 bp p mp mr mc q b (Cm.rMany Cm.rLa n st).2 (ok && Cm.okL v least (Cm.rMany Cm.rLa n st).1) v Mp Mr Mc' F L) w' → Kn w') →
      X least (n : Int) w := by
    intro n
    induction n with
    | zero =>
      intro st least ok xs Mc w hn hok h k
      refine hX _ _ _ ?_
      unfold T_conf_Load_5_body T_conf_Load_6
      refine ite_d (fun hh => absurd hh (by omega)) fun _ => ite_b (fun hh => by cases hh) fun _ => k w Mc (fun ho => ?_) ?_
      · rw [show (Cm.rMany Cm.rLa 0 st).1 = [] from rfl, List.append_nil]
        exact (hok (by simpa [Cm.rMany, Cm.okL] using ho)).1
      · have e : (ok && Cm.okL v least (Cm.rMany Cm.rLa 0 st).1) = ok := by simp [Cm.rMany, Cm.okL]
        rw [e]
        exact h
    | succ n ihn =>
      intro st least ok xs Mc w hn hok h k
      refine hX _ _ _ ?_
      unfold T_conf_Load_5_body T_conf_Load_6
      obtain ⟨er, he, hb⟩ := rdr_err h
      refine ite_d (fun _ => ⟨_, rfl, er, he, ?_⟩) fun hh => absurd (show ((n + 1 : Nat) : Int) > 0 by omega) hh
      rw [hb]
      cases hbad : Cm.bad st with
      | true =>
        have em : Cm.rMany Cm.rLa (n + 1) st = ([], st) := by unfold Cm.rMany; rw [hbad]; rfl
        rw [em] at k
        refine ite_b (fun hh => by cases hh) fun _ => k w Mc (fun ho => ?_) ?_
        · rw [List.append_nil]
          exact (hok (by simpa [Cm.okL] using ho)).1
        · have e : (ok && Cm.okL v least []) = ok := by simp [Cm.okL]
          rw [e]
          exact h
      | false =>
        have em : Cm.rMany Cm.rLa (n + 1) st = ((Cm.rLa st).1 :: (Cm.rMany Cm.rLa n (Cm.rLa st).2).1, (Cm.rMany Cm.rLa n (Cm.rLa st).2).2) := by
          conv => lhs; unfold Cm.rMany
          rw [hbad]; rfl
        rw [em] at k
        refine ite_b (fun _ => ?_) fun hh => by cases hh
        refine rnum_spec (most := 1099511627776) hs at6 h fun w1 h1 => ⟨_, rfl, rnum_spec (most := 1099511627776) hs at6 h1 fun w2 h2 => ⟨_, rfl, rnum_spec (most := 1099511627776) hs at6 h2 fun w3 h3 => ⟨_, rfl, rnum_spec (most := 1099511627776) hs at6 h3 fun w4 h4 => ⟨_, rfl, ?_⟩⟩⟩⟩
        obtain ⟨xk, xq, xe, xv, st2, hx, e1, e2, e3, e4, e5⟩ : ∃ (xk xq xe xv : Nat) (st2 : Cm.Ps), Cm.rLa st = (⟨xk, xq, xe, xv⟩, st2) ∧ (Cm.rNum 1099511627776 st).1 = xk ∧ (Cm.rNum 1099511627776 (Cm.rNum 1099511627776 st).2).1 = xq ∧ (Cm.rNum 1099511627776 (Cm.rNum 1099511627776 (Cm.rNum 1099511627776 st).2).2).1 = xe ∧ (Cm.rNum 1099511627776 (Cm.rNum 1099511627776 (Cm.rNum 1099511627776 (Cm.rNum 1099511627776 st).2).2).2).1 = xv ∧ (Cm.rNum 1099511627776 (Cm.rNum 1099511627776 (Cm.rNum 1099511627776 (Cm.rNum 1099511627776 st).2).2).2).2 = st2 := ⟨_, _, _, _, _, rfl, rfl, rfl, rfl, rfl, rfl⟩
        rw [hx] at k
        rw [e5] at h4
        rw [e1, e2, e3, e4]
        intro w180
        have h180 := h4.alloc (.cells #[.int .i64 0, .int .i64 0, .int .i64 0] 91)
        refine ⟨rfl, ok_seen h180 rfl ((xq : Int), (xe : Int), (xv : Int)), ?_⟩
        intro w181
        have h181 : St E (blkL w4.heap.size 91 (seenL ((xq : Int), (xe : Int), (xv : Int))) :: ldL r b0 bp p mp mr mc q b st2 ok v Mp Mr Mc F L) w181 := St.wr_seen h180 rfl ((xq : Int), (xe : Int), (xv : Int))
        clear_value w181
        clear h180
        clear_value w180
        generalize w4.heap.size = bk at *
        intro w182
        have h182 : St E (blkL bk 91 (seenL ((xq : Int), (xe : Int), (xv : Int))) :: ldL r b0 bp p mp mr mc q b st2 ok v Mp Mr Mc F L) w182 := h181.drew
        clear_value w182
        refine ⟨_, rd_cell h182.f3.at_blk rfl rfl, _, rfl, _, rd_fld h182.f4.at_blk rfl rfl, _, _, _, rd_seen h182, ?_⟩
        have hnd : (Mc.map (·.1)).Nodup := St.nodup (St.sel h182 9 [7, 0])
        obtain ⟨w189, hr189, h189⟩ := mapUpdate_run intLaw und_clients (St.sel h182 9 [7, 0, 1, 2, 3, 4, 5, 6, 8]) (xk : Int) (((xq : Int), (xe : Int), (xv : Int)) : LV)
        have h190 : St E (blkL bk 91 (seenL ((xq : Int), (xe : Int), (xv : Int))) :: ldL r b0 bp p mp mr mc q b st2 ok v Mp Mr (mset Mc (xk : Int) ((xq : Int), (xe : Int), (xv : Int))) F L) w189 := St.sel (L := mapA mc encI lvV (mset Mc (xk : Int) ((xq : Int), (xe : Int), (xv : Int))) :: blkL bk 91 (seenL ((xq : Int), (xe : Int), (xv : Int))) :: rdrA 116 r q b st2 :: blkL b0 4 [.bool ok] :: blkL bp 23 [.pointer (some ⟨p, 0, none⟩)] :: blkL p 79 (stL v mp mr mc) :: mapA mp encS pvV Mp :: mapA mr encP encS Mr :: kn F :: L) h189 9 [1, 2, 3, 4, 5, 6, 7, 0, 8]
        refine runV_ok hr189 ⟨trivial, ?_⟩
        refine told7_spec h190 ?_
        intro w201
        have h201 : St E (blkL bk 91 (seenL ((xq : Int), (xe : Int), (xv : Int))) :: ldL r b0 bp p mp mr mc q b st2 ok v Mp Mr (mset Mc (xk : Int) ((xq : Int), (xe : Int), (xv : Int))) F L) w201 := h190.drew
        clear_value w201
        have fin : ∀ (val : Bool), val = (ok && (decide (least < (xk : Int)) && (decide ((xk : Int) ≤ 32) && (decide (0 < (xq : Int)) && (Cm.told (xe : Int) && decide ((xv : Int) ≤ v)))))) →
            (.bool val : Value).cells.size = 1 ∧ wrOk w201 (⟨b0, 0, none⟩ : Addr) (.bool val) ∧ let w1 : World := wr w201 (⟨b0, 0, none⟩ : Addr) (.bool val)
            True ∧ X (xk : Int) (IntKind.wrap .i64 (((n + 1 : Nat) : Int) - 1)) w1 := fun val hval => by
          refine ⟨rfl, wrOk_cell h201.f2.at_blk (by simp) rfl, ?_⟩
          intro w1
          have h1 : St E (blkL b0 4 [.bool val] :: blkL bk 91 (seenL ((xq : Int), (xe : Int), (xv : Int))) :: rdrA 116 r q b st2 :: blkL bp 23 [.pointer (some ⟨p, 0, none⟩)] :: st4 p v mp mr mc Mp Mr (mset Mc (xk : Int) ((xq : Int), (xe : Int), (xv : Int))) (kn F :: L)) w1 := h201.f2.wr_cell (off := 0) (v := .bool val) rfl
          clear_value w1
          refine ⟨trivial, ?_⟩
          rw [wrap_pred (by omega) (by omega)]
          have h2 : St E (ldL r b0 bp p mp mr mc q b st2 val v Mp Mr (mset Mc (xk : Int) ((xq : Int), (xe : Int), (xv : Int))) F L) w1 := St.sel (L := blkL b0 4 [.bool val] :: blkL bk 91 (seenL ((xq : Int), (xe : Int), (xv : Int))) :: rdrA 116 r q b st2 :: blkL bp 23 [.pointer (some ⟨p, 0, none⟩)] :: st4 p v mp mr mc Mp Mr (mset Mc (xk : Int) ((xq : Int), (xe : Int), (xv : Int))) (kn F :: L)) h1 3 [2, 0]
          refine ihn st2 xk val (xs ++ [⟨xk, xq, xe, xv⟩]) _ w1 (by omega) (fun ho => ?_) h2 fun w' Mc' hp' h' => ?_
          · rw [hval] at ho
            simp only [Bool.and_eq_true, decide_eq_true_eq] at ho
            obtain ⟨a1, a2, _⟩ := ho
            obtain ⟨c1, c2⟩ := hok a1
            refine ⟨clients_more (x := ⟨xk, xq, xe, xv⟩) c1 hnd fun y hy e => ?_, fun y hy => ?_⟩
            · have := c2 y hy
              simp only at e
              omega
            · rcases List.mem_append.1 hy with hy | hy
              · have := c2 y hy; omega
              · rw [List.mem_singleton.1 hy]; exact Int.le_refl _
          · have e : (val && Cm.okL v xk (Cm.rMany Cm.rLa n st2).1) = (ok && Cm.okL v least (⟨xk, xq, xe, xv⟩ :: (Cm.rMany Cm.rLa n st2).1)) := by
              rw [hval]
              simp only [Cm.okL, Bool.and_assoc]
            rw [e] at hp' h'
            refine k w' Mc' (fun ho => ?_) h'
            have := hp' ho
            rwa [List.append_assoc] at this
        refine ⟨_, rd_cell h201.f2.at_blk rfl rfl, ite_b (fun ho => ?_) fun ho => fin _ (by rw [ho]; rfl)⟩
        refine ite_d (fun h1 => ?_) fun h1 => fin _ (by rw [decide_eq_false (show ¬ least < (xk : Int) from h1), Bool.false_and, Bool.and_false])
        refine ite_d (fun h2 => ?_) fun h2 => fin _ (by rw [decide_eq_false h2, Bool.false_and, Bool.and_false, Bool.and_false])
        refine ⟨_, rd_cell h201.at_blk rfl rfl, ite_d (fun h3 => ?_) fun h3 => fin _ (by rw [decide_eq_false (show ¬ 0 < (xq : Int) from h3), Bool.false_and, Bool.and_false, Bool.and_false, Bool.and_false])⟩
        refine ite_b (fun h4 => ?_) fun h4 => fin _ (by rw [show Cm.told (xe : Int) = false from h4, Bool.false_and, Bool.and_false, Bool.and_false, Bool.and_false, Bool.and_false])
        refine ⟨(xv : Int), rd_fld (k := 2) h201.at_blk rfl rfl, _, rd_cell h201.f3.at_blk rfl rfl, _, rfl, v, rd_cell h201.f4.at_blk rfl rfl, ?_⟩
        exact fin _ (by rw [ho, decide_eq_true (show least < (xk : Int) from h1), decide_eq_true h2, decide_eq_true (show 0 < (xq : Int) from h3), show Cm.told (xe : Int) = true from h4]; rfl)
  exact key n0 st 0 ok0 [] [] w hn0 (fun _ => ⟨List.Perm.nil, fun y hy => (nomatch hy)⟩) h k
end
end Go.Vc

/-
  conf.Load: what its flag comes to is 'right'. No program in sight.
-/
namespace Go.Cm
theorem nil_lt {s : Bs} (h : s ≠ []) : ([] : Bs) < s := by
  cases s with
  | nil => exact absurd rfl h
  | cons a l => exact List.nil_lt_cons a l
def headP (last : Bs) : List Pl → Bool
  | [] => true
  | x :: _ => decide (last < x.name)
theorem okP_eq : ∀ (l : List Pl) (last : Bs), okP last l = (headP last l && (l.all (fun p => isName p.name && decide (chkT p.tg = 0)) && rises plLt l))
  | [], _ => rfl
  | [x], last => by
    simp only [okP, headP, List.all_cons, List.all_nil, rises, Bool.and_true]
    ac_rfl
  | x :: y :: r, last => by
    rw [okP, okP_eq (y :: r) x.name]
    simp only [headP, List.all_cons, rises, plLt]
    ac_rfl
theorem okP_nil (l : List Pl) : okP [] l = (l.all (fun p => isName p.name && decide (chkT p.tg = 0)) && rises plLt l) := by
  rw [okP_eq]
  cases l with
  | nil => rfl
  | cons x r =>
    cases hx : isName x.name with
    | false => simp [hx]
    | true =>
      have : x.name ≠ [] := fun e => by have := (name_len hx).1; rw [e] at this; simp at this
      rw [show headP [] (x :: r) = true from decide_eq_true (nil_lt this), Bool.true_and]
def headR (h p : Bs) : List Rt → Bool
  | [] => true
  | x :: _ => decide (h < x.host) || (decide (x.host = h) && decide (p < x.pfx))
theorem okR_eq (ps : List Pl) : ∀ (l : List Rt) (h p : Bs), okR ps h p l = (headR h p l && (l.all (fun r => ps.any (fun p => decide (p.name = r.pool)) && isHost r.host && isPfx r.pfx) && rises rtLt l))
  | [], _, _ => rfl
  | [x], h, p => by
    simp only [okR, headR, List.all_cons, List.all_nil, rises, Bool.and_true]
    ac_rfl
  | x :: y :: r, h, p => by
    rw [okR, okR_eq ps (y :: r) x.host x.pfx]
    have e : headR x.host x.pfx (y :: r) = rtLt x y := by
      simp only [headR, rtLt]
      rw [show decide (y.host = x.host) = decide (x.host = y.host) from by rw [Bool.eq_iff_iff]; simp only [decide_eq_true_eq]; exact ⟨Eq.symm, Eq.symm⟩]
    rw [e]
    simp only [headR, List.all_cons, rises]
    ac_rfl
theorem okR_nil (ps : List Pl) (l : List Rt) : okR ps [] [] l = (l.all (fun r => ps.any (fun p => decide (p.name = r.pool)) && isHost r.host && isPfx r.pfx) && rises rtLt l) := by
  rw [okR_eq]
  cases l with
  | nil => rfl
  | cons x r =>
    cases hx : isHost x.host with
    | false => simp [hx]
    | true =>
      have : x.host ≠ [] := fun e => by have := (host_len hx).1; rw [e] at this; simp at this
      rw [show headR [] [] (x :: r) = true from by simp [headR, nil_lt this], Bool.true_and]
def headL (least : Int) : List Last → Bool
  | [] => true
  | x :: _ => decide (least < x.client)
theorem rightL_eq {v : Int} {x : Last} (h : 0 < x.client) : rightL v x = (decide (x.client ≤ 32) && (decide (0 < x.seq) && (told x.e && decide (x.ver ≤ v)))) := by
  unfold rightL
  rw [show decide (1 ≤ x.client ∧ x.client ≤ 32) = decide (x.client ≤ 32) from decide_eq_decide.2 (by omega), show decide (1 ≤ x.seq) = decide (0 < x.seq) from decide_eq_decide.2 (by omega)]
  ac_rfl
theorem okL_eq (v : Int) : ∀ (l : List Last) (least : Int), 0 ≤ least → okL v least l = (headL least l && (l.all (rightL v) && rises (fun a b => decide (a.client < b.client)) l))
  | [], _, _ => rfl
  | [x], least, h => by
    by_cases hl : least < x.client
    · simp only [okL, headL, List.all_cons, List.all_nil, rises, Bool.and_true]
      rw [rightL_eq (by omega)]
    · simp [okL, headL, hl]
  | x :: y :: r, least, h => by
    by_cases hl : least < x.client
    · rw [okL, okL_eq v (y :: r) x.client (by omega)]
      simp only [headL, List.all_cons, rises]
      rw [rightL_eq (x := x) (by omega)]
      ac_rfl
    · simp [okL, headL, hl]
theorem okL_nil (v : Int) (l : List Last) : okL v 0 l = (l.all (rightL v) && rises (fun a b => decide (a.client < b.client)) l) := by
  rw [okL_eq v l 0 (Int.le_refl 0)]
  cases l with
  | nil => rfl
  | cons x r =>
    cases hx : rightL v x with
    | false => simp [hx]
    | true =>
      have : 0 < x.client := by
        unfold rightL at hx
        simp only [Bool.and_eq_true, decide_eq_true_eq] at hx
        omega
      rw [show headL 0 (x :: r) = true from decide_eq_true this, Bool.true_and]
/-- What Load's flag comes to, and its last look, is 'right'. -/
theorem right_eq (s : Sm) : right s = (((okP [] s.pools && okR s.pools [] [] s.routes) && okL s.ver 0 s.l) && decide ((confB s.pools s.routes).length ≤ 12000)) := by
  rw [okP_nil, okR_nil, okL_nil]
  rfl
end Go.Cm

/-
  conf.Load, whole.
-/
namespace Go.Vc
open Go Go.Proofs Go.Proofs.YtcpmfjclkdjfmaaGreat Go.RowKit
set_option maxRecDepth 100000
section
variable {E w : World} {L : List Asrt} {R : Ending → World → Prop} {F G : Fz} {q : Sl} {b : Cm.Bs} {st : Cm.Ps} {p r b0 bp bw mp mr mc : Nat} {v : Int} {Mp : List (Cm.Bs × PV)} {Mr : List (Pr × Cm.Bs)} {Mc : List (Int × LV)} {s : Cm.Sm}
theorem sz_ok (hp : Cm.okP [] s.pools = true) (hr : Cm.okR s.pools [] [] s.routes = true) (h1 : s.pools.length ≤ 32) (h2 : s.routes.length ≤ 64) : Sz s := by
  rw [Cm.okP_nil] at hp
  rw [Cm.okR_nil] at hr
  simp only [Bool.and_eq_true, List.all_eq_true, decide_eq_true_eq] at hp hr
  have hn : ∀ x ∈ s.pools, x.name.length ≤ 128 ∧ shortTs x.tg := fun x hx => ⟨by have := (Cm.name_len (hp.1 x hx).1).2; omega, short_of (hp.1 x hx).2⟩
  refine { pl := hn, pr := hp.2, pn := by omega, rt := fun x hx => ?_, rr := hr.2, rn := by omega }
  obtain ⟨⟨a1, a2⟩, a3⟩ := hr.1 x hx
  obtain ⟨y, hy, e⟩ := List.any_eq_true.1 a1
  have e : y.name = x.pool := by simpa using e
  refine ⟨by have := (Cm.host_len a2).2; omega, by have := (Cm.pfx_len a3).2; omega, by rw [← e]; exact (hn y hy).1⟩
theorem body_load1 : hasBody Tryz.prog 71 = true := by kernel_rfl
theorem load_c1 {ok : Bool} {A : Asrt} (hm : kn F ∈ L) (hsz : ok = true → Sz s ∧ poolsR F Mp s.pools ∧ routesR Mr s.routes) (h : St E (A :: blkL b0 4 [.bool ok] :: blkL bp 23 [.pointer (some ⟨p, 0, none⟩)] :: st4 p s.ver mp mr mc Mp Mr Mc L) w)
    (k : ∀ w', St E (A :: blkL b0 4 [.bool ok] :: blkL bp 23 [.pointer (some ⟨p, 0, none⟩)] :: st4 p s.ver mp mr mc Mp Mr Mc L) w' → R (.returned (.bool (ok && decide ((Cm.confB s.pools s.routes).length ≤ 12000)))) w') :
    Calls Tryz.prog 71 #[.pointer (some ⟨b0, 0, none⟩), .pointer (some ⟨bp, 0, none⟩)] w R := by
  refine C_conf_Load_c1 ?_
  unfold T_conf_Load_c1
  refine ⟨_, rd_cell h.f1.at_blk rfl rfl, ite_b (fun ho => ?_) fun ho => congB (k _ h) (by rw [ho]; rfl)⟩
  obtain ⟨S, hp, hr⟩ := hsz ho
  refine ⟨_, rd_cell h.f2.at_blk rfl rfl, ?_⟩
  refine config_spec4 (b := (none, 0, 0)) (xs := []) (s := s) (L := A :: blkL b0 4 [.bool ok] :: blkL bp 23 [.pointer (some ⟨p, 0, none⟩)] :: L) (List.mem_cons_of_mem _ (mem2 hm)) S hp hr (St.by_nil (h.sel 7 [3, 4, 5, 6, 0, 1, 2])) (by simp) fun w' b' h' => ⟨_, _, _, rfl, ?_⟩
  have hl := h'.by_len
  refine congB (k _ (St.sel (L := st4 p s.ver mp mr mc Mp Mr Mc (A :: blkL b0 4 [.bool ok] :: blkL bp 23 [.pointer (some ⟨p, 0, none⟩)] :: L)) h'.drop 7 [4, 5, 6, 0, 1, 2, 3])) ?_
  rw [ho, Bool.true_and]
  exact decide_eq_decide.2 (by rw [List.nil_append] at hl; omega)
set_option maxHeartbeats 8000000 in
/-- Load: at any bytes. -/
theorem Load_spec (hs : Src F q b) (h : St E (kn F :: L) w)
    (k1 : ∀ (e : Int) (G : Fz) (w' : World), Cm.load b = .error e → e ≠ 0 → Fz.le F G → St E (kn G :: L) w' → R (.returned (.tuple #[.pointer none, .int .i64 e])) w')
    (k2 : ∀ (s : Cm.Sm) (p : Nat) (G : Fz) (w' : World), Cm.load b = .ok s → Fz.le F G → St E (stA G p s :: kn G :: L) w' → R (.returned (.tuple #[.pointer (some ⟨p, 0, none⟩), .int .i64 0])) w') :
    Calls Tryz.prog 33 #[.slice q.1 q.2.1 q.2.2] w R := by
  refine C_conf_Load ?_
  unfold T_conf_Load
  intro w2
  have h2 : St E (rdrA 116 w.heap.size q b (.ok b) :: kn F :: L) w2 := h.rdr_new _ q b
  clear_value w2
  generalize w.heap.size = r at *
  refine New_spec F h2 fun p w4 h4 => ⟨_, rfl, ?_⟩
  obtain ⟨mp, mr, mc, Mp, Mr, Mc, hp, hr, hc, h4⟩ := St.st_open h4
  have e1 : Mp = [] := List.map_eq_nil_iff.1 (List.Perm.eq_nil hp.2)
  have e2 : Mr = [] := List.Perm.eq_nil hr
  have e3 : Mc = [] := List.Perm.eq_nil hc
  subst e1 e2 e3
  have h4 : St E (st4 p 0 mp mr mc [] [] [] (rdrA 116 r q b (.ok b) :: kn F :: L)) w4 := h4
  intro w6
  have h6 := h4.alloc (.cells #[.pointer none] 23)
  refine ⟨rfl, wrOk_cell h6.at_blk (by simp) rfl, ?_⟩
  intro w7
  have h7 : St E (blkL w4.heap.size 23 [.pointer (some ⟨p, 0, none⟩)] :: st4 p 0 mp mr mc [] [] [] (rdrA 116 r q b (.ok b) :: kn F :: L)) w7 := h6.wr_cell (off := 0) (v := .pointer (some ⟨p, 0, none⟩)) rfl
  clear_value w7
  clear h6
  clear_value w6
  generalize w4.heap.size = bp at *
  intro w8
  have h8 : St E (rdrA 116 r q b (.ok b) :: blkL bp 23 [.pointer (some ⟨p, 0, none⟩)] :: st4 p 0 mp mr mc [] [] [] (kn F :: L)) w8 := (h7.drew).sel 7 [5, 0, 1, 2, 3, 4, 6]
  clear_value w8
  refine ⟨_, rd_cell h8.f1.at_blk rfl rfl, ?_⟩
  refine rnum_spec (most := 1099511627776) hs at5 h8 fun w11 h11 => ⟨_, rfl, ⟨rd_cell h11.f1.at_blk rfl rfl, trivial⟩, _, rfl, rfl, wrOk_cell h11.f2.at_blk (by simp [stL]) rfl, ?_⟩
  obtain ⟨sm, hsm⟩ : ∃ sm, Cm.rSm b = sm := ⟨_, rfl⟩
  have hsm' : Cm.rSm b = (⟨((Cm.rNum 1099511627776 (.ok b)).1 : Int), (Cm.rMany Cm.rRt (Cm.rNum 64 (Cm.rMany Cm.rPl (Cm.rNum 32 (Cm.rNum 1099511627776 (.ok b)).2).1 (Cm.rNum 32 (Cm.rNum 1099511627776 (.ok b)).2).2).2).1 (Cm.rNum 64 (Cm.rMany Cm.rPl (Cm.rNum 32 (Cm.rNum 1099511627776 (.ok b)).2).1 (Cm.rNum 32 (Cm.rNum 1099511627776 (.ok b)).2).2).2).2).1, (Cm.rMany Cm.rPl (Cm.rNum 32 (Cm.rNum 1099511627776 (.ok b)).2).1 (Cm.rNum 32 (Cm.rNum 1099511627776 (.ok b)).2).2).1, _⟩, _) := rfl
  have hn1 := rNum_le 32 (Cm.rNum 1099511627776 (.ok b)).2
  obtain ⟨v, hv⟩ : ∃ v : Int, ((Cm.rNum 1099511627776 (.ok b)).1 : Int) = v := ⟨_, rfl⟩
  rw [hv]
  intro w14
  have h14 : St E (blkL p 79 (stL v mp mr mc) :: rdrA 116 r q b (Cm.rNum 1099511627776 (.ok b)).2 :: blkL bp 23 [.pointer (some ⟨p, 0, none⟩)] :: mapA mp encS pvV [] :: mapA mr encP encS [] :: mapA mc encI lvV [] :: kn F :: L) w14 := h11.f2.wr_cell (off := 0) (v := .int .i64 v) rfl
  clear_value w14
  refine ⟨trivial, ?_⟩
  intro w15
  have h15 := h14.alloc (.cells #[.bool false] 4)
  refine ⟨rfl, wrOk_cell h15.at_blk (by simp) rfl, ?_⟩
  intro w16
  have h16 : St E (blkL w14.heap.size 4 [.bool true] :: blkL p 79 (stL v mp mr mc) :: rdrA 116 r q b (Cm.rNum 1099511627776 (.ok b)).2 :: blkL bp 23 [.pointer (some ⟨p, 0, none⟩)] :: mapA mp encS pvV [] :: mapA mr encP encS [] :: mapA mc encI lvV [] :: kn F :: L) w16 := h15.wr_cell (off := 0) (v := .bool true) rfl
  clear_value w16
  clear h15
  clear_value w15
  generalize w14.heap.size = b0 at *
  refine rnum_spec (most := 32) hs at6 (h16.sel 8 [2, 0, 3, 1, 4, 5, 6, 7]) fun w18 h18 => ⟨_, rfl, ?_⟩
  refine load1_spec (v := v) hs (by omega) h18 fun G w62 Mp hG hpp h62 => ?_
  generalize hps : Cm.rMany Cm.rPl (Cm.rNum 32 (Cm.rNum 1099511627776 (.ok b)).2).1 (Cm.rNum 32 (Cm.rNum 1099511627776 (.ok b)).2).2 = P1 at *
  have hn2 := rNum_le 64 P1.2
  intro w63
  have h63 := h62.alloc (.cells #[.string (ByteArray.mk #[]), .string (ByteArray.mk #[])] 89)
  refine ⟨rfl, ok_place h63 rfl [] [], ?_⟩
  intro w64
  have h64 : St E (blkL w62.heap.size 89 (celP ([], [])) :: ldL r b0 bp p mp mr mc q b P1.2 (Cm.okP [] P1.1) v Mp [] [] G L) w64 := St.wr_place h63 rfl [] []
  clear_value w64
  clear h63
  clear_value w63
  generalize w62.heap.size = bw at *
  refine rnum_spec (most := 64) (hs.mono hG) at7 (h64.sel 9 [1, 2, 3, 0, 4, 5, 6, 7, 8]) fun w66 h66 => ⟨_, rfl, ?_⟩
  refine load3_spec (ps := P1.1) (v := v) (hs.mono hG) (by omega) hpp h66 fun w150 Mr lh lp hrr h150 => ?_
  generalize hrs : Cm.rMany Cm.rRt (Cm.rNum 64 P1.2).1 (Cm.rNum 64 P1.2).2 = R1 at *
  have hn3 := rNum_le 32 R1.2
  refine rnum_spec (most := 32) (hs.mono hG) at7 h150 fun w152 h152 => ⟨_, rfl, ?_⟩
  refine load5_spec (v := v) (hs.mono hG) (by omega) (h152.sel 9 [0, 1, 2, 4, 5, 6, 7, 8]) fun w214 Mc hcc h214 => ?_
  generalize hls : Cm.rMany Cm.rLa (Cm.rNum 32 R1.2).1 (Cm.rNum 32 R1.2).2 = L1 at *
  have hrm : Cm.rSm b = (⟨v, R1.1, P1.1, L1.1⟩, L1.2) := by
    rw [← hls, ← hrs, ← hps, ← hv]
    rfl
  have hpl : P1.1.length ≤ 32 := by rw [← hps]; exact Nat.le_trans (rMany_all (g := fun _ => True) (fun _ => trivial) _ _).1 hn1
  have hrl : R1.1.length ≤ 64 := by rw [← hrs]; exact Nat.le_trans (rMany_all (g := fun _ => True) (fun _ => trivial) _ _).1 hn2
  have hall : ((Cm.okP [] P1.1 && Cm.okR P1.1 [] [] R1.1) && Cm.okL v 0 L1.1) = true → Sz ⟨v, R1.1, P1.1, L1.1⟩ ∧ poolsR G Mp P1.1 ∧ routesR Mr R1.1 := fun ho => by
    simp only [Bool.and_eq_true] at ho
    exact ⟨sz_ok ho.1.1 ho.1.2 hpl hrl, hpp ho.1.1, hrr (by rw [ho.1.1, ho.1.2]; rfl)⟩
  obtain ⟨a, e, hro, _⟩ := h214.rdr_open
  refine end_spec (v := ((Cm.okP [] P1.1 && Cm.okR P1.1 [] [] R1.1) && Cm.okL v 0 L1.1) && decide ((Cm.confB P1.1 R1.1).length ≤ 12000)) (hs.mono hG) body_load1 h214 (fun A w R _ h k => load_c1 (s := ⟨v, R1.1, P1.1, L1.1⟩) (L := kn G :: L) at0 hall h k) fun w216 h216 => ⟨_, rfl, ?_⟩
  have hre := Cm.right_eq ⟨v, R1.1, P1.1, L1.1⟩
  have h216 : St E (blkL b0 4 [.bool ((Cm.okP [] P1.1 && Cm.okR P1.1 [] [] R1.1) && Cm.okL v 0 L1.1)] :: blkL bp 23 [.pointer (some ⟨p, 0, none⟩)] :: st4 p v mp mr mc Mp Mr Mc (kn G :: L)) w216 := h216
  rw [← hre]
  cases hst : L1.2 with
  | error x =>
    rw [hst] at hro
    have hx : x ≠ 0 := hro.2
    have hld : Cm.load b = .error x := by unfold Cm.load; rw [hrm]; simp only [hst]
    refine ite_b (fun _ => k1 x G _ hld hx hG (h216.sel 7 [6])) fun hh => by simp [endE, hx] at hh
  | ok rest =>
    by_cases hg : rest ≠ [] ∨ Cm.right ⟨v, R1.1, P1.1, L1.1⟩ = false
    · have hld : Cm.load b = .error 4 := by unfold Cm.load; rw [hrm]; simp only [hst]; rw [if_pos hg]
      have e4 : endE (.ok rest) (Cm.right ⟨v, R1.1, P1.1, L1.1⟩) = 4 := by unfold endE; simp only; rw [if_pos hg]
      rw [e4]
      exact ite_b (fun _ => k1 4 G _ hld (by decide) hG (h216.sel 7 [6])) fun hh => by cases hh
    · have hld : Cm.load b = .ok ⟨v, R1.1, P1.1, L1.1⟩ := by unfold Cm.load; rw [hrm]; simp only [hst]; rw [if_neg hg]
      have e4 : endE (.ok rest) (Cm.right ⟨v, R1.1, P1.1, L1.1⟩) = 0 := by unfold endE; simp only; rw [if_neg hg]
      have hr1 : Cm.right ⟨v, R1.1, P1.1, L1.1⟩ = true := by simpa using fun hf => hg (.inr hf)
      rw [hr1] at hre
      have ho := (Bool.and_eq_true _ _ ▸ hre.symm : _ ∧ _).1
      rw [e4]
      refine ite_b (fun hh => by cases hh) fun _ => ⟨_, rd_cell h216.f1.at_blk rfl rfl, ?_⟩
      obtain ⟨_, c1, c2⟩ := hall ho
      have hcl : clientsR Mc L1.1 := hcc ho
      exact k2 ⟨v, R1.1, P1.1, L1.1⟩ p G _ hld hG (St.st_mk (s := ⟨v, R1.1, P1.1, L1.1⟩) c1 c2 hcl (h216.sel 7 [2, 3, 4, 5, 6]))
end
end Go.Vc

/-
  What the functions' code comes to; printed by a program of this claim's own.
-/
namespace Go.Proofs.YtcpmfjclkdjfmaaGreat
open Go Go.Vc
set_option maxRecDepth 100000
set_option linter.unusedVariables false

/-! tollgate/tollgateref08.Load -/
def T_ref08_Load_2 (c18 : Addr) (n19 : Int) (i20 : Int) (w : World) (Kn : Bool → World → Prop) (Kp : List PanicEntry → World → Prop) : Prop :=
  if (decide ((i20 : Int) < n19)) = true then (∃ a21, some c18 = some a21 ∧ ∃ x22 : Int, rd w (a21.add 2) (.int .i64 x22) ∧ Kn ((x22 : Int) == 0) w) else (Kn false w)

def T_ref08_Load_2_outs : Exit → Option (List (Nat × Value)) := fun x => match x with | .normal => some [(37, .bool false)] | .panic _ => some [] | _ => none

def T_ref08_Load_2_ks : Nat → Bool := ksOf [28, 29, 30, 31, 32, 33, 34, 35, 36, 37]

def H_ref08_Load_2 : Env → World → QT → Prop := unitHook 149 T_ref08_Load_2_ks [(4, .pointer (some ⟨0, 0, none⟩)), (6, .int .i64 0), (7, .int .i64 0)] T_ref08_Load_2_outs fun l w C => match l with | [v0, v1, v2] => T_ref08_Load_2 (pAddr v0) (pInt v1) (pInt v2) w (fun b24 w => C .normal [.bool b24] w) (fun ch w => C (.panic ch) [] w) | _ => False

theorem T_ref08_Load_2_hl : allP (hokL Tryz.prog (hookAt []) (at_ (bodyOf Tryz.f34) [1, 1, 1, 1, 1, 0, 1, 0, 0, 0, 0]) 4048) = (True) := by kernel_rfl
theorem T_ref08_Load_2_hok : HOk Tryz.prog (hookAt []) (at_ (bodyOf Tryz.f34) [1, 1, 1, 1, 1, 0, 1, 0, 0, 0, 0]) 4048 := HOk_of _ _ (by rw [T_ref08_Load_2_hl]; exact trivial)

theorem T_ref08_Load_2_eq (C : Conts) (c18 : Addr) (n19 : Int) (i20 : Int) (w : World) : vcCode Tryz.prog (hookAt []) (at_ (bodyOf Tryz.f34) [1, 1, 1, 1, 1, 0, 1, 0, 0, 0, 0]) 4048 ⟨[(4, .pointer (some c18)), (6, .int .i64 n19), (7, .int .i64 i20)], 149, []⟩ w (unitQ T_ref08_Load_2_outs C) = T_ref08_Load_2 c18 n19 i20 w (fun b25 w => C .normal [.bool b25] w) (fun ch w => C (.panic ch) [] w) := by kernel_rfl

theorem T_ref08_Load_2_ok : UnitOk Tryz.prog H_ref08_Load_2 (at_ (bodyOf Tryz.f34) [1, 1, 1, 1, 1, 0, 1, 0, 0, 0, 0]) 4048 := unit_ok (H := (hookAt [])) (by kernel_rfl) T_ref08_Load_2_hok fun l w C hk => by
    obtain ⟨v0, l_v0, rfl, k_v0, hk_v0⟩ := Kinds.cons_ hk
    obtain ⟨c18, rfl⟩ := kind_addr k_v0
    obtain ⟨v1, l_v1, rfl, k_v1, hk_v1⟩ := Kinds.cons_ hk_v0
    obtain ⟨n19, rfl⟩ := kind_int k_v1
    obtain ⟨v2, l_v2, rfl, k_v2, hk_v2⟩ := Kinds.cons_ hk_v1
    obtain ⟨i20, rfl⟩ := kind_int k_v2
    obtain rfl := Kinds.nil_ hk_v2
    exact T_ref08_Load_2_eq C c18 n19 i20 w

def T_ref08_Load_1_body (X : Int → World → Prop) (i14 : Int) (c15 : Addr) (s16 : Option Addr) (n17 : Int) (w : World) (Kn : World → Prop) (Kp : List PanicEntry → World → Prop)  : Prop :=
  T_ref08_Load_2 c15 n17 i14 w (fun b26 w27 => if b26 = true then (Calls Tryz.prog 69 #[.pointer (some c15)] w27 (ret (fun r28 w29 => ∃ s30 : ByteArray, r28 = .string s30 ∧ let w31 : World := w29.drew
  ∃ a32, s16 = some a32 ∧ ∃ s33a : Option Addr, ∃ s33l : Nat, ∃ s33c : Nat, rd w31 (a32.add 2) (.slice s33a s33l s33c) ∧ Calls Tryz.prog 70 #[.pointer (some c15)] w31 (ret (fun r34 w35 => ∃ s36a : Option Addr, ∃ s36l : Nat, ∃ s36c : Nat, r34 = .slice s36a s36l s36c ∧ (rd w35 (a32.add 2) (.slice s33a s33l s33c) ∧ True) ∧ let w37 : World := w35.alloc (.cells #[.string s30, .slice s36a s36l s36c] 34)
  (rd w37 (a32.add 2) (.slice s33a s33l s33c) ∧ True) ∧ runV Tryz.prog (Builtin.append_ #[28, 28] 28 #[.slice s33a s33l s33c, .slice (some (⟨w35.heap.size, 0, none⟩ : Addr)) 1 1]) w37 (fun r38 w39 => ∃ s40a : Option Addr, ∃ s40l : Nat, ∃ s40c : Nat, r38 = .slice s40a s40l s40c ∧ (True) ∧ ∃ a41, s16 = some a41 ∧ (.slice s40a s40l s40c : Value).cells.size = 1 ∧ wrOk w39 (a41.add 2) (.slice s40a s40l s40c) ∧ let w42 : World := wr w39 (a41.add 2) (.slice s40a s40l s40c)
  (True) ∧ X (IntKind.wrap .i64 ((i14 : Int) + 1)) w42) Kp) Kp)) Kp)) else (Kn  w27)) Kp

def T_ref08_Load_1 (i14 : Int) (c15 : Addr) (s16 : Option Addr) (n17 : Int) (w : World) (Kn : World → Prop) (Kp : List PanicEntry → World → Prop) : Prop :=
  ∀ X : Int → World → Prop, (∀ (i14 : Int) (w : World), T_ref08_Load_1_body X i14 c15 s16 n17 w Kn Kp → X i14 w) → X i14 w

def T_ref08_Load_1_outs : Exit → Option (List (Nat × Value)) := fun x => match x with | .normal => some [] | .panic _ => some [] | _ => none

def T_ref08_Load_1_ks : Nat → Bool := ksOf [7, 8, 28, 29, 30, 31, 32, 33, 34, 35, 36, 37, 38, 39, 40, 41, 42, 43, 44, 45, 46, 47, 48, 49, 50, 51, 52, 53, 54, 55, 56]

def H_ref08_Load_1 : Env → World → QT → Prop := unitHook 149 T_ref08_Load_1_ks [(7, .int .i64 0), (4, .pointer (some ⟨0, 0, none⟩)), (5, .pointer none), (6, .int .i64 0)] T_ref08_Load_1_outs fun l w C => match l with | [v0, v1, v2, v3] => T_ref08_Load_1 (pInt v0) (pAddr v1) (pPtr v2) (pInt v3) w (fun w => C .normal [] w) (fun ch w => C (.panic ch) [] w) | _ => False

theorem T_ref08_Load_1_hl : allP (hokL Tryz.prog (hookAt [(4048, H_ref08_Load_2)]) (at_ (bodyOf Tryz.f34) [1, 1, 1, 1, 1, 0, 1, 0, 0]) 1012) = (UnitOk Tryz.prog H_ref08_Load_2 (at_ (bodyOf Tryz.f34) [1, 1, 1, 1, 1, 0, 1, 0, 0, 0, 0]) 4048 ∧ True) := by kernel_rfl
theorem T_ref08_Load_1_hok : HOk Tryz.prog (hookAt [(4048, H_ref08_Load_2)]) (at_ (bodyOf Tryz.f34) [1, 1, 1, 1, 1, 0, 1, 0, 0]) 1012 := HOk_of _ _ (by rw [T_ref08_Load_1_hl]; exact ⟨T_ref08_Load_2_ok, trivial⟩)

theorem T_ref08_Load_1_eq (C : Conts) (X : List Value → World → Prop) (i14 : Int) (c15 : Addr) (s16 : Option Addr) (n17 : Int) (w : World) : vcCode Tryz.prog (hookAt [(4048, H_ref08_Load_2)]) (at_ (bodyOf Tryz.f34) [1, 1, 1, 1, 1, 0, 1, 0, 0]) 1012 ⟨[(7, .int .i64 i14)] ++ [(4, .pointer (some c15)), (5, .pointer s16), (6, .int .i64 n17)], 149, []⟩ w (seqQ (fun e w => takeAll e [(7, .int .i64 0)] fun l => X l w) (blockQ 0 (unitQ T_ref08_Load_1_outs C))) = T_ref08_Load_1_body (fun i14 w => X [.int .i64 i14] w) i14 c15 s16 n17 w (fun w => C .normal [] w) (fun ch w => C (.panic ch) [] w) := by kernel_rfl

theorem T_ref08_Load_1_ok : UnitOk Tryz.prog H_ref08_Load_1 (at_ (bodyOf Tryz.f34) [1, 1, 1, 1, 1, 0, 1]) 253 := by
  have hc : at_ (bodyOf Tryz.f34) [1, 1, 1, 1, 1, 0, 1] = .block 0 (.loop (at_ (bodyOf Tryz.f34) [1, 1, 1, 1, 1, 0, 1, 0, 0])) := by kernel_rfl
  rw [hc]
  refine loop_unit_ok (carr := [(7, .int .i64 0)]) (fix := [(4, .pointer (some ⟨0, 0, none⟩)), (5, .pointer none), (6, .int .i64 0)]) (ks := T_ref08_Load_1_ks) (H := (hookAt [(4048, H_ref08_Load_2)])) (B := fun C X l u w => match l, u with | [v0], [v1, v2, v3] => T_ref08_Load_1_body (fun i14 w => X [.int .i64 i14] w) (pInt v0) (pAddr v1) (pPtr v2) (pInt v3) w (fun w => C .normal [] w) (fun ch w => C (.panic ch) [] w) | _, _ => False) (by kernel_rfl) (by kernel_rfl) T_ref08_Load_1_hok ?_ ?_
  · intro C X l u w hl hu
    obtain ⟨v0, l_v0, rfl, k_v0, hl_v0⟩ := Kinds.cons_ hl
    obtain ⟨i14, rfl⟩ := kind_int k_v0
    obtain rfl := Kinds.nil_ hl_v0
    obtain ⟨v1, l_v1, rfl, k_v1, hu_v1⟩ := Kinds.cons_ hu
    obtain ⟨c15, rfl⟩ := kind_addr k_v1
    obtain ⟨v2, l_v2, rfl, k_v2, hu_v2⟩ := Kinds.cons_ hu_v1
    obtain ⟨s16, rfl⟩ := kind_pointer k_v2
    obtain ⟨v3, l_v3, rfl, k_v3, hu_v3⟩ := Kinds.cons_ hu_v2
    obtain ⟨n17, rfl⟩ := kind_int k_v3
    obtain rfl := Kinds.nil_ hu_v3
    exact T_ref08_Load_1_eq C X i14 c15 s16 n17 w
  · intro l u w C hl hu
    obtain ⟨v0, l_v0, rfl, k_v0, hl_v0⟩ := Kinds.cons_ hl
    obtain ⟨i14, rfl⟩ := kind_int k_v0
    obtain rfl := Kinds.nil_ hl_v0
    obtain ⟨v1, l_v1, rfl, k_v1, hu_v1⟩ := Kinds.cons_ hu
    obtain ⟨c15, rfl⟩ := kind_addr k_v1
    obtain ⟨v2, l_v2, rfl, k_v2, hu_v2⟩ := Kinds.cons_ hu_v1
    obtain ⟨s16, rfl⟩ := kind_pointer k_v2
    obtain ⟨v3, l_v3, rfl, k_v3, hu_v3⟩ := Kinds.cons_ hu_v2
    obtain ⟨n17, rfl⟩ := kind_int k_v3
    obtain rfl := Kinds.nil_ hu_v3
    constructor
    · intro h X hX
      exact h (fun i14 w => X [.int .i64 i14] w) (fun i14 w hb => hX [.int .i64 i14] w ⟨rfl, trivial⟩ hb)
    · intro h X hX
      exact h (fun l w => match l with | [v0] => X (pInt v0) w | _ => True) (fun l w hl hb => by
        obtain ⟨v0, l_v0, rfl, k_v0, hl_v0⟩ := Kinds.cons_ hl
        obtain ⟨i14, rfl⟩ := kind_int k_v0
        obtain rfl := Kinds.nil_ hl_v0
        exact hX i14 w hb)

def T_ref08_Load_4 (c51 : Addr) (n52 : Int) (i53 : Int) (w : World) (Kn : Bool → World → Prop) (Kp : List PanicEntry → World → Prop) : Prop :=
  if (decide ((i53 : Int) < n52)) = true then (∃ a54, some c51 = some a54 ∧ ∃ x55 : Int, rd w (a54.add 2) (.int .i64 x55) ∧ Kn ((x55 : Int) == 0) w) else (Kn false w)

def T_ref08_Load_4_outs : Exit → Option (List (Nat × Value)) := fun x => match x with | .normal => some [(68, .bool false)] | .panic _ => some [] | _ => none

def T_ref08_Load_4_ks : Nat → Bool := ksOf [59, 60, 61, 62, 63, 64, 65, 66, 67, 68]

def H_ref08_Load_4 : Env → World → QT → Prop := unitHook 149 T_ref08_Load_4_ks [(4, .pointer (some ⟨0, 0, none⟩)), (6, .int .i64 0), (9, .int .i64 0)] T_ref08_Load_4_outs fun l w C => match l with | [v0, v1, v2] => T_ref08_Load_4 (pAddr v0) (pInt v1) (pInt v2) w (fun b57 w => C .normal [.bool b57] w) (fun ch w => C (.panic ch) [] w) | _ => False

theorem T_ref08_Load_4_hl : allP (hokL Tryz.prog (hookAt []) (at_ (bodyOf Tryz.f34) [1, 1, 1, 1, 1, 1, 1, 0, 1, 0, 0, 0, 0]) 16336) = (True) := by kernel_rfl
theorem T_ref08_Load_4_hok : HOk Tryz.prog (hookAt []) (at_ (bodyOf Tryz.f34) [1, 1, 1, 1, 1, 1, 1, 0, 1, 0, 0, 0, 0]) 16336 := HOk_of _ _ (by rw [T_ref08_Load_4_hl]; exact trivial)

theorem T_ref08_Load_4_eq (C : Conts) (c51 : Addr) (n52 : Int) (i53 : Int) (w : World) : vcCode Tryz.prog (hookAt []) (at_ (bodyOf Tryz.f34) [1, 1, 1, 1, 1, 1, 1, 0, 1, 0, 0, 0, 0]) 16336 ⟨[(4, .pointer (some c51)), (6, .int .i64 n52), (9, .int .i64 i53)], 149, []⟩ w (unitQ T_ref08_Load_4_outs C) = T_ref08_Load_4 c51 n52 i53 w (fun b58 w => C .normal [.bool b58] w) (fun ch w => C (.panic ch) [] w) := by kernel_rfl

theorem T_ref08_Load_4_ok : UnitOk Tryz.prog H_ref08_Load_4 (at_ (bodyOf Tryz.f34) [1, 1, 1, 1, 1, 1, 1, 0, 1, 0, 0, 0, 0]) 16336 := unit_ok (H := (hookAt [])) (by kernel_rfl) T_ref08_Load_4_hok fun l w C hk => by
    obtain ⟨v0, l_v0, rfl, k_v0, hk_v0⟩ := Kinds.cons_ hk
    obtain ⟨c51, rfl⟩ := kind_addr k_v0
    obtain ⟨v1, l_v1, rfl, k_v1, hk_v1⟩ := Kinds.cons_ hk_v0
    obtain ⟨n52, rfl⟩ := kind_int k_v1
    obtain ⟨v2, l_v2, rfl, k_v2, hk_v2⟩ := Kinds.cons_ hk_v1
    obtain ⟨i53, rfl⟩ := kind_int k_v2
    obtain rfl := Kinds.nil_ hk_v2
    exact T_ref08_Load_4_eq C c51 n52 i53 w

def T_ref08_Load_3_body (X : Int → World → Prop) (i47 : Int) (c48 : Addr) (s49 : Option Addr) (n50 : Int) (w : World) (Kn : World → Prop) (Kp : List PanicEntry → World → Prop)  : Prop :=
  T_ref08_Load_4 c48 n50 i47 w (fun b59 w60 => if b59 = true then (Calls Tryz.prog 69 #[.pointer (some c48)] w60 (ret (fun r61 w62 => ∃ s63 : ByteArray, r61 = .string s63 ∧ Calls Tryz.prog 69 #[.pointer (some c48)] w62 (ret (fun r64 w65 => ∃ s66 : ByteArray, r64 = .string s66 ∧ let w67 : World := w65.drew
  ∃ a68, s49 = some a68 ∧ ∃ s69a : Option Addr, ∃ s69l : Nat, ∃ s69c : Nat, rd w67 (a68.add 1) (.slice s69a s69l s69c) ∧ Calls Tryz.prog 69 #[.pointer (some c48)] w67 (ret (fun r70 w71 => ∃ s72 : ByteArray, r70 = .string s72 ∧ (rd w71 (a68.add 1) (.slice s69a s69l s69c) ∧ True) ∧ let w73 : World := w71.alloc (.cells #[.string s63, .string s66, .string s72] 36)
  (rd w73 (a68.add 1) (.slice s69a s69l s69c) ∧ True) ∧ runV Tryz.prog (Builtin.append_ #[27, 27] 27 #[.slice s69a s69l s69c, .slice (some (⟨w71.heap.size, 0, none⟩ : Addr)) 1 1]) w73 (fun r74 w75 => ∃ s76a : Option Addr, ∃ s76l : Nat, ∃ s76c : Nat, r74 = .slice s76a s76l s76c ∧ (True) ∧ ∃ a77, s49 = some a77 ∧ (.slice s76a s76l s76c : Value).cells.size = 1 ∧ wrOk w75 (a77.add 1) (.slice s76a s76l s76c) ∧ let w78 : World := wr w75 (a77.add 1) (.slice s76a s76l s76c)
  (True) ∧ X (IntKind.wrap .i64 ((i47 : Int) + 1)) w78) Kp) Kp)) Kp)) Kp)) else (Kn  w60)) Kp

def T_ref08_Load_3 (i47 : Int) (c48 : Addr) (s49 : Option Addr) (n50 : Int) (w : World) (Kn : World → Prop) (Kp : List PanicEntry → World → Prop) : Prop :=
  ∀ X : Int → World → Prop, (∀ (i47 : Int) (w : World), T_ref08_Load_3_body X i47 c48 s49 n50 w Kn Kp → X i47 w) → X i47 w

def T_ref08_Load_3_outs : Exit → Option (List (Nat × Value)) := fun x => match x with | .normal => some [] | .panic _ => some [] | _ => none

def T_ref08_Load_3_ks : Nat → Bool := ksOf [9, 10, 11, 59, 60, 61, 62, 63, 64, 65, 66, 67, 68, 69, 70, 71, 72, 73, 74, 75, 76, 77, 78, 79, 80, 81, 82, 83, 84, 85, 86, 87, 88, 89, 90]

def H_ref08_Load_3 : Env → World → QT → Prop := unitHook 149 T_ref08_Load_3_ks [(9, .int .i64 0), (4, .pointer (some ⟨0, 0, none⟩)), (5, .pointer none), (6, .int .i64 0)] T_ref08_Load_3_outs fun l w C => match l with | [v0, v1, v2, v3] => T_ref08_Load_3 (pInt v0) (pAddr v1) (pPtr v2) (pInt v3) w (fun w => C .normal [] w) (fun ch w => C (.panic ch) [] w) | _ => False

theorem T_ref08_Load_3_hl : allP (hokL Tryz.prog (hookAt [(16336, H_ref08_Load_4)]) (at_ (bodyOf Tryz.f34) [1, 1, 1, 1, 1, 1, 1, 0, 1, 0, 0]) 4084) = (UnitOk Tryz.prog H_ref08_Load_4 (at_ (bodyOf Tryz.f34) [1, 1, 1, 1, 1, 1, 1, 0, 1, 0, 0, 0, 0]) 16336 ∧ True) := by kernel_rfl
theorem T_ref08_Load_3_hok : HOk Tryz.prog (hookAt [(16336, H_ref08_Load_4)]) (at_ (bodyOf Tryz.f34) [1, 1, 1, 1, 1, 1, 1, 0, 1, 0, 0]) 4084 := HOk_of _ _ (by rw [T_ref08_Load_3_hl]; exact ⟨T_ref08_Load_4_ok, trivial⟩)

theorem T_ref08_Load_3_eq (C : Conts) (X : List Value → World → Prop) (i47 : Int) (c48 : Addr) (s49 : Option Addr) (n50 : Int) (w : World) : vcCode Tryz.prog (hookAt [(16336, H_ref08_Load_4)]) (at_ (bodyOf Tryz.f34) [1, 1, 1, 1, 1, 1, 1, 0, 1, 0, 0]) 4084 ⟨[(9, .int .i64 i47)] ++ [(4, .pointer (some c48)), (5, .pointer s49), (6, .int .i64 n50)], 149, []⟩ w (seqQ (fun e w => takeAll e [(9, .int .i64 0)] fun l => X l w) (blockQ 2 (unitQ T_ref08_Load_3_outs C))) = T_ref08_Load_3_body (fun i47 w => X [.int .i64 i47] w) i47 c48 s49 n50 w (fun w => C .normal [] w) (fun ch w => C (.panic ch) [] w) := by kernel_rfl

theorem T_ref08_Load_3_ok : UnitOk Tryz.prog H_ref08_Load_3 (at_ (bodyOf Tryz.f34) [1, 1, 1, 1, 1, 1, 1, 0, 1]) 1021 := by
  have hc : at_ (bodyOf Tryz.f34) [1, 1, 1, 1, 1, 1, 1, 0, 1] = .block 2 (.loop (at_ (bodyOf Tryz.f34) [1, 1, 1, 1, 1, 1, 1, 0, 1, 0, 0])) := by kernel_rfl
  rw [hc]
  refine loop_unit_ok (carr := [(9, .int .i64 0)]) (fix := [(4, .pointer (some ⟨0, 0, none⟩)), (5, .pointer none), (6, .int .i64 0)]) (ks := T_ref08_Load_3_ks) (H := (hookAt [(16336, H_ref08_Load_4)])) (B := fun C X l u w => match l, u with | [v0], [v1, v2, v3] => T_ref08_Load_3_body (fun i47 w => X [.int .i64 i47] w) (pInt v0) (pAddr v1) (pPtr v2) (pInt v3) w (fun w => C .normal [] w) (fun ch w => C (.panic ch) [] w) | _, _ => False) (by kernel_rfl) (by kernel_rfl) T_ref08_Load_3_hok ?_ ?_
  · intro C X l u w hl hu
    obtain ⟨v0, l_v0, rfl, k_v0, hl_v0⟩ := Kinds.cons_ hl
    obtain ⟨i47, rfl⟩ := kind_int k_v0
    obtain rfl := Kinds.nil_ hl_v0
    obtain ⟨v1, l_v1, rfl, k_v1, hu_v1⟩ := Kinds.cons_ hu
    obtain ⟨c48, rfl⟩ := kind_addr k_v1
    obtain ⟨v2, l_v2, rfl, k_v2, hu_v2⟩ := Kinds.cons_ hu_v1
    obtain ⟨s49, rfl⟩ := kind_pointer k_v2
    obtain ⟨v3, l_v3, rfl, k_v3, hu_v3⟩ := Kinds.cons_ hu_v2
    obtain ⟨n50, rfl⟩ := kind_int k_v3
    obtain rfl := Kinds.nil_ hu_v3
    exact T_ref08_Load_3_eq C X i47 c48 s49 n50 w
  · intro l u w C hl hu
    obtain ⟨v0, l_v0, rfl, k_v0, hl_v0⟩ := Kinds.cons_ hl
    obtain ⟨i47, rfl⟩ := kind_int k_v0
    obtain rfl := Kinds.nil_ hl_v0
    obtain ⟨v1, l_v1, rfl, k_v1, hu_v1⟩ := Kinds.cons_ hu
    obtain ⟨c48, rfl⟩ := kind_addr k_v1
    obtain ⟨v2, l_v2, rfl, k_v2, hu_v2⟩ := Kinds.cons_ hu_v1
    obtain ⟨s49, rfl⟩ := kind_pointer k_v2
    obtain ⟨v3, l_v3, rfl, k_v3, hu_v3⟩ := Kinds.cons_ hu_v2
    obtain ⟨n50, rfl⟩ := kind_int k_v3
    obtain rfl := Kinds.nil_ hu_v3
    constructor
    · intro h X hX
      exact h (fun i47 w => X [.int .i64 i47] w) (fun i47 w hb => hX [.int .i64 i47] w ⟨rfl, trivial⟩ hb)
    · intro h X hX
      exact h (fun l w => match l with | [v0] => X (pInt v0) w | _ => True) (fun l w hl hb => by
        obtain ⟨v0, l_v0, rfl, k_v0, hl_v0⟩ := Kinds.cons_ hl
        obtain ⟨i47, rfl⟩ := kind_int k_v0
        obtain rfl := Kinds.nil_ hl_v0
        exact hX i47 w hb)

def T_ref08_Load_6 (c87 : Addr) (n88 : Int) (i89 : Int) (w : World) (Kn : Bool → World → Prop) (Kp : List PanicEntry → World → Prop) : Prop :=
  if (decide ((i89 : Int) < n88)) = true then (∃ a90, some c87 = some a90 ∧ ∃ x91 : Int, rd w (a90.add 2) (.int .i64 x91) ∧ Kn ((x91 : Int) == 0) w) else (Kn false w)

def T_ref08_Load_6_outs : Exit → Option (List (Nat × Value)) := fun x => match x with | .normal => some [(102, .bool false)] | .panic _ => some [] | _ => none

def T_ref08_Load_6_ks : Nat → Bool := ksOf [93, 94, 95, 96, 97, 98, 99, 100, 101, 102]

def H_ref08_Load_6 : Env → World → QT → Prop := unitHook 149 T_ref08_Load_6_ks [(4, .pointer (some ⟨0, 0, none⟩)), (6, .int .i64 0), (12, .int .i64 0)] T_ref08_Load_6_outs fun l w C => match l with | [v0, v1, v2] => T_ref08_Load_6 (pAddr v0) (pInt v1) (pInt v2) w (fun b93 w => C .normal [.bool b93] w) (fun ch w => C (.panic ch) [] w) | _ => False

theorem T_ref08_Load_6_hl : allP (hokL Tryz.prog (hookAt []) (at_ (bodyOf Tryz.f34) [1, 1, 1, 1, 1, 1, 1, 1, 1, 0, 1, 0, 0, 0, 0]) 65488) = (True) := by kernel_rfl
theorem T_ref08_Load_6_hok : HOk Tryz.prog (hookAt []) (at_ (bodyOf Tryz.f34) [1, 1, 1, 1, 1, 1, 1, 1, 1, 0, 1, 0, 0, 0, 0]) 65488 := HOk_of _ _ (by rw [T_ref08_Load_6_hl]; exact trivial)

theorem T_ref08_Load_6_eq (C : Conts) (c87 : Addr) (n88 : Int) (i89 : Int) (w : World) : vcCode Tryz.prog (hookAt []) (at_ (bodyOf Tryz.f34) [1, 1, 1, 1, 1, 1, 1, 1, 1, 0, 1, 0, 0, 0, 0]) 65488 ⟨[(4, .pointer (some c87)), (6, .int .i64 n88), (12, .int .i64 i89)], 149, []⟩ w (unitQ T_ref08_Load_6_outs C) = T_ref08_Load_6 c87 n88 i89 w (fun b94 w => C .normal [.bool b94] w) (fun ch w => C (.panic ch) [] w) := by kernel_rfl

theorem T_ref08_Load_6_ok : UnitOk Tryz.prog H_ref08_Load_6 (at_ (bodyOf Tryz.f34) [1, 1, 1, 1, 1, 1, 1, 1, 1, 0, 1, 0, 0, 0, 0]) 65488 := unit_ok (H := (hookAt [])) (by kernel_rfl) T_ref08_Load_6_hok fun l w C hk => by
    obtain ⟨v0, l_v0, rfl, k_v0, hk_v0⟩ := Kinds.cons_ hk
    obtain ⟨c87, rfl⟩ := kind_addr k_v0
    obtain ⟨v1, l_v1, rfl, k_v1, hk_v1⟩ := Kinds.cons_ hk_v0
    obtain ⟨n88, rfl⟩ := kind_int k_v1
    obtain ⟨v2, l_v2, rfl, k_v2, hk_v2⟩ := Kinds.cons_ hk_v1
    obtain ⟨i89, rfl⟩ := kind_int k_v2
    obtain rfl := Kinds.nil_ hk_v2
    exact T_ref08_Load_6_eq C c87 n88 i89 w

def T_ref08_Load_5_body (X : Int → World → Prop) (i83 : Int) (c84 : Addr) (s85 : Option Addr) (n86 : Int) (w : World) (Kn : World → Prop) (Kp : List PanicEntry → World → Prop)  : Prop :=
  T_ref08_Load_6 c84 n86 i83 w (fun b95 w96 => if b95 = true then (Calls Tryz.prog 68 #[.pointer (some c84), .int .i64 1099511627776] w96 (ret (fun r97 w98 => ∃ x99 : Int, r97 = .int .i64 x99 ∧ Calls Tryz.prog 68 #[.pointer (some c84), .int .i64 1099511627776] w98 (ret (fun r100 w101 => ∃ x102 : Int, r100 = .int .i64 x102 ∧ Calls Tryz.prog 68 #[.pointer (some c84), .int .i64 1099511627776] w101 (ret (fun r103 w104 => ∃ x105 : Int, r103 = .int .i64 x105 ∧ let w106 : World := w104.drew
  ∃ a107, s85 = some a107 ∧ ∃ s108a : Option Addr, ∃ s108l : Nat, ∃ s108c : Nat, rd w106 (a107.add 3) (.slice s108a s108l s108c) ∧ Calls Tryz.prog 68 #[.pointer (some c84), .int .i64 1099511627776] w106 (ret (fun r109 w110 => ∃ x111 : Int, r109 = .int .i64 x111 ∧ (rd w110 (a107.add 3) (.slice s108a s108l s108c) ∧ True) ∧ let w112 : World := w110.alloc (.cells #[.int .i64 x99, .int .i64 x102, .int .i64 x105, .int .i64 x111] 113)
  (rd w112 (a107.add 3) (.slice s108a s108l s108c) ∧ True) ∧ runV Tryz.prog (Builtin.append_ #[106, 106] 106 #[.slice s108a s108l s108c, .slice (some (⟨w110.heap.size, 0, none⟩ : Addr)) 1 1]) w112 (fun r113 w114 => ∃ s115a : Option Addr, ∃ s115l : Nat, ∃ s115c : Nat, r113 = .slice s115a s115l s115c ∧ (True) ∧ ∃ a116, s85 = some a116 ∧ (.slice s115a s115l s115c : Value).cells.size = 1 ∧ wrOk w114 (a116.add 3) (.slice s115a s115l s115c) ∧ let w117 : World := wr w114 (a116.add 3) (.slice s115a s115l s115c)
  (True) ∧ X (IntKind.wrap .i64 ((i83 : Int) + 1)) w117) Kp) Kp)) Kp)) Kp)) Kp)) else (Kn  w96)) Kp

def T_ref08_Load_5 (i83 : Int) (c84 : Addr) (s85 : Option Addr) (n86 : Int) (w : World) (Kn : World → Prop) (Kp : List PanicEntry → World → Prop) : Prop :=
  ∀ X : Int → World → Prop, (∀ (i83 : Int) (w : World), T_ref08_Load_5_body X i83 c84 s85 n86 w Kn Kp → X i83 w) → X i83 w

def T_ref08_Load_5_outs : Exit → Option (List (Nat × Value)) := fun x => match x with | .normal => some [] | .panic _ => some [] | _ => none

def T_ref08_Load_5_ks : Nat → Bool := ksOf [12, 13, 14, 15, 93, 94, 95, 96, 97, 98, 99, 100, 101, 102, 103, 104, 105, 106, 107, 108, 109, 110, 111, 112, 113, 114, 115, 116, 117, 118, 119, 120, 121, 122, 123, 124, 125, 126]

def H_ref08_Load_5 : Env → World → QT → Prop := unitHook 149 T_ref08_Load_5_ks [(12, .int .i64 0), (4, .pointer (some ⟨0, 0, none⟩)), (5, .pointer none), (6, .int .i64 0)] T_ref08_Load_5_outs fun l w C => match l with | [v0, v1, v2, v3] => T_ref08_Load_5 (pInt v0) (pAddr v1) (pPtr v2) (pInt v3) w (fun w => C .normal [] w) (fun ch w => C (.panic ch) [] w) | _ => False

theorem T_ref08_Load_5_hl : allP (hokL Tryz.prog (hookAt [(65488, H_ref08_Load_6)]) (at_ (bodyOf Tryz.f34) [1, 1, 1, 1, 1, 1, 1, 1, 1, 0, 1, 0, 0]) 16372) = (UnitOk Tryz.prog H_ref08_Load_6 (at_ (bodyOf Tryz.f34) [1, 1, 1, 1, 1, 1, 1, 1, 1, 0, 1, 0, 0, 0, 0]) 65488 ∧ True) := by kernel_rfl
theorem T_ref08_Load_5_hok : HOk Tryz.prog (hookAt [(65488, H_ref08_Load_6)]) (at_ (bodyOf Tryz.f34) [1, 1, 1, 1, 1, 1, 1, 1, 1, 0, 1, 0, 0]) 16372 := HOk_of _ _ (by rw [T_ref08_Load_5_hl]; exact ⟨T_ref08_Load_6_ok, trivial⟩)

theorem T_ref08_Load_5_eq (C : Conts) (X : List Value → World → Prop) (i83 : Int) (c84 : Addr) (s85 : Option Addr) (n86 : Int) (w : World) : vcCode Tryz.prog (hookAt [(65488, H_ref08_Load_6)]) (at_ (bodyOf Tryz.f34) [1, 1, 1, 1, 1, 1, 1, 1, 1, 0, 1, 0, 0]) 16372 ⟨[(12, .int .i64 i83)] ++ [(4, .pointer (some c84)), (5, .pointer s85), (6, .int .i64 n86)], 149, []⟩ w (seqQ (fun e w => takeAll e [(12, .int .i64 0)] fun l => X l w) (blockQ 4 (unitQ T_ref08_Load_5_outs C))) = T_ref08_Load_5_body (fun i83 w => X [.int .i64 i83] w) i83 c84 s85 n86 w (fun w => C .normal [] w) (fun ch w => C (.panic ch) [] w) := by kernel_rfl

theorem T_ref08_Load_5_ok : UnitOk Tryz.prog H_ref08_Load_5 (at_ (bodyOf Tryz.f34) [1, 1, 1, 1, 1, 1, 1, 1, 1, 0, 1]) 4093 := by
  have hc : at_ (bodyOf Tryz.f34) [1, 1, 1, 1, 1, 1, 1, 1, 1, 0, 1] = .block 4 (.loop (at_ (bodyOf Tryz.f34) [1, 1, 1, 1, 1, 1, 1, 1, 1, 0, 1, 0, 0])) := by kernel_rfl
  rw [hc]
  refine loop_unit_ok (carr := [(12, .int .i64 0)]) (fix := [(4, .pointer (some ⟨0, 0, none⟩)), (5, .pointer none), (6, .int .i64 0)]) (ks := T_ref08_Load_5_ks) (H := (hookAt [(65488, H_ref08_Load_6)])) (B := fun C X l u w => match l, u with | [v0], [v1, v2, v3] => T_ref08_Load_5_body (fun i83 w => X [.int .i64 i83] w) (pInt v0) (pAddr v1) (pPtr v2) (pInt v3) w (fun w => C .normal [] w) (fun ch w => C (.panic ch) [] w) | _, _ => False) (by kernel_rfl) (by kernel_rfl) T_ref08_Load_5_hok ?_ ?_
  · intro C X l u w hl hu
    obtain ⟨v0, l_v0, rfl, k_v0, hl_v0⟩ := Kinds.cons_ hl
    obtain ⟨i83, rfl⟩ := kind_int k_v0
    obtain rfl := Kinds.nil_ hl_v0
    obtain ⟨v1, l_v1, rfl, k_v1, hu_v1⟩ := Kinds.cons_ hu
    obtain ⟨c84, rfl⟩ := kind_addr k_v1
    obtain ⟨v2, l_v2, rfl, k_v2, hu_v2⟩ := Kinds.cons_ hu_v1
    obtain ⟨s85, rfl⟩ := kind_pointer k_v2
    obtain ⟨v3, l_v3, rfl, k_v3, hu_v3⟩ := Kinds.cons_ hu_v2
    obtain ⟨n86, rfl⟩ := kind_int k_v3
    obtain rfl := Kinds.nil_ hu_v3
    exact T_ref08_Load_5_eq C X i83 c84 s85 n86 w
  · intro l u w C hl hu
    obtain ⟨v0, l_v0, rfl, k_v0, hl_v0⟩ := Kinds.cons_ hl
    obtain ⟨i83, rfl⟩ := kind_int k_v0
    obtain rfl := Kinds.nil_ hl_v0
    obtain ⟨v1, l_v1, rfl, k_v1, hu_v1⟩ := Kinds.cons_ hu
    obtain ⟨c84, rfl⟩ := kind_addr k_v1
    obtain ⟨v2, l_v2, rfl, k_v2, hu_v2⟩ := Kinds.cons_ hu_v1
    obtain ⟨s85, rfl⟩ := kind_pointer k_v2
    obtain ⟨v3, l_v3, rfl, k_v3, hu_v3⟩ := Kinds.cons_ hu_v2
    obtain ⟨n86, rfl⟩ := kind_int k_v3
    obtain rfl := Kinds.nil_ hu_v3
    constructor
    · intro h X hX
      exact h (fun i83 w => X [.int .i64 i83] w) (fun i83 w hb => hX [.int .i64 i83] w ⟨rfl, trivial⟩ hb)
    · intro h X hX
      exact h (fun l w => match l with | [v0] => X (pInt v0) w | _ => True) (fun l w hl hb => by
        obtain ⟨v0, l_v0, rfl, k_v0, hl_v0⟩ := Kinds.cons_ hl
        obtain ⟨i83, rfl⟩ := kind_int k_v0
        obtain rfl := Kinds.nil_ hl_v0
        exact hX i83 w hb)

def T_ref08_Load (b1a : Option Addr) (b1l : Nat) (b1c : Nat) (w : World) (R : Ending → World → Prop) : Prop :=
  let w2 : World := w.alloc (.cells #[.slice b1a b1l b1c, .int .i64 0, .int .i64 0] 123)
  Calls Tryz.prog 36 #[] w2 (ret (fun r3 w4 => ∃ p5 : Option Addr, r3 = .pointer p5 ∧ Calls Tryz.prog 68 #[.pointer (some (⟨w.heap.size, 0, none⟩ : Addr)), .int .i64 1099511627776] w4 (ret (fun r6 w7 => ∃ x8 : Int, r6 = .int .i64 x8 ∧ ∃ a9, p5 = some a9 ∧ (.int .i64 x8 : Value).cells.size = 1 ∧ wrOk w7 a9 (.int .i64 x8) ∧ let w10 : World := wr w7 a9 (.int .i64 x8)
  Calls Tryz.prog 68 #[.pointer (some (⟨w.heap.size, 0, none⟩ : Addr)), .int .i64 32] w10 (ret (fun r11 w12 => ∃ x13 : Int, r11 = .int .i64 x13 ∧ T_ref08_Load_1 0 (⟨w.heap.size, 0, none⟩ : Addr) p5 x13 w12 (fun w43 => Calls Tryz.prog 68 #[.pointer (some (⟨w.heap.size, 0, none⟩ : Addr)), .int .i64 64] w43 (ret (fun r44 w45 => ∃ x46 : Int, r44 = .int .i64 x46 ∧ T_ref08_Load_3 0 (⟨w.heap.size, 0, none⟩ : Addr) p5 x46 w45 (fun w79 => Calls Tryz.prog 68 #[.pointer (some (⟨w.heap.size, 0, none⟩ : Addr)), .int .i64 32] w79 (ret (fun r80 w81 => ∃ x82 : Int, r80 = .int .i64 x82 ∧ T_ref08_Load_5 0 (⟨w.heap.size, 0, none⟩ : Addr) p5 x82 w81 (fun w118 => ∃ a119, some (⟨w.heap.size, 0, none⟩ : Addr) = some a119 ∧ ∃ x120 : Int, rd w118 (a119.add 2) (.int .i64 x120) ∧ if ((x120 : Int) != 0) = true then (let w121 : World := w118.drew
  ∃ a122, some (⟨w.heap.size, 0, none⟩ : Addr) = some a122 ∧ ∃ x123 : Int, rd w121 (a122.add 2) (.int .i64 x123) ∧ R (.returned (.tuple #[.pointer none, .int .i64 x123])) w121) else (∃ a124, some (⟨w.heap.size, 0, none⟩ : Addr) = some a124 ∧ ∃ x125 : Int, rd w118 (a124.add 1) (.int .i64 x125) ∧ if ((x125 : Int) != ((b1l : Nat) : Int)) = true then (R (.returned (.tuple #[.pointer none, .int .i64 4])) w118) else (Calls Tryz.prog 72 #[.pointer p5] w118 (ret (fun r126 w127 => ∃ b128 : Bool, r126 = .bool b128 ∧ if (!b128) = true then (R (.returned (.tuple #[.pointer none, .int .i64 4])) w127) else (R (.returned (.tuple #[.pointer p5, .int .i64 0])) w127)) (pan R))))) (pan R)) (pan R))) (pan R)) (pan R))) (pan R)) (pan R))) (pan R))) (pan R))

theorem T_ref08_Load_hl : allP (hokL Tryz.prog (hookAt [(253, H_ref08_Load_1), (1021, H_ref08_Load_3), (4093, H_ref08_Load_5)]) (bodyOf Tryz.f34) 1) = (UnitOk Tryz.prog H_ref08_Load_1 (at_ (bodyOf Tryz.f34) [1, 1, 1, 1, 1, 0, 1]) 253 ∧ UnitOk Tryz.prog H_ref08_Load_3 (at_ (bodyOf Tryz.f34) [1, 1, 1, 1, 1, 1, 1, 0, 1]) 1021 ∧ UnitOk Tryz.prog H_ref08_Load_5 (at_ (bodyOf Tryz.f34) [1, 1, 1, 1, 1, 1, 1, 1, 1, 0, 1]) 4093 ∧ True) := by kernel_rfl

theorem T_ref08_Load_eq (b1a : Option Addr) (b1l : Nat) (b1c : Nat) (w : World) (R : Ending → World → Prop) : vcCode Tryz.prog (hookAt [(253, H_ref08_Load_1), (1021, H_ref08_Load_3), (4093, H_ref08_Load_5)]) (bodyOf Tryz.f34) 1 ⟨argEnv [.slice b1a b1l b1c] 0, Tryz.f34.ntmps, []⟩ w (finQ Tryz.prog Tryz.f34.results.toList R) = T_ref08_Load b1a b1l b1c w R := by kernel_rfl

theorem T_ref08_Load_b : Tryz.f34.body = some (bodyOf Tryz.f34) := by kernel_rfl
theorem T_ref08_Load_s : (quietSel (bodyOf Tryz.f34) && Nat.ble 1 Tryz.f34.ntmps) = true := by kernel_rfl

theorem C_ref08_Load {b1a : Option Addr} {b1l : Nat} {b1c : Nat} {w : World} {R : Ending → World → Prop} (h : T_ref08_Load b1a b1l b1c w R) : Calls Tryz.prog 34 #[.slice b1a b1l b1c] w R :=
  calls_of_text (args := [.slice b1a b1l b1c]) mixed Tryz.func34 T_ref08_Load_b T_ref08_Load_s (HOk_of _ _ (by rw [T_ref08_Load_hl]; exact ⟨T_ref08_Load_1_ok, T_ref08_Load_3_ok, T_ref08_Load_5_ok, trivial⟩)) (by rw [T_ref08_Load_eq]; exact h)

/-! tollgate/tollgateref08.right -/
def T_ref08_right_1_body (X : Int → World → Prop) (i2 : Int) (s3 : Option Addr) (w : World) (Kn : World → Prop) (Kr : Bool → World → Prop) (Kp : List PanicEntry → World → Prop)  : Prop :=
  ∃ a4, s3 = some a4 ∧ ∃ s5a : Option Addr, ∃ s5l : Nat, ∃ s5c : Nat, rd w (a4.add 2) (.slice s5a s5l s5c) ∧ if (decide ((i2 : Int) < ((s5l : Nat) : Int))) = true then (∃ a6, s3 = some a6 ∧ ∃ s7a : Option Addr, ∃ s7l : Nat, ∃ s7c : Nat, rd w (a6.add 2) (.slice s7a s7l s7c) ∧ 0 ≤ (i2 : Int) ∧ (i2 : Int) < ((s7l : Nat) : Int) ∧ ∃ b8, s7a = some b8 ∧ ∃ s9 : ByteArray, ∃ s10a : Option Addr, ∃ s10l : Nat, ∃ s10c : Nat, rd w (b8.add ((i2 : Int).toNat * 2)) (.agg #[.string s9, .slice s10a s10l s10c]) ∧ let w11 : World := w.alloc (.cells #[.string (ByteArray.mk #[]), .slice none 0 0] 34)
  (.agg #[.string s9, .slice s10a s10l s10c] : Value).cells.size = 2 ∧ wrOk w11 (⟨w.heap.size, 0, none⟩ : Addr) (.agg #[.string s9, .slice s10a s10l s10c]) ∧ let w12 : World := wr w11 (⟨w.heap.size, 0, none⟩ : Addr) (.agg #[.string s9, .slice s10a s10l s10c])
  let w13 : World := w12.drew
  ∃ s14 : ByteArray, rd w13 (⟨w.heap.size, 0, none⟩ : Addr) (.string s14) ∧ Calls Tryz.prog 97 #[.string s14] w13 (ret (fun r15 w16 => ∃ b17 : Bool, r15 = .bool b17 ∧ (True) ∧ if (!b17) = true then ((True) ∧ Kr false w16) else (∃ s18a : Option Addr, ∃ s18l : Nat, ∃ s18c : Nat, rd w16 ((⟨w.heap.size, 0, none⟩ : Addr).add 1) (.slice s18a s18l s18c) ∧ Calls Tryz.prog 98 #[.slice s18a s18l s18c] w16 (ret (fun r19 w20 => ∃ x21 : Int, r19 = .int .i64 x21 ∧ (True) ∧ if ((x21 : Int) != 0) = true then (Kr false w20) else (if (decide ((i2 : Int) > 0)) = true then (∃ a22, s3 = some a22 ∧ ∃ s23a : Option Addr, ∃ s23l : Nat, ∃ s23c : Nat, rd w20 (a22.add 2) (.slice s23a s23l s23c) ∧ 0 ≤ (IntKind.wrap .i64 ((i2 : Int) - 1) : Int) ∧ (IntKind.wrap .i64 ((i2 : Int) - 1) : Int) < ((s23l : Nat) : Int) ∧ ∃ b24, s23a = some b24 ∧ ∃ s25 : ByteArray, rd w20 (b24.add ((IntKind.wrap .i64 ((i2 : Int) - 1) : Int).toNat * 2)) (.string s25) ∧ ∃ s26 : ByteArray, rd w20 (⟨w.heap.size, 0, none⟩ : Addr) (.string s26) ∧ if (!(Op.bytesLess s25.toList s26.toList)) = true then (Kr false w20) else (X (IntKind.wrap .i64 ((i2 : Int) + 1)) w20)) else (X (IntKind.wrap .i64 ((i2 : Int) + 1)) w20))) Kp))) Kp)) else (Kn  w)

def T_ref08_right_1 (i2 : Int) (s3 : Option Addr) (w : World) (Kn : World → Prop) (Kr : Bool → World → Prop) (Kp : List PanicEntry → World → Prop) : Prop :=
  ∀ X : Int → World → Prop, (∀ (i2 : Int) (w : World), T_ref08_right_1_body X i2 s3 w Kn Kr Kp → X i2 w) → X i2 w

def T_ref08_right_1_outs : Exit → Option (List (Nat × Value)) := fun x => match x with | .normal => some [] | .ret => some [(2, .bool false)] | .panic _ => some [] | _ => none

def T_ref08_right_1_ks : Nat → Bool := ksOf [2, 3, 4, 13, 14, 15, 16, 17, 18, 19, 20, 21, 22, 23, 24, 25, 26, 27, 28, 29, 30, 31, 32, 33, 34, 35, 36, 37, 38, 39, 40, 41, 42, 43, 44, 45, 46, 47, 48, 49, 50, 51, 52, 53, 54, 55, 56, 57, 58, 59]

def H_ref08_right_1 : Env → World → QT → Prop := unitHook 225 T_ref08_right_1_ks [(3, .int .i64 0), (0, .pointer none)] T_ref08_right_1_outs fun l w C => match l with | [v0, v1] => T_ref08_right_1 (pInt v0) (pPtr v1) w (fun w => C .normal [] w) (fun b28 w => C .ret [.bool b28] w) (fun ch w => C (.panic ch) [] w) | _ => False

theorem T_ref08_right_1_hl : allP (hokL Tryz.prog (hookAt []) (at_ (bodyOf Tryz.f72) [1, 0, 1, 0, 0]) 52) = (True) := by kernel_rfl
theorem T_ref08_right_1_hok : HOk Tryz.prog (hookAt []) (at_ (bodyOf Tryz.f72) [1, 0, 1, 0, 0]) 52 := HOk_of _ _ (by rw [T_ref08_right_1_hl]; exact trivial)

theorem T_ref08_right_1_eq (C : Conts) (X : List Value → World → Prop) (i2 : Int) (s3 : Option Addr) (w : World) : vcCode Tryz.prog (hookAt []) (at_ (bodyOf Tryz.f72) [1, 0, 1, 0, 0]) 52 ⟨[(3, .int .i64 i2)] ++ [(0, .pointer s3)], 225, []⟩ w (seqQ (fun e w => takeAll e [(3, .int .i64 0)] fun l => X l w) (blockQ 0 (unitQ T_ref08_right_1_outs C))) = T_ref08_right_1_body (fun i2 w => X [.int .i64 i2] w) i2 s3 w (fun w => C .normal [] w) (fun b29 w => C .ret [.bool b29] w) (fun ch w => C (.panic ch) [] w) := by kernel_rfl

theorem T_ref08_right_1_ok : UnitOk Tryz.prog H_ref08_right_1 (at_ (bodyOf Tryz.f72) [1, 0, 1]) 13 := by
  have hc : at_ (bodyOf Tryz.f72) [1, 0, 1] = .block 0 (.loop (at_ (bodyOf Tryz.f72) [1, 0, 1, 0, 0])) := by kernel_rfl
  rw [hc]
  refine loop_unit_ok (carr := [(3, .int .i64 0)]) (fix := [(0, .pointer none)]) (ks := T_ref08_right_1_ks) (H := (hookAt [])) (B := fun C X l u w => match l, u with | [v0], [v1] => T_ref08_right_1_body (fun i2 w => X [.int .i64 i2] w) (pInt v0) (pPtr v1) w (fun w => C .normal [] w) (fun b30 w => C .ret [.bool b30] w) (fun ch w => C (.panic ch) [] w) | _, _ => False) (by kernel_rfl) (by kernel_rfl) T_ref08_right_1_hok ?_ ?_
  · intro C X l u w hl hu
    obtain ⟨v0, l_v0, rfl, k_v0, hl_v0⟩ := Kinds.cons_ hl
    obtain ⟨i2, rfl⟩ := kind_int k_v0
    obtain rfl := Kinds.nil_ hl_v0
    obtain ⟨v1, l_v1, rfl, k_v1, hu_v1⟩ := Kinds.cons_ hu
    obtain ⟨s3, rfl⟩ := kind_pointer k_v1
    obtain rfl := Kinds.nil_ hu_v1
    exact T_ref08_right_1_eq C X i2 s3 w
  · intro l u w C hl hu
    obtain ⟨v0, l_v0, rfl, k_v0, hl_v0⟩ := Kinds.cons_ hl
    obtain ⟨i2, rfl⟩ := kind_int k_v0
    obtain rfl := Kinds.nil_ hl_v0
    obtain ⟨v1, l_v1, rfl, k_v1, hu_v1⟩ := Kinds.cons_ hu
    obtain ⟨s3, rfl⟩ := kind_pointer k_v1
    obtain rfl := Kinds.nil_ hu_v1
    constructor
    · intro h X hX
      exact h (fun i2 w => X [.int .i64 i2] w) (fun i2 w hb => hX [.int .i64 i2] w ⟨rfl, trivial⟩ hb)
    · intro h X hX
      exact h (fun l w => match l with | [v0] => X (pInt v0) w | _ => True) (fun l w hl hb => by
        obtain ⟨v0, l_v0, rfl, k_v0, hl_v0⟩ := Kinds.cons_ hl
        obtain ⟨i2, rfl⟩ := kind_int k_v0
        obtain rfl := Kinds.nil_ hl_v0
        exact hX i2 w hb)

def T_ref08_right_3_body (X : Bool → Int → World → Prop) (there44 : Bool) (k45 : Int) (s46 : Option Addr) (r47 : Addr) (w : World) (Kn : Bool → World → Prop) (Kp : List PanicEntry → World → Prop)  : Prop :=
  ∃ a48, s46 = some a48 ∧ ∃ s49a : Option Addr, ∃ s49l : Nat, ∃ s49c : Nat, rd w (a48.add 2) (.slice s49a s49l s49c) ∧ if (decide ((k45 : Int) < ((s49l : Nat) : Int))) = true then (let w50 : World := w.drew
  if there44 = true then (X true (IntKind.wrap .i64 ((k45 : Int) + 1)) w50) else (∃ a51, s46 = some a51 ∧ ∃ s52a : Option Addr, ∃ s52l : Nat, ∃ s52c : Nat, rd w50 (a51.add 2) (.slice s52a s52l s52c) ∧ 0 ≤ (k45 : Int) ∧ (k45 : Int) < ((s52l : Nat) : Int) ∧ ∃ b53, s52a = some b53 ∧ ∃ s54 : ByteArray, rd w50 (b53.add ((k45 : Int).toNat * 2)) (.string s54) ∧ ∃ s55 : ByteArray, rd w50 (r47.add 2) (.string s55) ∧ X (s54.toList == s55.toList) (IntKind.wrap .i64 ((k45 : Int) + 1)) w50)) else (Kn there44 w)

def T_ref08_right_3 (there44 : Bool) (k45 : Int) (s46 : Option Addr) (r47 : Addr) (w : World) (Kn : Bool → World → Prop) (Kp : List PanicEntry → World → Prop) : Prop :=
  ∀ X : Bool → Int → World → Prop, (∀ (there44 : Bool) (k45 : Int) (w : World), T_ref08_right_3_body X there44 k45 s46 r47 w Kn Kp → X there44 k45 w) → X there44 k45 w

def T_ref08_right_3_outs : Exit → Option (List (Nat × Value)) := fun x => match x with | .normal => some [(7, .bool false)] | .panic _ => some [] | _ => none

def T_ref08_right_3_ks : Nat → Bool := ksOf [7, 8, 78, 79, 80, 81, 82, 83, 84, 85, 86, 87, 88, 89, 90, 91, 92, 93, 94, 95, 96, 97, 98, 99, 100, 101, 102]

def H_ref08_right_3 : Env → World → QT → Prop := unitHook 225 T_ref08_right_3_ks [(7, .bool false), (8, .int .i64 0), (0, .pointer none), (6, .pointer (some ⟨0, 0, none⟩))] T_ref08_right_3_outs fun l w C => match l with | [v0, v1, v2, v3] => T_ref08_right_3 (pBool v0) (pInt v1) (pPtr v2) (pAddr v3) w (fun there57 w => C .normal [.bool there57] w) (fun ch w => C (.panic ch) [] w) | _ => False

theorem T_ref08_right_3_hl : allP (hokL Tryz.prog (hookAt []) (at_ (bodyOf Tryz.f72) [1, 1, 0, 1, 0, 0, 1, 0, 0, 1, 1, 0, 1, 0, 0]) 59700) = (True) := by kernel_rfl
theorem T_ref08_right_3_hok : HOk Tryz.prog (hookAt []) (at_ (bodyOf Tryz.f72) [1, 1, 0, 1, 0, 0, 1, 0, 0, 1, 1, 0, 1, 0, 0]) 59700 := HOk_of _ _ (by rw [T_ref08_right_3_hl]; exact trivial)

theorem T_ref08_right_3_eq (C : Conts) (X : List Value → World → Prop) (there44 : Bool) (k45 : Int) (s46 : Option Addr) (r47 : Addr) (w : World) : vcCode Tryz.prog (hookAt []) (at_ (bodyOf Tryz.f72) [1, 1, 0, 1, 0, 0, 1, 0, 0, 1, 1, 0, 1, 0, 0]) 59700 ⟨[(7, .bool there44), (8, .int .i64 k45)] ++ [(0, .pointer s46), (6, .pointer (some r47))], 225, []⟩ w (seqQ (fun e w => takeAll e [(7, .bool false), (8, .int .i64 0)] fun l => X l w) (blockQ 4 (unitQ T_ref08_right_3_outs C))) = T_ref08_right_3_body (fun there44 k45 w => X [.bool there44, .int .i64 k45] w) there44 k45 s46 r47 w (fun there58 w => C .normal [.bool there58] w) (fun ch w => C (.panic ch) [] w) := by kernel_rfl

theorem T_ref08_right_3_ok : UnitOk Tryz.prog H_ref08_right_3 (at_ (bodyOf Tryz.f72) [1, 1, 0, 1, 0, 0, 1, 0, 0, 1, 1, 0, 1]) 14925 := by
  have hc : at_ (bodyOf Tryz.f72) [1, 1, 0, 1, 0, 0, 1, 0, 0, 1, 1, 0, 1] = .block 4 (.loop (at_ (bodyOf Tryz.f72) [1, 1, 0, 1, 0, 0, 1, 0, 0, 1, 1, 0, 1, 0, 0])) := by kernel_rfl
  rw [hc]
  refine loop_unit_ok (carr := [(7, .bool false), (8, .int .i64 0)]) (fix := [(0, .pointer none), (6, .pointer (some ⟨0, 0, none⟩))]) (ks := T_ref08_right_3_ks) (H := (hookAt [])) (B := fun C X l u w => match l, u with | [v0, v1], [v2, v3] => T_ref08_right_3_body (fun there44 k45 w => X [.bool there44, .int .i64 k45] w) (pBool v0) (pInt v1) (pPtr v2) (pAddr v3) w (fun there59 w => C .normal [.bool there59] w) (fun ch w => C (.panic ch) [] w) | _, _ => False) (by kernel_rfl) (by kernel_rfl) T_ref08_right_3_hok ?_ ?_
  · intro C X l u w hl hu
    obtain ⟨v0, l_v0, rfl, k_v0, hl_v0⟩ := Kinds.cons_ hl
    obtain ⟨there44, rfl⟩ := kind_bool k_v0
    obtain ⟨v1, l_v1, rfl, k_v1, hl_v1⟩ := Kinds.cons_ hl_v0
    obtain ⟨k45, rfl⟩ := kind_int k_v1
    obtain rfl := Kinds.nil_ hl_v1
    obtain ⟨v2, l_v2, rfl, k_v2, hu_v2⟩ := Kinds.cons_ hu
    obtain ⟨s46, rfl⟩ := kind_pointer k_v2
    obtain ⟨v3, l_v3, rfl, k_v3, hu_v3⟩ := Kinds.cons_ hu_v2
    obtain ⟨r47, rfl⟩ := kind_addr k_v3
    obtain rfl := Kinds.nil_ hu_v3
    exact T_ref08_right_3_eq C X there44 k45 s46 r47 w
  · intro l u w C hl hu
    obtain ⟨v0, l_v0, rfl, k_v0, hl_v0⟩ := Kinds.cons_ hl
    obtain ⟨there44, rfl⟩ := kind_bool k_v0
    obtain ⟨v1, l_v1, rfl, k_v1, hl_v1⟩ := Kinds.cons_ hl_v0
    obtain ⟨k45, rfl⟩ := kind_int k_v1
    obtain rfl := Kinds.nil_ hl_v1
    obtain ⟨v2, l_v2, rfl, k_v2, hu_v2⟩ := Kinds.cons_ hu
    obtain ⟨s46, rfl⟩ := kind_pointer k_v2
    obtain ⟨v3, l_v3, rfl, k_v3, hu_v3⟩ := Kinds.cons_ hu_v2
    obtain ⟨r47, rfl⟩ := kind_addr k_v3
    obtain rfl := Kinds.nil_ hu_v3
    constructor
    · intro h X hX
      exact h (fun there44 k45 w => X [.bool there44, .int .i64 k45] w) (fun there44 k45 w hb => hX [.bool there44, .int .i64 k45] w ⟨rfl, rfl, trivial⟩ hb)
    · intro h X hX
      exact h (fun l w => match l with | [v0, v1] => X (pBool v0) (pInt v1) w | _ => True) (fun l w hl hb => by
        obtain ⟨v0, l_v0, rfl, k_v0, hl_v0⟩ := Kinds.cons_ hl
        obtain ⟨there44, rfl⟩ := kind_bool k_v0
        obtain ⟨v1, l_v1, rfl, k_v1, hl_v1⟩ := Kinds.cons_ hl_v0
        obtain ⟨k45, rfl⟩ := kind_int k_v1
        obtain rfl := Kinds.nil_ hl_v1
        exact hX there44 k45 w hb)

def T_ref08_right_2_body (X : Int → World → Prop) (i32 : Int) (s33 : Option Addr) (w : World) (Kn : World → Prop) (Kr : Bool → World → Prop) (Kp : List PanicEntry → World → Prop)  : Prop :=
  ∃ a34, s33 = some a34 ∧ ∃ s35a : Option Addr, ∃ s35l : Nat, ∃ s35c : Nat, rd w (a34.add 1) (.slice s35a s35l s35c) ∧ if (decide ((i32 : Int) < ((s35l : Nat) : Int))) = true then (∃ a36, s33 = some a36 ∧ ∃ s37a : Option Addr, ∃ s37l : Nat, ∃ s37c : Nat, rd w (a36.add 1) (.slice s37a s37l s37c) ∧ 0 ≤ (i32 : Int) ∧ (i32 : Int) < ((s37l : Nat) : Int) ∧ ∃ b38, s37a = some b38 ∧ ∃ s39 : ByteArray, ∃ s40 : ByteArray, ∃ s41 : ByteArray, rd w (b38.add ((i32 : Int).toNat * 3)) (.agg #[.string s39, .string s40, .string s41]) ∧ let w42 : World := w.alloc (.cells #[.string (ByteArray.mk #[]), .string (ByteArray.mk #[]), .string (ByteArray.mk #[])] 36)
  (.agg #[.string s39, .string s40, .string s41] : Value).cells.size = 3 ∧ wrOk w42 (⟨w.heap.size, 0, none⟩ : Addr) (.agg #[.string s39, .string s40, .string s41]) ∧ let w43 : World := wr w42 (⟨w.heap.size, 0, none⟩ : Addr) (.agg #[.string s39, .string s40, .string s41])
  T_ref08_right_3 false 0 s33 (⟨w.heap.size, 0, none⟩ : Addr) w43 (fun there60 w61 => let w62 : World := w61.drew
  if (!there60) = true then ((True) ∧ (True) ∧ (True) ∧ Kr false w62) else (∃ s63 : ByteArray, rd w62 (⟨w.heap.size, 0, none⟩ : Addr) (.string s63) ∧ Calls Tryz.prog 21 #[.string s63] w62 (ret (fun r64 w65 => ∃ b66 : Bool, r64 = .bool b66 ∧ (True) ∧ if (!b66) = true then ((True) ∧ (True) ∧ Kr false w65) else (∃ s67 : ByteArray, rd w65 ((⟨w.heap.size, 0, none⟩ : Addr).add 1) (.string s67) ∧ Calls Tryz.prog 22 #[.string s67] w65 (ret (fun r68 w69 => ∃ b70 : Bool, r68 = .bool b70 ∧ (True) ∧ if (!b70) = true then ((True) ∧ Kr false w69) else (if (decide ((i32 : Int) > 0)) = true then (∃ a71, s33 = some a71 ∧ ∃ s72a : Option Addr, ∃ s72l : Nat, ∃ s72c : Nat, rd w69 (a71.add 1) (.slice s72a s72l s72c) ∧ 0 ≤ (IntKind.wrap .i64 ((i32 : Int) - 1) : Int) ∧ (IntKind.wrap .i64 ((i32 : Int) - 1) : Int) < ((s72l : Nat) : Int) ∧ ∃ b73, s72a = some b73 ∧ ∃ s74 : ByteArray, ∃ s75 : ByteArray, ∃ s76 : ByteArray, rd w69 (b73.add ((IntKind.wrap .i64 ((i32 : Int) - 1) : Int).toNat * 3)) (.agg #[.string s74, .string s75, .string s76]) ∧ ∃ s77 : ByteArray, ∃ s78 : ByteArray, ∃ s79 : ByteArray, rd w69 (⟨w.heap.size, 0, none⟩ : Addr) (.agg #[.string s77, .string s78, .string s79]) ∧ Calls Tryz.prog 107 #[.agg #[.string s74, .string s75, .string s76], .agg #[.string s77, .string s78, .string s79]] w69 (ret (fun r80 w81 => ∃ b82 : Bool, r80 = .bool b82 ∧ (True) ∧ if (!b82) = true then (Kr false w81) else (X (IntKind.wrap .i64 ((i32 : Int) + 1)) w81)) Kp)) else ((True) ∧ X (IntKind.wrap .i64 ((i32 : Int) + 1)) w69))) Kp))) Kp))) Kp) else (Kn  w)

def T_ref08_right_2 (i32 : Int) (s33 : Option Addr) (w : World) (Kn : World → Prop) (Kr : Bool → World → Prop) (Kp : List PanicEntry → World → Prop) : Prop :=
  ∀ X : Int → World → Prop, (∀ (i32 : Int) (w : World), T_ref08_right_2_body X i32 s33 w Kn Kr Kp → X i32 w) → X i32 w

def T_ref08_right_2_outs : Exit → Option (List (Nat × Value)) := fun x => match x with | .normal => some [] | .ret => some [(2, .bool false)] | .panic _ => some [] | _ => none

def T_ref08_right_2_ks : Nat → Bool := ksOf [2, 5, 6, 7, 8, 60, 61, 62, 63, 64, 65, 66, 67, 68, 69, 70, 71, 72, 73, 74, 75, 76, 77, 78, 79, 80, 81, 82, 83, 84, 85, 86, 87, 88, 89, 90, 91, 92, 93, 94, 95, 96, 97, 98, 99, 100, 101, 102, 103, 104, 105, 106, 107, 108, 109, 110, 111, 112, 113, 114, 115, 116, 117, 118, 119, 120, 121, 122, 123, 124, 125, 126, 127, 128, 129, 130, 131, 132, 133, 134]

def H_ref08_right_2 : Env → World → QT → Prop := unitHook 225 T_ref08_right_2_ks [(5, .int .i64 0), (0, .pointer none)] T_ref08_right_2_outs fun l w C => match l with | [v0, v1] => T_ref08_right_2 (pInt v0) (pPtr v1) w (fun w => C .normal [] w) (fun b84 w => C .ret [.bool b84] w) (fun ch w => C (.panic ch) [] w) | _ => False

theorem T_ref08_right_2_hl : allP (hokL Tryz.prog (hookAt [(14925, H_ref08_right_3)]) (at_ (bodyOf Tryz.f72) [1, 1, 0, 1, 0, 0]) 116) = (UnitOk Tryz.prog H_ref08_right_3 (at_ (bodyOf Tryz.f72) [1, 1, 0, 1, 0, 0, 1, 0, 0, 1, 1, 0, 1]) 14925 ∧ True) := by kernel_rfl
theorem T_ref08_right_2_hok : HOk Tryz.prog (hookAt [(14925, H_ref08_right_3)]) (at_ (bodyOf Tryz.f72) [1, 1, 0, 1, 0, 0]) 116 := HOk_of _ _ (by rw [T_ref08_right_2_hl]; exact ⟨T_ref08_right_3_ok, trivial⟩)

theorem T_ref08_right_2_eq (C : Conts) (X : List Value → World → Prop) (i32 : Int) (s33 : Option Addr) (w : World) : vcCode Tryz.prog (hookAt [(14925, H_ref08_right_3)]) (at_ (bodyOf Tryz.f72) [1, 1, 0, 1, 0, 0]) 116 ⟨[(5, .int .i64 i32)] ++ [(0, .pointer s33)], 225, []⟩ w (seqQ (fun e w => takeAll e [(5, .int .i64 0)] fun l => X l w) (blockQ 2 (unitQ T_ref08_right_2_outs C))) = T_ref08_right_2_body (fun i32 w => X [.int .i64 i32] w) i32 s33 w (fun w => C .normal [] w) (fun b85 w => C .ret [.bool b85] w) (fun ch w => C (.panic ch) [] w) := by kernel_rfl

theorem T_ref08_right_2_ok : UnitOk Tryz.prog H_ref08_right_2 (at_ (bodyOf Tryz.f72) [1, 1, 0, 1]) 29 := by
  have hc : at_ (bodyOf Tryz.f72) [1, 1, 0, 1] = .block 2 (.loop (at_ (bodyOf Tryz.f72) [1, 1, 0, 1, 0, 0])) := by kernel_rfl
  rw [hc]
  refine loop_unit_ok (carr := [(5, .int .i64 0)]) (fix := [(0, .pointer none)]) (ks := T_ref08_right_2_ks) (H := (hookAt [(14925, H_ref08_right_3)])) (B := fun C X l u w => match l, u with | [v0], [v1] => T_ref08_right_2_body (fun i32 w => X [.int .i64 i32] w) (pInt v0) (pPtr v1) w (fun w => C .normal [] w) (fun b86 w => C .ret [.bool b86] w) (fun ch w => C (.panic ch) [] w) | _, _ => False) (by kernel_rfl) (by kernel_rfl) T_ref08_right_2_hok ?_ ?_
  · intro C X l u w hl hu
    obtain ⟨v0, l_v0, rfl, k_v0, hl_v0⟩ := Kinds.cons_ hl
    obtain ⟨i32, rfl⟩ := kind_int k_v0
    obtain rfl := Kinds.nil_ hl_v0
    obtain ⟨v1, l_v1, rfl, k_v1, hu_v1⟩ := Kinds.cons_ hu
    obtain ⟨s33, rfl⟩ := kind_pointer k_v1
    obtain rfl := Kinds.nil_ hu_v1
    exact T_ref08_right_2_eq C X i32 s33 w
  · intro l u w C hl hu
    obtain ⟨v0, l_v0, rfl, k_v0, hl_v0⟩ := Kinds.cons_ hl
    obtain ⟨i32, rfl⟩ := kind_int k_v0
    obtain rfl := Kinds.nil_ hl_v0
    obtain ⟨v1, l_v1, rfl, k_v1, hu_v1⟩ := Kinds.cons_ hu
    obtain ⟨s33, rfl⟩ := kind_pointer k_v1
    obtain rfl := Kinds.nil_ hu_v1
    constructor
    · intro h X hX
      exact h (fun i32 w => X [.int .i64 i32] w) (fun i32 w hb => hX [.int .i64 i32] w ⟨rfl, trivial⟩ hb)
    · intro h X hX
      exact h (fun l w => match l with | [v0] => X (pInt v0) w | _ => True) (fun l w hl hb => by
        obtain ⟨v0, l_v0, rfl, k_v0, hl_v0⟩ := Kinds.cons_ hl
        obtain ⟨i32, rfl⟩ := kind_int k_v0
        obtain rfl := Kinds.nil_ hl_v0
        exact hX i32 w hb)

def T_ref08_right_5 (e102 : Int) (w : World) (Kn : Bool → World → Prop) (Kp : List PanicEntry → World → Prop) : Prop :=
  if ((e102 : Int) == 0) = true then (Kn true w) else (if ((e102 : Int) == 6) = true then (Kn true w) else (if ((e102 : Int) == 8) = true then (Kn true w) else (if ((e102 : Int) == 12) = true then (Kn true w) else (Kn ((e102 : Int) == 13) w))))

def T_ref08_right_5_outs : Exit → Option (List (Nat × Value)) := fun x => match x with | .normal => some [(12, .bool false)] | .panic _ => some [] | _ => none

def T_ref08_right_5_ks : Nat → Bool := ksOf [12, 154, 155, 156, 157, 158, 159, 160, 161, 162, 163, 164, 165, 166, 167, 168, 169, 170, 171]

def H_ref08_right_5 : Env → World → QT → Prop := unitHook 225 T_ref08_right_5_ks [(11, .int .i64 0)] T_ref08_right_5_outs fun l w C => match l with | [v0] => T_ref08_right_5 (pInt v0) w (fun told104 w => C .normal [.bool told104] w) (fun ch w => C (.panic ch) [] w) | _ => False

theorem T_ref08_right_5_hl : allP (hokL Tryz.prog (hookAt []) (at_ (bodyOf Tryz.f72) [1, 1, 1, 0, 1, 0, 0, 1, 0, 0, 1, 1, 0]) 15654) = (True) := by kernel_rfl
theorem T_ref08_right_5_hok : HOk Tryz.prog (hookAt []) (at_ (bodyOf Tryz.f72) [1, 1, 1, 0, 1, 0, 0, 1, 0, 0, 1, 1, 0]) 15654 := HOk_of _ _ (by rw [T_ref08_right_5_hl]; exact trivial)

theorem T_ref08_right_5_eq (C : Conts) (e102 : Int) (w : World) : vcCode Tryz.prog (hookAt []) (at_ (bodyOf Tryz.f72) [1, 1, 1, 0, 1, 0, 0, 1, 0, 0, 1, 1, 0]) 15654 ⟨[(11, .int .i64 e102)], 225, []⟩ w (unitQ T_ref08_right_5_outs C) = T_ref08_right_5 e102 w (fun told105 w => C .normal [.bool told105] w) (fun ch w => C (.panic ch) [] w) := by kernel_rfl

theorem T_ref08_right_5_ok : UnitOk Tryz.prog H_ref08_right_5 (at_ (bodyOf Tryz.f72) [1, 1, 1, 0, 1, 0, 0, 1, 0, 0, 1, 1, 0]) 15654 := unit_ok (H := (hookAt [])) (by kernel_rfl) T_ref08_right_5_hok fun l w C hk => by
    obtain ⟨v0, l_v0, rfl, k_v0, hk_v0⟩ := Kinds.cons_ hk
    obtain ⟨e102, rfl⟩ := kind_int k_v0
    obtain rfl := Kinds.nil_ hk_v0
    exact T_ref08_right_5_eq C e102 w

def T_ref08_right_4_body (X : Int → World → Prop) (i88 : Int) (s89 : Option Addr) (w : World) (Kn : World → Prop) (Kr : Bool → World → Prop) (Kp : List PanicEntry → World → Prop)  : Prop :=
  ∃ a90, s89 = some a90 ∧ ∃ s91a : Option Addr, ∃ s91l : Nat, ∃ s91c : Nat, rd w (a90.add 3) (.slice s91a s91l s91c) ∧ if (decide ((i88 : Int) < ((s91l : Nat) : Int))) = true then (∃ a92, s89 = some a92 ∧ ∃ s93a : Option Addr, ∃ s93l : Nat, ∃ s93c : Nat, rd w (a92.add 3) (.slice s93a s93l s93c) ∧ 0 ≤ (i88 : Int) ∧ (i88 : Int) < ((s93l : Nat) : Int) ∧ ∃ b94, s93a = some b94 ∧ ∃ x95 : Int, ∃ x96 : Int, ∃ x97 : Int, ∃ x98 : Int, rd w (b94.add ((i88 : Int).toNat * 4)) (.agg #[.int .i64 x95, .int .i64 x96, .int .i64 x97, .int .i64 x98]) ∧ let w99 : World := w.alloc (.cells #[.int .i64 0, .int .i64 0, .int .i64 0, .int .i64 0] 113)
  (.agg #[.int .i64 x95, .int .i64 x96, .int .i64 x97, .int .i64 x98] : Value).cells.size = 4 ∧ wrOk w99 (⟨w.heap.size, 0, none⟩ : Addr) (.agg #[.int .i64 x95, .int .i64 x96, .int .i64 x97, .int .i64 x98]) ∧ let w100 : World := wr w99 (⟨w.heap.size, 0, none⟩ : Addr) (.agg #[.int .i64 x95, .int .i64 x96, .int .i64 x97, .int .i64 x98])
  ∃ x101 : Int, rd w100 ((⟨w.heap.size, 0, none⟩ : Addr).add 2) (.int .i64 x101) ∧ T_ref08_right_5 x101 w100 (fun told106 w107 => let w108 : World := w107.drew
  ∃ x109 : Int, rd w108 (⟨w.heap.size, 0, none⟩ : Addr) (.int .i64 x109) ∧ if (decide ((x109 : Int) < 1)) = true then (Kr false w108) else (∃ x110 : Int, rd w108 (⟨w.heap.size, 0, none⟩ : Addr) (.int .i64 x110) ∧ if (decide ((x110 : Int) > 32)) = true then (Kr false w108) else (∃ x111 : Int, rd w108 ((⟨w.heap.size, 0, none⟩ : Addr).add 1) (.int .i64 x111) ∧ if (decide ((x111 : Int) < 1)) = true then (Kr false w108) else (if (!told106) = true then (Kr false w108) else (∃ x112 : Int, rd w108 (((⟨w.heap.size, 0, none⟩ : Addr).add 2).add 1) (.int .i64 x112) ∧ ∃ a113, s89 = some a113 ∧ ∃ x114 : Int, rd w108 a113 (.int .i64 x114) ∧ if (decide ((x112 : Int) > x114)) = true then (Kr false w108) else (if (decide ((i88 : Int) > 0)) = true then (∃ a115, s89 = some a115 ∧ ∃ s116a : Option Addr, ∃ s116l : Nat, ∃ s116c : Nat, rd w108 (a115.add 3) (.slice s116a s116l s116c) ∧ 0 ≤ (IntKind.wrap .i64 ((i88 : Int) - 1) : Int) ∧ (IntKind.wrap .i64 ((i88 : Int) - 1) : Int) < ((s116l : Nat) : Int) ∧ ∃ b117, s116a = some b117 ∧ ∃ x118 : Int, rd w108 (b117.add ((IntKind.wrap .i64 ((i88 : Int) - 1) : Int).toNat * 4)) (.int .i64 x118) ∧ ∃ x119 : Int, rd w108 (⟨w.heap.size, 0, none⟩ : Addr) (.int .i64 x119) ∧ if (decide ((x118 : Int) ≥ x119)) = true then (Kr false w108) else (X (IntKind.wrap .i64 ((i88 : Int) + 1)) w108)) else (X (IntKind.wrap .i64 ((i88 : Int) + 1)) w108))))))) Kp) else (Kn  w)

def T_ref08_right_4 (i88 : Int) (s89 : Option Addr) (w : World) (Kn : World → Prop) (Kr : Bool → World → Prop) (Kp : List PanicEntry → World → Prop) : Prop :=
  ∀ X : Int → World → Prop, (∀ (i88 : Int) (w : World), T_ref08_right_4_body X i88 s89 w Kn Kr Kp → X i88 w) → X i88 w

def T_ref08_right_4_outs : Exit → Option (List (Nat × Value)) := fun x => match x with | .normal => some [] | .ret => some [(2, .bool false)] | .panic _ => some [] | _ => none

def T_ref08_right_4_ks : Nat → Bool := ksOf [2, 9, 10, 11, 12, 135, 136, 137, 138, 139, 140, 141, 142, 143, 144, 145, 146, 147, 148, 149, 150, 151, 152, 153, 154, 155, 156, 157, 158, 159, 160, 161, 162, 163, 164, 165, 166, 167, 168, 169, 170, 171, 172, 173, 174, 175, 176, 177, 178, 179, 180, 181, 182, 183, 184, 185, 186, 187, 188, 189, 190, 191, 192, 193, 194, 195, 196, 197, 198, 199, 200, 201, 202, 203, 204, 205, 206, 207, 208, 209, 210, 211, 212, 213, 214, 215, 216, 217]

def H_ref08_right_4 : Env → World → QT → Prop := unitHook 225 T_ref08_right_4_ks [(9, .int .i64 0), (0, .pointer none)] T_ref08_right_4_outs fun l w C => match l with | [v0, v1] => T_ref08_right_4 (pInt v0) (pPtr v1) w (fun w => C .normal [] w) (fun b121 w => C .ret [.bool b121] w) (fun ch w => C (.panic ch) [] w) | _ => False

theorem T_ref08_right_4_hl : allP (hokL Tryz.prog (hookAt [(15654, H_ref08_right_5)]) (at_ (bodyOf Tryz.f72) [1, 1, 1, 0, 1, 0, 0]) 244) = (UnitOk Tryz.prog H_ref08_right_5 (at_ (bodyOf Tryz.f72) [1, 1, 1, 0, 1, 0, 0, 1, 0, 0, 1, 1, 0]) 15654 ∧ True) := by kernel_rfl
theorem T_ref08_right_4_hok : HOk Tryz.prog (hookAt [(15654, H_ref08_right_5)]) (at_ (bodyOf Tryz.f72) [1, 1, 1, 0, 1, 0, 0]) 244 := HOk_of _ _ (by rw [T_ref08_right_4_hl]; exact ⟨T_ref08_right_5_ok, trivial⟩)

theorem T_ref08_right_4_eq (C : Conts) (X : List Value → World → Prop) (i88 : Int) (s89 : Option Addr) (w : World) : vcCode Tryz.prog (hookAt [(15654, H_ref08_right_5)]) (at_ (bodyOf Tryz.f72) [1, 1, 1, 0, 1, 0, 0]) 244 ⟨[(9, .int .i64 i88)] ++ [(0, .pointer s89)], 225, []⟩ w (seqQ (fun e w => takeAll e [(9, .int .i64 0)] fun l => X l w) (blockQ 6 (unitQ T_ref08_right_4_outs C))) = T_ref08_right_4_body (fun i88 w => X [.int .i64 i88] w) i88 s89 w (fun w => C .normal [] w) (fun b122 w => C .ret [.bool b122] w) (fun ch w => C (.panic ch) [] w) := by kernel_rfl

theorem T_ref08_right_4_ok : UnitOk Tryz.prog H_ref08_right_4 (at_ (bodyOf Tryz.f72) [1, 1, 1, 0, 1]) 61 := by
  have hc : at_ (bodyOf Tryz.f72) [1, 1, 1, 0, 1] = .block 6 (.loop (at_ (bodyOf Tryz.f72) [1, 1, 1, 0, 1, 0, 0])) := by kernel_rfl
  rw [hc]
  refine loop_unit_ok (carr := [(9, .int .i64 0)]) (fix := [(0, .pointer none)]) (ks := T_ref08_right_4_ks) (H := (hookAt [(15654, H_ref08_right_5)])) (B := fun C X l u w => match l, u with | [v0], [v1] => T_ref08_right_4_body (fun i88 w => X [.int .i64 i88] w) (pInt v0) (pPtr v1) w (fun w => C .normal [] w) (fun b123 w => C .ret [.bool b123] w) (fun ch w => C (.panic ch) [] w) | _, _ => False) (by kernel_rfl) (by kernel_rfl) T_ref08_right_4_hok ?_ ?_
  · intro C X l u w hl hu
    obtain ⟨v0, l_v0, rfl, k_v0, hl_v0⟩ := Kinds.cons_ hl
    obtain ⟨i88, rfl⟩ := kind_int k_v0
    obtain rfl := Kinds.nil_ hl_v0
    obtain ⟨v1, l_v1, rfl, k_v1, hu_v1⟩ := Kinds.cons_ hu
    obtain ⟨s89, rfl⟩ := kind_pointer k_v1
    obtain rfl := Kinds.nil_ hu_v1
    exact T_ref08_right_4_eq C X i88 s89 w
  · intro l u w C hl hu
    obtain ⟨v0, l_v0, rfl, k_v0, hl_v0⟩ := Kinds.cons_ hl
    obtain ⟨i88, rfl⟩ := kind_int k_v0
    obtain rfl := Kinds.nil_ hl_v0
    obtain ⟨v1, l_v1, rfl, k_v1, hu_v1⟩ := Kinds.cons_ hu
    obtain ⟨s89, rfl⟩ := kind_pointer k_v1
    obtain rfl := Kinds.nil_ hu_v1
    constructor
    · intro h X hX
      exact h (fun i88 w => X [.int .i64 i88] w) (fun i88 w hb => hX [.int .i64 i88] w ⟨rfl, trivial⟩ hb)
    · intro h X hX
      exact h (fun l w => match l with | [v0] => X (pInt v0) w | _ => True) (fun l w hl hb => by
        obtain ⟨v0, l_v0, rfl, k_v0, hl_v0⟩ := Kinds.cons_ hl
        obtain ⟨i88, rfl⟩ := kind_int k_v0
        obtain rfl := Kinds.nil_ hl_v0
        exact hX i88 w hb)

def T_ref08_right (s1 : Option Addr) (w : World) (R : Ending → World → Prop) : Prop :=
  T_ref08_right_1 0 s1 w (fun w31 => T_ref08_right_2 0 s1 w31 (fun w87 => T_ref08_right_4 0 s1 w87 (fun w124 => ∃ a125, s1 = some a125 ∧ ∃ x126 : Int, ∃ s127a : Option Addr, ∃ s127l : Nat, ∃ s127c : Nat, ∃ s128a : Option Addr, ∃ s128l : Nat, ∃ s128c : Nat, rd w124 a125 (.agg #[.int .i64 x126, .slice s127a s127l s127c, .slice s128a s128l s128c]) ∧ Calls Tryz.prog 95 #[.slice none 0 0, .agg #[.int .i64 x126, .slice s127a s127l s127c, .slice s128a s128l s128c]] w124 (ret (fun r129 w130 => ∃ s131a : Option Addr, ∃ s131l : Nat, ∃ s131c : Nat, r129 = .slice s131a s131l s131c ∧ R (.returned (.bool (decide (((s131l : Nat) : Int) ≤ 12000)))) w130) (pan R))) (fun b132 w133 => R (.returned (.bool b132)) w133) (pan R)) (fun b134 w135 => R (.returned (.bool b134)) w135) (pan R)) (fun b136 w137 => R (.returned (.bool b136)) w137) (pan R)

theorem T_ref08_right_hl : allP (hokL Tryz.prog (hookAt [(13, H_ref08_right_1), (29, H_ref08_right_2), (61, H_ref08_right_4)]) (bodyOf Tryz.f72) 1) = (UnitOk Tryz.prog H_ref08_right_1 (at_ (bodyOf Tryz.f72) [1, 0, 1]) 13 ∧ UnitOk Tryz.prog H_ref08_right_2 (at_ (bodyOf Tryz.f72) [1, 1, 0, 1]) 29 ∧ UnitOk Tryz.prog H_ref08_right_4 (at_ (bodyOf Tryz.f72) [1, 1, 1, 0, 1]) 61 ∧ True) := by kernel_rfl

theorem T_ref08_right_eq (s1 : Option Addr) (w : World) (R : Ending → World → Prop) : vcCode Tryz.prog (hookAt [(13, H_ref08_right_1), (29, H_ref08_right_2), (61, H_ref08_right_4)]) (bodyOf Tryz.f72) 1 ⟨argEnv [.pointer s1] 0, Tryz.f72.ntmps, []⟩ w (finQ Tryz.prog Tryz.f72.results.toList R) = T_ref08_right s1 w R := by kernel_rfl

theorem T_ref08_right_b : Tryz.f72.body = some (bodyOf Tryz.f72) := by kernel_rfl
theorem T_ref08_right_s : (quietSel (bodyOf Tryz.f72) && Nat.ble 1 Tryz.f72.ntmps) = true := by kernel_rfl

theorem C_ref08_right {s1 : Option Addr} {w : World} {R : Ending → World → Prop} (h : T_ref08_right s1 w R) : Calls Tryz.prog 72 #[.pointer s1] w R :=
  calls_of_text (args := [.pointer s1]) mixed Tryz.func72 T_ref08_right_b T_ref08_right_s (HOk_of _ _ (by rw [T_ref08_right_hl]; exact ⟨T_ref08_right_1_ok, T_ref08_right_2_ok, T_ref08_right_4_ok, trivial⟩)) (by rw [T_ref08_right_eq]; exact h)

end Go.Proofs.YtcpmfjclkdjfmaaGreat

/-
  The document's Load: its loops, which read pools, routes and clients into lists.
-/
namespace Go.Vc
open Go Go.Proofs Go.Proofs.YtcpmfjclkdjfmaaGreat Go.RowKit
set_option maxRecDepth 100000
section
variable {E w : World} {L : List Asrt} {R : Ending → World → Prop} {F G : Fz} {q : Sl} {b : Cm.Bs} {st : Cm.Ps} {r r0 : Nat} {v : Int} {ra pa la : Sl}
abbrev scA (r : Nat) (q : Sl) (b : Cm.Bs) (st : Cm.Ps) : Asrt := rdrA 123 r q b st
abbrev rsA (r0 : Nat) (v : Int) (ra pa la : Sl) : Asrt := blkL r0 108 (rfL v ra pa la)
theorem many_bad {α : Type} {f : Cm.Ps → α × Cm.Ps} {n : Nat} {st : Cm.Ps} (h : Cm.bad st = true) : Cm.rMany f (n + 1) st = ([], st) := by unfold Cm.rMany; rw [h]; rfl
theorem many_ok {α : Type} {f : Cm.Ps → α × Cm.Ps} {n : Nat} {st : Cm.Ps} (h : Cm.bad st = false) : Cm.rMany f (n + 1) st = ((f st).1 :: (Cm.rMany f n (f st).2).1, (Cm.rMany f n (f st).2).2) := by
  conv => lhs; unfold Cm.rMany
  rw [h]; rfl
set_option maxHeartbeats 2000000 in
theorem rload1 {Kn : World → Prop} {Kp : List PanicEntry → World → Prop} {n0 : Nat} (hs : Src F q b) (hn0 : n0 ≤ 1000) (h : St E (scA r q b st :: plA pa [] :: tgO [] :: rsA r0 v ra pa la :: kn F :: L) w)
    (k : ∀ (w' : World) (pa' : Sl) (xs : List PlS), xs.map (·.2) = (Cm.rMany Cm.rPl n0 st).1 → St E (scA r q b (Cm.rMany Cm.rPl n0 st).2 :: plA pa' xs :: tgO xs :: rsA r0 v ra pa' la :: kn F :: L) w' → Kn w') :
    T_ref08_Load_1 0 ⟨r, 0, none⟩ (some ⟨r0, 0, none⟩) (n0 : Int) w Kn Kp := by
  unfold T_ref08_Load_1
  intro X hX
  have go : ∀ (n : Nat) (xs : List PlS) (st2 : Cm.Ps) (pa : Sl) (w : World), xs.length + n = n0 → St E (scA r q b st2 :: plA pa xs :: tgO xs :: rsA r0 v ra pa la :: kn F :: L) w →
      Cm.rMany Cm.rPl n0 st = (xs.map (·.2) ++ (Cm.rMany Cm.rPl n st2).1, (Cm.rMany Cm.rPl n st2).2) → X (xs.length : Int) w := by
    intro n
    induction n with
    | zero =>
      intro xs st2 pa w hn h he
      refine hX _ _ ?_
      unfold T_ref08_Load_1_body T_ref08_Load_2
      refine ite_d (fun hh => absurd hh (by omega)) fun _ => ite_b (fun hh => by cases hh) fun _ => ?_
      have he : Cm.rMany Cm.rPl n0 st = (xs.map (·.2), st2) := by rw [he]; simp [Cm.rMany]
      refine k w pa xs (by rw [he]) ?_
      rw [he]; exact h
    | succ n ih =>
      intro xs st2 pa w hn h he
      refine hX _ _ ?_
      unfold T_ref08_Load_1_body T_ref08_Load_2
      obtain ⟨er, hr, hb⟩ := rdr_err h
      refine ite_d (fun _ => ⟨_, rfl, er, hr, ?_⟩) fun hh => absurd (show (xs.length : Int) < (n0 : Int) by omega) hh
      rw [hb]
      cases hbad : Cm.bad st2 with
      | true =>
        rw [many_bad hbad, List.append_nil] at he
        refine ite_b (fun hh => by cases hh) fun _ => k w pa xs (by rw [he]) ?_
        rw [he]; exact h
      | false =>
        rw [many_ok hbad] at he
        refine ite_b (fun _ => ?_) fun hh => by cases hh
        refine Rscan_text_spec hs at3 h fun w29 h29 => ⟨_, rfl, ?_⟩
        intro w31
        have h31 : St E _ w31 := h29.drew
        clear_value w31
        refine ⟨_, rfl, _, _, _, rd_fld h31.f3.at_blk rfl rfl, ?_⟩
        refine Rscan_targets_spec hs at3 h31 fun w35 s h35 => ⟨_, _, _, rfl, ⟨rd_fld h35.f4.at_blk rfl rfl, trivial⟩, ?_⟩
        have hx : Cm.rPl st2 = (⟨(Cm.rText st2).1, (Cm.rTgs (Cm.rText st2).2).1⟩, (Cm.rTgs (Cm.rText st2).2).2) := rfl
        rw [hx] at he
        generalize (Cm.rTgs (Cm.rText st2).2).1 = tg at *
        generalize (Cm.rTgs (Cm.rText st2).2).2 = st3 at *
        generalize (Cm.rText st2).1 = nm at *
        have h36 : St E (plA pa xs :: tgA s tg :: scA r q b st3 :: tgO xs :: rsA r0 v ra pa la :: kn F :: L) w35 := h35.sel 6 [2, 0, 1, 3, 4, 5]
        intro w37
        have h37 : St E _ w37 := h36.alloc (.cells ⟨pcV (s, ⟨nm, tg⟩)⟩ 34)
        refine ⟨⟨rd_fld h37.f5.at_blk rfl rfl, trivial⟩, ?_⟩
        obtain ⟨pa', w39, hrun, h39⟩ := app_pl1 (x := ((s, ⟨nm, tg⟩) : PlS)) h36 (by omega)
        refine runV_ok hrun ⟨_, _, _, rfl, trivial, _, rfl, rfl, wrOk_fld h39.f4.at_blk (by simp) rfl, ?_⟩
        intro w42
        have h42 : St E (rsA r0 v ra pa' la :: plA pa' (xs ++ [(s, ⟨nm, tg⟩)]) :: tgA s tg :: scA r q b st3 :: tgO xs :: kn F :: L) w42 := h39.f4.wr_fld (k := 2) (v := .slice pa'.1 pa'.2.1 pa'.2.2) rfl
        clear_value w42
        refine ⟨trivial, ?_⟩
        have h43 := St.tgO_put (x := ((s, ⟨nm, tg⟩) : PlS)) (St.sel (L := rsA r0 v ra pa' la :: plA pa' (xs ++ [(s, ⟨nm, tg⟩)]) :: tgA s tg :: scA r q b st3 :: tgO xs :: kn F :: L) h42 6 [2, 4, 3, 1, 0, 5])
        have h44 : St E (scA r q b st3 :: plA pa' (xs ++ [(s, ⟨nm, tg⟩)]) :: tgO (xs ++ [(s, ⟨nm, tg⟩)]) :: rsA r0 v ra pa' la :: kn F :: L) w42 := St.sel (L := _ :: _ :: _ :: _ :: _ :: L) h43 5 [1, 2, 0, 3, 4]
        rw [succ_big (by unfold big; omega)]
        have := ih (xs ++ [(s, ⟨nm, tg⟩)]) st3 pa' w42 (by simp; omega) h44 (by rw [he]; simp)
        rw [List.length_append] at this
        exact this
  exact go n0 [] st pa w (by simp) h (by simp)
set_option maxHeartbeats 2000000 in
theorem rload3 {Kn : World → Prop} {Kp : List PanicEntry → World → Prop} {n0 : Nat} (hs : Src F q b) (hn0 : n0 ≤ 1000) (h : St E (scA r q b st :: rtA ra [] :: rsA r0 v ra pa la :: kn F :: L) w)
    (k : ∀ (w' : World) (ra' : Sl), St E (scA r q b (Cm.rMany Cm.rRt n0 st).2 :: rtA ra' (Cm.rMany Cm.rRt n0 st).1 :: rsA r0 v ra' pa la :: kn F :: L) w' → Kn w') :
    T_ref08_Load_3 0 ⟨r, 0, none⟩ (some ⟨r0, 0, none⟩) (n0 : Int) w Kn Kp := by
  unfold T_ref08_Load_3
  intro X hX
  have go : ∀ (n : Nat) (xs : List Cm.Rt) (st2 : Cm.Ps) (ra : Sl) (w : World), xs.length + n = n0 → St E (scA r q b st2 :: rtA ra xs :: rsA r0 v ra pa la :: kn F :: L) w →
      Cm.rMany Cm.rRt n0 st = (xs ++ (Cm.rMany Cm.rRt n st2).1, (Cm.rMany Cm.rRt n st2).2) → X (xs.length : Int) w := by
    intro n
    induction n with
    | zero =>
      intro xs st2 ra w hn h he
      refine hX _ _ ?_
      unfold T_ref08_Load_3_body T_ref08_Load_4
      refine ite_d (fun hh => absurd hh (by omega)) fun _ => ite_b (fun hh => by cases hh) fun _ => ?_
      have he : Cm.rMany Cm.rRt n0 st = (xs, st2) := by rw [he]; simp [Cm.rMany]
      refine k w ra ?_
      rw [he]; exact h
    | succ n ih =>
      intro xs st2 ra w hn h he
      refine hX _ _ ?_
      unfold T_ref08_Load_3_body T_ref08_Load_4
      obtain ⟨er, hr, hb⟩ := rdr_err h
      refine ite_d (fun _ => ⟨_, rfl, er, hr, ?_⟩) fun hh => absurd (show (xs.length : Int) < (n0 : Int) by omega) hh
      rw [hb]
      cases hbad : Cm.bad st2 with
      | true =>
        rw [many_bad hbad, List.append_nil] at he
        refine ite_b (fun hh => by cases hh) fun _ => k w ra ?_
        rw [he]; exact h
      | false =>
        rw [many_ok hbad] at he
        refine ite_b (fun _ => ?_) fun hh => by cases hh
        refine Rscan_text_spec hs at2 h fun w62 h62 => ⟨_, rfl, ?_⟩
        refine Rscan_text_spec hs at2 h62 fun w65 h65 => ⟨_, rfl, ?_⟩
        intro w67
        have h67 : St E _ w67 := h65.drew
        clear_value w67
        refine ⟨_, rfl, _, _, _, rd_fld h67.f2.at_blk rfl rfl, ?_⟩
        refine Rscan_text_spec hs at2 h67 fun w71 h71 => ⟨_, rfl, ⟨rd_fld h71.f2.at_blk rfl rfl, trivial⟩, ?_⟩
        have hx : Cm.rRt st2 = (⟨(Cm.rText st2).1, (Cm.rText (Cm.rText st2).2).1, (Cm.rText (Cm.rText (Cm.rText st2).2).2).1⟩, (Cm.rText (Cm.rText (Cm.rText st2).2).2).2) := rfl
        rw [hx] at he
        generalize (Cm.rText (Cm.rText (Cm.rText st2).2).2).1 = n3 at *
        generalize (Cm.rText (Cm.rText (Cm.rText st2).2).2).2 = st3 at *
        generalize (Cm.rText (Cm.rText st2).2).1 = n2 at *
        generalize (Cm.rText st2).1 = n1 at *
        have h72 : St E (rtA ra xs :: scA r q b st3 :: rsA r0 v ra pa la :: kn F :: L) w71 := h71.f1
        intro w73
        have h73 : St E _ w73 := h72.alloc (.cells ⟨rcV ⟨n1, n2, n3⟩⟩ 36)
        refine ⟨⟨rd_fld h73.f3.at_blk rfl rfl, trivial⟩, ?_⟩
        obtain ⟨ra', w75, hrun, h75⟩ := app_rt1 (x := (⟨n1, n2, n3⟩ : Cm.Rt)) h72 (by omega)
        refine runV_ok hrun ⟨_, _, _, rfl, trivial, _, rfl, rfl, wrOk_fld h75.f2.at_blk (by simp) rfl, ?_⟩
        intro w78
        have h78 : St E (rsA r0 v ra' pa la :: rtA ra' (xs ++ [⟨n1, n2, n3⟩]) :: scA r q b st3 :: kn F :: L) w78 := h75.f2.wr_fld (k := 1) (v := .slice ra'.1 ra'.2.1 ra'.2.2) rfl
        clear_value w78
        refine ⟨trivial, ?_⟩
        rw [succ_big (by unfold big; omega)]
        have := ih (xs ++ [(⟨n1, n2, n3⟩ : Cm.Rt)]) st3 ra' w78 (by simp; omega) (h78.sel 3 [2, 1, 0]) (by rw [he]; simp)
        rw [List.length_append] at this
        exact this
  exact go n0 [] st ra w (by simp) h (by simp)
set_option maxHeartbeats 2000000 in
theorem rload5 {Kn : World → Prop} {Kp : List PanicEntry → World → Prop} {n0 : Nat} (hs : Src F q b) (hn0 : n0 ≤ 1000) (h : St E (scA r q b st :: laA la [] :: rsA r0 v ra pa la :: kn F :: L) w)
    (k : ∀ (w' : World) (la' : Sl), St E (scA r q b (Cm.rMany Cm.rLa n0 st).2 :: laA la' (Cm.rMany Cm.rLa n0 st).1 :: rsA r0 v ra pa la' :: kn F :: L) w' → Kn w') :
    T_ref08_Load_5 0 ⟨r, 0, none⟩ (some ⟨r0, 0, none⟩) (n0 : Int) w Kn Kp := by
  unfold T_ref08_Load_5
  intro X hX
  have go : ∀ (n : Nat) (xs : List Cm.Last) (st2 : Cm.Ps) (la : Sl) (w : World), xs.length + n = n0 → St E (scA r q b st2 :: laA la xs :: rsA r0 v ra pa la :: kn F :: L) w →
      Cm.rMany Cm.rLa n0 st = (xs ++ (Cm.rMany Cm.rLa n st2).1, (Cm.rMany Cm.rLa n st2).2) → X (xs.length : Int) w := by
    intro n
    induction n with
    | zero =>
      intro xs st2 la w hn h he
      refine hX _ _ ?_
      unfold T_ref08_Load_5_body T_ref08_Load_6
      refine ite_d (fun hh => absurd hh (by omega)) fun _ => ite_b (fun hh => by cases hh) fun _ => ?_
      have he : Cm.rMany Cm.rLa n0 st = (xs, st2) := by rw [he]; simp [Cm.rMany]
      refine k w la ?_
      rw [he]; exact h
    | succ n ih =>
      intro xs st2 la w hn h he
      refine hX _ _ ?_
      unfold T_ref08_Load_5_body T_ref08_Load_6
      obtain ⟨er, hr, hb⟩ := rdr_err h
      refine ite_d (fun _ => ⟨_, rfl, er, hr, ?_⟩) fun hh => absurd (show (xs.length : Int) < (n0 : Int) by omega) hh
      rw [hb]
      cases hbad : Cm.bad st2 with
      | true =>
        rw [many_bad hbad, List.append_nil] at he
        refine ite_b (fun hh => by cases hh) fun _ => k w la ?_
        rw [he]; exact h
      | false =>
        rw [many_ok hbad] at he
        refine ite_b (fun _ => ?_) fun hh => by cases hh
        refine Rscan_num_spec (most := 1099511627776) hs at2 h fun w98 h98 => ⟨_, rfl, ?_⟩
        refine Rscan_num_spec (most := 1099511627776) hs at2 h98 fun w101 h101 => ⟨_, rfl, ?_⟩
        refine Rscan_num_spec (most := 1099511627776) hs at2 h101 fun w104 h104 => ⟨_, rfl, ?_⟩
        intro w106
        have h106 : St E _ w106 := h104.drew
        clear_value w106
        refine ⟨_, rfl, _, _, _, rd_fld h106.f2.at_blk rfl rfl, ?_⟩
        refine Rscan_num_spec (most := 1099511627776) hs at2 h106 fun w110 h110 => ⟨_, rfl, ⟨rd_fld h110.f2.at_blk rfl rfl, trivial⟩, ?_⟩
        have hx : ∃ x : Cm.Last, Cm.rLa st2 = (x, (Cm.rNum 1099511627776 (Cm.rNum 1099511627776 (Cm.rNum 1099511627776 (Cm.rNum 1099511627776 st2).2).2).2).2) ∧ x.client = ((Cm.rNum 1099511627776 st2).1 : Int) ∧ x.seq = ((Cm.rNum 1099511627776 (Cm.rNum 1099511627776 st2).2).1 : Int) ∧ x.e = ((Cm.rNum 1099511627776 (Cm.rNum 1099511627776 (Cm.rNum 1099511627776 st2).2).2).1 : Int) ∧
            x.ver = ((Cm.rNum 1099511627776 (Cm.rNum 1099511627776 (Cm.rNum 1099511627776 (Cm.rNum 1099511627776 st2).2).2).2).1 : Int) := ⟨_, rfl, rfl, rfl, rfl, rfl⟩
        obtain ⟨x, hx, x1, x2, x3, x4⟩ := hx
        rw [hx] at he
        rw [← x1, ← x2, ← x3, ← x4]
        generalize (Cm.rNum 1099511627776 (Cm.rNum 1099511627776 (Cm.rNum 1099511627776 (Cm.rNum 1099511627776 st2).2).2).2).2 = st3 at *
        have h72 : St E (laA la xs :: scA r q b st3 :: rsA r0 v ra pa la :: kn F :: L) w110 := h110.f1
        intro w112
        have h73 : St E _ w112 := h72.alloc (.cells ⟨lcV x⟩ 113)
        refine ⟨⟨rd_fld h73.f3.at_blk rfl rfl, trivial⟩, ?_⟩
        obtain ⟨la', w75, hrun, h75⟩ := app_la1 (x := x) h72 (by omega)
        refine runV_ok hrun ⟨_, _, _, rfl, trivial, _, rfl, rfl, wrOk_fld h75.f2.at_blk (by simp) rfl, ?_⟩
        intro w78
        have h78 : St E (rsA r0 v ra pa la' :: laA la' (xs ++ [x]) :: scA r q b st3 :: kn F :: L) w78 := h75.f2.wr_fld (k := 3) (v := .slice la'.1 la'.2.1 la'.2.2) rfl
        clear_value w78
        refine ⟨trivial, ?_⟩
        rw [succ_big (by unfold big; omega)]
        have := ih (xs ++ [x]) st3 la' w78 (by simp; omega) (h78.sel 3 [2, 1, 0]) (by rw [he]; simp)
        rw [List.length_append] at this
        exact this
  exact go n0 [] st la w (by simp) h (by simp)
end
end Go.Vc

/-
  What the functions' code comes to; printed by a program of this claim's own.
-/
namespace Go.Proofs.YtcpmfjclkdjfmaaGreat
open Go Go.Vc
set_option maxRecDepth 100000
set_option linter.unusedVariables false

/-! tollgate/tollgatelaw08.ConfDoes -/
end Go.Proofs.YtcpmfjclkdjfmaaGreat

/-
  The document's configuration in new memory, its bytes; whether both stores tell the same; the law ConfDoes.
-/
namespace Go.Vc
open Go Go.Proofs Go.Proofs.YtcpmfjclkdjfmaaGreat Go.RowKit
set_option maxRecDepth 100000
section
variable {E w : World} {L : List Asrt} {R : Ending → World → Prop} {F G : Fz} {s : Cm.Sm} {p r : Nat} {ra pa la : Sl} {v : Int}
set_option maxHeartbeats 2000000 in
theorem copy_l1 {Kn : World → Prop} {Kp : List PanicEntry → World → Prop} {bc bo : Nat} {A : Asrt} {xs : List PlS} (S : Sz s) (hxs : xs.map (·.2) = s.pools) (rp : RdF F pa.1 pa.2.1 2 (xs.flatMap pcV)) (rt : ∀ x ∈ xs, RdF F x.1.1 x.1.2.1 2 (x.2.tg.flatMap tV))
    {ro : Sl} (h : St E (blkL bo 30 (cfgL v ro (none, 0, 0)) :: plA (none, 0, 0) [] :: tgO [] :: A :: blkL bc 30 (cfgL v ra pa) :: kn F :: L) w)
    (k : ∀ (w : World) (po : Sl) (ys : List PlS), ys.map (·.2) = s.pools → St E (blkL bo 30 (cfgL v ro po) :: plA po ys :: tgO ys :: A :: blkL bc 30 (cfgL v ra pa) :: kn F :: L) w → Kn w) :
    T_ref08_CopyConfig_1 0 ⟨bc, 0, none⟩ ⟨bo, 0, none⟩ w Kn Kp := by
  have hbig : big = 140737488355328 := rfl
  have hpn := S.pn
  have hxl : xs.length = s.pools.length := by rw [← hxs]; simp
  have hat : ∀ j (hj : j < xs.length), xs[j].2 = s.pools[j]'(by omega) := fun j hj => by
    have : (xs.map (·.2))[j]'(by simpa using hj) = s.pools[j]'(by omega) := by simp [hxs]
    simpa using this
  have hm5 : ∀ {A B C D H : Asrt}, kn F ∈ A :: B :: C :: D :: H :: kn F :: L := at5
  have n1 := rp.count pcV_len (by decide) h hm5
  unfold T_ref08_CopyConfig_1
  intro X hX
  refine up_to xs.length (Q := fun j => ∀ (w : World) (po : Sl) (ys : List PlS), ys.map (·.2) = s.pools.take j → St E (blkL bo 30 (cfgL v ro po) :: plA po ys :: tgO ys :: A :: blkL bc 30 (cfgL v ra pa) :: kn F :: L) w → X (j : Int) w) ?_ w (none, 0, 0) [] (by simp) h
  intro j hj ih w po ys hys h
  have hyl : ys.length ≤ 64 := by have := congrArg List.length hys; simp at this; omega
  refine hX _ _ ?_
  unfold T_ref08_CopyConfig_1_body
  refine ⟨_, _, _, rd_fld h.f4.at_blk rfl rfl, ?_⟩
  rw [← n1]
  refine ite_d (fun hc => ?_) fun hc => ?_
  · have hjl : j < xs.length := by omega
    intro w19
    have h19 : St E _ w19 := h.drew
    clear_value w19
    obtain ⟨ad, ha, hn, hs, _⟩ := pl_at (rp.at h19 hm5) hjl
    have still : ∀ {w : World} {L' : List Asrt}, kn F ∈ L' → St E L' w → rd w (ad.add (j * 2)) (.string (bs xs[j].2.name)) ∧ rd w ((ad.add (j * 2)).add 1) (.slice xs[j].1.1 xs[j].1.2.1 xs[j].1.2.2) := fun hmm h => by
      obtain ⟨ad', ha', hn', hs', _⟩ := pl_at (rp.at h hmm) hjl
      rw [ha] at ha'
      injection ha' with ha'
      subst ha'
      exact ⟨hn', hs'⟩
    rw [Int.toNat_natCast]
    refine ⟨_, _, _, rd_fld h19.at_blk rfl rfl, _, _, _, rd_fld h19.f4.at_blk rfl rfl, by omega, by omega, ad, ha, _, hn, _, _, _, rd_fld h19.f4.at_blk rfl rfl, by omega, by omega, ad, ha, _, _, _, hs, ?_⟩
    intro w27
    have h27 : St E (tgA (some ⟨w19.heap.size, 0, none⟩, 0, 0) [] :: blkL bo 30 (cfgL v ro po) :: plA po ys :: tgO ys :: A :: blkL bc 30 (cfgL v ra pa) :: kn F :: L) w27 := St.ownS_mk (rest := []) (h19.alloc _) rfl (Nat.le_refl _) (Nat.zero_le _) rfl
    clear_value w27
    refine ⟨⟨(still at6 h27).2, rd_fld h27.f5.at_blk rfl rfl, (still at6 h27).1, rd_fld h27.f5.at_blk rfl rfl, rd_fld h27.f1.at_blk rfl rfl, trivial⟩, ?_⟩
    have hsx := (S.pl _ (List.getElem_mem (show j < s.pools.length by omega))).2.1
    have hsz : xs[j].2.tg.length ≤ 16 := by rw [hat j hjl]; exact hsx
    obtain ⟨q', w29, hr29, h29⟩ := app_t (c2 := xs[j].1.2.2) h27 ((rt _ (List.getElem_mem hjl)).at h27 at6) (by simp; omega)
    rw [List.nil_append] at h29
    refine runV_ok hr29 ⟨_, _, _, rfl, ⟨rd_fld h29.f5.at_blk rfl rfl, (still at6 h29).1, rd_fld h29.f5.at_blk rfl rfl, rd_fld h29.f1.at_blk rfl rfl, trivial⟩, ?_⟩
    intro w31
    have h31 : St E (plA (some ⟨w29.heap.size, 0, none⟩, 1, 1) [(q', xs[j].2)] :: tgA q' xs[j].2.tg :: blkL bo 30 (cfgL v ro po) :: plA po ys :: tgO ys :: A :: blkL bc 30 (cfgL v ra pa) :: kn F :: L) w31 := h29.pl_new (q', xs[j].2)
    refine ⟨⟨rd_fld (St.sel h31 7 [6, 0, 1, 2, 3, 4, 5]).at_blk rfl rfl, rd_fld (St.sel h31 7 [6, 0, 1, 2, 3, 4, 5]).at_blk rfl rfl, rd_fld h31.f2.at_blk rfl rfl, trivial⟩, ?_⟩
    obtain ⟨po', w33, hr33, h33⟩ := app_pl1 (x := (q', xs[j].2)) h29.f2 (by omega)
    have h33 : St E (plA po' (ys ++ [(q', xs[j].2)]) :: tgA q' xs[j].2.tg :: blkL bo 30 (cfgL v ro po) :: tgO ys :: A :: blkL bc 30 (cfgL v ra pa) :: kn F :: L) w33 := h33
    refine runV_ok hr33 ⟨_, _, _, rfl, ⟨rd_fld h33.f5.at_blk rfl rfl, rd_fld h33.f5.at_blk rfl rfl, trivial⟩, rfl, wrOk_fld h33.f2.at_blk (by show 2 < 3; decide) rfl, ?_⟩
    intro w35
    have h35 := h33.f2.wr_fld (k := 2) (v := .slice po'.1 po'.2.1 po'.2.2) rfl
    refine ⟨trivial, ?_⟩
    rw [succ_big (by omega)]
    refine ih hjl _ po' (ys ++ [(q', xs[j].2)]) (by rw [List.map_append, hys, List.take_succ_eq_append_getElem (show j < s.pools.length by omega)]; simp [hat j hjl]) ?_
    have h36 : St E (blkL bo 30 (cfgL v ro po') :: plA po' (ys ++ [(q', xs[j].2)]) :: tgA q' xs[j].2.tg :: tgO ys :: A :: blkL bc 30 (cfgL v ra pa) :: kn F :: L) w35 := h35
    exact St.sel (L := _ :: _ :: _ :: A :: _ :: kn F :: L) (St.tgO_put (x := (q', xs[j].2)) (h36.sel 4 [2, 3, 0, 1])) 3 [1, 2, 0]
  · rw [List.take_of_length_le (by omega)] at hys
    exact k _ _ _ hys h
set_option maxHeartbeats 4000000 in
/-- CopyConfig. -/
theorem Copy_spec (S : Sz s) (cf : cfgR F ra pa s.routes s.pools) (h : St E (kn F :: L) w) (k : ∀ (G : Fz) (w' : World) (ra' pa' : Sl), Fz.le F G → cfgR G ra' pa' s.routes s.pools → St E (kn G :: L) w' → R (.returned (cfgV v ra' pa')) w') :
    Calls Tryz.prog 59 #[cfgV v ra pa] w R := by
  obtain ⟨rr, xs, hxs, rp, rt⟩ := cf
  have hrn := S.rn
  refine C_ref08_CopyConfig ?_
  unfold T_ref08_CopyConfig
  intro w4
  have h4 : St E (blkL w.heap.size 30 (cfgL v ra pa) :: kn F :: L) w4 := h.alloc _
  intro w5
  have h5 : St E (blkL w4.heap.size 30 (cfgL 0 (none, 0, 0) (none, 0, 0)) :: blkL w.heap.size 30 (cfgL v ra pa) :: kn F :: L) w5 := h4.alloc _
  intro w6
  have h6 : St E _ w6 := h5.drew
  clear_value w6
  clear h5 h4
  clear_value w5 w4
  generalize w4.heap.size = bt at *
  generalize w.heap.size = bc at *
  -- behind the copy of the pools
  have tail : ∀ {w : World} {bo : Nat} {ro po : Sl} {ys : List PlS}, ys.map (·.2) = s.pools → St E (blkL bo 30 (cfgL v ro po) :: plA po ys :: tgO ys :: rtA ro s.routes :: blkL bc 30 (cfgL v ra pa) :: kn F :: blkL bt 30 (cfgL 0 (none, 0, 0) (none, 0, 0)) :: L) w →
      (∃ x37 : Int, ∃ s38a : Option Addr, ∃ s38l : Nat, ∃ s38c : Nat, ∃ s39a : Option Addr, ∃ s39l : Nat, ∃ s39c : Nat, rd w (⟨bo, 0, none⟩ : Addr) (.agg #[.int .i64 x37, .slice s38a s38l s38c, .slice s39a s39l s39c]) ∧ (.agg #[.int .i64 x37, .slice s38a s38l s38c, .slice s39a s39l s39c] : Value).cells.size = 3 ∧ wrOk w (⟨bt, 0, none⟩ : Addr) (.agg #[.int .i64 x37, .slice s38a s38l s38c, .slice s39a s39l s39c]) ∧ let w40 : World := wr w (⟨bt, 0, none⟩ : Addr) (.agg #[.int .i64 x37, .slice s38a s38l s38c, .slice s39a s39l s39c])
      ∃ x41 : Int, ∃ s42a : Option Addr, ∃ s42l : Nat, ∃ s42c : Nat, ∃ s43a : Option Addr, ∃ s43l : Nat, ∃ s43c : Nat, rd w40 (⟨bt, 0, none⟩ : Addr) (.agg #[.int .i64 x41, .slice s42a s42l s42c, .slice s43a s43l s43c]) ∧ R (.returned (.agg #[.int .i64 x41, .slice s42a s42l s42c, .slice s43a s43l s43c])) w40) := fun {w bo ro po ys} hys h => by
    have h7 : St E (blkL bt 30 (cfgL 0 (none, 0, 0) (none, 0, 0)) :: rtA ro s.routes :: plA po ys :: tgO ys :: kn F :: L) w := h.sel 7 [6, 3, 1, 2, 5]
    refine ⟨_, _, _, _, _, _, _, rd_cfg h, rfl, ok_cfg h7 rfl v ro po, ?_⟩
    intro w40
    have h8 := St.wr_cfg h7 rfl v ro po
    obtain ⟨G, hG, h9, hc⟩ := St.cfg_freeze hys h8.drop
    exact ⟨_, _, _, _, _, _, _, rd_cfg h8, k G _ ro po hG hc h9⟩
  have hm2 : ∀ {A B : Asrt}, kn F ∈ A :: B :: kn F :: L := at2
  refine ⟨_, rd_cell h6.f1.at_blk rfl rfl, _, _, _, rd_fld h6.f1.at_blk rfl rfl, ⟨?_, ?_⟩⟩
  · intro w9
    have h9 : St E (rtA (some ⟨w6.heap.size, 0, none⟩, 0, 0) [] :: blkL bt 30 (cfgL 0 (none, 0, 0) (none, 0, 0)) :: blkL bc 30 (cfgL v ra pa) :: kn F :: L) w9 := h6.rt_zero
    clear_value w9
    refine ⟨⟨rd_fld h9.f2.at_blk rfl rfl, rd_cell h9.f2.at_blk rfl rfl, trivial⟩, ⟨?_, ?_⟩⟩
    · obtain ⟨ro, w11, hr, h11⟩ := app_rt (c2 := ra.2.2) h9 (rr.at h9 at3) (by simp; omega)
      rw [List.nil_append] at h11
      refine runV_ok hr ⟨_, _, _, rfl, ⟨rd_cell h11.f2.at_blk rfl rfl, trivial⟩, ?_⟩
      intro w13
      have h13 := h11.alloc (.cells ⟨cfgL 0 (none, 0, 0) (none, 0, 0)⟩ 30)
      refine ⟨⟨rd_cell h13.f3.at_blk rfl rfl, trivial⟩, rfl, ok_cfg h13 rfl v ro (none, 0, 0), ?_⟩
      intro w14
      have h14 := St.wr_cfg h13 rfl v ro (none, 0, 0)
      refine ⟨trivial, copy_l1 (A := rtA ro s.routes) (L := blkL bt 30 (cfgL 0 (none, 0, 0) (none, 0, 0)) :: L) S hxs rp rt ((h14.tgO_nil.pl_nil).sel 7 [2, 0, 1, 3, 5, 6, 4]) fun w36 po ys hys h36 => tail hys h36⟩
    · intro w44
      have h44 : St E (blkL w9.heap.size 30 (cfgL 0 (none, 0, 0) (none, 0, 0)) :: rtA (some ⟨w6.heap.size, 0, none⟩, 0, 0) [] :: blkL bt 30 (cfgL 0 (none, 0, 0) (none, 0, 0)) :: blkL bc 30 (cfgL v ra pa) :: kn F :: L) w44 := h9.alloc _
      clear_value w44
      generalize w9.heap.size = bo at *
      refine ⟨⟨rd_fld h44.f3.at_blk rfl rfl, rd_cell h44.f3.at_blk rfl rfl, trivial⟩, ?_⟩
      obtain ⟨ro, w11, hr, h11⟩ := app_rt (c2 := ra.2.2) h44.f1 (rr.at h44 at4) (by simp; omega)
      rw [List.nil_append] at h11
      refine runV_ok hr ⟨_, _, _, rfl, ⟨rd_cell h11.f3.at_blk rfl rfl, trivial⟩, rfl, ok_cfg h11.f1 rfl v ro (none, 0, 0), ?_⟩
      intro w14
      have h14 := St.wr_cfg h11.f1 rfl v ro (none, 0, 0)
      refine ⟨trivial, copy_l1 (A := rtA ro s.routes) (L := blkL bt 30 (cfgL 0 (none, 0, 0) (none, 0, 0)) :: L) S hxs rp rt ((h14.tgO_nil.pl_nil).sel 7 [2, 0, 1, 3, 5, 6, 4]) fun w36 po ys hys h36 => tail hys h36⟩
  · intro w57
    have h57 : St E (blkL w6.heap.size 30 (cfgL 0 (none, 0, 0) (none, 0, 0)) :: blkL bt 30 (cfgL 0 (none, 0, 0) (none, 0, 0)) :: blkL bc 30 (cfgL v ra pa) :: kn F :: L) w57 := h6.alloc _
    refine ⟨⟨rd_fld h57.f2.at_blk rfl rfl, rd_cell h57.f2.at_blk rfl rfl, trivial⟩, ?_⟩
    intro w58
    have h58 : St E (rtA (some ⟨w57.heap.size, 0, none⟩, 0, 0) [] :: blkL w6.heap.size 30 (cfgL 0 (none, 0, 0) (none, 0, 0)) :: blkL bt 30 (cfgL 0 (none, 0, 0) (none, 0, 0)) :: blkL bc 30 (cfgL v ra pa) :: kn F :: L) w58 := h57.rt_zero
    clear_value w58
    clear h57
    clear_value w57
    generalize w6.heap.size = bo at *
    refine ⟨⟨rd_fld h58.f3.at_blk rfl rfl, rd_cell h58.f3.at_blk rfl rfl, trivial⟩, ?_⟩
    obtain ⟨ro, w11, hr, h11⟩ := app_rt (c2 := ra.2.2) h58 (rr.at h58 at4) (by simp; omega)
    rw [List.nil_append] at h11
    refine runV_ok hr ⟨_, _, _, rfl, ⟨rd_cell h11.f3.at_blk rfl rfl, trivial⟩, rfl, ok_cfg h11.f1 rfl v ro (none, 0, 0), ?_⟩
    intro w14
    have h14 := St.wr_cfg h11.f1 rfl v ro (none, 0, 0)
    refine ⟨trivial, copy_l1 (A := rtA ro s.routes) (L := blkL bt 30 (cfgL 0 (none, 0, 0) (none, 0, 0)) :: L) S hxs rp rt ((h14.tgO_nil.pl_nil).sel 7 [2, 0, 1, 3, 5, 6, 4]) fun w36 po ys hys h36 => tail hys h36⟩
theorem rd_rf {ra pa la : Sl} (h : St E (blkL r 108 (rfL v ra pa la) :: L) w) : rd w ⟨r, 0, none⟩ (cfgV v ra pa) := rd_agg (xs := cfgL v ra pa) h.at_blk (by intro i u hu; rw [Nat.zero_add]; match i, hu with | 0, hu => exact hu | 1, hu => exact hu | 2, hu => exact hu | n + 3, hu => simp at hu)
theorem RConfig_spec (S : Sz s) (h : St E (refA F r s :: kn F :: L) w) (k : ∀ (G : Fz) (w' : World) (ra pa : Sl), Fz.le F G → cfgR G ra pa s.routes s.pools → St E (refA G r s :: kn G :: L) w' → R (.returned (cfgV s.ver ra pa)) w') : Calls Tryz.prog 53 #[.pointer (some ⟨r, 0, none⟩)] w R := by
  obtain ⟨ra, pa, la, hc, hl, h⟩ := h.rf_open
  refine C_ref08_Store_Config ?_
  unfold T_ref08_Store_Config
  intro w2
  have h2 : St E (blkL w.heap.size 30 (cfgL 0 (none, 0, 0) (none, 0, 0)) :: blkL r 108 (rfL s.ver ra pa la) :: kn F :: L) w2 := h.alloc _
  clear_value w2
  generalize w.heap.size = bt at *
  refine ite_some ⟨_, rfl, _, _, _, _, _, _, _, rd_rf h2.f1, ?_⟩
  refine Copy_spec (s := s) (L := blkL bt 30 (cfgL 0 (none, 0, 0) (none, 0, 0)) :: blkL r 108 (rfL s.ver ra pa la) :: L) S hc h2.f2 fun G w12 ra' pa' hG hc' h12 => ⟨_, _, _, _, _, _, _, rfl, rfl, ok_cfg h12.f1 rfl s.ver ra' pa', ?_⟩
  intro w16
  have h16 := St.wr_cfg h12.f1 rfl s.ver ra' pa'
  refine ⟨_, _, _, _, _, _, _, rd_cfg h16, k G _ ra' pa' hG hc' ?_⟩
  exact St.rf_mk (hc.mono hG) (RdF.mono hl hG) (St.sel (L := blkL bt 30 (cfgL s.ver ra' pa') :: kn G :: blkL r 108 (rfL s.ver ra pa la) :: L) h16 3 [2, 1])
end
end Go.Vc

/-
  The document's store's bytes; whether both stores tell the same; the law ConfDoes.
-/
namespace Go.Vc
open Go Go.Proofs Go.Proofs.YtcpmfjclkdjfmaaGreat Go.RowKit
set_option maxRecDepth 100000
section
variable {E w : World} {L : List Asrt} {R : Ending → World → Prop} {F G : Fz} {s : Cm.Sm} {p r : Nat} {ra pa la : Sl} {v : Int}
set_option maxHeartbeats 2000000 in
theorem rput_l {Kn : Option Addr → Nat → Nat → World → Prop} {Kp : List PanicEntry → World → Prop} {xs : Cm.Bs} {b : Sl} (hm : kn F ∈ L) (hln : s.l.length ≤ 64) (hl : RdF F la.1 la.2.1 4 (s.l.flatMap lcV))
    (h : St E (byA b xs :: blkL r 108 (rfL v ra pa la) :: L) w) (hx : xs.length ≤ 1000000)
    (k : ∀ (w : World) (b : Sl), St E (byA b (xs ++ s.l.flatMap Cm.laB) :: blkL r 108 (rfL v ra pa la) :: L) w → Kn b.1 b.2.1 b.2.2 w) :
    T_ref08_Store_Put_1 b.1 b.2.1 b.2.2 0 (some ⟨r, 0, none⟩) w Kn Kp := by
  have hbig : big = 140737488355328 := rfl
  have n1 := hl.count lcV_len (by decide) h (mem2 hm)
  unfold T_ref08_Store_Put_1
  intro X hX
  refine up_to s.l.length (Q := fun j => ∀ (w : World) (b : Sl), St E (byA b (xs ++ (s.l.take j).flatMap Cm.laB) :: blkL r 108 (rfL v ra pa la) :: L) w → X b.1 b.2.1 b.2.2 (j : Int) w) ?_ w b (by simpa using h)
  intro j hj ih w b h
  refine hX _ _ _ _ _ ?_
  unfold T_ref08_Store_Put_1_body
  refine ⟨_, rfl, _, _, _, rd_fld h.f1.at_blk rfl rfl, ?_⟩
  rw [← n1]
  refine ite_d (fun hc => ?_) fun hc => ?_
  · have hjl : j < s.l.length := by omega
    have hl1 := las_len hln j
    have m1 := num_len s.l[j].client; have m2 := num_len s.l[j].seq; have m3 := num_len s.l[j].e; have m4 := num_len s.l[j].ver
    intro w25
    have h25 : St E _ w25 := h.drew
    clear_value w25
    obtain ⟨ad, ha, _, hk, _⟩ := la_at (hl.at h25 (mem2 hm)) hjl
    have rr : ∀ {w : World} {A B : Asrt}, St E (A :: B :: L) w → ∀ k v, (lcV s.l[j])[k]? = some v → one v = true → rd w ((ad.add (j * 4)).add k) v := fun h k v h1 h2 => by
      obtain ⟨ad', ha', _, hk', _⟩ := la_at (hl.at h (mem2 hm)) hjl
      rw [ha] at ha'
      injection ha' with ha'
      subst ha'
      exact hk' k v h1 h2
    have hsp : ((ad.add (j * 4)).add 2).add 1 = (ad.add (j * 4)).add 3 := by
      have hz := (hl.at h25 (mem2 hm)).cells (by omega)
      obtain ⟨ad', ha', hs', _⟩ := hz
      rw [ha] at ha'
      injection ha' with ha'
      subst ha'
      obtain ⟨bb, oo, sp⟩ := ad
      simp only at hs'
      subst hs'
      rw [add_mk, add_mk, add_mk, add_mk]
    rw [Int.toNat_natCast]
    refine ⟨_, rfl, _, _, _, rd_fld h25.f1.at_blk rfl rfl, by omega, by omega, ad, ha, _, rr h25 0 _ rfl rfl, _, rfl, _, _, _, rd_fld h25.f1.at_blk rfl rfl, by omega, by omega, ad, ha, _, rr h25 1 _ rfl rfl, ?_⟩
    refine Rnum_spec (n := s.l[j].client) h25 (by simp only [List.length_append]; omega) fun w35 b35 h35 => ⟨_, _, _, rfl, ⟨rr h35 1 _ rfl rfl, rd_fld h35.f1.at_blk rfl rfl, rd_fld h35.f1.at_blk rfl rfl, trivial⟩, ?_⟩
    refine Rnum_spec (n := s.l[j].seq) h35 (by simp only [List.length_append]; omega) fun w38 b38 h38 => ⟨_, _, _, rfl, ⟨rd_fld h38.f1.at_blk rfl rfl, rd_fld h38.f1.at_blk rfl rfl, trivial⟩, ?_⟩
    intro w40
    have h40 : St E _ w40 := h38.drew
    clear_value w40
    refine ⟨_, rfl, _, _, _, rd_fld h40.f1.at_blk rfl rfl, by omega, by omega, ad, ha, _, rr h40 2 _ rfl rfl, _, rfl, _, _, _, rd_fld h40.f1.at_blk rfl rfl, by omega, by omega, ad, ha, _, by rw [hsp]; exact rr h40 3 _ rfl rfl, ?_⟩
    refine Rnum_spec (n := s.l[j].e) h40 (by simp only [List.length_append]; omega) fun w50 b50 h50 => ⟨_, _, _, rfl, ⟨by rw [hsp]; exact rr h50 3 _ rfl rfl, rd_fld h50.f1.at_blk rfl rfl, rd_fld h50.f1.at_blk rfl rfl, trivial⟩, ?_⟩
    refine Rnum_spec (n := s.l[j].ver) h50 (by simp only [List.length_append]; omega) fun w53 b53 h53 => ⟨_, _, _, rfl, ⟨rd_fld h53.f1.at_blk rfl rfl, rd_fld h53.f1.at_blk rfl rfl, trivial⟩, ?_⟩
    rw [succ_big (by omega)]
    refine ih hjl _ _ ?_
    rw [List.take_succ_eq_append_getElem hjl, List.flatMap_append]
    simpa [Cm.laB] using h53
  · rw [List.take_of_length_le (by omega)] at h
    exact k _ _ h
/-- (*Store).Put, in the document's words. -/
theorem RPut_spec (hm : kn F ∈ L) (S : Sz s) (hln : s.l.length ≤ 64) (h : St E (refA F r s :: L) w)
    (k : ∀ (w' : World) (b' : Sl), St E (byA b' (Cm.putS s) :: refA F r s :: L) w' → R (.returned (.slice b'.1 b'.2.1 b'.2.2)) w') : Calls Tryz.prog 54 #[.pointer (some ⟨r, 0, none⟩)] w R := by
  have hbig : big = 140737488355328 := rfl
  obtain ⟨ra, pa, la, hc, hl, h⟩ := h.rf_open
  have hcb := confB_len S
  have hn1 := num_len s.ver
  have hn2 := num_len s.l.length
  have nl := hl.count lcV_len (by decide) h (mem1 hm)
  refine C_ref08_Store_Put ?_
  unfold T_ref08_Store_Put
  refine ite_some ?_
  intro w2
  have h2 : St E _ w2 := h.drew
  clear_value w2
  refine ⟨_, rfl, _, rd_cell h2.at_blk rfl rfl, _, rfl, _, _, _, _, _, _, _, rd_rf h2, _, rfl, _, _, _, rd_fld h2.at_blk rfl rfl, ?_⟩
  refine Rnum_spec (s := (none, 0, 0)) (xs := []) h2.by_nil (by rw [List.length_nil]; omega) fun w12 b12 h12 => ⟨_, _, _, rfl, ⟨rd_fld h12.f1.at_blk rfl rfl, rd_rf h12.f1, trivial⟩, ?_⟩
  rw [List.nil_append] at h12
  refine Rconfig_spec (mem1 hm) S hc h12 (by omega) fun w15 b15 h15 => ⟨_, _, _, rfl, ⟨rd_fld h15.f1.at_blk rfl rfl, trivial⟩, ?_⟩
  rw [← nl]
  refine Rnum_spec h15 (by simp only [List.length_append]; omega) fun w18 b18 h18 => ⟨_, _, _, rfl, trivial, ?_⟩
  refine rput_l hm hln hl h18 (by simp only [List.length_append]; omega) fun w60 b60 h60 => k _ _ ?_
  have h9 : St E (byA b60 (Cm.putS s) :: blkL r 108 (rfL s.ver ra pa la) :: L) w60 := by simpa [Cm.putS] using h60
  exact (St.rf_mk hc hl h9.f1).f1
theorem conv_by {b : Sl} {xs : Cm.Bs} (h : St E (byA b xs :: L) w) : (convert 56 9 (.slice b.1 b.2.1 b.2.2)).run Tryz.prog w = .ok (.string (bs xs)) w :=
  convert_string (e := 5) (by kernel_rfl) (by kernel_rfl) (by kernel_rfl) h.rdS_own
set_option maxHeartbeats 4000000 in
/-- same: both at the same state: they tell the same. -/
theorem same_spec (I : Cm.Inv s) (h : St E (stA F p s :: refA F r s :: kn F :: L) w) (k : ∀ (G : Fz) (w' : World), Fz.le F G → St E (stA G p s :: refA G r s :: kn G :: L) w' → R (.returned (.bool true)) w') :
    Calls Tryz.prog 26 #[.pointer (some ⟨p, 0, none⟩), .pointer (some ⟨r, 0, none⟩)] w R := by
  have S := Sz.of I
  have hpn := I.pn
  have hrn := I.rn
  have hln := I.ln
  refine C_law08_same ?_
  unfold T_law08_same T_law08_same_1
  intro w5
  have h5 : St E (stA F p s :: refA F r s :: kn F :: L) w5 := h.drew
  clear_value w5
  refine Config_kn S (h5.sel 3 [0, 2, 1]) fun G1 w7 ra pa hG1 hc1 h7 => ⟨_, _, _, _, _, _, _, rfl, trivial, ?_⟩
  have h8 : St E (refA G1 r s :: kn G1 :: stA G1 p s :: L) w7 := (St.sel (L := stA G1 p s :: kn G1 :: refA F r s :: L) h7 3 [2, 1, 0]).rf_mono hG1
  refine RConfig_spec S h8 fun G2 w12 ra2 pa2 hG2 hc2 h12 => ⟨_, _, _, _, _, _, _, rfl, trivial, ?_⟩
  have l2 := Fz.le_trans hG1 hG2
  have h13 : St E (stA G2 p s :: refA G2 r s :: kn G2 :: L) w12 := (St.sel (L := refA G2 r s :: kn G2 :: stA G1 p s :: L) h12 3 [2, 0, 1]).st_mono hG2
  refine SameConfig_spec (v1 := s.ver) (v2 := s.ver) at2 h13 (hc1.mono hG2) hc2 (by omega) (by omega) (fun x hx => by have := (S.pl x hx).2.1; unfold huge; omega) fun w17 h17 => ⟨_, rfl, trivial, ite_n (fun hh => by simp at hh) fun _ => ?_⟩
  have fin : ∀ {w : World} {x y : Bool}, x = false → St E (stA G2 p s :: refA G2 r s :: kn G2 :: L) w → (fun b49 w50 => if b49 = true then (R (.returned (.bool false)) w50) else (T_law08_same_2 (-1) (some ⟨p, 0, none⟩) (some ⟨r, 0, none⟩) w50 (fun w79 => R (.returned (.bool true)) w79) (fun b80 w81 => R (.returned (.bool b80)) w81) (pan R))) x w := fun {w x y} hx h => by
    subst hx
    refine ite_b (fun hh => by cases hh) fun _ => ?_
    unfold T_law08_same_2
    intro X hX
    have key : ∀ (n : Nat) (i : Int) (w : World), i = 34 - (n : Int) → n ≤ 35 → St E (stA G2 p s :: refA G2 r s :: kn G2 :: L) w → X i w := by
      intro n
      induction n with
      | zero =>
        intro i w hi _ h
        refine hX _ _ ?_
        unfold T_law08_same_2_body
        exact ite_d (fun hh => absurd hh (by omega)) fun _ => k G2 _ l2 h
      | succ n ih =>
        intro i w hi hn h
        refine hX _ _ ?_
        unfold T_law08_same_2_body
        refine ite_d (fun _ => ?_) fun hh => absurd hh (by omega)
        refine Seen_spec h fun w55 h55 => ⟨_, _, _, rfl, ?_⟩
        generalize hq : Cm.seenC s i = sq at *
        intro w59
        have h59 := h55.alloc (.cells #[.int .i64 0, .int .i64 0] 45)
        refine ⟨rfl, ok_res h59 rfl sq.2.1 sq.2.2, ?_⟩
        intro w60
        have h60 : St E (blkL w55.heap.size 45 (rsL sq.2.1 sq.2.2) :: stA G2 p s :: refA G2 r s :: kn G2 :: L) w60 := h59.wr_res rfl sq.2.1 sq.2.2
        clear_value w60
        clear h59
        clear_value w59
        generalize w55.heap.size = b1 at *
        refine RSeen_spec (L := blkL b1 45 (rsL sq.2.1 sq.2.2) :: stA G2 p s :: kn G2 :: L) at2 (by omega) (h60.sel 4 [2, 0, 1, 3]) fun w62 h62 => ?_
        rw [hq]
        refine ⟨_, _, _, rfl, ?_⟩
        intro w66
        have h66 := h62.alloc (.cells #[.int .i64 0, .int .i64 0] 45)
        refine ⟨rfl, ok_res h66 rfl sq.2.1 sq.2.2, ?_⟩
        intro w67
        have h67 : St E (blkL w62.heap.size 45 (rsL sq.2.1 sq.2.2) :: refA G2 r s :: blkL b1 45 (rsL sq.2.1 sq.2.2) :: stA G2 p s :: kn G2 :: L) w67 := h66.wr_res rfl sq.2.1 sq.2.2
        clear_value w67
        refine ite_b (fun hh => by simp at hh) fun _ => ⟨_, _, rd_res h67.f2, _, _, rd_res h67, ?_⟩
        refine runV_ok (res_ne _ _ _ _ _ _) ?_
        refine ⟨_, rfl, ?_⟩
        refine ite_b (fun hh => ?_) fun _ => ?_
        · simp at hh
        · rw [wrap_id (by omega) (by omega)]
          exact ih (i + 1) _ (by omega) (by omega) (h67.sel 5 [3, 1, 4])
    exact key 35 (-1) w (by omega) (by omega) h
  have hne : (!((bs (Cm.putS s)).toList == (bs (Cm.putS s)).toList)) = false := by simp
  refine Put_spec (L := refA G2 r s :: kn G2 :: L) at1 S I.lr (by omega) h17 fun w20 b20 h20 => ⟨_, _, _, rfl, trivial, ⟨?_, ?_⟩⟩
  · refine runV_ok (conv_by h20) ⟨_, rfl, trivial, ?_⟩
    refine RPut_spec (L := byA b20 (Cm.putS s) :: stA G2 p s :: kn G2 :: L) at2 S (by omega) (h20.sel 4 [2, 0, 1, 3]) fun w26 b26 h26 => ⟨_, _, _, rfl, trivial, ?_⟩
    refine runV_ok (conv_by h26) ⟨_, rfl, trivial, ?_⟩
    exact fin (y := true) hne (St.sel (L := byA b26 (Cm.putS s) :: refA G2 r s :: byA b20 (Cm.putS s) :: stA G2 p s :: kn G2 :: L) h26 5 [3, 1, 4])
  · refine RPut_spec (L := byA b20 (Cm.putS s) :: stA G2 p s :: kn G2 :: L) at2 S (by omega) (h20.sel 4 [2, 0, 1, 3]) fun w26 b26 h26 => ⟨_, _, _, rfl, trivial, ⟨?_, ?_⟩⟩
    · refine runV_ok (conv_by h26.f2) ⟨_, rfl, trivial, ?_⟩
      refine runV_ok (conv_by h26) ⟨_, rfl, trivial, ?_⟩
      exact fin (y := true) hne (St.sel (L := byA b26 (Cm.putS s) :: refA G2 r s :: byA b20 (Cm.putS s) :: stA G2 p s :: kn G2 :: L) h26 5 [3, 1, 4])
    · refine runV_ok (conv_by h26) ⟨_, rfl, trivial, ?_⟩
      refine runV_ok (conv_by h26.f2) ⟨_, rfl, trivial, ?_⟩
      exact fin (y := true) hne (St.sel (L := byA b26 (Cm.putS s) :: refA G2 r s :: byA b20 (Cm.putS s) :: stA G2 p s :: kn G2 :: L) h26 5 [3, 1, 4])
end
end Go.Vc

/-
  What the functions' code comes to; printed by a program of this claim's own.
-/
namespace Go.Proofs.YtcpmfjclkdjfmaaGreat
open Go Go.Vc
set_option maxRecDepth 100000
set_option linter.unusedVariables false

/-! tollgate/tollgatelaw08.ConfSaves -/
end Go.Proofs.YtcpmfjclkdjfmaaGreat

/-
  The law ConfSaves: the loop.
-/
namespace Go.Vc
open Go Go.Proofs Go.Proofs.YtcpmfjclkdjfmaaGreat Go.RowKit
set_option maxRecDepth 100000
section
variable {E w : World} {L : List Asrt} {R : Ending → World → Prop} {F G : Fz} {s : Cm.Sm} {p p2 : Nat}
end
end Go.Vc

/-
  The law ConfSaves.
-/
namespace Go.Vc
open Go Go.Proofs Go.Proofs.YtcpmfjclkdjfmaaGreat Go.RowKit
set_option maxRecDepth 100000
section
variable {E w : World} {L : List Asrt} {R : Ending → World → Prop} {F G : Fz} {s : Cm.Sm} {p p2 : Nat}
theorem conv_by2 {b : Sl} {xs : Cm.Bs} (h : St E (byA b xs :: L) w) : (convert 56 9 (.slice b.1 b.2.1 b.2.2)).run Tryz.prog w = .ok (.string (bs xs)) w :=
  convert_string (e := 5) (by kernel_rfl) (by kernel_rfl) (by kernel_rfl) h.rdS_own
end
end Go.Vc

/-
  What the functions' code comes to; printed by a program of this claim's own.
-/
namespace Go.Proofs.YtcpmfjclkdjfmaaGreat
open Go Go.Vc
set_option maxRecDepth 100000
set_option linter.unusedVariables false

/-! tollgate/tollgatelaw08.ConfReads -/
end Go.Proofs.YtcpmfjclkdjfmaaGreat

/-
  The law ConfReads: the command of bytes, or the error.
-/
namespace Go.Vc
open Go Go.Proofs Go.Proofs.YtcpmfjclkdjfmaaGreat Go.RowKit
set_option maxRecDepth 100000
section
variable {E w : World} {L : List Asrt} {R : Ending → World → Prop} {F : Fz}
theorem slice_cap {H : Type} {enc : TypeId × Value → H} {P : Program} {W : World} {t e : TypeId} {a : Option Addr} {l c : Nat} {fuel : Nat} {x : DataW H × List MemPlace} (ht : P.underlying t = some (.slice e)) (h : DataW.trod enc P W 0 (fun _ => true) true fuel t [.slice a l c] = some x) : l ≤ c := by
  rcases DataW.trod_slice ht h with ⟨hcs, _⟩ | ⟨ad, len, cap, elems, rest, n, _, hcs, _, _, hl, _⟩
  · simp at hcs
    obtain ⟨rfl, rfl, rfl⟩ := hcs
    exact Nat.le_refl _
  · simp at hcs
    obtain ⟨rfl, rfl, rfl⟩ := hcs
    exact hl
/-- Bytes that came in. -/
theorem src_of {H : Type} {enc : TypeId × Value → H} {W : World} {a : Option Addr} {l c : Nat} {d : DataW H} {ps : List MemPlace} (h : DataW.Trod enc Tryz.prog W 0 (fun _ => true) true 56 (.slice a l c) d ps) : ∃ b, Src (fun b => W.heap[b]?) (a, l, c) b := by
  obtain ⟨m, hm⟩ := h
  obtain ⟨b, hr, hl⟩ := open_bytes Tryz.underlying56 Tryz.underlying5 (by kernel_rfl) hm
  have hn : b.length = l := by have := hr.1; simpa using this
  exact ⟨b, RdF.of_world hr, hn, slice_cap Tryz.underlying56 hm, by rw [hn]; exact hl⟩
end
end Go.Vc

/-
  What the functions' code comes to; printed by a program of this claim's own.
-/
namespace Go.Proofs.YtcpmfjclkdjfmaaGreat
open Go Go.Vc
set_option maxRecDepth 100000
set_option linter.unusedVariables false

/-! tollgate/tollgatelaw08.ConfLoads -/
def T_law08_ConfLoads_1 (s10 : Option Addr) (e11 : Int) (r12 : Option Addr) (f13 : Int) (w : World) (Kn : Bool → World → Prop) (Kp : List PanicEntry → World → Prop) : Prop :=
  if ((e11 : Int) != f13) = true then (Kn true w) else (Kn (!(s10.isNone == r12.isNone)) w)

def T_law08_ConfLoads_1_outs : Exit → Option (List (Nat × Value)) := fun x => match x with | .normal => some [(26, .bool false)] | .panic _ => some [] | _ => none

def T_law08_ConfLoads_1_ks : Nat → Bool := ksOf [17, 18, 19, 20, 21, 22, 23, 24, 25, 26]

def H_law08_ConfLoads_1 : Env → World → QT → Prop := unitHook 45 T_law08_ConfLoads_1_ks [(3, .pointer none), (4, .int .i64 0), (5, .pointer none), (6, .int .i64 0)] T_law08_ConfLoads_1_outs fun l w C => match l with | [v0, v1, v2, v3] => T_law08_ConfLoads_1 (pPtr v0) (pInt v1) (pPtr v2) (pInt v3) w (fun b15 w => C .normal [.bool b15] w) (fun ch w => C (.panic ch) [] w) | _ => False

theorem T_law08_ConfLoads_1_hl : allP (hokL Tryz.prog (hookAt []) (at_ (bodyOf Tryz.f12) [1, 1, 1, 0, 0]) 60) = (True) := by kernel_rfl
theorem T_law08_ConfLoads_1_hok : HOk Tryz.prog (hookAt []) (at_ (bodyOf Tryz.f12) [1, 1, 1, 0, 0]) 60 := HOk_of _ _ (by rw [T_law08_ConfLoads_1_hl]; exact trivial)

theorem T_law08_ConfLoads_1_eq (C : Conts) (s10 : Option Addr) (e11 : Int) (r12 : Option Addr) (f13 : Int) (w : World) : vcCode Tryz.prog (hookAt []) (at_ (bodyOf Tryz.f12) [1, 1, 1, 0, 0]) 60 ⟨[(3, .pointer s10), (4, .int .i64 e11), (5, .pointer r12), (6, .int .i64 f13)], 45, []⟩ w (unitQ T_law08_ConfLoads_1_outs C) = T_law08_ConfLoads_1 s10 e11 r12 f13 w (fun b16 w => C .normal [.bool b16] w) (fun ch w => C (.panic ch) [] w) := by kernel_rfl

theorem T_law08_ConfLoads_1_ok : UnitOk Tryz.prog H_law08_ConfLoads_1 (at_ (bodyOf Tryz.f12) [1, 1, 1, 0, 0]) 60 := unit_ok (H := (hookAt [])) (by kernel_rfl) T_law08_ConfLoads_1_hok fun l w C hk => by
    obtain ⟨v0, l_v0, rfl, k_v0, hk_v0⟩ := Kinds.cons_ hk
    obtain ⟨s10, rfl⟩ := kind_pointer k_v0
    obtain ⟨v1, l_v1, rfl, k_v1, hk_v1⟩ := Kinds.cons_ hk_v0
    obtain ⟨e11, rfl⟩ := kind_int k_v1
    obtain ⟨v2, l_v2, rfl, k_v2, hk_v2⟩ := Kinds.cons_ hk_v1
    obtain ⟨r12, rfl⟩ := kind_pointer k_v2
    obtain ⟨v3, l_v3, rfl, k_v3, hk_v3⟩ := Kinds.cons_ hk_v2
    obtain ⟨f13, rfl⟩ := kind_int k_v3
    obtain rfl := Kinds.nil_ hk_v3
    exact T_law08_ConfLoads_1_eq C s10 e11 r12 f13 w

def T_law08_ConfLoads (b1a : Option Addr) (b1l : Nat) (b1c : Nat) (w : World) (R : Ending → World → Prop) : Prop :=
  Calls Tryz.prog 33 #[.slice b1a b1l b1c] w (ret (fun r2 w3 => ∃ p4 : Option Addr, ∃ x5 : Int, r2 = .tuple #[.pointer p4, .int .i64 x5] ∧ Calls Tryz.prog 34 #[.slice b1a b1l b1c] w3 (ret (fun r6 w7 => ∃ p8 : Option Addr, ∃ x9 : Int, r6 = .tuple #[.pointer p8, .int .i64 x9] ∧ T_law08_ConfLoads_1 p4 x5 p8 x9 w7 (fun b17 w18 => if b17 = true then (R (.returned (.bool false)) w18) else (let w19 : World := w18.drew
  Calls Tryz.prog 15 #[] w19 (ret (fun r20 w21 => ∃ b22 : Bool, r20 = .bool b22 ∧ (True) ∧ if b22 = true then (if p4.isNone = true then ((True) ∧ ((True) ∧ ((True) ∧ (True) ∧ R (.returned (.bool true)) w21) ∧ ((True) ∧ (True) ∧ R (.returned (.bool true)) w21)) ∧ ((True) ∧ (True) ∧ (True) ∧ R (.returned (.bool true)) w21)) else (Calls Tryz.prog 26 #[.pointer p4, .pointer p8] w21 (ret (fun r23 w24 => ∃ b25 : Bool, r23 = .bool b25 ∧ (True) ∧ if b25 = true then ((Calls Tryz.prog 25 #[.pointer p4] w24 (ret (fun r26 w27 => ∃ s28a : Option Addr, ∃ s28l : Nat, ∃ s28c : Nat, r26 = .slice s28a s28l s28c ∧ (True) ∧ (runV Tryz.prog (convert 56 9 (.slice s28a s28l s28c)) w27 (fun r29 w30 => ∃ s31 : ByteArray, r29 = .string s31 ∧ (True) ∧ runV Tryz.prog (convert 56 9 (.slice b1a b1l b1c)) w30 (fun r32 w33 => ∃ s34 : ByteArray, r32 = .string s34 ∧ (True) ∧ R (.returned (.bool (s31.toList == s34.toList))) w33) (pan R)) (pan R)) ∧ (runV Tryz.prog (convert 56 9 (.slice b1a b1l b1c)) w27 (fun r35 w36 => ∃ s37 : ByteArray, r35 = .string s37 ∧ (True) ∧ runV Tryz.prog (convert 56 9 (.slice s28a s28l s28c)) w36 (fun r38 w39 => ∃ s40 : ByteArray, r38 = .string s40 ∧ (True) ∧ R (.returned (.bool (s40.toList == s37.toList))) w39) (pan R)) (pan R))) (pan R))) ∧ (runV Tryz.prog (convert 56 9 (.slice b1a b1l b1c)) w24 (fun r41 w42 => ∃ s43 : ByteArray, r41 = .string s43 ∧ (True) ∧ Calls Tryz.prog 25 #[.pointer p4] w42 (ret (fun r44 w45 => ∃ s46a : Option Addr, ∃ s46l : Nat, ∃ s46c : Nat, r44 = .slice s46a s46l s46c ∧ (True) ∧ runV Tryz.prog (convert 56 9 (.slice s46a s46l s46c)) w45 (fun r47 w48 => ∃ s49 : ByteArray, r47 = .string s49 ∧ (True) ∧ R (.returned (.bool (s49.toList == s43.toList))) w48) (pan R)) (pan R))) (pan R))) else (((True) ∧ ((True) ∧ (True) ∧ R (.returned (.bool false)) w24) ∧ ((True) ∧ (True) ∧ R (.returned (.bool false)) w24)) ∧ ((True) ∧ (True) ∧ (True) ∧ R (.returned (.bool false)) w24))) (pan R)))) else ((True) ∧ ((True) ∧ ((True) ∧ (True) ∧ R (.returned (.bool false)) w21) ∧ ((True) ∧ (True) ∧ R (.returned (.bool false)) w21)) ∧ ((True) ∧ (True) ∧ (True) ∧ R (.returned (.bool false)) w21))) (pan R)))) (pan R)) (pan R))) (pan R))

theorem T_law08_ConfLoads_hl : allP (hokL Tryz.prog (hookAt [(60, H_law08_ConfLoads_1)]) (bodyOf Tryz.f12) 1) = (UnitOk Tryz.prog H_law08_ConfLoads_1 (at_ (bodyOf Tryz.f12) [1, 1, 1, 0, 0]) 60 ∧ True) := by kernel_rfl

theorem T_law08_ConfLoads_eq (b1a : Option Addr) (b1l : Nat) (b1c : Nat) (w : World) (R : Ending → World → Prop) : vcCode Tryz.prog (hookAt [(60, H_law08_ConfLoads_1)]) (bodyOf Tryz.f12) 1 ⟨argEnv [.slice b1a b1l b1c] 0, Tryz.f12.ntmps, []⟩ w (finQ Tryz.prog Tryz.f12.results.toList R) = T_law08_ConfLoads b1a b1l b1c w R := by kernel_rfl

theorem T_law08_ConfLoads_b : Tryz.f12.body = some (bodyOf Tryz.f12) := by kernel_rfl
theorem T_law08_ConfLoads_s : (quietSel (bodyOf Tryz.f12) && Nat.ble 1 Tryz.f12.ntmps) = true := by kernel_rfl

theorem C_law08_ConfLoads {b1a : Option Addr} {b1l : Nat} {b1c : Nat} {w : World} {R : Ending → World → Prop} (h : T_law08_ConfLoads b1a b1l b1c w R) : Calls Tryz.prog 12 #[.slice b1a b1l b1c] w R :=
  calls_of_text (args := [.slice b1a b1l b1c]) mixed Tryz.func12 T_law08_ConfLoads_b T_law08_ConfLoads_s (HOk_of _ _ (by rw [T_law08_ConfLoads_hl]; exact ⟨T_law08_ConfLoads_1_ok, trivial⟩)) (by rw [T_law08_ConfLoads_eq]; exact h)

end Go.Proofs.YtcpmfjclkdjfmaaGreat
