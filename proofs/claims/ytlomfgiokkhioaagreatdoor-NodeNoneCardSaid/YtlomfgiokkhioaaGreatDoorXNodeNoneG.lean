/-
  Texts of this claim's own, laid into one: NodeGd, NodeGe, NodeGf, NodeGg, ConfX, NodeOp, Gq, NodeNp.
-/
import Derived.Test.YtlomfgiokkhioaaGreatDoorProg
import Derived.KernelRfl
import Derived.Test.YtlomfgiokkhioaaGreatDoorXNodeNoneA
import Derived.Test.YtlomfgiokkhioaaGreatDoorXNodeNoneB
import Derived.Test.YtlomfgiokkhioaaGreatDoorXNodeNoneC
import Derived.Test.YtlomfgiokkhioaaGreatDoorXNodeNoneD
import Derived.Test.YtlomfgiokkhioaaGreatDoorXNodeNoneE
import Derived.Test.YtlomfgiokkhioaaGreatDoorXNodeNoneF
set_option linter.all false
/-
  The reader of a message's bytes: each step ends, or gives up by a fault.
-/
namespace Go.Vc
open Go Go.Proofs Go.Proofs.YtlomfgiokkhioaaGreatDoor
set_option maxRecDepth 100000
def rdwL (q : Sl) (at_ : Nat) : List Value := [.slice q.1 q.2.1 q.2.2, .int .i64 (at_ : Int)]
def rdW (p : Nat) (q : Sl) : Asrt := fun h => ∃ at_ : Nat, at_ ≤ q.2.1 ∧ blkL p 195 (rdwL q at_) h
/-- What is given up by. -/
def flt (n : Int) : List PanicEntry := [{ v := .iface 200 (.int .i64 n), recovered := false }]
section
variable {E w : World} {L : List Asrt} {R : Ending → World → Prop} {F : Fz} {q : Sl} {b : Cm.Bs} {p : Nat}
theorem St.rdW_open (h : St E (rdW p q :: L) w) : ∃ at_ : Nat, at_ ≤ q.2.1 ∧ St E (blkL p 195 (rdwL q at_) :: L) w := by
  obtain ⟨en, x, ⟨h1, h2, d, rfl, ⟨a, ho, hs⟩, hL⟩, hl⟩ := h
  exact ⟨a, ho, en, _, ⟨h1, h2, d, rfl, hs, hL⟩, hl⟩
theorem St.rdW_mk {at_ : Nat} (h : St E (blkL p 195 (rdwL q at_) :: L) w) (ho : at_ ≤ q.2.1) : St E (rdW p q :: L) w := h.mono fun _ hx => ⟨at_, ho, hx⟩
theorem give_up {n : Int} {K : Value → World → Prop} {X : List PanicEntry → World → Prop} (h : X (flt n) w) : runV Tryz.prog (Instr.panic (.iface 200 (.int .i64 n))) w K X := h
theorem rbyte_spec {least most : Int} (hs : Src F q b) (hm : kn F ∈ L) (h : St E (rdW p q :: L) w) (k : ∀ w' c, St E (rdW p q :: L) w' → R (.returned (.int .i64 c)) w') (x : ∀ w' n, St E (rdW p q :: L) w' → R (.panicked (flt n)) w') :
    Calls Tryz.prog 72 #[.pointer (some ⟨p, 0, none⟩), .int .i64 least, .int .i64 most] w R := by
  have hlen := hs.len
  have hbig := hs.big
  obtain ⟨a, ha, h0⟩ := h.rdW_open
  refine C_wire_reader_byte ?_
  unfold T_wire_reader_byte
  intro w4
  have h4 := h0.drew
  refine ⟨_, rfl, _, rd_fld h4.at_blk rfl rfl, _, rfl, _, _, _, rd_cell h4.at_blk rfl rfl, ?_⟩
  unfold T_wire_reader_byte_1
  rw [eq_dec]
  refine ite_d (fun _ => give_up (x _ _ (h4.rdW_mk ha))) fun hne => ?_
  dsimp -zeta only
  intro w13
  have h13 := h4.drew
  refine ⟨_, rfl, _, _, _, rd_cell h13.at_blk rfl rfl, _, rfl, _, rd_fld h13.at_blk rfl rfl, by omega, by omega, ?_⟩
  obtain ⟨ad, had, hrd⟩ := byte_at hs (List.mem_cons_of_mem _ hm) h13 (i := a) (by omega)
  refine ⟨ad, had, ((b[a]'(by omega)).toNat : Int), by rw [Int.toNat_natCast]; exact hrd, ?_⟩
  unfold T_wire_reader_byte_2
  refine ite_d (fun _ => ?_) fun _ => ?_
  all_goals
    unfold T_wire_reader_byte_3
    refine ite_b (fun _ => give_up (x _ _ (h13.rdW_mk ha))) fun _ => ?_
    refine ⟨_, rfl, _, rd_fld h13.at_blk rfl rfl, _, rfl, rfl, wrOk_fld h13.at_blk (by simp [rdwL]) rfl, ?_⟩
    rw [show ((a : Int) + 1) = ((a + 1 : Nat) : Int) from by omega, wrap_nat (n := a + 1) (by omega)]
    exact k _ _ (St.rdW_mk (at_ := a + 1) (h13.wr_fld (k := 1) (v := .int .i64 ((a + 1 : Nat) : Int)) rfl) (by omega))
theorem rnumW_spec {least : Int} (hs : Src F q b) (hm : kn F ∈ L) (h : St E (rdW p q :: L) w) (k : ∀ w' (n : Nat), St E (rdW p q :: L) w' → R (.returned (.int .i64 (n : Int))) w') (x : ∀ w' n, St E (rdW p q :: L) w' → R (.panicked (flt n)) w') :
    Calls Tryz.prog 73 #[.pointer (some ⟨p, 0, none⟩), .int .i64 least] w R := by
  have hlen := hs.len
  have hbig := hs.big
  obtain ⟨a, ha, h0⟩ := h.rdW_open
  refine C_wire_reader_number ?_
  unfold T_wire_reader_number
  intro w4
  have h4 := h0.drew
  refine ⟨_, rfl, _, _, _, rd_cell h4.at_blk rfl rfl, _, rfl, _, rd_fld h4.at_blk rfl rfl, TakeNumber_spec hs (List.mem_cons_of_mem _ hm) h4 (by omega) fun w9 h9 => ⟨_, _, _, rfl, trivial, ?_⟩⟩
  unfold T_wire_reader_number_1
  cases ht : Cm.takeGo 0 0 (b.drop a) with
  | error e =>
    simp only [tkR, ne_dec]
    exact ite_d (fun _ => give_up (x _ _ (h9.rdW_mk ha))) fun hh => absurd (takeGo_err _ _ _ _ ht) hh
  | ok nr =>
    obtain ⟨n, r'⟩ := nr
    obtain ⟨i, hi1, hi2⟩ := takeGo_rest _ _ _ _ _ ht
    have hl : b.length - r'.length = a + i := by rw [hi1]; simp only [List.length_drop] at hi2 ⊢; omega
    simp only [tkR, ne_dec]
    rw [hl]
    refine ite_d (fun hh => absurd rfl hh) fun _ => ite_d (fun _ => give_up (x _ _ (h9.rdW_mk ha))) fun _ => ⟨_, rfl, rfl, wrOk_fld h9.at_blk (by simp [rdwL]) rfl, ?_⟩
    exact k _ n (St.rdW_mk (at_ := a + i) (h9.wr_fld (k := 1) (v := .int .i64 ((a + i : Nat) : Int)) rfl) (by simp only [List.length_drop] at hi2; omega))
theorem rdata_spec {most : Int} (hmost : most ≤ 32768) (hs : Src F q b) (hm : kn F ∈ L) (h : St E (rdW p q :: L) w) (k : ∀ w' (s : Sl), St E (rdW p q :: L) w' → R (.returned (.slice s.1 s.2.1 s.2.2)) w') (x : ∀ w' n, St E (rdW p q :: L) w' → R (.panicked (flt n)) w') :
    Calls Tryz.prog 75 #[.pointer (some ⟨p, 0, none⟩), .int .i64 most] w R := by
  have hlen := hs.len
  have hcap := hs.cap
  have hbig := hs.big
  refine C_wire_reader_data ?_
  unfold T_wire_reader_data
  refine rnumW_spec hs hm h (fun w4 n h4 => ⟨_, rfl, ?_⟩) fun w4 e h4 => x w4 e h4
  unfold T_wire_reader_data_1
  refine ite_d (fun _ => give_up (x _ _ h4)) fun hn => ?_
  obtain ⟨a, ha, h0⟩ := h4.rdW_open
  intro w10
  have h10 := h0.drew
  refine ⟨_, rfl, _, _, _, rd_cell h10.at_blk rfl rfl, _, rfl, _, rd_fld h10.at_blk rfl rfl, ?_⟩
  unfold T_wire_reader_data_2
  rw [show ((q.2.1 : Nat) : Int) - (a : Int) = ((q.2.1 - a : Nat) : Int) from by omega, wrap_nat (n := q.2.1 - a) (by omega)]
  refine ite_d (fun _ => give_up (x _ _ (h10.rdW_mk ha))) fun hn2 => ?_
  dsimp -zeta only
  intro w19
  have h19 := h10.drew
  refine ⟨_, rfl, _, _, _, rd_cell h19.at_blk rfl rfl, _, rfl, _, rd_fld h19.at_blk rfl rfl, _, rfl, _, rd_fld h19.at_blk rfl rfl, ?_⟩
  rw [show ((a : Int) + (n : Int)) = ((a + n : Nat) : Int) from by omega, wrap_nat (n := a + n) (by omega)]
  simp -zeta only [Int.toNat_natCast]
  refine ⟨by omega, by omega, by omega, by omega, ?_⟩
  have hro := (hs.cut (a := a) (n := n) (by omega)).at h19 (List.mem_cons_of_mem _ hm)
  obtain ⟨a', c', w', hr, h2⟩ := append_own (P := Tryz.prog) (t := 23) (ty := 23) (e := 5) (i := Tryz.t5) (z := .int .u8 0) (by kernel_rfl) (by kernel_rfl) (by kernel_rfl) (by kernel_rfl) (by decide) (c2 := q.2.2 - a) h19.ownS_nil hro (bytesV_one _) (by show (0 + (a + n - a)) * 1 ≤ _; omega) (by show 0 + (a + n - a) ≤ 9223372036854775807; omega)
  refine runV_ok hr ⟨_, _, _, rfl, trivial, ?_⟩
  have h3 := h2.drop
  refine ⟨_, rfl, _, rd_fld h3.at_blk rfl rfl, _, rfl, rfl, wrOk_fld h3.at_blk (by simp [rdwL]) rfl, ?_⟩
  rw [show ((a : Int) + (n : Int)) = ((a + n : Nat) : Int) from by omega, wrap_nat (n := a + n) (by omega)]
  exact k _ (a', _, c') (St.rdW_mk (at_ := a + n) (h3.wr_fld (k := 1) (v := .int .i64 ((a + n : Nat) : Int)) rfl) (by omega))
theorem rend_spec (h : St E (rdW p q :: L) w) (k : ∀ w', St E (rdW p q :: L) w' → R (.returned (.tuple #[])) w') (x : ∀ w' n, St E (rdW p q :: L) w' → R (.panicked (flt n)) w') :
    Calls Tryz.prog 76 #[.pointer (some ⟨p, 0, none⟩)] w R := by
  obtain ⟨a, ha, h0⟩ := h.rdW_open
  refine C_wire_reader_end ?_
  unfold T_wire_reader_end
  intro w4
  have h4 := h0.drew
  refine ⟨_, rfl, _, rd_fld h4.at_blk rfl rfl, _, rfl, _, _, _, rd_cell h4.at_blk rfl rfl, ?_⟩
  exact ite_d (fun _ => give_up (x _ _ (h4.rdW_mk ha))) fun _ => k _ (h4.rdW_mk ha)
end
end Go.Vc

/-
  An entry's bytes, and what catches a fault.
-/
namespace Go.Vc
open Go Go.Proofs Go.Proofs.YtlomfgiokkhioaaGreatDoor
set_option maxRecDepth 100000
def entL (a b c : Int) (s : Sl) : List Value := [.int .i64 a, .int .i64 b, .int .i64 c, .slice s.1 s.2.1 s.2.2]
section
variable {E w : World} {L : List Asrt} {R : Ending → World → Prop} {F : Fz} {q s s' : Sl} {b : Cm.Bs} {p g ty : Nat} {x1 x2 x3 y1 y2 y3 : Int}
theorem rd_ent (h : St E (blkL g ty (entL x1 x2 x3 s) :: L) w) : rd w ⟨g, 0, none⟩ (.agg #[.int .i64 x1, .int .i64 x2, .int .i64 x3, .slice s.1 s.2.1 s.2.2]) := rd_agg (xs := entL x1 x2 x3 s) h.at_blk (by intro i u hu; rw [Nat.zero_add]; exact hu)
theorem entL_one : ∀ u ∈ entL x1 x2 x3 s, one u = true := by
  intro u hu
  simp only [entL, List.mem_cons, List.not_mem_nil, or_false] at hu
  rcases hu with rfl | rfl | rfl | rfl <;> rfl
theorem wrOk_ent (h : St E (blkL g ty (entL x1 x2 x3 s) :: L) w) : wrOk w ⟨g, 0, none⟩ (.agg #[.int .i64 y1, .int .i64 y2, .int .i64 y3, .slice s'.1 s'.2.1 s'.2.2]) := wrOk_agg (xs := entL y1 y2 y3 s') h.at_blk (by simp [entL]) entL_one
theorem wr_ent (h : St E (blkL g ty (entL x1 x2 x3 s) :: L) w) : St E (blkL g ty (entL y1 y2 y3 s') :: L) (wr w ⟨g, 0, none⟩ (.agg #[.int .i64 y1, .int .i64 y2, .int .i64 y3, .slice s'.1 s'.2.1 s'.2.2])) := h.wr_agg0 (xs := entL y1 y2 y3 s') rfl
theorem rentry_spec (hs : Src F q b) (hm : kn F ∈ L) (h : St E (rdW p q :: L) w) (k : ∀ w' (x1 x2 x3 : Int) (s : Sl), St E (rdW p q :: L) w' → R (.returned (.agg #[.int .i64 x1, .int .i64 x2, .int .i64 x3, .slice s.1 s.2.1 s.2.2])) w') (x : ∀ w' n, St E (rdW p q :: L) w' → R (.panicked (flt n)) w') :
    Calls Tryz.prog 74 #[.pointer (some ⟨p, 0, none⟩)] w R := by
  refine C_wire_reader_entry ?_
  unfold T_wire_reader_entry
  intro w2
  have h2 : St E (blkL w.heap.size 203 (entL 0 0 0 (none, 0, 0)) :: rdW p q :: L) w2 := h.alloc _
  clear_value w2
  generalize w.heap.size = gA at *
  refine rbyte_spec hs (mem1' hm) h2.f1 (fun w4 c h4 => ⟨_, rfl, ?_⟩) fun w4 n h4 => x _ _ h4.f1.drop
  intro w6
  have h6 : St E (blkL w4.heap.size 203 (entL 0 0 0 (none, 0, 0)) :: rdW p q :: blkL gA 203 (entL 0 0 0 (none, 0, 0)) :: L) w6 := h4.alloc _
  clear_value w6
  generalize w4.heap.size = gB at *
  refine ⟨rfl, wrOk_ent (s' := (none, 0, 0)) h6, ?_⟩
  intro w7
  have h7 : St E (blkL gB 203 (entL c 0 0 (none, 0, 0)) :: rdW p q :: blkL gA 203 (entL 0 0 0 (none, 0, 0)) :: L) w7 := wr_ent (s' := (none, 0, 0)) h6
  clear_value w7
  refine rnumW_spec hs (mem1' (mem1' hm)) h7.f1 (fun w9 n h9 => ⟨_, rfl, rfl, wrOk_fld h9.f1.at_blk (by simp [entL]) rfl, ?_⟩) fun w4 n h4 => x _ _ h4.f2.drop.f1.drop
  intro w11
  have h11 : St E (blkL gB 203 (entL c n 0 (none, 0, 0)) :: rdW p q :: blkL gA 203 (entL 0 0 0 (none, 0, 0)) :: L) w11 := h9.f1.wr_fld (k := 1) (v := .int .i64 (n : Int)) rfl
  clear_value w11
  refine rnumW_spec hs (mem1' (mem1' hm)) h11.f1 (fun w13 i h13 => ⟨_, rfl, rfl, wrOk_fld h13.f1.at_blk (by simp [entL]) rfl, ?_⟩) fun w4 n h4 => x _ _ h4.f2.drop.f1.drop
  intro w15
  have h15 : St E (blkL gB 203 (entL c n i (none, 0, 0)) :: rdW p q :: blkL gA 203 (entL 0 0 0 (none, 0, 0)) :: L) w15 := h13.f1.wr_fld (k := 2) (v := .int .i64 (i : Int)) rfl
  clear_value w15
  have fin : ∀ (w23 : World) (s : Sl), St E (blkL gB 203 (entL c n i s) :: rdW p q :: blkL gA 203 (entL 0 0 0 (none, 0, 0)) :: L) w23 → ∃ x24 : Int, ∃ x25 : Int, ∃ x26 : Int, ∃ s27a : Option Addr, ∃ s27l : Nat, ∃ s27c : Nat, rd w23 (⟨gB, 0, none⟩ : Addr) (.agg #[.int .i64 x24, .int .i64 x25, .int .i64 x26, .slice s27a s27l s27c]) ∧ (.agg #[.int .i64 x24, .int .i64 x25, .int .i64 x26, .slice s27a s27l s27c] : Value).cells.size = 4 ∧ wrOk w23 (⟨gA, 0, none⟩ : Addr) (.agg #[.int .i64 x24, .int .i64 x25, .int .i64 x26, .slice s27a s27l s27c]) ∧
      ∃ x29 : Int, ∃ x30 : Int, ∃ x31 : Int, ∃ s32a : Option Addr, ∃ s32l : Nat, ∃ s32c : Nat, rd (wr w23 (⟨gA, 0, none⟩ : Addr) (.agg #[.int .i64 x24, .int .i64 x25, .int .i64 x26, .slice s27a s27l s27c])) (⟨gA, 0, none⟩ : Addr) (.agg #[.int .i64 x29, .int .i64 x30, .int .i64 x31, .slice s32a s32l s32c]) ∧ R (.returned (.agg #[.int .i64 x29, .int .i64 x30, .int .i64 x31, .slice s32a s32l s32c])) (wr w23 (⟨gA, 0, none⟩ : Addr) (.agg #[.int .i64 x24, .int .i64 x25, .int .i64 x26, .slice s27a s27l s27c])) := fun w23 s h23 => by
    have hA := wr_ent (y1 := c) (y2 := n) (y3 := i) (s' := s) h23.f2
    exact ⟨_, _, _, _, _, _, rd_ent h23, rfl, wrOk_ent h23.f2, _, _, _, _, _, _, rd_ent hA, k _ _ _ _ s hA.f2.f1.drop.f1.drop⟩
  refine ⟨_, rd_cell h15.at_blk rfl rfl, ?_⟩
  rw [eq_dec]
  refine ite_d (fun _ => ?_) fun _ => ?_
  · refine rnumW_spec hs (mem1' (mem1' hm)) h15.f1 (fun w18 m h18 => ⟨_, rfl, ?_⟩) fun w4 n h4 => x _ _ h4.f2.drop.f1.drop
    unfold T_wire_reader_entry_1
    exact ite_d (fun _ => give_up (x _ _ h18.f2.drop.f1.drop)) fun _ => fin _ _ h18.f1
  · refine rdata_spec (by omega) hs (mem1' (mem1' hm)) h15.f1 (fun w34 s h34 => ⟨_, _, _, rfl, rfl, wrOk_fld h34.f1.at_blk (by simp [entL]) rfl, ?_⟩) fun w4 n h4 => x _ _ h4.f2.drop.f1.drop
    exact fin _ s (h34.f1.wr_fld (k := 3) (v := .slice s.1 s.2.1 s.2.2) rfl)
end
end Go.Vc

/-
  What catches a fault; what is left of GetMsg behind it.
-/
namespace Go.Vc
open Go Go.Proofs Go.Proofs.YtlomfgiokkhioaaGreatDoor Go.RowKit
set_option maxRecDepth 100000
section
variable {E w : World} {L : List Asrt} {R : Ending → FrameMode → World → Prop} {R0 : Ending → World → Prop} {n m : Int} {b0 b1 : Nat} {older : List PanicEntry}
theorem fault_ne (n : Int) (w : World) : (do eqGuard .eql 20 (.tmp 5) (.const .nilIface) (.iface 200 (.int .i64 n)) .nilIface; binOp .eql 20 (.iface 200 (.int .i64 n)) .nilIface : Sem Value).run Tryz.prog w = .ok (.bool false) w := by kernel_rfl
theorem fault_as (n : Int) (w : World) : (Instr.typeAssert (.iface 200 (.int .i64 n)) 20 200 true : Sem Value).run Tryz.prog w = .ok (.tuple #[.int .i64 n, .bool true]) w := by kernel_rfl
theorem caught_run (h : St E (blkL b1 41 [.int .i64 n] :: L) w) (k : ∀ w', St E (blkL b1 41 [.int .i64 m] :: L) w' → R (.returned (.tuple #[])) (.panicking ({ v := .iface 200 (.int .i64 m), recovered := true } :: older)) w') :
    CallsD Tryz.prog 71 #[.pointer (some ⟨b1, 0, none⟩)] (.panicking ({ v := .iface 200 (.int .i64 m), recovered := false, goexit := false } :: older)) w R := by
  refine C_wire_caught ?_
  unfold T_wire_caught
  refine runV_ok (fault_ne m w) ⟨_, rfl, ?_⟩
  refine ite_b (fun h => by cases h) fun _ => ?_
  refine runV_ok (fault_as m w) ⟨_, _, rfl, _, rfl, ?_⟩
  refine ite_b (fun _ => ⟨_, rfl, rfl, wrOk_cell h.at_blk (by simp) rfl, ?_⟩) fun h => by cases h
  exact k _ (h.wr_cell (off := 0) (v := .int .i64 m) rfl)
theorem leave_eq (a0 a1 : Addr) (n : Nat) (w : World) (R : Ending → World → Prop) : resL Tryz.prog ⟨[(2, .pointer (some a0)), (3, .pointer (some a1))], n, []⟩ w Tryz.f33.results.toList (fun l => R (.returned (oneOf l)) w) = (∃ xs : Array Value, xs.size = 12 ∧ rd w a0 (.agg xs) ∧ ∃ x : Int, rd w a1 (.int .i64 x) ∧ R (.returned (.tuple #[.agg xs, .int .i64 x])) w) := by kernel_rfl
abbrev GetK (E : World) (L : List Asrt) (R0 : Ending → World → Prop) : Prop := ∀ (w' : World) (xs : List Value) (n : Int), xs.length = 12 → (∀ u ∈ xs, one u = true) → St E L w' → R0 (.returned (.tuple #[.agg ⟨xs⟩, .int .i64 n])) w'
theorem leave_fin {tmps : Array Value} {xs : List Value} (hag : agree tmps [2, 3] [.pointer (some ⟨b0, 0, none⟩), .pointer (some ⟨b1, 0, none⟩)]) (h : St E (blkL b0 114 xs :: blkL b1 41 [.int .i64 n] :: L) w) (hl : xs.length = 12) (h1 : ∀ u ∈ xs, one u = true) (k : GetK E L R0) :
    Leaves Tryz.prog Tryz.f33 tmps R0 [] .returning w := by
  obtain ⟨v, hv, hR⟩ := results_run (P := Tryz.prog) (fn := Tryz.f33) (a := { tmps, defers := [] }) (e := ⟨[(2, .pointer (some ⟨b0, 0, none⟩)), (3, .pointer (some ⟨b1, 0, none⟩))], tmps.size, []⟩) (R := fun v => R0 (.returned v) w) ⟨rfl, rfl, fun t v hv => by
    simp only [find_cons] at hv
    split at hv
    · rename_i e; subst e; injection hv with hv; subst hv; exact hag.1
    · split at hv
      · rename_i e; subst e; injection hv with hv; subst hv; exact hag.2.1
      · cases hv⟩ (w := w) (by
    rw [leave_eq]
    exact ⟨⟨xs⟩, hl, rd_agg (xs := xs) h.at_blk (by intro i u hu; rw [Nat.zero_add]; exact hu), n, rd_cell h.f1.at_blk rfl rfl, k _ _ _ hl h1 h.drop.drop⟩)
  exact ⟨v, hv, hR⟩
theorem caught_fine : Ev.CaughtOk Tryz.prog 71 := Ev.caught_fine
abbrev dfr (b1 : Nat) : List Deferred := [{ target := .fn (.func 71) #[], args := #[.pointer (some ⟨b1, 0, none⟩)] }]
theorem leave_panic {xs : List Value} (h : St E (blkL b0 114 xs :: blkL b1 41 [.int .i64 n] :: L) w) (hl : xs.length = 12) (h1 : ∀ u ∈ xs, one u = true) (k : GetK E L R0) :
    leaveR Tryz.prog Tryz.f33 [2, 3] R0 (dfr b1) (some (flt m)) [.pointer (some ⟨b0, 0, none⟩), .pointer (some ⟨b1, 0, none⟩)] w := by
  intro tmps hag
  refine leaves_cons (f := 71) (args := #[.pointer (some ⟨b1, 0, none⟩)]) (by simp [modeOf]) (run_callFunc (by kernel_rfl) _ w) ?_
  exact caught_run h.f1 fun w' h' => leave_fin hag h'.f1 hl h1 k
theorem leave_ret {xs : List Value} (h : St E (blkL b0 114 xs :: blkL b1 41 [.int .i64 n] :: L) w) (hl : xs.length = 12) (h1 : ∀ u ∈ xs, one u = true) (k : GetK E L R0) :
    leaveR Tryz.prog Tryz.f33 [2, 3] R0 (dfr b1) none [.pointer (some ⟨b0, 0, none⟩), .pointer (some ⟨b1, 0, none⟩)] w := by
  intro tmps hag
  refine leaves_cons (f := 71) (args := #[.pointer (some ⟨b1, 0, none⟩)]) (by simp [modeOf]) (run_callFunc (by kernel_rfl) _ w) ?_
  refine CallsD.mono (caught_fine.2 #[.pointer (some ⟨b1, 0, none⟩)] w (by simp)) fun e' u' w' ⟨⟨v, hv⟩, hu, hse, hk⟩ => ?_
  subst hv; subst hu
  exact leave_fin hag (h.same hse hk) hl h1 k
end
end Go.Vc

/-
  GetMsg ends, and leaves all as it is: what it tells may be anything.
-/
namespace Go.Vc
open Go Go.Proofs Go.Proofs.YtlomfgiokkhioaaGreatDoor Go.RowKit
set_option maxRecDepth 100000
def msgL (f : Nat → Int) (ok : Bool) (s d : Sl) : List Value := [.int .i64 (f 0), .int .i64 (f 1), .int .i64 (f 2), .int .i64 (f 3), .int .i64 (f 4), .int .i64 (f 5), .int .i64 (f 6), .int .i64 (f 7), .int .i64 (f 8), .bool ok, .slice s.1 s.2.1 s.2.2, .slice d.1 d.2.1 d.2.2]
def upd (f : Nat → Int) (k : Nat) (n : Int) : Nat → Int := fun j => if j = k then n else f j
def ptrL (g : Nat) : List Value := (List.range 6).map fun i => .pointer (some ((⟨g, 0, none⟩ : Addr).add (i + 3)))
section
variable {E w : World} {L : List Asrt} {R : Ending → World → Prop} {F : Fz} {q s d s' : Sl} {b : Cm.Bs} {p g pp ty b0 b1 : Nat} {f : Nat → Int} {ok : Bool} {n : Int}
theorem nine {k : Nat} (hk : k < 9) : k = 0 ∨ k = 1 ∨ k = 2 ∨ k = 3 ∨ k = 4 ∨ k = 5 ∨ k = 6 ∨ k = 7 ∨ k = 8 := by omega
theorem msg_set {k : Nat} (hk : k < 9) : (msgL f ok s d).set k (.int .i64 n) = msgL (upd f k n) ok s d := by
  rcases nine hk with rfl | rfl | rfl | rfl | rfl | rfl | rfl | rfl | rfl <;> simp [msgL, upd]
theorem msgL_one : ∀ u ∈ msgL f ok s d, one u = true := by
  intro u hu
  simp only [msgL, List.mem_cons, List.not_mem_nil, or_false] at hu
  rcases hu with rfl | rfl | rfl | rfl | rfl | rfl | rfl | rfl | rfl | rfl | rfl | rfl <;> rfl
theorem msg_ok {k : Nat} (h : St E (blkL g ty (msgL f ok s d) :: L) w) (hk : k < 12) {v : Value} (ho : one v = true) : wrOk w ((⟨g, 0, none⟩ : Addr).add k) v := wrOk_fld h.at_blk (by simp [msgL]; omega) ho
theorem msg_wr {k : Nat} (h : St E (blkL g ty (msgL f ok s d) :: L) w) (hk : k < 9) : St E (blkL g ty (msgL (upd f k n) ok s d) :: L) (wr w ((⟨g, 0, none⟩ : Addr).add k) (.int .i64 n)) := by
  have := h.wr_fld (k := k) (v := .int .i64 n) rfl
  rw [msg_set hk] at this
  exact this
theorem msg_wr0 (h : St E (blkL g ty (msgL f ok s d) :: L) w) : St E (blkL g ty (msgL (upd f 0 n) ok s d) :: L) (wr w ⟨g, 0, none⟩ (.int .i64 n)) := msg_wr (k := 0) h (by decide)
theorem ptr_at {j : Nat} (hj : j < 6) : (ptrL g)[j * 1]? = some (.pointer (some ((⟨g, 0, none⟩ : Addr).add (j + 3)))) := by simp [ptrL, hj]
theorem loop1 {Kn : World → Prop} {Kp : List PanicEntry → World → Prop} (hs : Src F q b) (hm : kn F ∈ L)
    (hk : ∀ w' f, St E (rdW p q :: blkL g 114 (msgL f ok s d) :: blkL pp 197 (ptrL g) :: L) w' → Kn w') (hx : ∀ w' n, St E L w' → Kp (flt n) w')
    (h : St E (rdW p q :: blkL g 114 (msgL f ok s d) :: blkL pp 197 (ptrL g) :: L) w) : T_wire_GetMsg_1 0 ⟨p, 0, none⟩ (some ⟨pp, 0, none⟩) 6 6 ((6 : Nat) : Int) w Kn Kp := by
  unfold T_wire_GetMsg_1
  intro X hX
  have go : ∀ (m j : Nat) (f : Nat → Int) (w : World), m + j = 6 → St E (rdW p q :: blkL g 114 (msgL f ok s d) :: blkL pp 197 (ptrL g) :: L) w → X (j : Int) w := by
    intro m
    induction m with
    | zero =>
      intro j f w hj h
      refine hX _ _ ?_
      unfold T_wire_GetMsg_1_body
      exact ite_d (fun hh => absurd hh (by omega)) fun _ => hk _ _ h
    | succ m ih =>
      intro j f w hj h
      refine hX _ _ ?_
      unfold T_wire_GetMsg_1_body
      refine ite_d (fun _ => ?_) fun hh => absurd hh (by omega)
      refine ⟨by omega, by omega, _, rfl, some ((⟨g, 0, none⟩ : Addr).add (j + 3)), ?_, ?_⟩
      · rw [Int.toNat_natCast]
        exact rd_fld h.f2.at_blk (ptr_at (by omega)) rfl
      · refine rnumW_spec hs (mem1' (mem1' hm)) h (fun w30 n h30 => ⟨_, rfl, _, rfl, rfl, msg_ok h30.f1 (by omega) rfl, ?_⟩) fun w' n h' => hx _ _ h'.drop.drop.drop
        rw [show ((j : Int) + 1) = ((j + 1 : Nat) : Int) from by omega, wrap_nat (n := j + 1) (by omega)]
        exact ih (j + 1) _ _ (by omega) (msg_wr h30.f1 (by omega)).f1
  exact go 6 0 f w rfl h
theorem ent_bytes : Tryz.t203.bytes = 48 := by kernel_rfl
theorem ent_size : Tryz.t203.size = 4 := by kernel_rfl
theorem loop3 {Kn : World → Prop} {Kp : List PanicEntry → World → Prop} {n : Nat} (hn : n ≤ 8) (hs : Src F q b) (hm : kn F ∈ L)
    (hk : ∀ w' s, St E (rdW p q :: blkL g 114 (msgL f ok s d) :: L) w' → Kn w') (hx : ∀ w' n, St E L w' → Kp (flt n) w')
    (h : St E (rdW p q :: blkL g 114 (msgL f ok (none, 0, 0) d) :: L) w) : T_wire_GetMsg_3 0 ⟨p, 0, none⟩ ⟨g, 0, none⟩ (n : Int) w Kn Kp := by
  unfold T_wire_GetMsg_3
  intro X hX
  have go : ∀ (m j : Nat) (s : Sl) (xs : List Value) (w : World), m + j = n → s.2.1 = j → St E (rdW p q :: blkL g 114 (msgL f ok s d) :: ownS s.1 s.2.1 s.2.2 203 4 xs :: L) w → X (j : Int) w := by
    intro m
    induction m with
    | zero =>
      intro j s xs w hj hsl h
      refine hX _ _ ?_
      unfold T_wire_GetMsg_3_body
      exact ite_d (fun hh => absurd hh (by omega)) fun _ => hk _ s h.f2.drop
    | succ m ih =>
      intro j s xs w hj hsl h
      refine hX _ _ ?_
      unfold T_wire_GetMsg_3_body
      refine ite_d (fun _ => ?_) fun hh => absurd hh (by omega)
      intro w46
      have h46 := h.drew
      refine ⟨s.1, s.2.1, s.2.2, rd_fld h46.f1.at_blk rfl rfl, ?_⟩
      refine rentry_spec hs (mem1' (mem1' hm)) h46 (fun w49 x1 x2 x3 s' h49 => ⟨_, _, _, _, _, _, rfl, ⟨rd_fld h49.f1.at_blk rfl rfl, trivial⟩, ?_⟩) fun w' n h' => hx _ _ h'.drop.drop.drop
      intro w54
      have h54 : St E (blkL w49.heap.size 203 (entL x1 x2 x3 s') :: rdW p q :: blkL g 114 (msgL f ok s d) :: ownS s.1 s.2.1 s.2.2 203 4 xs :: L) w54 := h49.alloc _
      clear_value w54
      generalize w49.heap.size = ge at *
      refine ⟨⟨rd_fld h54.f2.at_blk rfl rfl, trivial⟩, ?_⟩
      have h55 : St E (ownS (some ⟨ge, 0, none⟩) 1 1 203 4 (entL x1 x2 x3 s') :: rdW p q :: blkL g 114 (msgL f ok s d) :: ownS s.1 s.2.1 s.2.2 203 4 xs :: L) w54 :=
        St.ownS_mk (rest := []) (by rw [List.append_nil]; exact h54) rfl (Nat.le_refl _) (by decide) rfl
      obtain ⟨a', c', w', hr, hw⟩ := append_own (P := Tryz.prog) (t := 44) (ty := 44) (e := 203) (i := Tryz.t203) (z := .agg #[.int .i64 0, .int .i64 0, .int .i64 0, .slice none 0 0]) (by kernel_rfl) (by kernel_rfl) (by kernel_rfl) (by kernel_rfl) (by decide) (c2 := 1) h55.f3 (St.rdS_own h55) entL_one
        (by rw [ent_bytes]; omega) (by unfold maxLen; omega)
      rw [ent_size] at hw
      refine runV_ok hr ⟨_, _, _, rfl, trivial, rfl, wrOk_fld (hw.f3).at_blk (by simp [msgL]) rfl, ?_⟩
      intro w58
      refine ⟨trivial, ?_⟩
      rw [show ((j : Int) + 1) = ((j + 1 : Nat) : Int) from by omega, wrap_nat (n := j + 1) (by omega)]
      have h58 : St E (blkL g 114 (msgL f ok (a', s.2.1 + 1, c') d) :: ownS a' (s.2.1 + 1) c' 203 4 (xs ++ entL x1 x2 x3 s') :: ownS (some ⟨ge, 0, none⟩) 1 1 203 4 (entL x1 x2 x3 s') :: rdW p q :: L) w58 := hw.f3.wr_fld (k := 10) (v := .slice a' (s.2.1 + 1) c') rfl
      exact ih (j + 1) (a', s.2.1 + 1, c') _ w58 (by omega) (by show s.2.1 + 1 = j + 1; omega) (h58.f2.drop.f2)
  exact go n 0 (none, 0, 0) [] w rfl rfl (h.ownS_nil (e := 203) (sz := 4)).b2
abbrev nl : Sl := (none, 0, 0)
theorem GetMsg_spec (hs : Src F q b) (hm : kn F ∈ L) (h : St E L w) (k : GetK E L R) : Calls Tryz.prog 33 #[.slice q.1 q.2.1 q.2.2] w R := by
  refine C_wire_GetMsg ?_
  unfold T_wire_GetMsg
  intro w2
  have h2 : St E (blkL w.heap.size 114 (msgL (fun _ => 0) false nl nl) :: L) w2 := h.alloc _
  clear_value w2
  generalize w.heap.size = b0 at *
  intro w3
  have h3 : St E (blkL w2.heap.size 41 [.int .i64 0] :: blkL b0 114 (msgL (fun _ => 0) false nl nl) :: L) w3 := h2.alloc _
  clear_value w3
  generalize w2.heap.size = b1 at *
  intro w4
  have h4 : St E (rdW w3.heap.size q :: blkL b1 41 [.int .i64 0] :: blkL b0 114 (msgL (fun _ => 0) false nl nl) :: L) w4 := St.rdW_mk (at_ := 0) (h3.alloc (.cells ⟨rdwL q 0⟩ 195)) (Nat.zero_le _)
  clear_value w4
  generalize w3.heap.size = p at *
  intro w5
  have h5 : St E (blkL w4.heap.size 114 (msgL (fun _ => 0) false nl nl) :: rdW p q :: blkL b1 41 [.int .i64 0] :: blkL b0 114 (msgL (fun _ => 0) false nl nl) :: L) w5 := h4.alloc _
  clear_value w5
  generalize w4.heap.size = g at *
  have hA : kn F ∈ blkL b1 41 [.int .i64 0] :: blkL b0 114 (msgL (fun _ => 0) false nl nl) :: L := mem1' (mem1' hm)
  have pn : ∀ (w' : World) (n : Int), St E (blkL b1 41 [.int .i64 0] :: blkL b0 114 (msgL (fun _ => 0) false nl nl) :: L) w' → leaveR Tryz.prog Tryz.f33 [2, 3] R (dfr b1) (some (flt n)) [.pointer (some ⟨b0, 0, none⟩), .pointer (some ⟨b1, 0, none⟩)] w' :=
    fun w' n h' => leave_panic h'.f1 rfl msgL_one k
  have rn : ∀ (w' : World) (f : Nat → Int) (ok : Bool) (s d : Sl), St E (blkL g 114 (msgL f ok s d) :: blkL b1 41 [.int .i64 0] :: blkL b0 114 (msgL (fun _ => 0) false nl nl) :: L) w' →
      wrOk w' ⟨b0, 0, none⟩ (.agg ⟨msgL f ok s d⟩) ∧ (Value.int .i64 0).cells.size = 1 ∧ wrOk (wr w' ⟨b0, 0, none⟩ (.agg ⟨msgL f ok s d⟩)) ⟨b1, 0, none⟩ (.int .i64 0) ∧
      leaveR Tryz.prog Tryz.f33 [2, 3] R (dfr b1) none [.pointer (some ⟨b0, 0, none⟩), .pointer (some ⟨b1, 0, none⟩)] (wr (wr w' ⟨b0, 0, none⟩ (.agg ⟨msgL f ok s d⟩)) ⟨b1, 0, none⟩ (.int .i64 0)) := fun w' f ok s d h' => by
    have h1 : St E (blkL b0 114 (msgL f ok s d) :: blkL b1 41 [.int .i64 0] :: L) (wr w' ⟨b0, 0, none⟩ (.agg ⟨msgL f ok s d⟩)) := (h'.f2.wr_agg0 (xs := msgL f ok s d) rfl).b2.drop.f1
    exact ⟨wrOk_agg (xs := msgL f ok s d) h'.f2.at_blk (by simp [msgL]) msgL_one, rfl, wrOk_cell h1.f1.at_blk (by simp) rfl, leave_ret (xs := msgL f ok s d) (n := 0) (h1.f1.wr_cell (off := 0) (v := .int .i64 0) rfl).f1 rfl msgL_one k⟩
  generalize blkL b1 41 [.int .i64 0] :: blkL b0 114 (msgL (fun _ => 0) false nl nl) :: L = L2 at *
  refine rbyte_spec hs (mem1' hA) h5.f1 (fun w7 c1 h7 => ⟨_, rfl, rfl, wrOk_cell h7.f1.at_blk (by simp [msgL]) rfl, ?_⟩) fun w' n h' => pn _ _ h'.drop.drop
  intro w9
  have h9 := msg_wr0 (n := c1) h7.f1
  refine rbyte_spec hs (mem1' hA) h9.f1 (fun w11 c2 h11 => ⟨_, rfl, ?_⟩) fun w' n h' => pn _ _ h'.drop.drop
  refine rbyte_spec hs (mem1' hA) h11 (fun w14 c3 h14 => ⟨_, rfl, rfl, msg_ok h14.f1 (by decide) rfl, ?_⟩) fun w' n h' => pn _ _ h'.drop.drop
  intro w16
  have h16 := msg_wr (k := 1) (n := c2) h14.f1 (by decide)
  refine ⟨rfl, msg_ok h16 (by decide) rfl, ?_⟩
  intro w17
  have h17 := msg_wr (k := 2) (n := c3) h16 (by decide)
  refine rbyte_spec hs (mem1' hA) h17.f1 (fun w19 c4 h19 => ⟨_, rfl, rfl, msg_ok h19.f1 (by decide) rfl, ?_⟩) fun w' n h' => pn _ _ h'.drop.drop
  intro w21
  have h21 : St E (blkL g 114 (msgL (upd (upd (upd (fun _ => 0) 0 c1) 1 c2) 2 c3) (c4 == 1) nl nl) :: rdW p q :: L2) w21 := h19.f1.wr_fld (k := 9) (v := .bool (c4 == 1)) rfl
  clear_value w21
  intro w22
  have h22 : St E (blkL w21.heap.size 197 (ptrL g) :: blkL g 114 (msgL (upd (upd (upd (fun _ => 0) 0 c1) 1 c2) 2 c3) (c4 == 1) nl nl) :: rdW p q :: L2) w22 := h21.alloc _
  clear_value w22
  generalize w21.heap.size = pp at *
  refine loop1 hs hA (fun w34 f h34 => ?_) (fun w' n h' => pn _ _ h') h22.f1.f2
  refine rnumW_spec hs (mem1' (mem1' hA)) h34 (fun w36 n h36 => ⟨_, rfl, ?_⟩) fun w' n h' => pn _ _ h'.drop.drop.drop
  unfold T_wire_GetMsg_2
  refine ite_d (fun _ => give_up (pn _ _ h36.drop.drop.drop)) fun hn => ?_
  refine loop3 (by omega) hs (mem1' hA) (fun w59 s h59 => ?_) (fun w' n h' => pn _ _ h'.drop) h36
  refine rdata_spec (by omega) hs (mem1' (mem1' hA)) h59 (fun w61 d h61 => ⟨_, _, _, rfl, rfl, msg_ok h61.f1 (by decide) rfl, ?_⟩) fun w' n h' => pn _ _ h'.drop.drop.drop
  intro w63
  have h63 : St E (blkL g 114 (msgL f (c4 == 1) s d) :: rdW p q :: blkL pp 197 (ptrL g) :: L2) w63 := h61.f1.wr_fld (k := 11) (v := .slice d.1 d.2.1 d.2.2) rfl
  refine rend_spec h63.f1 (fun w65 h65 => ?_) fun w' n h' => pn _ _ h'.drop.drop.drop
  obtain ⟨r1, r2, r3, r4⟩ := rn _ _ _ _ _ h65.drop.f1.drop
  exact ⟨rfl, ⟨msgL f (c4 == 1) s d⟩, rfl, rd_agg (xs := msgL f (c4 == 1) s d) h65.f1.at_blk (by intro i u hu; rw [Nat.zero_add]; exact hu), rfl, r1, r2, r3, r4⟩
end
end Go.Vc

/-
  Commands that came in: what stands in them.
-/
namespace Go.Vc
open Go Go.Proofs Go.Proofs.YtlomfgiokkhioaaGreatDoor
set_option maxRecDepth 100000
section
variable {H : Type} {enc : TypeId × Value → H} {W : World}
theorem trod_float0 {t : TypeId} {fk : FloatKind} (ht : Tryz.prog.underlying t = some (.float fk)) {fuel : Nat} {cs : List Value} {x : DataW H × List MemPlace} (h : DataW.trod enc Tryz.prog W 0 (fun _ => true) true fuel t cs = some x) : ∃ b, cs = [.float fk b] ∧ x = (.lit (.float fk b), []) ∧ (Lit.float fk b).wf = true := by
  cases fuel with
  | zero => simp [DataW.trod] at h
  | succ n =>
    unfold DataW.trod at h
    rw [ht] at h
    split at h <;> simp_all
theorem trod_float {t : TypeId} (ht : Tryz.prog.underlying t = some (.float .f64)) {fuel : Nat} {cs : List Value} {x : DataW H × List MemPlace} (h : DataW.trod enc Tryz.prog W 0 (fun _ => true) true fuel t cs = some x) : ∃ b, cs = [.float .f64 b] ∧ b < two64 := by
  obtain ⟨b, h1, _, h2⟩ := trod_float0 ht h
  exact ⟨b, h1, of_decide_eq_true h2⟩
theorem sl_of {t e : TypeId} (ht : Tryz.prog.underlying t = some (.slice e)) {fuel : Nat} {v : Value} {x : DataW H × List MemPlace} (h : DataW.trod enc Tryz.prog W 0 (fun _ => true) true fuel t [v] = some x) : ∃ a l c, v = .slice a l c ∧ l ≤ c := by
  rcases DataW.trod_slice ht h with ⟨hcs, _⟩ | ⟨ad, len, cap, _, _, _, _, hcs, _, _, hl, _⟩
  · simp at hcs; exact ⟨_, _, _, hcs, Nat.le_refl _⟩
  · simp at hcs; exact ⟨_, _, _, hcs, hl⟩
/-- Targets that came in. -/
theorem open_tgs {a : Option Addr} {l c : Nat} {fuel : Nat} {x : DataW H × List MemPlace} (h : DataW.trod enc Tryz.prog W 0 (fun _ => true) true fuel 32 [.slice a l c] = some x) :
    ∃ tg : List Cm.Tgt, RdS W a l 2 (tg.flatMap tV) ∧ okTs tg := by
  obtain ⟨tg, h1, h2, h3⟩ := open_elems (β := Cm.Tgt) (f := tV) okT tV_len (by decide) Tryz.underlying32 (by kernel_rfl) (fun n cs x hx => by
    obtain ⟨xs, m, _, _, hcl, hxl, hfs⟩ := DataW.trod_struct Tryz.underlying143 hx
    rw [show Tryz.prog.cellsOf 143 = 2 by kernel_rfl] at hcl
    have hxl2 : xs.length = 2 := hxl
    have cs_ : Tryz.prog.cellsOf 9 = 1 := by kernel_rfl
    have cf : Tryz.prog.cellsOf 24 = 1 := by kernel_rfl
    match cs, hcl with
    | [v0, v1], _ =>
      have f0 := hfs 0 _ rfl
      have f1 := hfs 1 _ rfl
      simp only [List.getElem_toArray, List.getElem_cons_zero, List.getElem_cons_succ, cs_, cf, List.drop_zero, List.drop_succ_cons, List.take_succ_cons, List.take_zero] at f0 f1
      rw [List.getElem?_eq_getElem (by omega)] at f0 f1
      obtain ⟨s0, e0, _, w0⟩ := DataW.trod_string Tryz.underlying9 f0
      obtain ⟨b1, e1, w1⟩ := trod_float Tryz.underlying24 f1
      simp at e0 e1
      subst e0 e1
      refine ⟨⟨s0.data.toList, b1⟩, by unfold tV; dsimp only; rw [bs_of], ?_, w1⟩
      have : s0.data.toList.length = s0.size := Array.length_toList
      show s0.data.toList.length ≤ huge
      rw [this]; exact w0) h
  refine ⟨tg, h1, ?_, h3⟩
  have := h1.count tV_len (by decide)
  rw [this]; exact h2
/-- A command that came in. -/
theorem open_cmd {fuel : Nat} {cs : List Value} {x : DataW H × List MemPlace} (hx : DataW.trod enc Tryz.prog W 0 (fun _ => true) true fuel 34 cs = some x) :
    ∃ d : Cm.Cmd × Sl, cs = cmdL d.1 d.2 ∧ okC d.1 ∧ RdS W d.2.1 d.2.2.1 2 (d.1.tg.flatMap tV) := by
  obtain ⟨xs, m, _, _, hcl, hxl, hfs⟩ := DataW.trod_struct Tryz.underlying34 hx
  rw [show Tryz.prog.cellsOf 34 = 8 by kernel_rfl] at hcl
  have hxl8 : xs.length = 8 := hxl
  have c1 : Tryz.prog.cellsOf 9 = 1 := by kernel_rfl
  have c2 : Tryz.prog.cellsOf 3 = 1 := by kernel_rfl
  have c3 : Tryz.prog.cellsOf 31 = 1 := by kernel_rfl
  have c4 : Tryz.prog.cellsOf 32 = 1 := by kernel_rfl
  match cs, hcl with
  | [v0, v1, v2, v3, v4, v5, v6, v7], _ =>
    have f0 := hfs 0 _ rfl
    have f1 := hfs 1 _ rfl
    have f2 := hfs 2 _ rfl
    have f3 := hfs 3 _ rfl
    have f4 := hfs 4 _ rfl
    have f5 := hfs 5 _ rfl
    have f6 := hfs 6 _ rfl
    have f7 := hfs 7 _ rfl
    simp only [List.getElem_toArray, List.getElem_cons_zero, List.getElem_cons_succ, c1, c2, c3, c4, List.drop_zero, List.drop_succ_cons, List.take_succ_cons, List.take_zero] at f0 f1 f2 f3 f4 f5 f6 f7
    rw [List.getElem?_eq_getElem (by omega)] at f0 f1 f2 f3 f4 f5 f6 f7
    obtain ⟨k0, e0, _⟩ := DataW.trod_int Tryz.underlying31 f0
    obtain ⟨k1, e1, _⟩ := DataW.trod_int Tryz.underlying3 f1
    obtain ⟨k2, e2, _⟩ := DataW.trod_int Tryz.underlying3 f2
    obtain ⟨k3, e3, _⟩ := DataW.trod_int Tryz.underlying3 f3
    obtain ⟨s4, e4, _, w4⟩ := DataW.trod_string Tryz.underlying9 f4
    obtain ⟨s5, e5, _, w5⟩ := DataW.trod_string Tryz.underlying9 f5
    obtain ⟨s6, e6, _, w6⟩ := DataW.trod_string Tryz.underlying9 f6
    obtain ⟨a7, l7, c7, rfl, _⟩ := sl_of Tryz.underlying32 f7
    obtain ⟨tg, h7, o7⟩ := open_tgs f7
    simp at e0 e1 e2 e3 e4 e5 e6
    subst e0 e1 e2 e3 e4 e5 e6
    have len : ∀ s : ByteArray, s.data.toList.length = s.size := fun s => Array.length_toList
    exact ⟨(⟨k0, k1, k2, k3, s4.data.toList, s5.data.toList, s6.data.toList, tg⟩, (a7, l7, c7)), by unfold cmdL; dsimp only; rw [bs_of, bs_of, bs_of], ⟨by show s4.data.toList.length ≤ huge; rw [len]; exact w4, by show s5.data.toList.length ≤ huge; rw [len]; exact w5, by show s6.data.toList.length ≤ huge; rw [len]; exact w6, o7⟩, h7⟩
theorem cmdL_len (d : Cm.Cmd × Sl) : (cmdL d.1 d.2).length = 8 := rfl
/-- Commands that came in. -/
def CmdsR (F : Fz) (a : Option Addr) (l : Nat) (ds : List (Cm.Cmd × Sl)) : Prop := RdF F a l 8 (ds.flatMap fun d => cmdL d.1 d.2) ∧ ∀ d ∈ ds, okC d.1 ∧ RdF F d.2.1 d.2.2.1 2 (d.1.tg.flatMap tV)
theorem open_cmds {a : Option Addr} {l c : Nat} {d : DataW H} {ps : List MemPlace} (h : DataW.Trod enc Tryz.prog W 0 (fun _ => true) true 22 (.slice a l c) d ps) : ∃ ds, CmdsR (fun b => W.heap[b]?) a l ds ∧ l ≤ maxLen := by
  obtain ⟨fuel, hf⟩ := h
  obtain ⟨ds, h1, h2, h3⟩ := open_elems (β := Cm.Cmd × Sl) (f := fun d => cmdL d.1 d.2) (fun d => okC d.1 ∧ RdS W d.2.1 d.2.2.1 2 (d.1.tg.flatMap tV)) cmdL_len (by decide) Tryz.underlying22 (by kernel_rfl) (fun n cs x hx => by
    obtain ⟨d, e, h1, h2⟩ := open_cmd hx
    exact ⟨d, e, h1, h2⟩) hf
  exact ⟨ds, ⟨RdF.of_world h1, fun d hd => ⟨(h3 d hd).1, RdF.of_world (h3 d hd).2⟩⟩, h2⟩
/-- A command that came in by itself. -/
theorem open_one {cs : Array Value} {d : DataW H} {ps : List MemPlace} (h : DataW.Trod enc Tryz.prog W 0 (fun _ => true) true 34 (.agg cs) d ps) : ∃ (c : Cm.Cmd) (q : Sl), (.agg cs : Value) = cmdV c q ∧ okC c ∧ RdF (fun b => W.heap[b]?) q.1 q.2.1 2 (c.tg.flatMap tV) := by
  obtain ⟨fuel, hf⟩ := h
  obtain ⟨d, e, h1, h2⟩ := open_cmd (cs := cs.toList) hf
  refine ⟨d.1, d.2, ?_, h1, RdF.of_world h2⟩
  unfold cmdV
  rw [← e]
end
end Go.Vc

/-
  A deed that came in: what stands in it.
-/
namespace Go.Vc
open Go Go.Proofs Go.Proofs.YtlomfgiokkhioaaGreatDoor
set_option maxRecDepth 100000
structure DeedI where
  kind : Int
  draw : Int
  bq : Sl
  cmd : Cm.Cmd
  cq : Sl
  chd : Int
  chn : Int
  tag : Int
  keep : Sl
  float : Nat
def deedL (d : DeedI) : List Value := [.int .i64 d.kind, .int .i64 d.draw, .slice d.bq.1 d.bq.2.1 d.bq.2.2] ++ cmdL d.cmd d.cq ++ [.int .i64 d.chd, .int .i64 d.chn, .int .i64 d.tag, .slice d.keep.1 d.keep.2.1 d.keep.2.2, .float .f64 d.float]
section
variable {H : Type} {enc : TypeId × Value → H} {W : World}
theorem open_deed {cs : Array Value} {d : DataW H} {ps : List MemPlace} (h : DataW.Trod enc Tryz.prog W 0 (fun _ => true) true 40 (.agg cs) d ps) :
    ∃ (x : DeedI) (b : Cm.Bs), cs = ⟨deedL x⟩ ∧ okC x.cmd ∧ RdF (fun b => W.heap[b]?) x.cq.1 x.cq.2.1 2 (x.cmd.tg.flatMap tV) ∧ Src (fun b => W.heap[b]?) x.bq b := by
  obtain ⟨fuel, hf⟩ := h
  have hf : DataW.trod enc Tryz.prog W 0 (fun _ => true) true fuel 40 cs.toList = some (d, ps) := hf
  obtain ⟨xs, m, _, _, hcl, hxl, hfs⟩ := DataW.trod_struct Tryz.underlying40 hf
  rw [show Tryz.prog.cellsOf 40 = 16 by kernel_rfl] at hcl
  have hxl8 : xs.length = 8 := hxl
  have c2 : Tryz.prog.cellsOf 3 = 1 := by kernel_rfl
  have c3 : Tryz.prog.cellsOf 23 = 1 := by kernel_rfl
  have c4 : Tryz.prog.cellsOf 34 = 8 := by kernel_rfl
  have c5 : Tryz.prog.cellsOf 37 = 2 := by kernel_rfl
  have c6 : Tryz.prog.cellsOf 38 = 1 := by kernel_rfl
  have c7 : Tryz.prog.cellsOf 24 = 1 := by kernel_rfl
  have c8 : Tryz.prog.cellsOf 35 = 1 := by kernel_rfl
  obtain ⟨cl⟩ := cs
  match cl, hcl, hfs with
  | [v0, v1, v2, v3, v4, v5, v6, v7, v8, v9, v10, v11, v12, v13, v14, v15], _, hfs =>
    have f0 := hfs 0 _ rfl
    have f1 := hfs 1 _ rfl
    have f2 := hfs 2 _ rfl
    have f3 := hfs 3 _ rfl
    have f4 := hfs 4 _ rfl
    have f5 := hfs 5 _ rfl
    have f6 := hfs 6 _ rfl
    have f7 := hfs 7 _ rfl
    simp only [List.getElem_toArray, List.getElem_cons_zero, List.getElem_cons_succ, c2, c3, c4, c5, c6, c7, List.drop_zero, List.drop_succ_cons, List.take_succ_cons, List.take_zero] at f0 f1 f2 f3 f4 f5 f6 f7
    rw [List.getElem?_eq_getElem (by omega)] at f0 f1 f2 f3 f4 f5 f6 f7
    obtain ⟨k0, e0, _⟩ := DataW.trod_int Tryz.underlying3 f0
    obtain ⟨k1, e1, _⟩ := DataW.trod_int Tryz.underlying3 f1
    obtain ⟨a2, l2, cp2, rfl, hlc⟩ := sl_of Tryz.underlying23 f2
    obtain ⟨bs, hb, hml⟩ := open_bytes Tryz.underlying23 Tryz.underlying5 (by kernel_rfl) f2
    obtain ⟨dc, ec, hc1, hc2⟩ := open_cmd f3
    obtain ⟨ys, m4, _, _, _, hyl, hgs⟩ := DataW.trod_struct Tryz.underlying37 f4
    have hyl2 : ys.length = 2 := hyl
    have g0 := hgs 0 _ rfl
    have g1 := hgs 1 _ rfl
    simp only [List.getElem_toArray, List.getElem_cons_zero, List.getElem_cons_succ, c2, c8, List.drop_zero, List.drop_succ_cons, List.take_succ_cons, List.take_zero] at g0 g1
    rw [List.getElem?_eq_getElem (by omega)] at g0 g1
    obtain ⟨k4, e4, _⟩ := DataW.trod_int Tryz.underlying35 g0
    obtain ⟨k5, e5, _⟩ := DataW.trod_int Tryz.underlying3 g1
    obtain ⟨k6, e6, _⟩ := DataW.trod_int Tryz.underlying3 f5
    obtain ⟨a7, l7, cp7, rfl, _⟩ := sl_of Tryz.underlying38 f6
    obtain ⟨b8, e8, _⟩ := trod_float Tryz.underlying24 f7
    simp at e0 e1 e4 e5 e6 e8
    subst e0 e1 e4 e5 e6 e8
    refine ⟨⟨k0, k1, (a2, l2, cp2), dc.1, dc.2, k4, k5, k6, (a7, l7, cp7), b8⟩, bs, ?_, hc1, RdF.of_world hc2, ⟨RdF.of_world hb, ?_, hlc, ?_⟩⟩
    · unfold deedL
      dsimp only
      rw [← ec]
      rfl
    · have := hb.1
      simpa using this
    · have := hb.1
      simp at this
      unfold maxLen at hml
      omega
end
end Go.Vc

/-
  What the functions' code comes to; printed by a program of this claim's own.
-/
namespace Go.Proofs.YtlomfgiokkhioaaGreatDoor
open Go Go.Vc
set_option maxRecDepth 100000
set_option linter.unusedVariables false

/-! tollgate/tollgatelaw12.NodeNone -/
def T_law12_NodeNone (x1 : Array Value) (k2 : Int) (w : World) (R : Ending → World → Prop) : Prop :=
  let w3 : World := w.alloc (.cells x1 40)
  Calls Tryz.prog 7 #[] w3 (ret (fun r4 w5 => ∃ b6 : Bool, r4 = .bool b6 ∧ if b6 = true then (Calls Tryz.prog 15 #[.pointer none, .int .i64 k2] w5 (ret (fun r7 w8 => ∃ x9 : Int, ∃ x10 : Int, ∃ x11 : Int, ∃ s12a : Option Addr, ∃ s12l : Nat, ∃ s12c : Nat, ∃ s13a : Option Addr, ∃ s13l : Nat, ∃ s13c : Nat, ∃ s14a : Option Addr, ∃ s14l : Nat, ∃ s14c : Nat, ∃ s15a : Option Addr, ∃ s15l : Nat, ∃ s15c : Nat, r7 = .agg #[.int .i64 x9, .int .i64 x10, .int .i64 x11, .slice s12a s12l s12c, .slice s13a s13l s13c, .slice s14a s14l s14c, .slice s15a s15l s15c] ∧ if ((x9 : Int) == 1) = true then (∃ s16a : Option Addr, ∃ s16l : Nat, ∃ s16c : Nat, rd w8 ((⟨w.heap.size, 0, none⟩ : Addr).add 2) (.slice s16a s16l s16c) ∧ Calls Tryz.prog 16 #[.pointer none, .slice s16a s16l s16c, .int .i64 k2] w8 (ret (fun r17 w18 => ∃ x19 : Int, ∃ x20 : Int, ∃ x21 : Int, ∃ s22a : Option Addr, ∃ s22l : Nat, ∃ s22c : Nat, ∃ s23a : Option Addr, ∃ s23l : Nat, ∃ s23c : Nat, ∃ s24a : Option Addr, ∃ s24l : Nat, ∃ s24c : Nat, ∃ s25a : Option Addr, ∃ s25l : Nat, ∃ s25c : Nat, r17 = .agg #[.int .i64 x19, .int .i64 x20, .int .i64 x21, .slice s22a s22l s22c, .slice s23a s23l s23c, .slice s24a s24l s24c, .slice s25a s25l s25c] ∧ if ((x19 : Int) == 1) = true then (∃ x26 : Int, ∃ x27 : Int, ∃ x28 : Int, ∃ x29 : Int, ∃ s30 : ByteArray, ∃ s31 : ByteArray, ∃ s32 : ByteArray, ∃ s33a : Option Addr, ∃ s33l : Nat, ∃ s33c : Nat, rd w18 ((⟨w.heap.size, 0, none⟩ : Addr).add 3) (.agg #[.int .i64 x26, .int .i64 x27, .int .i64 x28, .int .i64 x29, .string s30, .string s31, .string s32, .slice s33a s33l s33c]) ∧ Calls Tryz.prog 9 #[.pointer none, .agg #[.int .i64 x26, .int .i64 x27, .int .i64 x28, .int .i64 x29, .string s30, .string s31, .string s32, .slice s33a s33l s33c]] w18 (ret (fun r34 w35 => ∃ x36 : Int, ∃ x37 : Int, ∃ x38 : Int, ∃ s39a : Option Addr, ∃ s39l : Nat, ∃ s39c : Nat, ∃ s40a : Option Addr, ∃ s40l : Nat, ∃ s40c : Nat, ∃ s41a : Option Addr, ∃ s41l : Nat, ∃ s41c : Nat, ∃ s42a : Option Addr, ∃ s42l : Nat, ∃ s42c : Nat, r34 = .agg #[.int .i64 x36, .int .i64 x37, .int .i64 x38, .slice s39a s39l s39c, .slice s40a s40l s40c, .slice s41a s41l s41c, .slice s42a s42l s42c] ∧ if ((x36 : Int) == 1) = true then (∃ x43 : Int, ∃ x44 : Int, rd w35 ((⟨w.heap.size, 0, none⟩ : Addr).add 11) (.agg #[.int .i64 x43, .int .i64 x44]) ∧ Calls Tryz.prog 17 #[.pointer none, .agg #[.int .i64 x43, .int .i64 x44]] w35 (ret (fun r45 w46 => ∃ x47 : Int, ∃ x48 : Int, ∃ x49 : Int, ∃ s50a : Option Addr, ∃ s50l : Nat, ∃ s50c : Nat, ∃ s51a : Option Addr, ∃ s51l : Nat, ∃ s51c : Nat, ∃ s52a : Option Addr, ∃ s52l : Nat, ∃ s52c : Nat, ∃ s53a : Option Addr, ∃ s53l : Nat, ∃ s53c : Nat, r45 = .agg #[.int .i64 x47, .int .i64 x48, .int .i64 x49, .slice s50a s50l s50c, .slice s51a s51l s51c, .slice s52a s52l s52c, .slice s53a s53l s53c] ∧ if ((x47 : Int) == 1) = true then (Calls Tryz.prog 18 #[.pointer none, .int .i64 k2] w46 (ret (fun r54 w55 => ∃ x56 : Int, ∃ x57 : Int, ∃ x58 : Int, ∃ s59a : Option Addr, ∃ s59l : Nat, ∃ s59c : Nat, ∃ s60a : Option Addr, ∃ s60l : Nat, ∃ s60c : Nat, ∃ s61a : Option Addr, ∃ s61l : Nat, ∃ s61c : Nat, ∃ s62a : Option Addr, ∃ s62l : Nat, ∃ s62c : Nat, r54 = .agg #[.int .i64 x56, .int .i64 x57, .int .i64 x58, .slice s59a s59l s59c, .slice s60a s60l s60c, .slice s61a s61l s61c, .slice s62a s62l s62c] ∧ if ((x56 : Int) == 1) = true then (∃ s63a : Option Addr, ∃ s63l : Nat, ∃ s63c : Nat, rd w55 ((⟨w.heap.size, 0, none⟩ : Addr).add 2) (.slice s63a s63l s63c) ∧ ∃ f64 : Nat, rd w55 ((⟨w.heap.size, 0, none⟩ : Addr).add 15) (.float .f64 f64) ∧ Calls Tryz.prog 13 #[.pointer none, .slice s63a s63l s63c, .float .f64 f64] w55 (ret (fun r65 w66 => ∃ x67 : Int, ∃ x68 : Int, ∃ s69 : ByteArray, ∃ s70 : ByteArray, r65 = .agg #[.int .i64 x67, .int .i64 x68, .string s69, .string s70] ∧ runV Tryz.prog (do eqGuard .eql 58 (.tmp 52) (.tmp 53) (.agg #[.int .i64 x67, .int .i64 x68, .string s69, .string s70]) (.agg #[.int .i64 0, .int .i64 0, .string (ByteArray.mk #[]), .string (ByteArray.mk #[])]); binOp .eql 58 (.agg #[.int .i64 x67, .int .i64 x68, .string s69, .string s70]) (.agg #[.int .i64 0, .int .i64 0, .string (ByteArray.mk #[]), .string (ByteArray.mk #[])])) w66 (fun r71 w72 => ∃ b73 : Bool, r71 = .bool b73 ∧ if b73 = true then (Calls Tryz.prog 20 #[.pointer none] w72 (ret (fun r74 w75 => ∃ xs76 : Array Value, xs76.size = 10 ∧ r74 = .agg xs76 ∧ Calls Tryz.prog 19 #[.agg xs76, .agg #[.int .i64 0, .int .i64 0, .int .i64 0, .int .i64 0, .int .i64 0, .int .i64 0, .int .i64 0, .int .i64 0, .slice none 0 0, .slice none 0 0]] w75 (ret (fun r77 w78 => ∃ b79 : Bool, r77 = .bool b79 ∧ if b79 = true then (Calls Tryz.prog 12 #[.pointer none] w78 (ret (fun r80 w81 => ∃ x82 : Int, ∃ s83a : Option Addr, ∃ s83l : Nat, ∃ s83c : Nat, ∃ s84a : Option Addr, ∃ s84l : Nat, ∃ s84c : Nat, r80 = .agg #[.int .i64 x82, .slice s83a s83l s83c, .slice s84a s84l s84c] ∧ if ((x82 : Int) == 0) = true then (Calls Tryz.prog 21 #[.pointer none] w81 (ret (fun r85 w86 => ∃ x87 : Int, r85 = .int .i64 x87 ∧ if ((x87 : Int) == 0) = true then (Calls Tryz.prog 22 #[.pointer none, .int .i64 k2, .int .i64 k2] w86 (ret (fun r88 w89 => ∃ s90a : Option Addr, ∃ s90l : Nat, ∃ s90c : Nat, r88 = .slice s90a s90l s90c ∧ R (.returned (.bool (((s90l : Nat) : Int) == 0))) w89) (pan R))) else (R (.returned (.bool false)) w86)) (pan R))) else (R (.returned (.bool false)) w81)) (pan R))) else (R (.returned (.bool false)) w78)) (pan R))) (pan R))) else (R (.returned (.bool false)) w72)) (pan R)) (pan R))) else (R (.returned (.bool false)) w55)) (pan R))) else (R (.returned (.bool false)) w46)) (pan R))) else (R (.returned (.bool false)) w35)) (pan R))) else (R (.returned (.bool false)) w18)) (pan R))) else (R (.returned (.bool false)) w8)) (pan R))) else (R (.returned (.bool false)) w5)) (pan R))

theorem T_law12_NodeNone_hl : allP (hokL Tryz.prog (hookAt []) (bodyOf Tryz.f4) 1) = (True) := by kernel_rfl

theorem T_law12_NodeNone_eq (x1 : Array Value) (k2 : Int) (w : World) (R : Ending → World → Prop) : vcCode Tryz.prog (hookAt []) (bodyOf Tryz.f4) 1 ⟨argEnv [.agg x1, .int .i64 k2] 0, Tryz.f4.ntmps, []⟩ w (finQ Tryz.prog Tryz.f4.results.toList R) = T_law12_NodeNone x1 k2 w R := by kernel_rfl

theorem T_law12_NodeNone_b : Tryz.f4.body = some (bodyOf Tryz.f4) := by kernel_rfl
theorem T_law12_NodeNone_s : (quietSel (bodyOf Tryz.f4) && Nat.ble 2 Tryz.f4.ntmps) = true := by kernel_rfl

theorem C_law12_NodeNone {x1 : Array Value} {k2 : Int} {w : World} {R : Ending → World → Prop} (h : T_law12_NodeNone x1 k2 w R) : Calls Tryz.prog 4 #[.agg x1, .int .i64 k2] w R :=
  calls_of_text (args := [.agg x1, .int .i64 k2]) mixed Tryz.func4 T_law12_NodeNone_b T_law12_NodeNone_s (HOk_of _ _ (by rw [T_law12_NodeNone_hl]; exact trivial)) (by rw [T_law12_NodeNone_eq]; exact h)

end Go.Proofs.YtlomfgiokkhioaaGreatDoor

/-
  A nil node answers so: the walk.
-/
namespace Go.Vc
open Go Go.Proofs Go.Proofs.YtlomfgiokkhioaaGreatDoor Go.RowKit Go.Ev
set_option maxRecDepth 100000
theorem outL_one {e : Int} : ∀ u ∈ outL e, one u = true := by
  intro u hu
  simp only [outL, List.mem_cons, List.not_mem_nil, or_false] at hu
  rcases hu with rfl | rfl | rfl | rfl | rfl | rfl | rfl <;> rfl
section
variable {E w : World} {L : List Asrt} {R : Ending → World → Prop} {F : Fz} {q : Sl} {b : Cm.Bs} {g ty : Nat}
theorem rd_out {e : Int} (h : St E (blkL g ty (outL e) :: L) w) : rd w ⟨g, 0, none⟩ (.agg ⟨outL e⟩) := rd_agg (xs := outL e) h.at_blk (by intro i u hu; rw [Nat.zero_add]; exact hu)
theorem pureK_of {P : Program} {s : Sem Value} {v : Value} {K : Value → Prop} (h : pureRun P s = some v) (hk : K v) : pureK P s K := by unfold pureK; rw [h]; exact hk
theorem build_take {xs : List Value} (hl : xs.length = 12) (d : Int) : ∃ v, pureRun Tryz.prog (Instr.build 118 #[(0, .agg ⟨xs⟩), (1, .int .i64 d)]) = some v := by
  match xs, hl with
  | [a0, a1, a2, a3, a4, a5, a6, a7, a8, a9, a10, a11], _ => exact ⟨.agg #[a0, a1, a2, a3, a4, a5, a6, a7, a8, a9, a10, a11, .int .i64 d], by kernel_rfl⟩
theorem Take_spec {d : Int} (hs : Src F q b) (hm : kn F ∈ L) (h : St E L w) (k : ∀ w', St E L w' → R (.returned outE) w') : Calls Tryz.prog 16 #[.pointer none, .slice q.1 q.2.1 q.2.2, .int .i64 d] w R := by
  refine C_node_Node_Take ?_
  unfold T_node_Node_Take
  intro w4
  have h4 : St E (blkL w.heap.size 47 (outL 0) :: L) w4 := h.alloc _
  clear_value w4
  generalize w.heap.size = gO at *
  refine GetMsg_spec hs (mem1' hm) h4 fun w6 xs n hl h1 h6 => ⟨⟨xs⟩, by simpa using hl, n, rfl, ?_⟩
  intro w11
  have h11 : St E (blkL w6.heap.size 114 (msgL (fun _ => 0) false nl nl) :: blkL gO 47 (outL 0) :: L) w11 := h6.alloc _
  clear_value w11
  generalize w6.heap.size = gM at *
  refine ⟨by simpa [Value.cells] using hl, wrOk_agg (xs := xs) h11.at_blk (by simp [msgL, hl]) h1, ?_⟩
  intro w12
  have h12 : St E (blkL gM 114 xs :: blkL gO 47 (outL 0) :: L) w12 := h11.wr_agg0 (xs := xs) (by simp [msgL, hl])
  clear_value w12
  refine ⟨⟨xs⟩, by simpa using hl, rd_agg (xs := xs) h12.at_blk (by intro i u hu; rw [Nat.zero_add]; exact hu), ?_⟩
  obtain ⟨v, hv⟩ := build_take hl d
  refine pureK_of hv ?_
  refine same_call (run_nil (v := .iface 118 v) rfl n w12) h12 fun w16 h16 => ⟨_, _, _, _, _, _, _, _, _, _, _, _, _, _, _, rfl, rfl, wrOk_agg (xs := outL 1) h16.f1.at_blk (by simp [outL]) outL_one, ?_⟩
  intro w24
  have h24 : St E (blkL gO 47 (outL 1) :: blkL gM 114 xs :: L) w24 := h16.f1.wr_agg0 (xs := outL 1) rfl
  exact ⟨_, _, _, _, _, _, _, _, _, _, _, _, _, _, _, rd_out h24, k _ h24.drop.drop⟩
theorem Submit_spec {c : Cm.Cmd} (hm : kn F ∈ L) (h : St E L w) (hr : RdF F q.1 q.2.1 2 (c.tg.flatMap tV)) (hc : okC c) (k : ∀ w', St E L w' → R (.returned outE) w') : Calls Tryz.prog 9 #[.pointer none, cmdV c q] w R := by
  refine C_node_Node_Submit ?_
  unfold T_node_Node_Submit
  intro w10
  have h10 : St E (blkL w.heap.size 34 (cmdL c q) :: L) w10 := h.alloc (.cells ⟨cmdL c q⟩ 34)
  clear_value w10
  generalize w.heap.size = gC at *
  intro w11
  have h11 : St E (blkL w10.heap.size 47 (outL 0) :: blkL gC 34 (cmdL c q) :: L) w11 := h10.alloc _
  clear_value w11
  generalize w10.heap.size = gO at *
  refine ⟨_, _, _, _, _, _, _, _, _, _, rd_cmdC h11.f1, ?_⟩
  refine PutCommand_spec (mem1' (mem1' hm)) h11 hr hc fun w21 s h21 => ⟨_, _, _, _, rfl, ?_⟩
  refine same_call (run_nil (v := .iface 93 (.agg #[.slice s.1 s.2.1 s.2.2])) rfl _ w21) h21.drop fun w25 h25 => ⟨_, _, _, _, _, _, _, _, _, _, _, _, _, _, _, rfl, rfl, wrOk_agg (xs := outL 1) h25.at_blk (by simp [outL]) outL_one, ?_⟩
  intro w33
  have h33 : St E (blkL gO 47 (outL 1) :: blkL gC 34 (cmdL c q) :: L) w33 := h25.wr_agg0 (xs := outL 1) rfl
  exact ⟨_, _, _, _, _, _, _, _, _, _, _, _, _, _, _, rd_out h33, k _ h33.drop.drop⟩
theorem deed_cmd {x : DeedI} (h : St E (blkL g ty (deedL x) :: L) w) : rd w ((⟨g, 0, none⟩ : Addr).add 3) (cmdV x.cmd x.cq) := by
  rw [add_mk, Nat.zero_add]
  refine rd_agg (xs := cmdL x.cmd x.cq) h.at_blk fun i u hu => ?_
  have hlt : i < 8 := (List.getElem?_eq_some_iff.1 hu).1
  rw [deedL, List.append_assoc, List.getElem?_append_right (by simp), List.getElem?_append_left (show 3 + i - 3 < 8 by omega)]
  simpa using hu
theorem same_reply (w : World) : (do eqGuard .eql 58 (.tmp 52) (.tmp 53) replyZ replyZ; binOp .eql 58 replyZ replyZ : Sem Value).run Tryz.prog w = .ok (.bool true) w := by kernel_rfl
theorem none_walk {x : DeedI} {kk : Int} (hs : Src F x.bq b) (hc : okC x.cmd) (hr : RdF F x.cq.1 x.cq.2.1 2 (x.cmd.tg.flatMap tV)) (h : St E (kn F :: L) w) (k : ∀ w', St E (kn F :: L) w' → R (.returned (.bool true)) w') :
    Calls Tryz.prog 4 #[.agg ⟨deedL x⟩, .int .i64 kk] w R := by
  refine C_law12_NodeNone ?_
  unfold T_law12_NodeNone
  intro w3
  have h3 : St E (blkL w.heap.size 40 (deedL x) :: kn F :: L) w3 := h.alloc (.cells ⟨deedL x⟩ 40)
  clear_value w3
  generalize w.heap.size = g at *
  have hm : kn F ∈ blkL g 40 (deedL x) :: kn F :: L := by simp
  refine same_call (live_true w3) h3 fun w5 h5 => ⟨_, rfl, ite_b (fun _ => ?_) fun hh => by cases hh⟩
  refine same_call (tick_nil kk w5) h5 fun w8 h8 => ⟨_, _, _, _, _, _, _, _, _, _, _, _, _, _, _, rfl, ite_b (fun _ => ?_) fun hh => absurd hh (by decide)⟩
  refine ⟨x.bq.1, x.bq.2.1, x.bq.2.2, rd_fld h8.at_blk rfl rfl, ?_⟩
  refine Take_spec hs hm h8 fun w18 h18 => ⟨_, _, _, _, _, _, _, _, _, _, _, _, _, _, _, rfl, ite_b (fun _ => ?_) fun hh => absurd hh (by decide)⟩
  refine ⟨_, _, _, _, _, _, _, _, _, _, deed_cmd h18, ?_⟩
  refine Submit_spec hm h18 hr hc fun w35 h35 => ⟨_, _, _, _, _, _, _, _, _, _, _, _, _, _, _, rfl, ite_b (fun _ => ?_) fun hh => absurd hh (by decide)⟩
  refine ⟨x.chd, x.chn, by rw [add_mk, Nat.zero_add]; exact rd_agg (xs := [.int .i64 x.chd, .int .i64 x.chn]) h35.at_blk (fun i u hu => by
    match i, hu with
    | 0, hu => exact hu
    | 1, hu => exact hu), ?_⟩
  refine same_call (change_nil _ _ w35) h35 fun w46 h46 => ⟨_, _, _, _, _, _, _, _, _, _, _, _, _, _, _, rfl, ite_b (fun _ => ?_) fun hh => absurd hh (by decide)⟩
  refine same_call (read_nil kk w46) h46 fun w55 h55 => ⟨_, _, _, _, _, _, _, _, _, _, _, _, _, _, _, rfl, ite_b (fun _ => ?_) fun hh => absurd hh (by decide)⟩
  refine ⟨x.bq.1, x.bq.2.1, x.bq.2.2, rd_fld h55.at_blk rfl rfl, x.float, rd_fld h55.at_blk rfl rfl, ?_⟩
  refine same_call (serve_nil _ _ _ _ w55) h55 fun w66 h66 => ⟨_, _, _, _, rfl, ?_⟩
  refine runV_ok (same_reply w66) ⟨_, rfl, ite_b (fun _ => ?_) fun hh => by cases hh⟩
  refine same_call (view_nil w66) h66 fun w75 h75 => ⟨_, rfl, rfl, ?_⟩
  refine same_call (same_nil w75) h75 fun w78 h78 => ⟨_, rfl, ite_b (fun _ => ?_) fun hh => by cases hh⟩
  refine same_call (conf_nil w78) h78 fun w81 h81 => ⟨_, _, _, _, _, _, _, rfl, ite_b (fun _ => ?_) fun hh => absurd hh (by decide)⟩
  refine same_call (applied_nil w81) h81 fun w86 h86 => ⟨_, rfl, ite_b (fun _ => ?_) fun hh => absurd hh (by decide)⟩
  exact same_call (entries_nil kk kk w86) h86 fun w89 h89 => ⟨_, _, _, rfl, k _ h89.drop⟩
end
theorem none_law {H : Type} {enc : TypeId × Value → H} {W : World} {cs : Array Value} {d : DataW H} {ps : List MemPlace} {kk : Int} (h : DataW.Trod enc Tryz.prog W 0 (fun _ => true) true 40 (.agg cs) d ps) :
    Calls Tryz.prog 4 #[.agg cs, .int .i64 kk] W fun e w' => e = .returned (.bool true) ∧ RowKit.Below W.heap.size W w' := by
  obtain ⟨x, b, rfl, hc, hr, hs⟩ := open_deed h
  exact none_walk hs hc hr (St.start_kn W) fun w' h' => ⟨rfl, h'.below_kn fun _ _ h => h⟩
end Go.Vc
