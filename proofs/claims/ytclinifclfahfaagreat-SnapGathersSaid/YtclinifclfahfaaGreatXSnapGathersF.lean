/-
  Texts of this claim's own, laid into one: SnapRd.
-/
import Derived.Test.YtclinifclfahfaaGreatXSnapGathersA
import Derived.Test.YtclinifclfahfaaGreatXSnapGathersB
import Derived.Test.YtclinifclfahfaaGreatXSnapGathersC
import Derived.Test.YtclinifclfahfaaGreatXSnapGathersD
import Derived.Test.YtclinifclfahfaaGreatXSnapGathersE
set_option linter.all false
/-
  The law SnapGathers.
-/
namespace Go.Sn
theorem addIn_two {g : Gt} (hg : g.b.length ≤ 32768) (t p : Nat) (i : Bs) : (addIn g t p i).1.b.length ≤ 32768 ∧ ((addIn g t p i).2.1 = none ∨ ∃ b, getS b = .ok (addIn g t p i).2.1) := by
  unfold addIn
  split
  · exact ⟨hg, .inl rfl⟩
  · split
    · exact ⟨hg, .inl rfl⟩
    · split
      · exact ⟨hg, .inl rfl⟩
      · simp only
        generalize (if p = 0 then [] else g.b) ++ i = B
        by_cases h : B.length < t
        · rw [if_pos h]
          refine ⟨?_, .inl rfl⟩
          show B.length ≤ 32768
          omega
        · rw [if_neg h]
          cases hB : getS B with
          | ok s => exact ⟨Nat.zero_le _, .inr ⟨B, hB⟩⟩
          | error e => exact ⟨Nat.zero_le _, .inl rfl⟩
theorem addIn_small {g : Gt} (hg : g.b.length ≤ 32768) (t p : Nat) (i : Bs) : (addIn g t p i).1.b.length ≤ 32768 := (addIn_two hg t p i).1
theorem add_snp {g : Gt} (hg : g.b.length ≤ 32768) (p : Bs) : (add g p).2.1 = none ∨ ∃ b, getS b = .ok (add g p).2.1 := by
  unfold add
  split
  · exact .inl rfl
  · split
    · exact .inl rfl
    · exact (addIn_two hg _ _ _).2
theorem add_small {g : Gt} (hg : g.b.length ≤ 32768) (p : Bs) : (add g p).1.b.length ≤ 32768 := by
  unfold add
  split
  · exact hg
  · split
    · exact hg
    · exact addIn_small hg _ _ _
end Go.Sn
namespace Go.Vc
open Go Go.Proofs Go.Proofs.YtclinifclfahfaaGreat
set_option maxRecDepth 100000
section
variable {H : Type} {enc : TypeId × Value → H} {W : World}
/-- Rows of bytes that came in. -/
def rowsR (F : Fz) (a : Option Addr) (l : Nat) (qs : List (Sl × Cm.Bs)) : Prop := RdF F a l 1 (qs.flatMap fun x => celR x.1) ∧ ∀ x ∈ qs, Src F x.1 x.2 ∧ x.2.length ≤ big
theorem open_rows {a : Option Addr} {l c : Nat} {fuel : Nat} {x : DataW H × List MemPlace} (hm : DataW.trod enc Tryz.prog W 0 (fun _ => true) true fuel 60 [.slice a l c] = some x)
    (hz : ∀ n ∈ DataW.weights Tryz.prog 60 x.1, n ≤ 140737488355328) :
    ∃ qs : List (Sl × Cm.Bs), rowsR (F0 W) a l qs ∧ l ≤ maxLen := by
  obtain ⟨qs, h1, h2, h3⟩ := open_elemsW (N := 140737488355328) (β := Sl × Cm.Bs) (f := fun x => celR x.1) (fun x => Src (F0 W) x.1 x.2 ∧ x.2.length ≤ 140737488355328) (fun _ => rfl) (by decide) Tryz.underlying60 (by kernel_rfl) (fun n cs x hx hN => by
    rcases DataW.trod_slice Tryz.underlying27 hx with ⟨hcs, _⟩ | ⟨ad, len, cap, elems, rest, n, _, hcs, _⟩
    · subst hcs
      obtain ⟨b, hb, hw⟩ := bytesF hx
      exact ⟨(_, b), rfl, hb, hw _ hN⟩
    · subst hcs
      obtain ⟨b, hb, hw⟩ := bytesF hx
      exact ⟨(_, b), rfl, hb, hw _ hN⟩) hm hz
  exact ⟨qs, ⟨RdF.of_world h1, fun x hx => ⟨(h3 x hx).1, (h3 x hx).2⟩⟩, h2⟩
end
section
variable {E w : World} {L : List Asrt} {R : Ending → World → Prop} {F G : Fz} {q p s o own : Sl} {b : Cm.Bs} {g : Sn.Gt} {gp : Nat}
theorem AddU_spec (hs : SrcW E (kn F :: L) p b) (hb : b.length ≤ big) (hg : g.b.length ≤ 1000000000) (h : St E (blkL gp 126 (gtV g q) :: byA q g.b :: kn F :: L) w)
    (k : ∀ (G : Fz) (w' : World) (q' v l d : Sl), Fz.le F G → snpR G v l d (Sn.add g b).2.1 → St E (blkL gp 126 (gtV (Sn.add g b).1 q') :: byA q' (Sn.add g b).1.b :: kn G :: L) w' → R (.returned (.tuple #[snpV (Sn.add g b).2.1.idx (Sn.add g b).2.1.term v l d, .bool (Sn.add g b).2.2.1, .int .i64 (Sn.add g b).2.2.2])) w') :
    Calls Tryz.prog 34 #[.pointer (some ⟨gp, 0, none⟩), .slice p.1 p.2.1 p.2.2] w R :=
  AddW_spec hs hb hg h (fun G w' q' g' e hG ha h' => by rw [ha] at k; exact k G w' q' nilS nilS nilS hG (none_R G) h') fun G w' v l d s hG ha hr h' => by rw [ha] at k; exact k G w' nilS v l d hG hr h'
theorem RAddU_spec (hs : Src F p b) (hb : b.length ≤ big) (hg : g.b.length ≤ 1000000000) (h : St E (blkL gp 128 (gtV g q) :: byA q g.b :: kn F :: L) w)
    (k : ∀ (G : Fz) (w' : World) (q' v l d : Sl) (g' : Sn.Gt), Fz.le F G → Sn.alike g' (Sn.add g b).1 → snpR G v l d (Sn.add g b).2.1 → St E (blkL gp 128 (gtV g' q') :: byA q' g'.b :: kn G :: L) w' → R (.returned (.tuple #[snpV (Sn.add g b).2.1.idx (Sn.add g b).2.1.term v l d, .bool (Sn.add g b).2.2.1, .int .i64 (Sn.add g b).2.2.2])) w') :
    Calls Tryz.prog 35 #[.pointer (some ⟨gp, 0, none⟩), .slice p.1 p.2.1 p.2.2] w R :=
  RAdd_spec hs hb hg h (fun G w' q' g' g2 e hG ha hal h' => by rw [ha] at k; exact k G w' q' nilS nilS nilS g' hG hal (none_R G) h') fun G w' q' g' v l d s hG ha hal hr h' => by rw [ha] at k; exact k G w' q' v l d g' hG hal hr h'
theorem nilAdd_spec (h : St E L w) (k : ∀ w', St E L w' → R (.returned (.tuple #[snpV 0 0 nilS nilS nilS, .bool false, .int .i64 1])) w') : Calls Tryz.prog 34 #[.pointer none, .slice none 0 0] w R := by
  refine C_snap_Gather_Add ?_
  unfold T_snap_Gather_Add
  intro w3
  have h3 : St E (blkL w.heap.size 29 z5 :: L) w3 := h.alloc (.cells ⟨z5⟩ 29)
  clear_value w3
  generalize w.heap.size = br at *
  refine ite_b (fun _ => ?_) fun hh => by simp at hh
  refine ⟨rfl, ok_snp h3 rfl 0 0 nilS nilS nilS, ?_⟩
  intro w4
  have h4 : St E (blkL br 29 z5 :: L) w4 := h3.wr_snp rfl 0 0 nilS nilS nilS
  clear_value w4
  exact ⟨_, _, _, _, _, _, _, _, _, _, _, rd_snp h4, k w4 h4.drop⟩
theorem nilLen_spec (k : R (.returned (.int .i64 0)) w) : Calls Tryz.prog 36 #[.pointer none] w R := by
  refine C_snap_Gather_Len ?_
  unfold T_snap_Gather_Len
  exact ite_b (fun _ => k) fun hh => by simp at hh
theorem wrap_u8x (z : Int) : ∃ y : UInt8, IntKind.wrap .u8 z = (y.toNat : Int) := by
  have h : IntKind.wrap .u8 z = z % 256 := by
    unfold IntKind.wrap
    simp [IntKind.signed, IntKind.bits]
  rw [h]
  refine ⟨UInt8.ofNat (z % 256).toNat, ?_⟩
  rw [UInt8.toNat_ofNat']
  omega
theorem set_byte {a : Addr} {xs : Cm.Bs} {j : Nat} {y : UInt8} (h : St E (byA own xs :: L) w) (ha : own.1 = some a) (hj : j < xs.length) : wrOk w (a.add (j * 1)) (.int .u8 (y.toNat : Int)) ∧ St E (byA own (xs.set j y) :: L) (wr w (a.add (j * 1)) (.int .u8 (y.toNat : Int))) := by
  have := St.ownS_set (i := j) (v := .int .u8 (y.toNat : Int)) h ha (by rw [bytesV_len]; exact hj) rfl
  rw [Nat.mul_one]
  refine ⟨this.1, ?_⟩
  have e : (bytesV xs).set j (.int .u8 (y.toNat : Int)) = bytesV (xs.set j y) := by unfold bytesV; rw [List.map_set]
  show St E (ownS own.1 own.2.1 own.2.2 5 1 (bytesV (xs.set j y)) :: L) _
  rw [← e]
  exact this.2
theorem xor_loop {xs : Cm.Bs} {Kn : World → Prop} {Kp : List PanicEntry → World → Prop} (hb : xs.length ≤ big) (h : St E (byA own xs :: L) w) (k : ∀ (w' : World) (ys : Cm.Bs), St E (byA own ys :: L) w' → Kn w') : T_law07_SnapGathers_3 0 own.1 own.2.1 own.2.2 w Kn Kp := by
  have hl := h.by_len2
  have hbig : big = 140737488355328 := rfl
  unfold T_law07_SnapGathers_3
  intro X hX
  refine up_to xs.length (Q := fun j => ∀ (w : World) (ys : Cm.Bs), ys.length = xs.length → St E (byA own ys :: L) w → X (j : Int) w) ?_ w xs rfl h
  intro j hj ih w ys hy h
  refine hX _ _ ?_
  unfold T_law07_SnapGathers_3_body
  refine ite_d (fun hh => ?_) fun hh => ?_
  · have hjl : j < ys.length := by omega
    obtain ⟨ad, hae, hrd⟩ := one_at (f := fun x : UInt8 => Value.int .u8 (x.toNat : Int)) (qs := ys) (fun _ => rfl) (by rw [← List.map_eq_flatMap]; exact h.rdS_own) hjl
    refine ⟨by omega, by omega, ad, hae, _, hrd, by omega, by omega, ad, hae, rfl, ?_⟩
    obtain ⟨y, hye⟩ := wrap_u8x ((BitVec.ofInt (IntKind.bits .u8) (ys[j].toNat : Int)) ^^^ (BitVec.ofInt (IntKind.bits .u8) 33)).toNat
    rw [hye]
    obtain ⟨h1, h2⟩ := set_byte (y := y) h hae hjl
    refine ⟨h1, ?_⟩
    intro w54
    rw [succ_big (by omega)]
    exact ih (by omega) w54 (ys.set j y) (by rw [List.length_set]; exact hy) h2
  · exact k w ys h
set_option maxHeartbeats 2000000 in
theorem gathers_walk {a : Option Addr} {l c : Nat} {qs : List (Sl × Cm.Bs)} (hr : rowsR F a l qs) (hl : l ≤ maxLen) (h : St E (kn F :: L) w) (k : ∀ G w', Fz.le F G → St E (kn G :: L) w' → R (.returned (.bool true)) w') : Calls Tryz.prog 7 #[.slice a l c] w R := by
  have hbig : big = 140737488355328 := rfl
  have hu : huge = 9223372036854775807 := rfl
  have hm : maxLen = 9223372036854775807 := rfl
  refine C_law07_SnapGathers ?_
  unfold T_law07_SnapGathers
  refine NewGather_spec h fun w3 gp h3 => ⟨_, rfl, ?_⟩
  refine RNewGather_spec h3 fun w6 rp h6 => ⟨_, rfl, ?_⟩
  have hql : qs.length = l := by have := hr.1.count (f := fun x : Sl × Cm.Bs => celR x.1) (fun _ => rfl) (by decide) h; exact this
  unfold T_law07_SnapGathers_1
  intro X hX
  refine up_to l (Q := fun j => j ≤ 60 → ∀ (w : World) (G : Fz) (g r : Sn.Gt) (q qr : Sl), Fz.le F G → Sn.alike g r → g.b.length ≤ 32768 → St E (blkL gp 126 (gtV g q) :: byA q g.b :: kn G :: blkL rp 128 (gtV r qr) :: byA qr r.b :: L) w → X (j : Int) w) ?_ (by omega) w6 F Sn.gt0 Sn.gt0 nilS nilS (Fz.le_refl F) (Sn.alike.refl _) (Nat.zero_le _) (h6.sel 5 [2, 3, 4, 0, 1] (by simp))
  intro j hj ih hj60 w G g r q qr hG hal hgb h
  refine hX _ _ ?_
  unfold T_law07_SnapGathers_1_body T_law07_SnapGathers_2
  have done : St E (blkL gp 126 (gtV g q) :: byA q g.b :: kn G :: blkL rp 128 (gtV r qr) :: byA qr r.b :: L) w → _ := fun h => by
    have h2 : St E (kn G :: L) w := h.sel 5 [2] (by simp)
    exact h2
  refine ite_d (fun hh => ite_b (fun h60 => ?_) fun h60 => ?_) fun hh => ite_b (fun hh => by cases hh) fun _ => ?_
  · have hjl : j < qs.length := by omega
    have hj60 : j < 60 := by have : (j : Int) < 60 := of_decide_eq_true h60
                             omega
    have hx := hr.2 qs[j] (List.getElem_mem hjl)
    intro w19
    have h19 : St E (byA (some ⟨w.heap.size, 0, none⟩, 0, 0) [] :: blkL gp 126 (gtV g q) :: byA q g.b :: kn G :: blkL rp 128 (gtV r qr) :: byA qr r.b :: L) w19 := h.by_new [] (Nat.zero_le _)
    clear_value w19
    generalize w.heap.size = bo at *
    have rdrow : ∀ {w : World} {M : List Asrt} {G : Fz}, Fz.le F G → St E M w → kn G ∈ M → ∃ ad, a = some ad ∧ rd w (ad.add (j * 1)) (.slice qs[j].1.1 qs[j].1.2.1 qs[j].1.2.2) := fun {w M G} hG h hm => by
      have := (hr.1.mono hG).at h hm
      rw [← hql] at this
      exact one_at (f := fun x : Sl × Cm.Bs => Value.slice x.1.1 x.1.2.1 x.1.2.2) (fun _ => rfl) this hjl
    obtain ⟨ad, hae, hrd⟩ := rdrow hG h19 (by simp)
    refine ⟨by omega, by omega, ad, hae, _, _, _, hrd, ?_⟩
    generalize qs[j] = x at *
    obtain ⟨own, w23, hr23, h23⟩ := app_b (c2 := x.1.2.2) h19 ((hx.1.mono hG).rd.at h19 (by simp)) (by simp; omega)
    rw [List.nil_append] at h23
    refine runV_ok hr23 ⟨_, _, _, rfl, ?_⟩
    have hol := h23.by_len2
    have hoc := h23.ownS_facts.2.1
    have h24 : St E (blkL gp 126 (gtV g q) :: byA q g.b :: kn G :: byA own x.2 :: blkL rp 128 (gtV r qr) :: byA qr r.b :: L) w23 := h23.sel 6 [1, 2, 3, 0, 4, 5] (by simp)
    obtain ⟨e2, hal2⟩ := Sn.add_alike hal x.2
    have hsm := Sn.add_small hgb x.2
    have hz : (Sn.add g x.2).2.1.mem.v.length ≤ huge ∧ (Sn.add g x.2).2.1.mem.l.length ≤ huge := by
      rcases Sn.add_snp hgb x.2 with e | ⟨b, hb⟩
      · rw [e]; exact ⟨Nat.zero_le _, Nat.zero_le _⟩
      · have := getS_small hb
        omega
    refine AddU_spec (SrcW.own hol hoc (by omega)) hx.2 (by omega) h24 fun G1 w26 q1 v1 l1 d1 hG1 r1 h26 => ⟨_, _, _, _, _, _, _, _, _, _, _, _, _, rfl, ?_⟩
    generalize hA : Sn.add g x.2 = A at *
    intro w34
    have h34 : St E (blkL w26.heap.size 29 z5 :: blkL gp 126 (gtV A.1 q1) :: byA q1 A.1.b :: kn G1 :: byA own x.2 :: blkL rp 128 (gtV r qr) :: byA qr r.b :: L) w34 := h26.alloc (.cells ⟨z5⟩ 29)
    clear_value w34
    generalize w26.heap.size = b34 at *
    refine ⟨rfl, ok_snp h34 rfl A.2.1.idx A.2.1.term v1 l1 d1, ?_⟩
    intro w35
    have h35 : St E (blkL b34 29 (snpL A.2.1.idx A.2.1.term v1 l1 d1) :: blkL gp 126 (gtV A.1 q1) :: byA q1 A.1.b :: kn G1 :: byA own x.2 :: blkL rp 128 (gtV r qr) :: byA qr r.b :: L) w35 := h34.wr_snp rfl _ _ v1 l1 d1
    clear_value w35
    have hG01 := Fz.le_trans hG hG1
    obtain ⟨ad2, hae2, hrd2⟩ := rdrow hG01 h35 (by simp)
    refine ⟨by omega, by omega, ad2, hae2, _, _, _, hrd2, ?_⟩
    have h36 : St E (blkL rp 128 (gtV r qr) :: byA qr r.b :: kn G1 :: blkL b34 29 (snpL A.2.1.idx A.2.1.term v1 l1 d1) :: blkL gp 126 (gtV A.1 q1) :: byA q1 A.1.b :: byA own x.2 :: L) w35 := h35.sel 7 [5, 6, 3, 0, 1, 2, 4] (by simp)
    have hrb : r.b.length ≤ 32768 := by rw [← hal.2.1]; exact hgb
    refine RAddU_spec (hx.1.mono hG01) hx.2 (by omega) h36 fun G2 w39 q2 v2 l2 d2 g2 hG2 hal3 r2 h39 => ⟨_, _, _, _, _, _, _, _, _, _, _, _, _, rfl, ?_⟩
    rw [← e2] at r2 ⊢
    intro w47
    have h47 : St E (blkL w39.heap.size 29 z5 :: blkL rp 128 (gtV g2 q2) :: byA q2 g2.b :: kn G2 :: blkL b34 29 (snpL A.2.1.idx A.2.1.term v1 l1 d1) :: blkL gp 126 (gtV A.1 q1) :: byA q1 A.1.b :: byA own x.2 :: L) w47 := h39.alloc (.cells ⟨z5⟩ 29)
    clear_value w47
    generalize w39.heap.size = b47 at *
    refine ⟨rfl, ok_snp h47 rfl A.2.1.idx A.2.1.term v2 l2 d2, ?_⟩
    intro w48
    have h48 : St E (blkL b47 29 (snpL A.2.1.idx A.2.1.term v2 l2 d2) :: blkL rp 128 (gtV g2 q2) :: byA q2 g2.b :: kn G2 :: blkL b34 29 (snpL A.2.1.idx A.2.1.term v1 l1 d1) :: blkL gp 126 (gtV A.1 q1) :: byA q1 A.1.b :: byA own x.2 :: L) w48 := h47.wr_snp rfl _ _ v2 l2 d2
    clear_value w48
    have h49 : St E (byA own x.2 :: kn G2 :: blkL b47 29 (snpL A.2.1.idx A.2.1.term v2 l2 d2) :: blkL b34 29 (snpL A.2.1.idx A.2.1.term v1 l1 d1) :: blkL rp 128 (gtV g2 q2) :: byA q2 g2.b :: blkL gp 126 (gtV A.1 q1) :: byA q1 A.1.b :: L) w48 := h48.sel 8 [7, 3, 0, 4, 1, 2, 5, 6] (by simp)
    refine xor_loop hx.2 h49 fun w55 ys h55 => ?_
    refine ite_b (fun hh => by simp at hh) fun _ => ite_b (fun hh => by simp at hh) fun _ => ?_
    refine ⟨_, _, _, _, _, _, _, _, _, _, _, rd_snp h55.f3, _, _, _, _, _, _, _, _, _, _, _, rd_snp h55.f2, ?_⟩
    refine SSame_spec (F := G2) (by simp) (r1.mono hG2) r2 hz.1 hz.2 h55 fun w67 h67 => ⟨_, rfl, ite_b (fun hh => by simp at hh) fun _ => ?_⟩
    have h68 : St E (blkL gp 126 (gtV A.1 q1) :: byA q1 A.1.b :: kn G2 :: blkL rp 128 (gtV g2 q2) :: byA q2 g2.b :: L) w67 := h67.sel 8 [6, 7, 1, 4, 5] (by simp)
    refine GLen_spec h68 ⟨_, rfl, ?_⟩
    have h69 : St E (blkL rp 128 (gtV g2 q2) :: byA q2 g2.b :: blkL gp 126 (gtV A.1 q1) :: byA q1 A.1.b :: kn G2 :: L) w67 := h68.sel 5 [3, 4, 0, 1, 2] (by simp)
    refine RGLen_spec h69 ⟨_, rfl, ?_⟩
    have heb : A.1.b = g2.b := by rw [hal2.2.1, ← hal3.2.1]
    refine ite_b (fun hh => by rw [heb] at hh; simp at hh) fun _ => ?_
    rw [succ_big (by omega)]
    refine ih (by omega) (by omega) w67 G2 A.1 g2 q1 q2 (Fz.le_trans hG01 hG2) ?_ hsm h68
    exact ⟨hal2.1.trans hal3.1.symm, heb, fun hb => (hal2.2.2 hb).trans (hal3.2.2 (by rw [hal3.1, ← hal2.1]; exact hb)).symm⟩
  all_goals
    refine nilAdd_spec (done h) fun w81 h81 => ⟨_, _, _, _, _, _, _, _, _, _, _, _, _, rfl, ?_⟩
    intro w89
    have h89 : St E (blkL w81.heap.size 29 z5 :: kn G :: L) w89 := h81.alloc (.cells ⟨z5⟩ 29)
    clear_value w89
    generalize w81.heap.size = b89 at *
    refine ⟨rfl, ok_snp h89 rfl 0 0 nilS nilS nilS, ?_⟩
    intro w90
    have h90 : St E (kn G :: blkL b89 29 z5 :: L) w90 := (h89.wr_snp rfl 0 0 nilS nilS nilS).f1
    clear_value w90
    refine live_spec h90 fun G2 w92 hG2 h92 => ⟨_, rfl, ite_b (fun _ => ite_b (fun _ => ?_) fun hh => by simp at hh) fun hh => by cases hh⟩
    refine nilLen_spec ⟨_, rfl, ?_⟩
    exact congB (k G2 w92 (Fz.le_trans hG hG2) (h92.sel 2 [0] (by simp))) (by decide)
theorem gathers_law {H : Type} {enc : TypeId × Value → H} {W : World} {a : Option Addr} {l c : Nat} {d : DataW H} {ps : List MemPlace} (h : DataW.Trod enc Tryz.prog W 0 (fun _ => true) true 60 (.slice a l c) d ps)
    (hz : (DataW.weightsEach Tryz.prog [60] [d]).all (· ≤ reachBytes) = true) : Calls Tryz.prog 7 #[.slice a l c] W fun e w' => e = .returned (.bool true) ∧ RowKit.Below W.heap.size W w' := by
  obtain ⟨m, hm⟩ := h
  have hr : reachBytes ≤ 140737488355328 := by decide
  obtain ⟨qs, hq, hl⟩ := open_rows hm fun n hn => Nat.le_trans (each_le hz (j := 0) rfl rfl n hn) hr
  exact gathers_walk hq hl (St.start_kn W) fun G w' hG h' => ⟨rfl, h'.below_kn hG⟩
end
end Go.Vc
