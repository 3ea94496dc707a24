/- Texts of this claim's own, laid into one. -/
import Derived.SizedLaws
import Derived.Test.YtclinifclfahfaaGreatProg
import Derived.KernelRfl
import Derived.Test.YtclinifclfahfaaGreatXSnapSavesA
import Derived.Test.YtclinifclfahfaaGreatXSnapSavesB
import Derived.Test.YtclinifclfahfaaGreatXSnapSavesC
import Derived.Test.YtclinifclfahfaaGreatXSnapSavesD
import Derived.Test.YtclinifclfahfaaGreatXSnapSavesE
import Derived.Test.YtclinifclfahfaaGreatXSnapSavesF
set_option linter.all false
namespace Go.Sn
def digR : Nat → Nat → Bs
  | 0, n => [dig n]
  | f + 1, n => if n < 10 then [dig n] else digR f (n / 10) ++ [dig n]
theorem digs_zero : ∀ f, digs f 0 = []
  | 0 => rfl
  | f + 1 => by unfold digs; rw [if_pos rfl]
theorem digR_digs : ∀ (f n : Nat), 0 < n → n < 10 ^ (f + 1) → digR f n = digs (f + 1) n
  | 0, n, h0, h1 => by
    have : n / 10 = 0 := by omega
    unfold digR digs
    rw [if_neg (by omega), this, digs_zero]; rfl
  | f + 1, n, h0, h1 => by
    unfold digR
    conv => rhs; unfold digs
    rw [if_neg (by omega : ¬ n = 0)]
    by_cases h : n < 10
    · rw [if_pos h, show n / 10 = 0 by omega, digs_zero]; rfl
    · rw [if_neg h, digR_digs f (n / 10) (by omega) (by rw [Nat.pow_succ] at h1; omega)]
def digits (n : Nat) : Bs := digR 13 n
theorem digits_dec {n : Nat} (h0 : 0 < n) (h : n ≤ 1099511627776) : digits n = dec n := digR_digs 13 n h0 (by omega)
theorem digR_len : ∀ (f n : Nat), (digR f n).length ≤ f + 1
  | 0, _ => Nat.le_refl _
  | f + 1, n => by
    have := digR_len f (n / 10)
    unfold digR
    split
    · simp
    · rw [List.length_append]; simp; omega
end Go.Sn
namespace Go.Vc
open Go Go.Proofs Go.Proofs.YtclinifclfahfaaGreat
set_option maxRecDepth 100000
section
variable {E w : World} {L : List Asrt} {R : RT} {F G : Fz} {q s o l : Sl} {b n : Cm.Bs} {c rp : Nat} {d : Dk.Ds}
theorem conv_one {x : UInt8} {bb : Nat} (h : St E (byA (some ⟨bb, 0, none⟩, 1, 1) [x] :: L) w) : (convert 27 9 (.slice (some ⟨bb, 0, none⟩) 1 1)).run Tryz.prog w = .ok (.string (bs [x])) w :=
  convert_string (e := 5) (by kernel_rfl) (by kernel_rfl) (by kernel_rfl) h.rdS_own
theorem dig_wrap {n : Nat} : IntKind.wrap .u8 (IntKind.wrap .i64 ((48 : Int) + ((n % 10 : Nat) : Int))) = ((Sn.dig n).toNat : Int) := by
  rw [wrap_id (by omega) (by omega), Sn.dig_toNat]
  have h9 : n % 10 < 10 := Nat.mod_lt _ (by decide)
  generalize n % 10 = r at *
  unfold IntKind.wrap
  simp [IntKind.signed, IntKind.bits]
  omega
theorem RDigits_spec : ∀ (f n : Nat) (L : List Asrt) (w : World) (R : RT), n < 10 ^ (f + 1) → n ≤ 1099511627776 → f ≤ 20 → St E L w → (∀ w', St E L w' → R (.returned (.string (bs (Sn.digR f n)))) w') → Calls Tryz.prog 64 #[.int .i64 (n : Int)] w R := by
  intro f
  induction f with
  | zero =>
    intro n L w R hn hb hf h k
    refine C_q8e ?_
    unfold T_q8e
    refine ite_d (fun hh => ?_) fun hh => absurd hh (by omega)
    have e : (n : Int) = ((n % 10 : Nat) : Int) := by omega
    rw [e, dig_wrap]
    intro w2
    have h2 : St E (byA (some ⟨w.heap.size, 0, none⟩, 1, 1) [Sn.dig n] :: L) w2 := h.by_new [Sn.dig n] (by show 1 ≤ big; unfold big; omega)
    clear_value w2
    exact runV_ok (conv_one h2) ⟨_, rfl, k w2 h2.drop⟩
  | succ f ih =>
    intro n L w R hn hb hf h k
    refine C_q8e ?_
    unfold T_q8e
    unfold Sn.digR at k
    refine ite_d (fun hh => ?_) fun hh => ?_
    · rw [if_pos (by omega)] at k
      have e : (n : Int) = ((n % 10 : Nat) : Int) := by omega
      rw [e, dig_wrap]
      intro w2
      have h2 : St E (byA (some ⟨w.heap.size, 0, none⟩, 1, 1) [Sn.dig n] :: L) w2 := h.by_new [Sn.dig n] (by show 1 ≤ big; unfold big; omega)
      clear_value w2
      exact runV_ok (conv_one h2) ⟨_, rfl, k w2 h2.drop⟩
    · rw [if_neg (by omega)] at k
      have hdl := Sn.digR_len f (n / 10)
      have e1 : IntKind.wrap .i64 (Int.tdiv (n : Int) 10) = ((n / 10 : Nat) : Int) := by
        have e : Int.tdiv (n : Int) 10 = ((n / 10 : Nat) : Int) := by rw [Int.tdiv_eq_ediv_of_nonneg (by omega)]; omega
        rw [e]
        exact wrap_id (by omega) (by omega)
      have e2 : Int.tmod (n : Int) 10 = ((n % 10 : Nat) : Int) := by rw [Int.tmod_eq_emod_of_nonneg (by omega)]; omega
      rw [e1, e2, dig_wrap]
      have ihn := fun (L : List Asrt) (w : World) (R : RT) => ih (n / 10) L w R (by rw [Nat.pow_succ] at hn; omega) (by omega) (by omega)
      have add := fun (x y : Operand) (w : World) => add_str x y (Sn.digR f (n / 10)) [Sn.dig n] (by simp; omega) w
      intro w6
      have h6 : St E L w6 := h.drew
      clear_value w6
      refine ⟨?_, ?_⟩
      · refine ihn L w6 _ h6 fun w8 h8 => ⟨_, rfl, trivial, ?_⟩
        intro w10
        have h10 : St E (byA (some ⟨w8.heap.size, 0, none⟩, 1, 1) [Sn.dig n] :: L) w10 := h8.by_new [Sn.dig n] (by show 1 ≤ big; unfold big; omega)
        clear_value w10
        exact ⟨trivial, runV_ok (conv_one h10) ⟨_, rfl, trivial, runV_ok (add _ _ w10) ⟨_, rfl, trivial, k w10 h10.drop⟩⟩⟩
      · intro w17
        have h17 : St E (byA (some ⟨w6.heap.size, 0, none⟩, 1, 1) [Sn.dig n] :: L) w17 := h6.by_new [Sn.dig n] (by show 1 ≤ big; unfold big; omega)
        clear_value w17
        refine ⟨trivial, ?_, ?_⟩
        · refine ihn _ w17 _ h17 fun w19 h19 => ⟨_, rfl, trivial, ?_⟩
          exact runV_ok (conv_one h19) ⟨_, rfl, trivial, runV_ok (add _ _ w19) ⟨_, rfl, trivial, k w19 h19.drop⟩⟩
        · refine runV_ok (conv_one h17) ⟨_, rfl, trivial, ?_⟩
          refine ihn _ w17 _ h17 fun w31 h31 => ⟨_, rfl, trivial, ?_⟩
          exact runV_ok (add _ _ w31) ⟨_, rfl, trivial, k w31 h31.drop⟩
theorem rnum_1 {s : Cm.Bs} {K : Bool → World → Prop} {Kp : XT} (k : K (!(decide (6 ≤ s.length ∧ s.length ≤ 18) && decide (s.take 5 = Sn.pre))) w) : T_q5m (bs Sn.pre) (bs s) w K Kp := by
  unfold T_q5m
  rw [bs_size, bs_size]
  have h5 : Sn.pre.length = 5 := rfl
  rw [h5]
  refine ite_d (fun hh => ?_) fun hh => ite_d (fun h2 => ?_) fun h2 => ?_
  · rw [decide_eq_false (by omega)] at k; exact k
  · rw [wrap_id (by omega) (by omega)] at h2
    rw [decide_eq_false (by omega)] at k; exact k
  · rw [wrap_id (by omega) (by omega)] at h2
    rw [decide_eq_true (by omega), Bool.true_and] at k
    refine ⟨by omega, by omega, ?_⟩
    have e : (bs s).extract 0 (((5 : Nat) : Int).toNat) = bs (s.take 5) := bs_extract s 0 5
    rw [e, bs_beq]
    exact k
theorem rnum_3 {s : Cm.Bs} {i : Nat} {K : Bool → World → Prop} {Kp : XT} (hi : i < s.length) (k : K (!Sn.isDig s[i]) w) : T_q5o (bs s) (i : Int) w K Kp := by
  unfold T_q5o
  rw [Int.toNat_natCast]
  refine ⟨by omega, s[i], by rw [bs_get]; exact List.getElem?_eq_getElem hi, ite_d (fun hh => ?_) fun hh => ⟨by omega, s[i], by rw [bs_get]; exact List.getElem?_eq_getElem hi, ?_⟩⟩
  · have e : Sn.isDig s[i] = false := by unfold Sn.isDig; exact decide_eq_false (by omega)
    rw [e] at k; exact k
  · by_cases h2 : s[i].toNat ≤ 57
    · have e : Sn.isDig s[i] = true := by unfold Sn.isDig; exact decide_eq_true (by omega)
      rw [e] at k; rw [decide_eq_false (by omega)]; exact k
    · have e : Sn.isDig s[i] = false := by unfold Sn.isDig; exact decide_eq_false (by omega)
      rw [e] at k; rw [decide_eq_true (by omega)]; exact k
set_option maxHeartbeats 1000000 in
theorem RNumbered_spec {s : Cm.Bs} (h : St E L w) (k : ∀ w', St E L w' → R (.returned (.int .i64 ((Sn.numbered s : Nat) : Int))) w') : Calls Tryz.prog 65 #[.string (bs Sn.pre), .string (bs s)] w R := by
  refine C_q7f ?_
  unfold T_q7f
  have zero : ∀ {w : World}, Sn.numbered s = 0 → St E L w → R (.returned (.int .i64 0)) w := fun {w} e h => by have := k w h; rw [e] at this; exact this
  refine rnum_1 (ite_b (fun hb => zero ?_ h) fun hb => ?_)
  · unfold Sn.numbered Sn.shaped
    rw [if_neg]
    rintro ⟨h1, _⟩
    rw [Bool.and_eq_true, Bool.and_eq_true] at h1
    rw [h1.1, h1.2.1] at hb
    cases hb
  have hb' : (decide (6 ≤ s.length ∧ s.length ≤ 18) && decide (s.take 5 = Sn.pre)) = true := by simpa using hb
  rw [Bool.and_eq_true] at hb'
  have hlen := of_decide_eq_true hb'.1
  have hshape : Sn.shaped s = (s.drop 5).all Sn.isDig := by unfold Sn.shaped; rw [hb'.1, hb'.2]; rfl
  have hdl : (s.drop 5).length = s.length - 5 := List.length_drop
  unfold T_q5n
  intro X hX
  have h5 : (bs Sn.pre).size = 5 := rfl
  rw [h5]
  have hgo : ∀ j, j ≤ (s.drop 5).length → ((s.drop 5).take j).all Sn.isDig = true → X ((Sn.val ((s.drop 5).take j) : Nat) : Int) ((5 + j : Nat) : Int) w := by
    intro j hj
    refine up_to ((s.drop 5).length - j) (Q := fun t => ((s.drop 5).take (j + t)).all Sn.isDig = true → X ((Sn.val ((s.drop 5).take (j + t)) : Nat) : Int) ((5 + (j + t) : Nat) : Int) w) ?_
    intro t ht ih hall
    have hjt : j + t ≤ (s.drop 5).length := by omega
    generalize hJ : j + t = J at *
    refine hX _ _ _ ?_
    unfold T_q7f_2_body
    rw [bs_size]
    refine ite_d (fun hh => ?_) fun hh => ?_
    · have hJl : J < (s.drop 5).length := by omega
      have hsl : 5 + J < s.length := by omega
      have hget : (s.drop 5)[J] = s[5 + J] := List.getElem_drop
      refine rnum_3 hsl (ite_b (fun hd => zero ?_ h) fun hd => ?_)
      · have hd : Sn.isDig s[5 + J] = false := by simpa using hd
        unfold Sn.numbered
        rw [hshape, if_neg]
        rintro ⟨h1, _⟩
        rw [List.all_eq_true] at h1
        have := h1 (s.drop 5)[J] (List.getElem_mem hJl)
        rw [hget, hd] at this; cases this
      · have hd : Sn.isDig s[5 + J] = true := by simpa using hd
        have hv := val_take hJl
        have hsm := val_small hall (by rw [List.length_take]; omega)
        have hA2 : ((s.drop 5).take (J + 1)).all Sn.isDig = true := by
          rw [List.take_succ_eq_append_getElem hJl, List.all_append, hall, hget]
          simp [hd]
        have ihJ := ih (by omega) (by rw [show j + (t + 1) = J + 1 by omega]; exact hA2)
        rw [show j + (t + 1) = J + 1 by omega, hv, hget] at ihJ
        have hdd : 48 ≤ s[5 + J].toNat ∧ s[5 + J].toNat ≤ 57 := by
          unfold Sn.isDig at hd
          exact of_decide_eq_true hd
        have e1 : IntKind.wrap .u8 (((s[5 + J].toNat : Nat) : Int) - 48) = ((s[5 + J].toNat - 48 : Nat) : Int) := by
          unfold IntKind.wrap
          simp [IntKind.signed, IntKind.bits]
          omega
        rw [Int.toNat_natCast]
        refine ⟨by omega, s[5 + J], by rw [bs_get]; exact List.getElem?_eq_getElem hsl, ?_⟩
        rw [e1, wrap_id (x := ((s[5 + J].toNat - 48 : Nat) : Int)) (by omega) (by omega), wrap_id (x := ((Sn.val ((s.drop 5).take J) : Nat) : Int) * 10) (by omega) (by omega), wrap_id (x := ((Sn.val ((s.drop 5).take J) : Nat) : Int) * 10 + _) (by omega) (by omega), wrap_id (x := ((5 + J : Nat) : Int) + 1) (by omega) (by omega)]
        have e3 : ((10 * Sn.val ((s.drop 5).take J) + (s[5 + J].toNat - 48) : Nat) : Int) = ((Sn.val ((s.drop 5).take J) : Nat) : Int) * 10 + ((s[5 + J].toNat - 48 : Nat) : Int) := by omega
        rw [e3] at ihJ
        rw [show ((5 + (J + 1) : Nat) : Int) = ((5 + J : Nat) : Int) + 1 by omega] at ihJ
        exact ihJ
    · have hJl : J = (s.drop 5).length := by omega
      subst hJl
      rw [List.take_length] at hall ⊢
      have hsm := val_small hall (by omega)
      have hnum : Sn.numbered s = if Sn.val (s.drop 5) ≤ 1099511627776 ∧ Sn.dec (Sn.val (s.drop 5)) = s.drop 5 then Sn.val (s.drop 5) else 0 := by
        unfold Sn.numbered
        rw [hshape, hall]
        simp
      generalize Sn.val (s.drop 5) = v at *
      dsimp -zeta only
      intro w33
      have h33 : St E L w33 := h.drew
      clear_value w33
      refine ite_d (fun hm => ⟨trivial, zero ?_ h33⟩) fun hm => ?_
      · rw [hnum, if_neg]
        rintro ⟨h1, _⟩
        omega
      have hv40 : v ≤ 1099511627776 := by omega
      rw [h5]
      refine ⟨by omega, by omega, ?_⟩
      refine RDigits_spec 13 v L w33 _ (by omega) hv40 (by decide) h33 fun w35 h35 => ⟨_, rfl, trivial, ?_⟩
      have e5 : (bs s).extract (((5 : Nat) : Int).toNat) s.length = bs (s.drop 5) := by
        have := bs_extract s 5 s.length
        rw [List.take_length] at this
        exact this
      rw [e5, name_ne]
      have hd : Sn.digR 13 v = Sn.digits v := rfl
      rw [hd]
      rcases Nat.eq_zero_or_pos v with h0 | h0
      · have hz : Sn.numbered s = 0 := by rw [hnum]; split; exact h0; rfl
        refine ite_d (fun _ => zero hz h35) fun _ => ?_
        rw [h0]
        exact zero hz h35
      · rw [Sn.digits_dec h0 hv40]
        refine ite_d (fun hne => zero ?_ h35) fun hne => ?_
        · rw [hnum, if_neg (fun hh => hne hh.2)]
        · have he : Sn.dec v = s.drop 5 := Decidable.byContradiction hne
          have := k w35 h35
          rw [hnum, if_pos ⟨hv40, he⟩] at this
          exact this
  have := hgo 0 (Nat.zero_le _) (by simp)
  exact this
end
end Go.Vc
namespace Go.Vc
open Go Go.Proofs Go.Proofs.YtclinifclfahfaaGreat Go.RowKit
set_option maxRecDepth 100000
section
variable {H : Type} {enc : TypeId × Value → H} {W : World} {P : Program}
theorem slice_capS {t e : TypeId} {a : Option Addr} {l c : Nat} {fuel : Nat} {x : DataW H × List MemPlace} (ht : P.underlying t = some (.slice e)) (h : DataW.trod enc P W 0 (fun _ => true) true fuel t [.slice a l c] = some x) : l ≤ c ∧ ∀ N, (∀ n ∈ DataW.weights P t x.1, n ≤ N) → l * P.bytesOf e ≤ N := by
  rcases DataW.trod_slice ht h with ⟨hcs, _⟩ | ⟨ad, len, cap, elems, rest, n, _, hcs, hx, _, hl, _, hlen, _⟩
  · simp at hcs
    obtain ⟨rfl, rfl, rfl⟩ := hcs
    exact ⟨Nat.le_refl _, fun N _ => by simp⟩
  · simp at hcs
    obtain ⟨rfl, rfl, rfl⟩ := hcs
    refine ⟨hl, fun N hN => ?_⟩
    have := hN ((elems.length + rest.length) * P.bytesOf e) (by rw [hx]; simp [DataW.weights, ht])
    have h2 : l * P.bytesOf e ≤ (elems.length + rest.length) * P.bytesOf e := Nat.mul_le_mul_right _ (by omega)
    omega
section
variable {t e : TypeId} {a : Option Addr} {l c sz : Nat}
end
theorem sliceV {t e : TypeId} (ht : P.underlying t = some (.slice e)) {fuel : Nat} {v : Value} {x : DataW H × List MemPlace} (h : DataW.trod enc P W 0 (fun _ => true) true fuel t [v] = some x) : ∃ a l c, v = .slice a l c := by
  rcases DataW.trod_slice ht h with ⟨hcs, _⟩ | ⟨ad, len, cap, _, _, _, _, hcs, _⟩
  · simp at hcs; exact ⟨_, _, _, hcs⟩
  · simp at hcs; exact ⟨_, _, _, hcs⟩
end
section
variable {H : Type} {enc : TypeId × Value → H} {W : World}
def F0 (W : World) : Fz := fun b => W.heap[b]?
theorem bytesF {a : Option Addr} {l c : Nat} {fuel : Nat} {x : DataW H × List MemPlace} (hm : DataW.trod enc Tryz.prog W 0 (fun _ => true) true fuel 27 [.slice a l c] = some x) : ∃ b, Src (F0 W) (a, l, c) b ∧ ∀ N, (∀ n ∈ DataW.weights Tryz.prog 27 x.1, n ≤ N) → b.length ≤ N := by
  obtain ⟨b, hr, hl⟩ := open_bytes Tryz.underlying27 Tryz.underlying5 (by kernel_rfl) hm
  have hn : b.length = l := by have := hr.1; simpa using this
  obtain ⟨hc, hw⟩ := slice_capS Tryz.underlying27 hm
  refine ⟨b, ⟨RdF.of_world hr, hn, hc, by rw [hn]; exact hl⟩, fun N hN => ?_⟩
  have := hw N hN
  rw [show Tryz.prog.bytesOf 5 = 1 by kernel_rfl] at this
  omega
theorem intsF {a : Option Addr} {l c : Nat} {fuel : Nat} {x : DataW H × List MemPlace} (hm : DataW.trod enc Tryz.prog W 0 (fun _ => true) true fuel 24 [.slice a l c] = some x) : ∃ b : List Int, RdF (F0 W) a l 1 (intV b) ∧ b.length = l ∧ l ≤ maxLen ∧ (∀ i ∈ b, -9223372036854775808 ≤ i ∧ i ≤ 9223372036854775807) ∧ ∀ N, (∀ n ∈ DataW.weights Tryz.prog 24 x.1, n ≤ N) → b.length * 8 ≤ N := by
  obtain ⟨b, hr, hl, hg⟩ := open_elems (β := Int) (f := fun i => [.int .i64 i]) (fun i => -9223372036854775808 ≤ i ∧ i ≤ 9223372036854775807) (fun _ => rfl) (by decide) Tryz.underlying24 (by kernel_rfl) (fun n cs x hx => by
    obtain ⟨k, rfl, _, hw⟩ := DataW.trod_int Tryz.underlying3 hx
    simp [Lit.wf, IntKind.min, IntKind.max, IntKind.signed, IntKind.bits] at hw
    exact ⟨k, rfl, by omega⟩) hm
  have hn : b.length = l := by have := hr.count (f := fun i : Int => [Value.int .i64 i]) (fun _ => rfl) (by decide); exact this
  rw [← List.map_eq_flatMap] at hr
  obtain ⟨hc, hw⟩ := slice_capS Tryz.underlying24 hm
  refine ⟨b, RdF.of_world hr, hn, hl, hg, fun N hN => ?_⟩
  have := hw N hN
  rw [show Tryz.prog.bytesOf 3 = 8 by kernel_rfl] at this
  omega
def snpZ (N : Nat) (s : Sn.Snp) : Prop := s.mem.v.length * 8 ≤ N ∧ s.mem.l.length * 8 ≤ N ∧ s.data.length ≤ N
def snpH (s : Sn.Snp) : Prop := s.mem.v.length ≤ huge ∧ s.mem.l.length ≤ huge
theorem open_snap {cs : List Value} {fuel : Nat} {x : DataW H × List MemPlace} (hx : DataW.trod enc Tryz.prog W 0 (fun _ => true) true fuel 29 cs = some x) :
    ∃ (s : Sn.Snp) (v l d : Sl), cs = snpL s.idx s.term v l d ∧ snpR (F0 W) v l d s ∧ snpH s ∧ ∀ N, (∀ n ∈ DataW.weights Tryz.prog 29 x.1, n ≤ N) → snpZ N s := by
  obtain ⟨xs, m, _, hxe, hcl, hxl, hfs⟩ := DataW.trod_struct Tryz.underlying29 hx
  rw [show Tryz.prog.cellsOf 29 = 5 by kernel_rfl] at hcl
  have hxl3 : xs.length = 3 := hxl
  have c1 : Tryz.prog.cellsOf 23 = 2 := by kernel_rfl
  have c2 : Tryz.prog.cellsOf 26 = 2 := by kernel_rfl
  have c3 : Tryz.prog.cellsOf 27 = 1 := by kernel_rfl
  have c4 : Tryz.prog.cellsOf 3 = 1 := by kernel_rfl
  have c5 : Tryz.prog.cellsOf 24 = 1 := by kernel_rfl
  match cs, hcl with
  | [v0, v1, v2, v3, v4], _ =>
    have f0 := hfs 0 _ rfl
    have f1 := hfs 1 _ rfl
    have f2 := hfs 2 _ rfl
    simp only [List.getElem_toArray, List.getElem_cons_zero, List.getElem_cons_succ, c1, c2, c3, List.drop_zero, List.drop_succ_cons, List.take_succ_cons, List.take_zero] at f0 f1 f2
    rw [List.getElem?_eq_getElem (by omega)] at f0 f1 f2
    obtain ⟨ys, m1, _, hye, _, hyl, hgs⟩ := DataW.trod_struct Tryz.underlying23 f0
    obtain ⟨zs, m2, _, hze, _, hzl, hhs⟩ := DataW.trod_struct Tryz.underlying26 f1
    have hyl2 : ys.length = 2 := hyl
    have hzl2 : zs.length = 2 := hzl
    have g0 := hgs 0 _ rfl
    have g1 := hgs 1 _ rfl
    have h0 := hhs 0 _ rfl
    have h1 := hhs 1 _ rfl
    simp only [List.getElem_toArray, List.getElem_cons_zero, List.getElem_cons_succ, c4, c5, List.drop_zero, List.drop_succ_cons, List.take_succ_cons, List.take_zero] at g0 g1 h0 h1
    rw [List.getElem?_eq_getElem (by omega)] at g0 g1 h0 h1
    obtain ⟨k0, e0, _⟩ := DataW.trod_int Tryz.underlying3 g0
    obtain ⟨k1, e1, _⟩ := DataW.trod_int Tryz.underlying3 g1
    obtain ⟨a2, l2, q2, rfl⟩ := sliceV Tryz.underlying24 h0
    obtain ⟨a3, l3, q3, rfl⟩ := sliceV Tryz.underlying24 h1
    obtain ⟨a4, l4, q4, rfl⟩ := sliceV Tryz.underlying27 f2
    obtain ⟨bv, rv, nv, mv, _, wv⟩ := intsF h0
    obtain ⟨bl, rl, nl, ml, _, wl⟩ := intsF h1
    obtain ⟨bd, rd, wd⟩ := bytesF f2
    simp at e0 e1
    subst e0 e1
    have hml : maxLen = huge := rfl
    refine ⟨⟨k0, k1, ⟨bv, bl⟩, bd⟩, (a2, l2, q2), (a3, l3, q3), (a4, l4, q4), rfl, ⟨⟨rv, rl⟩, rd⟩, ⟨by show bv.length ≤ huge; omega, by show bl.length ≤ huge; omega⟩, fun N hN => ?_⟩
    have hN' : ∀ n ∈ DataW.weightsEach Tryz.prog [23, 26, 27] (xs.map (·.1)), n ≤ N := fun n hn => hN n (by
      rw [hxe]
      unfold DataW.weights
      rw [Tryz.underlying29]
      exact hn)
    have hN1 : ∀ n ∈ DataW.weights Tryz.prog 26 (xs[1].1), n ≤ N := fun n hn => hN' n (DataW.weights_mem_each (j := 1) rfl (by rw [List.getElem?_map, List.getElem?_eq_getElem (by omega)]; rfl) n hn)
    have hN2 : ∀ n ∈ DataW.weights Tryz.prog 27 (xs[2].1), n ≤ N := fun n hn => hN' n (DataW.weights_mem_each (j := 2) rfl (by rw [List.getElem?_map, List.getElem?_eq_getElem (by omega)]; rfl) n hn)
    have hM : ∀ n ∈ DataW.weightsEach Tryz.prog [24, 24] (zs.map (·.1)), n ≤ N := fun n hn => hN1 n (by
      rw [hze]
      unfold DataW.weights
      rw [Tryz.underlying26]
      exact hn)
    exact ⟨wv N fun n hn => hM n (DataW.weights_mem_each (j := 0) rfl (by rw [List.getElem?_map, List.getElem?_eq_getElem (by omega)]; rfl) n hn), wl N fun n hn => hM n (DataW.weights_mem_each (j := 1) rfl (by rw [List.getElem?_map, List.getElem?_eq_getElem (by omega)]; rfl) n hn), wd N hN2⟩
end
end Go.Vc
namespace Go.Vc
open Go Go.Proofs Go.Proofs.YtclinifclfahfaaGreat
set_option maxRecDepth 100000
section
variable {E w : World} {L : List Asrt} {R : RT} {F G : Fz} {q p o : Sl} {b : Cm.Bs}
theorem right_small {m : Sn.Mem} (h : Sn.rightM m = true) : m.v.length ≤ 9 ∧ m.l.length ≤ 9 := by
  unfold Sn.rightM at h
  simp only [Bool.and_eq_true] at h
  exact ⟨Sn.upI_len h.1.2.1, Sn.upI_len h.1.2.2⟩
theorem getS_small {s : Sn.Snp} (h : Sn.getS b = .ok s) : s.mem.v.length ≤ 9 ∧ s.mem.l.length ≤ 9 ∧ s.data.length ≤ 16384 := by
  have h1 := (Sn.putB_getS h).1
  obtain ⟨_, h2, h3, _⟩ := Sn.body_len h1
  have := right_small h3
  exact ⟨this.1, this.2, h2⟩
theorem none_R (G : Fz) : snpR G nilS nilS nilS Sn.none := ⟨⟨RdF.nil G Option.none, RdF.nil G Option.none⟩, ⟨RdF.nil G Option.none, rfl, Nat.le_refl _, by decide⟩⟩
end
end Go.Vc
namespace Go.Sn
open Go.Dk (Ds Fl now named Inv find without putF)
def remN (i : Nat) : List Bs → Ds → Ds
  | [], d => d
  | n :: r, d => remN i r (if 0 < numbered n ∧ numbered n < i then (Dk.remove d n).1 else d)
theorem remN_l (i : Nat) : ∀ (ns : List Bs) (d : Ds), remN i ns d = { d with l := d.l.filter fun f => !ns.any fun n => decide ((0 < numbered n ∧ numbered n < i) ∧ f.name = n) }
  | [], d => by
    unfold remN
    have : d.l.filter (fun f => !([] : List Bs).any fun n => decide ((0 < numbered n ∧ numbered n < i) ∧ f.name = n)) = d.l := List.filter_eq_self.2 fun _ _ => rfl
    rw [this]
  | n :: r, d => by
    unfold remN
    rw [remN_l i r]
    split
    · rename_i hk
      rw [remove_l]
      unfold without
      simp only [List.filter_filter]
      congr 2
      funext f
      simp [hk, Bool.and_comm]
    · rename_i hk
      congr 2
      funext f
      simp only [List.any_cons, decide_eq_false (fun h : (0 < numbered n ∧ numbered n < i) ∧ f.name = n => hk h.1), Bool.false_or]
theorem remN_save {d : Ds} {i : Nat} : remN i (d.l.map (·.name)) d = { d with l := d.l.filter fun f => !older i f } := by
  rw [remN_l]
  congr 1
  refine List.filter_congr fun f hf => ?_
  congr 1
  rw [Bool.eq_iff_iff, List.any_eq_true]
  unfold older
  simp only [Bool.and_eq_true, decide_eq_true_eq]
  constructor
  · rintro ⟨n, hn, h1, h2⟩
    rw [h2]; exact h1
  · rintro h
    exact ⟨f.name, List.mem_map_of_mem hf, h, rfl⟩
theorem best_snoc : ∀ (l : List Fl) (b : Snp) (f : Fl), best b (l ++ [f]) = match good f with
    | some s => if (best b l).idx < s.idx then s else best b l
    | Option.none => best b l
  | [], b, f => by
    show best b [f] = _
    unfold best
    cases good f with
    | none => rfl
    | some s => simp only [best]
  | g :: r, b, f => by
    rw [List.cons_append]
    unfold best
    cases good g with
    | none => exact best_snoc r b f
    | some s =>
      simp only
      split
      · exact best_snoc r s f
      · exact best_snoc r b f
end Go.Sn
namespace Go.Vc
open Go Go.Proofs Go.Proofs.YtclinifclfahfaaGreat
set_option maxRecDepth 100000
section
variable {E w : World} {L : List Asrt} {R : RT} {F G : Fz} {q o l : Sl} {b n : Cm.Bs} {c rp : Nat} {d : Dk.Ds}
theorem rsave_2 {b7 : Nat} {v l dd : Sl} {s : Sn.Snp} {kx i : Nat} {K : Bool → World → Prop} {Kp : XT} (hi : s.idx = (i : Int)) (h : St E (blkL b7 29 (snpL s.idx s.term v l dd) :: L) w) (k : K (decide (0 < kx ∧ kx < i)) w) : T_q8h ⟨b7, 0, none⟩ (kx : Int) w K Kp := by
  unfold T_q8h
  refine ite_d (fun hh => ⟨_, rd_cell h.at_blk rfl rfl, ?_⟩) fun hh => ?_
  · rw [hi]
    by_cases h2 : kx < i
    · rw [decide_eq_true ⟨by omega, h2⟩] at k; rw [decide_eq_true (by omega)]; exact k
    · rw [decide_eq_false (fun hx => h2 hx.2)] at k; rw [decide_eq_false (by omega)]; exact k
  · rw [decide_eq_false (by omega)] at k; exact k
theorem rsave_loop {v l dd : Sl} {s : Sn.Snp} {ns : List Cm.Bs} {b7 i : Nat} {K : World → Prop} {Kp : XT} {fin : Dk.Ds} (hi : s.idx = (i : Int)) (hns : ns.length ≤ 1000) (hol : o.2.1 = ns.length) (I : Dk.Inv d) (hfin : Sn.remN i ns d = fin)
    (h : St E (blkL b7 29 (snpL s.idx s.term v l dd) :: stA o ns :: rdkA F c rp d :: kn F :: L) w) (k : ∀ G w', Fz.le F G → St E (rdkA G c rp fin :: kn G :: L) w' → K w') :
    T_q8g 0 (some ⟨rp, 0, none⟩) ⟨b7, 0, none⟩ o.1 o.2.1 o.2.2 w K Kp := by
  unfold T_q8g
  intro X hX
  refine up_to ns.length (Q := fun j => ∀ (w : World) (dj : Dk.Ds) (G : Fz), Fz.le F G → Dk.Inv dj → Sn.remN i (ns.drop j) dj = fin → St E (blkL b7 29 (snpL s.idx s.term v l dd) :: stA o ns :: rdkA G c rp dj :: kn G :: L) w → X (j : Int) w) ?_ w d F (Fz.le_refl F) I hfin h
  intro j hj ih w dj G hG I hfin h
  refine hX _ _ ?_
  unfold T_q9n_1_body
  rw [hol]
  refine ite_d (fun hh => ?_) fun hh => ?_
  · have hjl : j < ns.length := by omega
    have rdn : ∀ {w : World} {G : Fz} {dj : Dk.Ds}, St E (blkL b7 29 (snpL s.idx s.term v l dd) :: stA o ns :: rdkA G c rp dj :: kn G :: L) w → ∃ ad, o.1 = some ad ∧ rd w (ad.add (j * 1)) (.string (bs ns[j])) := fun h => one_at (f := encN) (fun _ => rfl) (h.f1.rdS_own :) hjl
    obtain ⟨ad, hae, hrd⟩ := rdn h
    rw [List.drop_eq_getElem_cons hjl] at hfin
    unfold Sn.remN at hfin
    refine ⟨by omega, by omega, ad, hae, _, hrd, ?_⟩
    rw [show ByteArray.mk #[115, 110, 97, 112, 45] = bs Sn.pre from rfl]
    have ihj := ih hjl
    refine RNumbered_spec h fun w52 h52 => ⟨_, rfl, ?_⟩
    rw [succ_big (by unfold big; omega)]
    refine rsave_2 hi h52 (ite_d (fun hlt => ?_) fun hlt => ?_)
    · rw [if_pos hlt] at hfin
      obtain ⟨ad2, hae2, hrd2⟩ := rdn h52
      refine ⟨by omega, by omega, ad2, hae2, _, hrd2, ?_⟩
      have h53 : St E (rdkA G c rp dj :: kn G :: blkL b7 29 (snpL s.idx s.term v l dd) :: stA o ns :: L) w52 := h52.sel 4 [2, 3, 0, 1] (by simp)
      refine RDRemove_spec (n := ns[j]) I h53 fun G2 w65 hG2 h65 => ⟨_, rfl, ?_⟩
      exact ihj w65 _ G2 (Fz.le_trans hG hG2) (I.remove _) hfin (h65.sel 4 [2, 3, 0, 1] (by simp))
    · rw [if_neg hlt] at hfin
      exact ihj w52 dj G hG I hfin h52
  · have : j = ns.length := by omega
    subst this
    rw [List.drop_length] at hfin
    have hfin : dj = fin := hfin
    subst hfin
    exact k G w hG (h.sel 4 [2, 3] (by simp))
set_option maxHeartbeats 2000000 in
theorem RSave_spec {v l dd : Sl} {s : Sn.Snp} (I : Dk.Inv d) (hc : c ≤ 379) (r : snpR F v l dd s) (z1 : s.mem.v.length ≤ huge) (z2 : s.mem.l.length ≤ huge) (h : St E (rdkA F c rp d :: kn F :: L) w)
    (k : ∀ (G : Fz) (w' : World), Fz.le F G → St E (rdkA G (c + 1) rp (Sn.save d s).1 :: kn G :: L) w' → R (.returned (.int .i64 (Sn.save d s).2)) w') :
    Calls Tryz.prog 19 #[.pointer (some ⟨rp, 0, none⟩), snpV s.idx s.term v l dd] w R := by
  refine C_q9n ?_
  unfold T_q9n
  intro w7
  have h7 : St E (blkL w.heap.size 29 (snpL s.idx s.term v l dd) :: rdkA F c rp d :: kn F :: L) w7 := h.alloc (.cells ⟨snpL s.idx s.term v l dd⟩ 29)
  clear_value w7
  generalize w.heap.size = b7 at *
  refine ite_b (fun hh => by simp at hh) fun _ => ?_
  refine ⟨_, _, _, _, _, _, _, _, _, _, _, rd_snp h7, ?_⟩
  have hp := putB_le s
  refine RSPut_spec (by simp) r z1 z2 h7 fun w14 p h14 => ⟨_, _, _, _, rfl, ?_⟩
  refine ite_b (fun he => ?_) fun he => ?_
  · have he' : Sn.putE s ≠ 0 := by simpa using he
    have e : Sn.save d s = (d, Sn.putE s) := by unfold Sn.save; rw [if_pos he']
    rw [e] at k
    have h15 : St E (rdkA F c rp d :: kn F :: L) w14 := h14.sel 4 [2, 3] (by simp)
    exact k F w14 (Fz.le_refl F) (h15.rdk_c (Nat.le_succ c))
  have he' : Sn.putE s = 0 := by simpa using he
  obtain ⟨i, hi, hi0, hi1⟩ := putE_ok he'
  have hs : Sn.save d s = (
    let d1 := (Dk.remove d Sn.tmp).1
    let w := Dk.write d1 Sn.tmp 0 (Sn.putB s)
    if w.2 ≠ 0 then ((Dk.remove w.1 Sn.tmp).1, w.2)
    else
      let d3 := (Dk.sync w.1 Sn.tmp).1
      let r := Dk.rename d3 Sn.tmp (Sn.nameOf i)
      if r.2 ≠ 0 then ((Dk.remove r.1 Sn.tmp).1, r.2)
      else ({ r.1 with l := r.1.l.filter fun f => !Sn.older i f }, 0)) := by
    unfold Sn.save
    rw [if_neg (by rw [he']; decide), hi]
    rfl
  rw [hs] at k
  simp only at k
  clear hs
  have h16 : St E (byA p (Sn.putB s) :: kn F :: rdkA F c rp d :: blkL b7 29 (snpL s.idx s.term v l dd) :: L) w14 := h14.sel 4 [0, 3, 2, 1] (by simp)
  obtain ⟨G, hG, h17, hsrc⟩ := St.srcB2 h16 (by omega)
  have h18 : St E (rdkA G c rp d :: kn G :: blkL b7 29 (snpL s.idx s.term v l dd) :: L) w14 := St.rdk_mono h17.f1 hG
  rw [tmp_lit]
  have I1 := I.remove Sn.tmp
  refine RDRemove_spec (n := Sn.tmp) I h18 fun Ga w18 hGa h19 => ⟨_, rfl, ?_⟩
  generalize (Dk.remove d Sn.tmp).1 = d1 at *
  refine RDWrite_spec (n := Sn.tmp) (at_ := 0) I1 (hsrc.mono hGa) (by omega) (Nat.zero_le _) (by omega) (by show 8 ≤ huge; decide) h19 fun G2 w21 hG2 h21 => ⟨_, rfl, ?_⟩
  have hz0 : ((0 : Nat) : Int) = 0 := rfl
  rw [hz0] at h21 ⊢
  have I2 := I1.write Sn.tmp 0 (Sn.putB s)
  generalize Dk.write d1 Sn.tmp 0 (Sn.putB s) = W at *
  have hGG := Fz.le_trans hG (Fz.le_trans hGa hG2)
  refine ite_b (fun hw => ?_) fun hw => ?_
  · have hw : W.2 ≠ 0 := by simpa using hw
    rw [if_pos hw] at k
    refine RDRemove_spec (n := Sn.tmp) I2 h21 fun G3 w24 hG3 h24 => ⟨_, rfl, ?_⟩
    exact k G3 w24 (Fz.le_trans hGG hG3) (h24.sel 3 [0, 1] (by simp))
  have hw : W.2 = 0 := by simpa using hw
  rw [if_neg (by simpa using hw)] at k
  refine RDSync_spec (n := Sn.tmp) I2 h21 fun G3 w27 hG3 h27 => ⟨_, rfl, ?_⟩
  have I3 := I2.sync Sn.tmp
  generalize (Dk.sync W.1 Sn.tmp).1 = d3 at *
  refine ⟨_, rd_cell h27.f2.at_blk rfl rfl, ?_⟩
  rw [hi]
  refine RDigits_spec 13 i _ w27 _ (by omega) hi1 (by decide) h27 fun w31 h31 => ⟨_, rfl, ?_⟩
  have hdg : Sn.digR 13 i = Sn.dec i := Sn.digits_dec hi0 hi1
  rw [hdg]
  have hdl := (Sn.dec_ok hi1).2.1
  refine runV_ok (add_str _ _ Sn.pre (Sn.dec i) (by simp [Sn.pre]; omega) w31) ⟨_, rfl, ?_⟩
  have hnm : Sn.pre ++ Sn.dec i = Sn.nameOf i := rfl
  rw [hnm]
  have hnl := Sn.name_len hi1
  refine RDRename_spec (a := Sn.tmp) (b := Sn.nameOf i) (by unfold huge; omega) I3 h31 fun G4 w37 hG4 h37 => ⟨_, rfl, ?_⟩
  have I4 := I3.rename Sn.tmp (Sn.nameOf i)
  generalize Dk.rename d3 Sn.tmp (Sn.nameOf i) = rr at *
  have hG4a := Fz.le_trans hGG (Fz.le_trans hG3 hG4)
  refine ite_b (fun h40 => ?_) fun h40 => ?_
  · have h40 : rr.2 ≠ 0 := by simpa using h40
    rw [if_pos h40] at k
    refine RDRemove_spec (n := Sn.tmp) I4 h37 fun G5 w40 hG5 h41 => ⟨_, rfl, ?_⟩
    exact k G5 w40 (Fz.le_trans hG4a hG5) (h41.sel 3 [0, 1] (by simp))
  have h40 : rr.2 = 0 := by simpa using h40
  rw [if_neg (by simpa using h40)] at k
  refine RDNames_spec I4 h37 fun w43 o hol h43 => ⟨_, _, _, rfl, ?_⟩
  have hns : (namesOf rr.1).length ≤ 1000 := by unfold namesOf; rw [List.length_map]; have := I4.n; omega
  refine rsave_loop (i := i) hi hns hol I4 (Sn.remN_save (d := rr.1) (i := i)) (h43.sel 4 [3, 0, 1, 2] (by simp)) fun G5 w' hG5 h' => ?_
  exact k G5 w' (Fz.le_trans hG4a hG5) h'
theorem good_at (I : Dk.Inv d) {f : Dk.Fl} (hf : f ∈ d.l) : (Dk.read d f.name).1 = Dk.now f := by
  unfold Dk.read
  rw [Sn.find_name I hf]
set_option maxHeartbeats 4000000 in
theorem RLoad_spec (I : Dk.Inv d) (h : St E (rdkA F c rp d :: kn F :: L) w)
    (k : ∀ (G : Fz) (w' : World) (v l dd : Sl), Fz.le F G → snpR G v l dd (Sn.load d).1 → St E (rdkA G c rp d :: kn G :: L) w' → R (.returned (.tuple #[snpV (Sn.load d).1.idx (Sn.load d).1.term v l dd, .int .i64 (Sn.load d).2])) w') :
    Calls Tryz.prog 25 #[.pointer (some ⟨rp, 0, none⟩)] w R := by
  have hn16 := I.n
  refine C_q9l ?_
  unfold T_q9l
  intro w2
  have h2 : St E (blkL w.heap.size 29 z5 :: rdkA F c rp d :: kn F :: L) w2 := h.alloc (.cells ⟨z5⟩ 29)
  clear_value w2
  generalize w.heap.size = ba at *
  refine ite_b (fun hh => by simp at hh) fun _ => ?_
  intro w9
  have h9 : St E (blkL w2.heap.size 29 z5 :: blkL ba 29 z5 :: rdkA F c rp d :: kn F :: L) w9 := h2.alloc (.cells ⟨z5⟩ 29)
  clear_value w9
  generalize w2.heap.size = bb at *
  refine ⟨rfl, ok_snp h9 rfl 0 0 nilS nilS nilS, ?_⟩
  intro w10
  have h10 : St E (blkL bb 29 z5 :: blkL ba 29 z5 :: rdkA F c rp d :: kn F :: L) w10 := h9.wr_snp rfl 0 0 nilS nilS nilS
  clear_value w10
  have h11 : St E (rdkA F c rp d :: kn F :: blkL bb 29 z5 :: blkL ba 29 z5 :: L) w10 := h10.sel 4 [2, 3, 0, 1] (by simp)
  refine RDNames_spec I h11 fun w12 o hol h12 => ⟨_, _, _, rfl, ?_⟩
  have hnl : (namesOf d).length = d.l.length := by unfold namesOf; rw [List.length_map]
  unfold T_q8f
  intro X hX
  refine up_to d.l.length (Q := fun j => ∀ (w : World) (G : Fz) (v l dd : Sl), Fz.le F G → snpR G v l dd (Sn.best Sn.none (d.l.take j)) → St E (blkL bb 29 (snpL (Sn.best Sn.none (d.l.take j)).idx (Sn.best Sn.none (d.l.take j)).term v l dd) :: stA o (namesOf d) :: rdkA G c rp d :: kn G :: blkL ba 29 z5 :: L) w → X (j : Int) w) ?_ w12 F nilS nilS nilS (Fz.le_refl F) (none_R F) (h12.sel 5 [3, 0, 1, 2, 4] (by simp))
  intro j hj ih w G v l dd hG hr h
  refine hX _ _ ?_
  unfold T_q9l_1_body
  rw [hol]
  refine ite_d (fun hh => ?_) fun hh => ?_
  · have hjl : j < d.l.length := by omega
    have hjn : j < (namesOf d).length := by omega
    have hname : (namesOf d)[j] = d.l[j].name := List.getElem_map (l := d.l) (fun f : Dk.Fl => f.name)
    have rdn : ∀ {w : World} {M : List Asrt} {A : Asrt}, St E (A :: stA o (namesOf d) :: M) w → ∃ ad, o.1 = some ad ∧ rd w (ad.add (j * 1)) (.string (bs d.l[j].name)) := fun h => by
      have := one_at (f := encN) (fun _ => rfl) (h.f1.rdS_own :) hjn
      rw [hname] at this
      exact this
    obtain ⟨ad, hae, hrd⟩ := rdn h
    refine ⟨by omega, by omega, ad, hae, _, hrd, ?_⟩
    rw [show ByteArray.mk #[115, 110, 97, 112, 45] = bs Sn.pre from rfl]
    have ihj := ih hjl
    rw [List.take_succ_eq_append_getElem hjl, Sn.best_snoc] at ihj
    have hgr := good_at I (List.getElem_mem hjl)
    have hrl := read_le I d.l[j].name
    have hgood : Sn.good d.l[j] = if 0 < Sn.numbered d.l[j].name then (match Sn.getS (Dk.now d.l[j]) with
        | .ok s => if s.idx = (Sn.numbered d.l[j].name : Int) then some s else Option.none
        | .error _ => Option.none) else Option.none := rfl
    generalize Sn.best Sn.none (d.l.take j) = bst at *
    refine RNumbered_spec h fun w21 h21 => ⟨_, rfl, ?_⟩
    obtain ⟨ad2, hae2, hrd2⟩ := rdn h21
    refine ⟨by omega, by omega, ad2, hae2, _, hrd2, ?_⟩
    generalize Sn.good d.l[j] = gd at *
    generalize d.l[j] = fj at *
    have h22 : St E (rdkA G c rp d :: kn G :: blkL bb 29 (snpL bst.idx bst.term v l dd) :: stA o (namesOf d) :: blkL ba 29 z5 :: L) w21 := h21.sel 5 [2, 3, 0, 1, 4] (by simp)
    refine RDRead_spec (n := fj.name) I h22 fun w26 o26 h26 => ⟨_, _, _, _, rfl, ?_⟩
    rw [hgr] at h26 hrl
    have h27 : St E (byA o26 (Dk.now fj) :: kn G :: rdkA G c rp d :: blkL bb 29 (snpL bst.idx bst.term v l dd) :: stA o (namesOf d) :: blkL ba 29 z5 :: L) w26 := h26.sel 6 [0, 2, 1, 3, 4, 5] (by simp)
    obtain ⟨G1, hG1, h28, hsrc⟩ := St.srcB2 h27 (by omega)
    generalize Dk.now fj = bytes at *
    generalize Sn.numbered fj.name = kx at *
    rw [succ_big (by unfold big; omega)]
    have keepB : ∀ {w : World} {G2 : Fz}, Fz.le G1 G2 → gd = Option.none → St E (kn G2 :: rdkA G c rp d :: blkL bb 29 (snpL bst.idx bst.term v l dd) :: stA o (namesOf d) :: blkL ba 29 z5 :: L) w → X ((j + 1 : Nat) : Int) w := fun {w G2} hG2 hg h => by
      rw [hg] at ihj
      have h2 : St E (rdkA G c rp d :: blkL bb 29 (snpL bst.idx bst.term v l dd) :: stA o (namesOf d) :: kn G2 :: blkL ba 29 z5 :: L) w := h.sel 5 [1, 2, 3, 0, 4] (by simp)
      have hGG2 := Fz.le_trans hG1 hG2
      exact ihj w G2 v l dd (Fz.le_trans hG hGG2) (hr.mono hGG2) ((St.rdk_mono h2 hGG2).sel 5 [1, 2, 0, 3, 4] (by simp))
    refine RSGet_spec hsrc (by unfold big; omega) h28 (fun w30 e hge he h30 => ⟨_, _, _, _, _, _, _, _, _, _, _, _, rfl, ?_⟩) fun G2 w30 v2 l2 d2 sn hG2 hge hr2 h30 => ⟨_, _, _, _, _, _, _, _, _, _, _, _, rfl, ?_⟩
    · rw [hge] at hgood
      have hgn : gd = Option.none := by rw [hgood]; split <;> rfl
      intro w37
      have h37 : St E (blkL w30.heap.size 29 z5 :: kn G1 :: rdkA G c rp d :: blkL bb 29 (snpL bst.idx bst.term v l dd) :: stA o (namesOf d) :: blkL ba 29 z5 :: L) w37 := h30.alloc (.cells ⟨z5⟩ 29)
      clear_value w37
      generalize w30.heap.size = b3 at *
      refine ⟨rfl, ok_snp h37 rfl 0 0 nilS nilS nilS, ?_⟩
      intro w38
      have h38 := (h37.wr_snp rfl 0 0 nilS nilS nilS).drop
      refine ite_d (fun _ => ite_b (fun hz => absurd (by simpa using hz) he) fun _ => keepB (Fz.le_refl _) hgn h38) fun _ => keepB (Fz.le_refl _) hgn h38
    · rw [hge] at hgood
      simp only at hgood
      intro w37
      have h37 : St E (blkL w30.heap.size 29 z5 :: kn G2 :: rdkA G c rp d :: blkL bb 29 (snpL bst.idx bst.term v l dd) :: stA o (namesOf d) :: blkL ba 29 z5 :: L) w37 := h30.alloc (.cells ⟨z5⟩ 29)
      clear_value w37
      generalize w30.heap.size = b3 at *
      refine ⟨rfl, ok_snp h37 rfl sn.idx sn.term v2 l2 d2, ?_⟩
      intro w38
      have h38 : St E (blkL b3 29 (snpL sn.idx sn.term v2 l2 d2) :: kn G2 :: rdkA G c rp d :: blkL bb 29 (snpL bst.idx bst.term v l dd) :: stA o (namesOf d) :: blkL ba 29 z5 :: L) w38 := h37.wr_snp rfl sn.idx sn.term v2 l2 d2
      clear_value w38
      refine ite_d (fun hk0 => ?_) fun hk0 => ?_
      · rw [if_pos (by omega)] at hgood
        refine ite_b (fun _ => ?_) fun hz => by simp at hz
        refine ⟨_, rd_cell h38.at_blk rfl rfl, ite_b (fun hi => ?_) fun hi => ?_⟩
        · have hi : sn.idx = (kx : Int) := by simpa using hi
          rw [if_pos hi] at hgood
          rw [hgood] at ihj
          simp only at ihj
          refine ⟨_, rd_cell h38.f3.at_blk rfl rfl, ite_d (fun hgt => ?_) fun hgt => ?_⟩
          · rw [if_pos (by omega)] at ihj
            have h39 : St E (blkL bb 29 (snpL bst.idx bst.term v l dd) :: blkL b3 29 (snpL sn.idx sn.term v2 l2 d2) :: kn G2 :: rdkA G c rp d :: stA o (namesOf d) :: blkL ba 29 z5 :: L) w38 := h38.sel 6 [3, 0, 1, 2, 4, 5] (by simp)
            refine ⟨_, _, _, _, _, _, _, _, _, _, _, rd_snp h38, rfl, ok_snp h39 rfl sn.idx sn.term v2 l2 d2, ?_⟩
            intro w46
            have h46 : St E (blkL bb 29 (snpL sn.idx sn.term v2 l2 d2) :: blkL b3 29 (snpL sn.idx sn.term v2 l2 d2) :: kn G2 :: rdkA G c rp d :: stA o (namesOf d) :: blkL ba 29 z5 :: L) w46 := h39.wr_snp rfl sn.idx sn.term v2 l2 d2
            clear_value w46
            have hGG2 := Fz.le_trans hG1 hG2
            have h47 : St E (rdkA G c rp d :: blkL bb 29 (snpL sn.idx sn.term v2 l2 d2) :: stA o (namesOf d) :: kn G2 :: blkL ba 29 z5 :: L) w46 := h46.sel 6 [3, 0, 4, 2, 5] (by simp)
            exact ihj w46 G2 v2 l2 d2 (Fz.le_trans hG hGG2) hr2 ((St.rdk_mono h47 hGG2).sel 5 [1, 2, 0, 3, 4] (by simp))
          · rw [if_neg (by omega)] at ihj
            have hGG2 := Fz.le_trans hG1 hG2
            have h47 : St E (rdkA G c rp d :: blkL bb 29 (snpL bst.idx bst.term v l dd) :: stA o (namesOf d) :: kn G2 :: blkL ba 29 z5 :: L) w38 := h38.sel 6 [2, 3, 4, 1, 5] (by simp)
            exact ihj w38 G2 v l dd (Fz.le_trans hG hGG2) (hr.mono hGG2) ((St.rdk_mono h47 hGG2).sel 5 [1, 2, 0, 3, 4] (by simp))
        · have hi : sn.idx ≠ (kx : Int) := by simpa using hi
          rw [if_neg hi] at hgood
          exact keepB hG2 hgood h38.drop
      · rw [if_neg (by omega)] at hgood
        exact keepB hG2 hgood h38.drop
  · have hj2 : j = d.l.length := by omega
    subst hj2
    rw [List.take_length] at hr h
    have hld : Sn.load d = if (Sn.best Sn.none d.l).idx = 0 then (Sn.none, 8) else (Sn.best Sn.none d.l, 0) := rfl
    rw [hld] at k
    generalize Sn.best Sn.none d.l = bst at *
    refine ⟨_, rd_cell h.at_blk rfl rfl, ite_b (fun hz => ?_) fun hz => ?_⟩
    · have hz : bst.idx = 0 := by simpa using hz
      rw [if_pos hz] at k
      have h48 : St E (blkL ba 29 z5 :: rdkA G c rp d :: kn G :: L) w := h.sel 5 [4, 2, 3] (by simp)
      refine ⟨rfl, ok_snp h48 rfl 0 0 nilS nilS nilS, ?_⟩
      intro w49
      have h49 : St E (blkL ba 29 z5 :: rdkA G c rp d :: kn G :: L) w49 := h48.wr_snp rfl 0 0 nilS nilS nilS
      clear_value w49
      exact ⟨_, _, _, _, _, _, _, _, _, _, _, rd_snp h49, k G w49 nilS nilS nilS hG (none_R G) h49.drop⟩
    · have hz : bst.idx ≠ 0 := by simpa using hz
      rw [if_neg hz] at k
      have h48 : St E (blkL ba 29 z5 :: blkL bb 29 (snpL bst.idx bst.term v l dd) :: rdkA G c rp d :: kn G :: L) w := h.sel 5 [4, 0, 2, 3] (by simp)
      refine ⟨_, _, _, _, _, _, _, _, _, _, _, rd_snp h48.f1, rfl, ok_snp h48 rfl bst.idx bst.term v l dd, ?_⟩
      intro w60
      have h60 : St E (blkL ba 29 (snpL bst.idx bst.term v l dd) :: blkL bb 29 (snpL bst.idx bst.term v l dd) :: rdkA G c rp d :: kn G :: L) w60 := h48.wr_snp rfl bst.idx bst.term v l dd
      clear_value w60
      exact ⟨_, _, _, _, _, _, _, _, _, _, _, rd_snp h60, k G w60 v l dd hG hr h60.drop.drop⟩
end
end Go.Vc
namespace Go.Proofs.YtclinifclfahfaaGreat
open Go Go.Vc
set_option maxRecDepth 100000
set_option linter.unusedVariables false
def T_q42 (l13a : Option Addr) (l13l l13c : Nat) (i14 : Int) (w : World) (Kn : Bool → World → Prop) (Kp : XT) : Prop :=
 if (decide (i14 < ((l13l : Nat) : Int))) = true then (Kn (decide (i14 < 40)) w) else (Kn false w)
def T_q0u : Exit → Option (List (Nat × Value)) := fun x => match x with | .normal => some [(26, .bool false)] | .panic _ => some [] | _ => none
def T_q21 : Nat → Bool := ksOf [19, 20, 21, 22, 23, 24, 25, 26]
def H_q42 : Env → World → QT → Prop := unitHook 132 T_q21 [(1, .slice none 0 0), (7, .int .i64 0)] T_q0u fun l w C => match l with | [v0, v1] => T_q42 (pA v0) (pL v0) (pC v0) (pInt v1) w (fun b16 w => C .normal [.bool b16] w) (fun ch w => C (.panic ch) [] w) | _ => False
theorem T_q42_hl : allP (hokL Tryz.prog (hookAt []) (at_ (bodyOf Tryz.f6) [1, 1, 0, 1, 0, 0, 0, 0]) 464) = (True) := by kernel_rfl
theorem T_q42_hok : HOk Tryz.prog (hookAt []) (at_ (bodyOf Tryz.f6) [1, 1, 0, 1, 0, 0, 0, 0]) 464 := HOk_of _ _ (by rw [T_q42_hl]; exact trivial)
theorem T_q42_eq (C : Conts) (l13a : Option Addr) (l13l l13c : Nat) (i14 : Int) (w : World) : vcCode Tryz.prog (hookAt []) (at_ (bodyOf Tryz.f6) [1, 1, 0, 1, 0, 0, 0, 0]) 464 ⟨[(1, .slice l13a l13l l13c), (7, .int .i64 i14)], 132, []⟩ w (unitQ T_q0u C) = T_q42 l13a l13l l13c i14 w (fun b17 w => C .normal [.bool b17] w) (fun ch w => C (.panic ch) [] w) := by kernel_rfl
theorem T_q65_2_ok : UnitOk Tryz.prog H_q42 (at_ (bodyOf Tryz.f6) [1, 1, 0, 1, 0, 0, 0, 0]) 464 := unit_ok (H := (hookAt [])) (by kernel_rfl) T_q42_hok fun l w C hk => by
  obtain ⟨v0, _, rfl, k_v0, hk_v0⟩ := kC hk
  obtain ⟨l13a, l13l, l13c, rfl⟩ := kind_slice k_v0
  obtain ⟨v1, _, rfl, k_v1, hk_v1⟩ := kC hk_v0
  obtain ⟨i14, rfl⟩ := kind_int k_v1
  obtain rfl := kN hk_v1
  exact T_q42_eq C l13a l13l l13c i14 w
def T_q43 (x31 : Addr) (w : World) (Kn : Bool → World → Prop) (Kp : XT) : Prop :=
 ∃ (s32a : Option Addr) (s32l s32c : Nat), rd w ((x31.add 1).add 4) (.slice s32a s32l s32c) ∧ if (decide (((s32l : Nat) : Int) > 4000)) = true then (Kn true w) else (∃ (s33a : Option Addr) (s33l s33c : Nat), rd w (x31.add 7) (.slice s33a s33l s33c) ∧ Kn (decide (((s33l : Nat) : Int) > 50)) w)
def T_q0v : Exit → Option (List (Nat × Value)) := fun x => match x with | .normal => some [(43, .bool false)] | .panic _ => some [] | _ => none
def T_q22 : Nat → Bool := ksOf [33, 34, 35, 36, 37, 38, 39, 40, 41, 42, 43]
def H_q43 : Env → World → QT → Prop := unitHook 132 T_q22 [(8, .pointer (some ⟨0, 0, none⟩))] T_q0v fun l w C => match l with | [v0] => T_q43 (pAddr v0) w (fun b35 w => C .normal [.bool b35] w) (fun ch w => C (.panic ch) [] w) | _ => False
theorem T_q43_hl : allP (hokL Tryz.prog (hookAt []) (at_ (bodyOf Tryz.f6) [1, 1, 0, 1, 0, 0, 1, 0, 0, 1, 0, 0]) 7460) = (True) := by kernel_rfl
theorem T_q43_hok : HOk Tryz.prog (hookAt []) (at_ (bodyOf Tryz.f6) [1, 1, 0, 1, 0, 0, 1, 0, 0, 1, 0, 0]) 7460 := HOk_of _ _ (by rw [T_q43_hl]; exact trivial)
theorem T_q43_eq (C : Conts) (x31 : Addr) (w : World) : vcCode Tryz.prog (hookAt []) (at_ (bodyOf Tryz.f6) [1, 1, 0, 1, 0, 0, 1, 0, 0, 1, 0, 0]) 7460 ⟨[(8, .pointer (some x31))], 132, []⟩ w (unitQ T_q0v C) = T_q43 x31 w (fun b36 w => C .normal [.bool b36] w) (fun ch w => C (.panic ch) [] w) := by kernel_rfl
theorem T_q65_3_ok : UnitOk Tryz.prog H_q43 (at_ (bodyOf Tryz.f6) [1, 1, 0, 1, 0, 0, 1, 0, 0, 1, 0, 0]) 7460 := unit_ok (H := (hookAt [])) (by kernel_rfl) T_q43_hok fun l w C hk => by
  obtain ⟨v0, _, rfl, k_v0, hk_v0⟩ := kC hk
  obtain ⟨x31, rfl⟩ := kind_addr k_v0
  obtain rfl := kN hk_v0
  exact T_q43_eq C x31 w
def T_q44 (d40 r41 : Option Addr) (x42 : Addr) (x43 : Int) (w : World) (Kn : World → Prop) (Kr : Bool → World → Prop) (Kp : XT) : Prop :=
 if (x43 == 0) = true then (let w44 : World := w.drew
 ∃ (x45 x46 : Int) (s47a : Option Addr) (s47l s47c : Nat) (s48a : Option Addr) (s48l s48c : Nat) (s49a : Option Addr) (s49l s49c : Nat), rd w44 (x42.add 1) (.agg #[.int .i64 x45, .int .i64 x46, .slice s47a s47l s47c, .slice s48a s48l s48c, .slice s49a s49l s49c]) ∧ ∃ (x50 x51 : Int) (s52a : Option Addr) (s52l s52c : Nat) (s53a : Option Addr) (s53l s53c : Nat) (s54a : Option Addr) (s54l s54c : Nat), rd w44 (x42.add 1) (.agg #[.int .i64 x50, .int .i64 x51, .slice s52a s52l s52c, .slice s53a s53l s53c, .slice s54a s54l s54c]) ∧ Calls Tryz.prog 18 #[.pointer d40, .agg #[.int .i64 x45, .int .i64 x46, .slice s47a s47l s47c, .slice s48a s48l s48c, .slice s49a s49l s49c]] w44 (ret (fun r55 w56 => ∃ x57 : Int, r55 = .int .i64 x57 ∧ (rd w56 (x42.add 1) (.agg #[.int .i64 x50, .int .i64 x51, .slice s52a s52l s52c, .slice s53a s53l s53c, .slice s54a s54l s54c]) ∧ True) ∧ Calls Tryz.prog 19 #[.pointer r41, .agg #[.int .i64 x50, .int .i64 x51, .slice s52a s52l s52c, .slice s53a s53l s53c, .slice s54a s54l s54c]] w56 (ret (fun r58 w59 => ∃ x60 : Int, r58 = .int .i64 x60 ∧ (True) ∧ if (x57 != x60) = true then (Kr false w59) else (Kn  w59)) Kp)) Kp)) else (if (x43 == 1) = true then (∃ (s61a : Option Addr) (s61l s61c : Nat), rd w (x42.add 7) (.slice s61a s61l s61c) ∧ Calls Tryz.prog 20 #[.pointer d40, .slice s61a s61l s61c] w (ret (fun r62 w63 => r62 = .tuple #[] ∧ ∃ (s64a : Option Addr) (s64l s64c : Nat), rd w63 (x42.add 7) (.slice s64a s64l s64c) ∧ Calls Tryz.prog 21 #[.pointer r41, .slice s64a s64l s64c] w63 (ret (fun r65 w66 => r65 = .tuple #[] ∧ Kn  w66) Kp)) Kp)) else (if (x43 == 2) = true then (let w67 : World := w.drew
 ∃ s68 : ByteArray, rd w67 (x42.add 6) (.string s68) ∧ ∃ (s69a : Option Addr) (s69l s69c : Nat), rd w67 ((x42.add 1).add 4) (.slice s69a s69l s69c) ∧ ∃ s70 : ByteArray, rd w67 (x42.add 6) (.string s70) ∧ ∃ (s71a : Option Addr) (s71l s71c : Nat), rd w67 ((x42.add 1).add 4) (.slice s71a s71l s71c) ∧ Calls Tryz.prog 22 #[.pointer d40, .string s68, .int .i64 0, .slice s69a s69l s69c] w67 (ret (fun r72 w73 => ∃ x74 : Int, r72 = .int .i64 x74 ∧ (rd w73 ((x42.add 1).add 4) (.slice s71a s71l s71c) ∧ rd w73 (x42.add 6) (.string s70) ∧ True) ∧ Calls Tryz.prog 23 #[.pointer r41, .string s70, .int .i64 0, .slice s71a s71l s71c] w73 (ret (fun r75 w76 => ∃ x77 : Int, r75 = .int .i64 x77 ∧ (True) ∧ if (x74 != x77) = true then (Kr false w76) else (Kn  w76)) Kp)) Kp)) else (Kn  w)))
def T_q0w : Exit → Option (List (Nat × Value)) := fun x => match x with | .normal => some [] | .ret => some [(4, .bool false)] | .panic _ => some [] | _ => none
def T_q23 : Nat → Bool := ksOf [4, 46, 47, 48, 49, 50, 51, 52, 53, 54, 55, 56, 57, 58, 59, 60, 61, 62, 63, 64, 65, 66, 67, 68, 69, 70, 71, 72, 73, 74, 75, 76, 77, 78, 79, 80, 81, 82, 83]
def H_q44 : Env → World → QT → Prop := unitHook 132 T_q23 [(5, .pointer none), (6, .pointer none), (8, .pointer (some ⟨0, 0, none⟩)), (45, .int .i64 0)] T_q0w fun l w C => match l with | [v0, v1, v2, v3] => T_q44 (pPtr v0) (pPtr v1) (pAddr v2) (pInt v3) w (fun w => C .normal [] w) (fun b79 w => C .ret [.bool b79] w) (fun ch w => C (.panic ch) [] w) | _ => False
theorem T_q44_hl : allP (hokL Tryz.prog (hookAt []) (at_ (bodyOf Tryz.f6) [1, 1, 0, 1, 0, 0, 1, 0, 0, 1, 1, 0, 1]) 14925) = (True) := by kernel_rfl
theorem T_q44_hok : HOk Tryz.prog (hookAt []) (at_ (bodyOf Tryz.f6) [1, 1, 0, 1, 0, 0, 1, 0, 0, 1, 1, 0, 1]) 14925 := HOk_of _ _ (by rw [T_q44_hl]; exact trivial)
theorem T_q44_eq (C : Conts) (d40 r41 : Option Addr) (x42 : Addr) (x43 : Int) (w : World) : vcCode Tryz.prog (hookAt []) (at_ (bodyOf Tryz.f6) [1, 1, 0, 1, 0, 0, 1, 0, 0, 1, 1, 0, 1]) 14925 ⟨[(5, .pointer d40), (6, .pointer r41), (8, .pointer (some x42)), (45, .int .i64 x43)], 132, []⟩ w (unitQ T_q0w C) = T_q44 d40 r41 x42 x43 w (fun w => C .normal [] w) (fun b80 w => C .ret [.bool b80] w) (fun ch w => C (.panic ch) [] w) := by kernel_rfl
theorem T_q65_4_ok : UnitOk Tryz.prog H_q44 (at_ (bodyOf Tryz.f6) [1, 1, 0, 1, 0, 0, 1, 0, 0, 1, 1, 0, 1]) 14925 := unit_ok (H := (hookAt [])) (by kernel_rfl) T_q44_hok fun l w C hk => by
  obtain ⟨v0, _, rfl, k_v0, hk_v0⟩ := kC hk
  obtain ⟨d40, rfl⟩ := kind_pointer k_v0
  obtain ⟨v1, _, rfl, k_v1, hk_v1⟩ := kC hk_v0
  obtain ⟨r41, rfl⟩ := kind_pointer k_v1
  obtain ⟨v2, _, rfl, k_v2, hk_v2⟩ := kC hk_v1
  obtain ⟨x42, rfl⟩ := kind_addr k_v2
  obtain ⟨v3, _, rfl, k_v3, hk_v3⟩ := kC hk_v2
  obtain ⟨x43, rfl⟩ := kind_int k_v3
  obtain rfl := kN hk_v3
  exact T_q44_eq C d40 r41 x42 x43 w
def T_q65_1_body (X : Int → World → Prop) (i9 : Int) (l10a : Option Addr) (l10l l10c : Nat) (d11 r12 : Option Addr) (w : World) (Kn : World → Prop) (Kr : Bool → World → Prop) (Kp : XT)  : Prop :=
 T_q42 l10a l10l l10c i9 w (fun b18 w19 => if b18 = true then (0 ≤ i9 ∧ i9 < ((l10l : Nat) : Int) ∧ ∃ b20, l10a = some b20 ∧ ∃ (x21 x22 x23 : Int) (s24a : Option Addr) (s24l s24c : Nat) (s25a : Option Addr) (s25l s25c : Nat) (s26a : Option Addr) (s26l s26c : Nat) (s27 : ByteArray) (s28a : Option Addr) (s28l s28c : Nat), rd w19 (b20.add (i9.toNat * 8)) (.agg #[.int .i64 x21, .int .i64 x22, .int .i64 x23, .slice s24a s24l s24c, .slice s25a s25l s25c, .slice s26a s26l s26c, .string s27, .slice s28a s28l s28c]) ∧ let w29 : World := w19.alloc (.cells #[.int .i64 0, .int .i64 0, .int .i64 0, .slice none 0 0, .slice none 0 0, .slice none 0 0, .string (ByteArray.mk #[]), .slice none 0 0] 47)
 (.agg #[.int .i64 x21, .int .i64 x22, .int .i64 x23, .slice s24a s24l s24c, .slice s25a s25l s25c, .slice s26a s26l s26c, .string s27, .slice s28a s28l s28c] : Value).cells.size = 8 ∧ wrOk w29 (⟨w19.heap.size, 0, none⟩ : Addr) (.agg #[.int .i64 x21, .int .i64 x22, .int .i64 x23, .slice s24a s24l s24c, .slice s25a s25l s25c, .slice s26a s26l s26c, .string s27, .slice s28a s28l s28c]) ∧ let w30 : World := wr w29 (⟨w19.heap.size, 0, none⟩ : Addr) (.agg #[.int .i64 x21, .int .i64 x22, .int .i64 x23, .slice s24a s24l s24c, .slice s25a s25l s25c, .slice s26a s26l s26c, .string s27, .slice s28a s28l s28c])
 T_q43 (⟨w19.heap.size, 0, none⟩ : Addr) w30 (fun b37 w38 => if b37 = true then (X (IntKind.wrap .i64 (i9 + 1)) w38) else (∃ x39 : Int, rd w38 (⟨w19.heap.size, 0, none⟩ : Addr) (.int .i64 x39) ∧ T_q44 d11 r12 (⟨w19.heap.size, 0, none⟩ : Addr) x39 w38 (fun w81 => Calls Tryz.prog 24 #[.pointer d11] w81 (ret (fun r82 w83 => ∃ (x84 x85 : Int) (s86a : Option Addr) (s86l s86c : Nat) (s87a : Option Addr) (s87l s87c : Nat) (s88a : Option Addr) (s88l s88c : Nat) (x89 : Int), r82 = .tuple #[.agg #[.int .i64 x84, .int .i64 x85, .slice s86a s86l s86c, .slice s87a s87l s87c, .slice s88a s88l s88c], .int .i64 x89] ∧ let w90 : World := w83.alloc (.cells #[.int .i64 0, .int .i64 0, .slice none 0 0, .slice none 0 0, .slice none 0 0] 29)
 (.agg #[.int .i64 x84, .int .i64 x85, .slice s86a s86l s86c, .slice s87a s87l s87c, .slice s88a s88l s88c] : Value).cells.size = 5 ∧ wrOk w90 (⟨w83.heap.size, 0, none⟩ : Addr) (.agg #[.int .i64 x84, .int .i64 x85, .slice s86a s86l s86c, .slice s87a s87l s87c, .slice s88a s88l s88c]) ∧ let w91 : World := wr w90 (⟨w83.heap.size, 0, none⟩ : Addr) (.agg #[.int .i64 x84, .int .i64 x85, .slice s86a s86l s86c, .slice s87a s87l s87c, .slice s88a s88l s88c])
 Calls Tryz.prog 25 #[.pointer r12] w91 (ret (fun r92 w93 => ∃ (x94 x95 : Int) (s96a : Option Addr) (s96l s96c : Nat) (s97a : Option Addr) (s97l s97c : Nat) (s98a : Option Addr) (s98l s98c : Nat) (x99 : Int), r92 = .tuple #[.agg #[.int .i64 x94, .int .i64 x95, .slice s96a s96l s96c, .slice s97a s97l s97c, .slice s98a s98l s98c], .int .i64 x99] ∧ let w100 : World := w93.alloc (.cells #[.int .i64 0, .int .i64 0, .slice none 0 0, .slice none 0 0, .slice none 0 0] 29)
 (.agg #[.int .i64 x94, .int .i64 x95, .slice s96a s96l s96c, .slice s97a s97l s97c, .slice s98a s98l s98c] : Value).cells.size = 5 ∧ wrOk w100 (⟨w93.heap.size, 0, none⟩ : Addr) (.agg #[.int .i64 x94, .int .i64 x95, .slice s96a s96l s96c, .slice s97a s97l s97c, .slice s98a s98l s98c]) ∧ let w101 : World := wr w100 (⟨w93.heap.size, 0, none⟩ : Addr) (.agg #[.int .i64 x94, .int .i64 x95, .slice s96a s96l s96c, .slice s97a s97l s97c, .slice s98a s98l s98c])
 if (x89 != x99) = true then (Kr false w101) else (∃ (x102 x103 : Int) (s104a : Option Addr) (s104l s104c : Nat) (s105a : Option Addr) (s105l s105c : Nat) (s106a : Option Addr) (s106l s106c : Nat), rd w101 (⟨w83.heap.size, 0, none⟩ : Addr) (.agg #[.int .i64 x102, .int .i64 x103, .slice s104a s104l s104c, .slice s105a s105l s105c, .slice s106a s106l s106c]) ∧ ∃ (x107 x108 : Int) (s109a : Option Addr) (s109l s109c : Nat) (s110a : Option Addr) (s110l s110c : Nat) (s111a : Option Addr) (s111l s111c : Nat), rd w101 (⟨w93.heap.size, 0, none⟩ : Addr) (.agg #[.int .i64 x107, .int .i64 x108, .slice s109a s109l s109c, .slice s110a s110l s110c, .slice s111a s111l s111c]) ∧ Calls Tryz.prog 12 #[.agg #[.int .i64 x102, .int .i64 x103, .slice s104a s104l s104c, .slice s105a s105l s105c, .slice s106a s106l s106c], .agg #[.int .i64 x107, .int .i64 x108, .slice s109a s109l s109c, .slice s110a s110l s110c, .slice s111a s111l s111c]] w101 (ret (fun r112 w113 => ∃ b114 : Bool, r112 = .bool b114 ∧ if (!b114) = true then (Kr false w113) else (Calls Tryz.prog 27 #[.pointer d11] w113 (ret (fun r115 w116 => ∃ (s117a : Option Addr) (s117l s117c : Nat), r115 = .slice s117a s117l s117c ∧ Calls Tryz.prog 28 #[.pointer r12] w116 (ret (fun r118 w119 => ∃ (s120a : Option Addr) (s120l s120c : Nat), r118 = .slice s120a s120l s120c ∧ Calls Tryz.prog 26 #[.slice s117a s117l s117c, .slice s120a s120l s120c] w119 (ret (fun r121 w122 => ∃ b123 : Bool, r121 = .bool b123 ∧ if (!b123) = true then (Kr false w122) else (Calls Tryz.prog 29 #[.pointer d11] w122 (ret (fun r124 w125 => ∃ x126 : Int, r124 = .int .i64 x126 ∧ Calls Tryz.prog 30 #[.pointer r12] w125 (ret (fun r127 w128 => ∃ x129 : Int, r127 = .int .i64 x129 ∧ if (x126 != x129) = true then (Kr false w128) else (X (IntKind.wrap .i64 (i9 + 1)) w128)) Kp)) Kp))) Kp)) Kp)) Kp))) Kp))) Kp)) Kp)) (fun b130 w131 => Kr b130 w131) Kp)) Kp) else (Kn  w19)) Kp
def T_q41 (i9 : Int) (l10a : Option Addr) (l10l l10c : Nat) (d11 r12 : Option Addr) (w : World) (Kn : World → Prop) (Kr : Bool → World → Prop) (Kp : XT) : Prop :=
 ∀ X : Int → World → Prop, (∀ (i9 : Int) (w : World), T_q65_1_body X i9 l10a l10l l10c d11 r12 w Kn Kr Kp → X i9 w) → X i9 w
def T_q0t : Exit → Option (List (Nat × Value)) := fun x => match x with | .normal => some [] | .ret => some [(4, .bool false)] | .panic _ => some [] | _ => none
def T_q20 : Nat → Bool := ksOf [4, 7, 8, 9, 10, 11, 12, 19, 20, 21, 22, 23, 24, 25, 26, 27, 28, 29, 30, 31, 32, 33, 34, 35, 36, 37, 38, 39, 40, 41, 42, 43, 44, 45, 46, 47, 48, 49, 50, 51, 52, 53, 54, 55, 56, 57, 58, 59, 60, 61, 62, 63, 64, 65, 66, 67, 68, 69, 70, 71, 72, 73, 74, 75, 76, 77, 78, 79, 80, 81, 82, 83, 84, 85, 86, 87, 88, 89, 90, 91, 92, 93, 94, 95, 96, 97, 98, 99, 100, 101, 102, 103, 104, 105, 106, 107, 108, 109, 110, 111, 112, 113, 114, 115, 116, 117]
def H_q41 : Env → World → QT → Prop := unitHook 132 T_q20 [(7, .int .i64 0), (1, .slice none 0 0), (5, .pointer none), (6, .pointer none)] T_q0t fun l w C => match l with | [v0, v1, v2, v3] => T_q41 (pInt v0) (pA v1) (pL v1) (pC v1) (pPtr v2) (pPtr v3) w (fun w => C .normal [] w) (fun b133 w => C .ret [.bool b133] w) (fun ch w => C (.panic ch) [] w) | _ => False
theorem T_q41_hl : allP (hokL Tryz.prog (hookAt [(464, H_q42), (7460, H_q43), (14925, H_q44)]) (at_ (bodyOf Tryz.f6) [1, 1, 0, 1, 0, 0]) 116) = (UnitOk Tryz.prog H_q42 (at_ (bodyOf Tryz.f6) [1, 1, 0, 1, 0, 0, 0, 0]) 464 ∧ UnitOk Tryz.prog H_q43 (at_ (bodyOf Tryz.f6) [1, 1, 0, 1, 0, 0, 1, 0, 0, 1, 0, 0]) 7460 ∧ UnitOk Tryz.prog H_q44 (at_ (bodyOf Tryz.f6) [1, 1, 0, 1, 0, 0, 1, 0, 0, 1, 1, 0, 1]) 14925 ∧ True) := by kernel_rfl
theorem T_q41_hok : HOk Tryz.prog (hookAt [(464, H_q42), (7460, H_q43), (14925, H_q44)]) (at_ (bodyOf Tryz.f6) [1, 1, 0, 1, 0, 0]) 116 := HOk_of _ _ (by rw [T_q41_hl]; exact ⟨T_q65_2_ok, T_q65_3_ok, T_q65_4_ok, trivial⟩)
theorem T_q41_eq (C : Conts) (X : List Value → World → Prop) (i9 : Int) (l10a : Option Addr) (l10l l10c : Nat) (d11 r12 : Option Addr) (w : World) : vcCode Tryz.prog (hookAt [(464, H_q42), (7460, H_q43), (14925, H_q44)]) (at_ (bodyOf Tryz.f6) [1, 1, 0, 1, 0, 0]) 116 ⟨[(7, .int .i64 i9)] ++ [(1, .slice l10a l10l l10c), (5, .pointer d11), (6, .pointer r12)], 132, []⟩ w (seqQ (fun e w => takeAll e [(7, .int .i64 0)] fun l => X l w) (blockQ 0 (unitQ T_q0t C))) = T_q65_1_body (fun i9 w => X [.int .i64 i9] w) i9 l10a l10l l10c d11 r12 w (fun w => C .normal [] w) (fun b134 w => C .ret [.bool b134] w) (fun ch w => C (.panic ch) [] w) := by kernel_rfl
theorem T_q65_1_ok : UnitOk Tryz.prog H_q41 (at_ (bodyOf Tryz.f6) [1, 1, 0, 1]) 29 := by
 have hc : at_ (bodyOf Tryz.f6) [1, 1, 0, 1] = .block 0 (.loop (at_ (bodyOf Tryz.f6) [1, 1, 0, 1, 0, 0])) := by kernel_rfl
 rw [hc]
 refine loop_unit_ok (carr := [(7, .int .i64 0)]) (fix := [(1, .slice none 0 0), (5, .pointer none), (6, .pointer none)]) (ks := T_q20) (H := (hookAt [(464, H_q42), (7460, H_q43), (14925, H_q44)])) (B := fun C X l u w => match l, u with | [v0], [v1, v2, v3] => T_q65_1_body (fun i9 w => X [.int .i64 i9] w) (pInt v0) (pA v1) (pL v1) (pC v1) (pPtr v2) (pPtr v3) w (fun w => C .normal [] w) (fun b135 w => C .ret [.bool b135] w) (fun ch w => C (.panic ch) [] w) | _, _ => False) (by kernel_rfl) (by kernel_rfl) T_q41_hok ?_ ?_
 ·intro C X l u w hl hu
  obtain ⟨v0, _, rfl, k_v0, hl_v0⟩ := kC hl
  obtain ⟨i9, rfl⟩ := kind_int k_v0
  obtain rfl := kN hl_v0
  obtain ⟨v1, _, rfl, k_v1, hu_v1⟩ := kC hu
  obtain ⟨l10a, l10l, l10c, rfl⟩ := kind_slice k_v1
  obtain ⟨v2, _, rfl, k_v2, hu_v2⟩ := kC hu_v1
  obtain ⟨d11, rfl⟩ := kind_pointer k_v2
  obtain ⟨v3, _, rfl, k_v3, hu_v3⟩ := kC hu_v2
  obtain ⟨r12, rfl⟩ := kind_pointer k_v3
  obtain rfl := kN hu_v3
  exact T_q41_eq C X i9 l10a l10l l10c d11 r12 w
 ·intro l u w C hl hu
  obtain ⟨v0, _, rfl, k_v0, hl_v0⟩ := kC hl
  obtain ⟨i9, rfl⟩ := kind_int k_v0
  obtain rfl := kN hl_v0
  obtain ⟨v1, _, rfl, k_v1, hu_v1⟩ := kC hu
  obtain ⟨l10a, l10l, l10c, rfl⟩ := kind_slice k_v1
  obtain ⟨v2, _, rfl, k_v2, hu_v2⟩ := kC hu_v1
  obtain ⟨d11, rfl⟩ := kind_pointer k_v2
  obtain ⟨v3, _, rfl, k_v3, hu_v3⟩ := kC hu_v2
  obtain ⟨r12, rfl⟩ := kind_pointer k_v3
  obtain rfl := kN hu_v3
  constructor
  ·intro h X hX
   exact h (fun i9 w => X [.int .i64 i9] w) (fun i9 w hb => hX [.int .i64 i9] w ⟨rfl, trivial⟩ hb)
  ·intro h X hX
   exact h (fun l w => match l with | [v0] => X (pInt v0) w | _ => True) (fun l w hl hb => by
    obtain ⟨v0, _, rfl, k_v0, hl_v0⟩ := kC hl
    obtain ⟨i9, rfl⟩ := kind_int k_v0
    obtain rfl := kN hl_v0
    exact hX i9 w hb)
def T_q65 (room1 : Int) (l2a : Option Addr) (l2l l2c : Nat) (w : World) (R : RT) : Prop :=
 Calls Tryz.prog 16 #[.int .i64 room1] w (ret (fun r3 w4 => ∃ p5 : Option Addr, r3 = .pointer p5 ∧ Calls Tryz.prog 17 #[.int .i64 room1] w4 (ret (fun r6 w7 => ∃ p8 : Option Addr, r6 = .pointer p8 ∧ T_q41 0 l2a l2l l2c p5 p8 w7 (fun w136 => Calls Tryz.prog 24 #[.pointer none] w136 (ret (fun r137 w138 => ∃ (x139 x140 : Int) (s141a : Option Addr) (s141l s141c : Nat) (s142a : Option Addr) (s142l s142c : Nat) (s143a : Option Addr) (s143l s143c : Nat) (x144 : Int), r137 = .tuple #[.agg #[.int .i64 x139, .int .i64 x140, .slice s141a s141l s141c, .slice s142a s142l s142c, .slice s143a s143l s143c], .int .i64 x144] ∧ let w145 : World := w138.alloc (.cells #[.int .i64 0, .int .i64 0, .slice none 0 0, .slice none 0 0, .slice none 0 0] 29)
 (.agg #[.int .i64 x139, .int .i64 x140, .slice s141a s141l s141c, .slice s142a s142l s142c, .slice s143a s143l s143c] : Value).cells.size = 5 ∧ wrOk w145 (⟨w138.heap.size, 0, none⟩ : Addr) (.agg #[.int .i64 x139, .int .i64 x140, .slice s141a s141l s141c, .slice s142a s142l s142c, .slice s143a s143l s143c]) ∧ let w146 : World := wr w145 (⟨w138.heap.size, 0, none⟩ : Addr) (.agg #[.int .i64 x139, .int .i64 x140, .slice s141a s141l s141c, .slice s142a s142l s142c, .slice s143a s143l s143c])
 Calls Tryz.prog 11 #[] w146 (ret (fun r147 w148 => ∃ b149 : Bool, r147 = .bool b149 ∧ if b149 = true then (if (x144 == 1) = true then (Calls Tryz.prog 31 #[.int .i64 1] w148 (ret (fun r150 w151 => ∃ (x152 x153 : Int) (s154a : Option Addr) (s154l s154c : Nat) (s155a : Option Addr) (s155l s155c : Nat) (s156a : Option Addr) (s156l s156c : Nat), r150 = .agg #[.int .i64 x152, .int .i64 x153, .slice s154a s154l s154c, .slice s155a s155l s155c, .slice s156a s156l s156c] ∧ Calls Tryz.prog 18 #[.pointer none, .agg #[.int .i64 x152, .int .i64 x153, .slice s154a s154l s154c, .slice s155a s155l s155c, .slice s156a s156l s156c]] w151 (ret (fun r157 w158 => ∃ x159 : Int, r157 = .int .i64 x159 ∧ R (.returned (.bool (x159 == 1))) w158) (pan R))) (pan R))) else (R (.returned (.bool false)) w148)) else (R (.returned (.bool false)) w148)) (pan R))) (pan R))) (fun b160 w161 => R (.returned (.bool b160)) w161) (pan R)) (pan R))) (pan R))
theorem T_q65_hl : allP (hokL Tryz.prog (hookAt [(29, H_q41)]) (bodyOf Tryz.f6) 1) = (UnitOk Tryz.prog H_q41 (at_ (bodyOf Tryz.f6) [1, 1, 0, 1]) 29 ∧ True) := by kernel_rfl
theorem T_q65_eq (room1 : Int) (l2a : Option Addr) (l2l l2c : Nat) (w : World) (R : RT) : vcCode Tryz.prog (hookAt [(29, H_q41)]) (bodyOf Tryz.f6) 1 ⟨argEnv [.int .i64 room1, .slice l2a l2l l2c] 0, Tryz.f6.ntmps, []⟩ w (finQ Tryz.prog Tryz.f6.results.toList R) = T_q65 room1 l2a l2l l2c w R := by kernel_rfl
theorem T_q65_b : Tryz.f6.body = some (bodyOf Tryz.f6) := by kernel_rfl
theorem T_q65_s : (quietSel (bodyOf Tryz.f6) && Nat.ble 2 Tryz.f6.ntmps) = true := by kernel_rfl
theorem C_q65 {room1 : Int} {l2a : Option Addr} {l2l l2c : Nat} {w : World} {R : RT} (h : T_q65 room1 l2a l2l l2c w R) : Calls Tryz.prog 6 #[.int .i64 room1, .slice l2a l2l l2c] w R :=
 calls_of_text (args := [.int .i64 room1, .slice l2a l2l l2c]) mixed Tryz.func6 T_q65_b T_q65_s (HOk_of _ _ (by rw [T_q65_hl]; exact ⟨T_q65_1_ok, trivial⟩)) (by rw [T_q65_eq]; exact h)
end Go.Proofs.YtclinifclfahfaaGreat
namespace Go.Vc
open Go Go.Proofs Go.Proofs.YtclinifclfahfaaGreat
set_option maxRecDepth 100000
structure Dd where
  kind : Int
  s : Sn.Snp
  v : Sl
  l : Sl
  d : Sl
  name : Cm.Bs
  keep : List Int
  ks : Sl
def ddL (x : Dd) : List Value := [.int .i64 x.kind, .int .i64 x.s.idx, .int .i64 x.s.term, .slice x.v.1 x.v.2.1 x.v.2.2, .slice x.l.1 x.l.2.1 x.l.2.2, .slice x.d.1 x.d.2.1 x.d.2.2, encN x.name, .slice x.ks.1 x.ks.2.1 x.ks.2.2]
theorem ddL_len (x : Dd) : (ddL x).length = 8 := rfl
theorem ddL_one (x : Dd) : ∀ u ∈ ddL x, one u = true := by
  intro u hu
  simp [ddL] at hu
  rcases hu with rfl | rfl | rfl | rfl | rfl | rfl | rfl | rfl <;> rfl
structure Dd.ok (F : Fz) (x : Dd) : Prop where
  r : snpR F x.v x.l x.d x.s
  h : snpH x.s
  n : x.name.length ≤ huge
  k : RdF F x.ks.1 x.ks.2.1 1 (intV x.keep)
  kl : x.keep.length = x.ks.2.1
  k64 : ∀ i ∈ x.keep, i ≤ 9223372036854775807
theorem Dd.ok.mono {F G : Fz} {x : Dd} (h : x.ok F) (k : Fz.le F G) : x.ok G := ⟨h.r.mono k, h.h, h.n, h.k.mono k, h.kl, h.k64⟩
section
variable {E w : World} {L : List Asrt} {R : RT} {F G : Fz} {q o : Sl} {b n : Cm.Bs} {c rp dp bx : Nat} {d : Dk.Ds} {x : Dd}
theorem rd_dd (h : St E (blkL bx 47 (ddL x) :: L) w) : rd w ((⟨bx, 0, none⟩ : Addr).add 1) (snpV x.s.idx x.s.term x.v x.l x.d) :=
  rd_agg (xs := snpL x.s.idx x.s.term x.v x.l x.d) (off := 1) h.at_blk (by
    intro i u hu
    match i, hu with
    | 0, hu => exact hu
    | 1, hu => exact hu
    | 2, hu => exact hu
    | 3, hu => exact hu
    | 4, hu => exact hu
    | i + 5, hu => simp [snpL] at hu)
theorem RDUsed_spec (I : Dk.Inv d) (h : St E (rdkA F c rp d :: kn F :: L) w) (k : ∀ w', St E (rdkA F c rp d :: kn F :: L) w' → R (.returned (.int .i64 (Dk.used d))) w') : Calls Tryz.prog 30 #[.pointer (some ⟨rp, 0, none⟩)] w R := by
  obtain ⟨l, rfs, ok, h⟩ := h.rdk_open
  exact RUsed_spec I ok (by simp) h fun w' h' => k w' (St.rdk_mk ok h')
theorem sv_2 {a : Sl} {m i : Nat} {K : Bool → World → Prop} {Kp : XT} (hl : m = a.2.1) (k : K (decide (i < m ∧ i < 40)) w) : T_q42 a.1 a.2.1 a.2.2 (i : Int) w K Kp := by
  unfold T_q42
  rw [← hl]
  refine ite_d (fun hh => ?_) fun hh => ?_
  · by_cases h12 : i < 40
    · rw [decide_eq_true ⟨by omega, h12⟩] at k
      rw [decide_eq_true (by omega)]; exact k
    · rw [decide_eq_false (fun hh => h12 hh.2)] at k
      rw [decide_eq_false (by omega)]; exact k
  · rw [decide_eq_false (fun h2 => hh (by omega))] at k
    exact k
theorem sv_3 {K : Bool → World → Prop} {Kp : XT} (hx : x.ok G) (h : St E (blkL bx 47 (ddL x) :: L) w) (k : K (!decide (x.s.data.length ≤ 4000 ∧ x.keep.length ≤ 50)) w) : T_q43 ⟨bx, 0, none⟩ w K Kp := by
  have h1 := hx.r.data.len
  have h2 := hx.kl
  unfold T_q43
  refine ⟨_, _, _, (rd_fld (k := 5) h.at_blk rfl rfl : rd w ((⟨bx, 0, none⟩ : Addr).add 5) _), ite_d (fun hh => ?_) fun hh => ⟨_, _, _, rd_fld (k := 7) h.at_blk rfl rfl, ?_⟩⟩
  · rw [decide_eq_false (by omega)] at k; exact k
  · by_cases h3 : x.keep.length ≤ 50
    · rw [decide_eq_true ⟨by omega, h3⟩] at k; rw [decide_eq_false (by omega)]; exact k
    · rw [decide_eq_false (fun hx => h3 hx.2)] at k; rw [decide_eq_true (by omega)]; exact k
set_option maxHeartbeats 2000000 in
theorem sv_4 {Kn : World → Prop} {Kr : Bool → World → Prop} {Kp : XT} (hx : x.ok G) (hd : x.s.data.length ≤ 4000) (hc : c ≤ 379) (I : Dk.Inv d) (h : St E (blkL bx 47 (ddL x) :: diskA G c dp d :: rdkA G c rp d :: kn G :: L) w)
    (k : ∀ (G' : Fz) (w' : World) (d' : Dk.Ds), Fz.le G G' → Dk.Inv d' → St E (diskA G' (c + 1) dp d' :: rdkA G' (c + 1) rp d' :: kn G' :: L) w' → Kn w') : T_q44 (some ⟨dp, 0, none⟩) (some ⟨rp, 0, none⟩) ⟨bx, 0, none⟩ x.kind w Kn Kr Kp := by
  unfold T_q44
  refine ite_b (fun h0 => ?_) fun h0 => ite_b (fun h1 => ?_) fun h1 => ite_b (fun h2 => ?_) fun h2 => ?_
  · intro w44
    have h44 : St E (blkL bx 47 (ddL x) :: diskA G c dp d :: rdkA G c rp d :: kn G :: L) w44 := h.drew
    clear_value w44
    refine ⟨_, _, _, _, _, _, _, _, _, _, _, rd_dd h44, _, _, _, _, _, _, _, _, _, _, _, rd_dd h44, ?_⟩
    have h45 : St E (diskA G c dp d :: kn G :: blkL bx 47 (ddL x) :: rdkA G c rp d :: L) w44 := h44.sel 4 [1, 3, 0, 2] (by simp)
    refine Save_spec (s := x.s) I (by omega) hx.r hx.h.1 hx.h.2 h45 fun G1 w56 hG1 h56 => ⟨_, rfl, ⟨rd_dd h56.f2, trivial⟩, ?_⟩
    have h57 : St E (rdkA G c rp d :: kn G1 :: diskA G1 (c + 1) dp (Sn.save d x.s).1 :: L) w56 := h56.sel 4 [3, 1, 0] (by simp)
    refine RSave_spec (s := x.s) I hc (hx.r.mono hG1) hx.h.1 hx.h.2 (St.rdk_mono h57 hG1) fun G2 w59 hG2 h59 => ⟨_, rfl, trivial, ite_b (fun hh => by simp at hh) fun _ => ?_⟩
    have h60 : St E (diskA G1 (c + 1) dp (Sn.save d x.s).1 :: rdkA G2 (c + 1) rp (Sn.save d x.s).1 :: kn G2 :: L) w59 := h59.sel 3 [2, 0, 1] (by simp)
    exact k G2 w59 _ (Fz.le_trans hG1 hG2) (Sn.save_inv I x.s) (St.dk_mono h60 hG2)
  · refine ⟨_, _, _, rd_fld (k := 7) h.at_blk rfl rfl, ?_⟩
    have h45 : St E (diskA G c dp d :: kn G :: blkL bx 47 (ddL x) :: rdkA G c rp d :: L) w := h.sel 4 [1, 3, 0, 2] (by simp)
    refine DCrash_spec (keep := x.keep) I hx.k hx.kl hx.k64 (by omega) h45 fun G1 w63 hG1 h63 => ⟨rfl, _, _, _, rd_fld (k := 7) h63.f2.at_blk rfl rfl, ?_⟩
    have h64 : St E (rdkA G c rp d :: kn G1 :: diskA G1 c dp (Dk.crash d x.keep) :: L) w63 := h63.sel 4 [3, 1, 0] (by simp)
    refine RDCrash_spec (keep := x.keep) I (hx.k.mono hG1) hx.kl (St.rdk_mono h64 hG1) fun G2 w66 hG2 h66 => ⟨rfl, ?_⟩
    have h67 : St E (diskA G1 c dp (Dk.crash d x.keep) :: rdkA G2 c rp (Dk.crash d x.keep) :: kn G2 :: L) w66 := h66.sel 3 [2, 0, 1] (by simp)
    have h68 : St E (rdkA G2 c rp (Dk.crash d x.keep) :: diskA G2 (c + 1) dp (Dk.crash d x.keep) :: kn G2 :: L) w66 := ((St.dk_mono h67 hG2).dk_c (Nat.le_succ c)).f1
    exact k G2 w66 _ (Fz.le_trans hG1 hG2) (I.crash x.keep) (h68.rdk_c (Nat.le_succ c)).f1
  · intro w67
    have h67 : St E (blkL bx 47 (ddL x) :: diskA G c dp d :: rdkA G c rp d :: kn G :: L) w67 := h.drew
    clear_value w67
    have r5 : ∀ {w : World} {M : List Asrt}, St E (blkL bx 47 (ddL x) :: M) w → rd w (((⟨bx, 0, none⟩ : Addr).add 1).add 4) (.slice x.d.1 x.d.2.1 x.d.2.2) := fun {w M} h => (rd_fld (k := 5) h.at_blk rfl rfl : rd w ((⟨bx, 0, none⟩ : Addr).add 5) _)
    refine ⟨_, rd_fld (k := 6) h67.at_blk rfl rfl, _, _, _, r5 h67, _, rd_fld (k := 6) h67.at_blk rfl rfl, _, _, _, r5 h67, ?_⟩
    have h45 : St E (diskA G c dp d :: kn G :: blkL bx 47 (ddL x) :: rdkA G c rp d :: L) w67 := h67.sel 4 [1, 3, 0, 2] (by simp)
    refine DWrite_spec (n := x.name) (i := 0) I hx.r.data (by omega) (by omega) h45 fun G1 w73 hG1 h73 => ⟨_, rfl, ⟨r5 h73.f2, rd_fld (k := 6) h73.f2.at_blk rfl rfl, trivial⟩, ?_⟩
    have h74 : St E (rdkA G c rp d :: kn G1 :: diskA G1 (c + 1) dp (Dk.write d x.name 0 x.s.data).1 :: L) w73 := h73.sel 4 [3, 1, 0] (by simp)
    refine RDWrite_spec (n := x.name) (at_ := 0) I (hx.r.data.mono hG1) (by omega) (Nat.zero_le _) (by omega) hx.n (St.rdk_mono h74 hG1) fun G2 w76 hG2 h76 => ⟨_, rfl, trivial, ?_⟩
    have hz0 : ((0 : Nat) : Int) = 0 := rfl
    rw [hz0] at h76 ⊢
    refine ite_b (fun hh => by simp at hh) fun _ => ?_
    have h77 : St E (diskA G1 (c + 1) dp (Dk.write d x.name 0 x.s.data).1 :: rdkA G2 (c + 1) rp (Dk.write d x.name 0 x.s.data).1 :: kn G2 :: L) w76 := h76.sel 3 [2, 0, 1] (by simp)
    exact k G2 w76 _ (Fz.le_trans hG1 hG2) (I.write x.name 0 x.s.data) (St.dk_mono h77 hG2)
  · have h68 : St E (rdkA G c rp d :: diskA G (c + 1) dp d :: kn G :: L) w := ((h.drop).dk_c (Nat.le_succ c)).f1
    exact k G w d (Fz.le_refl G) I (h68.rdk_c (Nat.le_succ c)).f1
theorem nilLoad_spec (h : St E L w) (k : ∀ w', St E L w' → R (.returned (.tuple #[snpV 0 0 nilS nilS nilS, .int .i64 1])) w') : Calls Tryz.prog 24 #[.pointer none] w R := by
  refine C_qa4 ?_
  unfold T_qa4
  intro w2
  have h2 : St E (blkL w.heap.size 29 z5 :: L) w2 := h.alloc (.cells ⟨z5⟩ 29)
  clear_value w2
  generalize w.heap.size = br at *
  refine ite_b (fun _ => ?_) fun hh => by simp at hh
  refine ⟨rfl, ok_snp h2 rfl 0 0 nilS nilS nilS, ?_⟩
  intro w3
  have h3 : St E (blkL br 29 z5 :: L) w3 := h2.wr_snp rfl 0 0 nilS nilS nilS
  clear_value w3
  exact ⟨_, _, _, _, _, _, _, _, _, _, _, rd_snp h3, k w3 h3.drop⟩
theorem nilSave_spec {i t : Int} {v l dd : Sl} (h : St E L w) (k : ∀ w', St E L w' → R (.returned (.int .i64 1)) w') : Calls Tryz.prog 18 #[.pointer none, snpV i t v l dd] w R := by
  refine C_qa5 ?_
  unfold T_qa5
  intro w7
  have h7 : St E (blkL w.heap.size 29 (snpL i t v l dd) :: L) w7 := h.alloc (.cells ⟨snpL i t v l dd⟩ 29)
  exact ite_b (fun _ => k w7 h7.drop) fun hh => by simp at hh
theorem load_small (d : Dk.Ds) : (Sn.load d).1.mem.v.length ≤ huge ∧ (Sn.load d).1.mem.l.length ≤ huge := by
  have hu : huge = 9223372036854775807 := rfl
  unfold Sn.load
  split
  · exact ⟨Nat.zero_le _, Nat.zero_le _⟩
  · rcases Sn.best_spec d.l Sn.none with ⟨h1, _⟩ | ⟨f, _, h1, _⟩
    · show (Sn.best Sn.none d.l).mem.v.length ≤ huge ∧ _
      rw [h1]
      exact ⟨Nat.zero_le _, Nat.zero_le _⟩
    · have := getS_small (Sn.good_idx h1).2.2
      show (Sn.best Sn.none d.l).mem.v.length ≤ huge ∧ (Sn.best Sn.none d.l).mem.l.length ≤ huge
      omega
set_option maxHeartbeats 4000000 in
theorem saves_walk {room : Int} {a : Sl} {xs : List Dd} (hr : RdF F a.1 a.2.1 8 (xs.flatMap ddL)) (hl : xs.length = a.2.1) (hok : ∀ x ∈ xs, x.ok F) (h : St E (kn F :: L) w) (k : ∀ G w', Fz.le F G → St E (kn G :: L) w' → R (.returned (.bool true)) w') : Calls Tryz.prog 6 #[.int .i64 room, .slice a.1 a.2.1 a.2.2] w R := by
  refine C_q65 ?_
  unfold T_q65
  refine DNew_spec (F := F) h fun w4 dp h4 => ⟨_, rfl, ?_⟩
  refine RDNew_spec (G := F) h4 fun w7 rp h7 => ⟨_, rfl, ?_⟩
  obtain ⟨m, hm⟩ : ∃ m, m = min xs.length 40 := ⟨_, rfl⟩
  unfold T_q41
  intro X hX
  refine up_to m (Q := fun j => ∀ (w : World) (G : Fz) (d : Dk.Ds), Fz.le F G → Dk.Inv d → St E (diskA G j dp d :: rdkA G j rp d :: kn G :: L) w → X (j : Int) w) ?_ w7 F (Dk.newD room) (Fz.le_refl F) (Dk.Inv.new room) h7.f1
  intro j hj ih w G d hG I h
  refine hX _ _ ?_
  unfold T_q65_1_body
  refine sv_2 (m := xs.length) hl (ite_d (fun hh => ?_) fun hh => ?_)
  · obtain ⟨hjl, hj40⟩ := hh
    obtain ⟨ad, hae, hrd1, _⟩ := ((hr.mono hG).at h (by simp)).elem (f := ddL) ddL_len (List.getElem?_eq_getElem hjl) (by decide)
    have hx := (hok xs[j] (List.getElem_mem hjl)).mono hG
    refine ⟨by omega, by omega, ad, hae, _, _, _, _, _, _, _, _, _, _, _, _, _, _, _, _, hrd1, ?_⟩
    have ihj := ih (by omega)
    generalize xs[j] = x at *
    intro w29
    have h29 : St E (blkL w.heap.size 47 [.int .i64 0, .int .i64 0, .int .i64 0, .slice none 0 0, .slice none 0 0, .slice none 0 0, .string ⟨#[]⟩, .slice none 0 0] :: diskA G j dp d :: rdkA G j rp d :: kn G :: L) w29 := h.alloc (.cells ⟨[.int .i64 0, .int .i64 0, .int .i64 0, .slice none 0 0, .slice none 0 0, .slice none 0 0, .string ⟨#[]⟩, .slice none 0 0]⟩ 47)
    clear_value w29
    generalize w.heap.size = bx at *
    refine ⟨rfl, wrOk_agg (off := 0) (xs := ddL x) h29.at_blk (by show 8 ≤ 8; decide) (ddL_one x), ?_⟩
    intro w30
    have h30 : St E (blkL bx 47 (ddL x) :: diskA G j dp d :: rdkA G j rp d :: kn G :: L) w30 := h29.wr_agg0 (xs := ddL x) rfl
    clear_value w30
    rw [succ_big (by unfold big; omega)]
    refine sv_3 hx h30 (ite_b (fun hb => ?_) fun hb => ?_)
    · have h31 : St E (rdkA G j rp d :: diskA G (j + 1) dp d :: kn G :: L) w30 := ((h30.drop).dk_c (Nat.le_succ j)).f1
      exact ihj w30 G d hG I (h31.rdk_c (Nat.le_succ j)).f1
    obtain ⟨hd4, _⟩ : x.s.data.length ≤ 4000 ∧ x.keep.length ≤ 50 := by simpa using hb
    refine ⟨_, rd_cell h30.at_blk rfl rfl, ?_⟩
    refine sv_4 hx hd4 (by omega) I h30 fun G1 w81 d1 hG1 I1 h81 => ?_
    have h82 : St E (diskA G1 (j + 1) dp d1 :: kn G1 :: rdkA G1 (j + 1) rp d1 :: L) w81 := h81.sel 3 [0, 2, 1] (by simp)
    refine Load_spec I1 h82 fun G2 w83 v2 l2 d2 hG2 r2 h83 => ⟨_, _, _, _, _, _, _, _, _, _, _, _, rfl, ?_⟩
    intro w90
    have h90 : St E (blkL w83.heap.size 29 z5 :: diskA G2 (j + 1) dp d1 :: kn G2 :: rdkA G1 (j + 1) rp d1 :: L) w90 := h83.alloc (.cells ⟨z5⟩ 29)
    clear_value w90
    generalize w83.heap.size = b90 at *
    refine ⟨rfl, ok_snp h90 rfl (Sn.load d1).1.idx (Sn.load d1).1.term v2 l2 d2, ?_⟩
    intro w91
    have h91 : St E (blkL b90 29 (snpL (Sn.load d1).1.idx (Sn.load d1).1.term v2 l2 d2) :: diskA G2 (j + 1) dp d1 :: kn G2 :: rdkA G1 (j + 1) rp d1 :: L) w91 := h90.wr_snp rfl _ _ v2 l2 d2
    clear_value w91
    have h92 : St E (rdkA G1 (j + 1) rp d1 :: kn G2 :: blkL b90 29 (snpL (Sn.load d1).1.idx (Sn.load d1).1.term v2 l2 d2) :: diskA G2 (j + 1) dp d1 :: L) w91 := h91.sel 4 [3, 2, 0, 1] (by simp)
    refine RLoad_spec I1 (St.rdk_mono h92 hG2) fun G3 w93 v3 l3 d3 hG3 r3 h93 => ⟨_, _, _, _, _, _, _, _, _, _, _, _, rfl, ?_⟩
    intro w100
    have h100 : St E (blkL w93.heap.size 29 z5 :: rdkA G3 (j + 1) rp d1 :: kn G3 :: blkL b90 29 (snpL (Sn.load d1).1.idx (Sn.load d1).1.term v2 l2 d2) :: diskA G2 (j + 1) dp d1 :: L) w100 := h93.alloc (.cells ⟨z5⟩ 29)
    clear_value w100
    generalize w93.heap.size = b100 at *
    refine ⟨rfl, ok_snp h100 rfl (Sn.load d1).1.idx (Sn.load d1).1.term v3 l3 d3, ?_⟩
    intro w101
    have h101 : St E (blkL b100 29 (snpL (Sn.load d1).1.idx (Sn.load d1).1.term v3 l3 d3) :: rdkA G3 (j + 1) rp d1 :: kn G3 :: blkL b90 29 (snpL (Sn.load d1).1.idx (Sn.load d1).1.term v2 l2 d2) :: diskA G2 (j + 1) dp d1 :: L) w101 := h100.wr_snp rfl _ _ v3 l3 d3
    clear_value w101
    have hsm := load_small d1
    refine ite_b (fun hh => by simp at hh) fun _ => ?_
    refine ⟨_, _, _, _, _, _, _, _, _, _, _, rd_snp h101.f3, _, _, _, _, _, _, _, _, _, _, _, rd_snp h101, ?_⟩
    refine SSame_spec (F := G3) (by simp) (r2.mono hG3) r3 hsm.1 hsm.2 h101 fun w113 h113 => ⟨_, rfl, ite_b (fun hh => by simp at hh) fun _ => ?_⟩
    have h114 : St E (diskA G2 (j + 1) dp d1 :: rdkA G3 (j + 1) rp d1 :: kn G3 :: L) w113 := h113.sel 5 [4, 1, 2] (by simp)
    refine DNames_spec I1 (St.dk_mono h114 hG3) fun w116 o1 ho1 h116 => ⟨_, _, _, rfl, ?_⟩
    have h117 : St E (rdkA G3 (j + 1) rp d1 :: kn G3 :: stA o1 (namesOf d1) :: diskA G3 (j + 1) dp d1 :: L) w116 := h116.sel 4 [2, 3, 0, 1] (by simp)
    refine RDNames_spec I1 h117 fun w119 o2 ho2 h119 => ⟨_, _, _, rfl, ?_⟩
    have hnl : (namesOf d1).length ≤ 1000000 := by unfold namesOf; rw [List.length_map]; have := I1.n; omega
    refine SameTexts_spec (xs := namesOf d1) (ys := namesOf d1) (a := o1) (c := o2) ho1 ho2 hnl (fun w h => (h.f3).rdS_own) (fun w h => h.rdS_own) h119 fun w122 h122 => ⟨_, rfl, ite_b (fun hh => by simp at hh) fun _ => ?_⟩
    have h123 : St E (diskA G3 (j + 1) dp d1 :: rdkA G3 (j + 1) rp d1 :: kn G3 :: L) w122 := h122.sel 5 [4, 1, 2] (by simp)
    refine Used_spec I1 h123 fun w125 h125 => ⟨_, rfl, ?_⟩
    have h126 : St E (rdkA G3 (j + 1) rp d1 :: kn G3 :: diskA G3 (j + 1) dp d1 :: L) w125 := h125.sel 3 [1, 2, 0] (by simp)
    refine RDUsed_spec I1 h126 fun w128 h128 => ⟨_, rfl, ite_b (fun hh => by simp at hh) fun _ => ?_⟩
    exact ihj w128 G3 d1 (Fz.le_trans hG (Fz.le_trans hG1 (Fz.le_trans hG2 hG3))) I1 (h128.sel 3 [2, 0, 1] (by simp))
  · have h0 : St E (kn G :: L) w := h.sel 3 [2] (by simp)
    refine nilLoad_spec h0 fun w138 h138 => ⟨_, _, _, _, _, _, _, _, _, _, _, _, rfl, ?_⟩
    intro w145
    have h145 : St E (blkL w138.heap.size 29 z5 :: kn G :: L) w145 := h138.alloc (.cells ⟨z5⟩ 29)
    clear_value w145
    generalize w138.heap.size = b145 at *
    refine ⟨rfl, ok_snp h145 rfl 0 0 nilS nilS nilS, ?_⟩
    intro w146
    have h146 : St E (kn G :: L) w146 := (h145.wr_snp rfl 0 0 nilS nilS nilS).drop
    clear_value w146
    refine live_spec h146 fun G2 w148 hG2 h148 => ⟨_, rfl, ite_b (fun _ => ite_b (fun _ => ?_) fun hh => by simp at hh) fun hh => by cases hh⟩
    refine Of_spec (i := 1) h148 fun G3 w151 v l dd hG3 r3 h151 => ⟨_, _, _, _, _, _, _, _, _, _, _, rfl, ?_⟩
    refine nilSave_spec h151 fun w158 h158 => ⟨_, rfl, ?_⟩
    exact congB (k G3 w158 (Fz.le_trans hG (Fz.le_trans hG2 hG3)) h158) (by decide)
theorem open_dd {H : Type} {enc : TypeId × Value → H} {W : World} {fuel : Nat} {cs : List Value} {y : DataW H × List MemPlace} (hx : DataW.trod enc Tryz.prog W 0 (fun _ => true) true fuel 47 cs = some y) : ∃ x : Dd, cs = ddL x ∧ x.ok (F0 W) := by
  obtain ⟨xs, m, _, _, hcl, hxl, hfs⟩ := DataW.trod_struct Tryz.underlying47 hx
  rw [show Tryz.prog.cellsOf 47 = 8 by kernel_rfl] at hcl
  have hxl4 : xs.length = 4 := hxl
  have c1 : Tryz.prog.cellsOf 3 = 1 := by kernel_rfl
  have c2 : Tryz.prog.cellsOf 29 = 5 := by kernel_rfl
  have c3 : Tryz.prog.cellsOf 9 = 1 := by kernel_rfl
  have c4 : Tryz.prog.cellsOf 24 = 1 := by kernel_rfl
  match cs, hcl with
  | [v0, v1, v2, v3, v4, v5, v6, v7], _ =>
    have f0 := hfs 0 _ rfl
    have f1 := hfs 1 _ rfl
    have f2 := hfs 2 _ rfl
    have f3 := hfs 3 _ rfl
    simp only [List.getElem_toArray, List.getElem_cons_zero, List.getElem_cons_succ, c1, c2, c3, c4, List.drop_zero, List.drop_succ_cons, List.take_succ_cons, List.take_zero] at f0 f1 f2 f3
    rw [List.getElem?_eq_getElem (by omega)] at f0 f1 f2 f3
    obtain ⟨k0, e0, _⟩ := DataW.trod_int Tryz.underlying3 f0
    obtain ⟨s, v, l, d, e1, r1, hh, _⟩ := open_snap f1
    obtain ⟨nm, e2, _, w2⟩ := DataW.trod_string Tryz.underlying9 f2
    obtain ⟨a3, l3, q3, rfl⟩ := sliceV Tryz.underlying24 f3
    obtain ⟨keep, rk, nk, _, k64, _⟩ := intsF f3
    simp at e0 e2
    subst e0 e2
    simp [snpL] at e1
    obtain ⟨rfl, rfl, rfl, rfl, rfl⟩ := e1
    have hnl : nm.data.toList.length = nm.size := Array.length_toList
    refine ⟨⟨k0, s, v, l, d, nm.data.toList, keep, (a3, l3, q3)⟩, ?_, ⟨r1, hh, ?_, rk, nk, fun i hi => (k64 i hi).2⟩⟩
    · unfold ddL encN bs
      rfl
    · show nm.data.toList.length ≤ huge
      rw [hnl]; exact w2
theorem saves_law {H : Type} {enc : TypeId × Value → H} {W : World} {room : Int} {a : Option Addr} {l c : Nat} {d : DataW H} {ps : List MemPlace} (h : DataW.Trod enc Tryz.prog W 0 (fun _ => true) true 41 (.slice a l c) d ps) :
    Calls Tryz.prog 6 #[.int .i64 room, .slice a l c] W fun e w' => e = .returned (.bool true) ∧ RowKit.Below W.heap.size W w' := by
  obtain ⟨m, hm⟩ := h
  obtain ⟨xs, hr, hl, hg⟩ := open_elems (β := Dd) (f := ddL) (fun x => x.ok (F0 W)) ddL_len (by decide) Tryz.underlying41 (by kernel_rfl) (fun n cs x hx => open_dd hx) hm
  have hn : xs.length = l := hr.count ddL_len (by decide)
  exact saves_walk (a := (a, l, c)) (RdF.of_world hr) hn hg (St.start_kn W) fun G w' hG h' => ⟨rfl, h'.below_kn hG⟩
end
end Go.Vc
