/-
  What the net's functions do: Part, Fork.
-/
import Derived.Test.YtilhnmncbpnfjaaFlightD
import Derived.Laws.Externs
namespace Go.Vc
open Go Go.Proofs Go.Proofs.Ytilhnmncbpnfjaa

section
variable {E w : World} {L : List Asrt} {p : Nat} {N : Net} {R : Ending → World → Prop}

def onLink (f t : Int) (q : Pkt) : Bool := decide (q.fr = f) && decide (q.to = t)
/-- Both boxes are seen to hold these. -/
def Boxes (E : World) (L : List Asrt) (b1 b2 : Addr) (f t : Int) : Prop := ∀ w, St E L w → rd w b1 (.int .i64 f) ∧ rd w b2 (.int .i64 t)
theorem Boxes.more {b1 b2 : Addr} {f t : Int} (h : Boxes E L b1 b2 f t) (A : Asrt) : Boxes E (A :: L) b1 b2 f t := fun w hw => h w hw.drop
theorem part1_spec {b1 b2 : Addr} {f t : Int} {q : Pkt × Sl} (h : St E L w) (hb : Boxes E L b1 b2 f t) (k : ∀ w', St E L w' → R (.returned (.bool (onLink f t q.1))) w') :
    Calls Try.prog 44 #[.agg ⟨pktV q⟩, .pointer (some b1), .pointer (some b2)] w R := by
  refine C_flight_Net_Part_1 (x1 := q.1.id) (x2 := q.1.fr) (x3 := q.1.to) (s4a := q.2.1) (s4l := q.2.2.1) (s4c := q.2.2.2) ?_
  unfold T_flight_Net_Part_1
  intro w7
  have h7 := h.alloc (.cells ⟨pktV q⟩ 41)
  have hbx := hb _ h7.drop
  refine ⟨_, rd_fld h7.at_blk (l := pktV q) rfl rfl, f, hbx.1, ?_⟩
  split
  · rename_i he
    refine ⟨_, rd_fld h7.at_blk (l := pktV q) rfl rfl, t, hbx.2, ?_⟩
    have := k w7 h7.drop
    rwa [show onLink f t q.1 = (q.1.to == t) by simp only [beq_iff_eq] at he; simp [onLink, he]; rfl] at this
  · rename_i he
    have := k w7 h7.drop
    rwa [show onLink f t q.1 = false by simp only [beq_iff_eq] at he; simp [onLink, he]] at this

theorem body44 : hasBody Try.prog 44 = true := by kernel_rfl
theorem index_spec {a : Option Addr} {l c : Nat} {qs : List (Pkt × Sl)} {b1 b2 : Addr} {f t : Int} (h : St E L w) (hs : ∀ w, St E L w → RdS w a l 4 (qs.flatMap pktV)) (hb : Boxes E L b1 b2 f t) (hm : l ≤ 1000000)
    (kn : ∀ w', St E L w' → qs.filter (fun q => !onLink f t q.1) = qs → R (.returned (.int .i64 (-1))) w')
    (ks : ∀ w' (j : Nat) q, St E L w' → qs[j]? = some q → onLink f t q.1 = true → (qs.take j).filter (fun q => !onLink f t q.1) = qs.take j → R (.returned (.int .i64 (j : Int))) w') :
    Calls Try.prog 54 #[.slice a l c, .func (.func 44) #[] #[.pointer (some b1), .pointer (some b2)]] w R := by
  have hl : qs.length = l := (hs _ h).count pktV_len (by decide)
  refine C_slices_IndexFunc_api_Packet ?_
  unfold T_slices_IndexFunc_api_Packet T_slices_IndexFunc_api_Packet_1
  intro X hX
  have go : ∀ (n j : Nat) (w : World), n = l - j → j ≤ l → (qs.take j).filter (fun q => !onLink f t q.1) = qs.take j → St E L w → X (j : Int) w := by
    intro n
    induction n with
    | zero =>
      intro j w hn hj ht h
      refine hX _ _ ?_
      unfold T_slices_IndexFunc_api_Packet_1_body
      refine ite_d (fun hh => by omega) (fun _ => kn _ h ?_)
      rwa [List.take_of_length_le (by omega)] at ht
    | succ n ih =>
      intro j w hn hj ht h
      refine hX _ _ ?_
      unfold T_slices_IndexFunc_api_Packet_1_body
      have hjq : j < qs.length := by omega
      have hqj : qs[j]? = some qs[j] := List.getElem?_eq_getElem hjq
      obtain ⟨ad, ha, hrd, _⟩ := (hs _ h).elem pktV_len hqj (by decide)
      refine ite_d (fun _ => ?_) (fun hh => by omega)
      refine ⟨by omega, by omega, ad, ha, _, _, _, _, _, _, (by rw [Int.toNat_natCast]; exact hrd), body44, ?_⟩
      refine part1_spec (q := qs[j]) h hb fun w' h' => ⟨_, rfl, ite_b (fun hc => ?_) (fun hc => ?_)⟩
      · exact ks _ _ _ h' hqj hc ht
      · rw [wrap_id (by omega) (by omega)]
        have := ih (j + 1) w' (by omega) (by omega) (by rw [List.take_succ_eq_append_getElem hjq, List.filter_append, ht]; simp [hc]) h'
        exact_mod_cast this
  exact go l 0 w (by omega) (by omega) (by simp) h

theorem St.pks_sub {q1 q2 : List (Pkt × Sl)} (hs : q1.Sublist q2) : ∀ {L : List Asrt}, St E (pksA q2 :: L) w → St E (pksA q1 :: L) w := by
  induction hs with
  | slnil => exact fun h => h
  | cons a _ ih => exact fun h => ih h.pks_uncons.drop
  | cons_cons a _ ih => exact fun h => St.pks_cons ((ih h.pks_uncons.f1).f1)

theorem delfunc_spec {a : Option Addr} {l c : Nat} {qs : List (Pkt × Sl)} {b1 b2 : Addr} {f t : Int} (h : St E (ownS a l c 41 4 (qs.flatMap pktV) :: L) w) (hb : Boxes E L b1 b2 f t) (hm : l ≤ 1000000)
    (k : ∀ w' l', St E (ownS a l' c 41 4 ((qs.filter fun q => !onLink f t q.1).flatMap pktV) :: L) w' → R (.returned (.slice a l' c)) w') :
    Calls Try.prog 43 #[.slice a l c, .func (.func 44) #[] #[.pointer (some b1), .pointer (some b2)]] w R := by
  have hl : qs.length = l := h.rdS_own.count pktV_len (by decide)
  have hf := h.ownS_facts
  refine C_slices_DeleteFunc_api_Packet ?_
  unfold T_slices_DeleteFunc_api_Packet
  refine index_spec h (fun w hw => hw.rdS_own) (hb.more _) hm (fun w' h' hall => ⟨_, rfl, ?_⟩) (fun w' j q h' hqj hon htk => ⟨_, rfl, ?_⟩)
  · rw [if_pos (by rfl)]
    rw [hall] at k
    exact k _ _ h'
  · have hjq : j < qs.length := (List.getElem?_eq_some_iff.1 hqj).1
    have hqe : qs[j] = q := (List.getElem?_eq_some_iff.1 hqj).2
    rw [if_neg (by simp)]
    unfold T_slices_DeleteFunc_api_Packet_1
    intro X hX
    have go : ∀ (n j : Nat) (es : List (Pkt × Sl)) (i : Nat) (w : World), n = l - j → j ≤ l → i < j → es.length = l → es.take i = (qs.take j).filter (fun q => !onLink f t q.1) → es.drop j = qs.drop j →
        St E (ownS a l c 41 4 (es.flatMap pktV) :: L) w → X (i : Int) (j : Int) w := by
      intro n
      induction n with
      | zero =>
        intro j es i w hn hj hij hel htake hdrop h
        refine hX _ _ _ ?_
        unfold T_slices_DeleteFunc_api_Packet_1_body
        refine ite_d (fun hh => by omega) (fun _ => ?_)
        rw [show qs.take j = qs from List.take_of_length_le (by omega)] at htake
        simp -zeta only [Int.toNat_natCast]
        rcases h.ownS_open with ⟨rfl, h0, _⟩ | ⟨g, rest, rfl, hr, hs⟩
        · omega
        refine ⟨by omega, by omega, ?_⟩
        rw [if_neg (by omega), Option.map_some, add_mk, Nat.zero_add]
        have hflen := flat_len pktV_len es
        obtain ⟨w9, zs, hr9, hz, _, h9⟩ := clear_pkts (o := i * 4) (n := l - i) (c := c - i) hs (fun _ => by rw [List.length_append, hflen, hel]; omega)
        refine runV_ok hr9 ⟨by omega, by omega, ?_⟩
        rw [if_neg (by omega), Option.map_some, add_mk, Nat.sub_zero, Nat.sub_zero, Nat.zero_add, Nat.zero_mul]
        refine k _ _ ?_
        rw [if_neg (by omega)] at h9
        rw [List.take_append_of_le_length (by omega), flat_take pktV_len, htake, List.append_assoc] at h9
        have hfl : ((qs.filter fun q => !onLink f t q.1).flatMap pktV).length = i * 4 := by
          rw [← htake, flat_len pktV_len, List.length_take]; omega
        refine h9.ownS_mk hfl (by omega) hf.2.2 ?_
        rw [List.length_append, hz, List.length_drop, List.length_append, hflen, hr, hel]
        omega
      | succ n ih =>
        intro j es i w hn hj hij hel htake hdrop h
        refine hX _ _ _ ?_
        unfold T_slices_DeleteFunc_api_Packet_1_body
        have hjq : j < qs.length := by omega
        have hej : es[j]? = some qs[j] := by
          have := congrArg (fun x => x[0]?) hdrop
          simp only [List.getElem?_drop, Nat.add_zero] at this
          rw [this]; exact List.getElem?_eq_getElem hjq
        obtain ⟨ad, ha, hrd, _⟩ := h.rdS_own.elem pktV_len hej (by decide)
        refine ite_d (fun _ => ?_) (fun hh => by omega)
        simp -zeta only [Int.toNat_natCast]
        refine ⟨by omega, by omega, ad, ha, _, _, _, _, _, _, hrd, ?_⟩
        intro w15
        have h15 := h.alloc (.cells #[.int .i64 0, .int .i64 0, .int .i64 0, .slice none 0 0] 41)
        refine ⟨rfl, wrOk_agg h15.at_blk (by simp) (pktV_one1 qs[j]), ?_⟩
        intro w16
        have h16 := h15.wr_agg0 (xs := pktV qs[j]) rfl
        refine ⟨_, _, _, _, _, _, rd_agg h16.at_blk (xs := pktV qs[j]) (fun n u hu => by rw [Nat.zero_add]; exact hu), body44, ?_⟩
        refine part1_spec (q := qs[j]) h16 ((hb.more _).more _) fun w22 h22 => ⟨_, rfl, ite_n (fun hc => ?_) (fun hc => ?_)⟩
        · refine ⟨_, _, _, _, _, _, rd_agg h22.at_blk (xs := pktV qs[j]) (fun n u hu => by rw [Nat.zero_add]; exact hu), by omega, by omega, ad, ha, rfl, ?_⟩
          have hil : i * 4 + (pktV qs[j]).length ≤ (es.flatMap pktV).length := by rw [flat_len pktV_len, pktV_len]; omega
          obtain ⟨hok, h29⟩ := h22.drop.ownS_sets ha (i := i * 4) hil (pktV_one1 qs[j])
          refine ⟨hok, ?_⟩
          intro w29
          rw [flat_set pktV_len es i qs[j] (by omega)] at h29
          rw [wrap_id (by omega) (by omega), wrap_id (by omega) (by omega)]
          have := ih (j + 1) (es.set i qs[j]) (i + 1) w29 (by omega) (by omega) (by omega) (by simpa using hel) (by
            rw [List.take_succ_eq_append_getElem (by simp; omega), List.getElem_set_self, List.take_set_of_le (Nat.le_refl _), htake, List.take_succ_eq_append_getElem hjq, List.filter_append]
            simp [hc]) (by
            rw [List.drop_set_of_lt (by omega)]
            have := congrArg (List.drop 1) hdrop
            simpa [List.drop_drop, Nat.add_comm] using this) h29
          exact_mod_cast this
        · rw [wrap_id (by omega) (by omega)]
          have := ih (j + 1) es i w22 (by omega) (by omega) (by omega) hel (by
            rw [htake, List.take_succ_eq_append_getElem hjq, List.filter_append]
            simp [hc]) (by
            have := congrArg (List.drop 1) hdrop
            simpa [List.drop_drop, Nat.add_comm] using this) h22.drop
          exact_mod_cast this
    rw [wrap_id (by omega) (by omega)]
    have := go (l - (j + 1)) (j + 1) qs j w' rfl (by omega) (by omega) hl (by
      rw [List.take_succ_eq_append_getElem hjq, List.filter_append, htk, hqe]
      simp [hon]) rfl h'
    exact_mod_cast this

def nPart (N : Net) (f t : Int) : Net × Int :=
  if isLink f t = false then (N, 2) else ({ N with parted := mset N.parted (f, t) 1, under := N.under.filter fun q => !onLink f t q }, 0)
theorem filter_fst (g : Pkt → Bool) : ∀ (qs : List (Pkt × Sl)), (qs.filter fun q => g q.1).map (·.1) = (qs.map (·.1)).filter g
  | [] => rfl
  | q :: r => by
    simp only [List.filter_cons, List.map_cons]
    split <;> simp [filter_fst g r]
theorem part_spec {f t : Int} (h : St E (netA p N :: L) w) (hN : okN N)
    (k : ∀ w', St E (netA p (nPart N f t).1 :: L) w' → R (.returned (.int .i64 (nPart N f t).2)) w') :
    Calls Try.prog 24 #[.pointer (some ⟨p, 0, none⟩), .int .i64 f, .int .i64 t] w R := by
  obtain ⟨s, pm, qs, hc, hq, ho⟩ := h.net_open
  have hct := net_count hq ho
  refine C_flight_Net_Part ?_
  unfold T_flight_Net_Part
  intro w4 w5
  have h4 := ho.alloc (.cells #[.int .i64 f] 3)
  have h5 : St E (blkL w4.heap.size 3 [.int .i64 t] :: blkL w.heap.size 3 [.int .i64 f] :: _) w5 := h4.alloc (.cells #[.int .i64 t] 3)
  refine ite_some ⟨f, rd_cell h5.f1.at_blk rfl rfl, t, rd_cell h5.at_blk rfl rfl, is_spec ⟨_, rfl, ite_n (fun hl => ?_) (fun hl => ?_)⟩⟩
  · rw [show nPart N f t = (N, 2) by simp [nPart, hl]] at k
    exact k _ (St.net_mk (h5.drop.drop :) hc hq)
  · rw [show nPart N f t = ({ N with parted := mset N.parted (f, t) 1, under := N.under.filter fun q => !onLink f t q }, 0) by simp only [nPart, hl]; rw [if_neg (by simp)]] at k
    intro w11
    have h11 : St E (blkL w4.heap.size 3 [.int .i64 t] :: blkL w.heap.size 3 [.int .i64 f] :: _) w11 := h5.drew
    obtain ⟨w16, hr, h16⟩ := mapUpdate_run linkLaw und_parted (h11.f5 :) (f, t) 1
    refine ⟨_, rfl, _, rd_fld h11.f2.at_blk rfl rfl, f, rd_cell h11.f1.at_blk rfl rfl, t, rd_cell h11.at_blk rfl rfl, runV_ok hr ⟨trivial, _, rfl, _, _, _, rd_fld h16.f3.at_blk rfl rfl, ?_⟩⟩
    refine delfunc_spec (f := f) (t := t) (h16.f4 :) (fun w hw => ⟨rd_cell hw.f2.at_blk rfl rfl, rd_cell hw.f1.at_blk rfl rfl⟩) (by have := hN.1; omega) fun w20 l' h20 => ⟨_, _, _, rfl, _, rfl, rfl, wrOk_fld h20.f4.at_blk (by simp [netV]) rfl, ?_⟩
    intro w23
    have h23 := h20.f4.wr_fld (k := 1) (v := .slice s.1 l' s.2.2) rfl
    have h24 : St E (pksA qs :: blkL p 62 (netV N (s.1, l', s.2.2) pm) :: ownS s.1 l' s.2.2 41 4 ((qs.filter fun q => !onLink f t q.1).flatMap pktV) :: mapA pm kvL vvI (mset N.parted (f, t) 1) :: L) w23 := ((h23.f3.drop).f3.drop).f3
    have h25 := (h24.pks_sub (q1 := qs.filter fun q => !onLink f t q.1) List.filter_sublist).b2
    exact k _ (St.net_mk (N := { N with parted := mset N.parted (f, t) 1, under := N.under.filter fun q => !onLink f t q }) h25 hc (by rw [filter_fst (fun q => !onLink f t q), hq]))

theorem run_maps_clone {r : Nat} {es : Array MapEntry} {clock : Nat} (t : TypeId) (hb : w.heap[r]? = some (.map es clock)) :
    (Extern.MapsClone.clone #[.iface t (.map (some r))]).run Try.prog w = .ok (.iface t (.map (some w.heap.size))) (w.alloc (.map es clock)) := by
  have e : Extern.MapsClone.clone #[.iface t (.map (some r))] = (getObj r >>= fun o => match o with
      | .map entries clock => (newObj (.map entries clock) >>= fun n => pure (.iface t (.map (some n))))
      | _ => stuck "maps.clone: a map expected") := rfl
  rw [e]
  simp [run_getObj_map hb, Result.andThen, newObj, Sem.run]
theorem mapsClone_spec {r : Nat} {m : List ((Int × Int) × Int)} (h : St E (mapA r kvL vvI m :: L) w) (k : ∀ w' r', St E (mapA r' kvL vvI m :: mapA r kvL vvI m :: L) w' → R (.returned (.map (some r'))) w') :
    Calls Try.prog 53 #[.map (some r)] w R := by
  refine C_maps_Clone_int ?_
  unfold T_maps_Clone_int
  refine ite_some ?_
  obtain ⟨es, clock, hs, he, hn⟩ := h.mapA_open
  have hrun : (callFunc 56 #[.iface 60 (.map (some r))]).run Try.prog w = .ok (.value (.iface 60 (.map (some w.heap.size)))) (w.alloc (.map es clock)) := by
    rw [run_callFunc_extern Try.func56 (e := Extern.MapsClone.clone) (by kernel_rfl) (by kernel_rfl) (by kernel_rfl) (by kernel_rfl), run_maps_clone 60 hs.at_blk]
    rfl
  refine runV_ok hrun ?_
  show ∃ u4 : Value, _
  refine ⟨_, rfl, rfl, ?_⟩
  have hta : (Instr.typeAssert (.iface 60 (.map (some w.heap.size))) 20 60 false).run Try.prog (w.alloc (.map es clock)) = .ok (.map (some w.heap.size)) (w.alloc (.map es clock)) := by
    simp [Instr.typeAssert, run_underlying_ und_parted, Result.andThen]
  refine runV_ok hta ⟨_, rfl, k _ _ ?_⟩
  have h2 := hs.alloc (.map es clock)
  exact St.mapA_mk (St.mapA_mk h2.f1 he hn).f1 he hn

theorem fork_spec (h : St E (netA p N :: L) w) (hN : okN N) (k : ∀ w' p', St E (netA p' N :: netA p N :: L) w' → R (.returned (.pointer (some ⟨p', 0, none⟩))) w') :
    Calls Try.prog 35 #[.pointer (some ⟨p, 0, none⟩)] w R := by
  obtain ⟨s, pm, qs, hc, hq, ho⟩ := h.net_open
  have hlen : (netV N s pm).length = 13 := by simp [netV, hc]
  have hone : ∀ u ∈ netV N s pm, one u = true := by
    intro u hu
    simp only [netV, List.mem_cons, List.mem_map] at hu
    rcases hu with rfl | rfl | rfl | ⟨c, _, rfl⟩ <;> rfl
  refine C_flight_Net_Fork ?_
  unfold T_flight_Net_Fork
  refine ite_some ⟨_, rfl, ⟨netV N s pm⟩, hlen, rd_agg ho.at_blk (fun j u hu => by rw [Nat.zero_add]; exact hu), ?_⟩
  intro w4
  have h4 := ho.alloc (.cells #[.int .i64 0, .slice none 0 0, .map none, .int .i64 0, .int .i64 0, .int .i64 0, .int .i64 0, .int .i64 0, .int .i64 0, .int .i64 0, .int .i64 0, .int .i64 0, .int .i64 0] 62)
  refine ⟨hlen, wrOk_agg h4.at_blk (by simp [hlen]) hone, ?_⟩
  intro w5
  have h5 := h4.wr_agg0 (xs := netV N s pm) (by simp [hlen])
  refine under_spec (St.net_mk (h5.b4 :) hc hq) hN fun w7 a l c h7 => ⟨_, _, _, rfl, rfl, ?_⟩
  refine ⟨wrOk_fld h7.f2.at_blk (by omega) rfl, ?_⟩
  intro w9
  have h9 : St E (blkL w.heap.size 62 (netV N (a, l, c) pm) :: underA a l c N.under :: netA p N :: L) w9 := h7.f2.wr_fld (k := 1) (v := .slice a l c) rfl
  obtain ⟨s2, pm2, qs2, hc2, hq2, ho2⟩ := (h9.f2 : St E (netA p N :: _) w9).net_open
  refine ⟨_, rfl, _, rd_fld ho2.at_blk rfl rfl, ?_⟩
  refine mapsClone_spec (ho2.f3 :) fun w13 r' h13 => ⟨_, rfl, rfl, ?_⟩
  have h13b : St E (blkL w.heap.size 62 (netV N (a, l, c) pm) :: mapA r' kvL vvI N.parted :: mapA pm2 kvL vvI N.parted :: blkL p 62 (netV N s2 pm2) :: ownS s2.1 s2.2.1 s2.2.2 41 4 (qs2.flatMap pktV) :: pksA qs2 :: underA a l c N.under :: L) w13 := h13.f5
  refine ⟨wrOk_fld h13b.at_blk (by simp [netV]) rfl, ?_⟩
  intro w15
  have h15 : St E (blkL w.heap.size 62 (netV N (a, l, c) r') :: mapA r' kvL vvI N.parted :: mapA pm2 kvL vvI N.parted :: blkL p 62 (netV N s2 pm2) :: ownS s2.1 s2.2.1 s2.2.2 41 4 (qs2.flatMap pktV) :: pksA qs2 :: underA a l c N.under :: L) w15 := h13b.wr_fld (k := 2) (v := .map (some r')) rfl
  have h16 : St E (netA p N :: blkL w.heap.size 62 (netV N (a, l, c) r') :: mapA r' kvL vvI N.parted :: underA a l c N.under :: L) w15 :=
    St.net_mk (h15.f2.f5.f5.f5 :) hc2 hq2
  obtain ⟨qs3, hq3, h17⟩ := (h16.f3 : St E (underA a l c N.under :: _) w15).under_open
  exact k _ _ (St.net_mk (s := (a, l, c)) (h17.f4.f2.f2.f4 :) hc hq3)
end
end Go.Vc
