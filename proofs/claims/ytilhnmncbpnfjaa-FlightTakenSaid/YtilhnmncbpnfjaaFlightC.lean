/-
  What the net's other functions do: Len, New, the clocks, Parted, Heal, Under, Double.
-/
import Derived.Test.YtilhnmncbpnfjaaFlightB
namespace Go.Vc
open Go Go.Proofs Go.Proofs.Ytilhnmncbpnfjaa

section
variable {E w : World} {L : List Asrt} {p : Nat} {N : Net} {R : Ending → World → Prop}

def N0 : Net := ⟨0, [], [], [0, 0, 0, 0, 0, 0, 0, 0, 0, 0]⟩
theorem new_spec (h : St E L w) (k : ∀ w' p, St E (netA p N0 :: L) w' → R (.returned (.pointer (some ⟨p, 0, none⟩))) w') :
    Calls Try.prog 12 #[] w R := by
  refine C_flight_New ?_
  unfold T_flight_New
  intro w1 w2
  have h1 : St E (mapA w.heap.size kvL vvI [] :: L) w1 := h.mapA_new kvL vvI
  have h2 := h1.alloc (.cells #[.int .i64 0, .slice none 0 0, .map (some w.heap.size), .int .i64 0, .int .i64 0, .int .i64 0, .int .i64 0, .int .i64 0, .int .i64 0, .int .i64 0, .int .i64 0, .int .i64 0, .int .i64 0] 62)
  refine k _ _ (St.net_mk (s := (none, 0, 0)) (pm := w.heap.size) (qs := []) (N := N0) ?_ rfl rfl)
  exact (St.ownS_nil (St.pks_nil h2.f1).f2).f1

theorem net_count {s : Sl} {pm : Nat} {qs : List (Pkt × Sl)} (hq : qs.map (·.1) = N.under)
    (h : St E (blkL p 62 (netV N s pm) :: ownS s.1 s.2.1 s.2.2 41 4 (qs.flatMap pktV) :: L) w) : N.under.length = s.2.1 ∧ qs.length = s.2.1 := by
  have := h.f1.rdS_own.count pktV_len (by decide)
  exact ⟨by rw [← hq, List.length_map, this], this⟩

theorem len_spec (h : St E (netA p N :: L) w) (k : R (.returned (.int .i64 N.under.length)) w) :
    Calls Try.prog 22 #[.pointer (some ⟨p, 0, none⟩)] w R := by
  obtain ⟨s, pm, qs, hc, hq, ho⟩ := h.net_open
  refine C_flight_Net_Len ?_
  unfold T_flight_Net_Len
  refine ite_some ⟨_, rfl, _, _, _, rd_fld ho.at_blk rfl rfl, ?_⟩
  rwa [← (net_count hq ho).1]

def nTick (N : Net) (k : Int) : Net × Int × Int :=
  if isNode k = false then (N, 0, 2)
  else ({ N with clocks := N.clocks.set k.toNat (N.clocks.getD k.toNat 0 + 1) }, N.clocks.getD k.toNat 0 + 1, 0)
theorem clock_cell {s : Sl} {pm : Nat} {i : Nat} (hi : i < N.clocks.length) : (netV N s pm)[3 + i]? = some (.int .i64 (N.clocks.getD i 0)) := by
  show (_ :: _ :: _ :: N.clocks.map vvI)[3 + i]? = _
  rw [show 3 + i = i + 1 + 1 + 1 by omega]
  simp [vvI, List.getD, hi]
theorem tick_spec {n : Int} (h : St E (netA p N :: L) w) (hN : okN N)
    (k : ∀ w', St E (netA p (nTick N n).1 :: L) w' → R (.returned (.tuple #[.int .i64 (nTick N n).2.1, .int .i64 (nTick N n).2.2])) w') :
    Calls Try.prog 13 #[.pointer (some ⟨p, 0, none⟩), .int .i64 n] w R := by
  obtain ⟨s, pm, qs, hc, hq, ho⟩ := h.net_open
  refine C_flight_Net_Tick ?_
  unfold T_flight_Net_Tick
  refine ite_some (node_spec ⟨_, rfl, ite_n (fun hl => ?_) (fun hl => ?_)⟩)
  · rw [show nTick N n = (N, 0, 2) by simp [nTick, hl]] at k
    exact k _ h
  · intro w6
    have h6 := ho.drew
    have hn : 1 ≤ n ∧ n ≤ 9 := by simpa [isNode] using hl
    have hi : n.toNat < N.clocks.length := by omega
    have hb : 0 ≤ N.clocks.getD n.toNat 0 ∧ N.clocks.getD n.toNat 0 ≤ 100000 := by
      refine hN.2.2.2.2 _ ?_
      rw [show N.clocks.getD n.toNat 0 = N.clocks[n.toNat] by simp [List.getD, hi]]; exact List.getElem_mem _
    rw [show nTick N n = ({ N with clocks := N.clocks.set n.toNat (N.clocks.getD n.toNat 0 + 1) }, N.clocks.getD n.toNat 0 + 1, 0) by simp only [nTick, hl]; rw [if_neg (by simp)]] at k
    have ha : ((⟨p, 0, none⟩ : Addr).add 3).add (n.toNat * 1) = (⟨p, 0, none⟩ : Addr).add (3 + n.toNat) := by rw [add_mk, add_mk, add_mk]; simp
    refine ⟨_, rfl, by omega, by omega, N.clocks.getD n.toNat 0, by rw [ha]; exact rd_fld h6.at_blk (clock_cell hi) rfl, _, rfl, by omega, by omega, rfl, ?_⟩
    rw [ha, wrap_id (by omega) (by omega)]
    refine ⟨wrOk_fld h6.at_blk (by simp [netV]; omega) rfl, ?_⟩
    intro w10
    have h10 : St E (blkL p 62 (netV { N with clocks := N.clocks.set n.toNat (N.clocks.getD n.toNat 0 + 1) } s pm) :: ownS s.1 s.2.1 s.2.2 41 4 (qs.flatMap pktV) :: pksA qs :: mapA pm kvL vvI N.parted :: L) w10 := by
      have := h6.wr_fld (k := 3 + n.toNat) (v := .int .i64 (N.clocks.getD n.toNat 0 + 1)) rfl
      rw [show (netV N s pm).set (3 + n.toNat) (.int .i64 (N.clocks.getD n.toNat 0 + 1)) = netV { N with clocks := N.clocks.set n.toNat (N.clocks.getD n.toNat 0 + 1) } s pm by
        rw [show 3 + n.toNat = n.toNat + 1 + 1 + 1 by omega]; simp [netV, vvI]] at this
      exact this
    refine ⟨trivial, _, rfl, by omega, by omega, (N.clocks.set n.toNat (N.clocks.getD n.toNat 0 + 1)).getD n.toNat 0, by rw [ha]; exact rd_fld h10.at_blk (clock_cell (N := { N with clocks := N.clocks.set n.toNat (N.clocks.getD n.toNat 0 + 1) }) (by simpa using hi)) rfl, ?_⟩
    have hv : (N.clocks.set n.toNat (N.clocks.getD n.toNat 0 + 1)).getD n.toNat 0 = N.clocks.getD n.toNat 0 + 1 := by
      simp [List.getD, hi]
    rw [hv]
    exact k _ (St.net_mk h10 (by simpa using hc) hq)
def nNow (N : Net) (k : Int) : Int := if isNode k = false then 0 else N.clocks.getD k.toNat 0
theorem now_spec {n : Int} (h : St E (netA p N :: L) w) (k : R (.returned (.int .i64 (nNow N n))) w) :
    Calls Try.prog 14 #[.pointer (some ⟨p, 0, none⟩), .int .i64 n] w R := by
  obtain ⟨s, pm, qs, hc, hq, ho⟩ := h.net_open
  refine C_flight_Net_Now ?_
  unfold T_flight_Net_Now T_flight_Net_Now_1
  refine ite_some (node_spec ⟨_, rfl, ite_n (fun hl => ?_) (fun hl => ?_)⟩)
  · rwa [show nNow N n = 0 by simp [nNow, hl]] at k
  · have hn : 1 ≤ n ∧ n ≤ 9 := by simpa [isNode] using hl
    have ha : ((⟨p, 0, none⟩ : Addr).add 3).add (n.toNat * 1) = (⟨p, 0, none⟩ : Addr).add (3 + n.toNat) := by rw [add_mk, add_mk, add_mk]; simp
    refine ⟨_, rfl, by omega, by omega, N.clocks.getD n.toNat 0, ?_, ?_⟩
    · rw [ha]
      exact rd_fld ho.at_blk (clock_cell (by omega)) rfl
    · rwa [show nNow N n = N.clocks.getD n.toNat 0 by simp only [nNow, hl]; rw [if_neg (by simp)]] at k
def nParted (N : Net) (f t : Int) : Bool := decide (0 < (mget N.parted (f, t)).getD 0)
theorem parted_spec {f t : Int} (h : St E (netA p N :: L) w) (k : R (.returned (.bool (nParted N f t))) w) :
    Calls Try.prog 26 #[.pointer (some ⟨p, 0, none⟩), .int .i64 f, .int .i64 t] w R := by
  obtain ⟨s, pm, qs, hc, hq, ho⟩ := h.net_open
  refine C_flight_Net_Parted ?_
  unfold T_flight_Net_Parted
  rw [if_pos (by rfl)]
  exact ⟨_, rfl, _, rd_fld ho.at_blk rfl rfl, runV_ok (look_parted ho.f3 f t) ⟨_, rfl, k⟩⟩
def nHeal (N : Net) (f t : Int) : Net × Int := if isLink f t = false then (N, 2) else ({ N with parted := mdel N.parted (f, t) }, 0)
theorem heal_spec {f t : Int} (h : St E (netA p N :: L) w) (k : ∀ w', St E (netA p (nHeal N f t).1 :: L) w' → R (.returned (.int .i64 (nHeal N f t).2)) w') :
    Calls Try.prog 27 #[.pointer (some ⟨p, 0, none⟩), .int .i64 f, .int .i64 t] w R := by
  obtain ⟨s, pm, qs, hc, hq, ho⟩ := h.net_open
  refine C_flight_Net_Heal ?_
  unfold T_flight_Net_Heal
  refine ite_some (is_spec ⟨_, rfl, ite_n (fun hl => ?_) (fun hl => ?_)⟩)
  · rw [show nHeal N f t = (N, 2) by simp [nHeal, hl]] at k
    exact k _ h
  · rw [show nHeal N f t = ({ N with parted := mdel N.parted (f, t) }, 0) by simp only [nHeal, hl]; rw [if_neg (by simp)]] at k
    obtain ⟨w', hr, h'⟩ := delete_run linkLaw und_parted ho.f3 (f, t) #[60, 65] 0 rfl
    exact ⟨_, rfl, _, rd_fld ho.at_blk rfl rfl, runV_ok hr (k _ (St.net_mk (N := { N with parted := mdel N.parted (f, t) }) h'.b3 hc hq))⟩

theorem under_loop {a : Option Addr} {l c : Nat} {qs : List (Pkt × Sl)} {Kn : World → Prop} {Kp : List PanicEntry → World → Prop} (hb : ∀ q ∈ qs, q.1.bytes.length ≤ 1000000) (hl : qs.length = l) (hm : l ≤ 1000000)
    (X : Int → World → Prop) (hX : ∀ (x : Int) (w : World), T_flight_Net_Under_1_body X x a l c (l : Int) w Kn Kp → X x w)
    (k : ∀ w' news, news.map (·.1) = qs.map (·.1) → St E (ownS a l c 41 4 (news.flatMap pktV) :: pksA news :: pksA qs :: L) w' → Kn w') :
    ∀ (n i : Nat) (news : List (Pkt × Sl)) (w : World), n = l - i → i ≤ l → news.map (·.1) = (qs.take i).map (·.1) →
      St E (ownS a l c 41 4 ((news ++ qs.drop i).flatMap pktV) :: pksA news :: pksA qs :: L) w → X i w := by
  intro n
  induction n with
  | zero =>
    intro i news w hn hi hnews h
    have hil : i = l := by omega
    subst hil
    refine hX _ _ ?_
    unfold T_flight_Net_Under_1_body
    refine ite_d (fun hh => by omega) (fun _ => ?_)
    rw [List.drop_of_length_le (by omega), List.append_nil] at h
    rw [List.take_of_length_le (by omega)] at hnews
    exact k w news hnews h
  | succ n ih =>
    intro i news w hn hi hnews h
    refine hX _ _ ?_
    unfold T_flight_Net_Under_1_body
    have hil : i < qs.length := by omega
    have hnl : news.length = i := by have := congrArg List.length hnews; simpa [Nat.min_eq_left (Nat.le_of_lt hil)] using this
    have hqi : qs[i]? = some qs[i] := List.getElem?_eq_getElem hil
    have hgi : (news ++ qs.drop i)[i]? = some qs[i] := by
      rw [List.getElem?_append_right (by omega), hnl, Nat.sub_self, List.getElem?_drop, Nat.add_zero]; exact hqi
    obtain ⟨ad, ha, _, hc⟩ := h.rdS_own.elem pktV_len hgi (by decide)
    have hrb := h.f2.pks_rd hqi
    have hlen : bytesV qs[i].1.bytes = bytesV qs[i].1.bytes := rfl
    have hbl : qs[i].2.2.1 ≤ 1000000 := by
      have h1 := hrb.1
      have h2 := hb qs[i] (List.getElem_mem hil)
      rw [bytesV_len] at h1; omega
    refine ite_d (fun _ => ?_) (fun hh => by omega)
    refine ⟨by omega, by omega, ad, ha, qs[i].2.1, qs[i].2.2.1, qs[i].2.2.2, ?_, ?_⟩
    · exact hc 3 _ rfl rfl
    · refine cloneBytes h hrb (by omega) fun w13 a' c' h13 => ⟨_, _, _, rfl, by omega, by omega, ad, ha, rfl, ?_⟩
      have hadd : (ad.add ((i : Int).toNat * 4)).add 3 = ad.add (i * 4 + 3) := by
        rcases h.ownS_open with ⟨h0, _⟩ | ⟨g, rest, h0, _⟩ <;> rw [h0] at ha
        · cases ha
        · injection ha with ha; subst ha; rw [add_mk, add_mk, add_mk]; simp
      rw [hadd]
      have hlt : i * 4 + 3 < ((news ++ qs.drop i).flatMap pktV).length := by
        rw [flat_len pktV_len]; simp only [List.length_append, List.length_drop]; omega
      obtain ⟨hok, h16⟩ := h13.f1.ownS_set ha hlt (v := .slice a' qs[i].2.2.1 c') rfl
      refine ⟨hok, ?_⟩
      intro w16
      rw [wrap_id (by omega) (by omega)]
      have hset : ((news ++ qs.drop i).flatMap pktV).set (i * 4 + 3) (.slice a' qs[i].2.2.1 c') = ((news ++ [(qs[i].1, (a', qs[i].2.2.1, c'))]) ++ qs.drop (i + 1)).flatMap pktV := by
        rw [List.drop_eq_getElem_cons hil]
        simp only [List.flatMap_append, List.flatMap_cons, List.flatMap_nil, List.append_nil]
        rw [List.set_append_right _ _ (by rw [flat_len pktV_len, hnl]; omega), flat_len pktV_len, hnl, show i * 4 + 3 - i * 4 = 3 by omega, List.append_assoc]
        rfl
      rw [hset] at h16
      have h17 : St E (pksA (news ++ [(qs[i].1, (a', qs[i].2.2.1, c'))]) :: ownS a l c 41 4 (((news ++ [(qs[i].1, (a', qs[i].2.2.1, c'))]) ++ qs.drop (i + 1)).flatMap pktV) :: pksA qs :: L) w16 :=
        St.pks_app ((St.pks_cons (q := (qs[i].1, (a', qs[i].2.2.1, c'))) (h16.f1.pks_nil.f1 :)).f2 :)
      have := ih (i + 1) (news ++ [(qs[i].1, (a', qs[i].2.2.1, c'))]) w16 (by omega) (by omega) (by
        rw [List.map_append, hnews, List.take_succ_eq_append_getElem hil, List.map_append]; rfl) h17.f1
      exact_mod_cast this
theorem under_spec (h : St E (netA p N :: L) w) (hN : okN N) (k : ∀ w' a l c, St E (underA a l c N.under :: netA p N :: L) w' → R (.returned (.slice a l c)) w') :
    Calls Try.prog 20 #[.pointer (some ⟨p, 0, none⟩)] w R := by
  obtain ⟨s, pm, qs, hc, hq, ho⟩ := h.net_open
  have hct := net_count hq ho
  refine C_flight_Net_Under ?_
  unfold T_flight_Net_Under
  refine ite_some ⟨_, rfl, _, _, _, rd_fld ho.at_blk rfl rfl, ?_⟩
  refine clonePkts ho ho.f1.rdS_own (by have := hN.1; omega) fun w5 a' c' h5 => ⟨_, _, _, rfl, ?_⟩
  unfold T_flight_Net_Under_1
  intro X hX
  refine under_loop (E := E) (L := blkL p 62 (netV N s pm) :: ownS s.1 s.2.1 s.2.2 41 4 (qs.flatMap pktV) :: mapA pm kvL vvI N.parted :: L) (qs := qs) ?_ hct.2 (by have := hN.1; omega) X hX (fun w2 news hnews h2 => ?_) s.2.1 0 [] w5 (by omega) (by omega) rfl ?_
  · intro q hqm
    have := hN.2.1 q.1 (by rw [← hq]; exact List.mem_map_of_mem hqm)
    omega
  · have h3 := St.under_mk (h2)
    rw [hnews, hq] at h3
    exact k _ _ _ _ ((St.net_mk (h3.b4.b2 :) hc hq).f1 :)
  · simp only [List.drop_zero, List.nil_append]
    exact (St.pks_nil (h5.f3 :)).f2
end
end Go.Vc
