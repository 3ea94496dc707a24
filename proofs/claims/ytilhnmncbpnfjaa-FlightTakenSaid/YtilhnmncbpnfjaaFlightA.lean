/-
  The net of package flight in memory; its small functions.
-/
import Derived.Test.YtilhnmncbpnfjaaGa
import Derived.Test.YtilhnmncbpnfjaaVcLaw
namespace Go.Vc
open Go Go.Proofs Go.Proofs.Ytilhnmncbpnfjaa

structure Pkt where
  id : Int
  fr : Int
  to : Int
  bytes : List UInt8
abbrev Sl := Option Addr × Nat × Nat
def bytesV (bs : List UInt8) : List Value := bs.map fun b => .int .u8 (b.toNat : Int)
def pktV (q : Pkt × Sl) : List Value := [.int .i64 q.1.id, .int .i64 q.1.fr, .int .i64 q.1.to, .slice q.2.1 q.2.2.1 q.2.2.2]
def pktA (q : Pkt × Sl) : Asrt := ownS q.2.1 q.2.2.1 q.2.2.2 5 1 (bytesV q.1.bytes)
def mkp (id fr to : Int) (bs : List UInt8) (s : Sl) : Pkt × Sl := (⟨id, fr, to, bs⟩, s)
def pksA (qs : List (Pkt × Sl)) : Asrt := seps (qs.map pktA)
/-- Packets in a row of ours, each with bytes of its own. -/
def underA (a : Option Addr) (l c : Nat) (ps : List Pkt) : Asrt := fun h =>
  ∃ qs : List (Pkt × Sl), qs.map (·.1) = ps ∧ seps [ownS a l c 41 4 (qs.flatMap pktV), pksA qs] h
structure Net where
  last : Int
  under : List Pkt
  parted : List ((Int × Int) × Int)
  clocks : List Int
def kvL (p : Int × Int) : Value := .agg #[.int .i64 p.1, .int .i64 p.2]
def vvI (n : Int) : Value := .int .i64 n
def netV (N : Net) (s : Sl) (pm : Nat) : List Value := .int .i64 N.last :: .slice s.1 s.2.1 s.2.2 :: .map (some pm) :: N.clocks.map vvI
def netA (p : Nat) (N : Net) : Asrt := fun h => ∃ (s : Sl) (pm : Nat) (qs : List (Pkt × Sl)), (N.clocks.length = 10 ∧ qs.map (·.1) = N.under) ∧
  seps [blkL p 62 (netV N s pm), ownS s.1 s.2.1 s.2.2 41 4 (qs.flatMap pktV), pksA qs, mapA pm kvL vvI N.parted] h

theorem linkLaw : KeyLaw Try.prog 65 (.struct #[⟨ "from", 3, 0, false, "", "tollgate/flight", 0⟩, ⟨ "to", 3, 1, false, "", "tollgate/flight", 8⟩]) kvL :=
  keyLaw_int2 (k := .i64) (by kernel_rfl) (by kernel_rfl) (by kernel_rfl) (by decide) (by decide) rfl rfl (by kernel_rfl)
theorem und_parted : Try.prog.underlying 60 = some (.map 65 3) := by kernel_rfl
theorem tm_int : tmpl Try.prog 3 = some (.int .i64 0) := by kernel_rfl

theorem bytesV_len (bs : List UInt8) : (bytesV bs).length = bs.length := by simp [bytesV]
theorem bytesV_one (bs : List UInt8) : ∀ u ∈ bytesV bs, one u = true := by
  intro u hu
  obtain ⟨b, _, rfl⟩ := List.mem_map.1 hu
  rfl
theorem bytesV_inj {a b : List UInt8} (h : bytesV a = bytesV b) : a = b := by
  unfold bytesV at h
  refine List.map_inj_right (fun x y hxy => ?_) |>.1 h
  simp only [Value.int.injEq, true_and] at hxy
  exact UInt8.toNat_inj.1 (by exact_mod_cast hxy)
theorem pktV_len (q : Pkt × Sl) : (pktV q).length = 4 := rfl
theorem pktV_one1 (q : Pkt × Sl) : ∀ u ∈ pktV q, one u = true := by
  intro u hu
  simp only [pktV, List.mem_cons, List.not_mem_nil, or_false] at hu
  rcases hu with rfl | rfl | rfl | rfl <;> rfl
theorem pktV_one (qs : List (Pkt × Sl)) : ∀ u ∈ qs.flatMap pktV, one u = true := by
  intro u hu
  obtain ⟨q, _, hq⟩ := List.mem_flatMap.1 hu
  simp only [pktV, List.mem_cons, List.not_mem_nil, or_false] at hq
  rcases hq with rfl | rfl | rfl | rfl <;> rfl

section
variable {E w : World} {L : List Asrt}

theorem St.net_open {p : Nat} {N : Net} (h : St E (netA p N :: L) w) : ∃ (s : Sl) (pm : Nat) (qs : List (Pkt × Sl)), N.clocks.length = 10 ∧ qs.map (·.1) = N.under ∧
    St E (blkL p 62 (netV N s pm) :: ownS s.1 s.2.1 s.2.2 41 4 (qs.flatMap pktV) :: pksA qs :: mapA pm kvL vvI N.parted :: L) w := by
  obtain ⟨en, x, ⟨h1, h2, d, rfl, ⟨s, pm, qs, ⟨hc, hq⟩, hs⟩, hL⟩, hl⟩ := h
  exact ⟨s, pm, qs, hc, hq, (St.open_ (L1 := [_, _, _, _]) ⟨en, _, ⟨h1, h2, d, rfl, hs, hL⟩, hl⟩ :)⟩
theorem St.net_mk {p : Nat} {N : Net} {s : Sl} {pm : Nat} {qs : List (Pkt × Sl)} (h : St E (blkL p 62 (netV N s pm) :: ownS s.1 s.2.1 s.2.2 41 4 (qs.flatMap pktV) :: pksA qs :: mapA pm kvL vvI N.parted :: L) w)
    (hc : N.clocks.length = 10) (hq : qs.map (·.1) = N.under) : St E (netA p N :: L) w :=
  (St.shut (L1 := [_, _, _, _]) h).mono fun _ hx => ⟨s, pm, qs, ⟨hc, hq⟩, hx⟩
theorem St.under_open {a : Option Addr} {l c : Nat} {ps : List Pkt} (h : St E (underA a l c ps :: L) w) : ∃ qs : List (Pkt × Sl), qs.map (·.1) = ps ∧ St E (ownS a l c 41 4 (qs.flatMap pktV) :: pksA qs :: L) w := by
  obtain ⟨en, x, ⟨h1, h2, d, rfl, ⟨qs, hq, hs⟩, hL⟩, hl⟩ := h
  exact ⟨qs, hq, (St.open_ (L1 := [_, _]) ⟨en, _, ⟨h1, h2, d, rfl, hs, hL⟩, hl⟩ :)⟩
theorem St.under_mk {a : Option Addr} {l c : Nat} {qs : List (Pkt × Sl)} (h : St E (ownS a l c 41 4 (qs.flatMap pktV) :: pksA qs :: L) w) : St E (underA a l c (qs.map (·.1)) :: L) w :=
  (St.shut (L1 := [_, _]) h).mono fun _ hx => ⟨qs, rfl, hx⟩
theorem St.pks_nil (h : St E L w) : St E (pksA [] :: L) w := St.shut (L1 := []) h
theorem St.pks_cons {q : Pkt × Sl} {qs : List (Pkt × Sl)} (h : St E (pktA q :: pksA qs :: L) w) : St E (pksA (q :: qs) :: L) w :=
  St.shut (L1 := pktA q :: qs.map pktA) (h.f1.open_.front (qs.map pktA))
theorem St.pks_app {q1 q2 : List (Pkt × Sl)} (h : St E (pksA q1 :: pksA q2 :: L) w) : St E (pksA (q1 ++ q2) :: L) w := by
  have h2 := h.open_
  have h3 : St E (q2.map pktA ++ (q1.map pktA ++ L)) w := (h2.front _).open_
  refine St.shut (L1 := (q1 ++ q2).map pktA) (h3.perm ?_)
  rw [List.map_append, List.append_assoc, ← List.append_assoc, ← List.append_assoc]
  exact List.perm_append_comm.append_right L
theorem St.pks_split {q1 q2 : List (Pkt × Sl)} (h : St E (pksA (q1 ++ q2) :: L) w) : St E (pksA q1 :: pksA q2 :: L) w := by
  have h2 : St E ((q1 ++ q2).map pktA ++ L) w := h.open_
  rw [List.map_append, List.append_assoc] at h2
  refine St.shut (L1 := q1.map pktA) ?_
  have h3 : St E (q2.map pktA ++ (q1.map pktA ++ L)) w := h2.perm (by
    rw [← List.append_assoc, ← List.append_assoc]
    exact List.perm_append_comm.append_right L)
  exact (St.shut h3).perm (perm_front _ _ _).symm
theorem St.pks_uncons {q : Pkt × Sl} {qs : List (Pkt × Sl)} (h : St E (pksA (q :: qs) :: L) w) : St E (pktA q :: pksA qs :: L) w := by
  have h2 : St E (pktA q :: (qs.map pktA ++ L)) w := h.open_
  exact (St.shut (L1 := qs.map pktA) (h2.perm (perm_front _ _ _).symm)).f1
theorem St.pks_rd {qs : List (Pkt × Sl)} {q : Pkt × Sl} {i : Nat} (h : St E (pksA qs :: L) w) (hq : qs[i]? = some q) : RdS w q.2.1 q.2.2.1 1 (bytesV q.1.bytes) := by
  have hs : qs = qs.take i ++ q :: qs.drop (i + 1) := by
    obtain ⟨hlt, he⟩ := List.getElem?_eq_some_iff.1 hq
    rw [← he, ← List.drop_eq_getElem_cons hlt, List.take_append_drop]
  rw [hs] at h
  exact h.pks_split.drop.pks_uncons.rdS_own

theorem app_bytes {a a2 : Option Addr} {l c l2 c2 : Nat} {xs ys : List UInt8} (h : St E (ownS a l c 5 1 (bytesV xs) :: L) w) (hro : RdS w a2 l2 1 (bytesV ys)) (hb : l + l2 ≤ 140737488355328) :
    ∃ a' c' w', (Builtin.append_ #[36, 36] 36 #[.slice a l c, .slice a2 l2 c2]).run Try.prog w = .ok (.slice a' (l + l2) c') w' ∧ St E (ownS a' (l + l2) c' 5 1 (bytesV (xs ++ ys)) :: L) w' := by
  have := append_own (P := Try.prog) (t := 36) (ty := 36) (e := 5) (i := Try.t5) (z := .int .u8 0) (by kernel_rfl) (by kernel_rfl) (by kernel_rfl) (by kernel_rfl) (by decide) (c2 := c2) h hro (bytesV_one ys)
    (by have : Try.t5.bytes = 1 := by kernel_rfl
        rw [this]; omega) (by unfold maxLen; omega)
  rw [show Try.t5.size = 1 from by kernel_rfl] at this
  simpa [bytesV] using this
theorem app_pkts {a a2 : Option Addr} {l c l2 c2 : Nat} {q1 q2 : List (Pkt × Sl)} (h : St E (ownS a l c 41 4 (q1.flatMap pktV) :: L) w) (hro : RdS w a2 l2 4 (q2.flatMap pktV)) (hb : l + l2 ≤ 1000000) :
    ∃ a' c' w', (Builtin.append_ #[33, 33] 33 #[.slice a l c, .slice a2 l2 c2]).run Try.prog w = .ok (.slice a' (l + l2) c') w' ∧ St E (ownS a' (l + l2) c' 41 4 ((q1 ++ q2).flatMap pktV) :: L) w' := by
  have := append_own (P := Try.prog) (t := 33) (ty := 33) (e := 41) (i := Try.t41) (z := .agg #[.int .i64 0, .int .i64 0, .int .i64 0, .slice none 0 0]) (by kernel_rfl) (by kernel_rfl) (by kernel_rfl) (by kernel_rfl) (by decide) (c2 := c2) h hro (pktV_one _)
    (by have : Try.t41.bytes = 48 := by kernel_rfl
        rw [this]; omega) (by unfold maxLen; omega)
  rw [show Try.t41.size = 4 from by kernel_rfl, ← List.flatMap_append] at this
  exact this

theorem cloneBytes {a : Option Addr} {l c : Nat} {bs : List UInt8} {R : Ending → World → Prop} (h : St E L w) (hro : RdS w a l 1 (bytesV bs)) (hl : l ≤ 140737488355328)
    (k : ∀ w' a' c', St E (ownS a' l c' 5 1 (bytesV bs) :: L) w' → R (.returned (.slice a' l c')) w') :
    Calls Try.prog 42 #[.slice a l c] w R := by
  refine C_slices_Clone_byte ?_
  unfold T_slices_Clone_byte
  cases a with
  | none =>
    have hl0 : l = 0 := by
      rcases Nat.eq_zero_or_pos l with h0 | h0
      · exact h0
      · obtain ⟨ad, ha, _⟩ := hro.cells h0; cases ha
    subst hl0
    have hbs : bytesV bs = [] := List.eq_nil_of_length_eq_zero (by simpa using hro.1)
    exact ite_none (k w none 0 (by rw [hbs]; exact h.ownS_nil))
  | some ad =>
    refine ite_some ?_
    intro w2
    have h2 : St E (ownS (some ⟨w.heap.size, 0, none⟩) 0 0 5 1 (bytesV []) :: L) w2 := (h.alloc _).ownS_mk (rest := []) rfl (Nat.le_refl _) (Nat.zero_le _) rfl
    obtain ⟨a', c', w', hr, hs⟩ := app_bytes (c2 := c) h2 (hro.alloc _) (by omega)
    rw [Nat.zero_add] at hr hs
    exact runV_ok hr ⟨_, _, _, rfl, k _ _ _ hs⟩
theorem clonePkts {a : Option Addr} {l c : Nat} {qs : List (Pkt × Sl)} {R : Ending → World → Prop} (h : St E L w) (hro : RdS w a l 4 (qs.flatMap pktV)) (hl : l ≤ 1000000)
    (k : ∀ w' a' c', St E (ownS a' l c' 41 4 (qs.flatMap pktV) :: L) w' → R (.returned (.slice a' l c')) w') :
    Calls Try.prog 41 #[.slice a l c] w R := by
  refine C_slices_Clone_api_Packet ?_
  unfold T_slices_Clone_api_Packet
  cases a with
  | none =>
    have hl0 : l = 0 := by
      rcases Nat.eq_zero_or_pos l with h0 | h0
      · exact h0
      · obtain ⟨ad, ha, _⟩ := hro.cells h0; cases ha
    subst hl0
    have hbs : qs.flatMap pktV = [] := List.eq_nil_of_length_eq_zero (by simpa using hro.1)
    exact ite_none (k w none 0 (by rw [hbs]; exact h.ownS_nil))
  | some ad =>
    refine ite_some ?_
    intro w2
    have h2 : St E (ownS (some ⟨w.heap.size, 0, none⟩) 0 0 41 4 (([] : List (Pkt × Sl)).flatMap pktV) :: L) w2 := (h.alloc _).ownS_mk (rest := []) rfl (Nat.le_refl _) (Nat.zero_le _) rfl
    obtain ⟨a', c', w', hr, hs⟩ := app_pkts (c2 := c) h2 (hro.alloc _) (by omega)
    rw [Nat.zero_add] at hr hs
    exact runV_ok hr ⟨_, _, _, rfl, k _ _ _ hs⟩

def isNode (n : Int) : Bool := decide (1 ≤ n ∧ n ≤ 9)
theorem node_spec {n : Int} {R : Ending → World → Prop} (k : R (.returned (.bool (isNode n))) w) : Calls Try.prog 37 #[.int .i64 n] w R := by
  refine C_flight_node ?_
  unfold T_flight_node
  refine ite_d (fun h => ?_) (fun h => ?_)
  · rwa [show decide (n ≤ 9) = isNode n by simp only [ge_iff_le] at h; simp [isNode, h]]
  · rwa [show false = isNode n by simp only [ge_iff_le] at h; simp [isNode, h]]
def isLink (f t : Int) : Bool := isNode f && (isNode t && !decide (f = t))
theorem is_spec {f t : Int} {R : Ending → World → Prop} (k : R (.returned (.bool (isLink f t))) w) : Calls Try.prog 38 #[.int .i64 f, .int .i64 t] w R := by
  refine C_flight_is ?_
  unfold T_flight_is
  refine node_spec ⟨_, rfl, ite_b (fun h1 => node_spec ⟨_, rfl, ite_b (fun h2 => ?_) (fun h2 => ?_)⟩) (fun h1 => ?_)⟩
  · rwa [show (f != t) = isLink f t by simp only [isLink, h1, h2, Bool.true_and]; simp [bne]; rfl]
  · rwa [show false = isLink f t by simp only [isLink, h1, h2, Bool.true_and, Bool.false_and]]
  · rwa [show false = isLink f t by simp only [isLink, h1, Bool.false_and]]
end
end Go.Vc
