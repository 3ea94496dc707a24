/-
  The keys of a map in their order: maps.Keys, slices.Sorted, slices.SortedFunc at the three kinds of keys.
-/
import Derived.Test.YtcpmfjclkdjfmaaGreatGc
import Derived.Test.YtcpmfjclkdjfmaaGreatConfK
import Derived.Test.YtcpmfjclkdjfmaaGreatConfL
import Derived.Test.YtcpmfjclkdjfmaaGreatConfA
import Derived.Test.YtcpmfjclkdjfmaaGreatVcSort
import Derived.Shelf.SortM.Plain
import Derived.Shelf.SortM.SortNone
import Derived.Shelf.SlSortCmp.NoneTotal
namespace Go.Vc
open Go Go.Proofs Go.Proofs.YtcpmfjclkdjfmaaGreat Go.RowKit Go.Sort Go.Shelf
set_option maxRecDepth 100000

section
variable {E w : World} {L : List Asrt} {R : Ending → World → Prop} {ν : Type} {vv : ν → Value} {b : Nat}
theorem keysFn_S : ∀ args w, (callFunc 75 args).run Tryz.prog w = .ok (.enter 75 args) w := enters_of Tryz.func75 (by kernel_rfl) rfl
theorem keysFn_I : ∀ args w, (callFunc 93 args).run Tryz.prog w = .ok (.enter 93 args) w := enters_of Tryz.func93 (by kernel_rfl) rfl
theorem keysFn_P : ∀ args w, (callFunc 113 args).run Tryz.prog w = .ok (.enter 113 args) w := enters_of Tryz.func113 (by kernel_rfl) rfl

/-! ### what is collected -/
theorem CollectS_spec {m : List (List UInt8 × ν)} {B : Nat} (h : St E (blkL B 75 [.map (some b)] :: mapA b encS vv m :: L) w) (hN : m.length ≤ 1000)
    (k : ∀ a l c w' (ss : List (List UInt8)), ss.Perm (m.map (·.1)) → l = ss.length → St E (ownS a l c 9 1 (ss.flatMap celS) :: blkL B 75 [.map (some b)] :: mapA b encS vv m :: L) w' → R (.returned (.slice a l c)) w') :
    Calls Tryz.prog 73 #[.func (.func 75) #[] #[.pointer (some ⟨B, 0, none⟩)]] w R := by
  have hB := h.at_blk
  have hlt := (Array.getElem?_eq_some_iff.1 hB).1
  refine C_slices_Collect_string ?_
  unfold T_slices_Collect_string
  refine ((callsIn_wide (n := 2)).1 (appendSeqS_in Fence.wide 2 trivial rfl (by decide) _ #[.pointer (some ⟨B, 0, none⟩)] trivial keysFn_S (fun ss => ss.Perm (m.map (·.1))) m.length (by simp only [maxLen]; omega) (by omega) w
    (givesS Fence.wide 1 trivial rfl (by decide) B b m w hlt (by rw [cell_of hB]; rfl) h.f1.mapW))).mono ?_
  rintro e w' ⟨v, ss, rfl, hS, hr, hb⟩
  obtain ⟨a, c, rfl, h2⟩ := h.of_row hb hr
  exact ⟨a, _, c, rfl, k _ _ _ _ ss hS rfl h2⟩
theorem CollectI_spec {m : List (Int × ν)} {B : Nat} (h : St E (blkL B 77 [.map (some b)] :: mapA b encI vv m :: L) w) (hN : m.length ≤ 1000)
    (k : ∀ a l c w' (ss : List Int), ss.Perm (m.map (·.1)) → l = ss.length → St E (ownS a l c 3 1 (ss.flatMap celI) :: blkL B 77 [.map (some b)] :: mapA b encI vv m :: L) w' → R (.returned (.slice a l c)) w') :
    Calls Tryz.prog 91 #[.func (.func 93) #[] #[.pointer (some ⟨B, 0, none⟩)]] w R := by
  have hB := h.at_blk
  have hlt := (Array.getElem?_eq_some_iff.1 hB).1
  refine C_slices_Collect_int ?_
  unfold T_slices_Collect_int
  refine ((callsIn_wide (n := 2)).1 (appendSeqI_in Fence.wide 2 trivial rfl (by decide) _ #[.pointer (some ⟨B, 0, none⟩)] trivial keysFn_I (fun ss => ss.Perm (m.map (·.1))) m.length (by simp only [maxLen]; omega) (by omega) w
    (givesI Fence.wide 1 trivial rfl (by decide) B b m w hlt (by rw [cell_of hB]; rfl) h.f1.mapW))).mono ?_
  rintro e w' ⟨v, ss, rfl, hS, hr, hb⟩
  obtain ⟨a, c, rfl, h2⟩ := h.of_row hb hr
  exact ⟨a, _, c, rfl, k _ _ _ _ ss hS rfl h2⟩
theorem CollectP_spec {m : List (Pr × ν)} {B : Nat} (h : St E (blkL B 76 [.map (some b)] :: mapA b encP vv m :: L) w) (hN : m.length ≤ 1000)
    (k : ∀ a l c w' (ss : List Pr), ss.Perm (m.map (·.1)) → l = ss.length → St E (ownS a l c 89 2 (ss.flatMap celP) :: blkL B 76 [.map (some b)] :: mapA b encP vv m :: L) w' → R (.returned (.slice a l c)) w') :
    Calls Tryz.prog 111 #[.func (.func 113) #[] #[.pointer (some ⟨B, 0, none⟩)]] w R := by
  have hB := h.at_blk
  have hlt := (Array.getElem?_eq_some_iff.1 hB).1
  refine C_slices_Collect_conf_place ?_
  unfold T_slices_Collect_conf_place
  refine ((callsIn_wide (n := 2)).1 (appendSeqP_in Fence.wide 2 trivial rfl (by decide) _ #[.pointer (some ⟨B, 0, none⟩)] trivial keysFn_P (fun ss => ss.Perm (m.map (·.1))) m.length (by simp only [maxLen]; omega) (by omega) w
    (givesP Fence.wide 1 trivial rfl (by decide) B b m w hlt (by rw [cell_of hB]; rfl) h.f1.mapW))).mono ?_
  rintro e w' ⟨v, ss, rfl, hS, hr, hb⟩
  obtain ⟨a, c, rfl, h2⟩ := h.of_row hb hr
  exact ⟨a, _, c, rfl, k _ _ _ _ ss hS rfl h2⟩

/-! ### sorted -/
theorem flat_celS (ss : List (List UInt8)) : ss.flatMap celS = ss.map encStr := by induction ss with
  | nil => rfl
  | cons a r ih => rw [List.flatMap_cons, ih]; rfl
theorem flat_celI (ss : List Int) : ss.flatMap celI = ss.map (Value.int .i64) := by induction ss with
  | nil => rfl
  | cons a r ih => rw [List.flatMap_cons, ih]; rfl
theorem SortS_spec {a : Option Addr} {c : Nat} {ss ks : List (List UInt8)} (h : St E (ownS a ss.length c 9 1 (ss.flatMap celS) :: L) w) (hN : ss.length ≤ 1000) (hp : ks.Perm ss) (hk : ks.Pairwise (· < ·))
    (k : ∀ w', St E (ownS a ks.length c 9 1 (ks.flatMap celS) :: L) w' → R (.returned (.tuple #[])) w') : Calls Tryz.prog 74 #[.slice a ss.length c] w R := by
  have hl := hp.length_eq
  obtain ⟨_, hlc, hcm⟩ := h.ownS_facts
  rcases h.ownS_open with ⟨rfl, h0, rfl, hx⟩ | ⟨g, rest, rfl, hr, h2⟩
  · have hs : ss = [] := List.eq_nil_of_length_eq_zero h0
    subst hs
    have hk0 : ks = [] := List.eq_nil_of_length_eq_zero hl
    subst hk0
    refine (AnyM.slices_Sort_string_none Tryz.sortS none 0 w).mono ?_
    rintro e w' ⟨rfl, rfl⟩
    exact k _ h
  · rw [flat_celS] at h2
    refine (AnyM.slices_Sort_string Tryz.sortS g 0 c ss w (holds_row (enc := encStr) h2.at_blk) (Array.getElem?_eq_some_iff.1 h2.at_blk).1 (by omega)).mono ?_
    rintro e w' ⟨rfl, n, os, rfl⟩
    rw [uniq_str hp hk]
    refine k _ (St.ownS_mk (rest := rest) ?_ (by rw [flat_celS]; simp) (by omega) hcm (by omega))
    rw [flat_celS]
    exact h2.sorted_row (by simp [hl])
theorem SortI_spec {a : Option Addr} {c : Nat} {ss ks : List Int} (h : St E (ownS a ss.length c 3 1 (ss.flatMap celI) :: L) w) (hN : ss.length ≤ 1000) (hp : ks.Perm ss) (hk : ks.Pairwise (· < ·))
    (k : ∀ w', St E (ownS a ks.length c 3 1 (ks.flatMap celI) :: L) w' → R (.returned (.tuple #[])) w') : Calls Tryz.prog 92 #[.slice a ss.length c] w R := by
  have hl := hp.length_eq
  obtain ⟨_, hlc, hcm⟩ := h.ownS_facts
  rcases h.ownS_open with ⟨rfl, h0, rfl, hx⟩ | ⟨g, rest, rfl, hr, h2⟩
  · have hs : ss = [] := List.eq_nil_of_length_eq_zero h0
    subst hs
    have hk0 : ks = [] := List.eq_nil_of_length_eq_zero hl
    subst hk0
    refine (AnyM.slices_Sort_int_none Tryz.sortI none 0 w).mono ?_
    rintro e w' ⟨rfl, rfl⟩
    exact k _ h
  · rw [flat_celI] at h2
    refine (AnyM.slices_Sort_int Tryz.sortI g 0 c ss w (holds_row (enc := Value.int .i64) h2.at_blk) (Array.getElem?_eq_some_iff.1 h2.at_blk).1 (by omega)).mono ?_
    rintro e w' ⟨rfl, n, os, rfl⟩
    rw [uniq_int hp hk]
    refine k _ (St.ownS_mk (rest := rest) ?_ (by rw [flat_celI]; simp) (by omega) hcm (by omega))
    rw [flat_celI]
    exact h2.sorted_row (by simp [hl])

/-! ### the order of places -/
theorem isNaN_spec {s : ByteArray} (k : R (.returned (.bool false)) w) : Calls Tryz.prog 114 #[.string s] w R := by
  refine C_cmp_isNaN_string ?_
  unfold T_cmp_isNaN_string
  simpa using k
theorem Compare_spec {x y : List UInt8} (k : R (.returned (.int .i64 (cmpS x y))) w) : Calls Tryz.prog 80 #[encStr x, encStr y] w R := by
  refine C_cmp_Compare_string ?_
  unfold T_cmp_Compare_string
  refine isNaN_spec ⟨_, rfl, isNaN_spec ⟨_, rfl, ?_⟩⟩
  refine ite_b (fun h => by cases h) fun _ => ite_b (fun h => by cases h) fun _ => ?_
  unfold cmpS at k
  simp only [bytesLess_eq]
  by_cases h1 : x < y
  · rw [if_pos h1] at k
    rw [if_pos (by simpa using h1)]; exact k
  · rw [if_neg h1] at k
    rw [if_neg (by simpa using h1)]
    by_cases h2 : y < x
    · rw [if_pos h2] at k
      have : x ≠ y := fun e => by rw [e] at h2; exact absurd h2 (List.lt_irrefl _)
      rw [if_pos (by simp [h1, this])]; exact k
    · rw [if_neg h2] at k
      have : x = y := List.le_antisymm (List.not_lt.1 h2) (List.not_lt.1 h1)
      rw [if_neg (by simp [this])]; exact k
theorem Or_spec {a : Addr} {x y : Int} (hx : rd w a (.int .i64 x)) (hy : rd w (a.add 1) (.int .i64 y)) (ha : a.add 0 = a) (k : R (.returned (.int .i64 (if x ≠ 0 then x else y))) w) : Calls Tryz.prog 79 #[.slice (some a) 2 2] w R := by
  refine C_cmp_Or_int ?_
  unfold T_cmp_Or_int T_cmp_Or_int_1
  intro X hX
  refine hX _ _ ?_
  unfold T_cmp_Or_int_1_body
  refine ite_d (fun _ => ⟨by decide, by decide, a, rfl, x, by simpa [ha] using hx, ?_⟩) fun h => absurd h (by decide)
  by_cases h0 : x = 0
  · subst h0
    simp only [ne_eq, not_true_eq_false, if_false] at k
    refine ite_b (fun h => by simp at h) fun _ => hX _ _ ?_
    unfold T_cmp_Or_int_1_body
    refine ite_d (fun _ => ⟨by decide, by decide, a, rfl, y, hy, ?_⟩) fun h => absurd h (by decide)
    refine ite_b (fun _ => k) fun hy0 => hX _ _ ?_
    have : y = 0 := by simpa using hy0
    subst this
    unfold T_cmp_Or_int_1_body
    exact ite_d (fun h => absurd h (by decide)) fun _ => k
  · simp only [ne_eq, h0, not_false_eq_true, if_true] at k
    refine ite_b (fun _ => k) fun h => by simp at h; exact absurd h h0

theorem grow_three (W : World) (o1 o2 o3 : Obj) : (((W.alloc o1).alloc o2).drew).alloc o3 = grow (W.drewN 1) #[o1, o2, o3] := by
  rw [alloc_eq_grow, alloc_eq_grow, alloc_eq_grow]
  show grow (grow (grow W.drew #[o1]) #[o2]) #[o3] = grow W.drew #[o1, o2, o3]
  rw [grow_grow, grow_grow]
  rfl
theorem cmpLays (blk off size : Nat) (w : World) : CmpLays Tryz.prog 78 #[] celP 2 cmpP blk off size w := by
  intro m os dk _ x y
  generalize sortWorldK celP 2 w blk off m dk os = W
  have e : (#[.agg (celP x).toArray, .agg (celP y).toArray] ++ #[] : Array Value) = #[.agg #[.string ⟨x.1.toArray⟩, .string ⟨x.2.toArray⟩], .agg #[.string ⟨y.1.toArray⟩, .string ⟨y.2.toArray⟩]] := by simp [celP]
  rw [e]
  refine C_conf_Store_sorted_c1 ?_
  unfold T_conf_Store_sorted_c1
  intro w5 w6 w7
  have h5 := (St.start_kn W).alloc (.cells #[.string ⟨x.1.toArray⟩, .string ⟨x.2.toArray⟩] 89)
  have h6 := h5.alloc (.cells #[.string ⟨y.1.toArray⟩, .string ⟨y.2.toArray⟩] 89)
  have h7 : St W _ w7 := h6.drew
  refine ⟨_, rd_cell h7.f1.at_blk rfl rfl, _, rd_cell h7.at_blk rfl rfl, _, rd_fld h7.f1.at_blk rfl rfl, _, rd_fld h7.at_blk rfl rfl, Compare_spec ⟨_, rfl, ⟨rd_fld h7.at_blk rfl rfl, rd_fld h7.f1.at_blk rfl rfl, trivial⟩, Compare_spec ⟨_, rfl, trivial, ?_⟩⟩⟩
  intro w18
  have h8 := h7.alloc (.cells #[.int .i64 (cmpS x.1 y.1), .int .i64 (cmpS x.2 y.2)] 3)
  refine ⟨trivial, Or_spec (rd_cell h8.at_blk rfl rfl) (rd_fld h8.at_blk rfl rfl) rfl ⟨_, rfl, trivial, rfl, 1, _, grow_three W _ _ _⟩⟩
theorem SortP_spec {a : Option Addr} {c : Nat} {ss ks : List Pr} (h : St E (ownS a ss.length c 89 2 (ss.flatMap celP) :: L) w) (hN : ss.length ≤ 1000) (hp : ks.Perm ss) (hk : ks.Pairwise fun a b => prLt a b = true)
    (k : ∀ w', St E (ownS a ks.length c 89 2 (ks.flatMap celP) :: L) w' → R (.returned (.tuple #[])) w') : Calls Tryz.prog 112 #[.slice a ss.length c, .func (.func 78) #[] #[]] w R := by
  have hl := hp.length_eq
  obtain ⟨_, hlc, hcm⟩ := h.ownS_facts
  rcases h.ownS_open with ⟨rfl, h0, rfl, hx⟩ | ⟨g, rest, rfl, hr, h2⟩
  · have hs : ss = [] := List.eq_nil_of_length_eq_zero h0
    subst hs
    have hk0 : ks = [] := List.eq_nil_of_length_eq_zero hl
    subst hk0
    refine (AnyF.slices_SortFunc_none Tryz.sortP none 0 _ w).mono ?_
    rintro e w' ⟨rfl, rfl⟩
    exact k _ h
  · have hfl : flatK celP 2 ss.toArray = (ss.flatMap celP).toArray := flatK_eq celP 2 (fun _ => rfl) (by decide) ss
    have hH : HoldsK celP 2 w g 0 ss.toArray := by
      unfold HoldsK
      rw [hfl]
      refine holds_row (enc := id) (rest := rest) (e := 89) ?_
      rw [List.map_id]
      exact h2.at_blk
    refine (AnyQ.slices_SortFunc_total Tryz.sortP 2 (run_isAgg (P := Tryz.prog) (t := 89) rfl) (fun w => by kernel_rfl) celP (fun _ => rfl) (fun x v hv => by simp [celP] at hv; rcases hv with rfl | rfl <;> rfl) cmpP swoP 78 #[] g 0 c ss.toArray w
      (enters_of Tryz.func78 (by kernel_rfl) rfl) (cmpLays g 0 _ w) hH (Array.getElem?_eq_some_iff.1 h2.at_blk).1 (by simp; omega) totP).mono ?_
    rintro e w' ⟨rfl, n, os, rfl⟩
    rw [uniq_pr hp hk]
    unfold sortWorldK putRowK
    rw [flatK_eq celP 2 (fun _ => rfl) (by decide) ks]
    refine k _ (St.ownS_mk (rest := rest) ?_ (flat_len (f := celP) (fun _ => rfl) ks) (by omega) hcm (by rw [hl]; exact hr))
    have := h2.sorted_row (enc := id) (ts := ks.flatMap celP) (m := n) (os := os) (by rw [flat_len (sz := 2) (fun _ => rfl), flat_len (sz := 2) (fun _ => rfl), hl])
    rwa [List.map_id] at this

/-! ### the keys in their order, in new memory -/
theorem SortedS_spec {m : List (List UInt8 × ν)} {B : Nat} {ks : List (List UInt8)} (h : St E (blkL B 75 [.map (some b)] :: mapA b encS vv m :: L) w) (hN : m.length ≤ 1000) (hp : ks.Perm (m.map (·.1))) (hk : ks.Pairwise (· < ·))
    (k : ∀ a c w', St E (ownS a ks.length c 9 1 (ks.flatMap celS) :: mapA b encS vv m :: L) w' → R (.returned (.slice a ks.length c)) w') :
    Calls Tryz.prog 37 #[.func (.func 75) #[] #[.pointer (some ⟨B, 0, none⟩)]] w R := by
  refine C_slices_Sorted_string ?_
  unfold T_slices_Sorted_string
  refine CollectS_spec h hN fun a l c w' ss hss hl h2 => ⟨_, _, _, rfl, ?_⟩
  subst hl
  have hlen : ss.length ≤ 1000 := by have := hss.length_eq; simp at this; omega
  refine SortS_spec h2 hlen (hp.trans hss.symm) hk fun w'' h3 => ⟨rfl, ?_⟩
  have e : ss.length = ks.length := (hp.trans hss.symm).length_eq.symm
  rw [e]
  exact k _ _ _ h3.f1.drop
theorem SortedI_spec {m : List (Int × ν)} {B : Nat} {ks : List Int} (h : St E (blkL B 77 [.map (some b)] :: mapA b encI vv m :: L) w) (hN : m.length ≤ 1000) (hp : ks.Perm (m.map (·.1))) (hk : ks.Pairwise (· < ·))
    (k : ∀ a c w', St E (ownS a ks.length c 3 1 (ks.flatMap celI) :: mapA b encI vv m :: L) w' → R (.returned (.slice a ks.length c)) w') :
    Calls Tryz.prog 51 #[.func (.func 93) #[] #[.pointer (some ⟨B, 0, none⟩)]] w R := by
  refine C_slices_Sorted_int ?_
  unfold T_slices_Sorted_int
  refine CollectI_spec h hN fun a l c w' ss hss hl h2 => ⟨_, _, _, rfl, ?_⟩
  subst hl
  have hlen : ss.length ≤ 1000 := by have := hss.length_eq; simp at this; omega
  refine SortI_spec h2 hlen (hp.trans hss.symm) hk fun w'' h3 => ⟨rfl, ?_⟩
  have e : ss.length = ks.length := (hp.trans hss.symm).length_eq.symm
  rw [e]
  exact k _ _ _ h3.f1.drop
theorem SortedP_spec {m : List (Pr × ν)} {B : Nat} {ks : List Pr} (h : St E (blkL B 76 [.map (some b)] :: mapA b encP vv m :: L) w) (hN : m.length ≤ 1000) (hp : ks.Perm (m.map (·.1))) (hk : ks.Pairwise fun a b => prLt a b = true)
    (k : ∀ a c w', St E (ownS a ks.length c 89 2 (ks.flatMap celP) :: mapA b encP vv m :: L) w' → R (.returned (.slice a ks.length c)) w') :
    Calls Tryz.prog 76 #[.func (.func 113) #[] #[.pointer (some ⟨B, 0, none⟩)], .func (.func 78) #[] #[]] w R := by
  refine C_slices_SortedFunc_conf_place ?_
  unfold T_slices_SortedFunc_conf_place
  refine CollectP_spec h hN fun a l c w' ss hss hl h2 => ⟨_, _, _, rfl, ?_⟩
  subst hl
  have hlen : ss.length ≤ 1000 := by have := hss.length_eq; simp at this; omega
  refine SortP_spec h2 hlen (hp.trans hss.symm) hk fun w'' h3 => ⟨rfl, ?_⟩
  have e : ss.length = ks.length := (hp.trans hss.symm).length_eq.symm
  rw [e]
  exact k _ _ _ h3.f1.drop
theorem KeysS_spec (h : St E L w) (k : ∀ B w', St E (blkL B 75 [.map (some b)] :: L) w' → R (.returned (.func (.func 75) #[] #[.pointer (some ⟨B, 0, none⟩)])) w') :
    Calls Tryz.prog 38 #[.map (some b)] w R := by
  refine C_maps_Keys_map_string_api_Target_string_api_Target ?_
  unfold T_maps_Keys_map_string_api_Target_string_api_Target
  exact k _ _ (h.alloc _)
theorem KeysI_spec (h : St E L w) (k : ∀ B w', St E (blkL B 77 [.map (some b)] :: L) w' → R (.returned (.func (.func 93) #[] #[.pointer (some ⟨B, 0, none⟩)])) w') :
    Calls Tryz.prog 52 #[.map (some b)] w R := by
  refine C_maps_Keys_conf_seen ?_
  unfold T_maps_Keys_conf_seen
  exact k _ _ (h.alloc _)
theorem KeysP_spec (h : St E L w) (k : ∀ B w', St E (blkL B 76 [.map (some b)] :: L) w' → R (.returned (.func (.func 113) #[] #[.pointer (some ⟨B, 0, none⟩)])) w') :
    Calls Tryz.prog 77 #[.map (some b)] w R := by
  refine C_maps_Keys_string ?_
  unfold T_maps_Keys_string
  exact k _ _ (h.alloc _)
/-- (*Store).sorted: the places of the routes, in their order. -/
theorem sorted_spec {ver : Int} {mp mc : Nat} {m : List (Pr × ν)} {p : Nat} {ks : List Pr} (h : St E (blkL p 79 [.int .i64 ver, .map (some mp), .map (some b), .map (some mc)] :: mapA b encP vv m :: L) w) (hN : m.length ≤ 1000) (hp : ks.Perm (m.map (·.1))) (hk : ks.Pairwise fun a b => prLt a b = true)
    (k : ∀ a c w', St E (ownS a ks.length c 89 2 (ks.flatMap celP) :: blkL p 79 [.int .i64 ver, .map (some mp), .map (some b), .map (some mc)] :: mapA b encP vv m :: L) w' → R (.returned (.slice a ks.length c)) w') :
    Calls Tryz.prog 40 #[.pointer (some ⟨p, 0, none⟩)] w R := by
  refine C_conf_Store_sorted ?_
  unfold T_conf_Store_sorted
  refine ⟨_, rfl, _, rd_fld h.at_blk rfl rfl, KeysP_spec h fun B w' h2 => ⟨_, rfl, rfl, SortedP_spec (h2.sel 3 [0, 2, 1] : St E (blkL B 76 [.map (some b)] :: mapA b encP vv m :: blkL p 79 [.int .i64 ver, .map (some mp), .map (some b), .map (some mc)] :: L) w') hN hp hk fun a c w'' h3 => ⟨_, _, _, rfl, k _ _ _ (St.sel (L := _ :: _ :: _ :: L) h3 3 [0, 2, 1])⟩⟩⟩
end
end Go.Vc
