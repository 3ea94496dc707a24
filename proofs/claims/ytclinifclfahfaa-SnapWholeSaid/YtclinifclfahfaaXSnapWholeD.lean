/-
  Texts of this claim's own, laid into one: VcSort, SnapK2, SnapAg, SnapP, SnapS, SnapCr, SnapFl, Ge, SnapNm, SnapPc, SnapOf, SnapFi, SnapFs, SnapSv, SnapLd, SnapLv, SnapIn, SnapRa, SnapAh, SnapPl, SnapPm, SnapPw, GWhole.
-/
import Derived.Sort.Grow
import Derived.Sort.EncStr
import Derived.Sort.Walk0
import Derived.Shelf.GgSortFunc.RowK
import Derived.Shelf.GgSortFunc.InsertionK
import Derived.Shelf.SlSortCmp.Insertion
import Derived.Shelf.SortM.Plain
import Derived.Shelf.SortM.SortNone
import Derived.Test.YtclinifclfahfaaProg
import Derived.KernelRfl
import Derived.Laws.IdiomStrings
import Derived.Shelf.SlSortCmp.NoneTotal
import Derived.SizedLaws
import Derived.Test.YtclinifclfahfaaXSnapWholeA
import Derived.Test.YtclinifclfahfaaXSnapWholeB
import Derived.Test.YtclinifclfahfaaXSnapWholeC
set_option linter.all false
/-
  The library's sort at a slice of ours: what its contract's world is in words of separation; one sorted list.
-/
namespace Go.Vc
open Go Go.Proofs Go.RowKit Go.Sort Go.Shelf
section
variable {E w w' : World} {L : List Asrt} {a : Option Addr} {l c sz n : Nat} {e : TypeId} {xs : List Value}
theorem below_env {B : Nat} (h : Below B w w') : SameEnv w w' := ⟨h.os, h.tape, h.output⟩
/-- A row that is new. -/
theorem St.of_row {v : Value} (h : St E L w) (hb : Below w.heap.size w w') (hr : w'.ownsRow w.heap.size e sz v n xs) : ∃ a c, v = .slice a n c ∧ St E (ownS a n c e sz xs :: L) w' := by
  obtain ⟨h1, h2⟩ := hr
  rcases h2 with ⟨rfl, rfl⟩ | ⟨g, cap, cur, rfl, hg, hc, h3, h4, h5, h6⟩
  · have : xs = [] := List.eq_nil_of_length_eq_zero (by simpa using h1)
    subst this
    exact ⟨none, 0, rfl, (h.same (below_env hb) hb.block).ownS_nil⟩
  · refine ⟨_, _, rfl, St.ownS_mk (rest := cur.toList.drop (n * sz)) ?_ h1 h3 h4 ?_⟩
    · have := h.add_new (o := .cells cur e (0, 0)) (below_env hb) hg hc hb.block
      refine this.mono fun x hx => ?_
      show x g = some (true, .cells ⟨xs ++ cur.toList.drop (n * sz)⟩ e (0, 0))
      rw [← h6, List.take_append_drop]; exact hx
    · rw [List.length_drop, Array.length_toList, h5, Nat.sub_mul]
theorem put_cells {α : Type} [Inhabited α] (enc : α → Value) (ts : List α) (xs rest : List Value) (h : xs.length = ts.length) : putCells enc 0 ts.toArray ⟨xs ++ rest⟩ = ⟨ts.map enc ++ rest⟩ := by
  apply Array.ext'
  apply List.ext_getElem?
  intro j
  simp only [putCells, Array.toList_mapIdx, List.getElem?_mapIdx]
  by_cases hj : j < ts.length
  · have h1 : j < (ts.map enc).length := by simpa using hj
    have h2 : j < xs.length := by omega
    rw [List.getElem?_append_left (l₁ := xs) h2, List.getElem?_append_left (l₁ := ts.map enc) h1, List.getElem?_map]
    simp [hj, h2]
  · have h1 : (ts.map enc).length ≤ j := by simpa using hj
    have h2 : xs.length ≤ j := by omega
    rw [List.getElem?_append_right (l₁ := xs) h2, List.getElem?_append_right (l₁ := ts.map enc) h1]
    simp [hj, h]
/-- Behind the sort the slice holds the sorted row. -/
theorem St.sorted_row {α : Type} [Inhabited α] {enc : α → Value} {ts : List α} {g m : Nat} {os : Array Obj} {rest : List Value} (h : St E (blkL g e (xs ++ rest) :: L) w) (hx : xs.length = ts.length) :
    St E (blkL g e (ts.map enc ++ rest) :: L) (grow (putRow enc (Sort.ahead w m) g 0 ts.toArray) os) := by
  have hg : w.heap[g]? = some (.cells ⟨xs ++ rest⟩ e (0, 0)) := h.at_blk
  have hlt : g < w.heap.size := (Array.getElem?_eq_some_iff.1 hg).1
  refine St.upd (o := .cells ⟨xs ++ rest⟩ e (0, 0)) h ⟨rfl, rfl, rfl⟩ ?_ ?_
  · rw [heap_grow_old _ _ (by simpa using hlt)]
    simp [putRow, mapBlock, Sort.ahead, Array.getElem?_modify, hg, onCells, put_cells _ _ _ _ hx]
  · intro k hk hlt2
    rw [heap_grow_old _ _ (by simpa using hlt2)]
    simp [putRow, mapBlock, Sort.ahead, Array.getElem?_modify, Ne.symm hk]
theorem holds_row {α : Type} [Inhabited α] {enc : α → Value} {ss : List α} {g : Nat} {rest : List Value} (h : w.heap[g]? = some (.cells ⟨ss.map enc ++ rest⟩ e (0, 0))) : Holds enc w g 0 ss.toArray := by
  intro j hj
  have hj' : j < ss.length := by simpa using hj
  refine ⟨?_, by simp [World.frozen?, h]⟩
  have h1 : (ss.map enc ++ rest)[j]? = some (enc ss[j]) := by rw [List.getElem?_append_left (by simpa using hj')]; simp [hj']
  simp only [World.cell?, h, Nat.zero_add]
  simp only [Option.isSome_none, Bool.false_eq_true, if_false]
  rw [← Array.getElem?_toList, h1]
  simp [hj']
theorem flatK_eq {α : Type} [Inhabited α] (enc : α → List Value) (k : Nat) (hk : ∀ x, (enc x).length = k) (h0 : 0 < k) (ts : List α) : flatK enc k ts.toArray = (ts.flatMap enc).toArray := by
  apply Array.ext'
  apply List.ext_getElem?
  intro t
  by_cases ht : t < ts.length * k
  · have hq : t / k < ts.length := (Nat.div_lt_iff_lt_mul h0).2 ht
    have hr : t % k < k := Nat.mod_lt _ h0
    have e1 := flat_get (f := enc) hk ts (t / k) (t % k) ts[t / k] (by simp [hq]) hr
    rw [Nat.mul_comm, Nat.div_add_mod] at e1
    rw [show (ts.flatMap enc).toArray.toList = ts.flatMap enc from rfl, e1]
    simp [flatK, ht, hq]
    have : t % k < (enc ts[t / k]).length := by rw [hk]; exact hr
    simp [this]
  · rw [List.getElem?_eq_none (by simp [flatK]; omega), List.getElem?_eq_none (by simp only [flat_len hk]; omega)]
theorem sort_uniq {α : Type} {le : α → α → Bool} (tr : ∀ a b c, le a b = true → le b c = true → le a c = true) (to : ∀ a b, (le a b || le b a) = true) (an : ∀ a b, le a b = true → le b a = true → a = b)
    {ss ks : List α} (hp : ks.Perm ss) (hk : ks.Pairwise fun a b => le a b = true) : ss.mergeSort le = ks :=
  List.Perm.eq_of_pairwise (le := fun a b => le a b = true) (fun a b _ _ h1 h2 => an a b h1 h2) (List.pairwise_mergeSort tr to ss) hk ((List.mergeSort_perm ss le).trans hp.symm)
theorem uniq_str {ss ks : List (List UInt8)} (hp : ks.Perm ss) (hk : ks.Pairwise (· < ·)) : (ss.mergeSort fun x y => decide (x ≤ y)) = ks :=
  sort_uniq (le := fun x y => decide (x ≤ y)) (fun a b c h1 h2 => decide_eq_true (List.le_trans (of_decide_eq_true h1) (of_decide_eq_true h2))) (fun a b => by have := List.le_total a b; simpa using this)
    (fun a b h1 h2 => List.le_antisymm (of_decide_eq_true h1) (of_decide_eq_true h2)) hp (hk.imp fun {a b} h => decide_eq_true (List.le_of_lt h))
end
end Go.Vc

/-
  The disk's names, in their order.
-/
namespace Go.Vc
open Go Go.Proofs Go.Proofs.Ytclinifclfahfaa Go.RowKit Go.Sort Go.Shelf
set_option maxRecDepth 100000
section
variable {E w : World} {L : List Asrt} {R : Ending → World → Prop} {ν : Type} {vv : ν → Value} {b : Nat}
theorem keysFn_S : ∀ args w, (callFunc 68 args).run Try.prog w = .ok (.enter 68 args) w := enters_of Try.func68 (by kernel_rfl) rfl
theorem CollectS_spec {m : List (List UInt8 × ν)} {B : Nat} (h : St E (blkL B 79 [.map (some b)] :: mapA b encS vv m :: L) w) (hN : m.length ≤ 1000)
    (k : ∀ a l c w' (ss : List (List UInt8)), ss.Perm (m.map (·.1)) → l = ss.length → St E (ownS a l c 9 1 (ss.flatMap celS) :: blkL B 79 [.map (some b)] :: mapA b encS vv m :: L) w' → R (.returned (.slice a l c)) w') :
    Calls Try.prog 66 #[.func (.func 68) #[] #[.pointer (some ⟨B, 0, none⟩)]] w R := by
  have hB := h.at_blk
  have hlt := (Array.getElem?_eq_some_iff.1 hB).1
  refine C_slices_Collect_string ?_
  unfold T_slices_Collect_string
  refine ((callsIn_wide (n := 2)).1 (appendSeqS_in Fence.wide 2 trivial rfl (by decide) _ #[.pointer (some ⟨B, 0, none⟩)] trivial keysFn_S (fun ss => ss.Perm (m.map (·.1))) m.length (by simp only [maxLen]; omega) (by omega) w
    (givesS Fence.wide 1 trivial rfl (by decide) B b m w hlt (by rw [cell_of hB]; rfl) h.f1.mapW))).mono ?_
  rintro e w' ⟨v, ss, rfl, hS, hr, hb⟩
  obtain ⟨a, c, rfl, h2⟩ := h.of_row hb hr
  exact ⟨a, _, c, rfl, k _ _ _ _ ss hS rfl h2⟩
theorem flat_celS (ss : List (List UInt8)) : ss.flatMap celS = ss.map encStr := by induction ss with
  | nil => rfl
  | cons a r ih => rw [List.flatMap_cons, ih]; rfl
theorem SortS_spec {a : Option Addr} {c : Nat} {ss ks : List (List UInt8)} (h : St E (ownS a ss.length c 9 1 (ss.flatMap celS) :: L) w) (hN : ss.length ≤ 1000) (hp : ks.Perm ss) (hk : ks.Pairwise (· < ·))
    (k : ∀ w', St E (ownS a ks.length c 9 1 (ks.flatMap celS) :: L) w' → R (.returned (.tuple #[])) w') : Calls Try.prog 67 #[.slice a ss.length c] w R := by
  have hl := hp.length_eq
  obtain ⟨_, hlc, hcm⟩ := h.ownS_facts
  rcases h.ownS_open with ⟨rfl, h0, rfl, hx⟩ | ⟨g, rest, rfl, hr, h2⟩
  · have hs : ss = [] := List.eq_nil_of_length_eq_zero h0
    subst hs
    have hk0 : ks = [] := List.eq_nil_of_length_eq_zero hl
    subst hk0
    refine (AnyM.slices_Sort_string_none Try.sortS none 0 w).mono ?_
    rintro e w' ⟨rfl, rfl⟩
    exact k _ h
  · rw [flat_celS] at h2
    refine (AnyM.slices_Sort_string Try.sortS g 0 c ss w (holds_row (enc := encStr) h2.at_blk) (Array.getElem?_eq_some_iff.1 h2.at_blk).1 (by omega)).mono ?_
    rintro e w' ⟨rfl, n, os, rfl⟩
    rw [uniq_str hp hk]
    refine k _ (St.ownS_mk (rest := rest) ?_ (by rw [flat_celS]; simp) (by omega) hcm (by omega))
    rw [flat_celS]
    exact h2.sorted_row (by simp [hl])
end
end Go.Vc

/-
  The disk: Names.
-/
namespace Go.Vc
open Go Go.Proofs Go.Proofs.Ytclinifclfahfaa
set_option maxRecDepth 100000
section
variable {E w : World} {L : List Asrt} {R : Ending → World → Prop} {F G : Fz} {q s : Sl} {b : Cm.Bs} {dp c : Nat} {d : Dk.Ds} {m : List (Cm.Bs × Nat)} {fs : List FR} {n : Cm.Bs}
def namesOf (d : Dk.Ds) : List Cm.Bs := d.l.map (·.name)
theorem names_up (I : Dk.Inv d) : (namesOf d).Pairwise (· < ·) := by
  have h1 := (Cm.rises_iff Dk.flOrd _).1 I.r
  exact List.pairwise_map.2 (h1.imp fun h => of_decide_eq_true h)
theorem names_perm (ok : dkOk G c d m fs) : (namesOf d).Perm (m.map (·.1)) := by
  have h := (ok.m.map (·.1)).symm
  rw [List.map_map] at h
  unfold namesOf
  rw [ok.l, List.map_map]
  exact h
theorem DNames_spec (I : Dk.Inv d) (h : St E (diskA F c dp d :: L) w)
    (k : ∀ (w' : World) (o : Sl), o.2.1 = (namesOf d).length → St E (ownS o.1 o.2.1 o.2.2 9 1 ((namesOf d).flatMap celS) :: diskA F c dp d :: L) w' → R (.returned (.slice o.1 o.2.1 o.2.2)) w') :
    Calls Try.prog 20 #[.pointer (some ⟨dp, 0, none⟩)] w R := by
  obtain ⟨bm, m, fs, ok, h⟩ := h.dk_open
  have hlen : (namesOf d).length ≤ 16 := by unfold namesOf; rw [List.length_map]; exact I.n
  have hml := (names_perm ok).length_eq
  rw [List.length_map] at hml
  refine C_disk_Disk_Names ?_
  unfold T_disk_Disk_Names
  refine ite_b (fun hh => by simp at hh) fun _ => ?_
  refine ⟨_, rfl, _, rd_fld h.at_blk rfl rfl, ?_⟩
  refine C_maps_Keys_map_string_disk_file_string_disk_file ?_
  unfold T_maps_Keys_map_string_disk_file_string_disk_file
  intro w2
  have h2 : St E (blkL w.heap.size 79 [.map (some bm)] :: mapA bm encS encF m :: blkL dp 81 (diskV d bm) :: (filesL fs ++ L)) w2 := h.f1.alloc (.cells ⟨[.map (some bm)]⟩ 79)
  clear_value w2
  generalize w.heap.size = bk at *
  refine ⟨_, rfl, rfl, ?_⟩
  refine C_slices_Sorted_string ?_
  unfold T_slices_Sorted_string
  refine CollectS_spec h2 (by omega) fun a l cc w3 ss hss hl h3 => ⟨_, _, _, rfl, ?_⟩
  subst hl
  refine SortS_spec (ks := namesOf d) h3 (by have := hss.length_eq; rw [List.length_map] at this; omega) ((names_perm ok).trans hss.symm) (names_up I) fun w6 h6 => ⟨rfl, _, _, _, rfl, ?_⟩
  have hle : ss.length = (namesOf d).length := by have := hss.length_eq; rw [List.length_map] at this; omega
  rw [hle]
  have h7 : St E (ownS a (namesOf d).length cc 9 1 ((namesOf d).flatMap celS) :: blkL dp 81 (diskV d bm) :: mapA bm encN encF m :: (filesL fs ++ L)) w6 := h6.sel 4 [0, 3, 2] (by simp)
  have h8 : St E (blkL dp 81 (diskV d bm) :: mapA bm encN encF m :: (filesL fs ++ ownS a (namesOf d).length cc 9 1 ((namesOf d).flatMap celS) :: L)) w6 :=
    h7.perm (List.perm_middle (l₁ := blkL dp 81 (diskV d bm) :: mapA bm encN encF m :: filesL fs)).symm
  exact k w6 (a, (namesOf d).length, cc) rfl (St.f1 (St.dk_mk ok h8))
end
end Go.Vc

/-
  Pieces of a snapshot, and how they are gathered: plain functions; a snapshot's pieces are gathered to it.
-/
namespace Go.Sn
open Go.Cm (num)
def piece (b : Bs) (at_ n : Nat) : Bs := num b.length ++ (num at_ ++ (b.drop at_).take n)
def piecesGo (b : Bs) (size : Nat) : Nat → Nat → List Bs
  | 0, _ => []
  | f + 1, at_ => if b.length ≤ at_ then [] else piece b at_ size :: piecesGo b size f (at_ + size)
def pieces (b : Bs) (size : Nat) : List Bs := piece b 0 size :: piecesGo b size b.length size
def piecesE (b : Bs) (size : Int) : Int := if size < 1 then 2 else if 32768 < b.length then 6 else 0
structure Gt where
  begun : Bool
  total : Nat
  b : Bs
def gt0 : Gt := ⟨false, 0, []⟩
def addIn (g : Gt) (total place : Nat) (inn : Bs) : Gt × Snp × Bool × Int :=
  if 32768 < total then (g, none, false, 6)
  else if total < place ∨ total - place < inn.length ∨ (inn.length = 0 ∧ 0 < total) then (g, none, false, 4)
  else if 0 < place ∧ (g.begun = false ∨ g.total ≠ total ∨ g.b.length ≠ place) then (g, none, false, 12)
  else
    let b := (if place = 0 then [] else g.b) ++ inn
    if b.length < total then (⟨true, total, b⟩, none, false, 0)
    else match getS b with
      | .ok s => (gt0, s, true, 0)
      | .error e => (gt0, none, false, e)
def add (g : Gt) (p : Bs) : Gt × Snp × Bool × Int :=
  match tk p with
  | .error e => (g, none, false, e)
  | .ok (total, r1) =>
    match tk r1 with
    | .error e => (g, none, false, e)
    | .ok (place, inn) => addIn g total place inn
/-- Only while it is begun does the total count. -/
def alike (g h : Gt) : Prop := g.begun = h.begun ∧ g.b = h.b ∧ (g.begun = true → g.total = h.total)
theorem alike.refl (g : Gt) : alike g g := ⟨rfl, rfl, fun _ => rfl⟩
end Go.Sn

/-
  Snapshots on a disk as plain functions: the files' names, Save, Load.
-/
namespace Go.Sn
open Go.Dk (Ds Fl now named Inv find without putF)
def dig (n : Nat) : UInt8 := UInt8.ofNat (48 + n % 10)
def digs : Nat → Nat → Bs
  | 0, _ => []
  | f + 1, n => if n = 0 then [] else digs f (n / 10) ++ [dig n]
def dec (n : Nat) : Bs := digs 14 n
def val (b : Bs) : Nat := b.foldl (fun n c => 10 * n + (c.toNat - 48)) 0
def isDig (c : UInt8) : Bool := decide (48 ≤ c.toNat ∧ c.toNat ≤ 57)
def pre : Bs := [115, 110, 97, 112, 45]
def tmp : Bs := [115, 110, 97, 112, 46, 116, 109, 112]
def nameOf (n : Nat) : Bs := pre ++ dec n
def shaped (s : Bs) : Bool := decide (6 ≤ s.length ∧ s.length ≤ 18) && (decide (s.take 5 = pre) && (s.drop 5).all isDig)
def numbered (s : Bs) : Nat := if shaped s = true ∧ val (s.drop 5) ≤ 1099511627776 ∧ dec (val (s.drop 5)) = s.drop 5 then val (s.drop 5) else 0
theorem dig_toNat (n : Nat) : (dig n).toNat = 48 + n % 10 := by
  unfold dig
  rw [UInt8.toNat_ofNat']
  omega
theorem val_snoc (b : Bs) (c : UInt8) : val (b ++ [c]) = 10 * val b + (c.toNat - 48) := by simp [val]
theorem val_digs : ∀ (f n : Nat), n < 10 ^ f → val (digs f n) = n
  | 0, n, h => by have : n = 0 := by simpa using h
                  subst this; rfl
  | f + 1, n, h => by
    unfold digs
    split
    · rename_i h0; rw [h0]; rfl
    · have : n / 10 < 10 ^ f := by rw [Nat.pow_succ] at h; omega
      rw [val_snoc, val_digs f _ this, dig_toNat]; omega
theorem digs_all : ∀ (f n : Nat), (digs f n).all isDig = true
  | 0, _ => rfl
  | f + 1, n => by
    unfold digs
    split
    · rfl
    · rw [List.all_append, digs_all f]
      have := dig_toNat n
      simp [isDig]; omega
theorem digs_len : ∀ (f n k : Nat), n < 10 ^ k → (digs f n).length ≤ k
  | 0, _, _, _ => Nat.zero_le _
  | f + 1, n, k, h => by
    unfold digs
    split
    · exact Nat.zero_le _
    · rename_i h0
      cases k with
      | zero => simp at h; omega
      | succ k =>
        have := digs_len f (n / 10) k (by rw [Nat.pow_succ] at h; omega)
        simp; omega
theorem digs_pos {f n : Nat} (h : n ≠ 0) : 1 ≤ (digs (f + 1) n).length := by
  unfold digs
  rw [if_neg h]; simp
theorem dec_ok {n : Nat} (h : n ≤ 1099511627776) : val (dec n) = n ∧ (dec n).length ≤ 13 ∧ (dec n).all isDig = true := ⟨val_digs 14 n (by omega), digs_len 14 n 13 (by omega), digs_all 14 n⟩
theorem numbered_name {n : Nat} (h0 : 0 < n) (h : n ≤ 1099511627776) : numbered (nameOf n) = n := by
  obtain ⟨h1, h2, h3⟩ := dec_ok h
  have h4 : 1 ≤ (dec n).length := digs_pos (by omega)
  have hd : (nameOf n).drop 5 = dec n := rfl
  have ht : (nameOf n).take 5 = pre := rfl
  have hl : (nameOf n).length = 5 + (dec n).length := by simp [nameOf, pre]; omega
  unfold numbered shaped
  rw [hd, ht, h3, h1, hl, if_pos ⟨by simp; omega, h, rfl⟩]
theorem name_numbered {s : Bs} (h : 0 < numbered s) : s = nameOf (numbered s) ∧ numbered s ≤ 1099511627776 := by
  unfold numbered at h ⊢
  split at h
  · rename_i hc
    rw [if_pos hc]
    obtain ⟨h1, h2, h3⟩ := hc
    unfold shaped at h1
    simp only [Bool.and_eq_true, decide_eq_true_eq] at h1
    refine ⟨?_, h2⟩
    unfold nameOf
    rw [h3]
    conv => lhs; rw [← List.take_append_drop 5 s]
    rw [h1.2.1]
  · omega
theorem name_inj {a b : Nat} (ha : 0 < a) (ha2 : a ≤ 1099511627776) (hb : 0 < b) (hb2 : b ≤ 1099511627776) (h : nameOf a = nameOf b) : a = b := by
  rw [← numbered_name ha ha2, ← numbered_name hb hb2, h]
theorem numbered_tmp : numbered tmp = 0 := by decide
theorem name_named {n : Nat} (h : n ≤ 1099511627776) : named (nameOf n) = true := by
  obtain ⟨_, h2, h3⟩ := dec_ok h
  have hp : pre.all Dk.nameB = true := by decide
  have hd : (dec n).all Dk.nameB = true := by
    rw [List.all_eq_true] at h3 ⊢
    intro c hc
    have := h3 c hc
    simp only [isDig, decide_eq_true_eq] at this
    unfold Dk.nameB Cm.small
    simp; omega
  unfold named nameOf
  rw [List.all_append, hp, hd]
  simp [pre]; omega
theorem tmp_named : named tmp = true := by decide
theorem val_lt : ∀ (b : Bs), b.all isDig = true → ∀ a : Nat, b.foldl (fun n c => 10 * n + (c.toNat - 48)) a < (a + 1) * 10 ^ b.length
  | [], _, a => by simp
  | c :: r, h, a => by
    rw [List.all_cons, Bool.and_eq_true] at h
    have hc := h.1
    simp only [isDig, decide_eq_true_eq] at hc
    have ih := val_lt r h.2 (10 * a + (c.toNat - 48))
    rw [List.foldl_cons, List.length_cons, Nat.pow_succ]
    have : (10 * a + (c.toNat - 48) + 1) * 10 ^ r.length ≤ (10 * (a + 1)) * 10 ^ r.length := Nat.mul_le_mul_right _ (by omega)
    have e : (a + 1) * (10 ^ r.length * 10) = 10 * (a + 1) * 10 ^ r.length := by rw [Nat.mul_comm (10 ^ r.length), ← Nat.mul_assoc, Nat.mul_comm (a + 1)]
    omega
/-- Save. -/
def older (k : Nat) (f : Fl) : Bool := decide (0 < numbered f.name) && decide (numbered f.name < k)
def save (d : Ds) (s : Snp) : Ds × Int :=
  if putE s ≠ 0 then (d, putE s)
  else
    let d1 := (Dk.remove d tmp).1
    let w := Dk.write d1 tmp 0 (putB s)
    if w.2 ≠ 0 then ((Dk.remove w.1 tmp).1, w.2)
    else
      let d3 := (Dk.sync w.1 tmp).1
      let r := Dk.rename d3 tmp (nameOf s.idx.toNat)
      if r.2 ≠ 0 then ((Dk.remove r.1 tmp).1, r.2)
      else ({ r.1 with l := r.1.l.filter fun f => !older s.idx.toNat f }, 0)
/-- What a file tells, if it is a snapshot's that is whole. -/
def good (f : Fl) : Option Snp :=
  if 0 < numbered f.name then
    match getS (now f) with
    | .ok s => if s.idx = (numbered f.name : Int) then some s else Option.none
    | .error _ => Option.none
  else Option.none
def best : Snp → List Fl → Snp
  | b, [] => b
  | b, f :: r => match good f with
    | some s => if b.idx < s.idx then best s r else best b r
    | Option.none => best b r
def load (d : Ds) : Snp × Int := if (best none d.l).idx = 0 then (none, 8) else (best none d.l, 0)
theorem good_idx {f : Fl} {s : Snp} (h : good f = some s) : 0 < numbered f.name ∧ s.idx = numbered f.name ∧ getS (now f) = .ok s := by
  unfold good at h
  split at h
  · rename_i h0
    split at h
    · rename_i s' hs
      split at h
      · rename_i hi
        injection h with h
        subst h
        exact ⟨h0, hi, hs⟩
      · cases h
    · cases h
  · cases h
/-- The best of a list: it is there, and none is greater. -/
theorem best_spec : ∀ (l : List Fl) (b : Snp), (best b l = b ∧ ∀ f ∈ l, ∀ s, good f = some s → s.idx ≤ b.idx) ∨ (∃ f ∈ l, good f = some (best b l) ∧ b.idx < (best b l).idx ∧ ∀ g ∈ l, ∀ s, good g = some s → s.idx ≤ (best b l).idx)
  | [], b => .inl ⟨rfl, fun _ h => nomatch h⟩
  | f :: r, b => by
    unfold best
    split
    · rename_i s hs
      split
      · rename_i hlt
        rcases best_spec r s with ⟨h1, h2⟩ | ⟨g, hg, h1, h2, h3⟩
        · refine .inr ⟨f, List.mem_cons_self, by rw [h1]; exact hs, by rw [h1]; exact hlt, fun x hx t ht => ?_⟩
          rw [h1]
          rcases List.mem_cons.1 hx with rfl | hx
          · rw [hs] at ht; injection ht with ht; rw [ht]; exact Int.le_refl _
          · exact h2 x hx t ht
        · refine .inr ⟨g, List.mem_cons_of_mem _ hg, h1, by omega, fun x hx t ht => ?_⟩
          rcases List.mem_cons.1 hx with rfl | hx
          · rw [hs] at ht; injection ht with ht; rw [← ht]; omega
          · exact h3 x hx t ht
      · rename_i hge
        rcases best_spec r b with ⟨h1, h2⟩ | ⟨g, hg, h1, h2, h3⟩
        · refine .inl ⟨h1, fun x hx t ht => ?_⟩
          rcases List.mem_cons.1 hx with rfl | hx
          · rw [hs] at ht; injection ht with ht; rw [← ht]; omega
          · exact h2 x hx t ht
        · refine .inr ⟨g, List.mem_cons_of_mem _ hg, h1, h2, fun x hx t ht => ?_⟩
          rcases List.mem_cons.1 hx with rfl | hx
          · rw [hs] at ht; injection ht with ht; rw [← ht]; omega
          · exact h3 x hx t ht
    · rename_i hn
      rcases best_spec r b with ⟨h1, h2⟩ | ⟨g, hg, h1, h2, h3⟩
      · refine .inl ⟨h1, fun x hx t ht => ?_⟩
        rcases List.mem_cons.1 hx with rfl | hx
        · rw [hn] at ht; cases ht
        · exact h2 x hx t ht
      · refine .inr ⟨g, List.mem_cons_of_mem _ hg, h1, h2, fun x hx t ht => ?_⟩
        rcases List.mem_cons.1 hx with rfl | hx
        · rw [hn] at ht; cases ht
        · exact h3 x hx t ht
end Go.Sn

/-
  A crash, file by file (plain).
-/
namespace Go.Dk
open Go.Cm (rises Ord)
theorem pair_mid {a b : List Fl} {x : Fl} (h : rises flLt (a ++ x :: b) = true) : (∀ y ∈ a, flLt y x = true) ∧ ∀ y ∈ b, flLt x y = true := by
  have h := (Cm.rises_iff flOrd _).1 h
  rw [List.pairwise_append, List.pairwise_cons] at h
  exact ⟨fun y hy => h.2.2 y hy x List.mem_cons_self, h.2.1.1⟩
theorem flt_asym {a b : Fl} (h : flLt a b = true) : flLt b a = false := by
  cases hc : flLt b a with
  | false => rfl
  | true =>
    have h1 := flOrd.tr a b a h hc
    rw [flOrd.irr a a (flOrd.refl a)] at h1
    cases h1
theorem putF_mid {a b : List Fl} {x g : Fl} (h : rises flLt (a ++ x :: b) = true) (hn : g.name = x.name) : putF (a ++ x :: b) g = a ++ g :: b := by
  obtain ⟨h1, h2⟩ := pair_mid h
  have e1 : ∀ y, flLt y g = flLt y x := fun y => by unfold flLt; rw [hn]
  have e2 : ∀ y, flLt g y = flLt x y := fun y => by unfold flLt; rw [hn]
  have hx : flLt x x = false := flOrd.irr x x (flOrd.refl x)
  unfold putF Cm.put
  simp only [e1, e2]
  rw [List.filter_append, List.filter_append, List.filter_cons, List.filter_cons, hx]
  have f1 : a.filter (fun y => flLt y x) = a := List.filter_eq_self.2 h1
  have f2 : b.filter (fun y => flLt x y) = b := List.filter_eq_self.2 h2
  have f3 : b.filter (fun y => flLt y x) = [] := List.filter_eq_nil_iff.2 fun y hy => by rw [flt_asym (h2 y hy)]; simp
  have f4 : a.filter (fun y => flLt x y) = [] := List.filter_eq_nil_iff.2 fun y hy => by rw [flt_asym (h1 y hy)]; simp
  rw [f1, f2, f3, f4]
  simp
theorem without_mid {a b : List Fl} {x : Fl} (h : rises flLt (a ++ x :: b) = true) : without (a ++ x :: b) x.name = a ++ b := by
  obtain ⟨h1, h2⟩ := pair_mid h
  unfold without
  rw [List.filter_append, List.filter_cons, if_neg (by simp)]
  congr 1
  · refine List.filter_eq_self.2 fun y hy => ?_
    have := of_decide_eq_true (h1 y hy)
    have hne : y.name ≠ x.name := fun e => by rw [e] at this; exact Cm.slt_irrefl _ this
    simp [hne]
  · refine List.filter_eq_self.2 fun y hy => ?_
    have := of_decide_eq_true (h2 y hy)
    have hne : y.name ≠ x.name := fun e => by rw [e] at this; exact Cm.slt_irrefl _ this
    simp [hne]
theorem find_mid {a b : List Fl} {x : Fl} (h : rises flLt (a ++ x :: b) = true) : find (a ++ x :: b) x.name = some x := by
  obtain ⟨h1, _⟩ := pair_mid h
  unfold find
  rw [List.find?_append, List.find?_eq_none.2 fun y hy => ?_]
  · simp
  · have := of_decide_eq_true (h1 y hy)
    have hne : y.name ≠ x.name := fun e => by rw [e] at this; exact Cm.slt_irrefl _ this
    simp [hne]
theorem crashL_snoc (keep : List Int) : ∀ (l : List Fl) (i : Nat) (x : Fl), crashL keep i (l ++ [x]) = crashL keep i l ++ (crashF (keepAt keep (i + l.length)) x).toList
  | [], i, x => by
    show crashL keep i [x] = _
    unfold crashL
    cases h : crashF (keepAt keep i) x with
    | none => simp [crashL, h]
    | some g => simp [crashL, h]
  | f :: r, i, x => by
    have ih := crashL_snoc keep r (i + 1) x
    rw [List.cons_append]
    unfold crashL
    rw [ih]
    have e : i + 1 + r.length = i + (f :: r).length := by simp; omega
    rw [e]
    cases crashF (keepAt keep i) f <;> simp
/-- The files when the first j names have been dealt with. -/
def mid (keep : List Int) (l : List Fl) (j : Nat) : List Fl := crashL keep 0 (l.take j) ++ l.drop j
theorem mid_zero (keep : List Int) (l : List Fl) : mid keep l 0 = l := by simp [mid, crashL]
theorem mid_all (keep : List Int) (l : List Fl) : mid keep l l.length = crashL keep 0 l := by simp [mid]
theorem mid_at {keep : List Int} {l : List Fl} {j : Nat} (hj : j < l.length) : mid keep l j = crashL keep 0 (l.take j) ++ l[j] :: l.drop (j + 1) := by
  unfold mid
  rw [List.drop_eq_getElem_cons hj]
theorem mid_succ {keep : List Int} {l : List Fl} {j : Nat} (hj : j < l.length) : mid keep l (j + 1) = crashL keep 0 (l.take j) ++ ((crashF (keepAt keep j) l[j]).toList ++ l.drop (j + 1)) := by
  unfold mid
  rw [List.take_succ_eq_append_getElem hj, crashL_snoc, List.length_take, Nat.min_eq_left (Nat.le_of_lt hj), Nat.zero_add, List.append_assoc]
theorem mid_del {room : Int} {keep : List Int} {l : List Fl} {j : Nat} (hj : j < l.length) (I : Inv ⟨room, mid keep l j⟩) (h : crashF (keepAt keep j) l[j] = none) :
    without (mid keep l j) l[j].name = mid keep l (j + 1) := by
  have r := I.r
  show without (mid keep l j) _ = _
  replace r : rises flLt (mid keep l j) = true := r
  rw [mid_at hj] at r ⊢
  rw [without_mid r, mid_succ hj, h]
  rfl
theorem mid_put {room : Int} {keep : List Int} {l : List Fl} {j : Nat} {g : Fl} (hj : j < l.length) (I : Inv ⟨room, mid keep l j⟩) (h : crashF (keepAt keep j) l[j] = some g) :
    putF (mid keep l j) g = mid keep l (j + 1) := by
  have r : rises flLt (mid keep l j) = true := I.r
  rw [mid_at hj] at r ⊢
  rw [putF_mid r (by rw [crashF_some h]), mid_succ hj, h]
  rfl
theorem mid_find {room : Int} {keep : List Int} {l : List Fl} {j : Nat} (hj : j < l.length) (I : Inv ⟨room, mid keep l j⟩) : find (mid keep l j) l[j].name = some l[j] := by
  have r : rises flLt (mid keep l j) = true := I.r
  rw [mid_at hj] at r ⊢
  exact find_mid r
theorem mid_inv {room : Int} {keep : List Int} {l : List Fl} {j : Nat} (hj : j < l.length) (I : Inv ⟨room, mid keep l j⟩) : Inv ⟨room, mid keep l (j + 1)⟩ := by
  have hm : l[j] ∈ mid keep l j := by rw [mid_at hj]; exact List.mem_append_right _ List.mem_cons_self
  cases h : crashF (keepAt keep j) l[j] with
  | none =>
    rw [← mid_del hj I h]
    exact I.filter _
  | some g =>
    rw [← mid_put hj I h]
    have e := crashF_some h
    have I2 := I.put (f := g) (by rw [e]; exact I.nm l[j] hm) (by rw [e]; exact (okU_len (okU_take _ (I.u l[j] hm))).2) (fun h => by rw [e] at h; cases h) (by rw [e]; exact I.fit (f := l[j]) hm)
    exact I2
end Go.Dk

/-
  The files of snapshots: their numbers, the first that is whole, what a Save takes away (plain).
-/
namespace Go.Sn
open Go.Dk (Ds Fl now named Inv find without putF)
def nums (l : List Fl) : List Nat := (l.map fun f => numbered f.name).filter fun k => decide (0 < k)
theorem nums_mem {l : List Fl} {k : Nat} : k ∈ nums l ↔ 0 < k ∧ ∃ f ∈ l, numbered f.name = k := by
  unfold nums
  rw [List.mem_filter, List.mem_map]
  simp only [decide_eq_true_eq]
  exact ⟨fun h => ⟨h.2, h.1⟩, fun h => ⟨h.2, h.1⟩⟩
theorem nums_le {l : List Fl} {k : Nat} (h : k ∈ nums l) : 0 < k ∧ k ≤ 1099511627776 := by
  obtain ⟨h0, f, _, rfl⟩ := nums_mem.1 h
  exact ⟨h0, (name_numbered h0).2⟩
theorem nums_nodup {l : List Fl} (h : l.Pairwise fun a b => a.name ≠ b.name) : (nums l).Nodup := by
  unfold nums
  induction l with
  | nil => exact List.Pairwise.nil
  | cons a r ih =>
    rw [List.pairwise_cons] at h
    rw [List.map_cons, List.filter_cons]
    split
    · rename_i h0
      refine List.nodup_cons.2 ⟨fun hm => ?_, ih h.2⟩
      obtain ⟨h1, f, hf, he⟩ := nums_mem.1 hm
      have e1 := (name_numbered h1).1
      have e2 := (name_numbered (he ▸ h1 : 0 < numbered f.name)).1
      exact h.1 f hf (by rw [e1, e2, he])
    · exact ih h.2
theorem names_ne {d : Ds} (I : Inv d) : d.l.Pairwise fun a b => a.name ≠ b.name :=
  ((Cm.rises_iff Dk.flOrd _).1 I.r).imp fun h e => by
    have h := of_decide_eq_true h
    rw [e] at h
    exact Cm.slt_irrefl _ h
theorem find_name {d : Ds} (I : Inv d) {f : Fl} (h : f ∈ d.l) : find d.l f.name = some f := by
  obtain ⟨a, b, e⟩ := List.append_of_mem h
  have r := I.r
  rw [e] at r ⊢
  exact Dk.find_mid r
def pick (d : Ds) : List Nat → Snp × Int
  | [] => (none, 8)
  | k :: r => match getS (Dk.read d (nameOf k)).1 with
    | .ok s => if s.idx = (k : Int) then (s, 0) else pick d r
    | .error _ => pick d r
theorem pick_load {d : Ds} (I : Inv d) : ∀ (ks : List Nat), ks.Pairwise (fun a b => b < a) → (∀ k ∈ ks, k ∈ nums d.l) → (∀ f ∈ d.l, ∀ s, good f = some s → numbered f.name ∈ ks) → pick d ks = load d
  | [], _, _, h => by
    unfold pick load
    rcases best_spec d.l none with ⟨h1, _⟩ | ⟨f, hf, h1, _, _⟩
    · rw [h1]; rfl
    · cases h f hf _ h1
  | k :: r, hd, hk, h => by
    rw [List.pairwise_cons] at hd
    obtain ⟨h0, f, hf, he⟩ := nums_mem.1 (hk k List.mem_cons_self)
    have hn : f.name = nameOf k := by
      have := (name_numbered (he ▸ h0 : 0 < numbered f.name)).1
      rw [he] at this; exact this
    have hr : (Dk.read d (nameOf k)).1 = now f := by
      unfold Dk.read
      rw [← hn, find_name I hf]
    have same : ∀ g ∈ d.l, numbered g.name = k → g = f := fun g hg e => by
      have := (name_numbered (e ▸ h0 : 0 < numbered g.name)).1
      rw [e, ← hn] at this
      have h1 := find_name I hg
      rw [this, find_name I hf] at h1
      injection h1 with h1
      exact h1.symm
    have next : good f = Option.none → pick d r = load d := fun hg => by
      refine pick_load I r hd.2 (fun x hx => hk x (List.mem_cons_of_mem _ hx)) fun g hgm s hs => ?_
      rcases List.mem_cons.1 (h g hgm s hs) with e | e
      · rw [same g hgm e, hg] at hs; cases hs
      · exact e
    have hgood : good f = match getS (now f) with
        | .ok s => if s.idx = (k : Int) then some s else Option.none
        | .error _ => Option.none := by
      unfold good
      rw [he, if_pos h0] <;> rfl
    unfold pick
    rw [hr]
    cases hgs : getS (now f) with
    | error e => rw [hgs] at hgood; exact next hgood
    | ok s =>
      rw [hgs] at hgood
      by_cases hi : s.idx = (k : Int)
      · have hgf : good f = some s := by rw [hgood]; simp only [if_pos hi]
        simp only [if_pos hi]
        rcases best_spec d.l none with ⟨_, h2⟩ | ⟨g, hg, h1, h2, h3⟩
        · have := h2 f hf s hgf
          rw [hi] at this
          have h4 : (none : Snp).idx = 0 := rfl
          omega
        · have h5 := h3 f hf s hgf
          have h6 := h g hg _ h1
          have h7 := (good_idx h1).2.1
          have h8 : numbered g.name ≤ k := by
            rcases List.mem_cons.1 h6 with e | e
            · omega
            · exact Nat.le_of_lt (hd.1 _ e)
          have h9 : numbered g.name = k := by omega
          have := same g hg h9
          subst this
          rw [hgf] at h1
          injection h1 with h1
          unfold load
          rw [← h1, if_neg (by omega)]
      · simp only [if_neg hi] at hgood ⊢
        exact next hgood
theorem load_pick {d : Ds} (I : Inv d) {ks : List Nat} (hp : ks.Perm (nums d.l)) (hd : ks.Pairwise fun a b => b < a) : pick d ks = load d :=
  pick_load I ks hd (fun _ h => hp.mem_iff.1 h) fun f hf _ hs => hp.mem_iff.2 (nums_mem.2 ⟨(good_idx hs).1, f, hf, rfl⟩)
theorem remove_l (d : Ds) (n : Bs) : (Dk.remove d n).1 = { d with l := without d.l n } := by
  unfold Dk.remove
  split
  · rename_i h
    rw [Dk.without_same (Dk.find_none h)]
  · rfl
/-- What the loop of a Save leaves. -/
def remAll (i : Nat) : List Nat → Ds → Ds
  | [], d => d
  | k :: r, d => remAll i r (if k < i then (Dk.remove d (nameOf k)).1 else d)
theorem remAll_l (i : Nat) : ∀ (ks : List Nat) (d : Ds), remAll i ks d = { d with l := d.l.filter fun f => !ks.any fun k => decide (k < i ∧ f.name = nameOf k) }
  | [], d => by
    unfold remAll
    have : d.l.filter (fun f => !([] : List Nat).any fun k => decide (k < i ∧ f.name = nameOf k)) = d.l := List.filter_eq_self.2 fun _ _ => rfl
    rw [this]
  | k :: r, d => by
    unfold remAll
    rw [remAll_l i r]
    split
    · rename_i hk
      rw [remove_l]
      unfold without
      simp only [List.filter_filter]
      congr 2
      funext f
      simp [hk, Bool.and_comm]
    · rename_i hk
      congr 2
      funext f
      simp [hk]
theorem remAll_save {d : Ds} {i : Nat} {ks : List Nat} (hp : ks.Perm (nums d.l)) : remAll i ks d = { d with l := d.l.filter fun f => !older i f } := by
  rw [remAll_l]
  congr 1
  refine List.filter_congr fun f hf => ?_
  congr 1
  rw [Bool.eq_iff_iff, List.any_eq_true]
  unfold older
  simp only [Bool.and_eq_true, decide_eq_true_eq]
  constructor
  · rintro ⟨k, hk, h1, h2⟩
    have h3 := nums_le (hp.mem_iff.1 hk)
    rw [h2, numbered_name h3.1 h3.2]
    exact ⟨h3.1, h1⟩
  · rintro ⟨h1, h2⟩
    exact ⟨_, hp.mem_iff.2 (nums_mem.2 ⟨h1, f, hf, rfl⟩), h2, (name_numbered h1).1⟩
end Go.Sn

/-
  What the functions' code comes to; printed by a program of this claim's own.
-/
namespace Go.Proofs.Ytclinifclfahfaa
open Go Go.Vc
set_option maxRecDepth 100000
set_option linter.unusedVariables false

/-! tollgate/snap.name -/
def T_snap_name_1_body (X : Int → ByteArray → World → Prop) (n2 : Int) (s3 : ByteArray) (w : World) (Kn : ByteArray → World → Prop) (Kp : List PanicEntry → World → Prop)  : Prop :=
  if (decide ((n2 : Int) > 0)) = true then (runV Try.prog (convert 21 9 (.int .i32 (IntKind.wrap .i32 (IntKind.wrap .i64 ((48 : Int) + (Int.tmod n2 10)))))) w (fun r4 w5 => ∃ s6 : ByteArray, r4 = .string s6 ∧ runV Try.prog (do eqGuard .add 9 (.tmp 12) (.tmp 13) (.string s6) (.string s3); binOp .add 9 (.string s6) (.string s3)) w5 (fun r7 w8 => ∃ s9 : ByteArray, r7 = .string s9 ∧ X (IntKind.wrap .i64 (Int.tdiv n2 10)) s9 w8) Kp) Kp) else (Kn s3 w)

def T_snap_name_1 (n2 : Int) (s3 : ByteArray) (w : World) (Kn : ByteArray → World → Prop) (Kp : List PanicEntry → World → Prop) : Prop :=
  ∀ X : Int → ByteArray → World → Prop, (∀ (n2 : Int) (s3 : ByteArray) (w : World), T_snap_name_1_body X n2 s3 w Kn Kp → X n2 s3 w) → X n2 s3 w

def T_snap_name_1_outs : Exit → Option (List (Nat × Value)) := fun x => match x with | .normal => some [(3, .string default)] | .panic _ => some [] | _ => none

def T_snap_name_1_ks : Nat → Bool := ksOf [0, 3, 4, 5, 6, 7, 8, 9, 10, 11, 12, 13, 14]

def H_snap_name_1 : Env → World → QT → Prop := unitHook 17 T_snap_name_1_ks [(0, .int .i64 0), (3, .string default)] T_snap_name_1_outs fun l w C => match l with | [v0, v1] => T_snap_name_1 (pInt v0) (pStr v1) w (fun s11 w => C .normal [.string s11] w) (fun ch w => C (.panic ch) [] w) | _ => False

theorem T_snap_name_1_hl : allP (hokL Try.prog (hookAt []) (at_ (bodyOf Try.f39) [1, 1, 0, 0, 0]) 56) = (True) := by kernel_rfl
theorem T_snap_name_1_hok : HOk Try.prog (hookAt []) (at_ (bodyOf Try.f39) [1, 1, 0, 0, 0]) 56 := HOk_of _ _ (by rw [T_snap_name_1_hl]; exact trivial)

theorem T_snap_name_1_eq (C : Conts) (X : List Value → World → Prop) (n2 : Int) (s3 : ByteArray) (w : World) : vcCode Try.prog (hookAt []) (at_ (bodyOf Try.f39) [1, 1, 0, 0, 0]) 56 ⟨[(0, .int .i64 n2), (3, .string s3)] ++ [], 17, []⟩ w (seqQ (fun e w => takeAll e [(0, .int .i64 0), (3, .string default)] fun l => X l w) (blockQ 0 (unitQ T_snap_name_1_outs C))) = T_snap_name_1_body (fun n2 s3 w => X [.int .i64 n2, .string s3] w) n2 s3 w (fun s12 w => C .normal [.string s12] w) (fun ch w => C (.panic ch) [] w) := by kernel_rfl

theorem T_snap_name_1_ok : UnitOk Try.prog H_snap_name_1 (at_ (bodyOf Try.f39) [1, 1, 0]) 14 := by
  have hc : at_ (bodyOf Try.f39) [1, 1, 0] = .block 0 (.loop (at_ (bodyOf Try.f39) [1, 1, 0, 0, 0])) := by kernel_rfl
  rw [hc]
  refine loop_unit_ok (carr := [(0, .int .i64 0), (3, .string default)]) (fix := []) (ks := T_snap_name_1_ks) (H := (hookAt [])) (B := fun C X l u w => match l, u with | [v0, v1], [] => T_snap_name_1_body (fun n2 s3 w => X [.int .i64 n2, .string s3] w) (pInt v0) (pStr v1) w (fun s13 w => C .normal [.string s13] w) (fun ch w => C (.panic ch) [] w) | _, _ => False) (by kernel_rfl) (by kernel_rfl) T_snap_name_1_hok ?_ ?_
  · intro C X l u w hl hu
    obtain ⟨v0, l_v0, rfl, k_v0, hl_v0⟩ := Kinds.cons_ hl
    obtain ⟨n2, rfl⟩ := kind_int k_v0
    obtain ⟨v1, l_v1, rfl, k_v1, hl_v1⟩ := Kinds.cons_ hl_v0
    obtain ⟨s3, rfl⟩ := kind_string k_v1
    obtain rfl := Kinds.nil_ hl_v1
    obtain rfl := Kinds.nil_ hu
    exact T_snap_name_1_eq C X n2 s3 w
  · intro l u w C hl hu
    obtain ⟨v0, l_v0, rfl, k_v0, hl_v0⟩ := Kinds.cons_ hl
    obtain ⟨n2, rfl⟩ := kind_int k_v0
    obtain ⟨v1, l_v1, rfl, k_v1, hl_v1⟩ := Kinds.cons_ hl_v0
    obtain ⟨s3, rfl⟩ := kind_string k_v1
    obtain rfl := Kinds.nil_ hl_v1
    obtain rfl := Kinds.nil_ hu
    constructor
    · intro h X hX
      exact h (fun n2 s3 w => X [.int .i64 n2, .string s3] w) (fun n2 s3 w hb => hX [.int .i64 n2, .string s3] w ⟨rfl, rfl, trivial⟩ hb)
    · intro h X hX
      exact h (fun l w => match l with | [v0, v1] => X (pInt v0) (pStr v1) w | _ => True) (fun l w hl hb => by
        obtain ⟨v0, l_v0, rfl, k_v0, hl_v0⟩ := Kinds.cons_ hl
        obtain ⟨n2, rfl⟩ := kind_int k_v0
        obtain ⟨v1, l_v1, rfl, k_v1, hl_v1⟩ := Kinds.cons_ hl_v0
        obtain ⟨s3, rfl⟩ := kind_string k_v1
        obtain rfl := Kinds.nil_ hl_v1
        exact hX n2 s3 w hb)

def T_snap_name (n1 : Int) (w : World) (R : Ending → World → Prop) : Prop :=
  T_snap_name_1 n1 (ByteArray.mk #[]) w (fun s14 w15 => runV Try.prog (do eqGuard .add 9 (.const (.string (ByteArray.mk #[115, 110, 97, 112, 45]))) (.tmp 15) (.string (ByteArray.mk #[115, 110, 97, 112, 45])) (.string s14); binOp .add 9 (.string (ByteArray.mk #[115, 110, 97, 112, 45])) (.string s14)) w15 (fun r16 w17 => ∃ s18 : ByteArray, r16 = .string s18 ∧ R (.returned (.string s18)) w17) (pan R)) (pan R)

theorem T_snap_name_hl : allP (hokL Try.prog (hookAt [(14, H_snap_name_1)]) (bodyOf Try.f39) 1) = (UnitOk Try.prog H_snap_name_1 (at_ (bodyOf Try.f39) [1, 1, 0]) 14 ∧ True) := by kernel_rfl

theorem T_snap_name_eq (n1 : Int) (w : World) (R : Ending → World → Prop) : vcCode Try.prog (hookAt [(14, H_snap_name_1)]) (bodyOf Try.f39) 1 ⟨argEnv [.int .i64 n1] 0, Try.f39.ntmps, []⟩ w (finQ Try.prog Try.f39.results.toList R) = T_snap_name n1 w R := by kernel_rfl

theorem T_snap_name_b : Try.f39.body = some (bodyOf Try.f39) := by kernel_rfl
theorem T_snap_name_s : (quietSel (bodyOf Try.f39) && Nat.ble 1 Try.f39.ntmps) = true := by kernel_rfl

theorem C_snap_name {n1 : Int} {w : World} {R : Ending → World → Prop} (h : T_snap_name n1 w R) : Calls Try.prog 39 #[.int .i64 n1] w R :=
  calls_of_text (args := [.int .i64 n1]) mixed Try.func39 T_snap_name_b T_snap_name_s (HOk_of _ _ (by rw [T_snap_name_hl]; exact ⟨T_snap_name_1_ok, trivial⟩)) (by rw [T_snap_name_eq]; exact h)

/-! tollgate/snap.files$1 -/
def T_snap_files_c1 (s1 : ByteArray) (x2 : Int) (s3 : ByteArray) (x4 : Int) (w : World) (R : Ending → World → Prop) : Prop :=
  let w5 : World := w.alloc (.cells #[.string s1, .int .i64 x2] 86)
  let w6 : World := w5.alloc (.cells #[.string s3, .int .i64 x4] 86)
  ∃ x7 : Int, rd w6 ((⟨w5.heap.size, 0, none⟩ : Addr).add 1) (.int .i64 x7) ∧ ∃ x8 : Int, rd w6 ((⟨w.heap.size, 0, none⟩ : Addr).add 1) (.int .i64 x8) ∧ R (.returned (.int .i64 (IntKind.wrap .i64 ((x7 : Int) - x8)))) w6

theorem T_snap_files_c1_hl : allP (hokL Try.prog (hookAt []) (bodyOf Try.f65) 1) = (True) := by kernel_rfl

theorem T_snap_files_c1_eq (s1 : ByteArray) (x2 : Int) (s3 : ByteArray) (x4 : Int) (w : World) (R : Ending → World → Prop) : vcCode Try.prog (hookAt []) (bodyOf Try.f65) 1 ⟨argEnv [.agg #[.string s1, .int .i64 x2], .agg #[.string s3, .int .i64 x4]] 0, Try.f65.ntmps, []⟩ w (finQ Try.prog Try.f65.results.toList R) = T_snap_files_c1 s1 x2 s3 x4 w R := by kernel_rfl

theorem T_snap_files_c1_b : Try.f65.body = some (bodyOf Try.f65) := by kernel_rfl
theorem T_snap_files_c1_s : (quietSel (bodyOf Try.f65) && Nat.ble 2 Try.f65.ntmps) = true := by kernel_rfl

theorem C_snap_files_c1 {s1 : ByteArray} {x2 : Int} {s3 : ByteArray} {x4 : Int} {w : World} {R : Ending → World → Prop} (h : T_snap_files_c1 s1 x2 s3 x4 w R) : Calls Try.prog 65 #[.agg #[.string s1, .int .i64 x2], .agg #[.string s3, .int .i64 x4]] w R :=
  calls_of_text (args := [.agg #[.string s1, .int .i64 x2], .agg #[.string s3, .int .i64 x4]]) mixed Try.func65 T_snap_files_c1_b T_snap_files_c1_s (HOk_of _ _ (by rw [T_snap_files_c1_hl]; exact trivial)) (by rw [T_snap_files_c1_eq]; exact h)

/-! tollgate/snap.files -/
def T_snap_files_3 (s13 : ByteArray) (w : World) (Kn : Bool → World → Prop) (Kp : List PanicEntry → World → Prop) : Prop :=
  if (decide (((s13.size : Nat) : Int) < 6)) = true then (Kn true w) else (if (decide (((s13.size : Nat) : Int) > 18)) = true then (Kn true w) else (0 ≤ (5 : Int) ∧ (5 : Int) ≤ ((s13.size : Nat) : Int) ∧ Kn (!((s13.extract 0 ((5 : Int).toNat)).toList == (ByteArray.mk #[115, 110, 97, 112, 45]).toList)) w))

def T_snap_files_3_outs : Exit → Option (List (Nat × Value)) := fun x => match x with | .normal => some [(29, .bool false)] | .panic _ => some [] | _ => none

def T_snap_files_3_ks : Nat → Bool := ksOf [17, 18, 19, 20, 21, 22, 23, 24, 25, 26, 27, 28, 29]

def H_snap_files_3 : Env → World → QT → Prop := unitHook 72 T_snap_files_3_ks [(5, .string default)] T_snap_files_3_outs fun l w C => match l with | [v0] => T_snap_files_3 (pStr v0) w (fun b15 w => C .normal [.bool b15] w) (fun ch w => C (.panic ch) [] w) | _ => False

theorem T_snap_files_3_hl : allP (hokL Try.prog (hookAt []) (at_ (turnB 0 900001 900002 (bodyOf Try.f40)) [1, 1, 0, 0, 0, 0, 0, 1, 0, 0, 1, 1, 0, 0, 1, 0, 0]) 229988) = (True) := by kernel_rfl
theorem T_snap_files_3_hok : HOk Try.prog (hookAt []) (at_ (turnB 0 900001 900002 (bodyOf Try.f40)) [1, 1, 0, 0, 0, 0, 0, 1, 0, 0, 1, 1, 0, 0, 1, 0, 0]) 229988 := HOk_of _ _ (by rw [T_snap_files_3_hl]; exact trivial)

theorem T_snap_files_3_eq (C : Conts) (s13 : ByteArray) (w : World) : vcCode Try.prog (hookAt []) (at_ (turnB 0 900001 900002 (bodyOf Try.f40)) [1, 1, 0, 0, 0, 0, 0, 1, 0, 0, 1, 1, 0, 0, 1, 0, 0]) 229988 ⟨[(5, .string s13)], 72, []⟩ w (unitQ T_snap_files_3_outs C) = T_snap_files_3 s13 w (fun b16 w => C .normal [.bool b16] w) (fun ch w => C (.panic ch) [] w) := by kernel_rfl

theorem T_snap_files_3_ok : UnitOk Try.prog H_snap_files_3 (at_ (turnB 0 900001 900002 (bodyOf Try.f40)) [1, 1, 0, 0, 0, 0, 0, 1, 0, 0, 1, 1, 0, 0, 1, 0, 0]) 229988 := unit_ok (H := (hookAt [])) (by kernel_rfl) T_snap_files_3_hok fun l w C hk => by
    obtain ⟨v0, l_v0, rfl, k_v0, hk_v0⟩ := Kinds.cons_ hk
    obtain ⟨s13, rfl⟩ := kind_string k_v0
    obtain rfl := Kinds.nil_ hk_v0
    exact T_snap_files_3_eq C s13 w

def T_snap_files_5 (c28 : Int) (w : World) (Kn : Bool → World → Prop) (Kp : List PanicEntry → World → Prop) : Prop :=
  if (decide ((c28 : Int) < 48)) = true then (Kn true w) else (Kn (decide ((c28 : Int) > 57)) w)

def T_snap_files_5_outs : Exit → Option (List (Nat × Value)) := fun x => match x with | .normal => some [(43, .bool false)] | .panic _ => some [] | _ => none

def T_snap_files_5_ks : Nat → Bool := ksOf [38, 39, 40, 41, 42, 43]

def H_snap_files_5 : Env → World → QT → Prop := unitHook 72 T_snap_files_5_ks [(8, .int .u8 0)] T_snap_files_5_outs fun l w C => match l with | [v0] => T_snap_files_5 (pInt v0) w (fun b30 w => C .normal [.bool b30] w) (fun ch w => C (.panic ch) [] w) | _ => False

theorem T_snap_files_5_hl : allP (hokL Try.prog (hookAt []) (at_ (turnB 0 900001 900002 (bodyOf Try.f40)) [1, 1, 0, 0, 0, 0, 0, 1, 0, 0, 1, 1, 0, 0, 1, 1, 1, 0, 1, 0, 0, 1, 1, 0, 0, 1, 0, 0]) 471022180) = (True) := by kernel_rfl
theorem T_snap_files_5_hok : HOk Try.prog (hookAt []) (at_ (turnB 0 900001 900002 (bodyOf Try.f40)) [1, 1, 0, 0, 0, 0, 0, 1, 0, 0, 1, 1, 0, 0, 1, 1, 1, 0, 1, 0, 0, 1, 1, 0, 0, 1, 0, 0]) 471022180 := HOk_of _ _ (by rw [T_snap_files_5_hl]; exact trivial)

theorem T_snap_files_5_eq (C : Conts) (c28 : Int) (w : World) : vcCode Try.prog (hookAt []) (at_ (turnB 0 900001 900002 (bodyOf Try.f40)) [1, 1, 0, 0, 0, 0, 0, 1, 0, 0, 1, 1, 0, 0, 1, 1, 1, 0, 1, 0, 0, 1, 1, 0, 0, 1, 0, 0]) 471022180 ⟨[(8, .int .u8 c28)], 72, []⟩ w (unitQ T_snap_files_5_outs C) = T_snap_files_5 c28 w (fun b31 w => C .normal [.bool b31] w) (fun ch w => C (.panic ch) [] w) := by kernel_rfl

theorem T_snap_files_5_ok : UnitOk Try.prog H_snap_files_5 (at_ (turnB 0 900001 900002 (bodyOf Try.f40)) [1, 1, 0, 0, 0, 0, 0, 1, 0, 0, 1, 1, 0, 0, 1, 1, 1, 0, 1, 0, 0, 1, 1, 0, 0, 1, 0, 0]) 471022180 := unit_ok (H := (hookAt [])) (by kernel_rfl) T_snap_files_5_hok fun l w C hk => by
    obtain ⟨v0, l_v0, rfl, k_v0, hk_v0⟩ := Kinds.cons_ hk
    obtain ⟨c28, rfl⟩ := kind_int k_v0
    obtain rfl := Kinds.nil_ hk_v0
    exact T_snap_files_5_eq C c28 w

def T_snap_files_4_body (X : Int → Int → World → Prop) (n22 : Int) (x23 : Int) (s24a : Option Addr) (s24l : Nat) (s24c : Nat) (x25 : Int) (w : World) (Ke1 : World → Prop) (Kn : Int → World → Prop) (Kp : List PanicEntry → World → Prop)  : Prop :=
  if (decide ((x23 : Int) < x25)) = true then (0 ≤ (x23 : Int) ∧ (x23 : Int) < ((s24l : Nat) : Int) ∧ ∃ b26, s24a = some b26 ∧ ∃ x27 : Int, rd w (b26.add ((x23 : Int).toNat * 1)) (.int .u8 x27) ∧ T_snap_files_5 x27 w (fun b32 w33 => if b32 = true then (Ke1  w33) else (X (IntKind.wrap .i64 ((IntKind.wrap .i64 ((10 : Int) * n22) : Int) + (IntKind.wrap .i64 (IntKind.wrap .u8 ((x27 : Int) - 48))))) (IntKind.wrap .i64 ((x23 : Int) + 1)) w33)) Kp) else (Kn n22 w)

def T_snap_files_4 (n22 : Int) (x23 : Int) (s24a : Option Addr) (s24l : Nat) (s24c : Nat) (x25 : Int) (w : World) (Ke1 : World → Prop) (Kn : Int → World → Prop) (Kp : List PanicEntry → World → Prop) : Prop :=
  ∀ X : Int → Int → World → Prop, (∀ (n22 : Int) (x23 : Int) (w : World), T_snap_files_4_body X n22 x23 s24a s24l s24c x25 w Ke1 Kn Kp → X n22 x23 w) → X n22 x23 w

def T_snap_files_4_outs : Exit → Option (List (Nat × Value)) := fun x => match x with | .normal => some [(6, .int .i64 0)] | .panic _ => some [] | .exit i => cond (Nat.beq i 1) (some []) (none) | _ => none

def T_snap_files_4_ks : Nat → Bool := ksOf [6, 8, 34, 35, 36, 37, 38, 39, 40, 41, 42, 43, 44, 45, 46, 47, 48, 49, 50]

def H_snap_files_4 : Env → World → QT → Prop := unitHook 72 T_snap_files_4_ks [(6, .int .i64 0), (34, .int .i64 0), (32, .slice none 0 0), (33, .int .i64 0)] T_snap_files_4_outs fun l w C => match l with | [v0, v1, v2, v3] => T_snap_files_4 (pInt v0) (pInt v1) (pA v2) (pL v2) (pC v2) (pInt v3) w (fun w => C (.exit 1) [] w) (fun n35 w => C .normal [.int .i64 n35] w) (fun ch w => C (.panic ch) [] w) | _ => False

theorem T_snap_files_4_hl : allP (hokL Try.prog (hookAt [(471022180, H_snap_files_5)]) (at_ (turnB 0 900001 900002 (bodyOf Try.f40)) [1, 1, 0, 0, 0, 0, 0, 1, 0, 0, 1, 1, 0, 0, 1, 1, 1, 0, 1, 0, 0]) 3679860) = (UnitOk Try.prog H_snap_files_5 (at_ (turnB 0 900001 900002 (bodyOf Try.f40)) [1, 1, 0, 0, 0, 0, 0, 1, 0, 0, 1, 1, 0, 0, 1, 1, 1, 0, 1, 0, 0, 1, 1, 0, 0, 1, 0, 0]) 471022180 ∧ True) := by kernel_rfl
theorem T_snap_files_4_hok : HOk Try.prog (hookAt [(471022180, H_snap_files_5)]) (at_ (turnB 0 900001 900002 (bodyOf Try.f40)) [1, 1, 0, 0, 0, 0, 0, 1, 0, 0, 1, 1, 0, 0, 1, 1, 1, 0, 1, 0, 0]) 3679860 := HOk_of _ _ (by rw [T_snap_files_4_hl]; exact ⟨T_snap_files_5_ok, trivial⟩)

theorem T_snap_files_4_eq (C : Conts) (X : List Value → World → Prop) (n22 : Int) (x23 : Int) (s24a : Option Addr) (s24l : Nat) (s24c : Nat) (x25 : Int) (w : World) : vcCode Try.prog (hookAt [(471022180, H_snap_files_5)]) (at_ (turnB 0 900001 900002 (bodyOf Try.f40)) [1, 1, 0, 0, 0, 0, 0, 1, 0, 0, 1, 1, 0, 0, 1, 1, 1, 0, 1, 0, 0]) 3679860 ⟨[(6, .int .i64 n22), (34, .int .i64 x23)] ++ [(32, .slice s24a s24l s24c), (33, .int .i64 x25)], 72, []⟩ w (seqQ (fun e w => takeAll e [(6, .int .i64 0), (34, .int .i64 0)] fun l => X l w) (blockQ 2 (unitQ T_snap_files_4_outs C))) = T_snap_files_4_body (fun n22 x23 w => X [.int .i64 n22, .int .i64 x23] w) n22 x23 s24a s24l s24c x25 w (fun w => C (.exit 1) [] w) (fun n36 w => C .normal [.int .i64 n36] w) (fun ch w => C (.panic ch) [] w) := by kernel_rfl

theorem T_snap_files_4_ok : UnitOk Try.prog H_snap_files_4 (at_ (turnB 0 900001 900002 (bodyOf Try.f40)) [1, 1, 0, 0, 0, 0, 0, 1, 0, 0, 1, 1, 0, 0, 1, 1, 1, 0, 1]) 919965 := by
  have hc : at_ (turnB 0 900001 900002 (bodyOf Try.f40)) [1, 1, 0, 0, 0, 0, 0, 1, 0, 0, 1, 1, 0, 0, 1, 1, 1, 0, 1] = .block 2 (.loop (at_ (turnB 0 900001 900002 (bodyOf Try.f40)) [1, 1, 0, 0, 0, 0, 0, 1, 0, 0, 1, 1, 0, 0, 1, 1, 1, 0, 1, 0, 0])) := by kernel_rfl
  rw [hc]
  refine loop_unit_ok (carr := [(6, .int .i64 0), (34, .int .i64 0)]) (fix := [(32, .slice none 0 0), (33, .int .i64 0)]) (ks := T_snap_files_4_ks) (H := (hookAt [(471022180, H_snap_files_5)])) (B := fun C X l u w => match l, u with | [v0, v1], [v2, v3] => T_snap_files_4_body (fun n22 x23 w => X [.int .i64 n22, .int .i64 x23] w) (pInt v0) (pInt v1) (pA v2) (pL v2) (pC v2) (pInt v3) w (fun w => C (.exit 1) [] w) (fun n37 w => C .normal [.int .i64 n37] w) (fun ch w => C (.panic ch) [] w) | _, _ => False) (by kernel_rfl) (by kernel_rfl) T_snap_files_4_hok ?_ ?_
  · intro C X l u w hl hu
    obtain ⟨v0, l_v0, rfl, k_v0, hl_v0⟩ := Kinds.cons_ hl
    obtain ⟨n22, rfl⟩ := kind_int k_v0
    obtain ⟨v1, l_v1, rfl, k_v1, hl_v1⟩ := Kinds.cons_ hl_v0
    obtain ⟨x23, rfl⟩ := kind_int k_v1
    obtain rfl := Kinds.nil_ hl_v1
    obtain ⟨v2, l_v2, rfl, k_v2, hu_v2⟩ := Kinds.cons_ hu
    obtain ⟨s24a, s24l, s24c, rfl⟩ := kind_slice k_v2
    obtain ⟨v3, l_v3, rfl, k_v3, hu_v3⟩ := Kinds.cons_ hu_v2
    obtain ⟨x25, rfl⟩ := kind_int k_v3
    obtain rfl := Kinds.nil_ hu_v3
    exact T_snap_files_4_eq C X n22 x23 s24a s24l s24c x25 w
  · intro l u w C hl hu
    obtain ⟨v0, l_v0, rfl, k_v0, hl_v0⟩ := Kinds.cons_ hl
    obtain ⟨n22, rfl⟩ := kind_int k_v0
    obtain ⟨v1, l_v1, rfl, k_v1, hl_v1⟩ := Kinds.cons_ hl_v0
    obtain ⟨x23, rfl⟩ := kind_int k_v1
    obtain rfl := Kinds.nil_ hl_v1
    obtain ⟨v2, l_v2, rfl, k_v2, hu_v2⟩ := Kinds.cons_ hu
    obtain ⟨s24a, s24l, s24c, rfl⟩ := kind_slice k_v2
    obtain ⟨v3, l_v3, rfl, k_v3, hu_v3⟩ := Kinds.cons_ hu_v2
    obtain ⟨x25, rfl⟩ := kind_int k_v3
    obtain rfl := Kinds.nil_ hu_v3
    constructor
    · intro h X hX
      exact h (fun n22 x23 w => X [.int .i64 n22, .int .i64 x23] w) (fun n22 x23 w hb => hX [.int .i64 n22, .int .i64 x23] w ⟨rfl, rfl, trivial⟩ hb)
    · intro h X hX
      exact h (fun l w => match l with | [v0, v1] => X (pInt v0) (pInt v1) w | _ => True) (fun l w hl hb => by
        obtain ⟨v0, l_v0, rfl, k_v0, hl_v0⟩ := Kinds.cons_ hl
        obtain ⟨n22, rfl⟩ := kind_int k_v0
        obtain ⟨v1, l_v1, rfl, k_v1, hl_v1⟩ := Kinds.cons_ hl_v0
        obtain ⟨x23, rfl⟩ := kind_int k_v1
        obtain rfl := Kinds.nil_ hl_v1
        exact hX n22 x23 w hb)

def T_snap_files_2_body (X : Option Addr → Nat → Nat → Int → World → Prop) (out7a : Option Addr) (out7l : Nat) (out7c : Nat) (x8 : Int) (s9a : Option Addr) (s9l : Nat) (s9c : Nat) (x10 : Int) (w : World) (Kn : Option Addr → Nat → Nat → World → Prop) (Kp : List PanicEntry → World → Prop)  : Prop :=
  if (decide ((x8 : Int) < x10)) = true then (0 ≤ (x8 : Int) ∧ (x8 : Int) < ((s9l : Nat) : Int) ∧ ∃ b11, s9a = some b11 ∧ ∃ s12 : ByteArray, rd w (b11.add ((x8 : Int).toNat * 1)) (.string s12) ∧ T_snap_files_3 s12 w (fun b17 w18 => if b17 = true then (X out7a out7l out7c (IntKind.wrap .i64 ((x8 : Int) + 1)) w18) else (0 ≤ (5 : Int) ∧ (5 : Int) ≤ ((s12.size : Nat) : Int) ∧ runV Try.prog (convert 9 27 (.string (s12.extract ((5 : Int).toNat) s12.size))) w18 (fun r19 w20 => ∃ s21a : Option Addr, ∃ s21l : Nat, ∃ s21c : Nat, r19 = .slice s21a s21l s21c ∧ T_snap_files_4 0 0 s21a s21l s21c ((s21l : Nat) : Int) w20 (fun w38 => X out7a out7l out7c (IntKind.wrap .i64 ((x8 : Int) + 1)) w38) (fun n39 w40 => let w41 : World := w40.alloc (.cells #[.string (ByteArray.mk #[]), .int .i64 0] 86)
  (.agg #[.string s12, .int .i64 n39] : Value).cells.size = 2 ∧ wrOk w41 (⟨w40.heap.size, 0, none⟩ : Addr) (.agg #[.string s12, .int .i64 n39]) ∧ let w42 : World := wr w41 (⟨w40.heap.size, 0, none⟩ : Addr) (.agg #[.string s12, .int .i64 n39])
  let w43 : World := w42.drew
  if (decide ((n39 : Int) ≤ 1099511627776)) = true then (∃ s44 : ByteArray, ∃ x45 : Int, rd w43 (⟨w40.heap.size, 0, none⟩ : Addr) (.agg #[.string s44, .int .i64 x45]) ∧ Calls Try.prog 39 #[.int .i64 n39] w43 (ret (fun r46 w47 => ∃ s48 : ByteArray, r46 = .string s48 ∧ (rd w47 (⟨w40.heap.size, 0, none⟩ : Addr) (.agg #[.string s44, .int .i64 x45]) ∧ True) ∧ runV Try.prog (do eqGuard .eql 86 (.tmp 57) (.tmp 61) (.agg #[.string s44, .int .i64 x45]) (.agg #[.string s48, .int .i64 n39]); binOp .eql 86 (.agg #[.string s44, .int .i64 x45]) (.agg #[.string s48, .int .i64 n39])) w47 (fun r49 w50 => ∃ b51 : Bool, r49 = .bool b51 ∧ (True) ∧ if b51 = true then (∃ s52 : ByteArray, ∃ x53 : Int, rd w50 (⟨w40.heap.size, 0, none⟩ : Addr) (.agg #[.string s52, .int .i64 x53]) ∧ let w54 : World := w50.alloc (.cells #[.string s52, .int .i64 x53] 86)
  runV Try.prog (Builtin.append_ #[83, 83] 83 #[.slice out7a out7l out7c, .slice (some (⟨w50.heap.size, 0, none⟩ : Addr)) 1 1]) w54 (fun r55 w56 => ∃ s57a : Option Addr, ∃ s57l : Nat, ∃ s57c : Nat, r55 = .slice s57a s57l s57c ∧ X s57a s57l s57c (IntKind.wrap .i64 ((x8 : Int) + 1)) w56) Kp) else (X out7a out7l out7c (IntKind.wrap .i64 ((x8 : Int) + 1)) w50)) Kp) Kp)) else ((True) ∧ (True) ∧ X out7a out7l out7c (IntKind.wrap .i64 ((x8 : Int) + 1)) w43)) Kp) Kp)) Kp) else (Kn out7a out7l out7c w)

def T_snap_files_2 (out7a : Option Addr) (out7l : Nat) (out7c : Nat) (x8 : Int) (s9a : Option Addr) (s9l : Nat) (s9c : Nat) (x10 : Int) (w : World) (Kn : Option Addr → Nat → Nat → World → Prop) (Kp : List PanicEntry → World → Prop) : Prop :=
  ∀ X : Option Addr → Nat → Nat → Int → World → Prop, (∀ (out7a : Option Addr) (out7l : Nat) (out7c : Nat) (x8 : Int) (w : World), T_snap_files_2_body X out7a out7l out7c x8 s9a s9l s9c x10 w Kn Kp → X out7a out7l out7c x8 w) → X out7a out7l out7c x8 w

def T_snap_files_2_outs : Exit → Option (List (Nat × Value)) := fun x => match x with | .normal => some [(3, .slice none 0 0)] | .panic _ => some [] | _ => none

def T_snap_files_2_ks : Nat → Bool := ksOf [3, 5, 6, 8, 9, 13, 14, 15, 16, 17, 18, 19, 20, 21, 22, 23, 24, 25, 26, 27, 28, 29, 30, 31, 32, 33, 34, 35, 36, 37, 38, 39, 40, 41, 42, 43, 44, 45, 46, 47, 48, 49, 50, 51, 52, 53, 54, 55, 56, 57, 58, 59, 60, 61, 62, 63, 64, 65, 66, 67, 68]

def H_snap_files_2 : Env → World → QT → Prop := unitHook 72 T_snap_files_2_ks [(3, .slice none 0 0), (13, .int .i64 0), (11, .slice none 0 0), (12, .int .i64 0)] T_snap_files_2_outs fun l w C => match l with | [v0, v1, v2, v3] => T_snap_files_2 (pA v0) (pL v0) (pC v0) (pInt v1) (pA v2) (pL v2) (pC v2) (pInt v3) w (fun out59a out59l out59c w => C .normal [.slice out59a out59l out59c] w) (fun ch w => C (.panic ch) [] w) | _ => False

theorem T_snap_files_2_hl : allP (hokL Try.prog (hookAt [(229988, H_snap_files_3), (919965, H_snap_files_4)]) (at_ (turnB 0 900001 900002 (bodyOf Try.f40)) [1, 1, 0, 0, 0, 0, 0, 1, 0, 0]) 1796) = (UnitOk Try.prog H_snap_files_3 (at_ (turnB 0 900001 900002 (bodyOf Try.f40)) [1, 1, 0, 0, 0, 0, 0, 1, 0, 0, 1, 1, 0, 0, 1, 0, 0]) 229988 ∧ UnitOk Try.prog H_snap_files_4 (at_ (turnB 0 900001 900002 (bodyOf Try.f40)) [1, 1, 0, 0, 0, 0, 0, 1, 0, 0, 1, 1, 0, 0, 1, 1, 1, 0, 1]) 919965 ∧ True) := by kernel_rfl
theorem T_snap_files_2_hok : HOk Try.prog (hookAt [(229988, H_snap_files_3), (919965, H_snap_files_4)]) (at_ (turnB 0 900001 900002 (bodyOf Try.f40)) [1, 1, 0, 0, 0, 0, 0, 1, 0, 0]) 1796 := HOk_of _ _ (by rw [T_snap_files_2_hl]; exact ⟨T_snap_files_3_ok, T_snap_files_4_ok, trivial⟩)

theorem T_snap_files_2_eq (C : Conts) (X : List Value → World → Prop) (out7a : Option Addr) (out7l : Nat) (out7c : Nat) (x8 : Int) (s9a : Option Addr) (s9l : Nat) (s9c : Nat) (x10 : Int) (w : World) : vcCode Try.prog (hookAt [(229988, H_snap_files_3), (919965, H_snap_files_4)]) (at_ (turnB 0 900001 900002 (bodyOf Try.f40)) [1, 1, 0, 0, 0, 0, 0, 1, 0, 0]) 1796 ⟨[(3, .slice out7a out7l out7c), (13, .int .i64 x8)] ++ [(11, .slice s9a s9l s9c), (12, .int .i64 x10)], 72, []⟩ w (seqQ (fun e w => takeAll e [(3, .slice none 0 0), (13, .int .i64 0)] fun l => X l w) (blockQ 0 (unitQ T_snap_files_2_outs C))) = T_snap_files_2_body (fun out7a out7l out7c x8 w => X [.slice out7a out7l out7c, .int .i64 x8] w) out7a out7l out7c x8 s9a s9l s9c x10 w (fun out60a out60l out60c w => C .normal [.slice out60a out60l out60c] w) (fun ch w => C (.panic ch) [] w) := by kernel_rfl

theorem T_snap_files_2_ok : UnitOk Try.prog H_snap_files_2 (at_ (turnB 0 900001 900002 (bodyOf Try.f40)) [1, 1, 0, 0, 0, 0, 0, 1]) 449 := by
  have hc : at_ (turnB 0 900001 900002 (bodyOf Try.f40)) [1, 1, 0, 0, 0, 0, 0, 1] = .block 0 (.loop (at_ (turnB 0 900001 900002 (bodyOf Try.f40)) [1, 1, 0, 0, 0, 0, 0, 1, 0, 0])) := by kernel_rfl
  rw [hc]
  refine loop_unit_ok (carr := [(3, .slice none 0 0), (13, .int .i64 0)]) (fix := [(11, .slice none 0 0), (12, .int .i64 0)]) (ks := T_snap_files_2_ks) (H := (hookAt [(229988, H_snap_files_3), (919965, H_snap_files_4)])) (B := fun C X l u w => match l, u with | [v0, v1], [v2, v3] => T_snap_files_2_body (fun out7a out7l out7c x8 w => X [.slice out7a out7l out7c, .int .i64 x8] w) (pA v0) (pL v0) (pC v0) (pInt v1) (pA v2) (pL v2) (pC v2) (pInt v3) w (fun out61a out61l out61c w => C .normal [.slice out61a out61l out61c] w) (fun ch w => C (.panic ch) [] w) | _, _ => False) (by kernel_rfl) (by kernel_rfl) T_snap_files_2_hok ?_ ?_
  · intro C X l u w hl hu
    obtain ⟨v0, l_v0, rfl, k_v0, hl_v0⟩ := Kinds.cons_ hl
    obtain ⟨out7a, out7l, out7c, rfl⟩ := kind_slice k_v0
    obtain ⟨v1, l_v1, rfl, k_v1, hl_v1⟩ := Kinds.cons_ hl_v0
    obtain ⟨x8, rfl⟩ := kind_int k_v1
    obtain rfl := Kinds.nil_ hl_v1
    obtain ⟨v2, l_v2, rfl, k_v2, hu_v2⟩ := Kinds.cons_ hu
    obtain ⟨s9a, s9l, s9c, rfl⟩ := kind_slice k_v2
    obtain ⟨v3, l_v3, rfl, k_v3, hu_v3⟩ := Kinds.cons_ hu_v2
    obtain ⟨x10, rfl⟩ := kind_int k_v3
    obtain rfl := Kinds.nil_ hu_v3
    exact T_snap_files_2_eq C X out7a out7l out7c x8 s9a s9l s9c x10 w
  · intro l u w C hl hu
    obtain ⟨v0, l_v0, rfl, k_v0, hl_v0⟩ := Kinds.cons_ hl
    obtain ⟨out7a, out7l, out7c, rfl⟩ := kind_slice k_v0
    obtain ⟨v1, l_v1, rfl, k_v1, hl_v1⟩ := Kinds.cons_ hl_v0
    obtain ⟨x8, rfl⟩ := kind_int k_v1
    obtain rfl := Kinds.nil_ hl_v1
    obtain ⟨v2, l_v2, rfl, k_v2, hu_v2⟩ := Kinds.cons_ hu
    obtain ⟨s9a, s9l, s9c, rfl⟩ := kind_slice k_v2
    obtain ⟨v3, l_v3, rfl, k_v3, hu_v3⟩ := Kinds.cons_ hu_v2
    obtain ⟨x10, rfl⟩ := kind_int k_v3
    obtain rfl := Kinds.nil_ hu_v3
    constructor
    · intro h X hX
      exact h (fun out7a out7l out7c x8 w => X [.slice out7a out7l out7c, .int .i64 x8] w) (fun out7a out7l out7c x8 w hb => hX [.slice out7a out7l out7c, .int .i64 x8] w ⟨rfl, rfl, trivial⟩ hb)
    · intro h X hX
      exact h (fun l w => match l with | [v0, v1] => X (pA v0) (pL v0) (pC v0) (pInt v1) w | _ => True) (fun l w hl hb => by
        obtain ⟨v0, l_v0, rfl, k_v0, hl_v0⟩ := Kinds.cons_ hl
        obtain ⟨out7a, out7l, out7c, rfl⟩ := kind_slice k_v0
        obtain ⟨v1, l_v1, rfl, k_v1, hl_v1⟩ := Kinds.cons_ hl_v0
        obtain ⟨x8, rfl⟩ := kind_int k_v1
        obtain rfl := Kinds.nil_ hl_v1
        exact hX out7a out7l out7c x8 w hb)

def T_snap_files_1_body (X : Option Addr → Nat → Nat → World → Prop) (out2a : Option Addr) (out2l : Nat) (out2c : Nat) (d3 : Option Addr) (w : World) (Kr : Option Addr → Nat → Nat → World → Prop) (Kp : List PanicEntry → World → Prop)  : Prop :=
  Calls Try.prog 20 #[.pointer d3] w (ret (fun r4 w5 => ∃ s6a : Option Addr, ∃ s6l : Nat, ∃ s6c : Nat, r4 = .slice s6a s6l s6c ∧ T_snap_files_2 out2a out2l out2c 0 s6a s6l s6c ((s6l : Nat) : Int) w5 (fun out62a out62l out62c w63 => Calls Try.prog 64 #[.slice out62a out62l out62c, .func (.func 65) #[] #[]] w63 (ret (fun r64 w65 => r64 = .tuple #[] ∧ Kr out62a out62l out62c w65) Kp)) Kp) Kp)

def T_snap_files_1 (out2a : Option Addr) (out2l : Nat) (out2c : Nat) (d3 : Option Addr) (w : World) (Kr : Option Addr → Nat → Nat → World → Prop) (Kp : List PanicEntry → World → Prop) : Prop :=
  ∀ X : Option Addr → Nat → Nat → World → Prop, (∀ (out2a : Option Addr) (out2l : Nat) (out2c : Nat) (w : World), T_snap_files_1_body X out2a out2l out2c d3 w Kr Kp → X out2a out2l out2c w) → X out2a out2l out2c w

def T_snap_files_1_outs : Exit → Option (List (Nat × Value)) := fun x => match x with | .ret => some [(2, .slice none 0 0)] | .panic _ => some [] | _ => none

def T_snap_files_1_ks : Nat → Bool := ksOf [2, 3, 5, 6, 8, 9, 10, 11, 12, 13, 14, 15, 16, 17, 18, 19, 20, 21, 22, 23, 24, 25, 26, 27, 28, 29, 30, 31, 32, 33, 34, 35, 36, 37, 38, 39, 40, 41, 42, 43, 44, 45, 46, 47, 48, 49, 50, 51, 52, 53, 54, 55, 56, 57, 58, 59, 60, 61, 62, 63, 64, 65, 66, 67, 68, 69, 70, 71]

def H_snap_files_1 : Env → World → QT → Prop := unitHook 72 T_snap_files_1_ks [(3, .slice none 0 0), (0, .pointer none)] T_snap_files_1_outs fun l w C => match l with | [v0, v1] => T_snap_files_1 (pA v0) (pL v0) (pC v0) (pPtr v1) w (fun s67a s67l s67c w => C .ret [.slice s67a s67l s67c] w) (fun ch w => C (.panic ch) [] w) | _ => False

theorem T_snap_files_1_hl : allP (hokL Try.prog (hookAt [(449, H_snap_files_2)]) (at_ (turnB 0 900001 900002 (bodyOf Try.f40)) [1, 1, 0, 0]) 28) = (UnitOk Try.prog H_snap_files_2 (at_ (turnB 0 900001 900002 (bodyOf Try.f40)) [1, 1, 0, 0, 0, 0, 0, 1]) 449 ∧ True) := by kernel_rfl
theorem T_snap_files_1_hok : HOk Try.prog (hookAt [(449, H_snap_files_2)]) (at_ (turnB 0 900001 900002 (bodyOf Try.f40)) [1, 1, 0, 0]) 28 := HOk_of _ _ (by rw [T_snap_files_1_hl]; exact ⟨T_snap_files_2_ok, trivial⟩)

theorem T_snap_files_1_eq (C : Conts) (X : List Value → World → Prop) (out2a : Option Addr) (out2l : Nat) (out2c : Nat) (d3 : Option Addr) (w : World) : vcCode Try.prog (hookAt [(449, H_snap_files_2)]) (at_ (turnB 0 900001 900002 (bodyOf Try.f40)) [1, 1, 0, 0]) 28 ⟨[(3, .slice out2a out2l out2c)] ++ [(0, .pointer d3)], 72, []⟩ w (seqQ (fun e w => takeAll e [(3, .slice none 0 0)] fun l => X l w) (blockQ 900002 (unitQ T_snap_files_1_outs C))) = T_snap_files_1_body (fun out2a out2l out2c w => X [.slice out2a out2l out2c] w) out2a out2l out2c d3 w (fun s68a s68l s68c w => C .ret [.slice s68a s68l s68c] w) (fun ch w => C (.panic ch) [] w) := by kernel_rfl

theorem T_snap_files_1_ok : UnitOk Try.prog H_snap_files_1 (at_ (turnB 0 900001 900002 (bodyOf Try.f40)) [1, 1]) 7 := by
  have hc : at_ (turnB 0 900001 900002 (bodyOf Try.f40)) [1, 1] = .block 900002 (.loop (at_ (turnB 0 900001 900002 (bodyOf Try.f40)) [1, 1, 0, 0])) := by kernel_rfl
  rw [hc]
  refine loop_unit_ok (carr := [(3, .slice none 0 0)]) (fix := [(0, .pointer none)]) (ks := T_snap_files_1_ks) (H := (hookAt [(449, H_snap_files_2)])) (B := fun C X l u w => match l, u with | [v0], [v1] => T_snap_files_1_body (fun out2a out2l out2c w => X [.slice out2a out2l out2c] w) (pA v0) (pL v0) (pC v0) (pPtr v1) w (fun s69a s69l s69c w => C .ret [.slice s69a s69l s69c] w) (fun ch w => C (.panic ch) [] w) | _, _ => False) (by kernel_rfl) (by kernel_rfl) T_snap_files_1_hok ?_ ?_
  · intro C X l u w hl hu
    obtain ⟨v0, l_v0, rfl, k_v0, hl_v0⟩ := Kinds.cons_ hl
    obtain ⟨out2a, out2l, out2c, rfl⟩ := kind_slice k_v0
    obtain rfl := Kinds.nil_ hl_v0
    obtain ⟨v1, l_v1, rfl, k_v1, hu_v1⟩ := Kinds.cons_ hu
    obtain ⟨d3, rfl⟩ := kind_pointer k_v1
    obtain rfl := Kinds.nil_ hu_v1
    exact T_snap_files_1_eq C X out2a out2l out2c d3 w
  · intro l u w C hl hu
    obtain ⟨v0, l_v0, rfl, k_v0, hl_v0⟩ := Kinds.cons_ hl
    obtain ⟨out2a, out2l, out2c, rfl⟩ := kind_slice k_v0
    obtain rfl := Kinds.nil_ hl_v0
    obtain ⟨v1, l_v1, rfl, k_v1, hu_v1⟩ := Kinds.cons_ hu
    obtain ⟨d3, rfl⟩ := kind_pointer k_v1
    obtain rfl := Kinds.nil_ hu_v1
    constructor
    · intro h X hX
      exact h (fun out2a out2l out2c w => X [.slice out2a out2l out2c] w) (fun out2a out2l out2c w hb => hX [.slice out2a out2l out2c] w ⟨rfl, trivial⟩ hb)
    · intro h X hX
      exact h (fun l w => match l with | [v0] => X (pA v0) (pL v0) (pC v0) w | _ => True) (fun l w hl hb => by
        obtain ⟨v0, l_v0, rfl, k_v0, hl_v0⟩ := Kinds.cons_ hl
        obtain ⟨out2a, out2l, out2c, rfl⟩ := kind_slice k_v0
        obtain rfl := Kinds.nil_ hl_v0
        exact hX out2a out2l out2c w hb)

def T_snap_files (d1 : Option Addr) (w : World) (R : Ending → World → Prop) : Prop :=
  T_snap_files_1 none 0 0 d1 w (fun s70a s70l s70c w71 => R (.returned (.slice s70a s70l s70c)) w71) (pan R)

theorem T_snap_files_hl : allP (hokL Try.prog (hookAt [(7, H_snap_files_1)]) (turnB 0 900001 900002 (bodyOf Try.f40)) 1) = (UnitOk Try.prog H_snap_files_1 (at_ (turnB 0 900001 900002 (bodyOf Try.f40)) [1, 1]) 7 ∧ True) := by kernel_rfl

theorem T_snap_files_eq (d1 : Option Addr) (w : World) (R : Ending → World → Prop) : vcCode Try.prog (hookAt [(7, H_snap_files_1)]) (turnB 0 900001 900002 (bodyOf Try.f40)) 1 ⟨argEnv [.pointer d1] 0, Try.f40.ntmps, []⟩ w (finQ Try.prog Try.f40.results.toList R) = T_snap_files d1 w R := by kernel_rfl

theorem T_snap_files_b : Try.f40.body = some (.seq (rOf (bodyOf Try.f40)) (.scope (cOf (bodyOf Try.f40)))) := by kernel_rfl
theorem T_snap_files_f : findLabel (cOf (bodyOf Try.f40)) 0 = some (.seq .skip ((lapOf 0 (cOf (bodyOf Try.f40))).getD .skip)) := by kernel_rfl
theorem T_snap_files_l : lapOf 0 (cOf (bodyOf Try.f40)) = some ((lapOf 0 (cOf (bodyOf Try.f40))).getD .skip) := by kernel_rfl

theorem T_snap_files_s : ((quietSel (rOf (bodyOf Try.f40)) && quietSel (cOf (bodyOf Try.f40)) && quietSel ((lapOf 0 (cOf (bodyOf Try.f40))).getD .skip)) && (freshC 900001 ((lapOf 0 (cOf (bodyOf Try.f40))).getD .skip) && noExit 900001 ((lapOf 0 (cOf (bodyOf Try.f40))).getD .skip) && noExit 900002 ((lapOf 0 (cOf (bodyOf Try.f40))).getD .skip)) && Nat.ble 1 Try.f40.ntmps) = true := by kernel_rfl

theorem C_snap_files {d1 : Option Addr} {w : World} {R : Ending → World → Prop} (h : T_snap_files d1 w R) : Calls Try.prog 40 #[.pointer d1] w R :=
  calls_of_scope (args := [.pointer d1]) mixed Try.func40 T_snap_files_b T_snap_files_f T_snap_files_l T_snap_files_s (HOk_of _ _ (show allP (hokL Try.prog (hookAt [(7, H_snap_files_1)]) (turnB 0 900001 900002 (bodyOf Try.f40)) 1) from by rw [T_snap_files_hl]; exact ⟨T_snap_files_1_ok, trivial⟩)) (show vcCode Try.prog (hookAt [(7, H_snap_files_1)]) (turnB 0 900001 900002 (bodyOf Try.f40)) 1 ⟨argEnv [.pointer d1] 0, Try.f40.ntmps, []⟩ w (finQ Try.prog Try.f40.results.toList R) from by rw [T_snap_files_eq]; exact h)

/-! tollgate/snap.Save -/
def T_snap_Save_1 (d23 : Option Addr) (s24 : Addr) (e25 : Int) (b26 : Bool) (w : World) (Kn : Int → World → Prop) (Kp : List PanicEntry → World → Prop) : Prop :=
  if b26 = true then (Calls Try.prog 19 #[.pointer d23, .string (ByteArray.mk #[115, 110, 97, 112, 46, 116, 109, 112])] w (ret (fun r27 w28 => ∃ x29 : Int, r27 = .int .i64 x29 ∧ ∃ x30 : Int, rd w28 s24 (.int .i64 x30) ∧ Calls Try.prog 39 #[.int .i64 x30] w28 (ret (fun r31 w32 => ∃ s33 : ByteArray, r31 = .string s33 ∧ Calls Try.prog 21 #[.pointer d23, .string (ByteArray.mk #[115, 110, 97, 112, 46, 116, 109, 112]), .string s33] w32 (ret (fun r34 w35 => ∃ x36 : Int, r34 = .int .i64 x36 ∧ Kn x36 w35) Kp)) Kp)) Kp)) else (Kn e25 w)

def T_snap_Save_1_outs : Exit → Option (List (Nat × Value)) := fun x => match x with | .normal => some [(6, .int .i64 0)] | .panic _ => some [] | _ => none

def T_snap_Save_1_ks : Nat → Bool := ksOf [6, 26, 27, 28, 29, 30, 31, 32, 33]

def H_snap_Save_1 : Env → World → QT → Prop := unitHook 57 T_snap_Save_1_ks [(0, .pointer none), (3, .pointer (some ⟨0, 0, none⟩)), (6, .int .i64 0), (25, .bool false)] T_snap_Save_1_outs fun l w C => match l with | [v0, v1, v2, v3] => T_snap_Save_1 (pPtr v0) (pAddr v1) (pInt v2) (pBool v3) w (fun e38 w => C .normal [.int .i64 e38] w) (fun ch w => C (.panic ch) [] w) | _ => False

theorem T_snap_Save_1_hl : allP (hokL Try.prog (hookAt []) (at_ (bodyOf Try.f17) [1, 1, 1, 1, 1, 0, 1, 1]) 507) = (True) := by kernel_rfl
theorem T_snap_Save_1_hok : HOk Try.prog (hookAt []) (at_ (bodyOf Try.f17) [1, 1, 1, 1, 1, 0, 1, 1]) 507 := HOk_of _ _ (by rw [T_snap_Save_1_hl]; exact trivial)

theorem T_snap_Save_1_eq (C : Conts) (d23 : Option Addr) (s24 : Addr) (e25 : Int) (b26 : Bool) (w : World) : vcCode Try.prog (hookAt []) (at_ (bodyOf Try.f17) [1, 1, 1, 1, 1, 0, 1, 1]) 507 ⟨[(0, .pointer d23), (3, .pointer (some s24)), (6, .int .i64 e25), (25, .bool b26)], 57, []⟩ w (unitQ T_snap_Save_1_outs C) = T_snap_Save_1 d23 s24 e25 b26 w (fun e39 w => C .normal [.int .i64 e39] w) (fun ch w => C (.panic ch) [] w) := by kernel_rfl

theorem T_snap_Save_1_ok : UnitOk Try.prog H_snap_Save_1 (at_ (bodyOf Try.f17) [1, 1, 1, 1, 1, 0, 1, 1]) 507 := unit_ok (H := (hookAt [])) (by kernel_rfl) T_snap_Save_1_hok fun l w C hk => by
    obtain ⟨v0, l_v0, rfl, k_v0, hk_v0⟩ := Kinds.cons_ hk
    obtain ⟨d23, rfl⟩ := kind_pointer k_v0
    obtain ⟨v1, l_v1, rfl, k_v1, hk_v1⟩ := Kinds.cons_ hk_v0
    obtain ⟨s24, rfl⟩ := kind_addr k_v1
    obtain ⟨v2, l_v2, rfl, k_v2, hk_v2⟩ := Kinds.cons_ hk_v1
    obtain ⟨e25, rfl⟩ := kind_int k_v2
    obtain ⟨v3, l_v3, rfl, k_v3, hk_v3⟩ := Kinds.cons_ hk_v2
    obtain ⟨b26, rfl⟩ := kind_bool k_v3
    obtain rfl := Kinds.nil_ hk_v3
    exact T_snap_Save_1_eq C d23 s24 e25 b26 w

def T_snap_Save_2_body (X : Int → World → Prop) (x48 : Int) (d49 : Option Addr) (s50 : Addr) (s51a : Option Addr) (s51l : Nat) (s51c : Nat) (x52 : Int) (w : World) (Kn : World → Prop) (Kp : List PanicEntry → World → Prop)  : Prop :=
  if (decide ((x48 : Int) < x52)) = true then (0 ≤ (x48 : Int) ∧ (x48 : Int) < ((s51l : Nat) : Int) ∧ ∃ b53, s51a = some b53 ∧ ∃ s54 : ByteArray, ∃ x55 : Int, rd w (b53.add ((x48 : Int).toNat * 2)) (.agg #[.string s54, .int .i64 x55]) ∧ let w56 : World := w.alloc (.cells #[.string (ByteArray.mk #[]), .int .i64 0] 86)
  (.agg #[.string s54, .int .i64 x55] : Value).cells.size = 2 ∧ wrOk w56 (⟨w.heap.size, 0, none⟩ : Addr) (.agg #[.string s54, .int .i64 x55]) ∧ let w57 : World := wr w56 (⟨w.heap.size, 0, none⟩ : Addr) (.agg #[.string s54, .int .i64 x55])
  ∃ x58 : Int, rd w57 ((⟨w.heap.size, 0, none⟩ : Addr).add 1) (.int .i64 x58) ∧ ∃ x59 : Int, rd w57 s50 (.int .i64 x59) ∧ if (decide ((x58 : Int) < x59)) = true then (∃ s60 : ByteArray, rd w57 (⟨w.heap.size, 0, none⟩ : Addr) (.string s60) ∧ Calls Try.prog 38 #[.pointer d49, .string s60] w57 (ret (fun r61 w62 => ∃ x63 : Int, r61 = .int .i64 x63 ∧ X (IntKind.wrap .i64 ((x48 : Int) + 1)) w62) Kp)) else (X (IntKind.wrap .i64 ((x48 : Int) + 1)) w57)) else (Kn  w)

def T_snap_Save_2 (x48 : Int) (d49 : Option Addr) (s50 : Addr) (s51a : Option Addr) (s51l : Nat) (s51c : Nat) (x52 : Int) (w : World) (Kn : World → Prop) (Kp : List PanicEntry → World → Prop) : Prop :=
  ∀ X : Int → World → Prop, (∀ (x48 : Int) (w : World), T_snap_Save_2_body X x48 d49 s50 s51a s51l s51c x52 w Kn Kp → X x48 w) → X x48 w

def T_snap_Save_2_outs : Exit → Option (List (Nat × Value)) := fun x => match x with | .normal => some [] | .panic _ => some [] | _ => none

def T_snap_Save_2_ks : Nat → Bool := ksOf [8, 42, 43, 44, 45, 46, 47, 48, 49, 50, 51, 52, 53, 54, 55, 56]

def H_snap_Save_2 : Env → World → QT → Prop := unitHook 57 T_snap_Save_2_ks [(42, .int .i64 0), (0, .pointer none), (3, .pointer (some ⟨0, 0, none⟩)), (40, .slice none 0 0), (41, .int .i64 0)] T_snap_Save_2_outs fun l w C => match l with | [v0, v1, v2, v3, v4] => T_snap_Save_2 (pInt v0) (pPtr v1) (pAddr v2) (pA v3) (pL v3) (pC v3) (pInt v4) w (fun w => C .normal [] w) (fun ch w => C (.panic ch) [] w) | _ => False

theorem T_snap_Save_2_hl : allP (hokL Try.prog (hookAt []) (at_ (bodyOf Try.f17) [1, 1, 1, 1, 1, 1, 1, 0, 1, 0, 0]) 4084) = (True) := by kernel_rfl
theorem T_snap_Save_2_hok : HOk Try.prog (hookAt []) (at_ (bodyOf Try.f17) [1, 1, 1, 1, 1, 1, 1, 0, 1, 0, 0]) 4084 := HOk_of _ _ (by rw [T_snap_Save_2_hl]; exact trivial)

theorem T_snap_Save_2_eq (C : Conts) (X : List Value → World → Prop) (x48 : Int) (d49 : Option Addr) (s50 : Addr) (s51a : Option Addr) (s51l : Nat) (s51c : Nat) (x52 : Int) (w : World) : vcCode Try.prog (hookAt []) (at_ (bodyOf Try.f17) [1, 1, 1, 1, 1, 1, 1, 0, 1, 0, 0]) 4084 ⟨[(42, .int .i64 x48)] ++ [(0, .pointer d49), (3, .pointer (some s50)), (40, .slice s51a s51l s51c), (41, .int .i64 x52)], 57, []⟩ w (seqQ (fun e w => takeAll e [(42, .int .i64 0)] fun l => X l w) (blockQ 0 (unitQ T_snap_Save_2_outs C))) = T_snap_Save_2_body (fun x48 w => X [.int .i64 x48] w) x48 d49 s50 s51a s51l s51c x52 w (fun w => C .normal [] w) (fun ch w => C (.panic ch) [] w) := by kernel_rfl

theorem T_snap_Save_2_ok : UnitOk Try.prog H_snap_Save_2 (at_ (bodyOf Try.f17) [1, 1, 1, 1, 1, 1, 1, 0, 1]) 1021 := by
  have hc : at_ (bodyOf Try.f17) [1, 1, 1, 1, 1, 1, 1, 0, 1] = .block 0 (.loop (at_ (bodyOf Try.f17) [1, 1, 1, 1, 1, 1, 1, 0, 1, 0, 0])) := by kernel_rfl
  rw [hc]
  refine loop_unit_ok (carr := [(42, .int .i64 0)]) (fix := [(0, .pointer none), (3, .pointer (some ⟨0, 0, none⟩)), (40, .slice none 0 0), (41, .int .i64 0)]) (ks := T_snap_Save_2_ks) (H := (hookAt [])) (B := fun C X l u w => match l, u with | [v0], [v1, v2, v3, v4] => T_snap_Save_2_body (fun x48 w => X [.int .i64 x48] w) (pInt v0) (pPtr v1) (pAddr v2) (pA v3) (pL v3) (pC v3) (pInt v4) w (fun w => C .normal [] w) (fun ch w => C (.panic ch) [] w) | _, _ => False) (by kernel_rfl) (by kernel_rfl) T_snap_Save_2_hok ?_ ?_
  · intro C X l u w hl hu
    obtain ⟨v0, l_v0, rfl, k_v0, hl_v0⟩ := Kinds.cons_ hl
    obtain ⟨x48, rfl⟩ := kind_int k_v0
    obtain rfl := Kinds.nil_ hl_v0
    obtain ⟨v1, l_v1, rfl, k_v1, hu_v1⟩ := Kinds.cons_ hu
    obtain ⟨d49, rfl⟩ := kind_pointer k_v1
    obtain ⟨v2, l_v2, rfl, k_v2, hu_v2⟩ := Kinds.cons_ hu_v1
    obtain ⟨s50, rfl⟩ := kind_addr k_v2
    obtain ⟨v3, l_v3, rfl, k_v3, hu_v3⟩ := Kinds.cons_ hu_v2
    obtain ⟨s51a, s51l, s51c, rfl⟩ := kind_slice k_v3
    obtain ⟨v4, l_v4, rfl, k_v4, hu_v4⟩ := Kinds.cons_ hu_v3
    obtain ⟨x52, rfl⟩ := kind_int k_v4
    obtain rfl := Kinds.nil_ hu_v4
    exact T_snap_Save_2_eq C X x48 d49 s50 s51a s51l s51c x52 w
  · intro l u w C hl hu
    obtain ⟨v0, l_v0, rfl, k_v0, hl_v0⟩ := Kinds.cons_ hl
    obtain ⟨x48, rfl⟩ := kind_int k_v0
    obtain rfl := Kinds.nil_ hl_v0
    obtain ⟨v1, l_v1, rfl, k_v1, hu_v1⟩ := Kinds.cons_ hu
    obtain ⟨d49, rfl⟩ := kind_pointer k_v1
    obtain ⟨v2, l_v2, rfl, k_v2, hu_v2⟩ := Kinds.cons_ hu_v1
    obtain ⟨s50, rfl⟩ := kind_addr k_v2
    obtain ⟨v3, l_v3, rfl, k_v3, hu_v3⟩ := Kinds.cons_ hu_v2
    obtain ⟨s51a, s51l, s51c, rfl⟩ := kind_slice k_v3
    obtain ⟨v4, l_v4, rfl, k_v4, hu_v4⟩ := Kinds.cons_ hu_v3
    obtain ⟨x52, rfl⟩ := kind_int k_v4
    obtain rfl := Kinds.nil_ hu_v4
    constructor
    · intro h X hX
      exact h (fun x48 w => X [.int .i64 x48] w) (fun x48 w hb => hX [.int .i64 x48] w ⟨rfl, trivial⟩ hb)
    · intro h X hX
      exact h (fun l w => match l with | [v0] => X (pInt v0) w | _ => True) (fun l w hl hb => by
        obtain ⟨v0, l_v0, rfl, k_v0, hl_v0⟩ := Kinds.cons_ hl
        obtain ⟨x48, rfl⟩ := kind_int k_v0
        obtain rfl := Kinds.nil_ hl_v0
        exact hX x48 w hb)

def T_snap_Save (d1 : Option Addr) (x2 : Int) (x3 : Int) (s4a : Option Addr) (s4l : Nat) (s4c : Nat) (s5a : Option Addr) (s5l : Nat) (s5c : Nat) (s6a : Option Addr) (s6l : Nat) (s6c : Nat) (w : World) (R : Ending → World → Prop) : Prop :=
  let w7 : World := w.alloc (.cells #[.int .i64 x2, .int .i64 x3, .slice s4a s4l s4c, .slice s5a s5l s5c, .slice s6a s6l s6c] 29)
  if d1.isNone = true then (R (.returned (.int .i64 1)) w7) else (∃ x8 : Int, ∃ x9 : Int, ∃ s10a : Option Addr, ∃ s10l : Nat, ∃ s10c : Nat, ∃ s11a : Option Addr, ∃ s11l : Nat, ∃ s11c : Nat, ∃ s12a : Option Addr, ∃ s12l : Nat, ∃ s12c : Nat, rd w7 (⟨w.heap.size, 0, none⟩ : Addr) (.agg #[.int .i64 x8, .int .i64 x9, .slice s10a s10l s10c, .slice s11a s11l s11c, .slice s12a s12l s12c]) ∧ Calls Try.prog 9 #[.agg #[.int .i64 x8, .int .i64 x9, .slice s10a s10l s10c, .slice s11a s11l s11c, .slice s12a s12l s12c]] w7 (ret (fun r13 w14 => ∃ s15a : Option Addr, ∃ s15l : Nat, ∃ s15c : Nat, ∃ x16 : Int, r13 = .tuple #[.slice s15a s15l s15c, .int .i64 x16] ∧ if ((x16 : Int) != 0) = true then (R (.returned (.int .i64 x16)) w14) else (Calls Try.prog 38 #[.pointer d1, .string (ByteArray.mk #[115, 110, 97, 112, 46, 116, 109, 112])] w14 (ret (fun r17 w18 => ∃ x19 : Int, r17 = .int .i64 x19 ∧ Calls Try.prog 18 #[.pointer d1, .string (ByteArray.mk #[115, 110, 97, 112, 46, 116, 109, 112]), .int .i64 0, .slice s15a s15l s15c] w18 (ret (fun r20 w21 => ∃ x22 : Int, r20 = .int .i64 x22 ∧ T_snap_Save_1 d1 (⟨w.heap.size, 0, none⟩ : Addr) x22 ((x22 : Int) == 0) w21 (fun e40 w41 => if ((e40 : Int) != 0) = true then (Calls Try.prog 38 #[.pointer d1, .string (ByteArray.mk #[115, 110, 97, 112, 46, 116, 109, 112])] w41 (ret (fun r42 w43 => ∃ x44 : Int, r42 = .int .i64 x44 ∧ R (.returned (.int .i64 e40)) w43) (pan R))) else (Calls Try.prog 40 #[.pointer d1] w41 (ret (fun r45 w46 => ∃ s47a : Option Addr, ∃ s47l : Nat, ∃ s47c : Nat, r45 = .slice s47a s47l s47c ∧ T_snap_Save_2 0 d1 (⟨w.heap.size, 0, none⟩ : Addr) s47a s47l s47c ((s47l : Nat) : Int) w46 (fun w64 => R (.returned (.int .i64 0)) w64) (pan R)) (pan R)))) (pan R)) (pan R))) (pan R)))) (pan R)))

theorem T_snap_Save_hl : allP (hokL Try.prog (hookAt [(507, H_snap_Save_1), (1021, H_snap_Save_2)]) (bodyOf Try.f17) 1) = (UnitOk Try.prog H_snap_Save_1 (at_ (bodyOf Try.f17) [1, 1, 1, 1, 1, 0, 1, 1]) 507 ∧ UnitOk Try.prog H_snap_Save_2 (at_ (bodyOf Try.f17) [1, 1, 1, 1, 1, 1, 1, 0, 1]) 1021 ∧ True) := by kernel_rfl

theorem T_snap_Save_eq (d1 : Option Addr) (x2 : Int) (x3 : Int) (s4a : Option Addr) (s4l : Nat) (s4c : Nat) (s5a : Option Addr) (s5l : Nat) (s5c : Nat) (s6a : Option Addr) (s6l : Nat) (s6c : Nat) (w : World) (R : Ending → World → Prop) : vcCode Try.prog (hookAt [(507, H_snap_Save_1), (1021, H_snap_Save_2)]) (bodyOf Try.f17) 1 ⟨argEnv [.pointer d1, .agg #[.int .i64 x2, .int .i64 x3, .slice s4a s4l s4c, .slice s5a s5l s5c, .slice s6a s6l s6c]] 0, Try.f17.ntmps, []⟩ w (finQ Try.prog Try.f17.results.toList R) = T_snap_Save d1 x2 x3 s4a s4l s4c s5a s5l s5c s6a s6l s6c w R := by kernel_rfl

theorem T_snap_Save_b : Try.f17.body = some (bodyOf Try.f17) := by kernel_rfl
theorem T_snap_Save_s : (quietSel (bodyOf Try.f17) && Nat.ble 2 Try.f17.ntmps) = true := by kernel_rfl

theorem C_snap_Save {d1 : Option Addr} {x2 : Int} {x3 : Int} {s4a : Option Addr} {s4l : Nat} {s4c : Nat} {s5a : Option Addr} {s5l : Nat} {s5c : Nat} {s6a : Option Addr} {s6l : Nat} {s6c : Nat} {w : World} {R : Ending → World → Prop} (h : T_snap_Save d1 x2 x3 s4a s4l s4c s5a s5l s5c s6a s6l s6c w R) : Calls Try.prog 17 #[.pointer d1, .agg #[.int .i64 x2, .int .i64 x3, .slice s4a s4l s4c, .slice s5a s5l s5c, .slice s6a s6l s6c]] w R :=
  calls_of_text (args := [.pointer d1, .agg #[.int .i64 x2, .int .i64 x3, .slice s4a s4l s4c, .slice s5a s5l s5c, .slice s6a s6l s6c]]) mixed Try.func17 T_snap_Save_b T_snap_Save_s (HOk_of _ _ (by rw [T_snap_Save_hl]; exact ⟨T_snap_Save_1_ok, T_snap_Save_2_ok, trivial⟩)) (by rw [T_snap_Save_eq]; exact h)

/-! tollgate/snap.Load -/
def T_snap_Load_1_body (X : Int → World → Prop) (x12 : Int) (d13 : Option Addr) (a14 : Addr) (s15a : Option Addr) (s15l : Nat) (s15c : Nat) (x16 : Int) (w : World) (Kn : World → Prop) (Kr : Int → World → Prop) (Kp : List PanicEntry → World → Prop)  : Prop :=
  if (decide ((x12 : Int) < x16)) = true then (0 ≤ (x12 : Int) ∧ (x12 : Int) < ((s15l : Nat) : Int) ∧ ∃ b17, s15a = some b17 ∧ ∃ s18 : ByteArray, ∃ x19 : Int, rd w (b17.add ((x12 : Int).toNat * 2)) (.agg #[.string s18, .int .i64 x19]) ∧ let w20 : World := w.alloc (.cells #[.string (ByteArray.mk #[]), .int .i64 0] 86)
  (.agg #[.string s18, .int .i64 x19] : Value).cells.size = 2 ∧ wrOk w20 (⟨w.heap.size, 0, none⟩ : Addr) (.agg #[.string s18, .int .i64 x19]) ∧ let w21 : World := wr w20 (⟨w.heap.size, 0, none⟩ : Addr) (.agg #[.string s18, .int .i64 x19])
  ∃ s22 : ByteArray, rd w21 (⟨w.heap.size, 0, none⟩ : Addr) (.string s22) ∧ Calls Try.prog 51 #[.pointer d13, .string s22] w21 (ret (fun r23 w24 => ∃ s25a : Option Addr, ∃ s25l : Nat, ∃ s25c : Nat, ∃ x26 : Int, r23 = .tuple #[.slice s25a s25l s25c, .int .i64 x26] ∧ Calls Try.prog 10 #[.slice s25a s25l s25c] w24 (ret (fun r27 w28 => ∃ x29 : Int, ∃ x30 : Int, ∃ s31a : Option Addr, ∃ s31l : Nat, ∃ s31c : Nat, ∃ s32a : Option Addr, ∃ s32l : Nat, ∃ s32c : Nat, ∃ s33a : Option Addr, ∃ s33l : Nat, ∃ s33c : Nat, ∃ x34 : Int, r27 = .tuple #[.agg #[.int .i64 x29, .int .i64 x30, .slice s31a s31l s31c, .slice s32a s32l s32c, .slice s33a s33l s33c], .int .i64 x34] ∧ let w35 : World := w28.alloc (.cells #[.int .i64 0, .int .i64 0, .slice none 0 0, .slice none 0 0, .slice none 0 0] 29)
  (.agg #[.int .i64 x29, .int .i64 x30, .slice s31a s31l s31c, .slice s32a s32l s32c, .slice s33a s33l s33c] : Value).cells.size = 5 ∧ wrOk w35 (⟨w28.heap.size, 0, none⟩ : Addr) (.agg #[.int .i64 x29, .int .i64 x30, .slice s31a s31l s31c, .slice s32a s32l s32c, .slice s33a s33l s33c]) ∧ let w36 : World := wr w35 (⟨w28.heap.size, 0, none⟩ : Addr) (.agg #[.int .i64 x29, .int .i64 x30, .slice s31a s31l s31c, .slice s32a s32l s32c, .slice s33a s33l s33c])
  if ((x34 : Int) == 0) = true then (∃ x37 : Int, rd w36 (⟨w28.heap.size, 0, none⟩ : Addr) (.int .i64 x37) ∧ ∃ x38 : Int, rd w36 ((⟨w.heap.size, 0, none⟩ : Addr).add 1) (.int .i64 x38) ∧ if ((x37 : Int) == x38) = true then (∃ x39 : Int, ∃ x40 : Int, ∃ s41a : Option Addr, ∃ s41l : Nat, ∃ s41c : Nat, ∃ s42a : Option Addr, ∃ s42l : Nat, ∃ s42c : Nat, ∃ s43a : Option Addr, ∃ s43l : Nat, ∃ s43c : Nat, rd w36 (⟨w28.heap.size, 0, none⟩ : Addr) (.agg #[.int .i64 x39, .int .i64 x40, .slice s41a s41l s41c, .slice s42a s42l s42c, .slice s43a s43l s43c]) ∧ (.agg #[.int .i64 x39, .int .i64 x40, .slice s41a s41l s41c, .slice s42a s42l s42c, .slice s43a s43l s43c] : Value).cells.size = 5 ∧ wrOk w36 a14 (.agg #[.int .i64 x39, .int .i64 x40, .slice s41a s41l s41c, .slice s42a s42l s42c, .slice s43a s43l s43c]) ∧ let w44 : World := wr w36 a14 (.agg #[.int .i64 x39, .int .i64 x40, .slice s41a s41l s41c, .slice s42a s42l s42c, .slice s43a s43l s43c])
  Kr 0 w44) else (X (IntKind.wrap .i64 ((x12 : Int) + 1)) w36)) else (X (IntKind.wrap .i64 ((x12 : Int) + 1)) w36)) Kp)) Kp)) else (Kn  w)

def T_snap_Load_1 (x12 : Int) (d13 : Option Addr) (a14 : Addr) (s15a : Option Addr) (s15l : Nat) (s15c : Nat) (x16 : Int) (w : World) (Kn : World → Prop) (Kr : Int → World → Prop) (Kp : List PanicEntry → World → Prop) : Prop :=
  ∀ X : Int → World → Prop, (∀ (x12 : Int) (w : World), T_snap_Load_1_body X x12 d13 a14 s15a s15l s15c x16 w Kn Kr Kp → X x12 w) → X x12 w

def T_snap_Load_1_outs : Exit → Option (List (Nat × Value)) := fun x => match x with | .normal => some [] | .ret => some [(3, .int .i64 0)] | .panic _ => some [] | _ => none

def T_snap_Load_1_ks : Nat → Bool := ksOf [3, 5, 6, 7, 8, 9, 16, 17, 18, 19, 20, 21, 22, 23, 24, 25, 26, 27, 28, 29, 30, 31, 32, 33, 34, 35, 36, 37, 38, 39, 40, 41, 42, 43]

def H_snap_Load_1 : Env → World → QT → Prop := unitHook 45 T_snap_Load_1_ks [(16, .int .i64 0), (0, .pointer none), (2, .pointer (some ⟨0, 0, none⟩)), (14, .slice none 0 0), (15, .int .i64 0)] T_snap_Load_1_outs fun l w C => match l with | [v0, v1, v2, v3, v4] => T_snap_Load_1 (pInt v0) (pPtr v1) (pAddr v2) (pA v3) (pL v3) (pC v3) (pInt v4) w (fun w => C .normal [] w) (fun x46 w => C .ret [.int .i64 x46] w) (fun ch w => C (.panic ch) [] w) | _ => False

theorem T_snap_Load_1_hl : allP (hokL Try.prog (hookAt []) (at_ (bodyOf Try.f23) [1, 1, 0, 1, 0, 0]) 116) = (True) := by kernel_rfl
theorem T_snap_Load_1_hok : HOk Try.prog (hookAt []) (at_ (bodyOf Try.f23) [1, 1, 0, 1, 0, 0]) 116 := HOk_of _ _ (by rw [T_snap_Load_1_hl]; exact trivial)

theorem T_snap_Load_1_eq (C : Conts) (X : List Value → World → Prop) (x12 : Int) (d13 : Option Addr) (a14 : Addr) (s15a : Option Addr) (s15l : Nat) (s15c : Nat) (x16 : Int) (w : World) : vcCode Try.prog (hookAt []) (at_ (bodyOf Try.f23) [1, 1, 0, 1, 0, 0]) 116 ⟨[(16, .int .i64 x12)] ++ [(0, .pointer d13), (2, .pointer (some a14)), (14, .slice s15a s15l s15c), (15, .int .i64 x16)], 45, []⟩ w (seqQ (fun e w => takeAll e [(16, .int .i64 0)] fun l => X l w) (blockQ 0 (unitQ T_snap_Load_1_outs C))) = T_snap_Load_1_body (fun x12 w => X [.int .i64 x12] w) x12 d13 a14 s15a s15l s15c x16 w (fun w => C .normal [] w) (fun x47 w => C .ret [.int .i64 x47] w) (fun ch w => C (.panic ch) [] w) := by kernel_rfl

theorem T_snap_Load_1_ok : UnitOk Try.prog H_snap_Load_1 (at_ (bodyOf Try.f23) [1, 1, 0, 1]) 29 := by
  have hc : at_ (bodyOf Try.f23) [1, 1, 0, 1] = .block 0 (.loop (at_ (bodyOf Try.f23) [1, 1, 0, 1, 0, 0])) := by kernel_rfl
  rw [hc]
  refine loop_unit_ok (carr := [(16, .int .i64 0)]) (fix := [(0, .pointer none), (2, .pointer (some ⟨0, 0, none⟩)), (14, .slice none 0 0), (15, .int .i64 0)]) (ks := T_snap_Load_1_ks) (H := (hookAt [])) (B := fun C X l u w => match l, u with | [v0], [v1, v2, v3, v4] => T_snap_Load_1_body (fun x12 w => X [.int .i64 x12] w) (pInt v0) (pPtr v1) (pAddr v2) (pA v3) (pL v3) (pC v3) (pInt v4) w (fun w => C .normal [] w) (fun x48 w => C .ret [.int .i64 x48] w) (fun ch w => C (.panic ch) [] w) | _, _ => False) (by kernel_rfl) (by kernel_rfl) T_snap_Load_1_hok ?_ ?_
  · intro C X l u w hl hu
    obtain ⟨v0, l_v0, rfl, k_v0, hl_v0⟩ := Kinds.cons_ hl
    obtain ⟨x12, rfl⟩ := kind_int k_v0
    obtain rfl := Kinds.nil_ hl_v0
    obtain ⟨v1, l_v1, rfl, k_v1, hu_v1⟩ := Kinds.cons_ hu
    obtain ⟨d13, rfl⟩ := kind_pointer k_v1
    obtain ⟨v2, l_v2, rfl, k_v2, hu_v2⟩ := Kinds.cons_ hu_v1
    obtain ⟨a14, rfl⟩ := kind_addr k_v2
    obtain ⟨v3, l_v3, rfl, k_v3, hu_v3⟩ := Kinds.cons_ hu_v2
    obtain ⟨s15a, s15l, s15c, rfl⟩ := kind_slice k_v3
    obtain ⟨v4, l_v4, rfl, k_v4, hu_v4⟩ := Kinds.cons_ hu_v3
    obtain ⟨x16, rfl⟩ := kind_int k_v4
    obtain rfl := Kinds.nil_ hu_v4
    exact T_snap_Load_1_eq C X x12 d13 a14 s15a s15l s15c x16 w
  · intro l u w C hl hu
    obtain ⟨v0, l_v0, rfl, k_v0, hl_v0⟩ := Kinds.cons_ hl
    obtain ⟨x12, rfl⟩ := kind_int k_v0
    obtain rfl := Kinds.nil_ hl_v0
    obtain ⟨v1, l_v1, rfl, k_v1, hu_v1⟩ := Kinds.cons_ hu
    obtain ⟨d13, rfl⟩ := kind_pointer k_v1
    obtain ⟨v2, l_v2, rfl, k_v2, hu_v2⟩ := Kinds.cons_ hu_v1
    obtain ⟨a14, rfl⟩ := kind_addr k_v2
    obtain ⟨v3, l_v3, rfl, k_v3, hu_v3⟩ := Kinds.cons_ hu_v2
    obtain ⟨s15a, s15l, s15c, rfl⟩ := kind_slice k_v3
    obtain ⟨v4, l_v4, rfl, k_v4, hu_v4⟩ := Kinds.cons_ hu_v3
    obtain ⟨x16, rfl⟩ := kind_int k_v4
    obtain rfl := Kinds.nil_ hu_v4
    constructor
    · intro h X hX
      exact h (fun x12 w => X [.int .i64 x12] w) (fun x12 w hb => hX [.int .i64 x12] w ⟨rfl, trivial⟩ hb)
    · intro h X hX
      exact h (fun l w => match l with | [v0] => X (pInt v0) w | _ => True) (fun l w hl hb => by
        obtain ⟨v0, l_v0, rfl, k_v0, hl_v0⟩ := Kinds.cons_ hl
        obtain ⟨x12, rfl⟩ := kind_int k_v0
        obtain rfl := Kinds.nil_ hl_v0
        exact hX x12 w hb)

def T_snap_Load (d1 : Option Addr) (w : World) (R : Ending → World → Prop) : Prop :=
  let w2 : World := w.alloc (.cells #[.int .i64 0, .int .i64 0, .slice none 0 0, .slice none 0 0, .slice none 0 0] 29)
  if d1.isNone = true then ((.agg #[.int .i64 0, .int .i64 0, .slice none 0 0, .slice none 0 0, .slice none 0 0] : Value).cells.size = 5 ∧ wrOk w2 (⟨w.heap.size, 0, none⟩ : Addr) (.agg #[.int .i64 0, .int .i64 0, .slice none 0 0, .slice none 0 0, .slice none 0 0]) ∧ let w3 : World := wr w2 (⟨w.heap.size, 0, none⟩ : Addr) (.agg #[.int .i64 0, .int .i64 0, .slice none 0 0, .slice none 0 0, .slice none 0 0])
  ∃ x4 : Int, ∃ x5 : Int, ∃ s6a : Option Addr, ∃ s6l : Nat, ∃ s6c : Nat, ∃ s7a : Option Addr, ∃ s7l : Nat, ∃ s7c : Nat, ∃ s8a : Option Addr, ∃ s8l : Nat, ∃ s8c : Nat, rd w3 (⟨w.heap.size, 0, none⟩ : Addr) (.agg #[.int .i64 x4, .int .i64 x5, .slice s6a s6l s6c, .slice s7a s7l s7c, .slice s8a s8l s8c]) ∧ R (.returned (.tuple #[.agg #[.int .i64 x4, .int .i64 x5, .slice s6a s6l s6c, .slice s7a s7l s7c, .slice s8a s8l s8c], .int .i64 1])) w3) else (Calls Try.prog 40 #[.pointer d1] w2 (ret (fun r9 w10 => ∃ s11a : Option Addr, ∃ s11l : Nat, ∃ s11c : Nat, r9 = .slice s11a s11l s11c ∧ T_snap_Load_1 0 d1 (⟨w.heap.size, 0, none⟩ : Addr) s11a s11l s11c ((s11l : Nat) : Int) w10 (fun w49 => (.agg #[.int .i64 0, .int .i64 0, .slice none 0 0, .slice none 0 0, .slice none 0 0] : Value).cells.size = 5 ∧ wrOk w49 (⟨w.heap.size, 0, none⟩ : Addr) (.agg #[.int .i64 0, .int .i64 0, .slice none 0 0, .slice none 0 0, .slice none 0 0]) ∧ let w50 : World := wr w49 (⟨w.heap.size, 0, none⟩ : Addr) (.agg #[.int .i64 0, .int .i64 0, .slice none 0 0, .slice none 0 0, .slice none 0 0])
  ∃ x51 : Int, ∃ x52 : Int, ∃ s53a : Option Addr, ∃ s53l : Nat, ∃ s53c : Nat, ∃ s54a : Option Addr, ∃ s54l : Nat, ∃ s54c : Nat, ∃ s55a : Option Addr, ∃ s55l : Nat, ∃ s55c : Nat, rd w50 (⟨w.heap.size, 0, none⟩ : Addr) (.agg #[.int .i64 x51, .int .i64 x52, .slice s53a s53l s53c, .slice s54a s54l s54c, .slice s55a s55l s55c]) ∧ R (.returned (.tuple #[.agg #[.int .i64 x51, .int .i64 x52, .slice s53a s53l s53c, .slice s54a s54l s54c, .slice s55a s55l s55c], .int .i64 8])) w50) (fun x56 w57 => ∃ x58 : Int, ∃ x59 : Int, ∃ s60a : Option Addr, ∃ s60l : Nat, ∃ s60c : Nat, ∃ s61a : Option Addr, ∃ s61l : Nat, ∃ s61c : Nat, ∃ s62a : Option Addr, ∃ s62l : Nat, ∃ s62c : Nat, rd w57 (⟨w.heap.size, 0, none⟩ : Addr) (.agg #[.int .i64 x58, .int .i64 x59, .slice s60a s60l s60c, .slice s61a s61l s61c, .slice s62a s62l s62c]) ∧ R (.returned (.tuple #[.agg #[.int .i64 x58, .int .i64 x59, .slice s60a s60l s60c, .slice s61a s61l s61c, .slice s62a s62l s62c], .int .i64 x56])) w57) (pan R)) (pan R)))

theorem T_snap_Load_hl : allP (hokL Try.prog (hookAt [(29, H_snap_Load_1)]) (bodyOf Try.f23) 1) = (UnitOk Try.prog H_snap_Load_1 (at_ (bodyOf Try.f23) [1, 1, 0, 1]) 29 ∧ True) := by kernel_rfl

theorem T_snap_Load_eq (d1 : Option Addr) (w : World) (R : Ending → World → Prop) : vcCode Try.prog (hookAt [(29, H_snap_Load_1)]) (bodyOf Try.f23) 1 ⟨argEnv [.pointer d1] 0, Try.f23.ntmps, []⟩ w (finQ Try.prog Try.f23.results.toList R) = T_snap_Load d1 w R := by kernel_rfl

theorem T_snap_Load_b : Try.f23.body = some (bodyOf Try.f23) := by kernel_rfl
theorem T_snap_Load_s : (quietSel (bodyOf Try.f23) && Nat.ble 1 Try.f23.ntmps) = true := by kernel_rfl

theorem C_snap_Load {d1 : Option Addr} {w : World} {R : Ending → World → Prop} (h : T_snap_Load d1 w R) : Calls Try.prog 23 #[.pointer d1] w R :=
  calls_of_text (args := [.pointer d1]) mixed Try.func23 T_snap_Load_b T_snap_Load_s (HOk_of _ _ (by rw [T_snap_Load_hl]; exact ⟨T_snap_Load_1_ok, trivial⟩)) (by rw [T_snap_Load_eq]; exact h)

/-! tollgate/snap.Pieces -/
def T_snap_Pieces_1_body (X : Option Addr → Nat → Nat → Int → World → Prop) (out14a : Option Addr) (out14l : Nat) (out14c : Nat) (at15 : Int) (b16a : Option Addr) (b16l : Nat) (b16c : Nat) (size17 : Int) (w : World) (Kn : Option Addr → Nat → Nat → World → Prop) (Kp : List PanicEntry → World → Prop)  : Prop :=
  if (decide ((at15 : Int) < ((b16l : Nat) : Int))) = true then (let w18 : World := w.drew
  0 ≤ (IntKind.wrap .i64 ((at15 : Int) + (if (IntKind.wrap .i64 (((b16l : Nat) : Int) - at15)) < size17 then (IntKind.wrap .i64 (((b16l : Nat) : Int) - at15)) else size17)) : Int) ∧ (IntKind.wrap .i64 ((at15 : Int) + (if (IntKind.wrap .i64 (((b16l : Nat) : Int) - at15)) < size17 then (IntKind.wrap .i64 (((b16l : Nat) : Int) - at15)) else size17)) : Int) ≤ ((b16c : Nat) : Int) ∧ 0 ≤ (at15 : Int) ∧ (at15 : Int) ≤ (((IntKind.wrap .i64 ((at15 : Int) + (if (IntKind.wrap .i64 (((b16l : Nat) : Int) - at15)) < size17 then (IntKind.wrap .i64 (((b16l : Nat) : Int) - at15)) else size17)) : Int).toNat : Nat) : Int) ∧ Calls Try.prog 29 #[.slice none 0 0, .int .i64 ((b16l : Nat) : Int)] w18 (ret (fun r19 w20 => ∃ s21a : Option Addr, ∃ s21l : Nat, ∃ s21c : Nat, r19 = .slice s21a s21l s21c ∧ (True) ∧ Calls Try.prog 29 #[.slice s21a s21l s21c, .int .i64 at15] w20 (ret (fun r22 w23 => ∃ s24a : Option Addr, ∃ s24l : Nat, ∃ s24c : Nat, r22 = .slice s24a s24l s24c ∧ (True) ∧ runV Try.prog (Builtin.append_ #[27, 27] 27 #[.slice s24a s24l s24c, .slice (if b16c = ((at15 : Int).toNat) then b16a else b16a.map (fun x => x.add (((at15 : Int).toNat) * 1))) (((IntKind.wrap .i64 ((at15 : Int) + (if (IntKind.wrap .i64 (((b16l : Nat) : Int) - at15)) < size17 then (IntKind.wrap .i64 (((b16l : Nat) : Int) - at15)) else size17)) : Int).toNat) - ((at15 : Int).toNat)) (b16c - ((at15 : Int).toNat))]) w23 (fun r25 w26 => ∃ s27a : Option Addr, ∃ s27l : Nat, ∃ s27c : Nat, r25 = .slice s27a s27l s27c ∧ (True) ∧ let w28 : World := w26.alloc (.cells #[.slice s27a s27l s27c] 27)
  (True) ∧ runV Try.prog (Builtin.append_ #[40, 40] 40 #[.slice out14a out14l out14c, .slice (some (⟨w26.heap.size, 0, none⟩ : Addr)) 1 1]) w28 (fun r29 w30 => ∃ s31a : Option Addr, ∃ s31l : Nat, ∃ s31c : Nat, r29 = .slice s31a s31l s31c ∧ (True) ∧ X s31a s31l s31c (IntKind.wrap .i64 ((at15 : Int) + (if (IntKind.wrap .i64 (((b16l : Nat) : Int) - at15)) < size17 then (IntKind.wrap .i64 (((b16l : Nat) : Int) - at15)) else size17))) w30) Kp) Kp) Kp)) Kp)) else (Kn out14a out14l out14c w)

def T_snap_Pieces_1 (out14a : Option Addr) (out14l : Nat) (out14c : Nat) (at15 : Int) (b16a : Option Addr) (b16l : Nat) (b16c : Nat) (size17 : Int) (w : World) (Kn : Option Addr → Nat → Nat → World → Prop) (Kp : List PanicEntry → World → Prop) : Prop :=
  ∀ X : Option Addr → Nat → Nat → Int → World → Prop, (∀ (out14a : Option Addr) (out14l : Nat) (out14c : Nat) (at15 : Int) (w : World), T_snap_Pieces_1_body X out14a out14l out14c at15 b16a b16l b16c size17 w Kn Kp → X out14a out14l out14c at15 w) → X out14a out14l out14c at15 w

def T_snap_Pieces_1_outs : Exit → Option (List (Nat × Value)) := fun x => match x with | .normal => some [(6, .slice none 0 0)] | .panic _ => some [] | _ => none

def T_snap_Pieces_1_ks : Nat → Bool := ksOf [6, 7, 31, 32, 33, 34, 35, 36, 37, 38, 39, 40, 41, 42, 43, 44, 45, 46, 47, 48, 49, 50, 51, 52, 53, 54, 55, 56, 57, 58, 59, 60, 61, 62]

def H_snap_Pieces_1 : Env → World → QT → Prop := unitHook 64 T_snap_Pieces_1_ks [(6, .slice none 0 0), (7, .int .i64 0), (0, .slice none 0 0), (1, .int .i64 0)] T_snap_Pieces_1_outs fun l w C => match l with | [v0, v1, v2, v3] => T_snap_Pieces_1 (pA v0) (pL v0) (pC v0) (pInt v1) (pA v2) (pL v2) (pC v2) (pInt v3) w (fun out33a out33l out33c w => C .normal [.slice out33a out33l out33c] w) (fun ch w => C (.panic ch) [] w) | _ => False

theorem T_snap_Pieces_1_hl : allP (hokL Try.prog (hookAt []) (at_ (bodyOf Try.f13) [1, 1, 1, 0, 1, 0, 0]) 244) = (True) := by kernel_rfl
theorem T_snap_Pieces_1_hok : HOk Try.prog (hookAt []) (at_ (bodyOf Try.f13) [1, 1, 1, 0, 1, 0, 0]) 244 := HOk_of _ _ (by rw [T_snap_Pieces_1_hl]; exact trivial)

theorem T_snap_Pieces_1_eq (C : Conts) (X : List Value → World → Prop) (out14a : Option Addr) (out14l : Nat) (out14c : Nat) (at15 : Int) (b16a : Option Addr) (b16l : Nat) (b16c : Nat) (size17 : Int) (w : World) : vcCode Try.prog (hookAt []) (at_ (bodyOf Try.f13) [1, 1, 1, 0, 1, 0, 0]) 244 ⟨[(6, .slice out14a out14l out14c), (7, .int .i64 at15)] ++ [(0, .slice b16a b16l b16c), (1, .int .i64 size17)], 64, []⟩ w (seqQ (fun e w => takeAll e [(6, .slice none 0 0), (7, .int .i64 0)] fun l => X l w) (blockQ 1 (unitQ T_snap_Pieces_1_outs C))) = T_snap_Pieces_1_body (fun out14a out14l out14c at15 w => X [.slice out14a out14l out14c, .int .i64 at15] w) out14a out14l out14c at15 b16a b16l b16c size17 w (fun out34a out34l out34c w => C .normal [.slice out34a out34l out34c] w) (fun ch w => C (.panic ch) [] w) := by kernel_rfl

theorem T_snap_Pieces_1_ok : UnitOk Try.prog H_snap_Pieces_1 (at_ (bodyOf Try.f13) [1, 1, 1, 0, 1]) 61 := by
  have hc : at_ (bodyOf Try.f13) [1, 1, 1, 0, 1] = .block 1 (.loop (at_ (bodyOf Try.f13) [1, 1, 1, 0, 1, 0, 0])) := by kernel_rfl
  rw [hc]
  refine loop_unit_ok (carr := [(6, .slice none 0 0), (7, .int .i64 0)]) (fix := [(0, .slice none 0 0), (1, .int .i64 0)]) (ks := T_snap_Pieces_1_ks) (H := (hookAt [])) (B := fun C X l u w => match l, u with | [v0, v1], [v2, v3] => T_snap_Pieces_1_body (fun out14a out14l out14c at15 w => X [.slice out14a out14l out14c, .int .i64 at15] w) (pA v0) (pL v0) (pC v0) (pInt v1) (pA v2) (pL v2) (pC v2) (pInt v3) w (fun out35a out35l out35c w => C .normal [.slice out35a out35l out35c] w) (fun ch w => C (.panic ch) [] w) | _, _ => False) (by kernel_rfl) (by kernel_rfl) T_snap_Pieces_1_hok ?_ ?_
  · intro C X l u w hl hu
    obtain ⟨v0, l_v0, rfl, k_v0, hl_v0⟩ := Kinds.cons_ hl
    obtain ⟨out14a, out14l, out14c, rfl⟩ := kind_slice k_v0
    obtain ⟨v1, l_v1, rfl, k_v1, hl_v1⟩ := Kinds.cons_ hl_v0
    obtain ⟨at15, rfl⟩ := kind_int k_v1
    obtain rfl := Kinds.nil_ hl_v1
    obtain ⟨v2, l_v2, rfl, k_v2, hu_v2⟩ := Kinds.cons_ hu
    obtain ⟨b16a, b16l, b16c, rfl⟩ := kind_slice k_v2
    obtain ⟨v3, l_v3, rfl, k_v3, hu_v3⟩ := Kinds.cons_ hu_v2
    obtain ⟨size17, rfl⟩ := kind_int k_v3
    obtain rfl := Kinds.nil_ hu_v3
    exact T_snap_Pieces_1_eq C X out14a out14l out14c at15 b16a b16l b16c size17 w
  · intro l u w C hl hu
    obtain ⟨v0, l_v0, rfl, k_v0, hl_v0⟩ := Kinds.cons_ hl
    obtain ⟨out14a, out14l, out14c, rfl⟩ := kind_slice k_v0
    obtain ⟨v1, l_v1, rfl, k_v1, hl_v1⟩ := Kinds.cons_ hl_v0
    obtain ⟨at15, rfl⟩ := kind_int k_v1
    obtain rfl := Kinds.nil_ hl_v1
    obtain ⟨v2, l_v2, rfl, k_v2, hu_v2⟩ := Kinds.cons_ hu
    obtain ⟨b16a, b16l, b16c, rfl⟩ := kind_slice k_v2
    obtain ⟨v3, l_v3, rfl, k_v3, hu_v3⟩ := Kinds.cons_ hu_v2
    obtain ⟨size17, rfl⟩ := kind_int k_v3
    obtain rfl := Kinds.nil_ hu_v3
    constructor
    · intro h X hX
      exact h (fun out14a out14l out14c at15 w => X [.slice out14a out14l out14c, .int .i64 at15] w) (fun out14a out14l out14c at15 w hb => hX [.slice out14a out14l out14c, .int .i64 at15] w ⟨rfl, rfl, trivial⟩ hb)
    · intro h X hX
      exact h (fun l w => match l with | [v0, v1] => X (pA v0) (pL v0) (pC v0) (pInt v1) w | _ => True) (fun l w hl hb => by
        obtain ⟨v0, l_v0, rfl, k_v0, hl_v0⟩ := Kinds.cons_ hl
        obtain ⟨out14a, out14l, out14c, rfl⟩ := kind_slice k_v0
        obtain ⟨v1, l_v1, rfl, k_v1, hl_v1⟩ := Kinds.cons_ hl_v0
        obtain ⟨at15, rfl⟩ := kind_int k_v1
        obtain rfl := Kinds.nil_ hl_v1
        exact hX out14a out14l out14c at15 w hb)

def T_snap_Pieces (b1a : Option Addr) (b1l : Nat) (b1c : Nat) (size2 : Int) (w : World) (R : Ending → World → Prop) : Prop :=
  if (decide ((size2 : Int) < 1)) = true then (R (.returned (.tuple #[.slice none 0 0, .int .i64 2])) w) else (if (decide (((b1l : Nat) : Int) > 32768)) = true then (R (.returned (.tuple #[.slice none 0 0, .int .i64 6])) w) else (let w3 : World := w.drew
  0 ≤ (if ((b1l : Nat) : Int) < size2 then ((b1l : Nat) : Int) else size2 : Int) ∧ (if ((b1l : Nat) : Int) < size2 then ((b1l : Nat) : Int) else size2 : Int) ≤ ((b1c : Nat) : Int) ∧ Calls Try.prog 29 #[.slice none 0 0, .int .i64 ((b1l : Nat) : Int)] w3 (ret (fun r4 w5 => ∃ s6a : Option Addr, ∃ s6l : Nat, ∃ s6c : Nat, r4 = .slice s6a s6l s6c ∧ (True) ∧ Calls Try.prog 29 #[.slice s6a s6l s6c, .int .i64 0] w5 (ret (fun r7 w8 => ∃ s9a : Option Addr, ∃ s9l : Nat, ∃ s9c : Nat, r7 = .slice s9a s9l s9c ∧ (True) ∧ runV Try.prog (Builtin.append_ #[27, 27] 27 #[.slice s9a s9l s9c, .slice (if b1c = 0 then b1a else b1a.map (fun x => x.add (0 * 1))) (((if ((b1l : Nat) : Int) < size2 then ((b1l : Nat) : Int) else size2 : Int).toNat) - 0) (b1c - 0)]) w8 (fun r10 w11 => ∃ s12a : Option Addr, ∃ s12l : Nat, ∃ s12c : Nat, r10 = .slice s12a s12l s12c ∧ (True) ∧ let w13 : World := w11.alloc (.cells #[.slice s12a s12l s12c] 27)
  (True) ∧ T_snap_Pieces_1 (some (⟨w11.heap.size, 0, none⟩ : Addr)) 1 1 (if ((b1l : Nat) : Int) < size2 then ((b1l : Nat) : Int) else size2) b1a b1l b1c size2 w13 (fun out36a out36l out36c w37 => R (.returned (.tuple #[.slice out36a out36l out36c, .int .i64 0])) w37) (pan R)) (pan R)) (pan R))) (pan R))))

theorem T_snap_Pieces_hl : allP (hokL Try.prog (hookAt [(61, H_snap_Pieces_1)]) (bodyOf Try.f13) 1) = (UnitOk Try.prog H_snap_Pieces_1 (at_ (bodyOf Try.f13) [1, 1, 1, 0, 1]) 61 ∧ True) := by kernel_rfl

theorem T_snap_Pieces_eq (b1a : Option Addr) (b1l : Nat) (b1c : Nat) (size2 : Int) (w : World) (R : Ending → World → Prop) : vcCode Try.prog (hookAt [(61, H_snap_Pieces_1)]) (bodyOf Try.f13) 1 ⟨argEnv [.slice b1a b1l b1c, .int .i64 size2] 0, Try.f13.ntmps, []⟩ w (finQ Try.prog Try.f13.results.toList R) = T_snap_Pieces b1a b1l b1c size2 w R := by kernel_rfl

theorem T_snap_Pieces_b : Try.f13.body = some (bodyOf Try.f13) := by kernel_rfl
theorem T_snap_Pieces_s : (quietSel (bodyOf Try.f13) && Nat.ble 2 Try.f13.ntmps) = true := by kernel_rfl

theorem C_snap_Pieces {b1a : Option Addr} {b1l : Nat} {b1c : Nat} {size2 : Int} {w : World} {R : Ending → World → Prop} (h : T_snap_Pieces b1a b1l b1c size2 w R) : Calls Try.prog 13 #[.slice b1a b1l b1c, .int .i64 size2] w R :=
  calls_of_text (args := [.slice b1a b1l b1c, .int .i64 size2]) mixed Try.func13 T_snap_Pieces_b T_snap_Pieces_s (HOk_of _ _ (by rw [T_snap_Pieces_hl]; exact ⟨T_snap_Pieces_1_ok, trivial⟩)) (by rw [T_snap_Pieces_eq]; exact h)

/-! tollgate/snap.NewGather -/
/-! (*tollgate/snap.Gather).Add -/
/-! (*tollgate/snap.Gather).Len -/
/-! tollgate/tollgateref05.SameTexts -/
def T_ref05_SameTexts_1_body (X : Int → World → Prop) (i3 : Int) (a4a : Option Addr) (a4l : Nat) (a4c : Nat) (b5a : Option Addr) (b5l : Nat) (b5c : Nat) (w : World) (Kn : World → Prop) (Kr : Bool → World → Prop) (Kp : List PanicEntry → World → Prop)  : Prop :=
  if (decide ((i3 : Int) < ((a4l : Nat) : Int))) = true then (let w6 : World := w.drew
  0 ≤ (i3 : Int) ∧ (i3 : Int) < ((a4l : Nat) : Int) ∧ ∃ b7, a4a = some b7 ∧ ∃ s8 : ByteArray, rd w6 (b7.add ((i3 : Int).toNat * 1)) (.string s8) ∧ 0 ≤ (i3 : Int) ∧ (i3 : Int) < ((b5l : Nat) : Int) ∧ ∃ b9, b5a = some b9 ∧ ∃ s10 : ByteArray, rd w6 (b9.add ((i3 : Int).toNat * 1)) (.string s10) ∧ if (!(s8.toList == s10.toList)) = true then (Kr false w6) else (X (IntKind.wrap .i64 ((i3 : Int) + 1)) w6)) else (Kn  w)

def T_ref05_SameTexts_1 (i3 : Int) (a4a : Option Addr) (a4l : Nat) (a4c : Nat) (b5a : Option Addr) (b5l : Nat) (b5c : Nat) (w : World) (Kn : World → Prop) (Kr : Bool → World → Prop) (Kp : List PanicEntry → World → Prop) : Prop :=
  ∀ X : Int → World → Prop, (∀ (i3 : Int) (w : World), T_ref05_SameTexts_1_body X i3 a4a a4l a4c b5a b5l b5c w Kn Kr Kp → X i3 w) → X i3 w

def T_ref05_SameTexts_1_outs : Exit → Option (List (Nat × Value)) := fun x => match x with | .normal => some [] | .ret => some [(4, .bool false)] | .panic _ => some [] | _ => none

def T_ref05_SameTexts_1_ks : Nat → Bool := ksOf [4, 5, 11, 12, 13, 14, 15, 16, 17, 18, 19, 20, 21, 22, 23, 24, 25]

def H_ref05_SameTexts_1 : Env → World → QT → Prop := unitHook 26 T_ref05_SameTexts_1_ks [(5, .int .i64 0), (0, .slice none 0 0), (1, .slice none 0 0)] T_ref05_SameTexts_1_outs fun l w C => match l with | [v0, v1, v2] => T_ref05_SameTexts_1 (pInt v0) (pA v1) (pL v1) (pC v1) (pA v2) (pL v2) (pC v2) w (fun w => C .normal [] w) (fun b12 w => C .ret [.bool b12] w) (fun ch w => C (.panic ch) [] w) | _ => False

theorem T_ref05_SameTexts_1_hl : allP (hokL Try.prog (hookAt []) (at_ (bodyOf Try.f36) [1, 1, 0, 1, 0, 0]) 116) = (True) := by kernel_rfl
theorem T_ref05_SameTexts_1_hok : HOk Try.prog (hookAt []) (at_ (bodyOf Try.f36) [1, 1, 0, 1, 0, 0]) 116 := HOk_of _ _ (by rw [T_ref05_SameTexts_1_hl]; exact trivial)

theorem T_ref05_SameTexts_1_eq (C : Conts) (X : List Value → World → Prop) (i3 : Int) (a4a : Option Addr) (a4l : Nat) (a4c : Nat) (b5a : Option Addr) (b5l : Nat) (b5c : Nat) (w : World) : vcCode Try.prog (hookAt []) (at_ (bodyOf Try.f36) [1, 1, 0, 1, 0, 0]) 116 ⟨[(5, .int .i64 i3)] ++ [(0, .slice a4a a4l a4c), (1, .slice b5a b5l b5c)], 26, []⟩ w (seqQ (fun e w => takeAll e [(5, .int .i64 0)] fun l => X l w) (blockQ 0 (unitQ T_ref05_SameTexts_1_outs C))) = T_ref05_SameTexts_1_body (fun i3 w => X [.int .i64 i3] w) i3 a4a a4l a4c b5a b5l b5c w (fun w => C .normal [] w) (fun b13 w => C .ret [.bool b13] w) (fun ch w => C (.panic ch) [] w) := by kernel_rfl

theorem T_ref05_SameTexts_1_ok : UnitOk Try.prog H_ref05_SameTexts_1 (at_ (bodyOf Try.f36) [1, 1, 0, 1]) 29 := by
  have hc : at_ (bodyOf Try.f36) [1, 1, 0, 1] = .block 0 (.loop (at_ (bodyOf Try.f36) [1, 1, 0, 1, 0, 0])) := by kernel_rfl
  rw [hc]
  refine loop_unit_ok (carr := [(5, .int .i64 0)]) (fix := [(0, .slice none 0 0), (1, .slice none 0 0)]) (ks := T_ref05_SameTexts_1_ks) (H := (hookAt [])) (B := fun C X l u w => match l, u with | [v0], [v1, v2] => T_ref05_SameTexts_1_body (fun i3 w => X [.int .i64 i3] w) (pInt v0) (pA v1) (pL v1) (pC v1) (pA v2) (pL v2) (pC v2) w (fun w => C .normal [] w) (fun b14 w => C .ret [.bool b14] w) (fun ch w => C (.panic ch) [] w) | _, _ => False) (by kernel_rfl) (by kernel_rfl) T_ref05_SameTexts_1_hok ?_ ?_
  · intro C X l u w hl hu
    obtain ⟨v0, l_v0, rfl, k_v0, hl_v0⟩ := Kinds.cons_ hl
    obtain ⟨i3, rfl⟩ := kind_int k_v0
    obtain rfl := Kinds.nil_ hl_v0
    obtain ⟨v1, l_v1, rfl, k_v1, hu_v1⟩ := Kinds.cons_ hu
    obtain ⟨a4a, a4l, a4c, rfl⟩ := kind_slice k_v1
    obtain ⟨v2, l_v2, rfl, k_v2, hu_v2⟩ := Kinds.cons_ hu_v1
    obtain ⟨b5a, b5l, b5c, rfl⟩ := kind_slice k_v2
    obtain rfl := Kinds.nil_ hu_v2
    exact T_ref05_SameTexts_1_eq C X i3 a4a a4l a4c b5a b5l b5c w
  · intro l u w C hl hu
    obtain ⟨v0, l_v0, rfl, k_v0, hl_v0⟩ := Kinds.cons_ hl
    obtain ⟨i3, rfl⟩ := kind_int k_v0
    obtain rfl := Kinds.nil_ hl_v0
    obtain ⟨v1, l_v1, rfl, k_v1, hu_v1⟩ := Kinds.cons_ hu
    obtain ⟨a4a, a4l, a4c, rfl⟩ := kind_slice k_v1
    obtain ⟨v2, l_v2, rfl, k_v2, hu_v2⟩ := Kinds.cons_ hu_v1
    obtain ⟨b5a, b5l, b5c, rfl⟩ := kind_slice k_v2
    obtain rfl := Kinds.nil_ hu_v2
    constructor
    · intro h X hX
      exact h (fun i3 w => X [.int .i64 i3] w) (fun i3 w hb => hX [.int .i64 i3] w ⟨rfl, trivial⟩ hb)
    · intro h X hX
      exact h (fun l w => match l with | [v0] => X (pInt v0) w | _ => True) (fun l w hl hb => by
        obtain ⟨v0, l_v0, rfl, k_v0, hl_v0⟩ := Kinds.cons_ hl
        obtain ⟨i3, rfl⟩ := kind_int k_v0
        obtain rfl := Kinds.nil_ hl_v0
        exact hX i3 w hb)

def T_ref05_SameTexts (a1a : Option Addr) (a1l : Nat) (a1c : Nat) (b2a : Option Addr) (b2l : Nat) (b2c : Nat) (w : World) (R : Ending → World → Prop) : Prop :=
  if (((a1l : Nat) : Int) != ((b2l : Nat) : Int)) = true then (R (.returned (.bool false)) w) else (T_ref05_SameTexts_1 0 a1a a1l a1c b2a b2l b2c w (fun w15 => R (.returned (.bool true)) w15) (fun b16 w17 => R (.returned (.bool b16)) w17) (pan R))

theorem T_ref05_SameTexts_hl : allP (hokL Try.prog (hookAt [(29, H_ref05_SameTexts_1)]) (bodyOf Try.f36) 1) = (UnitOk Try.prog H_ref05_SameTexts_1 (at_ (bodyOf Try.f36) [1, 1, 0, 1]) 29 ∧ True) := by kernel_rfl

theorem T_ref05_SameTexts_eq (a1a : Option Addr) (a1l : Nat) (a1c : Nat) (b2a : Option Addr) (b2l : Nat) (b2c : Nat) (w : World) (R : Ending → World → Prop) : vcCode Try.prog (hookAt [(29, H_ref05_SameTexts_1)]) (bodyOf Try.f36) 1 ⟨argEnv [.slice a1a a1l a1c, .slice b2a b2l b2c] 0, Try.f36.ntmps, []⟩ w (finQ Try.prog Try.f36.results.toList R) = T_ref05_SameTexts a1a a1l a1c b2a b2l b2c w R := by kernel_rfl

theorem T_ref05_SameTexts_b : Try.f36.body = some (bodyOf Try.f36) := by kernel_rfl
theorem T_ref05_SameTexts_s : (quietSel (bodyOf Try.f36) && Nat.ble 2 Try.f36.ntmps) = true := by kernel_rfl

theorem C_ref05_SameTexts {a1a : Option Addr} {a1l : Nat} {a1c : Nat} {b2a : Option Addr} {b2l : Nat} {b2c : Nat} {w : World} {R : Ending → World → Prop} (h : T_ref05_SameTexts a1a a1l a1c b2a b2l b2c w R) : Calls Try.prog 36 #[.slice a1a a1l a1c, .slice b2a b2l b2c] w R :=
  calls_of_text (args := [.slice a1a a1l a1c, .slice b2a b2l b2c]) mixed Try.func36 T_ref05_SameTexts_b T_ref05_SameTexts_s (HOk_of _ _ (by rw [T_ref05_SameTexts_hl]; exact ⟨T_ref05_SameTexts_1_ok, trivial⟩)) (by rw [T_ref05_SameTexts_eq]; exact h)

/-! tollgate/tollgatelaw07.live -/
def T_law07_live  (w : World) (R : Ending → World → Prop) : Prop :=
  Calls Try.prog 16 #[.int .i64 1000] w (ret (fun r1 w2 => ∃ p3 : Option Addr, r1 = .pointer p3 ∧ Calls Try.prog 24 #[.int .i64 3] w2 (ret (fun r4 w5 => ∃ x6 : Int, ∃ x7 : Int, ∃ s8a : Option Addr, ∃ s8l : Nat, ∃ s8c : Nat, ∃ s9a : Option Addr, ∃ s9l : Nat, ∃ s9c : Nat, ∃ s10a : Option Addr, ∃ s10l : Nat, ∃ s10c : Nat, r4 = .agg #[.int .i64 x6, .int .i64 x7, .slice s8a s8l s8c, .slice s9a s9l s9c, .slice s10a s10l s10c] ∧ Calls Try.prog 17 #[.pointer p3, .agg #[.int .i64 x6, .int .i64 x7, .slice s8a s8l s8c, .slice s9a s9l s9c, .slice s10a s10l s10c]] w5 (ret (fun r11 w12 => ∃ x13 : Int, r11 = .int .i64 x13 ∧ Calls Try.prog 24 #[.int .i64 12] w12 (ret (fun r14 w15 => ∃ x16 : Int, ∃ x17 : Int, ∃ s18a : Option Addr, ∃ s18l : Nat, ∃ s18c : Nat, ∃ s19a : Option Addr, ∃ s19l : Nat, ∃ s19c : Nat, ∃ s20a : Option Addr, ∃ s20l : Nat, ∃ s20c : Nat, r14 = .agg #[.int .i64 x16, .int .i64 x17, .slice s18a s18l s18c, .slice s19a s19l s19c, .slice s20a s20l s20c] ∧ Calls Try.prog 17 #[.pointer p3, .agg #[.int .i64 x16, .int .i64 x17, .slice s18a s18l s18c, .slice s19a s19l s19c, .slice s20a s20l s20c]] w15 (ret (fun r21 w22 => ∃ x23 : Int, r21 = .int .i64 x23 ∧ Calls Try.prog 23 #[.pointer p3] w22 (ret (fun r24 w25 => ∃ x26 : Int, ∃ x27 : Int, ∃ s28a : Option Addr, ∃ s28l : Nat, ∃ s28c : Nat, ∃ s29a : Option Addr, ∃ s29l : Nat, ∃ s29c : Nat, ∃ s30a : Option Addr, ∃ s30l : Nat, ∃ s30c : Nat, ∃ x31 : Int, r24 = .tuple #[.agg #[.int .i64 x26, .int .i64 x27, .slice s28a s28l s28c, .slice s29a s29l s29c, .slice s30a s30l s30c], .int .i64 x31] ∧ let w32 : World := w25.alloc (.cells #[.int .i64 0, .int .i64 0, .slice none 0 0, .slice none 0 0, .slice none 0 0] 29)
  (.agg #[.int .i64 x26, .int .i64 x27, .slice s28a s28l s28c, .slice s29a s29l s29c, .slice s30a s30l s30c] : Value).cells.size = 5 ∧ wrOk w32 (⟨w25.heap.size, 0, none⟩ : Addr) (.agg #[.int .i64 x26, .int .i64 x27, .slice s28a s28l s28c, .slice s29a s29l s29c, .slice s30a s30l s30c]) ∧ let w33 : World := wr w32 (⟨w25.heap.size, 0, none⟩ : Addr) (.agg #[.int .i64 x26, .int .i64 x27, .slice s28a s28l s28c, .slice s29a s29l s29c, .slice s30a s30l s30c])
  let w34 : World := w33.alloc (.cells #[.int .u8 97, .int .u8 98, .int .u8 99] 5)
  runV Try.prog (convert 27 27 (.slice (some (⟨w33.heap.size, 0, none⟩ : Addr)) 3 3)) w34 (fun r35 w36 => ∃ s37a : Option Addr, ∃ s37l : Nat, ∃ s37c : Nat, r35 = .slice s37a s37l s37c ∧ Calls Try.prog 13 #[.slice s37a s37l s37c, .int .i64 2] w36 (ret (fun r38 w39 => ∃ s40a : Option Addr, ∃ s40l : Nat, ∃ s40c : Nat, ∃ x41 : Int, r38 = .tuple #[.slice s40a s40l s40c, .int .i64 x41] ∧ if ((x13 : Int) == 0) = true then (if ((x23 : Int) == 0) = true then (if ((x31 : Int) == 0) = true then (∃ x42 : Int, rd w39 (⟨w25.heap.size, 0, none⟩ : Addr) (.int .i64 x42) ∧ if ((x42 : Int) == 12) = true then (Calls Try.prog 20 #[.pointer p3] w39 (ret (fun r43 w44 => ∃ s45a : Option Addr, ∃ s45l : Nat, ∃ s45c : Nat, r43 = .slice s45a s45l s45c ∧ let w46 : World := w44.alloc (.cells #[.string (ByteArray.mk #[115, 110, 97, 112, 45, 49, 50])] 9)
  Calls Try.prog 36 #[.slice s45a s45l s45c, .slice (some (⟨w44.heap.size, 0, none⟩ : Addr)) 1 1] w46 (ret (fun r47 w48 => ∃ b49 : Bool, r47 = .bool b49 ∧ if b49 = true then (if ((x41 : Int) == 0) = true then (if (((s40l : Nat) : Int) == 2) = true then (0 ≤ (1 : Int) ∧ (1 : Int) < ((s40l : Nat) : Int) ∧ ∃ b50, s40a = some b50 ∧ ∃ s51a : Option Addr, ∃ s51l : Nat, ∃ s51c : Nat, rd w48 (b50.add ((1 : Int).toNat * 1)) (.slice s51a s51l s51c) ∧ runV Try.prog (convert 27 9 (.slice s51a s51l s51c)) w48 (fun r52 w53 => ∃ s54 : ByteArray, r52 = .string s54 ∧ R (.returned (.bool (s54.toList == (ByteArray.mk #[3, 2, 99]).toList))) w53) (pan R)) else (R (.returned (.bool false)) w48)) else (R (.returned (.bool false)) w48)) else (R (.returned (.bool false)) w48)) (pan R))) (pan R))) else (R (.returned (.bool false)) w39)) else (R (.returned (.bool false)) w39)) else (R (.returned (.bool false)) w39)) else (R (.returned (.bool false)) w39)) (pan R))) (pan R)) (pan R))) (pan R))) (pan R))) (pan R))) (pan R))) (pan R))

theorem T_law07_live_hl : allP (hokL Try.prog (hookAt []) (bodyOf Try.f12) 1) = (True) := by kernel_rfl

theorem T_law07_live_eq  (w : World) (R : Ending → World → Prop) : vcCode Try.prog (hookAt []) (bodyOf Try.f12) 1 ⟨argEnv [] 0, Try.f12.ntmps, []⟩ w (finQ Try.prog Try.f12.results.toList R) = T_law07_live  w R := by kernel_rfl

theorem T_law07_live_b : Try.f12.body = some (bodyOf Try.f12) := by kernel_rfl
theorem T_law07_live_s : (quietSel (bodyOf Try.f12) && Nat.ble 0 Try.f12.ntmps) = true := by kernel_rfl

theorem C_law07_live  {w : World} {R : Ending → World → Prop} (h : T_law07_live  w R) : Calls Try.prog 12 #[] w R :=
  calls_of_text (args := []) mixed Try.func12 T_law07_live_b T_law07_live_s (HOk_of _ _ (by rw [T_law07_live_hl]; exact trivial)) (by rw [T_law07_live_eq]; exact h)

end Go.Proofs.Ytclinifclfahfaa

/-
  The name of a snapshot's file; the bytes of a text.
-/
namespace Go.Vc
open Go Go.Proofs Go.Proofs.Ytclinifclfahfaa
set_option maxRecDepth 100000
section
variable {E w : World} {L : List Asrt} {R : Ending → World → Prop}
theorem rune_str {c : Nat} (hc : c < 128) (w : World) : (convert 21 9 (.int .i32 (c : Int))).run Try.prog w = .ok (.string (bs [UInt8.ofNat c])) w := by
  have h1 : Try.prog.underlying 21 = some (.int .i32) := by kernel_rfl
  have h2 : Try.prog.underlying 9 = some .string := by kernel_rfl
  have hv : Utf8.valid (c : Int) = true := by
    unfold Utf8.valid
    simp; omega
  have he : Utf8.encode (c : Int) = bs [UInt8.ofNat c] := by
    unfold Utf8.encode
    rw [if_pos hv, Int.toNat_natCast]
    simp only
    rw [if_pos (by omega)]
    rfl
  simp [convert, run_underlying_ h1, run_underlying_ h2, Conv.intToString, he]
theorem add_str (x y : Operand) (a b : Cm.Bs) (h : a.length + b.length ≤ 1000000000) (w : World) : (do eqGuard .add 9 x y (.string (bs a)) (.string (bs b)); binOp .add 9 (.string (bs a)) (.string (bs b)) : Sem Value).run Try.prog w = .ok (.string (bs (a ++ b))) w := by
  have e : (bs a ++ bs b : ByteArray) = bs (a ++ b) := by
    apply ByteArray.ext
    simp [bs]
  have hs : ¬ ((((bs a).size + (bs b).size : Nat) : Int) > IntKind.i64.max) := by
    have h1 : (bs a).size = a.length := rfl
    have h2 : (bs b).size = b.length := rfl
    rw [h1, h2]
    have : IntKind.i64.max = 9223372036854775807 := by decide
    omega
  have hb : (binOp .add 9 (.string (bs a)) (.string (bs b))).run Try.prog w = .ok (.string (bs (a ++ b))) w := by
    show (Op.stringOp .add (bs a) (bs b)).run Try.prog w = _
    unfold Op.stringOp
    simp only
    rw [if_neg hs, e]
    rfl
  exact hb
theorem name1_spec : ∀ (f n : Nat) (s : Cm.Bs) (X : Int → ByteArray → World → Prop) (w : World) (Kn : ByteArray → World → Prop) (Kp : List PanicEntry → World → Prop),
    (∀ (n2 : Int) (s3 : ByteArray) (w : World), T_snap_name_1_body X n2 s3 w Kn Kp → X n2 s3 w) → n < 10 ^ f → n ≤ 1099511627776 → f + s.length ≤ 1000 → Kn (bs (Sn.digs f n ++ s)) w → X (n : Int) (bs s) w
  | 0, n, s, X, w, Kn, Kp, hX, hn, hb, hl, k => by
    have : n = 0 := by simpa using hn
    subst this
    refine hX _ _ _ ?_
    unfold T_snap_name_1_body
    exact ite_d (fun hh => absurd hh (by decide)) fun _ => k
  | f + 1, n, s, X, w, Kn, Kp, hX, hn, hb, hl, k => by
    refine hX _ _ _ ?_
    unfold T_snap_name_1_body
    unfold Sn.digs at k
    refine ite_d (fun hh => ?_) fun hh => ?_
    · have h0 : n ≠ 0 := by omega
      rw [if_neg h0, List.append_assoc] at k
      have hn63 : n < 10 ^ (f + 1) := hn
      have e1 : IntKind.wrap .i32 (IntKind.wrap .i64 ((48 : Int) + (Int.tmod (n : Int) 10))) = ((48 + n % 10 : Nat) : Int) := by
        have e : Int.tmod (n : Int) 10 = ((n % 10 : Nat) : Int) := by
          rw [Int.tmod_eq_emod_of_nonneg (by omega)]; omega
        rw [e]
        have h9 : n % 10 < 10 := Nat.mod_lt _ (by decide)
        generalize n % 10 = r at *
        rw [show (48 : Int) + (r : Int) = ((48 + r : Nat) : Int) by omega]
        rw [wrap_id (by omega) (by omega)]
        unfold IntKind.wrap
        have : (IntKind.i32).bits = 32 := rfl
        simp [IntKind.bits, IntKind.signed]
        omega
      rw [e1]
      refine runV_ok (rune_str (by omega) w) ⟨_, rfl, runV_ok (add_str _ _ [UInt8.ofNat (48 + n % 10)] s (by simp; omega) w) ⟨_, rfl, ?_⟩⟩
      have e2 : IntKind.wrap .i64 (Int.tdiv (n : Int) 10) = ((n / 10 : Nat) : Int) := by
        have e : Int.tdiv (n : Int) 10 = ((n / 10 : Nat) : Int) := by
          rw [Int.tdiv_eq_ediv_of_nonneg (by omega)]; omega
        rw [e]
        exact wrap_id (by omega) (by omega)
      rw [e2]
      exact name1_spec f (n / 10) _ X w Kn Kp hX (by rw [Nat.pow_succ] at hn; omega) (by omega) (by simp; omega) k
    · have h0 : n = 0 := by omega
      rw [if_pos h0] at k
      exact k
theorem Name_spec {n : Nat} (hn : n ≤ 1099511627776) (k : R (.returned (.string (bs (Sn.nameOf n)))) w) : Calls Try.prog 39 #[.int .i64 (n : Int)] w R := by
  refine C_snap_name ?_
  unfold T_snap_name T_snap_name_1
  intro X hX
  refine name1_spec 14 n [] X w _ _ hX (by omega) hn (by decide) ?_
  rw [List.append_nil]
  have hl := (Sn.dec_ok hn).2.1
  exact runV_ok (add_str _ _ Sn.pre (Sn.dec n) (by simp [Sn.pre]; omega) w) ⟨_, rfl, k⟩
theorem bytes_of_str (h : St E L w) (n : Cm.Bs) : ∃ a c w', (convert 9 27 (.string (bs n))).run Try.prog w = .ok (.slice (some a) n.length c) w' ∧ St E (roS (some a) n.length 1 (bytesV n) :: L) w' := by
  refine ⟨_, _, _, run_bytes_of_string w 9 27 5 (bs n) (by kernel_rfl) (by kernel_rfl) (by kernel_rfl), ?_⟩
  generalize hg : grownCap w (bs n).size 0 5 = cp
  have h2 := h.drew.alloc (.cells (bytesRow (bs n) cp) 5 ((bytesRow (bs n) cp).size, (bytesRow (bs n) cp).size + 1))
  refine h2.mono fun x hx => ⟨by simp [bytesV], .inr ⟨_, 0, (bytesRow (bs n) cp).toList, _, _, true, rfl, hx, fun i u hu => ?_⟩⟩
  have e : (bytesRow (bs n) cp).toList = bytesV n ++ List.replicate (cp - (bs n).size) (.int .u8 0) := by
    simp [bytesRow, bs, bytesV]
  rw [e, Nat.zero_add, List.getElem?_append_left]
  · exact hu
  · exact (List.getElem?_eq_some_iff.1 hu).1
end
end Go.Vc

/-
  Pieces of bytes.
-/
namespace Go.Vc
open Go Go.Proofs Go.Proofs.Ytclinifclfahfaa
set_option maxRecDepth 100000
section
variable {E w : World} {L : List Asrt} {R : Ending → World → Prop} {F G : Fz} {q s o : Sl} {b : Cm.Bs} {qs : List Sl} {rs : List Cm.Bs}
def celR (q : Sl) : List Value := [.slice q.1 q.2.1 q.2.2]
def rowA (o : Sl) (qs : List Sl) : Asrt := ownS o.1 o.2.1 o.2.2 27 1 (qs.flatMap celR)
theorem celR_len (q : Sl) : (celR q).length = 1 := rfl
theorem celR_one (l : List Sl) : ∀ u ∈ l.flatMap celR, one u = true := by
  intro u hu
  obtain ⟨c, _, hc⟩ := List.mem_flatMap.1 hu
  simp [celR] at hc
  subst hc; rfl
theorem St.row_count (h : St E (rowA o qs :: L) w) : qs.length = o.2.1 := h.rdS_own.count celR_len (by decide)
theorem St.row_one (h : St E L w) (q : Sl) : St E (rowA (some ⟨w.heap.size, 0, none⟩, 1, 1) [q] :: L) (w.alloc (.cells ⟨celR q⟩ 27)) :=
  (St.ownS_mk (xs := celR q) (rest := []) (l := 1) (c := 1) (sz := 1) (by rw [List.append_nil]; exact h.alloc _) rfl (Nat.le_refl _) (by decide) rfl :)
theorem app_row (h : St E (rowA o qs :: L) w) (q : Sl) (hb : qs.length + 1 ≤ 1000000) :
    ∃ (o' : Sl) (w' : World), (Builtin.append_ #[40, 40] 40 #[.slice o.1 o.2.1 o.2.2, .slice (some ⟨w.heap.size, 0, none⟩) 1 1]).run Try.prog (w.alloc (.cells ⟨celR q⟩ 27)) = .ok (.slice o'.1 o'.2.1 o'.2.2) w' ∧ St E (rowA o' (qs ++ [q]) :: L) w' := by
  have h2 : St E (rowA (some ⟨w.heap.size, 0, none⟩, 1, 1) [q] :: rowA o qs :: L) (w.alloc (.cells ⟨celR q⟩ 27)) := h.row_one q
  have hro : RdS (w.alloc (.cells ⟨celR q⟩ 27)) (some ⟨w.heap.size, 0, none⟩) 1 1 ([q].flatMap celR) := St.rdS_own h2
  have hl : qs.length = o.2.1 := h.row_count
  obtain ⟨a', c', w', hr, hs⟩ := append_own (P := Try.prog) (t := 40) (ty := 40) (e := 27) (i := Try.t27) (z := .slice none 0 0) (by kernel_rfl) (by kernel_rfl) (by kernel_rfl) (by kernel_rfl) (by decide) (c2 := 1) h2.f1 hro (celR_one [q])
    (by have : Try.t27.bytes = 24 := by kernel_rfl
        rw [this]; omega) (by unfold maxLen; omega)
  rw [show Try.t27.size = 1 from by kernel_rfl, ← List.flatMap_append] at hs
  exact ⟨(a', o.2.1 + 1, c'), w', hr, hs.f1.drop⟩
inductive Rows (G : Fz) : List Sl → List Cm.Bs → Prop
  | nil : Rows G [] []
  | snoc {qs : List Sl} {rs : List Cm.Bs} {q : Sl} {b : Cm.Bs} : Rows G qs rs → Src G q b → Rows G (qs ++ [q]) (rs ++ [b])
theorem Rows.mono (h : Rows F qs rs) (k : Fz.le F G) : Rows G qs rs := by
  induction h with
  | nil => exact .nil
  | snoc _ h2 ih => exact .snoc ih (h2.mono k)
theorem Rows.len (h : Rows F qs rs) : qs.length = rs.length := by
  induction h with
  | nil => rfl
  | snoc _ _ ih => simp [ih]
theorem Rows.get (h : Rows F qs rs) {i : Nat} {q : Sl} {b : Cm.Bs} (h1 : qs[i]? = some q) (h2 : rs[i]? = some b) : Src F q b := by
  induction h with
  | nil => simp at h1
  | snoc hr hs ih =>
    have hl := hr.len
    rename_i qs' rs' q' b'
    rcases Nat.lt_trichotomy i qs'.length with hi | hi | hi
    · rw [List.getElem?_append_left hi] at h1
      rw [List.getElem?_append_left (by omega)] at h2
      exact ih h1 h2
    · subst hi
      rw [List.getElem?_append_right (by omega)] at h1
      rw [List.getElem?_append_right (by omega), hl] at h2
      simp at h1 h2
      subst h1 h2
      exact hs
    · rw [List.getElem?_eq_none (by simp; omega)] at h1
      cases h1
theorem pGo_end (b : Cm.Bs) (size : Nat) : ∀ (f x : Nat), b.length ≤ x → Sn.piecesGo b size f x = []
  | 0, _, _ => rfl
  | f + 1, x, h => by unfold Sn.piecesGo; rw [if_pos h]
theorem pGo_step {size f x : Nat} (hx : x < b.length) (hf : b.length - x ≤ f) : Sn.piecesGo b size f x = Sn.piece b x size :: Sn.piecesGo b size (f - 1) (min (x + size) b.length) := by
  cases f with
  | zero => omega
  | succ f =>
    conv => lhs; unfold Sn.piecesGo
    rw [if_neg (by omega), Nat.add_sub_cancel]
    congr 1
    rcases Nat.le_total (x + size) b.length with h | h
    · rw [Nat.min_eq_left h]
    · rw [Nat.min_eq_right h, pGo_end b size f _ h, pGo_end b size f _ (Nat.le_refl _)]
theorem piece_min (x size n : Nat) (h : n = min size (b.length - x)) : Sn.piece b x size = (Cm.num b.length ++ Cm.num x) ++ (b.drop x).take n := by
  unfold Sn.piece
  rw [List.append_assoc, h]
  congr 2
  have e2 : (b.drop x).take (b.length - x) = b.drop x := List.take_of_length_le (by simp)
  rw [← List.take_take, e2]
/-- One piece. -/
theorem piece_one {x n : Nat} {KK : Option Addr → Nat → Nat → World → Prop} {Kp : List PanicEntry → World → Prop} (hs : Src F q b) (hb : b.length ≤ 32768) (hx : x + n ≤ b.length) (h : St E (kn F :: L) w)
    (k : ∀ (G : Fz) (w' : World) (p : Sl), Fz.le F G → Src G p ((Cm.num b.length ++ Cm.num x) ++ (b.drop x).take n) → St E (kn G :: L) w' → KK p.1 p.2.1 p.2.2 w') :
    Calls Try.prog 29 #[.slice none 0 0, .int .i64 ((q.2.1 : Nat) : Int)] w (ret (fun r19 w20 => ∃ s21a : Option Addr, ∃ s21l : Nat, ∃ s21c : Nat, r19 = .slice s21a s21l s21c ∧ (True) ∧ Calls Try.prog 29 #[.slice s21a s21l s21c, .int .i64 (x : Int)] w20 (ret (fun r22 w23 => ∃ s24a : Option Addr, ∃ s24l : Nat, ∃ s24c : Nat, r22 = .slice s24a s24l s24c ∧ (True) ∧ runV Try.prog (Builtin.append_ #[27, 27] 27 #[.slice s24a s24l s24c, .slice (midS q x n).1 (midS q x n).2.1 (midS q x n).2.2]) w23 (fun r25 w26 => ∃ s27a : Option Addr, ∃ s27l : Nat, ∃ s27c : Nat, r25 = .slice s27a s27l s27c ∧ (True) ∧ KK s27a s27l s27c w26) Kp) Kp)) Kp) := by
  have hl := hs.len
  rw [← hl]
  have n6 := fun x => Sn.numLen x
  have hbig : big = 140737488355328 := rfl
  refine Snum_spec (p := (none, 0, 0)) (xs := []) (by decide) h.by_nil fun w1 p1 h1 => ⟨_, _, _, rfl, trivial, ?_⟩
  rw [List.nil_append] at h1
  refine Snum_spec (p := p1) (xs := Cm.num b.length) (by have := n6 b.length; omega) h1 fun w2 p2 h2 => ⟨_, _, _, rfl, trivial, ?_⟩
  have hm := hs.mid hx
  have hml : ((b.drop x).take n).length ≤ 32768 := by rw [List.length_take, List.length_drop]; omega
  have hxl := n6 b.length
  have hyl := n6 x
  obtain ⟨p3, w3, hr, h3⟩ := app_b (c2 := (midS q x n).2.2) h2 (hm.rd.at h2 (by simp)) (by rw [List.length_append]; omega)
  refine runV_ok hr ⟨_, _, _, rfl, trivial, ?_⟩
  obtain ⟨G, hG, h4, hs4⟩ := St.srcB2 h3 (by rw [List.length_append, List.length_append]; omega)
  exact k G w3 p3 hG hs4 h4
def piecesR (b : Cm.Bs) (size : Int) : List Cm.Bs := if Sn.piecesE b size = 0 then Sn.pieces b size.toNat else []
set_option maxHeartbeats 1000000 in
theorem Pieces_spec {size : Int} (hs : Src F q b) (h64 : size ≤ 9223372036854775807) (h : St E (kn F :: L) w)
    (k : ∀ (G : Fz) (w' : World) (o : Sl) (qs : List Sl), Fz.le F G → Rows G qs (piecesR b size) → St E (rowA o qs :: kn G :: L) w' → R (.returned (.tuple #[.slice o.1 o.2.1 o.2.2, .int .i64 (Sn.piecesE b size)])) w') :
    Calls Try.prog 13 #[.slice q.1 q.2.1 q.2.2, .int .i64 size] w R := by
  have hl := hs.len
  have hc := hs.cap
  refine C_snap_Pieces ?_
  unfold T_snap_Pieces
  refine ite_d (fun hh => ?_) fun hh => ?_
  · have e : Sn.piecesE b size = 2 := by unfold Sn.piecesE; rw [if_pos hh]
    have := k F w nilS [] (Fz.le_refl F) (by unfold piecesR; rw [e, if_neg (by decide)]; exact .nil) h.ownS_nil
    rw [e] at this
    exact this
  refine ite_d (fun h2 => ?_) fun h2 => ?_
  · have e : Sn.piecesE b size = 6 := by unfold Sn.piecesE; rw [if_neg hh, if_pos (by omega)]
    have := k F w nilS [] (Fz.le_refl F) (by unfold piecesR; rw [e, if_neg (by decide)]; exact .nil) h.ownS_nil
    rw [e] at this
    exact this
  have e : Sn.piecesE b size = 0 := by unfold Sn.piecesE; rw [if_neg hh, if_neg (by omega)]
  have eR : piecesR b size = Sn.piece b 0 size.toNat :: Sn.piecesGo b size.toNat b.length size.toNat := by unfold piecesR; rw [e, if_pos rfl]; rfl
  rw [eR, e] at k
  obtain ⟨sz, rfl⟩ : ∃ sz : Nat, size = (sz : Int) := ⟨size.toNat, by omega⟩
  rw [Int.toNat_natCast] at k
  have hsz : 1 ≤ sz := by omega
  have emin : (if ((q.2.1 : Nat) : Int) < (sz : Int) then ((q.2.1 : Nat) : Int) else (sz : Int)) = ((min sz b.length : Nat) : Int) := by split <;> omega
  intro w3
  have h3 : St E (kn F :: L) w3 := h.drew
  clear_value w3
  rw [emin]
  refine ⟨by omega, by omega, ?_⟩
  rw [Int.toNat_natCast]
  have e0 : (if q.2.2 = 0 then q.1 else q.1.map (fun x => x.add (0 * 1))) = (midS q 0 (min sz b.length)).1 := rfl
  have e1 : min sz b.length - 0 = (midS q 0 (min sz b.length)).2.1 := by unfold midS; simp only; omega
  rw [e1]
  refine piece_one (x := 0) (n := min sz b.length) hs (by omega) (by omega) h3 fun G1 w11 p hG1 hp h11 => ?_
  intro w13
  have h13 : St E (rowA (some ⟨w11.heap.size, 0, none⟩, 1, 1) [p] :: kn G1 :: L) w13 := h11.row_one p
  clear_value w13
  generalize w11.heap.size = bo at *
  refine ⟨trivial, ?_⟩
  rw [← piece_min 0 sz (min sz b.length) (by omega)] at hp
  unfold T_snap_Pieces_1
  intro X hX
  have hgo : ∀ (f x : Nat) (w : World) (G : Fz) (o : Sl) (qs : List Sl) (rs : List Cm.Bs), x ≤ b.length → b.length - x ≤ f → 1 ≤ qs.length → qs.length ≤ 1 + x → Fz.le F G → Rows G qs rs → rs ++ Sn.piecesGo b sz f x = Sn.piece b 0 sz :: Sn.piecesGo b sz b.length sz →
      St E (rowA o qs :: kn G :: L) w → X o.1 o.2.1 o.2.2 (x : Int) w := by
    intro f
    induction f with
    | zero =>
      intro x w G o qs rs hx hf h1 hq hG hr he h
      refine hX _ _ _ _ _ ?_
      unfold T_snap_Pieces_1_body
      refine ite_d (fun hh => absurd hh (by omega)) fun _ => ?_
      rw [show Sn.piecesGo b sz 0 x = [] from rfl, List.append_nil] at he
      exact k G w o qs hG (he ▸ hr) h
    | succ f ih =>
      intro x w G o qs rs hx hf h1 hq hG hr he h
      refine hX _ _ _ _ _ ?_
      unfold T_snap_Pieces_1_body
      refine ite_d (fun hh => ?_) fun hh => ?_
      · have hxb : x < b.length := by omega
        have em : (IntKind.wrap .i64 ((x : Int) + (if (IntKind.wrap .i64 (((q.2.1 : Nat) : Int) - (x : Int))) < (sz : Int) then (IntKind.wrap .i64 (((q.2.1 : Nat) : Int) - (x : Int))) else (sz : Int)))) = ((x + min sz (b.length - x) : Nat) : Int) := by
          rw [wrap_id (x := ((q.2.1 : Nat) : Int) - (x : Int)) (by omega) (by omega)]
          split
          · rw [wrap_id (by omega) (by omega)]; omega
          · rw [wrap_id (by omega) (by omega)]; omega
        rw [em]
        intro w18
        have h18 : St E (kn G :: rowA o qs :: L) w18 := h.drew.f1
        clear_value w18
        refine ⟨by omega, by omega, by omega, by rw [Int.toNat_natCast]; omega, ?_⟩
        simp -zeta only [Int.toNat_natCast]
        refine piece_one (x := x) (n := min sz (b.length - x)) (hs.mono hG) (by omega) (by omega) h18 fun G2 w26 p hG2 hp h26 => ?_
        rw [← piece_min x sz _ rfl] at hp
        intro w28
        obtain ⟨o', w30, hr30, h30⟩ := app_row h26.f1 p (by omega)
        refine ⟨trivial, runV_ok hr30 ⟨_, _, _, rfl, trivial, ?_⟩⟩
        have e2 := pGo_step (size := sz) (f := f + 1) hxb hf
        rw [e2, Nat.add_sub_cancel] at he
        have e3 : x + min sz (b.length - x) = min (x + sz) b.length := by omega
        rw [e3]
        refine ih (min (x + sz) b.length) w30 G2 o' (qs ++ [p]) (rs ++ [Sn.piece b x sz]) (by omega) (by omega) (by simp) (by simp; omega) (Fz.le_trans hG hG2) (.snoc (hr.mono hG2) hp) ?_ h30
        rw [List.append_assoc]
        exact he
      · have hxe : b.length ≤ x := by omega
        rw [pGo_end b sz _ _ hxe, List.append_nil] at he
        exact k G w o qs hG (he ▸ hr) h
  refine hgo b.length (min sz b.length) w13 G1 (some ⟨bo, 0, none⟩, 1, 1) [p] [Sn.piece b 0 sz] (by omega) (by omega) (Nat.le_refl _) (by simp) hG1 (.snoc .nil hp) ?_ h13
  rw [List.singleton_append]
  congr 1
  rcases Nat.le_total sz b.length with h | h
  · rw [Nat.min_eq_left h]
  · rw [Nat.min_eq_right h, pGo_end b sz _ _ h, pGo_end b sz _ _ (Nat.le_refl _)]
end
end Go.Vc

/-
  A small snapshot of an index; texts that are the same.
-/
namespace Go.Vc
open Go Go.Proofs Go.Proofs.Ytclinifclfahfaa
set_option maxRecDepth 100000
section
variable {E w : World} {L : List Asrt} {R : Ending → World → Prop} {F G : Fz} {q p s o : Sl} {b : Cm.Bs}
/-- '[]byte("..")': the block is marked, and stays as it is. -/
theorem conv_lit {b l c : Nat} {ys : Cm.Bs} (h : St E (blkL b 5 (bytesV ys) :: kn F :: L) w) (hl : ys.length = l) (hc : l ≤ c) (hb : l ≤ 1000) :
    ∃ G w', (convert 27 27 (.slice (some ⟨b, 0, none⟩) l c)).run Try.prog w = .ok (.slice (some ⟨b, 0, none⟩) l c) w' ∧ Fz.le F G ∧ Src G (some ⟨b, 0, none⟩, l, c) ys ∧ St E (kn G :: L) w' := by
  have hb0 := h.at_blk
  have hlt : b < w.heap.size := (Array.getElem?_eq_some_iff.1 hb0).1
  have ht : Try.prog.underlying 27 = some (.slice 5) := by kernel_rfl
  have he : Try.prog.underlying 5 = some (.int .u8) := by kernel_rfl
  have h2 : St E (blk b (.cells ⟨bytesV ys⟩ 5 ((bytesV ys).length, (bytesV ys).length + 1)) :: kn F :: L) (w.freeze ⟨b, (bytesV ys).length, none⟩ 1) := by
    refine h.upd ⟨rfl, rfl, rfl⟩ ?_ fun c hc _ => ?_
    · simp [World.freeze, Array.getElem?_modify, hb0]
    · unfold World.freeze
      rw [if_neg (by omega)]
      show (w.heap.modify b _)[c]? = _
      rw [Array.getElem?_modify, if_neg (Ne.symm hc)]
  obtain ⟨hle, h3⟩ := h2.learn
  refine ⟨_, w.freeze ⟨b, (bytesV ys).length, none⟩ 1, ?_, hle, ⟨fun w' hw => ⟨by simp [bytesV, hl], .inr ⟨b, 0, rfl, fun i u hu => ?_⟩⟩, hl, hc, by omega⟩, h3⟩
  · simp [convert, run_underlying_ ht, run_underlying_ he, markStringish, shape, Sem.run, World.shape?, hb0]
  · have hb := hw b (.cells ⟨bytesV ys⟩ 5 ((bytesV ys).length, (bytesV ys).length + 1)) (by simp [Fz.put])
    rw [Nat.zero_add, cell_of hb]
    exact hu
def ofS (i : Int) : Sn.Snp := ⟨i, 1, ⟨[1], []⟩, [120]⟩
theorem Of_spec {i : Int} (h : St E (kn F :: L) w) (k : ∀ (G : Fz) (w' : World) (v l d : Sl), Fz.le F G → snpR G v l d (ofS i) → St E (kn G :: L) w' → R (.returned (snpV i 1 v l d)) w') : Calls Try.prog 24 #[.int .i64 i] w R := by
  refine C_law07_of ?_
  unfold T_law07_of
  intro w2 w3 w4
  have h3 : St E (inA (some ⟨w2.heap.size, 0, none⟩, 1, 1) [1] :: blkL w.heap.size 29 z5 :: kn F :: L) w3 := (h.alloc (.cells ⟨z5⟩ 29)).in_one 1
  have h4 : St E (blkL w3.heap.size 5 (bytesV [120]) :: kn F :: inA (some ⟨w2.heap.size, 0, none⟩, 1, 1) [1] :: blkL w.heap.size 29 z5 :: L) w4 := (h3.alloc (.cells ⟨bytesV [120]⟩ 5)).sel 4 [0, 3, 1, 2] (by simp)
  clear_value w4
  generalize w3.heap.size = b3 at *
  generalize w2.heap.size = b2 at *
  generalize w.heap.size = b1 at *
  obtain ⟨G, w6, hr, hG, hs, h6⟩ := conv_lit (l := 1) (c := 1) h4 rfl (Nat.le_refl 1) (by decide)
  refine runV_ok hr ⟨_, _, _, rfl, rfl, ?_⟩
  have h7 : St E (inA (some ⟨b2, 0, none⟩, 1, 1) [1] :: kn G :: blkL b1 29 z5 :: L) w6 := h6.f1
  obtain ⟨G2, hG2, h8, hv⟩ := St.freezeS h7
  have h9 : St E (blkL b1 29 z5 :: kn G2 :: L) w6 := h8.f1
  refine ⟨ok_snp h9 rfl i 1 (some ⟨b2, 0, none⟩, 1, 1) nilS (some ⟨b3, 0, none⟩, 1, 1), ?_⟩
  intro w8
  have h10 : St E (blkL b1 29 (snpL i 1 (some ⟨b2, 0, none⟩, 1, 1) nilS (some ⟨b3, 0, none⟩, 1, 1)) :: kn G2 :: L) w8 := h9.wr_snp rfl _ _ _ _ _
  clear_value w8
  exact ⟨_, _, _, _, _, _, _, _, _, _, _, rd_snp h10, k G2 w8 _ _ _ (Fz.le_trans hG hG2) ⟨⟨hv, RdF.nil G2 none⟩, hs.mono hG2⟩ h10.drop⟩
theorem one_at {a : Option Addr} {l j : Nat} {α : Type} {f : α → Value} {qs : List α} (hf : ∀ q, one (f q) = true) (h : RdS w a l 1 (qs.flatMap fun q => [f q])) (hj : j < qs.length) : ∃ ad, a = some ad ∧ rd w (ad.add (j * 1)) (f qs[j]) := by
  obtain ⟨ad, ha, _, hk⟩ := h.elem (f := fun q => [f q]) (fun _ => rfl) (List.getElem?_eq_getElem hj) (by decide)
  refine ⟨ad, ha, ?_⟩
  have := hk 0 _ rfl (hf _)
  have e : (ad.add (j * 1)).add 0 = ad.add (j * 1) := rfl
  rwa [e] at this
theorem SameTexts_spec {xs ys : List Cm.Bs} {a c : Sl} (ha : a.2.1 = xs.length) (hc : c.2.1 = ys.length) (hm : xs.length ≤ 1000000) (sa : Sees E L a.1 a.2.1 1 (xs.flatMap celS)) (sc : Sees E L c.1 c.2.1 1 (ys.flatMap celS)) (h : St E L w)
    (k : ∀ w', St E L w' → R (.returned (.bool (decide (xs = ys)))) w') : Calls Try.prog 36 #[.slice a.1 a.2.1 a.2.2, .slice c.1 c.2.1 c.2.2] w R := by
  refine C_ref05_SameTexts ?_
  unfold T_ref05_SameTexts
  rw [ha, hc]
  refine ite_b (fun hh => ?_) fun hh => ?_
  · have hne : xs.length ≠ ys.length := by
      have : ¬ ((xs.length : Int) = (ys.length : Int)) := by simpa using hh
      omega
    have := k w h
    rw [decide_eq_false (fun e => hne (congrArg List.length e))] at this
    exact this
  have heq : xs.length = ys.length := by
    have : ((xs.length : Int) = (ys.length : Int)) := by simpa using hh
    omega
  unfold T_ref05_SameTexts_1
  intro X hX
  refine up_to xs.length (Q := fun j => ∀ (w : World), xs.take j = ys.take j → St E L w → X (j : Int) w) ?_ w rfl h
  intro j hj ih w he h
  refine hX _ _ ?_
  unfold T_ref05_SameTexts_1_body
  refine ite_d (fun hl => ?_) fun hl => ?_
  · have hjl : j < xs.length := by omega
    intro w6
    have h6 : St E L w6 := h.drew
    clear_value w6
    have hjl2 : j < ys.length := by omega
    obtain ⟨a1, hae, hard⟩ := one_at (f := encN) (fun _ => rfl) (sa w6 h6) hjl
    obtain ⟨c1, hce, hcrd⟩ := one_at (f := encN) (fun _ => rfl) (sc w6 h6) hjl2
    refine ⟨by omega, by omega, a1, hae, _, hard, by omega, by omega, c1, hce, _, hcrd, ?_⟩
    show ite ((!((bs xs[j]).toList == (bs ys[j]).toList)) = true) _ _
    rw [bs_beq]
    refine ite_b (fun hb => ?_) fun hb => ?_
    · have hne : xs[j] ≠ ys[j] := by simpa using hb
      have := k w6 h6
      rw [decide_eq_false (fun e => hne (by subst e; rfl))] at this
      exact this
    · have heq2 : xs[j] = ys[j] := by simpa using hb
      rw [succ_big (by unfold big; omega)]
      refine ih hjl w6 ?_ h6
      rw [List.take_succ_eq_append_getElem hjl, List.take_succ_eq_append_getElem hjl2, he, heq2]
  · have : j = xs.length := by omega
    subst this
    have := k w h
    rw [List.take_length, heq, List.take_length] at he
    rw [decide_eq_true he] at this
    exact this
end
end Go.Vc

/-
  The files of snapshots among a disk's names: the loop.
-/
namespace Go.Vc
open Go Go.Proofs Go.Proofs.Ytclinifclfahfaa
set_option maxRecDepth 100000
abbrev Ix := {n : Nat // n ≤ 1099511627776}
instance : Inhabited Ix := ⟨⟨0, Nat.zero_le _⟩⟩
def celX (x : Ix) : List Value := [encN (Sn.nameOf x.1), .int .i64 (x.1 : Int)]
theorem celX_len (x : Ix) : (celX x).length = 2 := rfl
theorem celX_one (l : List Ix) : ∀ u ∈ l.flatMap celX, one u = true := by
  intro u hu
  obtain ⟨c, _, hc⟩ := List.mem_flatMap.1 hu
  simp [celX] at hc
  rcases hc with rfl | rfl <;> rfl
section
variable {P : Program} {t : TypeId} {w : World}
theorem equal_strint {f0 f1 : Field} (hu : P.underlying t = some (.struct #[f0, f1])) (h0 : P.underlying f0.type = some .string) (h1 : P.underlying f1.type = some (.int .i64))
    (hn0 : f0.name ≠ "_") (hn1 : f1.name ≠ "_") (ho0 : f0.offset = 0) (ho1 : f1.offset = 1) (hst : P.stoodInHeld t = false) (a1 b1 : ByteArray) (a2 b2 : Int) :
    (Op.equal t (.agg #[.string a1, .int .i64 a2]) (.agg #[.string b1, .int .i64 b2])).run P w = .ok (decide (a1 = b1) && decide (a2 = b2)) w := by
  have e0 : ∀ x y : ByteArray, (Op.equalIn 9999 f0.type (.string x) (.string y)).run P w = .ok (x == y) w := fun x y => equalIn_string (P := P) h0 x y 9998 w
  have e1 : ∀ x y : Int, (Op.equalIn 9999 f1.type (.int .i64 x) (.int .i64 y)).run P w = .ok (x == y) w := fun x y => equalIn_int (P := P) h1 x y 9998 w
  have hag : aggT P f0.type = false := by simp [aggT, h0]
  have hag1 : aggT P f1.type = false := by simp [aggT, h1]
  have hp0 : ∀ x y : Value, (part f0.type #[x, y] f0.offset).run P w = .ok x w := fun x y => by simp [part, run_isAgg h0, hag, ho0]
  have hp1 : ∀ x y : Value, (part f1.type #[x, y] f1.offset).run P w = .ok y w := fun x y => by simp [part, run_isAgg h1, hag1, ho1]
  show (Op.equalIn (9999 + 1) t _ _).run P w = _
  unfold Op.equalIn
  simp only [Sem.run_bind, run_underlying_ hu, Result.andThen_ok, program, Sem.run, hst]
  by_cases ha : a1 = b1
  · by_cases hb : a2 = b2
    · simp [hn0, hn1, hp0, hp1, e0, e1, ha, hb, bytes_beq]
    · simp [hn0, hn1, hp0, hp1, e0, e1, ha, hb, bytes_beq]
  · simp [hn0, hp0, e0, ha, bytes_beq]
end
section
variable {E w : World} {L : List Asrt} {R : Ending → World → Prop} {F G : Fz} {q p s o : Sl} {b : Cm.Bs}
theorem file_eq (x y : Operand) (a c : Cm.Bs) (b d : Int) (w : World) : (do eqGuard .eql 86 x y (.agg #[.string (bs a), .int .i64 b]) (.agg #[.string (bs c), .int .i64 d]); binOp .eql 86 (.agg #[.string (bs a), .int .i64 b]) (.agg #[.string (bs c), .int .i64 d]) : Sem Value).run Try.prog w = .ok (.bool (decide (a = c) && decide (b = d))) w := by
  have h := run_eq_agg (P := Try.prog) (t := 86) (w := w) (x := x) (y := y) (a := #[.string (bs a), .int .i64 b]) (b := #[.string (bs c), .int .i64 d]) (by kernel_rfl)
    (equal_strint (f0 := ⟨ "name", 9, 0, false, "", "tollgate/snap", 0⟩) (f1 := ⟨ "index", 3, 1, false, "", "tollgate/snap", 16⟩) (by kernel_rfl) (by kernel_rfl) (by kernel_rfl) (by decide) (by decide) rfl rfl (by kernel_rfl) (bs a) (bs c) b d)
  have e : decide (bs a = bs c) = decide (a = c) := decide_eq_decide.2 ⟨bs_inj, congrArg bs⟩
  rw [e] at h
  exact h
theorem bs_extract (s : Cm.Bs) (a b : Nat) : (bs s).extract a b = bs ((s.take b).drop a) := by
  apply ByteArray.ext
  simp [bs, List.drop_take]
theorem files3 {s : Cm.Bs} {K : Bool → World → Prop} {Kp : List PanicEntry → World → Prop} (k : K (!(decide (6 ≤ s.length ∧ s.length ≤ 18) && decide (s.take 5 = Sn.pre))) w) : T_snap_files_3 (bs s) w K Kp := by
  unfold T_snap_files_3
  have hz : (bs s).size = s.length := rfl
  rw [hz]
  refine ite_d (fun hh => ?_) fun hh => ite_d (fun h2 => ?_) fun h2 => ?_
  · rw [decide_eq_false (by omega)] at k; exact k
  · rw [decide_eq_false (by omega)] at k; exact k
  · rw [decide_eq_true (by omega), Bool.true_and] at k
    refine ⟨by omega, by omega, ?_⟩
    have e : (bs s).extract 0 ((5 : Int).toNat) = bs (s.take 5) := bs_extract s 0 5
    rw [e]
    have e2 : ((bs (s.take 5)).toList == (bs Sn.pre).toList) = decide (s.take 5 = Sn.pre) := bs_beq _ _
    have e3 : ByteArray.mk #[115, 110, 97, 112, 45] = bs Sn.pre := rfl
    rw [e3, e2]
    exact k
theorem val_take {ds : Cm.Bs} {j : Nat} (h : j < ds.length) : Sn.val (ds.take (j + 1)) = 10 * Sn.val (ds.take j) + (ds[j].toNat - 48) := by
  rw [List.take_succ_eq_append_getElem h, Sn.val_snoc]
theorem val_small {ds : Cm.Bs} (ha : ds.all Sn.isDig = true) (hl : ds.length ≤ 13) : Sn.val ds < 10 ^ 13 := by
  have h := Sn.val_lt ds ha 0
  have : 10 ^ ds.length ≤ 10 ^ 13 := Nat.pow_le_pow_right (by decide) hl
  unfold Sn.val
  omega
theorem files4 {ds : Cm.Bs} {a : Option Addr} {c : Nat} {Ke : World → Prop} {Kn : Int → World → Prop} {Kp : List PanicEntry → World → Prop} (hl : ds.length ≤ 13) (hr : RdS w a ds.length 1 (bytesV ds))
    (kN : ds.all Sn.isDig = true → Kn (Sn.val ds : Int) w) (kE : ds.all Sn.isDig = false → Ke w) : T_snap_files_4 0 0 a ds.length c ((ds.length : Nat) : Int) w Ke Kn Kp := by
  unfold T_snap_files_4
  intro X hX
  refine up_to ds.length (Q := fun j => (ds.take j).all Sn.isDig = true → X (Sn.val (ds.take j) : Int) (j : Int) w) ?_ rfl
  intro j hj ih ha
  refine hX _ _ _ ?_
  unfold T_snap_files_4_body
  refine ite_d (fun hh => ?_) fun hh => ?_
  · have hjl : j < ds.length := by omega
    obtain ⟨ad, hae, hrd⟩ := one_at (f := fun x : UInt8 => Value.int .u8 (x.toNat : Int)) (qs := ds) (fun _ => rfl) (by rw [← List.map_eq_flatMap]; exact hr) hjl
    refine ⟨by omega, by omega, ad, hae, _, hrd, ?_⟩
    unfold T_snap_files_5
    have hc : ds[j].toNat < 256 := ds[j].toNat_lt
    have hv := val_take hjl
    have hall : (ds.take (j + 1)).all Sn.isDig = ((ds.take j).all Sn.isDig && Sn.isDig ds[j]) := by
      rw [List.take_succ_eq_append_getElem hjl, List.all_append]; simp
    have bad : Sn.isDig ds[j] = false → Ke w := fun hb => kE (by
      cases hA : ds.all Sn.isDig with
      | false => rfl
      | true => rw [List.all_eq_true] at hA; rw [hA _ (List.getElem_mem hjl)] at hb; cases hb)
    refine ite_d (fun h1 => ?_) fun h1 => ?_
    · refine ite_b (fun _ => bad ?_) fun hb => by cases hb
      unfold Sn.isDig; exact decide_eq_false (by omega)
    refine ite_d (fun h2 => bad ?_) fun h2 => ?_
    · unfold Sn.isDig; exact decide_eq_false (by omega)
    have hd : Sn.isDig ds[j] = true := by unfold Sn.isDig; exact decide_eq_true (by omega)
    have hsm := val_small ha (by rw [List.length_take]; omega)
    have hA2 : (ds.take (j + 1)).all Sn.isDig = true := by rw [hall, ha, hd]; rfl
    have e1 : IntKind.wrap .u8 (((ds[j].toNat : Nat) : Int) - 48) = ((ds[j].toNat - 48 : Nat) : Int) := by
      unfold IntKind.wrap
      simp [IntKind.signed, IntKind.bits]
      omega
    rw [e1, wrap_id (x := ((ds[j].toNat - 48 : Nat) : Int)) (by omega) (by omega), wrap_id (x := 10 * ((Sn.val (ds.take j) : Nat) : Int)) (by omega) (by omega), wrap_id (by omega) (by omega), succ_big (by unfold big; omega)]
    have := ih hjl hA2
    rw [hv] at this
    have e2 : ((10 * Sn.val (ds.take j) + (ds[j].toNat - 48) : Nat) : Int) = 10 * ((Sn.val (ds.take j) : Nat) : Int) + ((ds[j].toNat - 48 : Nat) : Int) := by omega
    rw [e2] at this
    exact this
  · have : j = ds.length := by omega
    subst this
    rw [List.take_length] at ha ⊢
    exact kN ha
theorem app_fi {xs : List Ix} (h : St E (ownS o.1 o.2.1 o.2.2 86 2 (xs.flatMap celX) :: L) w) (x : Ix) (hb : xs.length + 1 ≤ 1000000) :
    ∃ (o' : Sl) (w' : World), (Builtin.append_ #[83, 83] 83 #[.slice o.1 o.2.1 o.2.2, .slice (some ⟨w.heap.size, 0, none⟩) 1 1]).run Try.prog (w.alloc (.cells ⟨celX x⟩ 86)) = .ok (.slice o'.1 o'.2.1 o'.2.2) w' ∧ St E (ownS o'.1 o'.2.1 o'.2.2 86 2 ((xs ++ [x]).flatMap celX) :: L) w' := by
  have h2 : St E (ownS (some ⟨w.heap.size, 0, none⟩) 1 1 86 2 ([x].flatMap celX) :: ownS o.1 o.2.1 o.2.2 86 2 (xs.flatMap celX) :: L) (w.alloc (.cells ⟨celX x⟩ 86)) :=
    (St.ownS_mk (xs := celX x) (rest := []) (l := 1) (c := 1) (sz := 2) (by rw [List.append_nil]; exact h.alloc _) rfl (Nat.le_refl _) (by decide) rfl :)
  have hro : RdS (w.alloc (.cells ⟨celX x⟩ 86)) (some ⟨w.heap.size, 0, none⟩) 1 2 ([x].flatMap celX) := St.rdS_own h2
  have hl : xs.length = o.2.1 := h.rdS_own.count celX_len (by decide)
  obtain ⟨a', c', w', hr, hs⟩ := append_own (P := Try.prog) (t := 83) (ty := 83) (e := 86) (i := Try.t86) (z := .agg #[.string ⟨#[]⟩, .int .i64 0]) (by kernel_rfl) (by kernel_rfl) (by kernel_rfl) (by kernel_rfl) (by decide) (c2 := 1) h2.f1 hro (celX_one [x])
    (by have : Try.t86.bytes = 24 := by kernel_rfl
        rw [this]; omega) (by unfold maxLen; omega)
  rw [show Try.t86.size = 2 from by kernel_rfl, ← List.flatMap_append] at hs
  exact ⟨(a', o.2.1 + 1, c'), w', hr, hs.f1.drop⟩
def numsN (ns : List Cm.Bs) : List Nat := (ns.map Sn.numbered).filter fun k => decide (0 < k)
theorem numsN_succ {ns : List Cm.Bs} {j : Nat} (h : j < ns.length) : numsN (ns.take (j + 1)) = numsN (ns.take j) ++ (if 0 < Sn.numbered ns[j] then [Sn.numbered ns[j]] else []) := by
  unfold numsN
  rw [List.take_succ_eq_append_getElem h, List.map_append, List.filter_append]
  congr 1
  by_cases h0 : 0 < Sn.numbered ns[j]
  · rw [if_pos h0]; simp [h0]
  · rw [if_neg h0]; simp [h0]
set_option maxHeartbeats 2000000 in
theorem files_loop {ns : List Cm.Bs} {s : Sl} {L : List Asrt} {K : Option Addr → Nat → Nat → World → Prop} {Kp : List PanicEntry → World → Prop} (hn : ns.length ≤ 1000) (hl : s.2.1 = ns.length) (h : St E (ownS s.1 s.2.1 s.2.2 9 1 (ns.flatMap fun x => [encN x]) :: L) w)
    (k : ∀ (w' : World) (o : Sl) (xs : List Ix), xs.map (·.1) = numsN ns → St E (ownS o.1 o.2.1 o.2.2 86 2 (xs.flatMap celX) :: L) w' → K o.1 o.2.1 o.2.2 w') : T_snap_files_2 none 0 0 0 s.1 s.2.1 s.2.2 ((s.2.1 : Nat) : Int) w K Kp := by
  unfold T_snap_files_2
  intro X hX
  refine up_to ns.length (Q := fun j => ∀ (w : World) (o : Sl) (xs : List Ix), xs.map (·.1) = numsN (ns.take j) → St E (ownS o.1 o.2.1 o.2.2 86 2 (xs.flatMap celX) :: ownS s.1 s.2.1 s.2.2 9 1 (ns.flatMap fun x => [encN x]) :: L) w → X o.1 o.2.1 o.2.2 (j : Int) w) ?_ w nilS [] rfl h.ownS_nil
  intro j hj ih w o xs hxs h
  refine hX _ _ _ _ _ ?_
  unfold T_snap_files_2_body
  rw [hl]
  refine ite_d (fun hh => ?_) fun hh => ?_
  · have hjl : j < ns.length := by omega
    obtain ⟨ad, hae, hrd⟩ := one_at (f := encN) (fun _ => rfl) h.f1.rdS_own hjl
    refine ⟨by omega, by omega, ad, hae, _, hrd, ?_⟩
    have ihj := ih hjl
    rw [numsN_succ hjl] at ihj
    have hxl : xs.length ≤ 1000 := by
      have h1 : xs.length = (numsN (ns.take j)).length := by rw [← hxs, List.length_map]
      have h2 : (numsN (ns.take j)).length ≤ (ns.take j).length := by unfold numsN; exact Nat.le_trans (List.length_filter_le ..) (by simp)
      rw [List.length_take] at h2
      omega
    generalize hnj : ns[j] = nm at *
    clear ih hX hrd
    have next : ∀ {w : World}, Sn.numbered nm = 0 → St E (ownS o.1 o.2.1 o.2.2 86 2 (xs.flatMap celX) :: ownS s.1 s.2.1 s.2.2 9 1 (ns.flatMap fun x => [encN x]) :: L) w → X o.1 o.2.1 o.2.2 (IntKind.wrap .i64 ((j : Int) + 1)) w := fun hz h => by
      rw [succ_big (by unfold big; omega)]
      exact ihj _ o xs (by rw [hz, if_neg (by decide), List.append_nil]; exact hxs) h
    refine files3 (ite_b (fun hb => next ?_ h) fun hb => ?_)
    · unfold Sn.numbered Sn.shaped
      rw [if_neg]
      rintro ⟨h1, _⟩
      rw [Bool.and_eq_true, Bool.and_eq_true] at h1
      rw [h1.1, h1.2.1] at hb
      cases hb
    have hb' : (decide (6 ≤ nm.length ∧ nm.length ≤ 18) && decide (nm.take 5 = Sn.pre)) = true := by simpa using hb
    rw [Bool.and_eq_true] at hb'
    have hlen := of_decide_eq_true hb'.1
    have hsz : (bs nm).size = nm.length := rfl
    refine ⟨by omega, by rw [hsz]; omega, ?_⟩
    have e5 : (bs nm).extract ((5 : Int).toNat) (bs nm).size = bs (nm.drop 5) := by
      have := bs_extract nm 5 nm.length
      rw [List.take_length] at this
      exact this
    rw [e5]
    have hdl : (nm.drop 5).length = nm.length - 5 := List.length_drop
    obtain ⟨a4, c4, w20, hr20, h20⟩ := bytes_of_str h (nm.drop 5)
    refine runV_ok hr20 ⟨_, _, _, rfl, ?_⟩
    have hshape : Sn.shaped nm = (nm.drop 5).all Sn.isDig := by unfold Sn.shaped; rw [hb'.1, hb'.2]; rfl
    refine files4 (by omega) h20.rdS (fun hall => ?_) fun hall => ?_
    · have hv := val_small hall (by omega)
      have hnum : Sn.numbered nm = if Sn.val (nm.drop 5) ≤ 1099511627776 ∧ Sn.dec (Sn.val (nm.drop 5)) = nm.drop 5 then Sn.val (nm.drop 5) else 0 := by
        unfold Sn.numbered
        rw [hshape, hall]
        simp
      generalize Sn.val (nm.drop 5) = v at *
      intro w41
      have h41 : St E (blkL w20.heap.size 86 [.string ⟨#[]⟩, .int .i64 0] :: ownS o.1 o.2.1 o.2.2 86 2 (xs.flatMap celX) :: ownS s.1 s.2.1 s.2.2 9 1 (ns.flatMap fun x => [encN x]) :: L) w41 := h20.drop.alloc (.cells ⟨[.string ⟨#[]⟩, .int .i64 0]⟩ 86)
      clear_value w41
      generalize w20.heap.size = bf at *
      refine ⟨rfl, wrOk_agg (off := 0) (xs := [encN nm, .int .i64 (v : Int)]) h41.at_blk (by show 2 ≤ 2; decide) (by intro u hu; simp at hu; rcases hu with rfl | rfl <;> rfl), ?_⟩
      intro w42 w43
      have h43 : St E (blkL bf 86 [encN nm, .int .i64 (v : Int)] :: ownS o.1 o.2.1 o.2.2 86 2 (xs.flatMap celX) :: ownS s.1 s.2.1 s.2.2 9 1 (ns.flatMap fun x => [encN x]) :: L) w43 := (h41.wr_agg0 (xs := [encN nm, .int .i64 (v : Int)]) rfl).drew
      clear_value w43
      have rdF : rd w43 ⟨bf, 0, none⟩ (.agg #[encN nm, .int .i64 (v : Int)]) := rd_agg (xs := [encN nm, .int .i64 (v : Int)]) h43.at_blk (by intro i u hu; rw [Nat.zero_add]; exact hu)
      refine ite_d (fun hm => ?_) fun hm => ?_
      · have hm' : v ≤ 1099511627776 := by omega
        refine ⟨_, _, rdF, Name_spec hm' ⟨_, rfl, ⟨rdF, trivial⟩, runV_ok (file_eq _ _ nm (Sn.nameOf v) (v : Int) (v : Int) w43) ⟨_, rfl, trivial, ?_⟩⟩⟩
        have hnv : nm = Sn.nameOf v ↔ Sn.dec v = nm.drop 5 := by
          constructor
          · intro e; rw [e]; rfl
          · intro e
            unfold Sn.nameOf
            rw [e, ← of_decide_eq_true hb'.2, List.take_append_drop]
        refine ite_b (fun he => ?_) fun he => ?_
        · have he' : nm = Sn.nameOf v := by simpa using he
          have hd := hnv.1 he'
          rw [if_pos ⟨hm', hd⟩] at hnum
          have hv0 : 0 < v := by
            rcases Nat.eq_zero_or_pos v with h0 | h0
            · subst h0
              have : (nm.drop 5) = [] := hd.symm
              rw [List.drop_eq_nil_iff] at this
              omega
            · exact h0
          refine ⟨_, _, rdF, ?_⟩
          intro w54
          have hxe : celX ⟨v, hm'⟩ = [encN nm, .int .i64 (v : Int)] := by unfold celX; rw [he']
          obtain ⟨o', w56, hr56, h56⟩ := app_fi h43.drop ⟨v, hm'⟩ (by omega)
          rw [hxe] at hr56
          refine runV_ok hr56 ⟨_, _, _, rfl, ?_⟩
          rw [succ_big (by unfold big; omega)]
          refine ihj w56 o' (xs ++ [⟨v, hm'⟩]) ?_ h56
          rw [hnum, if_pos hv0, List.map_append, hxs]
          rfl
        · refine next ?_ h43.drop
          rw [hnum, if_neg]
          rintro ⟨_, hd⟩
          have := hnv.2 hd
          rw [decide_eq_true this] at he
          simp at he
      · refine ⟨trivial, trivial, next ?_ h43.drop⟩
        rw [hnum, if_neg]
        rintro ⟨h1, _⟩
        omega
    · refine next ?_ h20.drop
      unfold Sn.numbered
      rw [hshape, hall, if_neg (by simp)]
  · have : j = ns.length := by omega
    subst this
    rw [List.take_length] at hxs
    exact k w o xs hxs (h.sel 2 [0] (by simp))
end
end Go.Vc

/-
  The files of snapshots in their order: the library's sort at them.
-/
namespace Go.Vc
open Go Go.Proofs Go.Proofs.Ytclinifclfahfaa Go.RowKit Go.Sort Go.Shelf
set_option maxRecDepth 100000
def cmpX (x y : Ix) : Int := (y.1 : Int) - (x.1 : Int)
theorem cmpX_lt (x y : Ix) : ltOf cmpX x y = decide (y.1 < x.1) := by
  simp only [ltOf, cmpX]
  exact decide_eq_decide.2 ⟨fun h => by omega, fun h => by omega⟩
theorem swoX : SWO (ltOf cmpX) where
  irrefl x := by rw [cmpX_lt]; simp
  trans x y z h k := by
    rw [cmpX_lt] at *
    have h := of_decide_eq_true h
    have k := of_decide_eq_true k
    exact decide_eq_true (by omega)
  ntrans x y z h k := by
    rw [cmpX_lt] at *
    have h := of_decide_eq_false h
    have k := of_decide_eq_false k
    exact decide_eq_false (by omega)
theorem totX (x y : Ix) (h : ltOf cmpX x y = false) (k : ltOf cmpX y x = false) : x = y := by
  rw [cmpX_lt] at *
  have h := of_decide_eq_false h
  have k := of_decide_eq_false k
  exact Subtype.ext (by omega)
theorem uniq_ix {ss ks : List Ix} (hp : ks.Perm ss) (hk : ks.Pairwise fun a b => b.1 < a.1) : (ss.mergeSort fun x y => !(ltOf cmpX) y x) = ks :=
  sort_uniq (fun a b c h1 h2 => by
      simp only [cmpX_lt, Bool.not_eq_true', decide_eq_false_iff_not] at *
      omega)
    (fun a b => by
      simp only [cmpX_lt]
      by_cases h : a.1 < b.1
      · have : ¬ b.1 < a.1 := by omega
        simp [this]
      · simp [h])
    (fun a b h1 h2 => totX a b (by simpa using h2) (by simpa using h1)) hp
    (hk.imp fun {a b} h => by
      simp only [cmpX_lt, Bool.not_eq_true', decide_eq_false_iff_not]
      omega)
/-- The numbers in their order. -/
def downs (l : List Ix) : List Ix := l.mergeSort fun x y => !(ltOf cmpX) y x
theorem downs_up {l : List Ix} (h : l.Nodup) : (downs l).Pairwise fun a b => b.1 < a.1 := by
  have h1 := List.pairwise_mergeSort (le := fun x y => !(ltOf cmpX) y x) (fun a b c h1 h2 => by
      simp only [cmpX_lt, Bool.not_eq_true', decide_eq_false_iff_not] at *
      omega)
    (fun a b => by
      simp only [cmpX_lt]
      by_cases h : a.1 < b.1
      · have : ¬ b.1 < a.1 := by omega
        simp [this]
      · simp [h]) l
  have h2 : (downs l).Nodup := (List.mergeSort_perm l _).nodup_iff.2 h
  refine (h1.and h2).imp fun {a b} h => ?_
  have h3 := h.1
  simp only [cmpX_lt, Bool.not_eq_true', decide_eq_false_iff_not] at h3
  have : a.1 ≠ b.1 := fun e => h.2 (Subtype.ext e)
  omega
theorem downs_perm (l : List Ix) : (downs l).Perm l := List.mergeSort_perm _ _
section
variable {E w : World} {L : List Asrt} {R : Ending → World → Prop}
theorem grow_two (W : World) (o1 o2 : Obj) : ((W.alloc o1).alloc o2) = grow (W.drewN 0) #[o1, o2] := by
  rw [alloc_eq_grow, alloc_eq_grow]
  show grow (grow W #[o1]) #[o2] = grow W #[o1, o2]
  rw [grow_grow]
  rfl
theorem cmpX_lays (blk off size : Nat) (w : World) : CmpLays Try.prog 65 #[] celX 2 cmpX blk off size w := by
  intro m os dk _ x y
  generalize sortWorldK celX 2 w blk off m dk os = W
  have e : (#[.agg (celX x).toArray, .agg (celX y).toArray] ++ #[] : Array Value) = #[.agg #[encN (Sn.nameOf x.1), .int .i64 (x.1 : Int)], .agg #[encN (Sn.nameOf y.1), .int .i64 (y.1 : Int)]] := by simp [celX]
  rw [e]
  refine C_snap_files_c1 ?_
  unfold T_snap_files_c1
  intro w5 w6
  have h5 := (St.start_kn W).alloc (.cells #[encN (Sn.nameOf x.1), .int .i64 (x.1 : Int)] 86)
  have h6 := h5.alloc (.cells #[encN (Sn.nameOf y.1), .int .i64 (y.1 : Int)] 86)
  have hx := x.2
  have hy := y.2
  refine ⟨_, rd_fld h6.at_blk rfl rfl, _, rd_fld h6.f1.at_blk rfl rfl, ?_⟩
  rw [wrap_id (by omega) (by omega)]
  exact ⟨rfl, 0, _, grow_two W _ _⟩
theorem SortX_spec {a : Option Addr} {c : Nat} {ss ks : List Ix} (h : St E (ownS a ss.length c 86 2 (ss.flatMap celX) :: L) w) (hN : ss.length ≤ 1000) (hp : ks.Perm ss) (hk : ks.Pairwise fun a b => b.1 < a.1)
    (k : ∀ w', St E (ownS a ks.length c 86 2 (ks.flatMap celX) :: L) w' → R (.returned (.tuple #[])) w') : Calls Try.prog 64 #[.slice a ss.length c, .func (.func 65) #[] #[]] w R := by
  have hl := hp.length_eq
  obtain ⟨_, hlc, hcm⟩ := h.ownS_facts
  rcases h.ownS_open with ⟨rfl, h0, rfl, hx⟩ | ⟨g, rest, rfl, hr, h2⟩
  · have hs : ss = [] := List.eq_nil_of_length_eq_zero h0
    subst hs
    have hk0 : ks = [] := List.eq_nil_of_length_eq_zero hl
    subst hk0
    refine (AnyF.slices_SortFunc_none Try.sortP none 0 _ w).mono ?_
    rintro e w' ⟨rfl, rfl⟩
    exact k _ h
  · have hfl : flatK celX 2 ss.toArray = (ss.flatMap celX).toArray := flatK_eq celX 2 (fun _ => rfl) (by decide) ss
    have hH : HoldsK celX 2 w g 0 ss.toArray := by
      unfold HoldsK
      rw [hfl]
      refine holds_row (enc := id) (rest := rest) (e := 86) ?_
      rw [List.map_id]
      exact h2.at_blk
    refine (AnyQ.slices_SortFunc_total Try.sortP 2 (run_isAgg (P := Try.prog) (t := 86) rfl) (fun w => by kernel_rfl) celX (fun _ => rfl) (fun x v hv => by simp [celX] at hv; rcases hv with rfl | rfl <;> rfl) cmpX swoX 65 #[] g 0 c ss.toArray w
      (enters_of Try.func65 (by kernel_rfl) rfl) (cmpX_lays g 0 _ w) hH (Array.getElem?_eq_some_iff.1 h2.at_blk).1 (by simp; omega) totX).mono ?_
    rintro e w' ⟨rfl, n, os, rfl⟩
    rw [uniq_ix hp hk]
    unfold sortWorldK putRowK
    rw [flatK_eq celX 2 (fun _ => rfl) (by decide) ks]
    refine k _ (St.ownS_mk (rest := rest) ?_ (flat_len (f := celX) (fun _ => rfl) ks) (by omega) hcm (by rw [hl]; exact hr))
    have := h2.sorted_row (enc := id) (ts := ks.flatMap celX) (m := n) (os := os) (by rw [flat_len (sz := 2) (fun _ => rfl), flat_len (sz := 2) (fun _ => rfl), hl])
    rwa [List.map_id] at this
theorem Files_spec {F : Fz} {dp c : Nat} {d : Dk.Ds} (I : Dk.Inv d) (h : St E (diskA F c dp d :: L) w)
    (k : ∀ (w' : World) (o : Sl) (ks : List Ix), (ks.map (·.1)).Perm (Sn.nums d.l) → ks.Pairwise (fun a b => b.1 < a.1) → o.2.1 = ks.length → St E (ownS o.1 o.2.1 o.2.2 86 2 (ks.flatMap celX) :: diskA F c dp d :: L) w' → R (.returned (.slice o.1 o.2.1 o.2.2)) w') :
    Calls Try.prog 40 #[.pointer (some ⟨dp, 0, none⟩)] w R := by
  have hlen : (namesOf d).length ≤ 16 := by unfold namesOf; rw [List.length_map]; exact I.n
  refine C_snap_files ?_
  unfold T_snap_files T_snap_files_1
  intro X hX
  refine hX _ _ _ _ ?_
  unfold T_snap_files_1_body
  refine DNames_spec I h fun w5 s6 hl6 h5 => ⟨_, _, _, rfl, ?_⟩
  refine files_loop (ns := namesOf d) (by omega) hl6 h5 fun w63 o xs hxs h63 => ?_
  have hnums : numsN (namesOf d) = Sn.nums d.l := by unfold numsN namesOf Sn.nums; rw [List.map_map]; rfl
  have hnd : xs.Nodup := by
    have h1 : (xs.map (·.1)).Nodup := by rw [hxs, hnums]; exact Sn.nums_nodup (Sn.names_ne I)
    exact (List.pairwise_map.1 h1).imp fun hne e => hne (congrArg _ e)
  have hol : o.2.1 = xs.length := (h63.rdS_own.count celX_len (by decide)).symm
  have hxl : xs.length ≤ 16 := by
    have h1 : xs.length = (numsN (namesOf d)).length := by rw [← hxs, List.length_map]
    have h2 : (numsN (namesOf d)).length ≤ (namesOf d).length := by unfold numsN; exact Nat.le_trans (List.length_filter_le ..) (by simp)
    omega
  rw [hol] at h63 ⊢
  refine SortX_spec (ks := downs xs) h63 (by omega) (downs_perm xs) (downs_up hnd) fun w65 h65 => ⟨rfl, ?_⟩
  have e : xs.length = (downs xs).length := (downs_perm xs).length_eq.symm
  rw [e]
  exact k w65 (o.1, (downs xs).length, o.2.2) (downs xs) (by
    rw [← hnums, ← hxs]
    exact (downs_perm xs).map _) (downs_up hnd) rfl h65
end
end Go.Vc

/-
  A snapshot is saved.
-/
namespace Go.Vc
open Go Go.Proofs Go.Proofs.Ytclinifclfahfaa
set_option maxRecDepth 100000
section
variable {E w : World} {L : List Asrt} {R : Ending → World → Prop} {F G : Fz} {q p o : Sl} {b : Cm.Bs} {dp c : Nat} {d : Dk.Ds}
theorem St.dk_c {c2 : Nat} (h : St E (diskA F c dp d :: L) w) (k : c ≤ c2) : St E (diskA F c2 dp d :: L) w :=
  h.mono fun _ ⟨bm, m, fs, ok, hs⟩ => ⟨bm, m, fs, ⟨ok.l, ok.m, ok.ok, fun x hx => Nat.le_trans (ok.few x hx) k⟩, hs⟩
theorem tmp_lit : (.string (ByteArray.mk #[115, 110, 97, 112, 46, 116, 109, 112]) : Value) = .string (bs Sn.tmp) := rfl
theorem putB_le (s : Sn.Snp) : (Sn.putB s).length ≤ 100000 := by
  by_cases h : Sn.putE s = 0
  · have := (Sn.body_len h).1
    unfold Sn.putB
    rw [if_pos h, Sn.frame_len]
    omega
  · unfold Sn.putB
    rw [if_neg h]
    exact Nat.zero_le _
theorem putE_ok {s : Sn.Snp} (h : Sn.putE s = 0) : ∃ i : Nat, s.idx = (i : Int) ∧ 0 < i ∧ i ≤ 1099511627776 := by
  unfold Sn.putE at h
  split at h
  · cases h
  · rename_i hb
    have hb : Sn.badS s = false := by simpa using hb
    unfold Sn.badS at hb
    simp only [Bool.or_eq_false_iff, decide_eq_false_iff_not] at hb
    exact ⟨s.idx.toNat, by omega, by omega, by omega⟩
theorem save_loop {v l dd : Sl} {s : Sn.Snp} {ks : List Ix} {b7 i : Nat} {K : World → Prop} {Kp : List PanicEntry → World → Prop} {fin : Dk.Ds} (hi : s.idx = (i : Int)) (hks : ks.length ≤ 1000) (hol : o.2.1 = ks.length) (I : Dk.Inv d) (hfin : Sn.remAll i (ks.map (·.1)) d = fin)
    (h : St E (blkL b7 29 (snpL s.idx s.term v l dd) :: ownS o.1 o.2.1 o.2.2 86 2 (ks.flatMap celX) :: diskA F c dp d :: kn F :: L) w) (k : ∀ w', St E (diskA F c dp fin :: kn F :: L) w' → K w') :
    T_snap_Save_2 0 (some ⟨dp, 0, none⟩) ⟨b7, 0, none⟩ o.1 o.2.1 o.2.2 ((o.2.1 : Nat) : Int) w K Kp := by
  unfold T_snap_Save_2
  intro X hX
  refine up_to ks.length (Q := fun j => ∀ (w : World) (dj : Dk.Ds), Dk.Inv dj → Sn.remAll i ((ks.drop j).map (·.1)) dj = fin → St E (blkL b7 29 (snpL s.idx s.term v l dd) :: ownS o.1 o.2.1 o.2.2 86 2 (ks.flatMap celX) :: diskA F c dp dj :: kn F :: L) w → X (j : Int) w) ?_ w d I hfin h
  intro j hj ih w dj I hfin h
  refine hX _ _ ?_
  unfold T_snap_Save_2_body
  rw [hol]
  refine ite_d (fun hh => ?_) fun hh => ?_
  · have hjl : j < ks.length := by omega
    obtain ⟨ad, hae, hrd, _⟩ := (h.f1.rdS_own).elem (f := celX) celX_len (List.getElem?_eq_getElem hjl) (by decide)
    rw [List.drop_eq_getElem_cons hjl, List.map_cons] at hfin
    unfold Sn.remAll at hfin
    refine ⟨by omega, by omega, ad, hae, _, _, hrd, ?_⟩
    have ihj := ih hjl
    have hx2 := ks[j].2
    generalize ks[j] = x at *
    intro w56
    have h56 : St E (blkL w.heap.size 86 [.string ⟨#[]⟩, .int .i64 0] :: blkL b7 29 (snpL s.idx s.term v l dd) :: ownS o.1 o.2.1 o.2.2 86 2 (ks.flatMap celX) :: diskA F c dp dj :: kn F :: L) w56 := h.alloc (.cells ⟨[.string ⟨#[]⟩, .int .i64 0]⟩ 86)
    clear_value w56
    generalize w.heap.size = bf at *
    refine ⟨rfl, wrOk_agg (off := 0) (xs := celX x) h56.at_blk (by show 2 ≤ 2; decide) (by intro u hu; exact celX_one [x] u (by simpa using hu)), ?_⟩
    intro w57
    have h57 : St E (blkL bf 86 (celX x) :: blkL b7 29 (snpL s.idx s.term v l dd) :: ownS o.1 o.2.1 o.2.2 86 2 (ks.flatMap celX) :: diskA F c dp dj :: kn F :: L) w57 := h56.wr_agg0 (xs := celX x) rfl
    clear_value w57
    refine ⟨_, rd_fld h57.at_blk rfl rfl, _, rd_cell h57.f1.at_blk rfl rfl, ?_⟩
    rw [hi]
    rw [succ_big (by unfold big; omega)]
    refine ite_d (fun hlt => ?_) fun hlt => ?_
    · rw [if_pos (by omega)] at hfin
      refine ⟨_, rd_cell h57.at_blk rfl rfl, ?_⟩
      have h58 : St E (diskA F c dp dj :: kn F :: blkL b7 29 (snpL s.idx s.term v l dd) :: ownS o.1 o.2.1 o.2.2 86 2 (ks.flatMap celX) :: L) w57 := h57.sel 5 [3, 4, 1, 2] (by simp)
      refine DRemove_spec (n := Sn.nameOf x.1) I h58 fun w62 h62 => ⟨_, rfl, ?_⟩
      exact ihj w62 _ (I.remove _) hfin (h62.sel 4 [2, 3, 0, 1] (by simp))
    · rw [if_neg (by omega)] at hfin
      exact ihj w57 dj I hfin (h57.sel 5 [1, 2, 3, 4] (by simp))
  · have : j = ks.length := by omega
    subst this
    rw [List.drop_length] at hfin
    have hfin : dj = fin := hfin
    subst hfin
    exact k w (h.sel 4 [2, 3] (by simp))
theorem save_1 {v l dd : Sl} {s : Sn.Snp} {i b7 : Nat} {W : Dk.Ds × Int} {K : Int → World → Prop} {Kp : List PanicEntry → World → Prop} (hi : s.idx = (i : Int)) (hi1 : i ≤ 1099511627776) (I : Dk.Inv W.1)
    (h : St E (diskA F c dp W.1 :: kn F :: blkL b7 29 (snpL s.idx s.term v l dd) :: L) w)
    (k : ∀ (G : Fz) (w' : World) (r : Dk.Ds × Int), Fz.le F G → r = (if W.2 = 0 then Dk.rename (Dk.sync W.1 Sn.tmp).1 Sn.tmp (Sn.nameOf i) else W) → Dk.Inv r.1 → St E (diskA G c dp r.1 :: kn G :: blkL b7 29 (snpL s.idx s.term v l dd) :: L) w' → K r.2 w') :
    T_snap_Save_1 (some ⟨dp, 0, none⟩) ⟨b7, 0, none⟩ W.2 (W.2 == 0) w K Kp := by
  unfold T_snap_Save_1
  rw [tmp_lit]
  refine ite_b (fun hz => ?_) fun hz => ?_
  · have hz : W.2 = 0 := by simpa using hz
    rw [if_pos hz] at k
    refine DSync_spec (n := Sn.tmp) I h fun G w28 hG h28 => ⟨_, rfl, ?_⟩
    refine ⟨_, rd_cell h28.f2.at_blk rfl rfl, ?_⟩
    rw [hi]
    refine Name_spec hi1 ⟨_, rfl, ?_⟩
    have I3 := I.sync Sn.tmp
    generalize (Dk.sync W.1 Sn.tmp).1 = d3 at *
    exact DRename_spec (a := Sn.tmp) (b := Sn.nameOf i) I3 h28 fun w35 h35 => ⟨_, rfl, k G w35 _ hG rfl (I3.rename _ _) h35⟩
  · have hz : W.2 ≠ 0 := by simpa using hz
    rw [if_neg hz] at k
    exact k F w W (Fz.le_refl F) rfl I h
set_option maxHeartbeats 1000000 in
theorem Save_spec {v l dd : Sl} {s : Sn.Snp} (I : Dk.Inv d) (hc : c + 1 ≤ 1000000) (r : snpR F v l dd s) (z1 : s.mem.v.length ≤ huge) (z2 : s.mem.l.length ≤ huge) (h : St E (diskA F c dp d :: kn F :: L) w)
    (k : ∀ (G : Fz) (w' : World), Fz.le F G → St E (diskA G (c + 1) dp (Sn.save d s).1 :: kn G :: L) w' → R (.returned (.int .i64 (Sn.save d s).2)) w') :
    Calls Try.prog 17 #[.pointer (some ⟨dp, 0, none⟩), snpV s.idx s.term v l dd] w R := by
  refine C_snap_Save ?_
  unfold T_snap_Save
  intro w7
  have h7 : St E (blkL w.heap.size 29 (snpL s.idx s.term v l dd) :: diskA F c dp d :: kn F :: L) w7 := h.alloc (.cells ⟨snpL s.idx s.term v l dd⟩ 29)
  clear_value w7
  generalize w.heap.size = b7 at *
  refine ite_b (fun hh => by simp at hh) fun _ => ?_
  refine ⟨_, _, _, _, _, _, _, _, _, _, _, rd_snp h7, ?_⟩
  have hp := putB_le s
  refine SPut_spec (by simp) r z1 z2 h7 fun w14 p h14 => ⟨_, _, _, _, rfl, ?_⟩
  refine ite_b (fun he => ?_) fun he => ?_
  · have he' : Sn.putE s ≠ 0 := by simpa using he
    have e : Sn.save d s = (d, Sn.putE s) := by unfold Sn.save; rw [if_pos he']
    rw [e] at k
    have h15 : St E (diskA F c dp d :: kn F :: L) w14 := h14.sel 4 [2, 3] (by simp)
    exact k F w14 (Fz.le_refl F) (h15.dk_c (Nat.le_succ c))
  have he' : Sn.putE s = 0 := by simpa using he
  obtain ⟨i, hi, hi0, hi1⟩ := putE_ok he'
  have hs : Sn.save d s = (
    let d1 := (Dk.remove d Sn.tmp).1
    let w := Dk.write d1 Sn.tmp 0 (Sn.putB s)
    if w.2 ≠ 0 then ((Dk.remove w.1 Sn.tmp).1, w.2)
    else
      let d3 := (Dk.sync w.1 Sn.tmp).1
      let r := Dk.rename d3 Sn.tmp (Sn.nameOf i)
      if r.2 ≠ 0 then ((Dk.remove r.1 Sn.tmp).1, r.2)
      else ({ r.1 with l := r.1.l.filter fun f => !Sn.older i f }, 0)) := by
    unfold Sn.save
    rw [if_neg (by rw [he']; decide), hi]
    rfl
  rw [hs] at k
  simp only at k
  clear hs
  have h16 : St E (byA p (Sn.putB s) :: kn F :: diskA F c dp d :: blkL b7 29 (snpL s.idx s.term v l dd) :: L) w14 := h14.sel 4 [0, 3, 2, 1] (by simp)
  obtain ⟨G, hG, h17, hsrc⟩ := St.srcB2 h16 (by omega)
  have h18 : St E (diskA G c dp d :: kn G :: blkL b7 29 (snpL s.idx s.term v l dd) :: L) w14 := St.dk_mono h17.f1 hG
  rw [tmp_lit]
  have I1 := I.remove Sn.tmp
  refine DRemove_spec (n := Sn.tmp) I h18 fun w18 h19 => ⟨_, rfl, ?_⟩
  generalize (Dk.remove d Sn.tmp).1 = d1 at *
  refine DWrite_spec (n := Sn.tmp) (i := 0) I1 hsrc (by omega) hc h19 fun G2 w21 hG2 h21 => ⟨_, rfl, ?_⟩
  have I2 := I1.write Sn.tmp 0 (Sn.putB s)
  generalize Dk.write d1 Sn.tmp 0 (Sn.putB s) = W at *
  have hGG := Fz.le_trans hG hG2
  refine save_1 hi hi1 I2 h21 fun G3 w41 r hG3 hr I4 h41 => ?_
  have hGGG := Fz.le_trans hGG hG3
  have hW : W.2 ≠ 0 → r = W := fun h => by rw [hr, if_neg h]
  have hO : W.2 = 0 → r = Dk.rename (Dk.sync W.1 Sn.tmp).1 Sn.tmp (Sn.nameOf i) := fun h => by rw [hr, if_pos h]
  clear hr
  refine ite_b (fun h40 => ?_) fun h40 => ?_
  · have h40 : r.2 ≠ 0 := by simpa using h40
    refine DRemove_spec (n := Sn.tmp) I4 h41 fun w43 h43 => ⟨_, rfl, ?_⟩
    have h44 : St E (diskA G3 (c + 1) dp (Dk.remove r.1 Sn.tmp).1 :: kn G3 :: L) w43 := h43.sel 3 [0, 1] (by simp)
    by_cases hw : W.2 = 0
    · rw [if_neg (by simpa using hw), ← hO hw, if_pos h40] at k
      exact k G3 w43 hGGG h44
    · rw [if_pos hw, ← hW hw] at k
      exact k G3 w43 hGGG h44
  · have h40 : r.2 = 0 := by simpa using h40
    have hw : W.2 = 0 := Decidable.byContradiction fun hw => by rw [hW hw] at h40; exact hw h40
    rw [if_neg (by simpa using hw), ← hO hw, if_neg (by simpa using h40)] at k
    refine Files_spec I4 h41 fun w46 o ks hks hdn hol h46 => ⟨_, _, _, rfl, ?_⟩
    have hkl : ks.length ≤ 1000 := by
      have h1 : ks.length = (Sn.nums r.1.l).length := by rw [← hks.length_eq, List.length_map]
      have h2 : (Sn.nums r.1.l).length ≤ r.1.l.length := by unfold Sn.nums; exact Nat.le_trans (List.length_filter_le ..) (by simp)
      have h3 := I4.n
      omega
    refine save_loop (i := i) hi hkl hol I4 (Sn.remAll_save hks) (h46.sel 4 [3, 0, 1, 2] (by simp)) fun w' h' => ?_
    exact k G3 w' hGGG h'
end
end Go.Vc

/-
  The newest snapshot that is whole.
-/
namespace Go.Vc
open Go Go.Proofs Go.Proofs.Ytclinifclfahfaa
set_option maxRecDepth 100000
section
variable {E w : World} {L : List Asrt} {R : Ending → World → Prop} {F G : Fz} {q p o : Sl} {b : Cm.Bs} {dp c : Nat} {d : Dk.Ds}
theorem pick_inv {d : Dk.Ds} {k : Nat} {r : List Nat} : Sn.pick d (k :: r) = match Sn.getS (Dk.read d (Sn.nameOf k)).1 with
    | .ok s => if s.idx = (k : Int) then (s, 0) else Sn.pick d r
    | .error _ => Sn.pick d r := rfl
theorem read_le (I : Dk.Inv d) (n : Cm.Bs) : (Dk.read d n).1.length ≤ 262144 := by
  unfold Dk.read
  split
  · exact Nat.zero_le _
  · rename_i f hf
    exact (Dk.okU_len (I.u f (Dk.find_some hf).1)).2
set_option maxHeartbeats 1000000 in
/-- What a Load tells. -/
theorem load_loop {ks : List Ix} {ba : Nat} {Kn : World → Prop} {Kr : Int → World → Prop} {Kp : List PanicEntry → World → Prop} {fin : Sn.Snp × Int} (hks : ks.length ≤ 1000) (hol : o.2.1 = ks.length) (I : Dk.Inv d) (hfin : Sn.pick d (ks.map (·.1)) = fin)
    (h : St E (blkL ba 29 z5 :: ownS o.1 o.2.1 o.2.2 86 2 (ks.flatMap celX) :: diskA F c dp d :: kn F :: L) w)
    (kN : ∀ (G : Fz) (w' : World), Fz.le F G → fin = (Sn.none, 8) → St E (blkL ba 29 z5 :: diskA G c dp d :: kn G :: L) w' → Kn w')
    (kR : ∀ (G : Fz) (w' : World) (v l dd : Sl) (s : Sn.Snp), Fz.le F G → fin = (s, 0) → snpR G v l dd s → St E (blkL ba 29 (snpL s.idx s.term v l dd) :: diskA G c dp d :: kn G :: L) w' → Kr 0 w') :
    T_snap_Load_1 0 (some ⟨dp, 0, none⟩) ⟨ba, 0, none⟩ o.1 o.2.1 o.2.2 ((o.2.1 : Nat) : Int) w Kn Kr Kp := by
  unfold T_snap_Load_1
  intro X hX
  refine up_to ks.length (Q := fun j => ∀ (w : World) (F1 : Fz), Fz.le F F1 → Sn.pick d ((ks.drop j).map (·.1)) = fin → St E (blkL ba 29 z5 :: ownS o.1 o.2.1 o.2.2 86 2 (ks.flatMap celX) :: diskA F1 c dp d :: kn F1 :: L) w → X (j : Int) w) ?_ w F (Fz.le_refl F) hfin h
  intro j hj ih w F1 hF1 hfin h
  refine hX _ _ ?_
  unfold T_snap_Load_1_body
  rw [hol]
  refine ite_d (fun hh => ?_) fun hh => ?_
  · have hjl : j < ks.length := by omega
    obtain ⟨ad, hae, hrd, _⟩ := (h.f1.rdS_own).elem (f := celX) celX_len (List.getElem?_eq_getElem hjl) (by decide)
    rw [List.drop_eq_getElem_cons hjl, List.map_cons, pick_inv] at hfin
    refine ⟨by omega, by omega, ad, hae, _, _, hrd, ?_⟩
    have ihj := ih hjl
    have hx2 := ks[j].2
    generalize ks[j] = x at *
    intro w20
    have h20 : St E (blkL w.heap.size 86 [.string ⟨#[]⟩, .int .i64 0] :: blkL ba 29 z5 :: ownS o.1 o.2.1 o.2.2 86 2 (ks.flatMap celX) :: diskA F1 c dp d :: kn F1 :: L) w20 := h.alloc (.cells ⟨[.string ⟨#[]⟩, .int .i64 0]⟩ 86)
    clear_value w20
    generalize w.heap.size = bf at *
    refine ⟨rfl, wrOk_agg (off := 0) (xs := celX x) h20.at_blk (by show 2 ≤ 2; decide) (by intro u hu; exact celX_one [x] u (by simpa using hu)), ?_⟩
    intro w21
    have h21 : St E (blkL bf 86 (celX x) :: blkL ba 29 z5 :: ownS o.1 o.2.1 o.2.2 86 2 (ks.flatMap celX) :: diskA F1 c dp d :: kn F1 :: L) w21 := h20.wr_agg0 (xs := celX x) rfl
    clear_value w21
    refine ⟨_, rd_cell h21.at_blk rfl rfl, ?_⟩
    have h22 : St E (diskA F1 c dp d :: kn F1 :: blkL bf 86 (celX x) :: blkL ba 29 z5 :: ownS o.1 o.2.1 o.2.2 86 2 (ks.flatMap celX) :: L) w21 := h21.sel 5 [3, 4, 0, 1, 2] (by simp)
    have hrl := read_le I (Sn.nameOf x.1)
    refine DRead_spec (n := Sn.nameOf x.1) I h22 fun w24 o24 h24 => ⟨_, _, _, _, rfl, ?_⟩
    generalize (Dk.read d (Sn.nameOf x.1)).1 = bb at *
    have h25 : St E (byA o24 bb :: kn F1 :: diskA F1 c dp d :: blkL bf 86 (celX x) :: blkL ba 29 z5 :: ownS o.1 o.2.1 o.2.2 86 2 (ks.flatMap celX) :: L) w24 := h24.sel 6 [0, 2, 1, 3, 4, 5] (by simp)
    obtain ⟨F2, hF2, h26, hsrc⟩ := St.srcB2 h25 (by omega)
    refine SGet_spec hsrc (by unfold big; omega) h26 (fun w28 e hge he h28 => ⟨_, _, _, _, _, _, _, _, _, _, _, _, rfl, ?_⟩) fun F3 w28 v l dd s hF3 hge hs h28 => ⟨_, _, _, _, _, _, _, _, _, _, _, _, rfl, ?_⟩
    · rw [hge] at hfin
      intro w35
      have h35 : St E (blkL w28.heap.size 29 z5 :: kn F2 :: diskA F1 c dp d :: blkL bf 86 (celX x) :: blkL ba 29 z5 :: ownS o.1 o.2.1 o.2.2 86 2 (ks.flatMap celX) :: L) w35 := h28.alloc (.cells ⟨z5⟩ 29)
      clear_value w35
      generalize w28.heap.size = b35 at *
      refine ⟨rfl, ok_snp h35 rfl 0 0 nilS nilS nilS, ?_⟩
      intro w36
      have h36 := h35.wr_snp rfl 0 0 nilS nilS nilS
      have h36 : St E (blkL b35 29 z5 :: kn F2 :: diskA F1 c dp d :: blkL bf 86 (celX x) :: blkL ba 29 z5 :: ownS o.1 o.2.1 o.2.2 86 2 (ks.flatMap celX) :: L) w36 := h36
      clear_value w36
      refine ite_b (fun hz => absurd (by simpa using hz) he) fun _ => ?_
      rw [succ_big (by unfold big; omega)]
      have h37 : St E (diskA F1 c dp d :: blkL ba 29 z5 :: ownS o.1 o.2.1 o.2.2 86 2 (ks.flatMap celX) :: kn F2 :: L) w36 := h36.sel 6 [2, 4, 5, 1] (by simp)
      exact ihj w36 F2 (Fz.le_trans hF1 hF2) hfin ((St.dk_mono h37 hF2).sel 4 [1, 2, 0, 3] (by simp))
    · rw [hge] at hfin
      simp only at hfin
      intro w35
      have h35 : St E (blkL w28.heap.size 29 z5 :: kn F3 :: diskA F1 c dp d :: blkL bf 86 (celX x) :: blkL ba 29 z5 :: ownS o.1 o.2.1 o.2.2 86 2 (ks.flatMap celX) :: L) w35 := h28.alloc (.cells ⟨z5⟩ 29)
      clear_value w35
      generalize w28.heap.size = b35 at *
      refine ⟨rfl, ok_snp h35 rfl s.idx s.term v l dd, ?_⟩
      intro w36
      have h36 := h35.wr_snp rfl s.idx s.term v l dd
      have h36 : St E (blkL b35 29 (snpL s.idx s.term v l dd) :: kn F3 :: diskA F1 c dp d :: blkL bf 86 (celX x) :: blkL ba 29 z5 :: ownS o.1 o.2.1 o.2.2 86 2 (ks.flatMap celX) :: L) w36 := h36
      clear_value w36
      have hF13 := Fz.le_trans hF2 hF3
      refine ite_b (fun _ => ?_) fun hz => by simp at hz
      refine ⟨_, rd_cell h36.at_blk rfl rfl, _, rd_fld h36.f3.at_blk rfl rfl, ite_b (fun hi => ?_) fun hi => ?_⟩
      · have hi : s.idx = (x.1 : Int) := by simpa using hi
        rw [if_pos hi] at hfin
        have h37 : St E (blkL ba 29 z5 :: blkL b35 29 (snpL s.idx s.term v l dd) :: kn F3 :: diskA F1 c dp d :: L) w36 := h36.sel 6 [4, 0, 1, 2] (by simp)
        refine ⟨_, _, _, _, _, _, _, _, _, _, _, rd_snp h36, rfl, ok_snp h37 rfl s.idx s.term v l dd, ?_⟩
        intro w44
        have h44 : St E (blkL ba 29 (snpL s.idx s.term v l dd) :: blkL b35 29 (snpL s.idx s.term v l dd) :: kn F3 :: diskA F1 c dp d :: L) w44 := h37.wr_snp rfl s.idx s.term v l dd
        clear_value w44
        have h45 : St E (diskA F1 c dp d :: kn F3 :: blkL ba 29 (snpL s.idx s.term v l dd) :: L) w44 := h44.sel 4 [3, 2, 0] (by simp)
        exact kR F3 w44 v l dd s (Fz.le_trans hF1 hF13) hfin.symm hs ((St.dk_mono h45 hF13).sel 3 [2, 0, 1] (by simp))
      · have hi : s.idx ≠ (x.1 : Int) := by simpa using hi
        rw [if_neg hi] at hfin
        rw [succ_big (by unfold big; omega)]
        have h37 : St E (diskA F1 c dp d :: blkL ba 29 z5 :: ownS o.1 o.2.1 o.2.2 86 2 (ks.flatMap celX) :: kn F3 :: L) w36 := h36.sel 6 [2, 4, 5, 1] (by simp)
        exact ihj w36 F3 (Fz.le_trans hF1 hF13) hfin ((St.dk_mono h37 hF13).sel 4 [1, 2, 0, 3] (by simp))
  · have : j = ks.length := by omega
    subst this
    rw [List.drop_length] at hfin
    exact kN F1 w hF1 hfin.symm (h.sel 4 [0, 2, 3] (by simp))
theorem Load_spec (I : Dk.Inv d) (h : St E (diskA F c dp d :: kn F :: L) w)
    (k : ∀ (G : Fz) (w' : World) (v l dd : Sl), Fz.le F G → snpR G v l dd (Sn.load d).1 → St E (diskA G c dp d :: kn G :: L) w' → R (.returned (.tuple #[snpV (Sn.load d).1.idx (Sn.load d).1.term v l dd, .int .i64 (Sn.load d).2])) w') :
    Calls Try.prog 23 #[.pointer (some ⟨dp, 0, none⟩)] w R := by
  refine C_snap_Load ?_
  unfold T_snap_Load
  intro w2
  have h2 : St E (diskA F c dp d :: kn F :: blkL w.heap.size 29 z5 :: L) w2 := (h.alloc (.cells ⟨z5⟩ 29)).sel 3 [1, 2, 0] (by simp)
  clear_value w2
  generalize w.heap.size = ba at *
  refine ite_b (fun hh => by simp at hh) fun _ => ?_
  refine Files_spec I h2 fun w10 o ks hks hdn hol h10 => ⟨_, _, _, rfl, ?_⟩
  have hkl : ks.length ≤ 1000 := by
    have h1 : ks.length = (Sn.nums d.l).length := by rw [← hks.length_eq, List.length_map]
    have h2 : (Sn.nums d.l).length ≤ d.l.length := by unfold Sn.nums; exact Nat.le_trans (List.length_filter_le ..) (by simp)
    have h3 := I.n
    omega
  have hp := Sn.load_pick I hks (List.pairwise_map.2 hdn)
  refine load_loop hkl hol I hp (h10.sel 4 [3, 0, 1, 2] (by simp)) (fun G w49 hG hn h49 => ?_) fun G w57 v l dd s hG hn hs h57 => ?_
  · rw [hn] at k
    refine ⟨rfl, ok_snp h49 rfl 0 0 nilS nilS nilS, ?_⟩
    intro w50
    have h50 : St E (blkL ba 29 z5 :: diskA G c dp d :: kn G :: L) w50 := h49.wr_snp rfl 0 0 nilS nilS nilS
    clear_value w50
    exact ⟨_, _, _, _, _, _, _, _, _, _, _, rd_snp h50, k G w50 nilS nilS nilS hG ⟨⟨RdF.nil G none, RdF.nil G none⟩, ⟨RdF.nil G none, rfl, Nat.le_refl _, by decide⟩⟩ h50.drop⟩
  · rw [hn] at k
    exact ⟨_, _, _, _, _, _, _, _, _, _, _, rd_snp h57, k G w57 v l dd hG hs h57.drop⟩
end
end Go.Vc

/-
  What must be whatever is asked: live.
-/
namespace Go.Vc
open Go Go.Proofs Go.Proofs.Ytclinifclfahfaa
set_option maxRecDepth 100000
def lv1 : Dk.Ds := (Sn.save (Dk.newD 1000) (ofS 3)).1
def lv2 : Dk.Ds := (Sn.save lv1 (ofS 12)).1
theorem lv_1 : Sn.save (Dk.newD 1000) (ofS 3) = (lv1, 0) := by kernel_rfl
theorem lv_2 : Sn.save lv1 (ofS 12) = (lv2, 0) := by kernel_rfl
theorem lv_3 : Sn.load lv2 = (ofS 12, 0) := by kernel_rfl
theorem lv_4 : namesOf lv2 = [Sn.nameOf 12] := by kernel_rfl
theorem lv_5 : piecesR [97, 98, 99] 2 = [[3, 0, 97, 98], [3, 2, 99]] := by kernel_rfl
theorem lv_6 : Sn.piecesE [97, 98, 99] 2 = 0 := by kernel_rfl
theorem lvI0 : Dk.Inv (Dk.newD 1000) := Dk.Inv.new 1000
theorem Sn.save_inv {d : Dk.Ds} (I : Dk.Inv d) (s : Sn.Snp) : Dk.Inv (Sn.save d s).1 := by
  unfold Sn.save
  split
  · exact I
  · simp only
    split
    · exact ((I.remove _).write _ _ _).remove _
    · split
      · exact ((((I.remove _).write _ _ _).sync _).rename _ _).remove _
      · exact ((((I.remove _).write _ _ _).sync _).rename _ _).filter _
section
variable {E w : World} {L : List Asrt} {R : Ending → World → Prop} {F G : Fz} {q p o : Sl} {b : Cm.Bs} {dp c : Nat} {d : Dk.Ds}
theorem Of_spec2 {i : Int} {s : Sn.Snp} (hs : ofS i = s) (h : St E (kn F :: L) w) (k : ∀ (G : Fz) (w' : World) (v l d : Sl), Fz.le F G → snpR G v l d s → St E (kn G :: L) w' → R (.returned (snpV s.idx s.term v l d)) w') : Calls Try.prog 24 #[.int .i64 i] w R := by
  subst hs
  exact Of_spec h k
theorem DNew_spec2 {room : Int} (hd : Dk.newD room = d) (h : St E L w) (k : ∀ (w' : World) (dp : Nat), St E (diskA F 0 dp d :: L) w' → R (.returned (.pointer (some ⟨dp, 0, none⟩))) w') : Calls Try.prog 16 #[.int .i64 room] w R := by
  subst hd
  exact DNew_spec h k
theorem Save_spec2 {v l dd : Sl} {s : Sn.Snp} {d2 : Dk.Ds} {e : Int} (he : Sn.save d s = (d2, e)) (I : Dk.Inv d) (hc : c + 1 ≤ 1000000) (r : snpR F v l dd s) (z1 : s.mem.v.length ≤ huge) (z2 : s.mem.l.length ≤ huge) (h : St E (diskA F c dp d :: kn F :: L) w)
    (k : ∀ (G : Fz) (w' : World), Fz.le F G → Dk.Inv d2 → St E (diskA G (c + 1) dp d2 :: kn G :: L) w' → R (.returned (.int .i64 e)) w') :
    Calls Try.prog 17 #[.pointer (some ⟨dp, 0, none⟩), snpV s.idx s.term v l dd] w R := by
  have I2 := Sn.save_inv I s
  rw [he] at I2
  refine Save_spec I hc r z1 z2 h fun G w' hG h' => ?_
  rw [he] at h' ⊢
  exact k G w' hG I2 h'
theorem Load_spec2 {s : Sn.Snp} {e : Int} (he : Sn.load d = (s, e)) (I : Dk.Inv d) (h : St E (diskA F c dp d :: kn F :: L) w)
    (k : ∀ (G : Fz) (w' : World) (v l dd : Sl), Fz.le F G → snpR G v l dd s → St E (diskA G c dp d :: kn G :: L) w' → R (.returned (.tuple #[snpV s.idx s.term v l dd, .int .i64 e])) w') :
    Calls Try.prog 23 #[.pointer (some ⟨dp, 0, none⟩)] w R := by
  refine Load_spec I h fun G w' v l dd hG hs h' => ?_
  rw [he] at hs ⊢
  exact k G w' v l dd hG hs h'
theorem Names_spec2 {ns : List Cm.Bs} (hn : namesOf d = ns) (I : Dk.Inv d) (h : St E (diskA F c dp d :: L) w)
    (k : ∀ (w' : World) (o : Sl), o.2.1 = ns.length → St E (ownS o.1 o.2.1 o.2.2 9 1 (ns.flatMap celS) :: diskA F c dp d :: L) w' → R (.returned (.slice o.1 o.2.1 o.2.2)) w') :
    Calls Try.prog 20 #[.pointer (some ⟨dp, 0, none⟩)] w R := by
  subst hn
  exact DNames_spec I h k
theorem Pieces_spec2 {size e : Int} {rs : List Cm.Bs} (hr : piecesR b size = rs) (he : Sn.piecesE b size = e) (hs : Src F q b) (h64 : size ≤ 9223372036854775807) (h : St E (kn F :: L) w)
    (k : ∀ (G : Fz) (w' : World) (o : Sl) (qs : List Sl), Fz.le F G → Rows G qs rs → St E (rowA o qs :: kn G :: L) w' → R (.returned (.tuple #[.slice o.1 o.2.1 o.2.2, .int .i64 e])) w') :
    Calls Try.prog 13 #[.slice q.1 q.2.1 q.2.2, .int .i64 size] w R := by
  subst hr he
  exact Pieces_spec hs h64 h k
set_option maxHeartbeats 400000 in
theorem live_gen {d0 d1 d2 : Dk.Ds} {s3 s12 : Sn.Snp} {n12 : Cm.Bs} (hd0 : Dk.newD 1000 = d0) (I0 : Dk.Inv d0) (hs3 : ofS 3 = s3) (hs12 : ofS 12 = s12) (m3 : s3.mem.v.length ≤ huge ∧ s3.mem.l.length ≤ huge) (m12 : s12.mem.v.length ≤ huge ∧ s12.mem.l.length ≤ huge) (hx : s12.idx = 12) (e1 : Sn.save d0 s3 = (d1, 0)) (e2 : Sn.save d1 s12 = (d2, 0)) (e3 : Sn.load d2 = (s12, 0)) (e4 : namesOf d2 = [n12]) (hn : encN n12 = .string (ByteArray.mk #[115, 110, 97, 112, 45, 49, 50])) (e5 : piecesR [97, 98, 99] 2 = [[3, 0, 97, 98], [3, 2, 99]]) (e6 : Sn.piecesE [97, 98, 99] 2 = 0)
    (h : St E (kn F :: L) w) (k : ∀ (G : Fz) (w' : World), Fz.le F G → St E (kn G :: L) w' → R (.returned (.bool true)) w') : Calls Try.prog 12 #[] w R := by
  refine C_law07_live ?_
  unfold T_law07_live
  refine DNew_spec2 (F := F) hd0 h fun w2 dp h2 => ⟨_, rfl, ?_⟩
  refine Of_spec2 hs3 h2.f1 fun G1 w5 v1 l1 dd1 hG1 r1 h5 => ⟨_, _, _, _, _, _, _, _, _, _, _, rfl, ?_⟩
  have h6 : St E (diskA G1 0 dp d0 :: kn G1 :: L) w5 := St.dk_mono h5.f1 hG1
  refine Save_spec2 e1 I0 (by decide) r1 m3.1 m3.2 h6 fun G2 w12 hG2 I1 h12 => ⟨_, rfl, ?_⟩
  refine Of_spec2 hs12 h12.f1 fun G3 w15 v2 l2 dd2 hG3 r2 h15 => ⟨_, _, _, _, _, _, _, _, _, _, _, rfl, ?_⟩
  have h16 := St.dk_mono h15.f1 hG3
  refine Save_spec2 e2 I1 (by decide) r2 m12.1 m12.2 h16 fun G4 w22 hG4 I2 h22 => ⟨_, rfl, ?_⟩
  refine Load_spec2 e3 I2 h22 fun G5 w25 v3 l3 d3 hG5 r3 h25 => ⟨_, _, _, _, _, _, _, _, _, _, _, _, rfl, ?_⟩
  intro w32
  have h32 : St E (blkL w25.heap.size 29 z5 :: kn G5 :: diskA G5 (0 + 1 + 1) dp d2 :: L) w32 := (h25.f1).alloc (.cells ⟨z5⟩ 29)
  clear_value w32
  generalize w25.heap.size = b32 at *
  refine ⟨rfl, ok_snp h32 rfl s12.idx s12.term v3 l3 d3, ?_⟩
  intro w33 w34
  have h33 : St E (blkL b32 29 (snpL s12.idx s12.term v3 l3 d3) :: kn G5 :: diskA G5 (0 + 1 + 1) dp d2 :: L) w33 := h32.wr_snp rfl s12.idx s12.term v3 l3 d3
  have h34 : St E (blkL w33.heap.size 5 (bytesV [97, 98, 99]) :: kn G5 :: blkL b32 29 (snpL s12.idx s12.term v3 l3 d3) :: diskA G5 (0 + 1 + 1) dp d2 :: L) w34 := ((h33.alloc (.cells ⟨bytesV [97, 98, 99]⟩ 5))).sel 4 [0, 2, 1, 3] (by simp)
  clear_value w34
  generalize w33.heap.size = b34 at *
  obtain ⟨G6, w36, hr, hG6, hs6, h36⟩ := conv_lit (l := 3) (c := 3) h34 rfl (Nat.le_refl 3) (by decide)
  refine runV_ok hr ⟨_, _, _, rfl, ?_⟩
  have hq := fun (R : Ending → World → Prop) => @Pieces_spec2 E w36 _ R G6 (some ⟨b34, 0, none⟩, 3, 3) [97, 98, 99] 2 0 _ e5 e6 hs6 (by decide) h36
  refine hq _ fun G7 w39 o qs hG7 hrows h39 => ?_
  refine ⟨_, _, _, _, rfl, ?_⟩
  refine ite_b (fun _ => ?_) fun hh => by simp at hh
  refine ite_b (fun _ => ?_) fun hh => by simp at hh
  refine ite_b (fun _ => ?_) fun hh => by simp at hh
  refine ⟨_, rd_cell h39.f2.at_blk rfl rfl, ite_b (fun _ => ?_) fun hh => by rw [hx] at hh; simp at hh⟩
  have h40 : St E (diskA G5 (0 + 1 + 1) dp d2 :: rowA o qs :: kn G7 :: L) w39 := h39.sel 4 [3, 0, 1] (by simp)
  refine Names_spec2 e4 I2 h40 fun w44 s45 hl45 h44 => ⟨_, _, _, rfl, ?_⟩
  rw [← hn]
  intro w46
  have h46 : St E (blkL w44.heap.size 9 [encN n12] :: ownS s45.1 s45.2.1 s45.2.2 9 1 ([n12].flatMap celS) :: diskA G5 (0 + 1 + 1) dp d2 :: rowA o qs :: kn G7 :: L) w46 := h44.alloc (.cells ⟨[encN n12]⟩ 9)
  clear_value w46
  generalize w44.heap.size = b46 at *
  refine SameTexts_spec (xs := [n12]) (ys := [n12]) (a := s45) (c := (some ⟨b46, 0, none⟩, 1, 1)) hl45 rfl (by show 1 ≤ 1000000; decide) (fun w h => h.f1.rdS_own) (fun w h => ?_) h46 fun w48 h48 => ⟨_, rfl, ?_⟩
  · have hb := h.at_blk
    exact ⟨rfl, .inr ⟨b46, 0, rfl, fun i u hu => by rw [Nat.zero_add, cell_of hb]; exact hu⟩⟩
  refine ite_b (fun _ => ?_) fun hh => by simp at hh
  refine ite_b (fun _ => ?_) fun hh => by simp at hh
  have hql : qs.length = 2 := hrows.len
  have h49 : St E (rowA o qs :: kn G7 :: L) w48 := h48.sel 5 [3, 4] (by simp)
  have hol : o.2.1 = 2 := by rw [← h49.row_count, hql]
  rw [hol]
  refine ite_b (fun _ => ?_) fun hh => by simp at hh
  obtain ⟨ad, hae, hrd⟩ := one_at (f := fun q : Sl => Value.slice q.1 q.2.1 q.2.2) (fun _ => rfl) (h49.rdS_own :) (show 1 < qs.length by omega)
  have hsrc := hrows.get (i := 1) (List.getElem?_eq_getElem (by omega)) rfl
  refine ⟨by decide, by decide, ad, hae, _, _, _, hrd, ?_⟩
  refine runV_ok (conv_srcT hsrc (by simp) h49) ⟨_, rfl, ?_⟩
  have e : ((bs [3, 2, 99]).toList == (ByteArray.mk #[3, 2, 99]).toList) = true := bs_beq [3, 2, 99] [3, 2, 99] ▸ rfl
  rw [e]
  exact k G7 w48 (Fz.le_trans hG1 (Fz.le_trans hG2 (Fz.le_trans hG3 (Fz.le_trans hG4 (Fz.le_trans hG5 (Fz.le_trans hG6 hG7)))))) (h49.drop)
theorem live_spec (h : St E (kn F :: L) w) (k : ∀ (G : Fz) (w' : World), Fz.le F G → St E (kn G :: L) w' → R (.returned (.bool true)) w') : Calls Try.prog 12 #[] w R :=
  live_gen rfl lvI0 rfl rfl (by decide) (by decide) rfl (d1 := lv1) (d2 := lv2) lv_1 lv_2 lv_3 lv_4 rfl lv_5 lv_6 h k
end
end Go.Vc

/-
  What came in: bytes, numbers, snapshots; and how much they take.
-/
namespace Go.Vc
open Go Go.Proofs Go.Proofs.Ytclinifclfahfaa Go.RowKit
set_option maxRecDepth 100000
section
variable {H : Type} {enc : TypeId × Value → H} {W : World} {P : Program}
theorem slice_capS {t e : TypeId} {a : Option Addr} {l c : Nat} {fuel : Nat} {x : DataW H × List MemPlace} (ht : P.underlying t = some (.slice e)) (h : DataW.trod enc P W 0 (fun _ => true) true fuel t [.slice a l c] = some x) : l ≤ c ∧ ∀ N, (∀ n ∈ DataW.weights P t x.1, n ≤ N) → l * P.bytesOf e ≤ N := by
  rcases DataW.trod_slice ht h with ⟨hcs, _⟩ | ⟨ad, len, cap, elems, rest, n, _, hcs, hx, _, hl, _, hlen, _⟩
  · simp at hcs
    obtain ⟨rfl, rfl, rfl⟩ := hcs
    exact ⟨Nat.le_refl _, fun N _ => by simp⟩
  · simp at hcs
    obtain ⟨rfl, rfl, rfl⟩ := hcs
    refine ⟨hl, fun N hN => ?_⟩
    have := hN ((elems.length + rest.length) * P.bytesOf e) (by rw [hx]; simp [DataW.weights, ht])
    have h2 : l * P.bytesOf e ≤ (elems.length + rest.length) * P.bytesOf e := Nat.mul_le_mul_right _ (by omega)
    omega
section
variable {t e : TypeId} {a : Option Addr} {l c sz : Nat}
end
theorem sliceV {t e : TypeId} (ht : P.underlying t = some (.slice e)) {fuel : Nat} {v : Value} {x : DataW H × List MemPlace} (h : DataW.trod enc P W 0 (fun _ => true) true fuel t [v] = some x) : ∃ a l c, v = .slice a l c := by
  rcases DataW.trod_slice ht h with ⟨hcs, _⟩ | ⟨ad, len, cap, _, _, _, _, hcs, _⟩
  · simp at hcs; exact ⟨_, _, _, hcs⟩
  · simp at hcs; exact ⟨_, _, _, hcs⟩
end
section
variable {H : Type} {enc : TypeId × Value → H} {W : World}
def F0 (W : World) : Fz := fun b => W.heap[b]?
/-- Bytes that came in. -/
theorem bytesF {a : Option Addr} {l c : Nat} {fuel : Nat} {x : DataW H × List MemPlace} (hm : DataW.trod enc Try.prog W 0 (fun _ => true) true fuel 27 [.slice a l c] = some x) : ∃ b, Src (F0 W) (a, l, c) b ∧ ∀ N, (∀ n ∈ DataW.weights Try.prog 27 x.1, n ≤ N) → b.length ≤ N := by
  obtain ⟨b, hr, hl⟩ := open_bytes Try.underlying27 Try.underlying5 (by kernel_rfl) hm
  have hn : b.length = l := by have := hr.1; simpa using this
  obtain ⟨hc, hw⟩ := slice_capS Try.underlying27 hm
  refine ⟨b, ⟨RdF.of_world hr, hn, hc, by rw [hn]; exact hl⟩, fun N hN => ?_⟩
  have := hw N hN
  rw [show Try.prog.bytesOf 5 = 1 by kernel_rfl] at this
  omega
/-- Numbers that came in. -/
theorem intsF {a : Option Addr} {l c : Nat} {fuel : Nat} {x : DataW H × List MemPlace} (hm : DataW.trod enc Try.prog W 0 (fun _ => true) true fuel 24 [.slice a l c] = some x) : ∃ b : List Int, RdF (F0 W) a l 1 (intV b) ∧ b.length = l ∧ l ≤ maxLen ∧ (∀ i ∈ b, -9223372036854775808 ≤ i ∧ i ≤ 9223372036854775807) ∧ ∀ N, (∀ n ∈ DataW.weights Try.prog 24 x.1, n ≤ N) → b.length * 8 ≤ N := by
  obtain ⟨b, hr, hl, hg⟩ := open_elems (β := Int) (f := fun i => [.int .i64 i]) (fun i => -9223372036854775808 ≤ i ∧ i ≤ 9223372036854775807) (fun _ => rfl) (by decide) Try.underlying24 (by kernel_rfl) (fun n cs x hx => by
    obtain ⟨k, rfl, _, hw⟩ := DataW.trod_int Try.underlying3 hx
    simp [Lit.wf, IntKind.min, IntKind.max, IntKind.signed, IntKind.bits] at hw
    exact ⟨k, rfl, by omega⟩) hm
  have hn : b.length = l := by have := hr.count (f := fun i : Int => [Value.int .i64 i]) (fun _ => rfl) (by decide); exact this
  rw [← List.map_eq_flatMap] at hr
  obtain ⟨hc, hw⟩ := slice_capS Try.underlying24 hm
  refine ⟨b, RdF.of_world hr, hn, hl, hg, fun N hN => ?_⟩
  have := hw N hN
  rw [show Try.prog.bytesOf 3 = 8 by kernel_rfl] at this
  omega
/-- The bounds of a snapshot that came in. -/
def snpZ (N : Nat) (s : Sn.Snp) : Prop := s.mem.v.length * 8 ≤ N ∧ s.mem.l.length * 8 ≤ N ∧ s.data.length ≤ N
def snpH (s : Sn.Snp) : Prop := s.mem.v.length ≤ huge ∧ s.mem.l.length ≤ huge
theorem open_snap {cs : List Value} {fuel : Nat} {x : DataW H × List MemPlace} (hx : DataW.trod enc Try.prog W 0 (fun _ => true) true fuel 29 cs = some x) :
    ∃ (s : Sn.Snp) (v l d : Sl), cs = snpL s.idx s.term v l d ∧ snpR (F0 W) v l d s ∧ snpH s ∧ ∀ N, (∀ n ∈ DataW.weights Try.prog 29 x.1, n ≤ N) → snpZ N s := by
  obtain ⟨xs, m, _, hxe, hcl, hxl, hfs⟩ := DataW.trod_struct Try.underlying29 hx
  rw [show Try.prog.cellsOf 29 = 5 by kernel_rfl] at hcl
  have hxl3 : xs.length = 3 := hxl
  have c1 : Try.prog.cellsOf 23 = 2 := by kernel_rfl
  have c2 : Try.prog.cellsOf 26 = 2 := by kernel_rfl
  have c3 : Try.prog.cellsOf 27 = 1 := by kernel_rfl
  have c4 : Try.prog.cellsOf 3 = 1 := by kernel_rfl
  have c5 : Try.prog.cellsOf 24 = 1 := by kernel_rfl
  match cs, hcl with
  | [v0, v1, v2, v3, v4], _ =>
    have f0 := hfs 0 _ rfl
    have f1 := hfs 1 _ rfl
    have f2 := hfs 2 _ rfl
    simp only [List.getElem_toArray, List.getElem_cons_zero, List.getElem_cons_succ, c1, c2, c3, List.drop_zero, List.drop_succ_cons, List.take_succ_cons, List.take_zero] at f0 f1 f2
    rw [List.getElem?_eq_getElem (by omega)] at f0 f1 f2
    obtain ⟨ys, m1, _, hye, _, hyl, hgs⟩ := DataW.trod_struct Try.underlying23 f0
    obtain ⟨zs, m2, _, hze, _, hzl, hhs⟩ := DataW.trod_struct Try.underlying26 f1
    have hyl2 : ys.length = 2 := hyl
    have hzl2 : zs.length = 2 := hzl
    have g0 := hgs 0 _ rfl
    have g1 := hgs 1 _ rfl
    have h0 := hhs 0 _ rfl
    have h1 := hhs 1 _ rfl
    simp only [List.getElem_toArray, List.getElem_cons_zero, List.getElem_cons_succ, c4, c5, List.drop_zero, List.drop_succ_cons, List.take_succ_cons, List.take_zero] at g0 g1 h0 h1
    rw [List.getElem?_eq_getElem (by omega)] at g0 g1 h0 h1
    obtain ⟨k0, e0, _⟩ := DataW.trod_int Try.underlying3 g0
    obtain ⟨k1, e1, _⟩ := DataW.trod_int Try.underlying3 g1
    obtain ⟨a2, l2, q2, rfl⟩ := sliceV Try.underlying24 h0
    obtain ⟨a3, l3, q3, rfl⟩ := sliceV Try.underlying24 h1
    obtain ⟨a4, l4, q4, rfl⟩ := sliceV Try.underlying27 f2
    obtain ⟨bv, rv, nv, mv, _, wv⟩ := intsF h0
    obtain ⟨bl, rl, nl, ml, _, wl⟩ := intsF h1
    obtain ⟨bd, rd, wd⟩ := bytesF f2
    simp at e0 e1
    subst e0 e1
    have hml : maxLen = huge := rfl
    refine ⟨⟨k0, k1, ⟨bv, bl⟩, bd⟩, (a2, l2, q2), (a3, l3, q3), (a4, l4, q4), rfl, ⟨⟨rv, rl⟩, rd⟩, ⟨by show bv.length ≤ huge; omega, by show bl.length ≤ huge; omega⟩, fun N hN => ?_⟩
    have hN' : ∀ n ∈ DataW.weightsEach Try.prog [23, 26, 27] (xs.map (·.1)), n ≤ N := fun n hn => hN n (by
      rw [hxe]
      unfold DataW.weights
      rw [Try.underlying29]
      exact hn)
    have hN1 : ∀ n ∈ DataW.weights Try.prog 26 (xs[1].1), n ≤ N := fun n hn => hN' n (DataW.weights_mem_each (j := 1) rfl (by rw [List.getElem?_map, List.getElem?_eq_getElem (by omega)]; rfl) n hn)
    have hN2 : ∀ n ∈ DataW.weights Try.prog 27 (xs[2].1), n ≤ N := fun n hn => hN' n (DataW.weights_mem_each (j := 2) rfl (by rw [List.getElem?_map, List.getElem?_eq_getElem (by omega)]; rfl) n hn)
    have hM : ∀ n ∈ DataW.weightsEach Try.prog [24, 24] (zs.map (·.1)), n ≤ N := fun n hn => hN1 n (by
      rw [hze]
      unfold DataW.weights
      rw [Try.underlying26]
      exact hn)
    exact ⟨wv N fun n hn => hM n (DataW.weights_mem_each (j := 0) rfl (by rw [List.getElem?_map, List.getElem?_eq_getElem (by omega)]; rfl) n hn), wl N fun n hn => hM n (DataW.weights_mem_each (j := 1) rfl (by rw [List.getElem?_map, List.getElem?_eq_getElem (by omega)]; rfl) n hn), wd N hN2⟩
end
end Go.Vc

/-
  Get, told at once for right and wrong bytes; its sizes.
-/
namespace Go.Vc
open Go Go.Proofs Go.Proofs.Ytclinifclfahfaa
set_option maxRecDepth 100000
section
variable {E w : World} {L : List Asrt} {R : Ending → World → Prop} {F G : Fz} {q p o : Sl} {b : Cm.Bs}
end
end Go.Vc

/-
  The disk: Crash.
-/
namespace Go.Vc
open Go Go.Proofs Go.Proofs.Ytclinifclfahfaa
set_option maxRecDepth 100000
section
variable {E w : World} {L : List Asrt} {R : Ending → World → Prop} {F G : Fz} {q s : Sl} {b : Cm.Bs} {dp c : Nat} {d : Dk.Ds} {m : List (Cm.Bs × Nat)} {fs : List FR} {n : Cm.Bs}
theorem crash_2 {keep : List Int} {ks : Sl} {i : Nat} {K : Int → World → Prop} {Kp : List PanicEntry → World → Prop} (hr : RdF F ks.1 ks.2.1 1 (intV keep)) (hkl : keep.length = ks.2.1) (hm : kn F ∈ L) (h : St E L w) (k : K ((Dk.keepAt keep i : Nat) : Int) w) :
    T_disk_Disk_Crash_2 ks.1 ks.2.1 ks.2.2 (i : Int) 0 (decide ((i : Int) < ((ks.2.1 : Nat) : Int))) w K Kp := by
  unfold T_disk_Disk_Crash_2
  refine ite_d (fun hh => ?_) fun hh => ?_
  · have hi : i < keep.length := by omega
    obtain ⟨ad, hae, hrd⟩ := one_at (f := fun x : Int => Value.int .i64 x) (qs := keep) (fun _ => rfl) (by rw [← List.map_eq_flatMap]; exact hr.at h hm) hi
    refine ⟨by omega, by omega, ad, hae, _, hrd, ?_⟩
    have e : (if keep[i] > 0 then keep[i] else 0) = ((Dk.keepAt keep i : Nat) : Int) := by
      unfold Dk.keepAt
      rw [List.getElem?_eq_getElem hi]
      show _ = ((keep[i].toNat : Nat) : Int)
      split <;> omega
    rw [e]
    exact k
  · have e : Dk.keepAt keep i = 0 := by
      unfold Dk.keepAt
      rw [List.getElem?_eq_none (by omega)]
      rfl
    rw [e] at k
    exact k
set_option maxHeartbeats 2000000 in
theorem DCrash_spec {keep : List Int} {ks : Sl} (I : Dk.Inv d) (hr : RdF F ks.1 ks.2.1 1 (intV keep)) (hkl : keep.length = ks.2.1) (hk64 : ∀ i ∈ keep, i ≤ 9223372036854775807) (hc : c ≤ 1000000) (h : St E (diskA F c dp d :: kn F :: L) w)
    (k : ∀ (G : Fz) (w' : World), Fz.le F G → St E (diskA G c dp (Dk.crash d keep) :: kn G :: L) w' → R (.returned (.tuple #[])) w') :
    Calls Try.prog 22 #[.pointer (some ⟨dp, 0, none⟩), .slice ks.1 ks.2.1 ks.2.2] w R := by
  have hdl := I.n
  refine C_disk_Disk_Crash ?_
  unfold T_disk_Disk_Crash
  refine DNames_spec I h fun w4 o hol h4 => ⟨_, _, _, rfl, ?_⟩
  have hnl : (namesOf d).length = d.l.length := by unfold namesOf; rw [List.length_map]
  unfold T_disk_Disk_Crash_1
  intro X hX
  refine up_to d.l.length (Q := fun j => ∀ (w : World) (G : Fz), Fz.le F G → Dk.Inv ⟨d.room, Dk.mid keep d.l j⟩ → St E (diskA G c dp ⟨d.room, Dk.mid keep d.l j⟩ :: kn G :: ownS o.1 o.2.1 o.2.2 9 1 ((namesOf d).flatMap celS) :: L) w → X (j : Int) w) ?_ w4 F (Fz.le_refl F) (by rw [Dk.mid_zero]; exact I) (by rw [Dk.mid_zero]; exact h4.sel 3 [1, 2, 0] (by simp))
  intro j hj ih w G hG Ij h
  refine hX _ _ ?_
  unfold T_disk_Disk_Crash_1_body
  rw [hol]
  refine ite_d (fun hh => ?_) fun hh => ?_
  · have hjl : j < d.l.length := by omega
    have hjn : j < (namesOf d).length := by omega
    obtain ⟨ad, hae, hrd⟩ := one_at (f := encN) (fun _ => rfl) (hol ▸ h.f2.rdS_own :) hjn
    refine ⟨by omega, by omega, ad, hae, _, hrd, ?_⟩
    have hname : (namesOf d)[j] = d.l[j].name := List.getElem_map (l := d.l) (fun f : Dk.Fl => f.name)
    rw [hname]
    refine crash_2 (hr.mono hG) hkl (by simp) h ?_
    have ihj := ih hjl
    have Ij1 := Dk.mid_inv hjl Ij
    have hfd := Dk.mid_find hjl Ij
    have hdel := fun hx => Dk.mid_del hjl Ij hx
    have hput := fun g hx => Dk.mid_put (g := g) hjl Ij hx
    have hkk : Dk.keepAt keep j ≤ 9223372036854775807 := by
      unfold Dk.keepAt
      cases hg : keep[j]? with
      | none => exact Nat.zero_le _
      | some x =>
        have := hk64 x (List.mem_of_getElem? hg)
        show x.toNat ≤ _
        omega
    generalize Dk.keepAt keep j = kk at *
    generalize Dk.mid keep d.l (j + 1) = dj1 at *
    generalize hdjE : Dk.mid keep d.l j = dj at *
    generalize d.l[j] = fl at *
    clear ih hX hrd
    obtain ⟨bm, m, fs, ok, h5⟩ := h.dk_open
    refine ⟨_, rfl, _, rd_fld h5.at_blk rfl rfl, ?_⟩
    have hlk := lookup_run (P := Try.prog) (t := 79) (et := 88) nameLaw (by kernel_rfl) (z := .pointer none) (by kernel_rfl) h5.f1 fl.name
    cases hg : mget m fl.name with
    | none =>
      exfalso
      have := (dk_gone ok hg).1
      have hfd : Dk.find dj fl.name = some fl := hfd
      have this : Dk.find dj fl.name = none := this
      rw [hfd] at this; cases this
    | some p =>
      obtain ⟨x, l1, l2, hf, hx1, hx2, hfx⟩ := dk_there ok Ij hg
      subst hf
      have hxf : x.fl = fl := by
        have h1 : Dk.find dj fl.name = some x.fl := hfx
        have h2 : Dk.find dj fl.name = some fl := hfd
        rw [h2] at h1
        injection h1 with h1
        exact h1.symm
      subst hxf
      rw [hg] at hlk
      subst hx2
      refine runV_ok hlk ⟨_, rfl, ?_⟩
      have h6 := h5.file_out
      have hxo : x.ok G := ok.ok x (by simp)
      have hxm : x.fl ∈ dj := (Dk.find_some (show Dk.find dj x.fl.name = some x.fl from hfx)).1
      have hxu : Dk.okU x.sure x.units := Ij.u x.fl hxm
      have hfew := ok.few x (by simp)
      have h7 : St E (blkL x.p 92 (fileV x.nw x.sr x.lasts x.ch) :: chA x.ch x.cs :: kn G :: (blkL dp 81 (diskV ⟨d.room, dj⟩ bm) :: mapA bm encN encF m :: (filesL (l1 ++ l2) ++ ownS o.1 (namesOf d).length o.2.2 9 1 ((namesOf d).flatMap celS) :: L))) w := by
        refine h6.perm (((List.Perm.refl _).cons _).cons _ |>.trans ?_)
        refine ((List.Perm.cons _ (List.Perm.cons _ ?_)))
        rw [hol]
        exact (List.perm_middle (l₁ := blkL dp 81 (diskV ⟨d.room, dj⟩ bm) :: mapA bm encN encF m :: filesL (l1 ++ l2)))
      refine after_spec hxo hxu hkk (by omega) h7 fun G2 w30 o2 hG2 hs2 h30 => ⟨_, _, _, _, rfl, ?_⟩
      unfold T_disk_Disk_Crash_3
      refine ⟨_, rfl, _, rd_fld h30.at_blk rfl rfl, ?_⟩
      have hml : (Dk.made x.sure (x.units.take kk)).length ≤ 262144 := (Dk.okU_len (Dk.okU_take kk hxu)).2
      have hGG := Fz.le_trans hG hG2
      -- the file goes
      have gone : Dk.crashF kk x.fl = none → ∀ (m43 : Option Nat), m43 = some bm → ∃ w45, (Builtin.delete_ #[79, 9] 0 #[.map m43, .string (bs x.name)]).run Try.prog w30 = .ok (.tuple #[]) w45 ∧ X ((j + 1 : Nat) : Int) w45 := by
        rintro hcr _ rfl
        have h31 : St E (mapA bm encN encF m :: (blkL dp 81 (diskV ⟨d.room, dj⟩ bm) :: kn G2 :: (filesL (l1 ++ l2) ++ ownS o.1 (namesOf d).length o.2.2 9 1 ((namesOf d).flatMap celS) :: L))) w30 := h30.sel 5 [4, 3, 2] (by simp)
        obtain ⟨w45, hrun, h45⟩ := delete_D h31 x.name
        refine ⟨w45, hrun, ihj w45 G2 hGG Ij1 ?_⟩
        have dkp := (dk_del (n := x.name) ok Ij d.room).mono hG2
        rw [but_mid (fs_nodup ok Ij)] at dkp
        have e : Dk.without dj x.name = dj1 := hdel hcr
        have dkp : dkOk G2 c ⟨d.room, dj1⟩ (mdel m x.name) (l1 ++ l2) := by rw [← e]; exact dkp
        rw [hol]
        refine St.dk_mk dkp (?_ : St E (blkL dp 81 (diskV ⟨d.room, dj1⟩ bm) :: mapA bm encN encF (mdel m x.name) :: (filesL (l1 ++ l2) ++ kn G2 :: ownS o.1 (namesOf d).length o.2.2 9 1 ((namesOf d).flatMap celS) :: L)) w45)
        have h46 : St E (blkL dp 81 (diskV ⟨d.room, dj1⟩ bm) :: mapA bm encN encF (mdel m x.name) :: kn G2 :: (filesL (l1 ++ l2) ++ ownS o.1 (namesOf d).length o.2.2 9 1 ((namesOf d).flatMap celS) :: L)) w45 := h45.sel 3 [1, 0, 2] (by simp)
        exact h46.perm (((List.perm_middle (l₁ := filesL (l1 ++ l2))).symm.cons _).cons _)
      -- the file stays
      have stay : Dk.crashF kk x.fl = some ⟨x.name, true, Dk.made x.sure (x.units.take kk), []⟩ → Calls Try.prog 44 #[.slice o2.1 o2.2.1 o2.2.2] w30 (ret (fun r46 w47 => ∃ s48a : Option Addr, ∃ s48l : Nat, ∃ s48c : Nat, r46 = .slice s48a s48l s48c ∧ ∃ a49, (some ⟨x.p, 0, none⟩ : Option Addr) = some a49 ∧ (.slice o2.1 o2.2.1 o2.2.2 : Value).cells.size = 1 ∧ wrOk w47 a49 (.slice o2.1 o2.2.1 o2.2.2) ∧ let w50 : World := wr w47 a49 (.slice o2.1 o2.2.1 o2.2.2)
          ∃ a51, (some ⟨x.p, 0, none⟩ : Option Addr) = some a51 ∧ (.slice s48a s48l s48c : Value).cells.size = 1 ∧ wrOk w50 (a51.add 1) (.slice s48a s48l s48c) ∧ let w52 : World := wr w50 (a51.add 1) (.slice s48a s48l s48c)
          ∃ a53, (some ⟨x.p, 0, none⟩ : Option Addr) = some a53 ∧ (.bool true : Value).cells.size = 1 ∧ wrOk w52 (a53.add 2) (.bool true) ∧ let w54 : World := wr w52 (a53.add 2) (.bool true)
          ∃ a55, (some ⟨x.p, 0, none⟩ : Option Addr) = some a55 ∧ (.slice none 0 0 : Value).cells.size = 1 ∧ wrOk w54 (a55.add 3) (.slice none 0 0) ∧ let w56 : World := wr w54 (a55.add 3) (.slice none 0 0)
          X (IntKind.wrap .i64 ((j : Int) + 1)) w56) (pan R)) := fun hcr => by
        refine Clone_spec (s := o2) (ys := Dk.made x.sure (x.units.take kk)) (fun A => hs2.sees' (by simp) A) (by unfold big; omega) h30 fun w47 s48 h47 => ⟨_, _, _, rfl, _, rfl, rfl, ?_⟩
        have h48 : St E (blkL x.p 92 (fileV x.nw x.sr x.lasts x.ch) :: byA s48 (Dk.made x.sure (x.units.take kk)) :: kn G2 :: (blkL dp 81 (diskV ⟨d.room, dj⟩ bm) :: mapA bm encN encF m :: (filesL (l1 ++ l2) ++ ownS o.1 (namesOf d).length o.2.2 9 1 ((namesOf d).flatMap celS) :: L))) w47 := h47.sel 4 [1, 0, 3] (by simp)
        refine ⟨wrOk_cell (off := 0) h48.at_blk (by show 0 < 4; decide) rfl, ?_⟩
        intro w50
        have h50 : St E (blkL x.p 92 (fileV o2 x.sr x.lasts x.ch) :: byA s48 (Dk.made x.sure (x.units.take kk)) :: kn G2 :: (blkL dp 81 (diskV ⟨d.room, dj⟩ bm) :: mapA bm encN encF m :: (filesL (l1 ++ l2) ++ ownS o.1 (namesOf d).length o.2.2 9 1 ((namesOf d).flatMap celS) :: L))) w50 := h48.wr_cell (off := 0) rfl
        clear_value w50
        refine ⟨_, rfl, rfl, wrOk_fld (k := 1) h50.at_blk (by show 1 < 4; decide) rfl, ?_⟩
        intro w52
        have h52 : St E (blkL x.p 92 (fileV o2 s48 x.lasts x.ch) :: byA s48 (Dk.made x.sure (x.units.take kk)) :: kn G2 :: (blkL dp 81 (diskV ⟨d.room, dj⟩ bm) :: mapA bm encN encF m :: (filesL (l1 ++ l2) ++ ownS o.1 (namesOf d).length o.2.2 9 1 ((namesOf d).flatMap celS) :: L))) w52 := h50.wr_fld (k := 1) rfl
        clear_value w52
        refine ⟨_, rfl, rfl, wrOk_fld (k := 2) h52.at_blk (by show 2 < 4; decide) rfl, ?_⟩
        intro w54
        have h54 : St E (blkL x.p 92 (fileV o2 s48 true x.ch) :: byA s48 (Dk.made x.sure (x.units.take kk)) :: kn G2 :: (blkL dp 81 (diskV ⟨d.room, dj⟩ bm) :: mapA bm encN encF m :: (filesL (l1 ++ l2) ++ ownS o.1 (namesOf d).length o.2.2 9 1 ((namesOf d).flatMap celS) :: L))) w54 := h52.wr_fld (k := 2) rfl
        clear_value w54
        refine ⟨_, rfl, rfl, wrOk_fld (k := 3) h54.at_blk (by show 3 < 4; decide) rfl, ?_⟩
        intro w56
        have h56 : St E (blkL x.p 92 (fileV o2 s48 true nilS) :: byA s48 (Dk.made x.sure (x.units.take kk)) :: kn G2 :: (blkL dp 81 (diskV ⟨d.room, dj⟩ bm) :: mapA bm encN encF m :: (filesL (l1 ++ l2) ++ ownS o.1 (namesOf d).length o.2.2 9 1 ((namesOf d).flatMap celS) :: L))) w56 := h54.wr_fld (k := 3) rfl
        clear_value w56
        have h57 : St E (byA s48 (Dk.made x.sure (x.units.take kk)) :: kn G2 :: blkL x.p 92 (fileV o2 s48 true nilS) :: (blkL dp 81 (diskV ⟨d.room, dj⟩ bm) :: mapA bm encN encF m :: (filesL (l1 ++ l2) ++ ownS o.1 (namesOf d).length o.2.2 9 1 ((namesOf d).flatMap celS) :: L))) w56 := h56.sel 3 [1, 2, 0] (by simp)
        obtain ⟨G3, hG3, h58, hs48⟩ := St.srcB2 h57 (by omega)
        let y : FR := { x with nw := o2, sr := s48, sure := Dk.made x.sure (x.units.take kk), lasts := true, ch := nilS, cs := [] }
        have hy : y.ok G3 := ⟨hs2.mono hG3, hs48, fun t ht => by cases ht⟩
        have hyf : y.fl = ⟨x.name, true, Dk.made x.sure (x.units.take kk), []⟩ := rfl
        have h59 : St E (chA nilS [] :: kn G3 :: blkL x.p 92 (fileV o2 s48 true nilS) :: (blkL dp 81 (diskV ⟨d.room, dj⟩ bm) :: mapA bm encN encF m :: (filesL (l1 ++ l2) ++ ownS o.1 (namesOf d).length o.2.2 9 1 ((namesOf d).flatMap celS) :: L))) w56 := h58.ownS_nil
        have p4 : St E (blkL y.p 92 (fileV y.nw y.sr y.lasts y.ch) :: ownS y.ch.1 y.ch.2.1 y.ch.2.2 96 4 (y.cs.flatMap chV) :: blkL dp 81 (diskV ⟨d.room, dj⟩ bm) :: mapA bm encN encF m :: (filesL ([] ++ (l1 ++ l2)) ++ kn G3 :: ownS o.1 (namesOf d).length o.2.2 9 1 ((namesOf d).flatMap celS) :: L)) w56 := by
          have h : St E (blkL x.p 92 (fileV o2 s48 true nilS) :: chA nilS [] :: blkL dp 81 (diskV ⟨d.room, dj⟩ bm) :: mapA bm encN encF m :: kn G3 :: (filesL (l1 ++ l2) ++ ownS o.1 (namesOf d).length o.2.2 9 1 ((namesOf d).flatMap celS) :: L)) w56 := h59.sel 5 [2, 0, 3, 4, 1] (by simp)
          exact h.perm (((((List.perm_middle (l₁ := filesL (l1 ++ l2))).symm.cons _).cons _).cons _).cons _)
        have p6 : St E (blkL dp 81 (diskV ⟨d.room, dj⟩ bm) :: mapA bm encN encF m :: (filesL (Cm.put lt7 (l1 ++ x :: l2) y) ++ kn G3 :: ownS o.1 (namesOf d).length o.2.2 9 1 ((namesOf d).flatMap celS) :: L)) w56 := St.files_perm p4.file_in (by
          have := fput_perm (fs := l1 ++ x :: l2) y
          rw [show but (l1 ++ x :: l2) y.name = l1 ++ l2 from but_mid (fs_nodup ok Ij)] at this
          exact this.symm)
        have dkp := dk_set ok Ij hy rfl rfl (Fz.le_trans hG2 hG3) d.room (c2 := c) (Nat.zero_le _) (Nat.le_refl c)
        have e : Dk.putF dj y.fl = dj1 := by rw [hyf]; exact hput _ hcr
        have dkp : dkOk G3 c ⟨d.room, dj1⟩ m (Cm.put lt7 (l1 ++ x :: l2) y) := by rw [← e]; exact dkp
        rw [succ_big (by unfold big; omega)]
        refine ihj w56 G3 (Fz.le_trans hGG hG3) Ij1 ?_
        rw [hol]
        exact St.dk_mk dkp p6
      have hcrash : Dk.crashF kk x.fl = if x.lasts = false ∧ (kk = 0 ∨ x.units = []) then none else some ⟨x.name, true, Dk.made x.sure (x.units.take kk), []⟩ := rfl
      rw [hcrash] at gone stay
      have hun : (min kk x.units.length = 0) ↔ (kk = 0 ∨ x.units = []) := by
        constructor
        · intro hz
          rcases Nat.eq_zero_or_pos kk with h0 | h0
          · exact .inl h0
          · exact .inr (List.eq_nil_of_length_eq_zero (by omega))
        · rintro (hz | hz)
          · omega
          · rw [hz]; simp
      refine ite_b (fun hl => ?_) fun hl => ?_
      · have hl : x.lasts = false := by simpa using hl
        by_cases hz : min kk x.units.length = 0
        · have hb : (((min kk x.units.length : Nat) : Int) == 0) = true := by rw [hz]; rfl
          rw [hb]
          refine ite_b (fun _ => ?_) fun hh => by cases hh
          obtain ⟨w45, hrun, hx⟩ := gone (if_pos ⟨hl, hun.1 hz⟩) _ rfl
          refine ⟨_, rfl, _, rd_fld h30.f3.at_blk rfl rfl, runV_ok hrun ?_⟩
          rw [succ_big (by unfold big; omega)]
          exact hx
        · have hb : (((min kk x.units.length : Nat) : Int) == 0) = false := by rw [beq_eq_false_iff_ne]; omega
          rw [hb]
          exact ite_b (fun hh => by cases hh) fun _ => stay (if_neg (fun hh => hz (hun.2 hh.2)))
      · have hl : x.lasts = true := by simpa using hl
        exact ite_b (fun hh => by cases hh) fun _ => stay (if_neg (fun hh => by rw [hl] at hh; cases hh.1))
  · have : j = d.l.length := by omega
    subst this
    rw [Dk.mid_all] at h
    exact k G w hG (h.sel 3 [0, 1] (by simp))
end
end Go.Vc

/-
  What a Save leaves on a disk that has room; what a Load tells of it (plain).
-/
namespace Go.Sn
open Go.Dk (Ds Fl now named Inv find without putF)
theorem mem_putF_iff {l : List Fl} {f g : Fl} : g ∈ putF l f ↔ g = f ∨ (g ∈ l ∧ g.name ≠ f.name) := by
  have hp := (Cm.put_perm Dk.flOrd l f).mem_iff (a := g)
  refine hp.trans ?_
  rw [List.mem_cons, List.mem_filter]
  simp [Dk.flSame]
theorem mem_without {l : List Fl} {n : Bs} {g : Fl} : g ∈ without l n ↔ g ∈ l ∧ g.name ≠ n := by
  unfold without
  rw [List.mem_filter]
  simp
theorem find_iff {d : Ds} (I : Inv d) {f : Fl} {n : Bs} : find d.l n = some f ↔ f ∈ d.l ∧ f.name = n :=
  ⟨Dk.find_some, fun ⟨h1, h2⟩ => by rw [← h2]; exact find_name I h1⟩
theorem used_without (d : Ds) (n : Bs) : Dk.used { d with l := without d.l n } ≤ Dk.used d := by
  unfold Dk.used without
  show ((d.l.filter _).map _).sum ≤ _
  generalize d.l = l
  induction l with
  | nil => exact Nat.le_refl _
  | cons a r ih =>
    rw [List.filter_cons]
    split
    · rw [List.map_cons, List.map_cons, List.sum_cons, List.sum_cons]; omega
    · rw [List.map_cons, List.sum_cons]; omega
theorem write_ok {d : Ds} {n b : Bs} (hn : named n = true) (hf : ∀ f ∈ d.l, f.name ≠ n) (hl : d.l.length ≤ 15) (hb : b.length ≤ 262144) (hu : (Dk.used d : Int) + b.length ≤ d.room) :
    Dk.write d n 0 b = ({ d with l := putF d.l ⟨n, false, [], Dk.wrs 0 b⟩ }, 0) := by
  have hfn : find d.l n = Option.none := List.find?_eq_none.2 fun f h => by simp [hf f h]
  unfold Dk.write
  rw [if_neg (by rw [hn]; decide)]
  simp only [hfn, Option.getD_none]
  have h0 : Dk.now (Dk.fresh n) = [] := rfl
  rw [h0, if_neg (by simp), if_neg (by simp; omega), if_neg (by simp; omega)]
  rfl
theorem now_new (b : Bs) (n : Bs) : now ⟨n, false, [], Dk.wrs 0 b⟩ = b := by
  unfold now
  rw [Dk.made_wrs b [] 0 (Nat.le_refl _)]
  simp [Dk.lay]
theorem tmp_ne (k : Nat) : nameOf k ≠ tmp := fun h => by
  have := congrArg (fun l : Bs => l[4]?) h
  simp [nameOf, pre, tmp] at this
theorem without_put (l : List Fl) (f : Fl) : (without (putF l f) f.name).length = (without l f.name).length := by
  have hp := (Cm.put_perm Dk.flOrd l f).filter (fun g => !decide (g.name = f.name))
  have := hp.length_eq
  unfold without putF
  rw [this, List.filter_cons, if_neg (by simp), List.filter_filter]
  congr 1
  refine List.filter_congr fun g _ => ?_
  unfold Dk.flSame
  simp
theorem without_le (l : List Fl) (n : Bs) : (without l n).length ≤ l.length := List.length_filter_le ..
/-- What a Save leaves. -/
theorem save_ok {d : Ds} {s : Snp} {i : Nat} (I : Inv d) (he : putE s = 0) (hi : s.idx = (i : Int)) (hi1 : i ≤ 1099511627776) (hl : (without d.l tmp).length ≤ 15) (hb : (putB s).length ≤ 262144) (hu : (Dk.used d : Int) + (putB s).length ≤ d.room) :
    (save d s).2 = 0 ∧ (save d s).1.room = d.room ∧ (save d s).1.l.length ≤ d.l.length + 1 ∧ ∀ f, f ∈ (save d s).1.l ↔ (f = ⟨nameOf i, true, putB s, []⟩ ∨ (f ∈ d.l ∧ f.name ≠ tmp ∧ f.name ≠ nameOf i)) ∧ older i f = false := by
  have hit : s.idx.toNat = i := by omega
  have I1 : Inv { d with l := without d.l tmp } := I.filter _
  have u1 := used_without d tmp
  have hw := write_ok (d := { d with l := without d.l tmp }) (b := putB s) tmp_named (fun f h => (mem_without.1 h).2) hl hb (by show ((Dk.used { d with l := without d.l tmp } : Nat) : Int) + _ ≤ d.room; omega)
  have I2 := I1.write tmp 0 (putB s)
  rw [hw] at I2
  have hm2 : ∀ g, g ∈ putF (without d.l tmp) ⟨tmp, false, [], Dk.wrs 0 (putB s)⟩ ↔ g = ⟨tmp, false, [], Dk.wrs 0 (putB s)⟩ ∨ (g ∈ d.l ∧ g.name ≠ tmp) := fun g => by
    rw [mem_putF_iff, mem_without]
    exact ⟨fun h => h.imp id fun h => h.1, fun h => h.imp id fun h => ⟨h, h.2⟩⟩
  have hf2 : find (putF (without d.l tmp) ⟨tmp, false, [], Dk.wrs 0 (putB s)⟩) tmp = some ⟨tmp, false, [], Dk.wrs 0 (putB s)⟩ := (find_iff I2).2 ⟨(hm2 _).2 (.inl rfl), rfl⟩
  have hs : Dk.sync { d with l := putF (without d.l tmp) ⟨tmp, false, [], Dk.wrs 0 (putB s)⟩ } tmp = ({ d with l := putF (putF (without d.l tmp) ⟨tmp, false, [], Dk.wrs 0 (putB s)⟩) ⟨tmp, true, putB s, []⟩ }, 0) := by
    unfold Dk.sync
    simp only [hf2, now_new]
  have I3 : Inv { d with l := putF (putF (without d.l tmp) ⟨tmp, false, [], Dk.wrs 0 (putB s)⟩) ⟨tmp, true, putB s, []⟩ } := by
    have h := I2.sync tmp
    have h : Inv (Dk.sync { d with l := putF (without d.l tmp) ⟨tmp, false, [], Dk.wrs 0 (putB s)⟩ } tmp).1 := h
    rw [hs] at h
    exact h
  have hm3 : ∀ g, g ∈ putF (putF (without d.l tmp) ⟨tmp, false, [], Dk.wrs 0 (putB s)⟩) ⟨tmp, true, putB s, []⟩ ↔ g = ⟨tmp, true, putB s, []⟩ ∨ (g ∈ d.l ∧ g.name ≠ tmp) := fun g => by
    rw [mem_putF_iff, hm2]
    constructor
    · rintro (h | ⟨h | h, h2⟩)
      · exact .inl h
      · rw [h] at h2; exact absurd rfl h2
      · exact .inr h
    · rintro (h | h)
      · exact .inl h
      · exact .inr ⟨.inr h, h.2⟩
  have hf3 : find (putF (putF (without d.l tmp) ⟨tmp, false, [], Dk.wrs 0 (putB s)⟩) ⟨tmp, true, putB s, []⟩) tmp = some ⟨tmp, true, putB s, []⟩ := (find_iff I3).2 ⟨(hm3 _).2 (.inl rfl), rfl⟩
  have hr : Dk.rename { d with l := putF (putF (without d.l tmp) ⟨tmp, false, [], Dk.wrs 0 (putB s)⟩) ⟨tmp, true, putB s, []⟩ } tmp (nameOf i) = ({ d with l := putF (without (putF (putF (without d.l tmp) ⟨tmp, false, [], Dk.wrs 0 (putB s)⟩) ⟨tmp, true, putB s, []⟩) tmp) ⟨nameOf i, true, putB s, []⟩ }, 0) := by
    unfold Dk.rename
    simp only [hf3]
    rw [if_neg (by rw [name_named hi1]; decide), if_neg (fun h => tmp_ne i h.symm)]
  have hsave : save d s = ({ d with l := (putF (without (putF (putF (without d.l tmp) ⟨tmp, false, [], Dk.wrs 0 (putB s)⟩) ⟨tmp, true, putB s, []⟩) tmp) ⟨nameOf i, true, putB s, []⟩).filter fun f => !older i f }, 0) := by
    unfold save
    rw [if_neg (by rw [he]; decide), remove_l, hit]
    simp only [hw]
    rw [if_neg (by decide)]
    simp only [hs, hr]
    rw [if_neg (by decide)]
  rw [hsave]
  refine ⟨rfl, rfl, ?_, fun f => ?_⟩
  · have a1 := List.length_filter_le (fun f => !older i f) (putF (without (putF (putF (without d.l tmp) ⟨tmp, false, [], Dk.wrs 0 (putB s)⟩) ⟨tmp, true, putB s, []⟩) tmp) ⟨nameOf i, true, putB s, []⟩)
    have a2 := Dk.putF_len (without (putF (putF (without d.l tmp) ⟨tmp, false, [], Dk.wrs 0 (putB s)⟩) ⟨tmp, true, putB s, []⟩) tmp) ⟨nameOf i, true, putB s, []⟩
    have a3 := without_le (without (putF (putF (without d.l tmp) ⟨tmp, false, [], Dk.wrs 0 (putB s)⟩) ⟨tmp, true, putB s, []⟩) tmp) (nameOf i)
    have a4 := without_put (putF (without d.l tmp) ⟨tmp, false, [], Dk.wrs 0 (putB s)⟩) ⟨tmp, true, putB s, []⟩
    have a5 := without_put (without d.l tmp) ⟨tmp, false, [], Dk.wrs 0 (putB s)⟩
    have a6 := without_le (without d.l tmp) tmp
    have a7 := without_le d.l tmp
    simp only at a2 a4 a5
    show List.length (List.filter _ _) ≤ _
    omega
  show f ∈ List.filter _ _ ↔ _
  rw [List.mem_filter, mem_putF_iff, mem_without, hm3]
  have ho : (!older i f) = true ↔ older i f = false := by simp
  rw [ho]
  refine and_congr_left fun _ => ?_
  constructor
  · rintro (h | ⟨⟨h | h, h2⟩, h3⟩)
    · exact .inl h
    · rw [h] at h2; exact absurd rfl h2
    · exact .inr ⟨h.1, h.2, h3⟩
  · rintro (h | ⟨h1, h2, h3⟩)
    · exact .inl h
    · exact .inr ⟨⟨.inr ⟨h1, h2⟩, h2⟩, h3⟩
/-- A Load of a disk whose best file is known. -/
theorem load_is {d : Ds} (I : Inv d) {f : Fl} {s : Snp} (hf : f ∈ d.l) (hg : good f = some s) (hmax : ∀ g ∈ d.l, ∀ t, good g = some t → t.idx ≤ s.idx) : load d = (s, 0) := by
  have h0 := good_idx hg
  unfold load
  rcases best_spec d.l none with ⟨_, h2⟩ | ⟨g, hgm, h1, h2, h3⟩
  · have := h2 f hf s hg
    have hn : (none : Snp).idx = 0 := rfl
    omega
  · have a1 := h3 f hf s hg
    have a2 := hmax g hgm _ h1
    have a3 := good_idx h1
    have hn : numbered g.name = numbered f.name := by omega
    have e1 := (name_numbered a3.1).1
    have e2 := (name_numbered h0.1).1
    have hgf : g = f := by
      have x1 := find_name I hgm
      have x2 := find_name I hf
      rw [e1, hn, ← e2, x2] at x1
      injection x1 with x1
      exact x1.symm
    rw [hgf, hg] at h1
    injection h1 with h1
    rw [← h1, if_neg (by omega)]
theorem good_new {s : Snp} {i : Nat} (he : putE s = 0) (hi : s.idx = (i : Int)) (hi0 : 0 < i) (hi1 : i ≤ 1099511627776) : good ⟨nameOf i, true, putB s, []⟩ = some s := by
  unfold good
  have h1 : numbered (nameOf i) = i := numbered_name hi0 hi1
  have h2 : now ⟨nameOf i, true, putB s, []⟩ = putB s := rfl
  simp only [h1, h2]
  rw [if_pos hi0, getS_putB he]
  simp only
  rw [if_pos hi]
end Go.Sn

/-
  Snapshots saved one behind the other: what is on the disk, what a Load tells (plain).
-/
namespace Go.Sn
open Go.Dk (Ds Fl now named Inv find without putF)
theorem putB_short {s : Snp} (he : putE s = 0) : (putB s).length ≤ 160 + s.data.length := by
  have hbl := body_len he
  have hml := memB_len hbl.2.2.1
  have g1 := numLen s.idx; have g2 := numLen s.term; have g3 := numLen (memB s.mem).length; have g4 := numLen s.data.length
  unfold putB
  rw [if_pos he, frame_len]
  unfold body
  simp only [List.length_append]
  omega
/-- Snapshots that were saved, the latest ahead. -/
structure Nw (S : List Snp) (d : Ds) : Prop where
  inv : Inv d
  room : d.room = 65536
  len : d.l.length ≤ S.length
  right : ∀ s ∈ S, putE s = 0 ∧ s.data.length ≤ 40
  fl : ∀ f ∈ d.l, ∃ (k : Nat) (s : Snp), 0 < k ∧ k ≤ 1099511627776 ∧ S.find? (fun s => decide (s.idx = (k : Int))) = some s ∧ f = ⟨nameOf k, true, putB s, []⟩
  top : ∀ s ∈ S, (∀ t ∈ S, t.idx ≤ s.idx) → ∃ f ∈ d.l, f.name = nameOf s.idx.toNat
theorem Nw.new : Nw [] (Dk.newD 65536) := ⟨Inv.new _, rfl, Nat.le_refl _, fun _ h => (nomatch h), fun _ h => (nomatch h), fun _ h => (nomatch h)⟩
theorem range_of {s : Snp} (h : putE s = 0) : ∃ i : Nat, s.idx = (i : Int) ∧ 0 < i ∧ i ≤ 1099511627776 := by
  obtain ⟨_, _, _, h4, _⟩ := body_len h
  exact ⟨s.idx.toNat, by omega, by omega, by omega⟩
theorem Nw.used {S : List Snp} {d : Ds} (h : Nw S d) : Dk.used d ≤ d.l.length * 200 := by
  unfold Dk.used
  have go : ∀ (l : List Fl), (∀ f ∈ l, (now f).length ≤ 200) → (l.map fun f => (now f).length).sum ≤ l.length * 200 := by
    intro l
    induction l with
    | nil => intro _; exact Nat.le_refl _
    | cons a r ih =>
      intro h
      have h1 := h a List.mem_cons_self
      have h2 := ih fun f hf => h f (List.mem_cons_of_mem _ hf)
      rw [List.map_cons, List.sum_cons, List.length_cons]; omega
  refine go d.l fun f hf => ?_
  obtain ⟨k, s, _, _, hfs, rfl⟩ := h.fl f hf
  have hs := h.right s (List.mem_of_find?_eq_some hfs)
  have := putB_short hs.1
  show (putB s).length ≤ 200
  omega
theorem Nw.step {S : List Snp} {d : Ds} {s : Snp} (h : Nw S d) (hS : S.length ≤ 12) (he : putE s = 0) (hd : s.data.length ≤ 40) : (save d s).2 = 0 ∧ Nw (s :: S) (save d s).1 := by
  obtain ⟨i, hi, hi0, hi1⟩ := range_of he
  have hshort := putB_short he
  have hu := h.used
  have hl := h.len
  have hr := h.room
  have hwl := without_le d.l tmp
  obtain ⟨h1, h2, h3, h4⟩ := save_ok (i := i) h.inv he hi hi1 (by omega) (by omega) (by rw [hr]; omega)
  have htmp : ∀ f ∈ d.l, f.name ≠ tmp := fun f hf => by
    obtain ⟨k, t, _, _, _, rfl⟩ := h.fl f hf
    exact tmp_ne k
  have hold : ∀ (k : Nat) (b : Bs), 0 < k → k ≤ 1099511627776 → older i ⟨nameOf k, true, b, []⟩ = decide (k < i) := fun k b hk hk1 => by
    unfold older
    simp only [numbered_name hk hk1]
    simp [hk]
  refine ⟨h1, ⟨?_, h2.trans hr, by rw [List.length_cons]; omega, ?_, fun f hf => ?_, fun t ht hmax => ?_⟩⟩
  · unfold save
    split
    · exact h.inv
    · simp only
      split
      · exact ((h.inv.remove _).write _ _ _).remove _
      · split
        · exact ((((h.inv.remove _).write _ _ _).sync _).rename _ _).remove _
        · exact ((((h.inv.remove _).write _ _ _).sync _).rename _ _).filter _
  · intro t ht
    rcases List.mem_cons.1 ht with rfl | ht
    · exact ⟨he, hd⟩
    · exact h.right t ht
  · obtain ⟨hf1, hf2⟩ := (h4 f).1 hf
    rcases hf1 with rfl | ⟨hf1, _, hne⟩
    · exact ⟨i, s, hi0, hi1, by rw [List.find?_cons, decide_eq_true hi], rfl⟩
    · obtain ⟨k, t, hk0, hk1, hfd, rfl⟩ := h.fl f hf1
      refine ⟨k, t, hk0, hk1, ?_, rfl⟩
      have hki : k ≠ i := fun e => hne (by rw [e])
      rw [List.find?_cons, decide_eq_false (by omega)]
      exact hfd
  · rcases List.mem_cons.1 ht with rfl | ht
    · refine ⟨⟨nameOf i, true, putB t, []⟩, (h4 _).2 ⟨.inl rfl, ?_⟩, by rw [show t.idx.toNat = i by omega]⟩
      rw [hold i _ hi0 hi1]; simp
    · have hts := h.right t ht
      obtain ⟨k, hk, hk0, hk1⟩ := range_of hts.1
      have hik : i ≤ k := by have := hmax s List.mem_cons_self; omega
      have hkk : t.idx.toNat = k := by omega
      rw [hkk]
      by_cases e : k = i
      · subst e
        refine ⟨⟨nameOf k, true, putB s, []⟩, (h4 _).2 ⟨.inl rfl, ?_⟩, rfl⟩
        rw [hold k _ hi0 hi1]; simp
      · obtain ⟨f, hf, hfn⟩ := h.top t ht fun x hx => hmax x (List.mem_cons_of_mem _ hx)
        rw [hkk] at hfn
        obtain ⟨k', t', hk0', hk1', _, rfl⟩ := h.fl f hf
        have hkk' : k' = k := name_inj hk0' hk1' hk0 hk1 hfn
        subst hkk'
        refine ⟨_, (h4 _).2 ⟨.inr ⟨hf, htmp _ hf, fun e2 => e (name_inj hk0 hk1 hi0 hi1 e2)⟩, ?_⟩, rfl⟩
        rw [hold k' _ hk0 hk1]
        exact decide_eq_false (by omega)
theorem Nw.lasts {S : List Snp} {d : Ds} (h : Nw S d) : ∀ f ∈ d.l, f.lasts = true ∧ f.units = [] := fun f hf => by
  obtain ⟨k, s, _, _, _, rfl⟩ := h.fl f hf
  exact ⟨rfl, rfl⟩
theorem Nw.load {S : List Snp} {d : Ds} {b : Nat} (h : Nw S d) (hb : ∃ s ∈ S, s.idx = (b : Int)) (hm : ∀ t ∈ S, t.idx ≤ (b : Int)) : ∃ s, S.find? (fun s => decide (s.idx = (b : Int))) = some s ∧ s.idx = (b : Int) ∧ Sn.load d = (s, 0) := by
  obtain ⟨s0, hs0, hi0⟩ := hb
  obtain ⟨f, hf, hfn⟩ := h.top s0 hs0 fun t ht => by rw [hi0]; exact hm t ht
  obtain ⟨k, s, hk0, hk1, hfd, rfl⟩ := h.fl f hf
  have hs0r := range_of (h.right s0 hs0).1
  obtain ⟨i, hi, hi00, hi1⟩ := hs0r
  have hbi : b = i := by omega
  have hki : k = i := name_inj hk0 hk1 hi00 hi1 (by rw [show i = s0.idx.toNat by omega]; exact hfn)
  subst hki hbi
  have hsm := List.mem_of_find?_eq_some hfd
  have hsi : s.idx = (b : Int) := by simpa using List.find?_some hfd
  refine ⟨s, hfd, hsi, load_is h.inv hf (good_new (h.right s hsm).1 hsi hk0 hk1) fun g hg t ht => ?_⟩
  obtain ⟨k', s', hk0', hk1', hfd', rfl⟩ := h.fl g hg
  have hsm' := List.mem_of_find?_eq_some hfd'
  have hsi' : s'.idx = (k' : Int) := by simpa using List.find?_some hfd'
  have hg2 := good_new (h.right s' hsm').1 hsi' hk0' hk1'
  rw [hg2] at ht
  injection ht with ht
  rw [← ht, hsi]
  exact hm s' hsm'
/-! ### the indices of the law -/
end Go.Sn

/-
  A crash anywhere in a Save: the elder snapshot is there, or the new one (plain).
-/
namespace Go.Sn
open Go.Dk (Ds Fl now named Inv find without putF made)
def flOf (s : Snp) (i : Nat) : Fl := ⟨nameOf i, true, putB s, []⟩
theorem used_le2 (d : Ds) {m : Nat} (h : ∀ f ∈ d.l, (now f).length ≤ m) : Dk.used d ≤ d.l.length * m := by
  unfold Dk.used
  generalize d.l = l at h
  induction l with
  | nil => simp
  | cons a r ih =>
    have h1 := h a List.mem_cons_self
    have h2 := ih fun f hf => h f (List.mem_cons_of_mem _ hf)
    rw [List.map_cons, List.sum_cons, List.length_cons, Nat.add_mul]; omega
theorem only_one {d : Ds} {f : Fl} (I : Inv d) (h : ∀ g, g ∈ d.l ↔ g = f) : d.l = [f] := by
  have hp := (Cm.rises_iff Dk.flOrd _).1 I.r
  cases hl : d.l with
  | nil =>
    have := (h f).2 rfl
    rw [hl] at this; cases this
  | cons a r =>
    rw [hl] at h hp
    have ha := (h a).1 List.mem_cons_self
    subst ha
    cases r with
    | nil => rfl
    | cons b r =>
      have hb := (h b).1 (by simp)
      rw [List.pairwise_cons] at hp
      have := hp.1 b List.mem_cons_self
      rw [hb] at this
      have h2 := Dk.flOrd.irr a a (Dk.flOrd.refl a)
      rw [h2] at this; cases this
/-- A disk in the midst of a Save. -/
structure Wp (A B : Snp) (a b : Nat) (W : Snp) (d : Ds) : Prop where
  inv : Inv d
  room : d.room = 65536
  len : d.l.length ≤ 3
  fl : ∀ f ∈ d.l, f = flOf A a ∨ (f = flOf B b ∧ W = B) ∨ (f.name = tmp ∧ ∀ k, (made f.sure (f.units.take k)).length ≤ 8000)
  top : (W = A ∧ flOf A a ∈ d.l) ∨ (W = B ∧ flOf B b ∈ d.l)
theorem crash_keeps {keep : List Int} : ∀ {l : List Fl} {i : Nat} {f : Fl}, f ∈ l → f.lasts = true → f.units = [] → f ∈ Dk.crashL keep i l
  | [], _, _, h, _, _ => by cases h
  | g :: r, i, f, h, h1, h2 => by
    unfold Dk.crashL
    rcases List.mem_cons.1 h with rfl | h
    · have e : Dk.crashF (Dk.keepAt keep i) f = some f := by
        unfold Dk.crashF
        rw [if_neg (by rw [h1]; simp), h2, List.take_nil]
        obtain ⟨x, y, z, u⟩ := f
        simp at h1 h2
        subst h1 h2
        rfl
      rw [e]
      exact List.mem_cons_self
    · have ih := crash_keeps (keep := keep) (i := i + 1) h h1 h2
      split
      · exact ih
      · exact List.mem_cons_of_mem _ ih
section
variable {A B W : Snp} {a b : Nat} {d : Ds}
structure AB (A B : Snp) (a b : Nat) : Prop where
  ea : putE A = 0
  eb : putE B = 0
  ia : A.idx = (a : Int)
  ib : B.idx = (b : Int)
  a0 : 0 < a
  a1 : a ≤ 1099511627776
  b0 : 0 < b
  b1 : b ≤ 1099511627776
  lt : a < b
  da : A.data.length ≤ 4000
  db : B.data.length ≤ 4000
theorem AB.la (h : AB A B a b) : (putB A).length ≤ 4160 := by have := putB_short h.ea; have := h.da; omega
theorem AB.lb (h : AB A B a b) : (putB B).length ≤ 4160 := by have := putB_short h.eb; have := h.db; omega
theorem AB.ga (h : AB A B a b) : good (flOf A a) = some A := good_new h.ea h.ia h.a0 h.a1
theorem AB.gb (h : AB A B a b) : good (flOf B b) = some B := good_new h.eb h.ib h.b0 h.b1
theorem good_tmp {f : Fl} (h : f.name = tmp) : good f = Option.none := by
  unfold good
  rw [h, numbered_tmp, if_neg (by decide)]
theorem Wp.crashed (h : Wp A B a b W d) (ab : AB A B a b) (keep : List Int) : ∀ g ∈ (Dk.crash d keep).l, g = flOf A a ∨ (g = flOf B b ∧ W = B) ∨ (g.name = tmp ∧ (now g).length ≤ 8000) := fun g hg => by
  obtain ⟨f, hf, k, hk⟩ := Dk.crashL_mem hg
  have e := Dk.crashF_some hk
  rcases h.fl f hf with rfl | ⟨rfl, hW⟩ | ⟨hn, hl⟩
  · left; rw [e]; simp [flOf, made]
  · right; left; exact ⟨by rw [e]; simp [flOf, made], hW⟩
  · right; right
    rw [e]
    exact ⟨hn, hl k⟩
theorem Wp.load (h : Wp A B a b W d) (ab : AB A B a b) (keep : List Int) : Sn.load (Dk.crash d keep) = (W, 0) := by
  have hc := h.crashed ab keep
  have hlt := ab.lt
  have ha := ab.ia
  have hb := ab.ib
  have I := h.inv.crash keep
  rcases h.top with ⟨hW, hf⟩ | ⟨hW, hf⟩
  · refine load_is I (f := flOf A a) (crash_keeps hf rfl rfl) (by rw [hW]; exact ab.ga) fun g hg t ht => ?_
    rcases hc g hg with rfl | ⟨rfl, hWB⟩ | ⟨hn, _⟩
    · rw [ab.ga] at ht; injection ht with ht; rw [← ht, hW]; exact Int.le_refl _
    · rw [hWB] at hW
      rw [← hW] at ha
      omega
    · rw [good_tmp hn] at ht; cases ht
  · refine load_is I (f := flOf B b) (crash_keeps hf rfl rfl) (by rw [hW]; exact ab.gb) fun g hg t ht => ?_
    rcases hc g hg with rfl | ⟨rfl, hWB⟩ | ⟨hn, _⟩
    · rw [ab.ga] at ht; injection ht with ht; rw [← ht, hW]; omega
    · rw [ab.gb] at ht; injection ht with ht; rw [← ht, hW]; exact Int.le_refl _
    · rw [good_tmp hn] at ht; cases ht
theorem Wp.again (h : Wp A B a b W d) (ab : AB A B a b) (keep : List Int) : (save (Dk.crash d keep) B).2 = 0 ∧ Sn.load (save (Dk.crash d keep) B).1 = (B, 0) ∧ (save (Dk.crash d keep) B).1.l = [flOf B b] := by
  have hc := h.crashed ab keep
  have hla := ab.la
  have hlb := ab.lb
  have I := h.inv.crash keep
  have hlen : (Dk.crash d keep).l.length ≤ 3 := Nat.le_trans (Dk.crashL_len keep 0 d.l) h.len
  have hu := used_le2 (Dk.crash d keep) (m := 8000) fun g hg => by
    rcases hc g hg with rfl | ⟨rfl, _⟩ | ⟨_, hl⟩
    · show (putB A).length ≤ 8000; omega
    · show (putB B).length ≤ 8000; omega
    · exact hl
  have hroom : (Dk.crash d keep).room = 65536 := h.room
  have hwl := without_le (Dk.crash d keep).l tmp
  obtain ⟨h1, h2, h3, h4⟩ := save_ok (i := b) I ab.eb ab.ib ab.b1 (by omega) (by omega) (by rw [hroom]; omega)
  have hI : Inv (save (Dk.crash d keep) B).1 := by
    unfold save
    split
    · exact I
    · simp only
      split
      · exact ((I.remove _).write _ _ _).remove _
      · split
        · exact ((((I.remove _).write _ _ _).sync _).rename _ _).remove _
        · exact ((((I.remove _).write _ _ _).sync _).rename _ _).filter _
  have hone : (save (Dk.crash d keep) B).1.l = [flOf B b] := only_one hI fun g => by
    rw [h4 g]
    constructor
    · rintro ⟨hg | ⟨hg, hn1, hn2⟩, ho⟩
      · exact hg
      · rcases hc g hg with rfl | ⟨rfl, _⟩ | ⟨hn, _⟩
        · exfalso
          unfold older flOf at ho
          simp only [numbered_name ab.a0 ab.a1] at ho
          have := ab.a0
          have := ab.lt
          simp at ho
          omega
        · exact absurd rfl hn2
        · exact absurd hn hn1
    · rintro rfl
      refine ⟨.inl rfl, ?_⟩
      unfold older flOf
      simp only [numbered_name ab.b0 ab.b1]
      simp
  refine ⟨h1, load_is hI (f := flOf B b) (by rw [hone]; simp) ab.gb fun g hg t ht => ?_, hone⟩
  rw [hone] at hg
  rw [List.mem_singleton.1 hg, ab.gb] at ht
  injection ht with ht
  rw [← ht]; exact Int.le_refl _
theorem save_new (ab : AB A B a b) : (save (Dk.newD 65536) A).2 = 0 ∧ (save (Dk.newD 65536) A).1.l = [flOf A a] ∧ (save (Dk.newD 65536) A).1.room = 65536 ∧ Inv (save (Dk.newD 65536) A).1 := by
  have I : Inv (Dk.newD 65536) := Inv.new _
  have hla := ab.la
  have hu0 : Dk.used (Dk.newD 65536) = 0 := rfl
  have hr0 : (Dk.newD 65536).room = 65536 := rfl
  obtain ⟨h1, h2, h3, h4⟩ := save_ok (i := a) I ab.ea ab.ia ab.a1 (Nat.zero_le _) (by omega) (by rw [hu0, hr0]; omega)
  have hI : Inv (save (Dk.newD 65536) A).1 := by
    unfold save
    split
    · exact I
    · simp only
      split
      · exact ((I.remove _).write _ _ _).remove _
      · split
        · exact ((((I.remove _).write _ _ _).sync _).rename _ _).remove _
        · exact ((((I.remove _).write _ _ _).sync _).rename _ _).filter _
  refine ⟨h1, only_one hI fun g => ?_, h2, hI⟩
  rw [h4 g]
  constructor
  · rintro ⟨hg | ⟨hg, _⟩, _⟩
    · exact hg
    · cases hg
  · rintro rfl
    refine ⟨.inl rfl, ?_⟩
    unfold older flOf
    simp only [numbered_name ab.a0 ab.a1]
    simp
theorem AB.swap (ab : AB A B a b) : (save (Dk.newD 65536) B).2 = 0 ∧ (save (Dk.newD 65536) B).1.l = [flOf B b] := by
  have I : Inv (Dk.newD 65536) := Inv.new _
  have hlb := ab.lb
  have hu0 : Dk.used (Dk.newD 65536) = 0 := rfl
  have hr0 : (Dk.newD 65536).room = 65536 := rfl
  obtain ⟨h1, h2, h3, h4⟩ := save_ok (i := b) I ab.eb ab.ib ab.b1 (Nat.zero_le _) (by omega) (by rw [hu0, hr0]; omega)
  have hI : Inv (save (Dk.newD 65536) B).1 := by
    unfold save
    split
    · exact I
    · simp only
      split
      · exact ((I.remove _).write _ _ _).remove _
      · split
        · exact ((((I.remove _).write _ _ _).sync _).rename _ _).remove _
        · exact ((((I.remove _).write _ _ _).sync _).rename _ _).filter _
  refine ⟨h1, only_one hI fun g => ?_⟩
  rw [h4 g]
  constructor
  · rintro ⟨hg | ⟨hg, _⟩, _⟩
    · exact hg
    · cases hg
  · rintro rfl
    refine ⟨.inl rfl, ?_⟩
    unfold older flOf
    simp only [numbered_name ab.b0 ab.b1]
    simp
def st0 (A : Snp) : Ds := (save (Dk.newD 65536) A).1
def st1 (A B : Snp) : Ds := (Dk.write (st0 A) tmp 0 (putB B)).1
def st2 (A B : Snp) : Ds := (Dk.sync (st1 A B) tmp).1
def st3 (A B : Snp) (b : Nat) : Ds := (Dk.rename (st2 A B) tmp (nameOf b)).1
theorem wp0 (ab : AB A B a b) : Wp A B a b A (st0 A) := by
  obtain ⟨_, h2, h3, h4⟩ := save_new ab
  exact ⟨h4, h3, by unfold st0; rw [h2]; exact Nat.le_of_ble_eq_true rfl, fun f hf => .inl (by unfold st0 at hf; rw [h2] at hf; exact List.mem_singleton.1 hf), .inl ⟨rfl, by unfold st0; rw [h2]; simp⟩⟩
theorem st1_eq (ab : AB A B a b) : st1 A B = { st0 A with l := putF [flOf A a] ⟨tmp, false, [], Dk.wrs 0 (putB B)⟩ } ∧ Inv (st1 A B) := by
  obtain ⟨_, h2, h3, h4⟩ := save_new ab
  have h2 : (st0 A).l = [flOf A a] := h2
  have h3 : (st0 A).room = 65536 := h3
  have hlb := ab.lb
  have hla := ab.la
  have hu : Dk.used (st0 A) = (putB A).length := by unfold Dk.used; rw [h2]; show (putB A).length + 0 = _; omega
  have hw := write_ok (d := st0 A) (b := putB B) tmp_named (fun f hf => by rw [h2] at hf; rw [List.mem_singleton.1 hf]; exact tmp_ne a) (by rw [h2]; exact Nat.le_of_ble_eq_true rfl) (by omega) (by rw [hu, h3]; omega)
  have hI := h4.write tmp 0 (putB B)
  refine ⟨?_, hI⟩
  unfold st1
  rw [hw, ← h2]
theorem wp1 (ab : AB A B a b) : Wp A B a b A (st1 A B) := by
  obtain ⟨e, I⟩ := st1_eq ab
  have h0 := wp0 ab
  have hlb := ab.lb
  refine ⟨I, by rw [e]; exact h0.room, ?_, fun f hf => ?_, .inl ⟨rfl, ?_⟩⟩
  · rw [e]
    show (putF _ _).length ≤ 3
    rw [Dk.putF_len]
    have := without_le [flOf A a] tmp
    simp at this
    simp only
    omega
  · rw [e] at hf
    rcases mem_putF_iff.1 hf with rfl | ⟨hf, _⟩
    · refine .inr (.inr ⟨rfl, fun k => ?_⟩)
      show (made [] ((Dk.wrs 0 (putB B)).take k)).length ≤ 8000
      rw [Dk.wrs_take, Dk.made_wrs _ [] 0 (Nat.le_refl _)]
      simp [Dk.lay]
      omega
    · exact .inl (List.mem_singleton.1 hf)
  · rw [e]
    exact mem_putF_iff.2 (.inr ⟨by simp, tmp_ne a⟩)
theorem st2_eq (ab : AB A B a b) : (st2 A B).room = 65536 ∧ Inv (st2 A B) ∧ (st2 A B).l.length ≤ 3 ∧ ∀ g, g ∈ (st2 A B).l ↔ g = ⟨tmp, true, putB B, []⟩ ∨ g = flOf A a := by
  obtain ⟨e, I⟩ := st1_eq ab
  have h0 := wp0 ab
  have hm1 : ∀ g, g ∈ (st1 A B).l ↔ g = ⟨tmp, false, [], Dk.wrs 0 (putB B)⟩ ∨ g = flOf A a := fun g => by
    rw [e]
    show g ∈ putF _ _ ↔ _
    rw [mem_putF_iff, List.mem_singleton]
    refine or_congr_right ⟨fun h => h.1, fun h => ⟨h, by rw [h]; exact tmp_ne a⟩⟩
  have hf : find (st1 A B).l tmp = some ⟨tmp, false, [], Dk.wrs 0 (putB B)⟩ := (find_iff I).2 ⟨(hm1 _).2 (.inl rfl), rfl⟩
  have hs : st2 A B = { st1 A B with l := putF (st1 A B).l ⟨tmp, true, putB B, []⟩ } := by
    unfold st2 Dk.sync
    simp only [hf, now_new]
  have I2 : Inv (st2 A B) := I.sync tmp
  refine ⟨by rw [hs, e]; exact h0.room, I2, ?_, fun g => ?_⟩
  · rw [hs]
    show (putF _ _).length ≤ 3
    rw [Dk.putF_len]
    have h1 : (without (st1 A B).l tmp).length = (without [flOf A a] tmp).length := by
      rw [e]
      exact without_put [flOf A a] ⟨tmp, false, [], Dk.wrs 0 (putB B)⟩
    have := without_le [flOf A a] tmp
    simp at this
    simp only
    omega
  · rw [hs]
    show g ∈ putF _ _ ↔ _
    rw [mem_putF_iff, hm1]
    constructor
    · rintro (h | ⟨h | h, h2⟩)
      · exact .inl h
      · rw [h] at h2; exact absurd rfl h2
      · exact .inr h
    · rintro (h | h)
      · exact .inl h
      · exact .inr ⟨.inr h, by rw [h]; exact tmp_ne a⟩
theorem wp2 (ab : AB A B a b) : Wp A B a b A (st2 A B) := by
  obtain ⟨h1, h2, h3, h4⟩ := st2_eq ab
  have hlb := ab.lb
  refine ⟨h2, h1, h3, fun f hf => ?_, .inl ⟨rfl, (h4 _).2 (.inr rfl)⟩⟩
  rcases (h4 f).1 hf with rfl | hf
  · exact .inr (.inr ⟨rfl, fun k => by rw [List.take_nil]; show (putB B).length ≤ 8000; omega⟩)
  · exact .inl hf
theorem wp3 (ab : AB A B a b) : Wp A B a b B (st3 A B b) ∧ (Dk.rename (st2 A B) tmp (nameOf b)).2 = 0 := by
  obtain ⟨h1, h2, h3, h4⟩ := st2_eq ab
  have hf : find (st2 A B).l tmp = some ⟨tmp, true, putB B, []⟩ := (find_iff h2).2 ⟨(h4 _).2 (.inl rfl), rfl⟩
  have hr : Dk.rename (st2 A B) tmp (nameOf b) = ({ st2 A B with l := putF (without (st2 A B).l tmp) (flOf B b) }, 0) := by
    unfold Dk.rename
    simp only [hf]
    rw [if_neg (by rw [name_named ab.b1]; decide), if_neg (fun h => tmp_ne b h.symm)]
    rfl
  have I3 : Inv (st3 A B b) := h2.rename tmp (nameOf b)
  have e3 : st3 A B b = { st2 A B with l := putF (without (st2 A B).l tmp) (flOf B b) } := by unfold st3; rw [hr]
  refine ⟨⟨I3, by rw [e3]; exact h1, ?_, fun f hf => ?_, .inr ⟨rfl, ?_⟩⟩, by rw [hr]⟩
  · rw [e3]
    show (putF _ _).length ≤ 3
    rw [Dk.putF_len]
    have q1 := without_le (without (st2 A B).l tmp) (nameOf b)
    have q2 := Dk.without_len (f := ⟨tmp, true, putB B, []⟩) ((h4 _).2 (.inl rfl))
    have q2 : (without (st2 A B).l tmp).length + 1 ≤ (st2 A B).l.length := q2
    show (without (without (st2 A B).l tmp) (nameOf b)).length + 1 ≤ 3
    omega
  · rw [e3] at hf
    rcases mem_putF_iff.1 hf with rfl | ⟨hf, _⟩
    · exact .inr (.inl ⟨rfl, rfl⟩)
    · obtain ⟨hf, hn⟩ := mem_without.1 hf
      rcases (h4 f).1 hf with rfl | hf
      · exact absurd rfl hn
      · exact .inl hf
  · rw [e3]
    exact mem_putF_iff.2 (.inl rfl)
end
end Go.Sn

/-
  What the functions' code comes to; printed by a program of this claim's own.
-/
namespace Go.Proofs.Ytclinifclfahfaa
open Go Go.Vc
set_option maxRecDepth 100000
set_option linter.unusedVariables false

/-! tollgate/tollgatelaw07.SnapWhole -/
def T_law07_SnapWhole_1 (a16 : Addr) (b17 : Addr) (w : World) (Kn : Bool → World → Prop) (Kp : List PanicEntry → World → Prop) : Prop :=
  ∃ s18a : Option Addr, ∃ s18l : Nat, ∃ s18c : Nat, rd w (a16.add 4) (.slice s18a s18l s18c) ∧ if (decide (((s18l : Nat) : Int) > 4000)) = true then (Kn true w) else (∃ s19a : Option Addr, ∃ s19l : Nat, ∃ s19c : Nat, rd w (b17.add 4) (.slice s19a s19l s19c) ∧ if (decide (((s19l : Nat) : Int) > 4000)) = true then (Kn true w) else (∃ x20 : Int, rd w a16 (.int .i64 x20) ∧ ∃ x21 : Int, rd w b17 (.int .i64 x21) ∧ Kn (decide ((x20 : Int) ≥ x21)) w))

def T_law07_SnapWhole_1_outs : Exit → Option (List (Nat × Value)) := fun x => match x with | .normal => some [(35, .bool false)] | .panic _ => some [] | _ => none

def T_law07_SnapWhole_1_ks : Nat → Bool := ksOf [17, 18, 19, 20, 21, 22, 23, 24, 25, 26, 27, 28, 29, 30, 31, 32, 33, 34, 35]

def H_law07_SnapWhole_1 : Env → World → QT → Prop := unitHook 137 T_law07_SnapWhole_1_ks [(3, .pointer (some ⟨0, 0, none⟩)), (4, .pointer (some ⟨0, 0, none⟩))] T_law07_SnapWhole_1_outs fun l w C => match l with | [v0, v1] => T_law07_SnapWhole_1 (pAddr v0) (pAddr v1) w (fun b23 w => C .normal [.bool b23] w) (fun ch w => C (.panic ch) [] w) | _ => False

theorem T_law07_SnapWhole_1_hl : allP (hokL Try.prog (hookAt []) (at_ (bodyOf Try.f6) [1, 0, 0]) 12) = (True) := by kernel_rfl
theorem T_law07_SnapWhole_1_hok : HOk Try.prog (hookAt []) (at_ (bodyOf Try.f6) [1, 0, 0]) 12 := HOk_of _ _ (by rw [T_law07_SnapWhole_1_hl]; exact trivial)

theorem T_law07_SnapWhole_1_eq (C : Conts) (a16 : Addr) (b17 : Addr) (w : World) : vcCode Try.prog (hookAt []) (at_ (bodyOf Try.f6) [1, 0, 0]) 12 ⟨[(3, .pointer (some a16)), (4, .pointer (some b17))], 137, []⟩ w (unitQ T_law07_SnapWhole_1_outs C) = T_law07_SnapWhole_1 a16 b17 w (fun b24 w => C .normal [.bool b24] w) (fun ch w => C (.panic ch) [] w) := by kernel_rfl

theorem T_law07_SnapWhole_1_ok : UnitOk Try.prog H_law07_SnapWhole_1 (at_ (bodyOf Try.f6) [1, 0, 0]) 12 := unit_ok (H := (hookAt [])) (by kernel_rfl) T_law07_SnapWhole_1_hok fun l w C hk => by
    obtain ⟨v0, l_v0, rfl, k_v0, hk_v0⟩ := Kinds.cons_ hk
    obtain ⟨a16, rfl⟩ := kind_addr k_v0
    obtain ⟨v1, l_v1, rfl, k_v1, hk_v1⟩ := Kinds.cons_ hk_v0
    obtain ⟨b17, rfl⟩ := kind_addr k_v1
    obtain rfl := Kinds.nil_ hk_v1
    exact T_law07_SnapWhole_1_eq C a16 b17 w

def T_law07_SnapWhole_2 (a42 : Addr) (d43 : Option Addr) (e44 : Int) (w : World) (Kn : Bool → World → Prop) (Kp : List PanicEntry → World → Prop) : Prop :=
  ∃ x45 : Int, ∃ x46 : Int, ∃ s47a : Option Addr, ∃ s47l : Nat, ∃ s47c : Nat, ∃ s48a : Option Addr, ∃ s48l : Nat, ∃ s48c : Nat, ∃ s49a : Option Addr, ∃ s49l : Nat, ∃ s49c : Nat, rd w a42 (.agg #[.int .i64 x45, .int .i64 x46, .slice s47a s47l s47c, .slice s48a s48l s48c, .slice s49a s49l s49c]) ∧ Calls Try.prog 17 #[.pointer d43, .agg #[.int .i64 x45, .int .i64 x46, .slice s47a s47l s47c, .slice s48a s48l s48c, .slice s49a s49l s49c]] w (ret (fun r50 w51 => ∃ x52 : Int, r50 = .int .i64 x52 ∧ if ((x52 : Int) != 0) = true then (Kn true w51) else (Kn ((e44 : Int) != 0) w51)) Kp)

def T_law07_SnapWhole_2_outs : Exit → Option (List (Nat × Value)) := fun x => match x with | .normal => some [(50, .bool false)] | .panic _ => some [] | _ => none

def T_law07_SnapWhole_2_ks : Nat → Bool := ksOf [43, 44, 45, 46, 47, 48, 49, 50]

def H_law07_SnapWhole_2 : Env → World → QT → Prop := unitHook 137 T_law07_SnapWhole_2_ks [(3, .pointer (some ⟨0, 0, none⟩)), (7, .pointer none), (9, .int .i64 0)] T_law07_SnapWhole_2_outs fun l w C => match l with | [v0, v1, v2] => T_law07_SnapWhole_2 (pAddr v0) (pPtr v1) (pInt v2) w (fun b54 w => C .normal [.bool b54] w) (fun ch w => C (.panic ch) [] w) | _ => False

theorem T_law07_SnapWhole_2_hl : allP (hokL Try.prog (hookAt []) (at_ (bodyOf Try.f6) [1, 1, 1, 1, 0, 0]) 124) = (True) := by kernel_rfl
theorem T_law07_SnapWhole_2_hok : HOk Try.prog (hookAt []) (at_ (bodyOf Try.f6) [1, 1, 1, 1, 0, 0]) 124 := HOk_of _ _ (by rw [T_law07_SnapWhole_2_hl]; exact trivial)

theorem T_law07_SnapWhole_2_eq (C : Conts) (a42 : Addr) (d43 : Option Addr) (e44 : Int) (w : World) : vcCode Try.prog (hookAt []) (at_ (bodyOf Try.f6) [1, 1, 1, 1, 0, 0]) 124 ⟨[(3, .pointer (some a42)), (7, .pointer d43), (9, .int .i64 e44)], 137, []⟩ w (unitQ T_law07_SnapWhole_2_outs C) = T_law07_SnapWhole_2 a42 d43 e44 w (fun b55 w => C .normal [.bool b55] w) (fun ch w => C (.panic ch) [] w) := by kernel_rfl

theorem T_law07_SnapWhole_2_ok : UnitOk Try.prog H_law07_SnapWhole_2 (at_ (bodyOf Try.f6) [1, 1, 1, 1, 0, 0]) 124 := unit_ok (H := (hookAt [])) (by kernel_rfl) T_law07_SnapWhole_2_hok fun l w C hk => by
    obtain ⟨v0, l_v0, rfl, k_v0, hk_v0⟩ := Kinds.cons_ hk
    obtain ⟨a42, rfl⟩ := kind_addr k_v0
    obtain ⟨v1, l_v1, rfl, k_v1, hk_v1⟩ := Kinds.cons_ hk_v0
    obtain ⟨d43, rfl⟩ := kind_pointer k_v1
    obtain ⟨v2, l_v2, rfl, k_v2, hk_v2⟩ := Kinds.cons_ hk_v1
    obtain ⟨e44, rfl⟩ := kind_int k_v2
    obtain rfl := Kinds.nil_ hk_v2
    exact T_law07_SnapWhole_2_eq C a42 d43 e44 w

def T_law07_SnapWhole_3 (d62 : Option Addr) (x63a : Option Addr) (x63l : Nat) (x63c : Nat) (b64 : Bool) (w : World) (Kn : World → Prop) (Kp : List PanicEntry → World → Prop) : Prop :=
  if b64 = true then (Calls Try.prog 18 #[.pointer d62, .string (ByteArray.mk #[115, 110, 97, 112, 46, 116, 109, 112]), .int .i64 0, .slice x63a x63l x63c] w (ret (fun r65 w66 => ∃ x67 : Int, r65 = .int .i64 x67 ∧ Kn  w66) Kp)) else (Kn  w)

def T_law07_SnapWhole_3_outs : Exit → Option (List (Nat × Value)) := fun x => match x with | .normal => some [] | .panic _ => some [] | _ => none

def T_law07_SnapWhole_3_ks : Nat → Bool := ksOf [59, 60, 61]

def H_law07_SnapWhole_3 : Env → World → QT → Prop := unitHook 137 T_law07_SnapWhole_3_ks [(7, .pointer none), (8, .slice none 0 0), (58, .bool false)] T_law07_SnapWhole_3_outs fun l w C => match l with | [v0, v1, v2] => T_law07_SnapWhole_3 (pPtr v0) (pA v1) (pL v1) (pC v1) (pBool v2) w (fun w => C .normal [] w) (fun ch w => C (.panic ch) [] w) | _ => False

theorem T_law07_SnapWhole_3_hl : allP (hokL Try.prog (hookAt []) (at_ (bodyOf Try.f6) [1, 1, 1, 1, 1, 1, 0, 1]) 509) = (True) := by kernel_rfl
theorem T_law07_SnapWhole_3_hok : HOk Try.prog (hookAt []) (at_ (bodyOf Try.f6) [1, 1, 1, 1, 1, 1, 0, 1]) 509 := HOk_of _ _ (by rw [T_law07_SnapWhole_3_hl]; exact trivial)

theorem T_law07_SnapWhole_3_eq (C : Conts) (d62 : Option Addr) (x63a : Option Addr) (x63l : Nat) (x63c : Nat) (b64 : Bool) (w : World) : vcCode Try.prog (hookAt []) (at_ (bodyOf Try.f6) [1, 1, 1, 1, 1, 1, 0, 1]) 509 ⟨[(7, .pointer d62), (8, .slice x63a x63l x63c), (58, .bool b64)], 137, []⟩ w (unitQ T_law07_SnapWhole_3_outs C) = T_law07_SnapWhole_3 d62 x63a x63l x63c b64 w (fun w => C .normal [] w) (fun ch w => C (.panic ch) [] w) := by kernel_rfl

theorem T_law07_SnapWhole_3_ok : UnitOk Try.prog H_law07_SnapWhole_3 (at_ (bodyOf Try.f6) [1, 1, 1, 1, 1, 1, 0, 1]) 509 := unit_ok (H := (hookAt [])) (by kernel_rfl) T_law07_SnapWhole_3_hok fun l w C hk => by
    obtain ⟨v0, l_v0, rfl, k_v0, hk_v0⟩ := Kinds.cons_ hk
    obtain ⟨d62, rfl⟩ := kind_pointer k_v0
    obtain ⟨v1, l_v1, rfl, k_v1, hk_v1⟩ := Kinds.cons_ hk_v0
    obtain ⟨x63a, x63l, x63c, rfl⟩ := kind_slice k_v1
    obtain ⟨v2, l_v2, rfl, k_v2, hk_v2⟩ := Kinds.cons_ hk_v1
    obtain ⟨b64, rfl⟩ := kind_bool k_v2
    obtain rfl := Kinds.nil_ hk_v2
    exact T_law07_SnapWhole_3_eq C d62 x63a x63l x63c b64 w

def T_law07_SnapWhole_4 (d69 : Option Addr) (b70 : Bool) (w : World) (Kn : World → Prop) (Kp : List PanicEntry → World → Prop) : Prop :=
  if b70 = true then (Calls Try.prog 19 #[.pointer d69, .string (ByteArray.mk #[115, 110, 97, 112, 46, 116, 109, 112])] w (ret (fun r71 w72 => ∃ x73 : Int, r71 = .int .i64 x73 ∧ Kn  w72) Kp)) else (Kn  w)

def T_law07_SnapWhole_4_outs : Exit → Option (List (Nat × Value)) := fun x => match x with | .normal => some [] | .panic _ => some [] | _ => none

def T_law07_SnapWhole_4_ks : Nat → Bool := ksOf [64, 65]

def H_law07_SnapWhole_4 : Env → World → QT → Prop := unitHook 137 T_law07_SnapWhole_4_ks [(7, .pointer none), (63, .bool false)] T_law07_SnapWhole_4_outs fun l w C => match l with | [v0, v1] => T_law07_SnapWhole_4 (pPtr v0) (pBool v1) w (fun w => C .normal [] w) (fun ch w => C (.panic ch) [] w) | _ => False

theorem T_law07_SnapWhole_4_hl : allP (hokL Try.prog (hookAt []) (at_ (bodyOf Try.f6) [1, 1, 1, 1, 1, 1, 1, 0, 1]) 1021) = (True) := by kernel_rfl
theorem T_law07_SnapWhole_4_hok : HOk Try.prog (hookAt []) (at_ (bodyOf Try.f6) [1, 1, 1, 1, 1, 1, 1, 0, 1]) 1021 := HOk_of _ _ (by rw [T_law07_SnapWhole_4_hl]; exact trivial)

theorem T_law07_SnapWhole_4_eq (C : Conts) (d69 : Option Addr) (b70 : Bool) (w : World) : vcCode Try.prog (hookAt []) (at_ (bodyOf Try.f6) [1, 1, 1, 1, 1, 1, 1, 0, 1]) 1021 ⟨[(7, .pointer d69), (63, .bool b70)], 137, []⟩ w (unitQ T_law07_SnapWhole_4_outs C) = T_law07_SnapWhole_4 d69 b70 w (fun w => C .normal [] w) (fun ch w => C (.panic ch) [] w) := by kernel_rfl

theorem T_law07_SnapWhole_4_ok : UnitOk Try.prog H_law07_SnapWhole_4 (at_ (bodyOf Try.f6) [1, 1, 1, 1, 1, 1, 1, 0, 1]) 1021 := unit_ok (H := (hookAt [])) (by kernel_rfl) T_law07_SnapWhole_4_hok fun l w C hk => by
    obtain ⟨v0, l_v0, rfl, k_v0, hk_v0⟩ := Kinds.cons_ hk
    obtain ⟨d69, rfl⟩ := kind_pointer k_v0
    obtain ⟨v1, l_v1, rfl, k_v1, hk_v1⟩ := Kinds.cons_ hk_v0
    obtain ⟨b70, rfl⟩ := kind_bool k_v1
    obtain rfl := Kinds.nil_ hk_v1
    exact T_law07_SnapWhole_4_eq C d69 b70 w

def T_law07_SnapWhole_5 (b82 : Addr) (d83 : Option Addr) (want84 : Addr) (b85 : Bool) (w : World) (Kn : World → Prop) (Kr : Bool → World → Prop) (Kp : List PanicEntry → World → Prop) : Prop :=
  if b85 = true then (Calls Try.prog 16 #[.int .i64 65536] w (ret (fun r86 w87 => ∃ p88 : Option Addr, r86 = .pointer p88 ∧ ∃ x89 : Int, ∃ x90 : Int, ∃ s91a : Option Addr, ∃ s91l : Nat, ∃ s91c : Nat, ∃ s92a : Option Addr, ∃ s92l : Nat, ∃ s92c : Nat, ∃ s93a : Option Addr, ∃ s93l : Nat, ∃ s93c : Nat, rd w87 b82 (.agg #[.int .i64 x89, .int .i64 x90, .slice s91a s91l s91c, .slice s92a s92l s92c, .slice s93a s93l s93c]) ∧ Calls Try.prog 17 #[.pointer p88, .agg #[.int .i64 x89, .int .i64 x90, .slice s91a s91l s91c, .slice s92a s92l s92c, .slice s93a s93l s93c]] w87 (ret (fun r94 w95 => ∃ x96 : Int, r94 = .int .i64 x96 ∧ if ((x96 : Int) != 0) = true then (Kr false w95) else (Calls Try.prog 20 #[.pointer p88] w95 (ret (fun r97 w98 => ∃ s99a : Option Addr, ∃ s99l : Nat, ∃ s99c : Nat, r97 = .slice s99a s99l s99c ∧ if (((s99l : Nat) : Int) != 1) = true then (Kr false w98) else (Calls Try.prog 20 #[.pointer p88] w98 (ret (fun r100 w101 => ∃ s102a : Option Addr, ∃ s102l : Nat, ∃ s102c : Nat, r100 = .slice s102a s102l s102c ∧ 0 ≤ (0 : Int) ∧ (0 : Int) < ((s102l : Nat) : Int) ∧ ∃ b103, s102a = some b103 ∧ ∃ s104 : ByteArray, rd w101 (b103.add ((0 : Int).toNat * 1)) (.string s104) ∧ Calls Try.prog 21 #[.pointer d83, .string (ByteArray.mk #[115, 110, 97, 112, 46, 116, 109, 112]), .string s104] w101 (ret (fun r105 w106 => ∃ x107 : Int, r105 = .int .i64 x107 ∧ if ((x107 : Int) != 0) = true then (Kr false w106) else (∃ x108 : Int, ∃ x109 : Int, ∃ s110a : Option Addr, ∃ s110l : Nat, ∃ s110c : Nat, ∃ s111a : Option Addr, ∃ s111l : Nat, ∃ s111c : Nat, ∃ s112a : Option Addr, ∃ s112l : Nat, ∃ s112c : Nat, rd w106 b82 (.agg #[.int .i64 x108, .int .i64 x109, .slice s110a s110l s110c, .slice s111a s111l s111c, .slice s112a s112l s112c]) ∧ (.agg #[.int .i64 x108, .int .i64 x109, .slice s110a s110l s110c, .slice s111a s111l s111c, .slice s112a s112l s112c] : Value).cells.size = 5 ∧ wrOk w106 want84 (.agg #[.int .i64 x108, .int .i64 x109, .slice s110a s110l s110c, .slice s111a s111l s111c, .slice s112a s112l s112c]) ∧ let w113 : World := wr w106 want84 (.agg #[.int .i64 x108, .int .i64 x109, .slice s110a s110l s110c, .slice s111a s111l s111c, .slice s112a s112l s112c])
  Kn  w113)) Kp)) Kp))) Kp))) Kp)) Kp)) else (Kn  w)

def T_law07_SnapWhole_5_outs : Exit → Option (List (Nat × Value)) := fun x => match x with | .normal => some [] | .ret => some [(6, .bool false)] | .panic _ => some [] | _ => none

def T_law07_SnapWhole_5_ks : Nat → Bool := ksOf [6, 12, 69, 70, 71, 72, 73, 74, 75, 76, 77, 78, 79, 80, 81, 82, 83, 84, 85, 86, 87, 88, 89]

def H_law07_SnapWhole_5 : Env → World → QT → Prop := unitHook 137 T_law07_SnapWhole_5_ks [(4, .pointer (some ⟨0, 0, none⟩)), (7, .pointer none), (11, .pointer (some ⟨0, 0, none⟩)), (68, .bool false)] T_law07_SnapWhole_5_outs fun l w C => match l with | [v0, v1, v2, v3] => T_law07_SnapWhole_5 (pAddr v0) (pPtr v1) (pAddr v2) (pBool v3) w (fun w => C .normal [] w) (fun b115 w => C .ret [.bool b115] w) (fun ch w => C (.panic ch) [] w) | _ => False

theorem T_law07_SnapWhole_5_hl : allP (hokL Try.prog (hookAt []) (at_ (bodyOf Try.f6) [1, 1, 1, 1, 1, 1, 1, 1, 1, 0, 1]) 4093) = (True) := by kernel_rfl
theorem T_law07_SnapWhole_5_hok : HOk Try.prog (hookAt []) (at_ (bodyOf Try.f6) [1, 1, 1, 1, 1, 1, 1, 1, 1, 0, 1]) 4093 := HOk_of _ _ (by rw [T_law07_SnapWhole_5_hl]; exact trivial)

theorem T_law07_SnapWhole_5_eq (C : Conts) (b82 : Addr) (d83 : Option Addr) (want84 : Addr) (b85 : Bool) (w : World) : vcCode Try.prog (hookAt []) (at_ (bodyOf Try.f6) [1, 1, 1, 1, 1, 1, 1, 1, 1, 0, 1]) 4093 ⟨[(4, .pointer (some b82)), (7, .pointer d83), (11, .pointer (some want84)), (68, .bool b85)], 137, []⟩ w (unitQ T_law07_SnapWhole_5_outs C) = T_law07_SnapWhole_5 b82 d83 want84 b85 w (fun w => C .normal [] w) (fun b116 w => C .ret [.bool b116] w) (fun ch w => C (.panic ch) [] w) := by kernel_rfl

theorem T_law07_SnapWhole_5_ok : UnitOk Try.prog H_law07_SnapWhole_5 (at_ (bodyOf Try.f6) [1, 1, 1, 1, 1, 1, 1, 1, 1, 0, 1]) 4093 := unit_ok (H := (hookAt [])) (by kernel_rfl) T_law07_SnapWhole_5_hok fun l w C hk => by
    obtain ⟨v0, l_v0, rfl, k_v0, hk_v0⟩ := Kinds.cons_ hk
    obtain ⟨b82, rfl⟩ := kind_addr k_v0
    obtain ⟨v1, l_v1, rfl, k_v1, hk_v1⟩ := Kinds.cons_ hk_v0
    obtain ⟨d83, rfl⟩ := kind_pointer k_v1
    obtain ⟨v2, l_v2, rfl, k_v2, hk_v2⟩ := Kinds.cons_ hk_v1
    obtain ⟨want84, rfl⟩ := kind_addr k_v2
    obtain ⟨v3, l_v3, rfl, k_v3, hk_v3⟩ := Kinds.cons_ hk_v2
    obtain ⟨b85, rfl⟩ := kind_bool k_v3
    obtain rfl := Kinds.nil_ hk_v3
    exact T_law07_SnapWhole_5_eq C b82 d83 want84 b85 w

def T_law07_SnapWhole_6 (want134 : Addr) (s135 : Addr) (g136 : Int) (w : World) (Kn : Bool → World → Prop) (Kp : List PanicEntry → World → Prop) : Prop :=
  if ((g136 : Int) != 0) = true then (Kn true w) else (∃ x137 : Int, ∃ x138 : Int, ∃ s139a : Option Addr, ∃ s139l : Nat, ∃ s139c : Nat, ∃ s140a : Option Addr, ∃ s140l : Nat, ∃ s140c : Nat, ∃ s141a : Option Addr, ∃ s141l : Nat, ∃ s141c : Nat, rd w s135 (.agg #[.int .i64 x137, .int .i64 x138, .slice s139a s139l s139c, .slice s140a s140l s140c, .slice s141a s141l s141c]) ∧ ∃ x142 : Int, ∃ x143 : Int, ∃ s144a : Option Addr, ∃ s144l : Nat, ∃ s144c : Nat, ∃ s145a : Option Addr, ∃ s145l : Nat, ∃ s145c : Nat, ∃ s146a : Option Addr, ∃ s146l : Nat, ∃ s146c : Nat, rd w want134 (.agg #[.int .i64 x142, .int .i64 x143, .slice s144a s144l s144c, .slice s145a s145l s145c, .slice s146a s146l s146c]) ∧ Calls Try.prog 11 #[.agg #[.int .i64 x137, .int .i64 x138, .slice s139a s139l s139c, .slice s140a s140l s140c, .slice s141a s141l s141c], .agg #[.int .i64 x142, .int .i64 x143, .slice s144a s144l s144c, .slice s145a s145l s145c, .slice s146a s146l s146c]] w (ret (fun r147 w148 => ∃ b149 : Bool, r147 = .bool b149 ∧ Kn (!b149) w148) Kp))

def T_law07_SnapWhole_6_outs : Exit → Option (List (Nat × Value)) := fun x => match x with | .normal => some [(111, .bool false)] | .panic _ => some [] | _ => none

def T_law07_SnapWhole_6_ks : Nat → Bool := ksOf [104, 105, 106, 107, 108, 109, 110, 111]

def H_law07_SnapWhole_6 : Env → World → QT → Prop := unitHook 137 T_law07_SnapWhole_6_ks [(11, .pointer (some ⟨0, 0, none⟩)), (13, .pointer (some ⟨0, 0, none⟩)), (14, .int .i64 0)] T_law07_SnapWhole_6_outs fun l w C => match l with | [v0, v1, v2] => T_law07_SnapWhole_6 (pAddr v0) (pAddr v1) (pInt v2) w (fun b151 w => C .normal [.bool b151] w) (fun ch w => C (.panic ch) [] w) | _ => False

theorem T_law07_SnapWhole_6_hl : allP (hokL Try.prog (hookAt []) (at_ (bodyOf Try.f6) [1, 1, 1, 1, 1, 1, 1, 1, 1, 1, 1, 1, 0, 0]) 32764) = (True) := by kernel_rfl
theorem T_law07_SnapWhole_6_hok : HOk Try.prog (hookAt []) (at_ (bodyOf Try.f6) [1, 1, 1, 1, 1, 1, 1, 1, 1, 1, 1, 1, 0, 0]) 32764 := HOk_of _ _ (by rw [T_law07_SnapWhole_6_hl]; exact trivial)

theorem T_law07_SnapWhole_6_eq (C : Conts) (want134 : Addr) (s135 : Addr) (g136 : Int) (w : World) : vcCode Try.prog (hookAt []) (at_ (bodyOf Try.f6) [1, 1, 1, 1, 1, 1, 1, 1, 1, 1, 1, 1, 0, 0]) 32764 ⟨[(11, .pointer (some want134)), (13, .pointer (some s135)), (14, .int .i64 g136)], 137, []⟩ w (unitQ T_law07_SnapWhole_6_outs C) = T_law07_SnapWhole_6 want134 s135 g136 w (fun b152 w => C .normal [.bool b152] w) (fun ch w => C (.panic ch) [] w) := by kernel_rfl

theorem T_law07_SnapWhole_6_ok : UnitOk Try.prog H_law07_SnapWhole_6 (at_ (bodyOf Try.f6) [1, 1, 1, 1, 1, 1, 1, 1, 1, 1, 1, 1, 0, 0]) 32764 := unit_ok (H := (hookAt [])) (by kernel_rfl) T_law07_SnapWhole_6_hok fun l w C hk => by
    obtain ⟨v0, l_v0, rfl, k_v0, hk_v0⟩ := Kinds.cons_ hk
    obtain ⟨want134, rfl⟩ := kind_addr k_v0
    obtain ⟨v1, l_v1, rfl, k_v1, hk_v1⟩ := Kinds.cons_ hk_v0
    obtain ⟨s135, rfl⟩ := kind_addr k_v1
    obtain ⟨v2, l_v2, rfl, k_v2, hk_v2⟩ := Kinds.cons_ hk_v1
    obtain ⟨g136, rfl⟩ := kind_int k_v2
    obtain rfl := Kinds.nil_ hk_v2
    exact T_law07_SnapWhole_6_eq C want134 s135 g136 w

def T_law07_SnapWhole (x1 : Int) (x2 : Int) (s3a : Option Addr) (s3l : Nat) (s3c : Nat) (s4a : Option Addr) (s4l : Nat) (s4c : Nat) (s5a : Option Addr) (s5l : Nat) (s5c : Nat) (x6 : Int) (x7 : Int) (s8a : Option Addr) (s8l : Nat) (s8c : Nat) (s9a : Option Addr) (s9l : Nat) (s9c : Nat) (s10a : Option Addr) (s10l : Nat) (s10c : Nat) (x11 : Int) (x12 : Int) (w : World) (R : Ending → World → Prop) : Prop :=
  let w13 : World := w.alloc (.cells #[.int .i64 x1, .int .i64 x2, .slice s3a s3l s3c, .slice s4a s4l s4c, .slice s5a s5l s5c] 29)
  let w14 : World := w13.alloc (.cells #[.int .i64 x6, .int .i64 x7, .slice s8a s8l s8c, .slice s9a s9l s9c, .slice s10a s10l s10c] 29)
  let w15 : World := w14.alloc (.cells #[.int .i64 x11, .int .i64 x12] 45)
  T_law07_SnapWhole_1 (⟨w.heap.size, 0, none⟩ : Addr) (⟨w13.heap.size, 0, none⟩ : Addr) w15 (fun b25 w26 => if b25 = true then (Calls Try.prog 12 #[] w26 (ret (fun r27 w28 => ∃ b29 : Bool, r27 = .bool b29 ∧ R (.returned (.bool b29)) w28) (pan R))) else (Calls Try.prog 16 #[.int .i64 65536] w26 (ret (fun r30 w31 => ∃ p32 : Option Addr, r30 = .pointer p32 ∧ ∃ x33 : Int, ∃ x34 : Int, ∃ s35a : Option Addr, ∃ s35l : Nat, ∃ s35c : Nat, ∃ s36a : Option Addr, ∃ s36l : Nat, ∃ s36c : Nat, ∃ s37a : Option Addr, ∃ s37l : Nat, ∃ s37c : Nat, rd w31 (⟨w13.heap.size, 0, none⟩ : Addr) (.agg #[.int .i64 x33, .int .i64 x34, .slice s35a s35l s35c, .slice s36a s36l s36c, .slice s37a s37l s37c]) ∧ Calls Try.prog 9 #[.agg #[.int .i64 x33, .int .i64 x34, .slice s35a s35l s35c, .slice s36a s36l s36c, .slice s37a s37l s37c]] w31 (ret (fun r38 w39 => ∃ s40a : Option Addr, ∃ s40l : Nat, ∃ s40c : Nat, ∃ x41 : Int, r38 = .tuple #[.slice s40a s40l s40c, .int .i64 x41] ∧ T_law07_SnapWhole_2 (⟨w.heap.size, 0, none⟩ : Addr) p32 x41 w39 (fun b56 w57 => if b56 = true then (Calls Try.prog 12 #[] w57 (ret (fun r58 w59 => ∃ b60 : Bool, r58 = .bool b60 ∧ R (.returned (.bool b60)) w59) (pan R))) else (0 ≤ (0 : Int) ∧ (0 : Int) < 2 ∧ ∃ x61 : Int, rd w57 ((⟨w14.heap.size, 0, none⟩ : Addr).add ((0 : Int).toNat * 1)) (.int .i64 x61) ∧ T_law07_SnapWhole_3 p32 s40a s40l s40c (decide ((IntKind.wrap .i64 (Int.tmod (IntKind.wrap .u64 x61) 4) : Int) > 0)) w57 (fun w68 => T_law07_SnapWhole_4 p32 (decide ((IntKind.wrap .i64 (Int.tmod (IntKind.wrap .u64 x61) 4) : Int) > 1)) w68 (fun w74 => ∃ x75 : Int, ∃ x76 : Int, ∃ s77a : Option Addr, ∃ s77l : Nat, ∃ s77c : Nat, ∃ s78a : Option Addr, ∃ s78l : Nat, ∃ s78c : Nat, ∃ s79a : Option Addr, ∃ s79l : Nat, ∃ s79c : Nat, rd w74 (⟨w.heap.size, 0, none⟩ : Addr) (.agg #[.int .i64 x75, .int .i64 x76, .slice s77a s77l s77c, .slice s78a s78l s78c, .slice s79a s79l s79c]) ∧ let w80 : World := w74.alloc (.cells #[.int .i64 0, .int .i64 0, .slice none 0 0, .slice none 0 0, .slice none 0 0] 29)
  (.agg #[.int .i64 x75, .int .i64 x76, .slice s77a s77l s77c, .slice s78a s78l s78c, .slice s79a s79l s79c] : Value).cells.size = 5 ∧ wrOk w80 (⟨w74.heap.size, 0, none⟩ : Addr) (.agg #[.int .i64 x75, .int .i64 x76, .slice s77a s77l s77c, .slice s78a s78l s78c, .slice s79a s79l s79c]) ∧ let w81 : World := wr w80 (⟨w74.heap.size, 0, none⟩ : Addr) (.agg #[.int .i64 x75, .int .i64 x76, .slice s77a s77l s77c, .slice s78a s78l s78c, .slice s79a s79l s79c])
  T_law07_SnapWhole_5 (⟨w13.heap.size, 0, none⟩ : Addr) p32 (⟨w74.heap.size, 0, none⟩ : Addr) (decide ((IntKind.wrap .i64 (Int.tmod (IntKind.wrap .u64 x61) 4) : Int) > 2)) w81 (fun w117 => 0 ≤ (1 : Int) ∧ (1 : Int) < 2 ∧ ∃ x118 : Int, rd w117 ((⟨w14.heap.size, 0, none⟩ : Addr).add ((1 : Int).toNat * 1)) (.int .i64 x118) ∧ 0 ≤ (1 : Int) ∧ (1 : Int) < 2 ∧ ∃ x119 : Int, rd w117 ((⟨w14.heap.size, 0, none⟩ : Addr).add ((1 : Int).toNat * 1)) (.int .i64 x119) ∧ 0 ≤ (1 : Int) ∧ (1 : Int) < 2 ∧ ∃ x120 : Int, rd w117 ((⟨w14.heap.size, 0, none⟩ : Addr).add ((1 : Int).toNat * 1)) (.int .i64 x120) ∧ let w121 : World := w117.alloc (.cells #[.int .i64 x118, .int .i64 x119, .int .i64 x120] 3)
  Calls Try.prog 22 #[.pointer p32, .slice (some (⟨w117.heap.size, 0, none⟩ : Addr)) 3 3] w121 (ret (fun r122 w123 => r122 = .tuple #[] ∧ Calls Try.prog 23 #[.pointer p32] w123 (ret (fun r124 w125 => ∃ x126 : Int, ∃ x127 : Int, ∃ s128a : Option Addr, ∃ s128l : Nat, ∃ s128c : Nat, ∃ s129a : Option Addr, ∃ s129l : Nat, ∃ s129c : Nat, ∃ s130a : Option Addr, ∃ s130l : Nat, ∃ s130c : Nat, ∃ x131 : Int, r124 = .tuple #[.agg #[.int .i64 x126, .int .i64 x127, .slice s128a s128l s128c, .slice s129a s129l s129c, .slice s130a s130l s130c], .int .i64 x131] ∧ let w132 : World := w125.alloc (.cells #[.int .i64 0, .int .i64 0, .slice none 0 0, .slice none 0 0, .slice none 0 0] 29)
  (.agg #[.int .i64 x126, .int .i64 x127, .slice s128a s128l s128c, .slice s129a s129l s129c, .slice s130a s130l s130c] : Value).cells.size = 5 ∧ wrOk w132 (⟨w125.heap.size, 0, none⟩ : Addr) (.agg #[.int .i64 x126, .int .i64 x127, .slice s128a s128l s128c, .slice s129a s129l s129c, .slice s130a s130l s130c]) ∧ let w133 : World := wr w132 (⟨w125.heap.size, 0, none⟩ : Addr) (.agg #[.int .i64 x126, .int .i64 x127, .slice s128a s128l s128c, .slice s129a s129l s129c, .slice s130a s130l s130c])
  T_law07_SnapWhole_6 (⟨w74.heap.size, 0, none⟩ : Addr) (⟨w125.heap.size, 0, none⟩ : Addr) x131 w133 (fun b153 w154 => if b153 = true then (R (.returned (.bool false)) w154) else (∃ x155 : Int, ∃ x156 : Int, ∃ s157a : Option Addr, ∃ s157l : Nat, ∃ s157c : Nat, ∃ s158a : Option Addr, ∃ s158l : Nat, ∃ s158c : Nat, ∃ s159a : Option Addr, ∃ s159l : Nat, ∃ s159c : Nat, rd w154 (⟨w13.heap.size, 0, none⟩ : Addr) (.agg #[.int .i64 x155, .int .i64 x156, .slice s157a s157l s157c, .slice s158a s158l s158c, .slice s159a s159l s159c]) ∧ Calls Try.prog 17 #[.pointer p32, .agg #[.int .i64 x155, .int .i64 x156, .slice s157a s157l s157c, .slice s158a s158l s158c, .slice s159a s159l s159c]] w154 (ret (fun r160 w161 => ∃ x162 : Int, r160 = .int .i64 x162 ∧ if ((x162 : Int) != 0) = true then (R (.returned (.bool false)) w161) else (Calls Try.prog 23 #[.pointer p32] w161 (ret (fun r163 w164 => ∃ x165 : Int, ∃ x166 : Int, ∃ s167a : Option Addr, ∃ s167l : Nat, ∃ s167c : Nat, ∃ s168a : Option Addr, ∃ s168l : Nat, ∃ s168c : Nat, ∃ s169a : Option Addr, ∃ s169l : Nat, ∃ s169c : Nat, ∃ x170 : Int, r163 = .tuple #[.agg #[.int .i64 x165, .int .i64 x166, .slice s167a s167l s167c, .slice s168a s168l s168c, .slice s169a s169l s169c], .int .i64 x170] ∧ let w171 : World := w164.alloc (.cells #[.int .i64 0, .int .i64 0, .slice none 0 0, .slice none 0 0, .slice none 0 0] 29)
  (.agg #[.int .i64 x165, .int .i64 x166, .slice s167a s167l s167c, .slice s168a s168l s168c, .slice s169a s169l s169c] : Value).cells.size = 5 ∧ wrOk w171 (⟨w164.heap.size, 0, none⟩ : Addr) (.agg #[.int .i64 x165, .int .i64 x166, .slice s167a s167l s167c, .slice s168a s168l s168c, .slice s169a s169l s169c]) ∧ let w172 : World := wr w171 (⟨w164.heap.size, 0, none⟩ : Addr) (.agg #[.int .i64 x165, .int .i64 x166, .slice s167a s167l s167c, .slice s168a s168l s168c, .slice s169a s169l s169c])
  Calls Try.prog 12 #[] w172 (ret (fun r173 w174 => ∃ b175 : Bool, r173 = .bool b175 ∧ if b175 = true then (if ((x170 : Int) == 0) = true then (∃ x176 : Int, ∃ x177 : Int, ∃ s178a : Option Addr, ∃ s178l : Nat, ∃ s178c : Nat, ∃ s179a : Option Addr, ∃ s179l : Nat, ∃ s179c : Nat, ∃ s180a : Option Addr, ∃ s180l : Nat, ∃ s180c : Nat, rd w174 (⟨w164.heap.size, 0, none⟩ : Addr) (.agg #[.int .i64 x176, .int .i64 x177, .slice s178a s178l s178c, .slice s179a s179l s179c, .slice s180a s180l s180c]) ∧ ∃ x181 : Int, ∃ x182 : Int, ∃ s183a : Option Addr, ∃ s183l : Nat, ∃ s183c : Nat, ∃ s184a : Option Addr, ∃ s184l : Nat, ∃ s184c : Nat, ∃ s185a : Option Addr, ∃ s185l : Nat, ∃ s185c : Nat, rd w174 (⟨w13.heap.size, 0, none⟩ : Addr) (.agg #[.int .i64 x181, .int .i64 x182, .slice s183a s183l s183c, .slice s184a s184l s184c, .slice s185a s185l s185c]) ∧ Calls Try.prog 11 #[.agg #[.int .i64 x176, .int .i64 x177, .slice s178a s178l s178c, .slice s179a s179l s179c, .slice s180a s180l s180c], .agg #[.int .i64 x181, .int .i64 x182, .slice s183a s183l s183c, .slice s184a s184l s184c, .slice s185a s185l s185c]] w174 (ret (fun r186 w187 => ∃ b188 : Bool, r186 = .bool b188 ∧ if b188 = true then (Calls Try.prog 20 #[.pointer p32] w187 (ret (fun r189 w190 => ∃ s191a : Option Addr, ∃ s191l : Nat, ∃ s191c : Nat, r189 = .slice s191a s191l s191c ∧ R (.returned (.bool (((s191l : Nat) : Int) == 1))) w190) (pan R))) else (R (.returned (.bool false)) w187)) (pan R))) else (R (.returned (.bool false)) w174)) else (R (.returned (.bool false)) w174)) (pan R))) (pan R)))) (pan R)))) (pan R)) (pan R))) (pan R))) (fun b192 w193 => R (.returned (.bool b192)) w193) (pan R)) (pan R)) (pan R))) (pan R)) (pan R))) (pan R)))) (pan R)

theorem T_law07_SnapWhole_hl : allP (hokL Try.prog (hookAt [(12, H_law07_SnapWhole_1), (124, H_law07_SnapWhole_2), (509, H_law07_SnapWhole_3), (1021, H_law07_SnapWhole_4), (4093, H_law07_SnapWhole_5), (32764, H_law07_SnapWhole_6)]) (bodyOf Try.f6) 1) = (UnitOk Try.prog H_law07_SnapWhole_1 (at_ (bodyOf Try.f6) [1, 0, 0]) 12 ∧ UnitOk Try.prog H_law07_SnapWhole_2 (at_ (bodyOf Try.f6) [1, 1, 1, 1, 0, 0]) 124 ∧ UnitOk Try.prog H_law07_SnapWhole_3 (at_ (bodyOf Try.f6) [1, 1, 1, 1, 1, 1, 0, 1]) 509 ∧ UnitOk Try.prog H_law07_SnapWhole_4 (at_ (bodyOf Try.f6) [1, 1, 1, 1, 1, 1, 1, 0, 1]) 1021 ∧ UnitOk Try.prog H_law07_SnapWhole_5 (at_ (bodyOf Try.f6) [1, 1, 1, 1, 1, 1, 1, 1, 1, 0, 1]) 4093 ∧ UnitOk Try.prog H_law07_SnapWhole_6 (at_ (bodyOf Try.f6) [1, 1, 1, 1, 1, 1, 1, 1, 1, 1, 1, 1, 0, 0]) 32764 ∧ True) := by kernel_rfl

theorem T_law07_SnapWhole_eq (x1 : Int) (x2 : Int) (s3a : Option Addr) (s3l : Nat) (s3c : Nat) (s4a : Option Addr) (s4l : Nat) (s4c : Nat) (s5a : Option Addr) (s5l : Nat) (s5c : Nat) (x6 : Int) (x7 : Int) (s8a : Option Addr) (s8l : Nat) (s8c : Nat) (s9a : Option Addr) (s9l : Nat) (s9c : Nat) (s10a : Option Addr) (s10l : Nat) (s10c : Nat) (x11 : Int) (x12 : Int) (w : World) (R : Ending → World → Prop) : vcCode Try.prog (hookAt [(12, H_law07_SnapWhole_1), (124, H_law07_SnapWhole_2), (509, H_law07_SnapWhole_3), (1021, H_law07_SnapWhole_4), (4093, H_law07_SnapWhole_5), (32764, H_law07_SnapWhole_6)]) (bodyOf Try.f6) 1 ⟨argEnv [.agg #[.int .i64 x1, .int .i64 x2, .slice s3a s3l s3c, .slice s4a s4l s4c, .slice s5a s5l s5c], .agg #[.int .i64 x6, .int .i64 x7, .slice s8a s8l s8c, .slice s9a s9l s9c, .slice s10a s10l s10c], .agg #[.int .i64 x11, .int .i64 x12]] 0, Try.f6.ntmps, []⟩ w (finQ Try.prog Try.f6.results.toList R) = T_law07_SnapWhole x1 x2 s3a s3l s3c s4a s4l s4c s5a s5l s5c x6 x7 s8a s8l s8c s9a s9l s9c s10a s10l s10c x11 x12 w R := by kernel_rfl

theorem T_law07_SnapWhole_b : Try.f6.body = some (bodyOf Try.f6) := by kernel_rfl
theorem T_law07_SnapWhole_s : (quietSel (bodyOf Try.f6) && Nat.ble 3 Try.f6.ntmps) = true := by kernel_rfl

theorem C_law07_SnapWhole {x1 : Int} {x2 : Int} {s3a : Option Addr} {s3l : Nat} {s3c : Nat} {s4a : Option Addr} {s4l : Nat} {s4c : Nat} {s5a : Option Addr} {s5l : Nat} {s5c : Nat} {x6 : Int} {x7 : Int} {s8a : Option Addr} {s8l : Nat} {s8c : Nat} {s9a : Option Addr} {s9l : Nat} {s9c : Nat} {s10a : Option Addr} {s10l : Nat} {s10c : Nat} {x11 : Int} {x12 : Int} {w : World} {R : Ending → World → Prop} (h : T_law07_SnapWhole x1 x2 s3a s3l s3c s4a s4l s4c s5a s5l s5c x6 x7 s8a s8l s8c s9a s9l s9c s10a s10l s10c x11 x12 w R) : Calls Try.prog 6 #[.agg #[.int .i64 x1, .int .i64 x2, .slice s3a s3l s3c, .slice s4a s4l s4c, .slice s5a s5l s5c], .agg #[.int .i64 x6, .int .i64 x7, .slice s8a s8l s8c, .slice s9a s9l s9c, .slice s10a s10l s10c], .agg #[.int .i64 x11, .int .i64 x12]] w R :=
  calls_of_text (args := [.agg #[.int .i64 x1, .int .i64 x2, .slice s3a s3l s3c, .slice s4a s4l s4c, .slice s5a s5l s5c], .agg #[.int .i64 x6, .int .i64 x7, .slice s8a s8l s8c, .slice s9a s9l s9c, .slice s10a s10l s10c], .agg #[.int .i64 x11, .int .i64 x12]]) mixed Try.func6 T_law07_SnapWhole_b T_law07_SnapWhole_s (HOk_of _ _ (by rw [T_law07_SnapWhole_hl]; exact ⟨T_law07_SnapWhole_1_ok, T_law07_SnapWhole_2_ok, T_law07_SnapWhole_3_ok, T_law07_SnapWhole_4_ok, T_law07_SnapWhole_5_ok, T_law07_SnapWhole_6_ok, trivial⟩)) (by rw [T_law07_SnapWhole_eq]; exact h)

end Go.Proofs.Ytclinifclfahfaa
