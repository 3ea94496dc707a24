/-
  What is known of memory for good (a growing map of blocks), beside what is owned; selections out of what is owned.
-/
import Derived.Test.YtcpmfjclkdjfmaaGreatVcLaw
namespace Go.Vc
open Go Go.RowKit

/-! ### selections -/
def nth : List Asrt → Nat → Asrt
  | [], _ => fun _ => True
  | A :: _, 0 => A
  | _ :: L, n + 1 => nth L n
def behindN : Nat → List Asrt → List Asrt
  | 0, L => L
  | n + 1, L => behindN n L.tail
abbrev behind (L : List Asrt) (n : Nat) : List Asrt := behindN n L
def pick (L : List Asrt) (n : Nat) : List Nat → List Asrt
  | [] => behind L n
  | i :: r => nth L i :: pick L n r
def pickOk (n : Nat) : List Nat → Bool
  | [] => true
  | i :: r => decide (i < n) && !r.contains i && pickOk n r
section
variable {E w : World} {L L' : List Asrt}
theorem St.dropN {L1 L2 : List Asrt} (h : St E (L1 ++ L2) w) : St E L2 w := by
  induction L1 with
  | nil => exact h
  | cons A r ih => exact ih h.drop
theorem St.sub (h : St E L w) (hs : L'.Sublist L) : St E L' w := by
  obtain ⟨l, hp⟩ := hs.exists_perm_append
  exact (h.perm (hp.trans List.perm_append_comm)).dropN
theorem nth_eq : ∀ (L : List Asrt) (i : Nat), i < L.length → L[i]? = some (nth L i)
  | [], _, h => by simp at h
  | A :: L, 0, _ => rfl
  | A :: L, i + 1, h => by simpa [nth] using nth_eq L i (by simpa using h)
theorem behind_eq : ∀ (L : List Asrt) (n : Nat), behind L n = L.drop n
  | L, 0 => by simp [behind, behindN]
  | [], n + 1 => by simpa [behind, behindN] using behind_eq [] n
  | A :: L, n + 1 => by simpa [behind, behindN] using behind_eq L n
theorem pick_eq (L : List Asrt) (n : Nat) : ∀ is : List Nat, pick L n is = is.map (nth L) ++ behind L n
  | [] => rfl
  | i :: r => by simp [pick, pick_eq L n r]
theorem pickOk_lt {n : Nat} : ∀ {is : List Nat}, pickOk n is = true → ∀ i ∈ is, i < n
  | [], _, _, h => by cases h
  | i :: r, h, j, hj => by
    simp only [pickOk, Bool.and_eq_true, decide_eq_true_eq] at h
    rcases List.mem_cons.1 hj with rfl | hj
    · exact h.1.1
    · exact pickOk_lt h.2 j hj
theorem pickOk_nodup {n : Nat} : ∀ {is : List Nat}, pickOk n is = true → is.Nodup
  | [], _ => List.nodup_nil
  | i :: r, h => by
    simp only [pickOk, Bool.and_eq_true, Bool.not_eq_true', List.contains_eq_mem, decide_eq_false_iff_not] at h
    exact List.nodup_cons.2 ⟨h.1.2, pickOk_nodup h.2⟩
theorem range_nth : ∀ (L : List Asrt) (n : Nat), n ≤ L.length → (List.range n).map (nth L) = L.take n := by
  intro L n hn
  apply List.ext_getElem?
  intro i
  simp only [List.getElem?_map, List.getElem?_take]
  by_cases hi : i < n
  · rw [List.getElem?_range hi, if_pos hi, nth_eq L i (by omega)]; rfl
  · rw [if_neg hi, List.getElem?_eq_none (by simp; omega)]; rfl
theorem filter_false_all {α : Type} : ∀ l : List α, (l.filter fun _ => false) = []
  | [] => rfl
  | _ :: l => by simp
/-- Those of the first n that are named, in this order; the others of the n are let go. -/
theorem St.sel (h : St E L w) (n : Nat) (is : List Nat) (hn : n ≤ L.length := by first | simp | exact Nat.le_of_ble_eq_true rfl) (hk : pickOk n is = true := by decide) : St E (pick L n is) w := by
  rw [pick_eq, behind_eq]
  have hp : (is ++ (List.range n).filter fun i => !is.contains i).Perm (List.range n) := by
    refine (List.Perm.append_right _ ?_).trans (List.filter_append_perm (fun i => is.contains i) (List.range n))
    refine (List.perm_ext_iff_of_nodup (pickOk_nodup hk) (List.nodup_range.filter _)).2 fun a => ?_
    simp only [List.mem_filter, List.mem_range, List.contains_eq_mem, decide_eq_true_eq]
    exact ⟨fun ha => ⟨pickOk_lt hk a ha, ha⟩, fun ha => ha.2⟩
  have hp2 := hp.map (nth L)
  rw [range_nth L n hn, List.map_append] at hp2
  have h2 : St E (L.take n ++ L.drop n) w := by rwa [List.take_append_drop]
  have h3 := h2.perm (hp2.symm.append_right (L.drop n))
  exact h3.sub ((List.sublist_append_left _ _).append_right _)
end

/-! ### where it stands -/
section
variable {α : Type} {x : α} {l : List α}
theorem at0 : x ∈ x :: l := List.mem_cons_self
theorem at1 {a0 : α} : x ∈ a0 :: x :: l := List.mem_cons_of_mem _ at0
theorem at2 {a0 a1 : α} : x ∈ a0 :: a1 :: x :: l := List.mem_cons_of_mem _ at1
theorem at3 {a0 a1 a2 : α} : x ∈ a0 :: a1 :: a2 :: x :: l := List.mem_cons_of_mem _ at2
theorem at4 {a0 a1 a2 a3 : α} : x ∈ a0 :: a1 :: a2 :: a3 :: x :: l := List.mem_cons_of_mem _ at3
theorem at5 {a0 a1 a2 a3 a4 : α} : x ∈ a0 :: a1 :: a2 :: a3 :: a4 :: x :: l := List.mem_cons_of_mem _ at4
theorem at6 {a0 a1 a2 a3 a4 a5 : α} : x ∈ a0 :: a1 :: a2 :: a3 :: a4 :: a5 :: x :: l := List.mem_cons_of_mem _ at5
theorem at7 {a0 a1 a2 a3 a4 a5 a6 : α} : x ∈ a0 :: a1 :: a2 :: a3 :: a4 :: a5 :: a6 :: x :: l := List.mem_cons_of_mem _ at6
theorem at8 {a0 a1 a2 a3 a4 a5 a6 a7 : α} : x ∈ a0 :: a1 :: a2 :: a3 :: a4 :: a5 :: a6 :: a7 :: x :: l := List.mem_cons_of_mem _ at7
theorem at9 {a0 a1 a2 a3 a4 a5 a6 a7 a8 : α} : x ∈ a0 :: a1 :: a2 :: a3 :: a4 :: a5 :: a6 :: a7 :: a8 :: x :: l := List.mem_cons_of_mem _ at8
theorem at10 {a0 a1 a2 a3 a4 a5 a6 a7 a8 a9 : α} : x ∈ a0 :: a1 :: a2 :: a3 :: a4 :: a5 :: a6 :: a7 :: a8 :: a9 :: x :: l := List.mem_cons_of_mem _ at9
theorem at11 {a0 a1 a2 a3 a4 a5 a6 a7 a8 a9 a10 : α} : x ∈ a0 :: a1 :: a2 :: a3 :: a4 :: a5 :: a6 :: a7 :: a8 :: a9 :: a10 :: x :: l := List.mem_cons_of_mem _ at10
end
/-! ### what is known for good -/
abbrev Fz := Nat → Option Obj
def kn (F : Fz) : Asrt := fun h => ∀ b o, F b = some o → ∃ f, h b = some (f, o)
def Fz.le (F G : Fz) : Prop := ∀ b o, F b = some o → G b = some o
def Knows (F : Fz) (w : World) : Prop := ∀ b o, F b = some o → w.heap[b]? = some o
def Fz.put (F : Fz) (b : Nat) (o : Obj) : Fz := fun c => if c = b then some o else F c
def RdF (F : Fz) (a : Option Addr) (l sz : Nat) (xs : List Value) : Prop := ∀ w, Knows F w → RdS w a l sz xs
section
variable {E w : World} {L : List Asrt} {F G H : Fz} {a : Option Addr} {l c sz : Nat} {e : TypeId} {xs : List Value}
theorem Fz.le_refl (F : Fz) : Fz.le F F := fun _ _ h => h
theorem Fz.le_trans (h : Fz.le F G) (k : Fz.le G H) : Fz.le F H := fun b o x => k b o (h b o x)
theorem Knows.mono (h : Knows G w) (k : Fz.le F G) : Knows F w := fun b o x => h b o (k b o x)
theorem RdF.mono (h : RdF F a l sz xs) (k : Fz.le F G) : RdF G a l sz xs := fun w hw => h w (hw.mono k)
theorem Dup.kn_ : Dup (kn F) := fun h hh b o hb => by
  obtain ⟨f, hf⟩ := hh b o hb
  exact ⟨false, by simp [toRO, hf]⟩
theorem St.knows (h : St E (kn F :: L) w) : Knows F w := fun b o hb => by
  obtain ⟨_, x, ⟨h1, h2, d, rfl, hA, hL⟩, hl⟩ := h
  obtain ⟨f, hf⟩ := hA b o hb
  exact hl b f o (by unfold un; rw [hf])
theorem St.know (h : St E L w) (hm : kn F ∈ L) : Knows F w := by
  obtain ⟨l1, l2, rfl⟩ := List.append_of_mem hm
  exact (St.front l1 h).knows
theorem RdF.at (h : RdF F a l sz xs) (hs : St E L w) (hm : kn F ∈ L := by simp) : RdS w a l sz xs := h w (hs.know hm)
theorem RdF.nil (F : Fz) (a : Option Addr) : RdF F a 0 sz [] := fun w _ => RdS.nil w a
theorem RdF.len (h : RdF F a l sz xs) (hs : St E L w) (hm : kn F ∈ L := by simp) : xs.length = l * sz := (h.at hs hm).1
theorem RdF.count {α : Type} {f : α → List Value} {qs : List α} (h : RdF F a l sz (qs.flatMap f)) (hf : ∀ q, (f q).length = sz) (h0 : 0 < sz) (hs : St E L w) (hm : kn F ∈ L := by simp) : qs.length = l := (h.at hs hm).count hf h0
theorem RdF.of_world {W : World} (h : RdS W a l sz xs) : RdF (fun b => W.heap[b]?) a l sz xs := fun w hw => by
  refine h.grow fun b hb => ?_
  rw [Array.getElem?_eq_getElem hb]
  exact hw b _ (Array.getElem?_eq_getElem hb)
theorem St.start_kn (w : World) : St w [kn fun b => w.heap[b]?] w := St.start w
theorem St.below_kn {w w' : World} (h : St w (kn F :: L) w') (k : Fz.le (fun b => w.heap[b]?) F) : Below w.heap.size w w' :=
  St.below (L := []) (St.sub (h.mono (B := old w) fun x hx b o hb => hx b o (k b o hb)) (List.Sublist.cons_cons _ (List.nil_sublist _)))
/-- A block of ours, wherever it stands. -/
theorem St.mem {b : Nat} {o : Obj} (h : St E L w) (hm : blk b o ∈ L) : w.heap[b]? = some o := by
  obtain ⟨l1, l2, rfl⟩ := List.append_of_mem hm
  exact (St.front l1 h).at_blk
/-- A block of ours is given up: it stays for good. -/
theorem St.learn {b : Nat} {o : Obj} (h : St E (blk b o :: kn F :: L) w) : Fz.le F (F.put b o) ∧ St E (kn (F.put b o) :: L) w := by
  obtain ⟨en, x, ⟨h1, h23, d, rfl, hA, h2, h3, d2, rfl, hB, hL⟩, hl⟩ := h
  have hA' : h1 b = some (true, o) := hA
  refine ⟨fun c u hc => ?_, en, un (un h1 h2) h3, ⟨un h1 h2, h3, ?_, rfl, ?_, hL⟩, ?_⟩
  · unfold Fz.put
    split
    · rename_i e
      subst e
      obtain ⟨f, hf⟩ := hB c u hc
      rcases d c with h' | h' | ⟨o', h', _⟩
      · rw [hA'] at h'; cases h'
      · simp [un, hf] at h'
      · rw [hA'] at h'; cases h'
    · exact hc
  · obtain ⟨d12, d13⟩ := dj_un d d2
    exact dj_un_left d13 d2
  · intro c u hc
    unfold Fz.put at hc
    split at hc
    · rename_i e
      subst e
      injection hc with hc
      subst hc
      exact ⟨true, by simp [un, hA']⟩
    · obtain ⟨f, hf⟩ := hB c u hc
      cases h1c : h1 c with
      | none => exact ⟨f, by simp [un, h1c, hf]⟩
      | some y =>
        rcases d c with h' | h' | ⟨o', h', h''⟩
        · rw [h'] at h1c; cases h1c
        · simp [un, hf] at h'
        · simp [un, hf] at h''
          exact ⟨false, by simp [un, h', h''.2]⟩
  · rw [un_assoc]; exact hl
theorem St.freezeS (h : St E (ownS a l c e sz xs :: kn F :: L) w) : ∃ G, Fz.le F G ∧ St E (kn G :: L) w ∧ RdF G a l sz xs := by
  have hf := h.ownS_facts
  rcases h.ownS_open with ⟨rfl, rfl, rfl, rfl⟩ | ⟨g, rest, rfl, hr, hs⟩
  · exact ⟨F, Fz.le_refl F, h.drop, RdF.nil F none⟩
  · obtain ⟨hle, h2⟩ := hs.learn
    refine ⟨_, hle, h2, fun w' hw => ⟨hf.1, .inr ⟨g, 0, rfl, fun i u hu => ?_⟩⟩⟩
    have hb := hw g (.cells ⟨xs ++ rest⟩ e (0, 0)) (by simp [Fz.put])
    rw [Nat.zero_add, cell_of hb, List.getElem?_append_left (List.getElem?_eq_some_iff.1 hu).1, hu]
/-- A block read for good. -/
def atF (F : Fz) (b : Nat) (t : TypeId) (l : List Value) : Prop := F b = some (.cells ⟨l⟩ t (0, 0))
theorem St.learnL {b : Nat} {t : TypeId} {l : List Value} (h : St E (blkL b t l :: kn F :: L) w) : ∃ G, Fz.le F G ∧ St E (kn G :: L) w ∧ atF G b t l :=
  ⟨_, h.learn.1, h.learn.2, by simp [atF, Fz.put]⟩
theorem RdF.sub (h : RdF F a l sz xs) {lo hi : Nat} (h1 : lo ≤ hi) (h2 : hi ≤ l) (c0 : Nat) (hc : hi ≤ c0) :
    RdF F (if c0 = lo then a else a.map fun x => x.add (lo * sz)) (hi - lo) sz ((xs.drop (lo * sz)).take ((hi - lo) * sz)) := fun w hw => (h w hw).sub h1 h2 c0 hc
end

/-- Up to l, one by one. -/
theorem up_to (l : Nat) {Q : Nat → Prop} (h : ∀ j, j ≤ l → (j < l → Q (j + 1)) → Q j) : Q 0 := by
  have go : ∀ n j, n = l - j → j ≤ l → Q j := by
    intro n
    induction n with
    | zero => intro j hn hj; exact h j hj fun hl => absurd hl (by omega)
    | succ n ih => intro j hn hj; exact h j hj fun hl => ih (j + 1) (by omega) (by omega)
  exact go l 0 (by omega) (by omega)
theorem wrap_id {x : Int} (h1 : -9223372036854775808 ≤ x) (h2 : x ≤ 9223372036854775807) : IntKind.wrap .i64 x = x := by
  unfold IntKind.wrap
  simp [IntKind.signed, IntKind.bits]
  omega
theorem wrap_succ {j l : Nat} (h : j < l) (hl : l ≤ 1000000000000) : IntKind.wrap .i64 ((j : Int) + 1) = ((j + 1 : Nat) : Int) := by
  rw [wrap_id (by omega) (by omega)]; omega
end Go.Vc
