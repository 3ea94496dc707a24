/-
  Texts of this claim's own, laid into one: ConfA, VcSort, ConfS, ConfB, VcStr, ConfC, VcEq, ConfPa, ConfD, ConfE, ConfF, ConfH, ConfI, ConfJ, ConfN, ConfO, ConfQ, ConfR, ConfT, Gd, ConfU, Gh, ConfY, ConfZ, ConfAa, ConfX, Gi, ConfBb, ConfCk, GVersions.
-/
import Derived.Sort.Grow
import Derived.Sort.EncStr
import Derived.Sort.Walk0
import Derived.Shelf.GgSortFunc.RowK
import Derived.Shelf.GgSortFunc.InsertionK
import Derived.Shelf.SlSortCmp.Insertion
import Derived.Shelf.SortM.Plain
import Derived.Shelf.SortM.SortNone
import Derived.Shelf.SlSortCmp.NoneTotal
import Derived.Laws.Externs
import Derived.Test.YtcpmfjclkdjfmaaProg
import Derived.KernelRfl
import Derived.Test.YtcpmfjclkdjfmaaXConfVersionsA
import Derived.Test.YtcpmfjclkdjfmaaXConfVersionsB
set_option linter.all false
/-
  Which names, hosts, prefixes, addresses, weights may be: the program's functions and the document's.
-/
namespace Go.Vc
open Go Go.Proofs Go.Proofs.Ytcpmfjclkdjfmaa
set_option maxRecDepth 100000

abbrev Sl := Option Addr × Nat × Nat
/-- As many bytes as a row can be made of; as many as a string that came in may have. -/
abbrev big : Nat := 140737488355328
abbrev huge : Nat := 9223372036854775807
def bs (s : Cm.Bs) : ByteArray := ⟨s.toArray⟩
theorem bs_toList (s : Cm.Bs) : (bs s).toList = s := toList_mk s
theorem bs_size (s : Cm.Bs) : (bs s).size = s.length := by simp [bs, ByteArray.size]
theorem bs_get (s : Cm.Bs) (i : Nat) : (bs s)[i]? = s[i]? := by
  show (getElem? (bs s) i) = _
  by_cases h : i < s.length
  · rw [getElem?_pos (bs s) i (by rw [bs_size]; exact h), List.getElem?_eq_getElem h]
    rfl
  · rw [getElem?_neg (bs s) i (by rw [bs_size]; exact h), List.getElem?_eq_none (by omega)]
theorem bs_of (b : ByteArray) : bs b.data.toList = b := by cases b; rfl
theorem toList_nil : (ByteArray.mk #[]).toList = [] := toList_mk []
theorem bs_inj {a b : Cm.Bs} (h : bs a = bs b) : a = b := by have := congrArg ByteArray.toList h; rwa [bs_toList, bs_toList] at this
theorem cong {α : Type} {K : α → World → Prop} {w : World} {a b : α} (k : K a w) (h : a = b) : K b w := h ▸ k
theorem congB {R : Ending → World → Prop} {w : World} {a b : Bool} (k : R (.returned (.bool a)) w) (h : a = b) : R (.returned (.bool b)) w := h ▸ k
theorem congI {R : Ending → World → Prop} {w : World} {q : IntKind} {a b : Int} (k : R (.returned (.int q a)) w) (h : a = b) : R (.returned (.int q b)) w := h ▸ k
theorem succ_big {j : Nat} (h : j < big) : IntKind.wrap .i64 ((j : Int) + 1) = ((j + 1 : Nat) : Int) := by rw [wrap_id (by omega) (by unfold big at h; omega)]; omega
theorem succ_huge {j : Nat} (h : j < huge) : IntKind.wrap .i64 ((j : Int) + 1) = ((j + 1 : Nat) : Int) := by rw [wrap_id (by omega) (by unfold huge at h; omega)]; omega

section
variable {E w : World} {L : List Asrt} {R : Ending → World → Prop}

/-! ### one byte, and each one -/
theorem small_spec {c : UInt8} (h : St E L w) (k : ∀ w', St E L w' → R (.returned (.bool (Cm.small c))) w') : Calls Try.prog 61 #[.int .u8 ((c.toNat : Nat) : Int)] w R := by
  refine C_conf_small ?_
  unfold T_conf_small
  have q := k w h
  have hq : ∀ b : Bool, Cm.small c = b → R (.returned (.bool b)) w := fun b hb => hb ▸ q
  refine ite_d (fun h1 => ite_d (fun h2 => hq _ ?_) fun h2 => ite_d (fun h3 => ite_d (fun h4 => hq _ ?_) fun h4 => hq _ ?_) fun h3 => hq _ ?_) fun h1 => ite_d (fun h3 => ite_d (fun h4 => hq _ ?_) fun h4 => hq _ ?_) fun h3 => hq _ ?_
  all_goals (rw [Bool.eq_iff_iff]; simp [Cm.small]; omega)
def eachRun {σ : Type} (f : σ → UInt8 → Bool) (nx : σ → UInt8 → σ) : σ → Cm.Bs → Bool × σ
  | x, [] => (true, x)
  | x, c :: r => if f x c then eachRun f nx (nx x c) r else (false, nx x c)
theorem each_spec {σ : Type} {f : σ → UInt8 → Bool} {nx : σ → UInt8 → σ} {LL : σ → List Asrt} {g : FuncId} {gi gc : Array Value} {s : Cm.Bs} {most : Int} {x : σ} (hb : hasBody Try.prog g = true)
    (hs : ∀ (x : σ) (c : UInt8) (w : World) (R : Ending → World → Prop), St E (LL x) w → (∀ w', St E (LL (nx x c)) w' → R (.returned (.bool (f x c))) w') → Calls Try.prog g ⟨gi.toList ++ ([.int .u8 ((c.toNat : Nat) : Int)] ++ gc.toList)⟩ w R)
    (h : St E (LL x) w) (hl : s.length ≤ huge)
    (k : ∀ w', St E (LL (eachRun f nx x s).2) w' → R (.returned (.bool ((eachRun f nx x s).1 && (decide (0 < s.length) && decide ((s.length : Int) ≤ most))))) w') :
    Calls Try.prog 60 #[.string (bs s), .int .i64 most, .func (.func g) gi gc] w R := by
  refine C_conf_each ?_
  unfold T_conf_each T_conf_each_1
  intro X hX
  refine up_to s.length (Q := fun j => ∀ (y : σ) (w : World), St E (LL y) w → (eachRun f nx x s = eachRun f nx y (s.drop j)) → X (j : Int) w) ?_ x w h rfl
  intro j hj ih y w h he
  refine hX _ _ ?_
  unfold T_conf_each_1_body
  rw [bs_size]
  refine ite_d (fun hc => ?_) (fun hc => ?_)
  · have hjl : j < s.length := by omega
    have hd : s.drop j = s[j] :: s.drop (j + 1) := List.drop_eq_getElem_cons hjl
    rw [hd] at he
    refine ⟨by omega, s[j], by rw [bs_get, Int.toNat_natCast, List.getElem?_eq_getElem hjl], hb, hs y s[j] w _ h fun w' h' => ⟨_, rfl, ite_n (fun hf => ?_) (fun hf => ?_)⟩⟩
    · simp only [eachRun, hf, Bool.false_eq_true, if_false] at he
      rw [he] at k
      exact k w' h'
    · simp only [eachRun, hf, if_true] at he
      rw [succ_huge (by omega)]
      exact ih hjl _ _ h' he
  · have hd : s.drop j = [] := List.drop_eq_nil_of_le (by omega)
    rw [hd] at he
    simp only [eachRun] at he
    rw [he] at k
    refine ite_d (fun h0 => ?_) (fun h0 => ?_)
    · refine congB (k w h) ?_
      rw [decide_eq_true (by omega : 0 < s.length)]; simp
    · refine congB (k w h) ?_
      rw [decide_eq_false (by omega : ¬ 0 < s.length)]; simp
theorem eachRun_all {p : UInt8 → Bool} : ∀ s : Cm.Bs, (eachRun (fun (_ : Unit) c => p c) (fun x _ => x) () s).1 = s.all p
  | [] => rfl
  | c :: r => by
    unfold eachRun
    cases h : p c <;> simp [h, eachRun_all r]
theorem each_all {p : UInt8 → Bool} {g : FuncId} {s : Cm.Bs} {most : Int} (hb : hasBody Try.prog g = true)
    (hs : ∀ (c : UInt8) (w : World) (R : Ending → World → Prop), St E L w → (∀ w', St E L w' → R (.returned (.bool (p c))) w') → Calls Try.prog g #[.int .u8 ((c.toNat : Nat) : Int)] w R)
    (h : St E L w) (hl : s.length ≤ huge) (k : ∀ w', St E L w' → R (.returned (.bool (s.all p && (decide (0 < s.length) && decide ((s.length : Int) ≤ most))))) w') :
    Calls Try.prog 60 #[.string (bs s), .int .i64 most, .func (.func g) #[] #[]] w R :=
  each_spec (LL := fun _ => L) (x := ()) hb (fun _ c w R h k => hs c w R h k) h hl fun w' h' => by rw [eachRun_all]; exact k w' h'
theorem prefix1_spec {c : UInt8} (h : St E L w) (k : ∀ w', St E L w' → R (.returned (.bool (Cm.pfxB c))) w') : Calls Try.prog 63 #[.int .u8 ((c.toNat : Nat) : Int)] w R := by
  refine C_conf_prefix_c1 ?_
  unfold T_conf_prefix_c1
  have hq : ∀ b : Bool, Cm.pfxB c = b → R (.returned (.bool b)) w := fun b hb => hb ▸ k w h
  refine ite_d (fun h1 => ?_) fun h1 => hq _ ?_
  · refine ite_d (fun h2 => ?_) fun h2 => hq _ ?_
    · refine ite_b (fun h3 => hq _ ?_) fun h3 => hq _ ?_
      · rw [Bool.eq_iff_iff]; simp at h3; simp [Cm.pfxB, Cm.seen]; omega
      · rw [Bool.eq_iff_iff]; simp at h3; simp [Cm.pfxB, Cm.seen]; omega
    · rw [Bool.eq_iff_iff]; simp [Cm.pfxB, Cm.seen]; omega
  · rw [Bool.eq_iff_iff]; simp [Cm.pfxB, Cm.seen]; omega
theorem address1_spec {c : UInt8} (h : St E L w) (k : ∀ w', St E L w' → R (.returned (.bool (Cm.seen c))) w') : Calls Try.prog 81 #[.int .u8 ((c.toNat : Nat) : Int)] w R := by
  refine C_conf_address_c1 ?_
  unfold T_conf_address_c1
  have hq : ∀ b : Bool, Cm.seen c = b → R (.returned (.bool b)) w := fun b hb => hb ▸ k w h
  refine ite_d (fun h1 => hq _ ?_) fun h1 => hq _ ?_
  all_goals (rw [Bool.eq_iff_iff]; simp [Cm.seen]; omega)
theorem host1_spec {b : Nat} {p : Bool} {c : UInt8} (h : St E (blkL b 4 [.bool p] :: L) w) (k : ∀ w', St E (blkL b 4 [.bool (decide (c.toNat = 46))] :: L) w' → R (.returned (.bool (Cm.small c || (decide (c.toNat = 46) && !p)))) w') :
    Calls Try.prog 62 #[.int .u8 ((c.toNat : Nat) : Int), .pointer (some ⟨b, 0, none⟩)] w R := by
  refine C_conf_host_c1 ?_
  unfold T_conf_host_c1
  refine ⟨p, rd_cell h.at_blk rfl rfl, rfl, wrOk_cell h.at_blk (by simp) rfl, ?_⟩
  intro w4
  have e : (((c.toNat : Nat) : Int) == 46) = decide (c.toNat = 46) := by rw [Bool.eq_iff_iff]; simp; omega
  have h4 : St E (blkL b 4 [.bool (decide (c.toNat = 46))] :: L) w4 := by
    have := h.wr_cell (off := 0) (v := .bool (((c.toNat : Nat) : Int) == 46)) rfl
    rw [← e]; exact this
  refine small_spec h4 fun w' h' => ⟨_, rfl, ite_b (fun h1 => ?_) (fun h1 => ⟨_, rd_cell h'.at_blk rfl rfl, ite_b (fun h2 => ?_) (fun h2 => ?_)⟩)⟩
  · exact congB (k w' h') (by simp [h1])
  · exact congB (k w' h') (by simp [h1, h2])
  · exact congB (k w' h') (by simp [h1, h2])
theorem body_small : hasBody Try.prog 61 = true := by kernel_rfl
theorem body_host1 : hasBody Try.prog 62 = true := by kernel_rfl
theorem body_prefix1 : hasBody Try.prog 63 = true := by kernel_rfl
theorem body_address1 : hasBody Try.prog 81 = true := by kernel_rfl

variable {s : Cm.Bs}
theorem len_and {n : Nat} (b : Bool) : (b && (decide (0 < s.length) && decide ((s.length : Int) ≤ ((n : Nat) : Int)))) = (decide (1 ≤ s.length ∧ s.length ≤ n) && b) := by
  rw [Bool.and_comm]; congr 1
  rw [Bool.eq_iff_iff]; simp only [Bool.and_eq_true, decide_eq_true_eq]; omega
theorem poolName_spec (h : St E L w) (hl : s.length ≤ huge) (k : ∀ w', St E L w' → R (.returned (.bool (Cm.isName s))) w') : Calls Try.prog 35 #[.string (bs s)] w R := by
  refine C_conf_poolName ?_
  unfold T_conf_poolName
  refine each_all body_small (fun c w R h k => small_spec h k) h hl fun w' h' => ⟨_, rfl, congB (k w' h') ?_⟩
  rw [show (64 : Int) = ((64 : Nat) : Int) from rfl, len_and]; rfl
theorem address_spec (h : St E L w) (hl : s.length ≤ huge) (k : ∀ w', St E L w' → R (.returned (.bool (Cm.isAddr s))) w') : Calls Try.prog 64 #[.string (bs s)] w R := by
  refine C_conf_address ?_
  unfold T_conf_address
  refine each_all body_address1 (fun c w R h k => address1_spec h k) h hl fun w' h' => ⟨_, rfl, congB (k w' h') ?_⟩
  rw [show (64 : Int) = ((64 : Nat) : Int) from rfl, len_and]; rfl
theorem prefix_spec (h : St E L w) (hl : s.length ≤ huge) (k : ∀ w', St E L w' → R (.returned (.bool (Cm.isPfx s))) w') : Calls Try.prog 37 #[.string (bs s)] w R := by
  refine C_conf_prefix ?_
  unfold T_conf_prefix
  refine each_all body_prefix1 (fun c w R h k => prefix1_spec h k) h hl fun w' h' => ⟨_, rfl, ?_⟩
  rw [show (128 : Int) = ((128 : Nat) : Int) from rfl, len_and]
  refine ite_b (fun h1 => ?_) (fun h1 => ?_)
  · have h2 := h1
    simp only [Bool.and_eq_true, decide_eq_true_eq] at h2
    match s, h2 with
    | [], h2 => simp at h2
    | c :: r, h2 =>
      refine ⟨by omega, c, by rw [bs_get]; rfl, congB (k w' h') ?_⟩
      unfold Cm.isPfx
      rw [h1, Bool.true_and, Bool.eq_iff_iff]
      simp
      constructor
      · rintro rfl; rfl
      · intro hc; apply UInt8.toNat_inj.1; simpa using (by omega : c.toNat = 47)
  · refine congB (k w' h') ?_
    unfold Cm.isPfx
    rw [h1]; rfl
theorem eachRun_host : ∀ (s : Cm.Bs) (p : Bool), ((eachRun (fun (p : Bool) (c : UInt8) => Cm.small c || (decide (c.toNat = 46) && !p)) (fun _ c => decide (c.toNat = 46)) p s).1 && !(eachRun (fun (p : Bool) (c : UInt8) => Cm.small c || (decide (c.toNat = 46) && !p)) (fun _ c => decide (c.toNat = 46)) p s).2) = Cm.hostRun p s
  | [], p => by simp [eachRun, Cm.hostRun]
  | c :: r, p => by
    unfold eachRun Cm.hostRun
    cases h : (Cm.small c || (decide (c.toNat = 46) && !p))
    · simp
    · simpa using eachRun_host r (decide (c.toNat = 46))
theorem host_spec (h : St E L w) (hl : s.length ≤ huge) (k : ∀ w', St E L w' → R (.returned (.bool (Cm.isHost s))) w') : Calls Try.prog 36 #[.string (bs s)] w R := by
  refine C_conf_host ?_
  unfold T_conf_host
  intro w2
  have h2 := h.alloc (.cells #[.bool false] 4)
  refine ⟨rfl, wrOk_cell h2.at_blk (by simp) rfl, ?_⟩
  intro w3
  have h3 : St E (blkL w.heap.size 4 [.bool true] :: L) w3 := h2.wr_cell (off := 0) (v := .bool true) rfl
  refine each_spec (LL := fun p => blkL w.heap.size 4 [.bool p] :: L) (x := true) body_host1 (fun p c w R h k => host1_spec h k) h3 hl fun w' h' => ⟨_, rfl, ite_b (fun h1 => ?_) (fun h1 => ?_)⟩
  · refine ⟨_, rd_cell h'.at_blk rfl rfl, congB (k w' h'.drop) ?_⟩
    rw [show (64 : Int) = ((64 : Nat) : Int) from rfl, len_and] at h1
    simp only [Bool.and_eq_true] at h1
    unfold Cm.isHost
    rw [h1.1, Bool.true_and, ← eachRun_host s true, h1.2, Bool.true_and]
  · refine congB (k w' h'.drop) ?_
    rw [show (64 : Int) = ((64 : Nat) : Int) from rfl, len_and] at h1
    unfold Cm.isHost
    rw [← eachRun_host s true, ← Bool.and_assoc, h1]; rfl

/-! ### the document's -/
end
end Go.Vc

/-
  The library's sort at a slice of ours: what its contract's world is in words of separation; one sorted list.
-/
namespace Go.Vc
open Go Go.Proofs Go.RowKit Go.Sort Go.Shelf
section
variable {E w w' : World} {L : List Asrt} {a : Option Addr} {l c sz n : Nat} {e : TypeId} {xs : List Value}
theorem below_env {B : Nat} (h : Below B w w') : SameEnv w w' := ⟨h.os, h.tape, h.output⟩
/-- A row that is new. -/
theorem St.of_row {v : Value} (h : St E L w) (hb : Below w.heap.size w w') (hr : w'.ownsRow w.heap.size e sz v n xs) : ∃ a c, v = .slice a n c ∧ St E (ownS a n c e sz xs :: L) w' := by
  obtain ⟨h1, h2⟩ := hr
  rcases h2 with ⟨rfl, rfl⟩ | ⟨g, cap, cur, rfl, hg, hc, h3, h4, h5, h6⟩
  · have : xs = [] := List.eq_nil_of_length_eq_zero (by simpa using h1)
    subst this
    exact ⟨none, 0, rfl, (h.same (below_env hb) hb.block).ownS_nil⟩
  · refine ⟨_, _, rfl, St.ownS_mk (rest := cur.toList.drop (n * sz)) ?_ h1 h3 h4 ?_⟩
    · have := h.add_new (o := .cells cur e (0, 0)) (below_env hb) hg hc hb.block
      refine this.mono fun x hx => ?_
      show x g = some (true, .cells ⟨xs ++ cur.toList.drop (n * sz)⟩ e (0, 0))
      rw [← h6, List.take_append_drop]; exact hx
    · rw [List.length_drop, Array.length_toList, h5, Nat.sub_mul]
theorem put_cells {α : Type} [Inhabited α] (enc : α → Value) (ts : List α) (xs rest : List Value) (h : xs.length = ts.length) : putCells enc 0 ts.toArray ⟨xs ++ rest⟩ = ⟨ts.map enc ++ rest⟩ := by
  apply Array.ext'
  apply List.ext_getElem?
  intro j
  simp only [putCells, Array.toList_mapIdx, List.getElem?_mapIdx]
  by_cases hj : j < ts.length
  · have h1 : j < (ts.map enc).length := by simpa using hj
    have h2 : j < xs.length := by omega
    rw [List.getElem?_append_left (l₁ := xs) h2, List.getElem?_append_left (l₁ := ts.map enc) h1, List.getElem?_map]
    simp [hj, h2]
  · have h1 : (ts.map enc).length ≤ j := by simpa using hj
    have h2 : xs.length ≤ j := by omega
    rw [List.getElem?_append_right (l₁ := xs) h2, List.getElem?_append_right (l₁ := ts.map enc) h1]
    simp [hj, h]
/-- Behind the sort the slice holds the sorted row. -/
theorem St.sorted_row {α : Type} [Inhabited α] {enc : α → Value} {ts : List α} {g m : Nat} {os : Array Obj} {rest : List Value} (h : St E (blkL g e (xs ++ rest) :: L) w) (hx : xs.length = ts.length) :
    St E (blkL g e (ts.map enc ++ rest) :: L) (grow (putRow enc (Sort.ahead w m) g 0 ts.toArray) os) := by
  have hg : w.heap[g]? = some (.cells ⟨xs ++ rest⟩ e (0, 0)) := h.at_blk
  have hlt : g < w.heap.size := (Array.getElem?_eq_some_iff.1 hg).1
  refine St.upd (o := .cells ⟨xs ++ rest⟩ e (0, 0)) h ⟨rfl, rfl, rfl⟩ ?_ ?_
  · rw [heap_grow_old _ _ (by simpa using hlt)]
    simp [putRow, mapBlock, Sort.ahead, Array.getElem?_modify, hg, onCells, put_cells _ _ _ _ hx]
  · intro k hk hlt2
    rw [heap_grow_old _ _ (by simpa using hlt2)]
    simp [putRow, mapBlock, Sort.ahead, Array.getElem?_modify, Ne.symm hk]
theorem holds_row {α : Type} [Inhabited α] {enc : α → Value} {ss : List α} {g : Nat} {rest : List Value} (h : w.heap[g]? = some (.cells ⟨ss.map enc ++ rest⟩ e (0, 0))) : Holds enc w g 0 ss.toArray := by
  intro j hj
  have hj' : j < ss.length := by simpa using hj
  refine ⟨?_, by simp [World.frozen?, h]⟩
  have h1 : (ss.map enc ++ rest)[j]? = some (enc ss[j]) := by rw [List.getElem?_append_left (by simpa using hj')]; simp [hj']
  simp only [World.cell?, h, Nat.zero_add]
  simp only [Option.isSome_none, Bool.false_eq_true, if_false]
  rw [← Array.getElem?_toList, h1]
  simp [hj']
theorem flatK_eq {α : Type} [Inhabited α] (enc : α → List Value) (k : Nat) (hk : ∀ x, (enc x).length = k) (h0 : 0 < k) (ts : List α) : flatK enc k ts.toArray = (ts.flatMap enc).toArray := by
  apply Array.ext'
  apply List.ext_getElem?
  intro t
  by_cases ht : t < ts.length * k
  · have hq : t / k < ts.length := (Nat.div_lt_iff_lt_mul h0).2 ht
    have hr : t % k < k := Nat.mod_lt _ h0
    have e1 := flat_get (f := enc) hk ts (t / k) (t % k) ts[t / k] (by simp [hq]) hr
    rw [Nat.mul_comm, Nat.div_add_mod] at e1
    rw [show (ts.flatMap enc).toArray.toList = ts.flatMap enc from rfl, e1]
    simp [flatK, ht, hq]
    have : t % k < (enc ts[t / k]).length := by rw [hk]; exact hr
    simp [this]
  · rw [List.getElem?_eq_none (by simp [flatK]; omega), List.getElem?_eq_none (by simp only [flat_len hk]; omega)]
theorem sort_uniq {α : Type} {le : α → α → Bool} (tr : ∀ a b c, le a b = true → le b c = true → le a c = true) (to : ∀ a b, (le a b || le b a) = true) (an : ∀ a b, le a b = true → le b a = true → a = b)
    {ss ks : List α} (hp : ks.Perm ss) (hk : ks.Pairwise fun a b => le a b = true) : ss.mergeSort le = ks :=
  List.Perm.eq_of_pairwise (le := fun a b => le a b = true) (fun a b _ _ h1 h2 => an a b h1 h2) (List.pairwise_mergeSort tr to ss) hk ((List.mergeSort_perm ss le).trans hp.symm)
theorem uniq_str {ss ks : List (List UInt8)} (hp : ks.Perm ss) (hk : ks.Pairwise (· < ·)) : (ss.mergeSort fun x y => decide (x ≤ y)) = ks :=
  sort_uniq (le := fun x y => decide (x ≤ y)) (fun a b c h1 h2 => decide_eq_true (List.le_trans (of_decide_eq_true h1) (of_decide_eq_true h2))) (fun a b => by have := List.le_total a b; simpa using this)
    (fun a b h1 h2 => List.le_antisymm (of_decide_eq_true h1) (of_decide_eq_true h2)) hp (hk.imp fun {a b} h => decide_eq_true (List.le_of_lt h))
abbrev Pr := List UInt8 × List UInt8
def prLt (a b : Pr) : Bool := decide (a.1 < b.1) || (decide (a.1 = b.1) && decide (a.2 < b.2))
/-- Of two texts: which one is ahead? -/
def cmpS (a b : List UInt8) : Int := if a < b then -1 else if b < a then 1 else 0
def cmpP (a b : Pr) : Int := if cmpS a.1 b.1 ≠ 0 then cmpS a.1 b.1 else cmpS a.2 b.2
theorem cmpS_lt (a b : List UInt8) : cmpS a b < 0 ↔ a < b := by
  unfold cmpS
  split
  · simp [*]
  · split <;> simp [*]
theorem cmpS_zero (a b : List UInt8) : cmpS a b = 0 ↔ a = b := by
  unfold cmpS
  constructor
  · intro h
    split at h
    · cases h
    · split at h
      · cases h
      · rename_i h1 h2
        exact List.le_antisymm (List.not_lt.1 h2) (List.not_lt.1 h1)
  · rintro rfl
    simp [List.lt_irrefl]
theorem cmpP_lt (a b : Pr) : ltOf cmpP a b = prLt a b := by
  simp only [ltOf, prLt]
  rw [Bool.eq_iff_iff]
  simp only [decide_eq_true_eq, Bool.or_eq_true, Bool.and_eq_true]
  unfold cmpP
  by_cases h : cmpS a.1 b.1 = 0
  · rw [if_neg (by simpa using h)]
    have e := (cmpS_zero _ _).1 h
    rw [cmpS_lt]
    constructor
    · exact fun hl => .inr ⟨e, hl⟩
    · rintro (hl | ⟨_, hl⟩)
      · rw [e] at hl; exact absurd hl (List.lt_irrefl _)
      · exact hl
  · rw [if_pos (by simpa using h), cmpS_lt]
    constructor
    · exact .inl
    · rintro (hl | ⟨e, _⟩)
      · exact hl
      · exact absurd ((cmpS_zero _ _).2 e) h
theorem prLt_iff (a b : Pr) : prLt a b = true ↔ a.1 < b.1 ∨ a.1 = b.1 ∧ a.2 < b.2 := by simp [prLt]
theorem str_tri (a b : List UInt8) : a < b ∨ a = b ∨ b < a := by
  rcases Decidable.em (a < b) with h | h
  · exact .inl h
  · rcases Decidable.em (b < a) with h2 | h2
    · exact .inr (.inr h2)
    · exact .inr (.inl (List.le_antisymm (List.not_lt.1 h2) (List.not_lt.1 h)))
theorem prLt_irrefl (a : Pr) : prLt a a = false := by
  cases h : prLt a a with
  | false => rfl
  | true => rcases (prLt_iff a a).1 h with h | h
            · exact absurd h (List.lt_irrefl _)
            · exact absurd h.2 (List.lt_irrefl _)
theorem prLt_trans {a b c : Pr} (h : prLt a b = true) (k : prLt b c = true) : prLt a c = true := by
  rw [prLt_iff] at *
  rcases h with h | ⟨h, h'⟩ <;> rcases k with k | ⟨k, k'⟩
  · exact .inl (List.lt_trans h k)
  · exact .inl (k ▸ h)
  · exact .inl (h ▸ k)
  · exact .inr ⟨h.trans k, List.lt_trans h' k'⟩
theorem prLt_tri {a b : Pr} (h : prLt a b = false) (k : prLt b a = false) : a = b := by
  have h1 : ¬ (a.1 < b.1 ∨ a.1 = b.1 ∧ a.2 < b.2) := fun e => by rw [(prLt_iff a b).2 e] at h; cases h
  have k1 : ¬ (b.1 < a.1 ∨ b.1 = a.1 ∧ b.2 < a.2) := fun e => by rw [(prLt_iff b a).2 e] at k; cases k
  rcases str_tri a.1 b.1 with e | e | e
  · exact absurd (.inl e) h1
  · rcases str_tri a.2 b.2 with f | f | f
    · exact absurd (.inr ⟨e, f⟩) h1
    · exact Prod.ext e f
    · exact absurd (.inr ⟨e.symm, f⟩) k1
  · exact absurd (.inl e) k1
theorem swoP : SWO (ltOf cmpP) where
  irrefl x := by rw [cmpP_lt]; exact prLt_irrefl x
  trans x y z h k := by rw [cmpP_lt] at *; exact prLt_trans h k
  ntrans x y z h k := by
    rw [cmpP_lt] at *
    cases hz : prLt x z with
    | false => rfl
    | true =>
      cases hyx : prLt y x with
      | true => rw [prLt_trans hyx hz] at k; cases k
      | false =>
        have := prLt_tri h hyx
        subst this
        rw [k] at hz; cases hz
theorem totP (x y : Pr) (h : ltOf cmpP x y = false) (k : ltOf cmpP y x = false) : x = y := by rw [cmpP_lt] at *; exact prLt_tri h k
theorem uniq_pr {ss ks : List Pr} (hp : ks.Perm ss) (hk : ks.Pairwise fun a b => prLt a b = true) : (ss.mergeSort fun x y => !(ltOf cmpP) y x) = ks :=
  sort_uniq (fun a b c h1 h2 => by
      simp only [Bool.not_eq_true', cmpP_lt] at *
      cases hc : prLt c a with
      | false => rfl
      | true =>
        have := swoP.ntrans c b a (by rw [cmpP_lt]; exact h2) (by rw [cmpP_lt]; exact h1)
        rw [cmpP_lt, hc] at this; cases this)
    (fun a b => by
      simp only [cmpP_lt]
      cases h : prLt b a with
      | false => rfl
      | true => cases k : prLt a b with
        | false => rfl
        | true => have := prLt_trans h k; rw [prLt_irrefl] at this; cases this)
    (fun a b h1 h2 => totP a b (by simpa using h2) (by simpa using h1)) hp
    (hk.imp fun {a b} h => by
      simp only [cmpP_lt, Bool.not_eq_true']
      cases k : prLt b a with
      | false => rfl
      | true => have := prLt_trans h k; rw [prLt_irrefl] at this; cases this)
end
end Go.Vc

/-
  The keys of a map in their order: maps.Keys, slices.Sorted, slices.SortedFunc at the three kinds of keys.
-/
namespace Go.Vc
open Go Go.Proofs Go.Proofs.Ytcpmfjclkdjfmaa Go.RowKit Go.Sort Go.Shelf
set_option maxRecDepth 100000

section
variable {E w : World} {L : List Asrt} {R : Ending → World → Prop} {ν : Type} {vv : ν → Value} {b : Nat}
theorem keysFn_S : ∀ args w, (callFunc 50 args).run Try.prog w = .ok (.enter 50 args) w := enters_of Try.func50 (by kernel_rfl) rfl
theorem keysFn_P : ∀ args w, (callFunc 78 args).run Try.prog w = .ok (.enter 78 args) w := enters_of Try.func78 (by kernel_rfl) rfl

/-! ### what is collected -/
theorem CollectS_spec {m : List (List UInt8 × ν)} {B : Nat} (h : St E (blkL B 59 [.map (some b)] :: mapA b encS vv m :: L) w) (hN : m.length ≤ 1000)
    (k : ∀ a l c w' (ss : List (List UInt8)), ss.Perm (m.map (·.1)) → l = ss.length → St E (ownS a l c 9 1 (ss.flatMap celS) :: blkL B 59 [.map (some b)] :: mapA b encS vv m :: L) w' → R (.returned (.slice a l c)) w') :
    Calls Try.prog 48 #[.func (.func 50) #[] #[.pointer (some ⟨B, 0, none⟩)]] w R := by
  have hB := h.at_blk
  have hlt := (Array.getElem?_eq_some_iff.1 hB).1
  refine C_slices_Collect_string ?_
  unfold T_slices_Collect_string
  refine ((callsIn_wide (n := 2)).1 (appendSeqS_in Fence.wide 2 trivial rfl (by decide) _ #[.pointer (some ⟨B, 0, none⟩)] trivial keysFn_S (fun ss => ss.Perm (m.map (·.1))) m.length (by simp only [maxLen]; omega) (by omega) w
    (givesS Fence.wide 1 trivial rfl (by decide) B b m w hlt (by rw [cell_of hB]; rfl) h.f1.mapW))).mono ?_
  rintro e w' ⟨v, ss, rfl, hS, hr, hb⟩
  obtain ⟨a, c, rfl, h2⟩ := h.of_row hb hr
  exact ⟨a, _, c, rfl, k _ _ _ _ ss hS rfl h2⟩
theorem CollectP_spec {m : List (Pr × ν)} {B : Nat} (h : St E (blkL B 60 [.map (some b)] :: mapA b encP vv m :: L) w) (hN : m.length ≤ 1000)
    (k : ∀ a l c w' (ss : List Pr), ss.Perm (m.map (·.1)) → l = ss.length → St E (ownS a l c 75 2 (ss.flatMap celP) :: blkL B 60 [.map (some b)] :: mapA b encP vv m :: L) w' → R (.returned (.slice a l c)) w') :
    Calls Try.prog 76 #[.func (.func 78) #[] #[.pointer (some ⟨B, 0, none⟩)]] w R := by
  have hB := h.at_blk
  have hlt := (Array.getElem?_eq_some_iff.1 hB).1
  refine C_slices_Collect_conf_place ?_
  unfold T_slices_Collect_conf_place
  refine ((callsIn_wide (n := 2)).1 (appendSeqP_in Fence.wide 2 trivial rfl (by decide) _ #[.pointer (some ⟨B, 0, none⟩)] trivial keysFn_P (fun ss => ss.Perm (m.map (·.1))) m.length (by simp only [maxLen]; omega) (by omega) w
    (givesP Fence.wide 1 trivial rfl (by decide) B b m w hlt (by rw [cell_of hB]; rfl) h.f1.mapW))).mono ?_
  rintro e w' ⟨v, ss, rfl, hS, hr, hb⟩
  obtain ⟨a, c, rfl, h2⟩ := h.of_row hb hr
  exact ⟨a, _, c, rfl, k _ _ _ _ ss hS rfl h2⟩

/-! ### sorted -/
theorem flat_celS (ss : List (List UInt8)) : ss.flatMap celS = ss.map encStr := by induction ss with
  | nil => rfl
  | cons a r ih => rw [List.flatMap_cons, ih]; rfl
theorem SortS_spec {a : Option Addr} {c : Nat} {ss ks : List (List UInt8)} (h : St E (ownS a ss.length c 9 1 (ss.flatMap celS) :: L) w) (hN : ss.length ≤ 1000) (hp : ks.Perm ss) (hk : ks.Pairwise (· < ·))
    (k : ∀ w', St E (ownS a ks.length c 9 1 (ks.flatMap celS) :: L) w' → R (.returned (.tuple #[])) w') : Calls Try.prog 49 #[.slice a ss.length c] w R := by
  have hl := hp.length_eq
  obtain ⟨_, hlc, hcm⟩ := h.ownS_facts
  rcases h.ownS_open with ⟨rfl, h0, rfl, hx⟩ | ⟨g, rest, rfl, hr, h2⟩
  · have hs : ss = [] := List.eq_nil_of_length_eq_zero h0
    subst hs
    have hk0 : ks = [] := List.eq_nil_of_length_eq_zero hl
    subst hk0
    refine (AnyM.slices_Sort_string_none Try.sortS none 0 w).mono ?_
    rintro e w' ⟨rfl, rfl⟩
    exact k _ h
  · rw [flat_celS] at h2
    refine (AnyM.slices_Sort_string Try.sortS g 0 c ss w (holds_row (enc := encStr) h2.at_blk) (Array.getElem?_eq_some_iff.1 h2.at_blk).1 (by omega)).mono ?_
    rintro e w' ⟨rfl, n, os, rfl⟩
    rw [uniq_str hp hk]
    refine k _ (St.ownS_mk (rest := rest) ?_ (by rw [flat_celS]; simp) (by omega) hcm (by omega))
    rw [flat_celS]
    exact h2.sorted_row (by simp [hl])
/-! ### the order of places -/
theorem isNaN_spec {s : ByteArray} (k : R (.returned (.bool false)) w) : Calls Try.prog 79 #[.string s] w R := by
  refine C_cmp_isNaN_string ?_
  unfold T_cmp_isNaN_string
  simpa using k
theorem Compare_spec {x y : List UInt8} (k : R (.returned (.int .i64 (cmpS x y))) w) : Calls Try.prog 55 #[encStr x, encStr y] w R := by
  refine C_cmp_Compare_string ?_
  unfold T_cmp_Compare_string
  refine isNaN_spec ⟨_, rfl, isNaN_spec ⟨_, rfl, ?_⟩⟩
  refine ite_b (fun h => by cases h) fun _ => ite_b (fun h => by cases h) fun _ => ?_
  unfold cmpS at k
  simp only [bytesLess_eq]
  by_cases h1 : x < y
  · rw [if_pos h1] at k
    rw [if_pos (by simpa using h1)]; exact k
  · rw [if_neg h1] at k
    rw [if_neg (by simpa using h1)]
    by_cases h2 : y < x
    · rw [if_pos h2] at k
      have : x ≠ y := fun e => by rw [e] at h2; exact absurd h2 (List.lt_irrefl _)
      rw [if_pos (by simp [h1, this])]; exact k
    · rw [if_neg h2] at k
      have : x = y := List.le_antisymm (List.not_lt.1 h2) (List.not_lt.1 h1)
      rw [if_neg (by simp [this])]; exact k
theorem Or_spec {a : Addr} {x y : Int} (hx : rd w a (.int .i64 x)) (hy : rd w (a.add 1) (.int .i64 y)) (ha : a.add 0 = a) (k : R (.returned (.int .i64 (if x ≠ 0 then x else y))) w) : Calls Try.prog 54 #[.slice (some a) 2 2] w R := by
  refine C_cmp_Or_int ?_
  unfold T_cmp_Or_int T_cmp_Or_int_1
  intro X hX
  refine hX _ _ ?_
  unfold T_cmp_Or_int_1_body
  refine ite_d (fun _ => ⟨by decide, by decide, a, rfl, x, by simpa [ha] using hx, ?_⟩) fun h => absurd h (by decide)
  by_cases h0 : x = 0
  · subst h0
    simp only [ne_eq, not_true_eq_false, if_false] at k
    refine ite_b (fun h => by simp at h) fun _ => hX _ _ ?_
    unfold T_cmp_Or_int_1_body
    refine ite_d (fun _ => ⟨by decide, by decide, a, rfl, y, hy, ?_⟩) fun h => absurd h (by decide)
    refine ite_b (fun _ => k) fun hy0 => hX _ _ ?_
    have : y = 0 := by simpa using hy0
    subst this
    unfold T_cmp_Or_int_1_body
    exact ite_d (fun h => absurd h (by decide)) fun _ => k
  · simp only [ne_eq, h0, not_false_eq_true, if_true] at k
    refine ite_b (fun _ => k) fun h => by simp at h; exact absurd h h0

theorem grow_three (W : World) (o1 o2 o3 : Obj) : (((W.alloc o1).alloc o2).drew).alloc o3 = grow (W.drewN 1) #[o1, o2, o3] := by
  rw [alloc_eq_grow, alloc_eq_grow, alloc_eq_grow]
  show grow (grow (grow W.drew #[o1]) #[o2]) #[o3] = grow W.drew #[o1, o2, o3]
  rw [grow_grow, grow_grow]
  rfl
theorem cmpLays (blk off size : Nat) (w : World) : CmpLays Try.prog 53 #[] celP 2 cmpP blk off size w := by
  intro m os dk _ x y
  generalize sortWorldK celP 2 w blk off m dk os = W
  have e : (#[.agg (celP x).toArray, .agg (celP y).toArray] ++ #[] : Array Value) = #[.agg #[.string ⟨x.1.toArray⟩, .string ⟨x.2.toArray⟩], .agg #[.string ⟨y.1.toArray⟩, .string ⟨y.2.toArray⟩]] := by simp [celP]
  rw [e]
  refine C_conf_Store_sorted_c1 ?_
  unfold T_conf_Store_sorted_c1
  intro w5 w6 w7
  have h5 := (St.start_kn W).alloc (.cells #[.string ⟨x.1.toArray⟩, .string ⟨x.2.toArray⟩] 75)
  have h6 := h5.alloc (.cells #[.string ⟨y.1.toArray⟩, .string ⟨y.2.toArray⟩] 75)
  have h7 : St W _ w7 := h6.drew
  refine ⟨_, rd_cell h7.f1.at_blk rfl rfl, _, rd_cell h7.at_blk rfl rfl, _, rd_fld h7.f1.at_blk rfl rfl, _, rd_fld h7.at_blk rfl rfl, Compare_spec ⟨_, rfl, ⟨rd_fld h7.at_blk rfl rfl, rd_fld h7.f1.at_blk rfl rfl, trivial⟩, Compare_spec ⟨_, rfl, trivial, ?_⟩⟩⟩
  intro w18
  have h8 := h7.alloc (.cells #[.int .i64 (cmpS x.1 y.1), .int .i64 (cmpS x.2 y.2)] 3)
  refine ⟨trivial, Or_spec (rd_cell h8.at_blk rfl rfl) (rd_fld h8.at_blk rfl rfl) rfl ⟨_, rfl, trivial, rfl, 1, _, grow_three W _ _ _⟩⟩
theorem SortP_spec {a : Option Addr} {c : Nat} {ss ks : List Pr} (h : St E (ownS a ss.length c 75 2 (ss.flatMap celP) :: L) w) (hN : ss.length ≤ 1000) (hp : ks.Perm ss) (hk : ks.Pairwise fun a b => prLt a b = true)
    (k : ∀ w', St E (ownS a ks.length c 75 2 (ks.flatMap celP) :: L) w' → R (.returned (.tuple #[])) w') : Calls Try.prog 77 #[.slice a ss.length c, .func (.func 53) #[] #[]] w R := by
  have hl := hp.length_eq
  obtain ⟨_, hlc, hcm⟩ := h.ownS_facts
  rcases h.ownS_open with ⟨rfl, h0, rfl, hx⟩ | ⟨g, rest, rfl, hr, h2⟩
  · have hs : ss = [] := List.eq_nil_of_length_eq_zero h0
    subst hs
    have hk0 : ks = [] := List.eq_nil_of_length_eq_zero hl
    subst hk0
    refine (AnyF.slices_SortFunc_none Try.sortP none 0 _ w).mono ?_
    rintro e w' ⟨rfl, rfl⟩
    exact k _ h
  · have hfl : flatK celP 2 ss.toArray = (ss.flatMap celP).toArray := flatK_eq celP 2 (fun _ => rfl) (by decide) ss
    have hH : HoldsK celP 2 w g 0 ss.toArray := by
      unfold HoldsK
      rw [hfl]
      refine holds_row (enc := id) (rest := rest) (e := 75) ?_
      rw [List.map_id]
      exact h2.at_blk
    refine (AnyQ.slices_SortFunc_total Try.sortP 2 (run_isAgg (P := Try.prog) (t := 75) rfl) (fun w => by kernel_rfl) celP (fun _ => rfl) (fun x v hv => by simp [celP] at hv; rcases hv with rfl | rfl <;> rfl) cmpP swoP 53 #[] g 0 c ss.toArray w
      (enters_of Try.func53 (by kernel_rfl) rfl) (cmpLays g 0 _ w) hH (Array.getElem?_eq_some_iff.1 h2.at_blk).1 (by simp; omega) totP).mono ?_
    rintro e w' ⟨rfl, n, os, rfl⟩
    rw [uniq_pr hp hk]
    unfold sortWorldK putRowK
    rw [flatK_eq celP 2 (fun _ => rfl) (by decide) ks]
    refine k _ (St.ownS_mk (rest := rest) ?_ (flat_len (f := celP) (fun _ => rfl) ks) (by omega) hcm (by rw [hl]; exact hr))
    have := h2.sorted_row (enc := id) (ts := ks.flatMap celP) (m := n) (os := os) (by rw [flat_len (sz := 2) (fun _ => rfl), flat_len (sz := 2) (fun _ => rfl), hl])
    rwa [List.map_id] at this

/-! ### the keys in their order, in new memory -/
theorem SortedS_spec {m : List (List UInt8 × ν)} {B : Nat} {ks : List (List UInt8)} (h : St E (blkL B 59 [.map (some b)] :: mapA b encS vv m :: L) w) (hN : m.length ≤ 1000) (hp : ks.Perm (m.map (·.1))) (hk : ks.Pairwise (· < ·))
    (k : ∀ a c w', St E (ownS a ks.length c 9 1 (ks.flatMap celS) :: mapA b encS vv m :: L) w' → R (.returned (.slice a ks.length c)) w') :
    Calls Try.prog 22 #[.func (.func 50) #[] #[.pointer (some ⟨B, 0, none⟩)]] w R := by
  refine C_slices_Sorted_string ?_
  unfold T_slices_Sorted_string
  refine CollectS_spec h hN fun a l c w' ss hss hl h2 => ⟨_, _, _, rfl, ?_⟩
  subst hl
  have hlen : ss.length ≤ 1000 := by have := hss.length_eq; simp at this; omega
  refine SortS_spec h2 hlen (hp.trans hss.symm) hk fun w'' h3 => ⟨rfl, ?_⟩
  have e : ss.length = ks.length := (hp.trans hss.symm).length_eq.symm
  rw [e]
  exact k _ _ _ h3.f1.drop
theorem SortedP_spec {m : List (Pr × ν)} {B : Nat} {ks : List Pr} (h : St E (blkL B 60 [.map (some b)] :: mapA b encP vv m :: L) w) (hN : m.length ≤ 1000) (hp : ks.Perm (m.map (·.1))) (hk : ks.Pairwise fun a b => prLt a b = true)
    (k : ∀ a c w', St E (ownS a ks.length c 75 2 (ks.flatMap celP) :: mapA b encP vv m :: L) w' → R (.returned (.slice a ks.length c)) w') :
    Calls Try.prog 51 #[.func (.func 78) #[] #[.pointer (some ⟨B, 0, none⟩)], .func (.func 53) #[] #[]] w R := by
  refine C_slices_SortedFunc_conf_place ?_
  unfold T_slices_SortedFunc_conf_place
  refine CollectP_spec h hN fun a l c w' ss hss hl h2 => ⟨_, _, _, rfl, ?_⟩
  subst hl
  have hlen : ss.length ≤ 1000 := by have := hss.length_eq; simp at this; omega
  refine SortP_spec h2 hlen (hp.trans hss.symm) hk fun w'' h3 => ⟨rfl, ?_⟩
  have e : ss.length = ks.length := (hp.trans hss.symm).length_eq.symm
  rw [e]
  exact k _ _ _ h3.f1.drop
theorem KeysS_spec (h : St E L w) (k : ∀ B w', St E (blkL B 59 [.map (some b)] :: L) w' → R (.returned (.func (.func 50) #[] #[.pointer (some ⟨B, 0, none⟩)])) w') :
    Calls Try.prog 23 #[.map (some b)] w R := by
  refine C_maps_Keys_map_string_api_Target_string_api_Target ?_
  unfold T_maps_Keys_map_string_api_Target_string_api_Target
  exact k _ _ (h.alloc _)
theorem KeysP_spec (h : St E L w) (k : ∀ B w', St E (blkL B 60 [.map (some b)] :: L) w' → R (.returned (.func (.func 78) #[] #[.pointer (some ⟨B, 0, none⟩)])) w') :
    Calls Try.prog 52 #[.map (some b)] w R := by
  refine C_maps_Keys_string ?_
  unfold T_maps_Keys_string
  exact k _ _ (h.alloc _)
/-- (*Store).sorted: the places of the routes, in their order. -/
theorem sorted_spec {ver : Int} {mp mc : Nat} {m : List (Pr × ν)} {p : Nat} {ks : List Pr} (h : St E (blkL p 63 [.int .i64 ver, .map (some mp), .map (some b), .map (some mc)] :: mapA b encP vv m :: L) w) (hN : m.length ≤ 1000) (hp : ks.Perm (m.map (·.1))) (hk : ks.Pairwise fun a b => prLt a b = true)
    (k : ∀ a c w', St E (ownS a ks.length c 75 2 (ks.flatMap celP) :: blkL p 63 [.int .i64 ver, .map (some mp), .map (some b), .map (some mc)] :: mapA b encP vv m :: L) w' → R (.returned (.slice a ks.length c)) w') :
    Calls Try.prog 25 #[.pointer (some ⟨p, 0, none⟩)] w R := by
  refine C_conf_Store_sorted ?_
  unfold T_conf_Store_sorted
  refine ⟨_, rfl, _, rd_fld h.at_blk rfl rfl, KeysP_spec h fun B w' h2 => ⟨_, rfl, rfl, SortedP_spec (h2.sel 3 [0, 2, 1] : St E (blkL B 60 [.map (some b)] :: mapA b encP vv m :: blkL p 63 [.int .i64 ver, .map (some mp), .map (some b), .map (some mc)] :: L) w') hN hp hk fun a c w'' h3 => ⟨_, _, _, rfl, k _ _ _ (St.sel (L := _ :: _ :: _ :: L) h3 3 [0, 2, 1])⟩⟩⟩
end
end Go.Vc

/-
  Weights, targets, commands: which may be; the program's functions and the document's.
-/
namespace Go.Vc
open Go Go.Proofs Go.Proofs.Ytcpmfjclkdjfmaa
set_option maxRecDepth 100000

section
variable {E w : World} {L : List Asrt} {R : Ending → World → Prop}

/-! ### floats -/
theorem run_fgeq (t : TypeId) (x y : Operand) (a b : Nat) : (do eqGuard .geq t x y (.float .f64 a) (.float .f64 b); binOp .geq t (.float .f64 a) (.float .f64 b) : Sem Value).run Try.prog w =
    .ok (.bool (Ieee.double.order a b == some .gt || Ieee.double.order a b == some .eq)) w := by
  simp [eqGuard, binOp, Op.floatCmp, FloatKind.format]
theorem run_fgtr (t : TypeId) (x y : Operand) (a b : Nat) : (do eqGuard .gtr t x y (.float .f64 a) (.float .f64 b); binOp .gtr t (.float .f64 a) (.float .f64 b) : Sem Value).run Try.prog w =
    .ok (.bool (Ieee.double.order a b == some .gt)) w := by
  simp [eqGuard, binOp, Op.floatCmp, FloatKind.format]
theorem run_fbits {b : Nat} : (callFunc 21 #[.float .f64 b]).run Try.prog w = .ok (.value (.int .u64 (b : Int))) w := by
  rw [run_callFunc_extern Try.func21 (e := Extern.MathFloatBits.float64bits) (by kernel_rfl) (by kernel_rfl) (by kernel_rfl) (by kernel_rfl)]
  rfl
theorem read_num (b : Nat) (h : b < 9218868437227405312) : ∃ (m j : Nat), Ieee.double.read b = .number false m (-1074 + (j : Int)) ∧ m ≤ 9007199254740991 ∧ j ≤ 2045 := by
  unfold Ieee.Format.read
  have e1 : Ieee.double.signWeight = 9223372036854775808 := by decide
  have e2 : Ieee.double.binade = 4503599627370496 := by decide
  have e3 : Ieee.double.infRung = 9218868437227405312 := by decide
  have e4 : Ieee.double.leastPlace = -1074 := by decide
  have e5 : (b / 9223372036854775808 % 2 == 1) = false := by simp; omega
  simp only [e1, e2, e3, e4, e5]
  rw [Nat.mod_eq_of_lt (by omega : b < 9223372036854775808)]
  split
  · exact ⟨b, 0, rfl, by omega, by omega⟩
  · exact ⟨_, b / 4503599627370496 - 1, rfl, by omega, by omega⟩
theorem read_zero : Ieee.double.read 0 = .number false 0 (-1074) := by decide
theorem read_max : Ieee.double.read 9218868437227405311 = .number false 9007199254740991 (-1074 + 2045) := by decide
theorem read_nan {b : Nat} (h1 : 9218868437227405312 < b) (h2 : b < 9223372036854775808) : ∃ n, Ieee.double.read b = .nan false n := by
  unfold Ieee.Format.read
  have e1 : Ieee.double.signWeight = 9223372036854775808 := by decide
  have e2 : Ieee.double.binade = 4503599627370496 := by decide
  have e3 : Ieee.double.infRung = 9218868437227405312 := by decide
  have e5 : (b / 9223372036854775808 % 2 == 1) = false := by simp; omega
  simp only [e1, e2, e3, e5]
  rw [Nat.mod_eq_of_lt h2, if_neg (by omega), if_neg (by omega), if_neg (by omega)]
  exact ⟨_, rfl⟩
theorem cmp_ge {a b : Int} (h : b ≤ a) : (some (compare a b) == some Ordering.gt || some (compare a b) == some Ordering.eq) = true := by
  rcases Int.lt_trichotomy a b with h1 | h1 | h1
  · omega
  · subst h1; simp
  · rw [Int.compare_eq_gt.2 h1]; rfl
theorem cmp_le {a b : Int} (h : a ≤ b) : (some (compare a b) == some Ordering.gt) = false ∧ (some (compare a b) == some Ordering.lt || some (compare a b) == some Ordering.eq) = true := by
  rcases Int.lt_trichotomy a b with h1 | h1 | h1
  · rw [Int.compare_eq_lt.2 h1]; exact ⟨rfl, rfl⟩
  · subst h1; simp
  · omega
theorem num_ge0 {b : Nat} (h : b < 9218868437227405312) : (Ieee.double.order b 0 == some .gt || Ieee.double.order b 0 == some .eq) = true := by
  obtain ⟨m, j, hr, _, _⟩ := read_num b h
  unfold Ieee.Format.order
  rw [hr, read_zero]
  unfold Ieee.Datum.order
  refine cmp_ge ?_
  simp only [Ieee.signed, Bool.false_eq_true, if_false, Nat.zero_shiftLeft]
  exact Int.natCast_nonneg _
theorem num_lemax {b : Nat} (h : b < 9218868437227405312) : (Ieee.double.order b 9218868437227405311 == some .gt) = false ∧ (Ieee.double.order b 9218868437227405311 == some .lt || Ieee.double.order b 9218868437227405311 == some .eq) = true := by
  obtain ⟨m, j, hr, hm, hj⟩ := read_num b h
  unfold Ieee.Format.order
  rw [hr, read_max]
  unfold Ieee.Datum.order
  refine cmp_le ?_
  have e : min (-1074 + (j : Int)) (-1074 + 2045) = -1074 + (j : Int) := by omega
  simp only [e, Ieee.signed, Bool.false_eq_true, if_false, Int.sub_self, Int.toNat_zero, Nat.shiftLeft_zero]
  rw [Nat.shiftLeft_eq]
  have : m * 1 ≤ 9007199254740991 * 2 ^ (-1074 + 2045 - (-1074 + (j : Int))).toNat := Nat.mul_le_mul hm (Nat.one_le_two_pow)
  rw [Nat.mul_one] at this
  exact_mod_cast this
theorem inf_cmp : (Ieee.double.order 9218868437227405312 0 == some .gt) = true ∧ (Ieee.double.order 9218868437227405312 9218868437227405311 == some .gt) = true ∧ (Ieee.double.order 9218868437227405312 9218868437227405311 == some .lt || Ieee.double.order 9218868437227405312 9218868437227405311 == some .eq) = false := by decide
theorem nan_cmp {b c : Nat} (h1 : 9218868437227405312 < b) (h2 : b < 9223372036854775808) : Ieee.double.order b c = none := by
  obtain ⟨n, hn⟩ := read_nan h1 h2
  unfold Ieee.Format.order
  rw [hn]
  cases Ieee.double.read c <;> rfl
theorem wrap_bits {b : Nat} (h : b < 18446744073709551616) : (decide (IntKind.wrap .i64 (b : Int) < 0)) = decide (9223372036854775808 ≤ b) := by
  rw [Bool.eq_iff_iff]
  simp only [decide_eq_true_eq]
  unfold IntKind.wrap
  simp [IntKind.signed, IntKind.bits]
  omega
abbrev two64 : Nat := 18446744073709551616
theorem signbit_spec {b : Nat} (hb : b < two64) (k : R (.returned (.bool (decide (9223372036854775808 ≤ b)))) w) : Calls Try.prog 83 #[.float .f64 b] w R := by
  refine C_math_Signbit ?_
  unfold T_math_Signbit
  refine runV_ok run_fbits ⟨_, rfl, ?_⟩
  rw [wrap_bits hb]; exact k
theorem weight_spec {b : Nat} (hb : b < two64) (k : R (.returned (.bool (Cm.isW b))) w) : Calls Try.prog 65 #[.float .f64 b] w R := by
  refine C_conf_weight ?_
  unfold T_conf_weight
  have no : Cm.isW b = false → R (.returned (.bool false)) w := fun e => e ▸ k
  refine runV_ok (run_fgeq _ _ _ _ _) ⟨_, rfl, ite_b (fun h1 => ?_) (fun h1 => no ?_)⟩
  · refine C_math_IsInf ?_
    unfold T_math_IsInf
    rw [if_neg (by decide), if_neg (by decide)]
    refine runV_ok (run_fgtr _ _ _ _ _) ⟨_, rfl, _, rfl, ite_n (fun h2 => signbit_spec hb ⟨_, rfl, congB k ?_⟩) (fun h2 => no ?_)⟩
    · unfold Cm.isW
      rw [Bool.eq_iff_iff]
      simp only [Bool.not_eq_true', decide_eq_true_eq, decide_eq_false_iff_not]
      constructor
      · intro h; omega
      · intro h
        rcases Nat.lt_trichotomy b 9218868437227405312 with h3 | h3 | h3
        · exact h3
        · subst h3; rw [inf_cmp.2.1] at h2; cases h2
        · rw [nan_cmp h3 (by omega)] at h1; cases h1
    · unfold Cm.isW
      rw [decide_eq_false_iff_not]
      intro h3
      rw [(num_lemax h3).1] at h2; cases h2
  · unfold Cm.isW
    rw [decide_eq_false_iff_not]
    intro h3
    rw [num_ge0 h3] at h1; cases h1
/-! ### targets -/
def tV (t : Cm.Tgt) : List Value := [.string (bs t.addr), .float .f64 t.w]
theorem tV_len (t : Cm.Tgt) : (tV t).length = 2 := rfl
theorem tV_one (ts : List Cm.Tgt) : ∀ u ∈ ts.flatMap tV, one u = true := by
  intro u hu
  obtain ⟨t, _, ht⟩ := List.mem_flatMap.1 hu
  simp only [tV, List.mem_cons, List.not_mem_nil, or_false] at ht
  rcases ht with rfl | rfl <;> rfl
/-- What may come in: texts and lists of sizes that there are. -/
def okT (t : Cm.Tgt) : Prop := t.addr.length ≤ huge ∧ t.w < two64
def okTs (l : List Cm.Tgt) : Prop := l.length ≤ huge ∧ ∀ t ∈ l, okT t
variable {F : Fz} {s : Sl} {l : List Cm.Tgt}
theorem tgs_len (hm : kn F ∈ L) (h : St E L w) (hr : RdF F s.1 s.2.1 2 (l.flatMap tV)) : l.length = s.2.1 := hr.count tV_len (by decide) h hm
theorem all_step {α : Type} {p : α → Bool} {l : List α} {j : Nat} (hj : j < l.length) : (l.drop j).all p = (p l[j] && (l.drop (j + 1)).all p) := by
  rw [List.drop_eq_getElem_cons hj, List.all_cons]
theorem targets_spec (hm : kn F ∈ L) (h : St E L w) (hr : RdF F s.1 s.2.1 2 (l.flatMap tV)) (hl : okTs l) (k : ∀ w', St E L w' → R (.returned (.int .i64 (Cm.chkT l))) w') :
    Calls Try.prog 38 #[.slice s.1 s.2.1 s.2.2] w R := by
  have hn := tgs_len hm h hr
  refine C_conf_targets ?_
  unfold T_conf_targets T_conf_targets_1
  intro X hX
  refine up_to l.length (Q := fun j => ∀ w, St E L w → (l.all (fun t => Cm.isAddr t.addr) = (l.drop j).all fun t => Cm.isAddr t.addr) → X (j : Int) w) ?_ w h rfl
  intro j hj ih w h he
  refine hX _ _ ?_
  unfold T_conf_targets_1_body
  rw [← hn]
  refine ite_d (fun hc => ?_) (fun hc => ?_)
  · have hjl : j < l.length := by omega
    rw [all_step hjl] at he
    obtain ⟨ad, ha, hrd, _⟩ := (hr.at h hm).elem tV_len (List.getElem?_eq_getElem hjl) (by decide)
    refine ⟨by omega, by omega, ad, ha, _, _, by rw [Int.toNat_natCast]; exact hrd, ?_⟩
    intro w8
    have h8 := h.alloc (.cells #[.string (ByteArray.mk #[]), .float .f64 0] 55)
    refine ⟨rfl, wrOk_agg h8.at_blk (xs := tV l[j]) (by simp [tV]) (by intro u hu; simp [tV] at hu; rcases hu with rfl | rfl <;> rfl), ?_⟩
    intro w9
    have h9 : St E (blkL w.heap.size 55 (tV l[j]) :: L) w9 := h8.wr_agg0 (xs := tV l[j]) rfl
    refine ⟨_, rd_cell h9.at_blk (l := tV l[j]) rfl rfl, address_spec h9.drop (hl.2 _ (List.getElem_mem hjl)).1 fun w' h' => ⟨_, rfl, ite_n (fun h1 => ?_) (fun h1 => ?_)⟩⟩
    · refine congI (k w' h') ?_
      unfold Cm.chkT; rw [he, h1]; rfl
    · rw [h1, Bool.true_and] at he
      rw [succ_huge (by have := hl.1; omega)]
      exact ih hjl _ h' he
  · rw [List.drop_eq_nil_of_le (by omega), List.all_nil] at he
    unfold T_conf_targets_2
    intro Y hY
    refine up_to l.length (Q := fun j => ∀ w, St E L w → (l.all (fun t => Cm.isW t.w) = (l.drop j).all fun t => Cm.isW t.w) → Y (j : Int) w) ?_ w h rfl
    intro j hj ih w h hw
    refine hY _ _ ?_
    unfold T_conf_targets_2_body
    refine ite_d (fun hc => ?_) (fun hc => ?_)
    · have hjl : j < l.length := by omega
      rw [all_step hjl] at hw
      obtain ⟨ad, ha, hrd, _⟩ := (hr.at h hm).elem tV_len (List.getElem?_eq_getElem hjl) (by decide)
      refine ⟨by omega, by omega, ad, ha, _, _, by rw [Int.toNat_natCast]; exact hrd, ?_⟩
      intro w8
      have h8 := h.alloc (.cells #[.string (ByteArray.mk #[]), .float .f64 0] 55)
      refine ⟨rfl, wrOk_agg h8.at_blk (xs := tV l[j]) (by simp [tV]) (by intro u hu; simp [tV] at hu; rcases hu with rfl | rfl <;> rfl), ?_⟩
      intro w9
      have h9 : St E (blkL w.heap.size 55 (tV l[j]) :: L) w9 := h8.wr_agg0 (xs := tV l[j]) rfl
      refine ⟨_, rd_fld h9.at_blk (l := tV l[j]) rfl rfl, weight_spec (hl.2 _ (List.getElem_mem hjl)).2 ⟨_, rfl, ite_n (fun h1 => ?_) (fun h1 => ?_)⟩⟩
      · refine congI (k w9 h9.drop) ?_
        unfold Cm.chkT; rw [he, hw, h1]; rfl
      · rw [h1, Bool.true_and] at hw
        rw [succ_huge (by have := hl.1; omega)]
        exact ih hjl _ h9.drop hw
    · rw [List.drop_eq_nil_of_le (by omega), List.all_nil] at hw
      refine ite_d (fun h1 => congI (k w h) ?_) (fun h1 => congI (k w h) ?_)
      · unfold Cm.chkT; rw [he, hw, if_neg (by simp), if_neg (by simp), if_pos (by omega)]
      · unfold Cm.chkT; rw [he, hw, if_neg (by simp), if_neg (by simp), if_neg (by omega)]
/-! ### commands -/
def cmdL (c : Cm.Cmd) (s : Sl) : List Value := [.int .i64 c.act, .int .i64 c.client, .int .i64 c.seq, .int .i64 c.expect, .string (bs c.host), .string (bs c.pfx), .string (bs c.pool), .slice s.1 s.2.1 s.2.2]
def cmdV (c : Cm.Cmd) (s : Sl) : Value := .agg ⟨cmdL c s⟩
def okC (c : Cm.Cmd) : Prop := c.host.length ≤ huge ∧ c.pfx.length ≤ huge ∧ c.pool.length ≤ huge ∧ okTs c.tg
theorem ne_nil (s : Cm.Bs) : (!((bs s).toList == (ByteArray.mk #[]).toList)) = decide (s ≠ []) := by
  rw [bs_toList, toList_nil]; cases s <;> simp
theorem eq_dec (a b : Int) : (a == b) = decide (a = b) := by rw [Bool.eq_iff_iff]; simp
theorem ne_dec (a b : Int) : (a != b) = decide (a ≠ b) := by rw [Bool.eq_iff_iff]; simp
section
variable {Kn : Bool → World → Prop} {Kp : List PanicEntry → World → Prop} {c : Cm.Cmd} {b : Nat}
theorem u1 (h : St E (blkL b 28 (cmdL c s) :: L) w) (k : Kn (Cm.usesPool c.act) w) : T_conf_Check_1 ⟨b, 0, none⟩ w Kn Kp := by
  unfold T_conf_Check_1
  simp only [eq_dec]
  refine ⟨_, rd_cell h.at_blk rfl rfl, ite_d (fun h1 => cong k ?_) fun h1 => ⟨_, rd_cell h.at_blk rfl rfl, ite_d (fun h2 => cong k ?_) fun h2 => ⟨_, rd_cell h.at_blk rfl rfl, cong k ?_⟩⟩⟩ <;> simp [Cm.usesPool, *]
theorem u2 (h : St E (blkL b 28 (cmdL c s) :: L) w) (k : Kn (Cm.usesRoute c.act) w) : T_conf_Check_2 ⟨b, 0, none⟩ w Kn Kp := by
  unfold T_conf_Check_2
  simp only [eq_dec]
  refine ⟨_, rd_cell h.at_blk rfl rfl, ite_d (fun h1 => cong k ?_) fun h1 => ⟨_, rd_cell h.at_blk rfl rfl, cong k ?_⟩⟩ <;> simp [Cm.usesRoute, *]
theorem u3 (h : St E (blkL b 28 (cmdL c s) :: L) w) (k : Kn (Cm.seqOk c) w) : T_conf_Check_3 ⟨b, 0, none⟩ (c.seq == 0) (c.client != 0) w Kn Kp := by
  unfold T_conf_Check_3
  simp only [eq_dec, ne_dec]
  refine ite_d (fun h1 => ⟨_, rd_fld h.at_blk rfl rfl, ite_d (fun h2 => ⟨_, rd_fld h.at_blk rfl rfl, cong k ?_⟩) fun h2 => cong k ?_⟩) fun h1 => cong k ?_
  · rw [Cm.seqOk, if_neg h1, Bool.eq_iff_iff]; simp; omega
  · rw [Cm.seqOk, if_neg h1]; simp; omega
  · rw [Cm.seqOk, if_pos (by omega)]
theorem u6 (h : St E (blkL b 28 (cmdL c s) :: L) w) (k : Kn (decide (c.client < 0) || decide (32 < c.client)) w) : T_conf_Check_6 ⟨b, 0, none⟩ w Kn Kp := by
  unfold T_conf_Check_6
  refine ⟨_, rd_fld h.at_blk rfl rfl, ite_d (fun h1 => cong k ?_) fun h1 => ⟨_, rd_fld h.at_blk rfl rfl, cong k ?_⟩⟩ <;> simp [*]
theorem u7 (h : St E (blkL b 28 (cmdL c s) :: L) w) (k : Kn (decide (c.expect < -1) || decide (1099511627776 ≤ c.expect)) w) : T_conf_Check_7 ⟨b, 0, none⟩ w Kn Kp := by
  unfold T_conf_Check_7
  refine ⟨_, rd_fld h.at_blk rfl rfl, ite_d (fun h1 => cong k ?_) fun h1 => ⟨_, rd_fld h.at_blk rfl rfl, cong k ?_⟩⟩ <;> simp [*]
theorem u8 {p : Bool} (h : St E (blkL b 28 (cmdL c s) :: L) w) (k : Kn (!p && decide (c.pool ≠ [])) w) : T_conf_Check_8 ⟨b, 0, none⟩ p w Kn Kp := by
  unfold T_conf_Check_8
  refine ite_n (fun h1 => ⟨_, rd_fld h.at_blk rfl rfl, ?_⟩) fun h1 => cong k (by simp [h1])
  rw [ne_nil]; exact cong k (by simp [h1])
theorem u9 {p : Bool} (h : St E (blkL b 28 (cmdL c s) :: L) w) (k : Kn (!p && (decide (c.host ≠ []) || decide (c.pfx ≠ []))) w) : T_conf_Check_9 ⟨b, 0, none⟩ p w Kn Kp := by
  unfold T_conf_Check_9
  refine ite_n (fun h1 => ⟨_, rd_fld h.at_blk rfl rfl, ?_⟩) fun h1 => cong k (by simp [h1])
  rw [ne_nil]
  refine ite_b (fun h2 => cong k (by rw [h1, h2]; rfl)) fun h2 => ⟨_, rd_fld h.at_blk rfl rfl, ?_⟩
  rw [ne_nil]; exact cong k (by rw [h1, h2]; simp)
theorem u5 (h : St E (blkL b 28 (cmdL c s) :: L) w) (hn : c.tg.length = s.2.1) (k : Kn (Cm.argBad c) w) : T_conf_Check_5 ⟨b, 0, none⟩ (Cm.usesPool c.act) (Cm.usesRoute c.act) (Cm.seqOk c) (!Cm.usesPool c.act && !Cm.usesRoute c.act) w Kn Kp := by
  unfold T_conf_Check_5
  have hk : ∀ q, Cm.argBad c = q → Kn q w := fun q e => e ▸ k
  unfold Cm.argBad at hk
  refine ite_b (fun h1 => hk _ ?_) fun h1 => u6 h (ite_b (fun h2 => hk _ ?_) fun h2 => ite_n (fun h3 => hk _ ?_) fun h3 => u7 h (ite_b (fun h4 => hk _ ?_) fun h4 => u8 h (ite_b (fun h5 => hk _ ?_) fun h5 => u9 h (ite_b (fun h6 => hk _ ?_) fun h6 => ⟨_, rd_cell h.at_blk rfl rfl, ?_⟩))))
  · rw [h1]; simp
  · rw [Bool.or_eq_true] at h2; rcases h2 with h2 | h2 <;> rw [h2] <;> simp
  · rw [h3]; simp
  · rw [Bool.or_eq_true] at h4; rcases h4 with h4 | h4 <;> rw [h4] <;> simp
  · rw [h5]; simp
  · rw [h6]; simp
  · have e0 : ((!Cm.usesPool c.act && !Cm.usesRoute c.act) || decide (c.client < 0) || decide (32 < c.client) || !Cm.seqOk c || decide (c.expect < -1) || decide (1099511627776 ≤ c.expect) ||
        (!Cm.usesPool c.act && decide (c.pool ≠ [])) || (!Cm.usesRoute c.act && (decide (c.host ≠ []) || decide (c.pfx ≠ [])))) = false := by
      simp only [Bool.or_eq_false_iff] at h2 h4
      rw [h1, h2.1, h2.2, h3, h4.1, h4.2, h5, h6]; rfl
    rw [e0, Bool.false_or] at hk
    rw [ne_dec]
    refine ite_d (fun h7 => ⟨_, _, _, rd_fld h.at_blk rfl rfl, hk _ ?_⟩) fun h7 => hk _ ?_
    · rw [hn, decide_eq_true h7, Bool.true_and, Bool.eq_iff_iff]; simp
    · rw [decide_eq_false h7]; rfl
theorem u10 (h : St E (blkL b 28 (cmdL c s) :: L) w) (hc : okC c) (k : ∀ w', St E (blkL b 28 (cmdL c s) :: L) w' → Kn (Cm.usesPool c.act && !Cm.isName c.pool) w') : T_conf_Check_10 ⟨b, 0, none⟩ (Cm.usesPool c.act) w Kn Kp := by
  unfold T_conf_Check_10
  refine ite_b (fun h1 => ⟨_, rd_fld h.at_blk rfl rfl, poolName_spec h hc.2.2.1 fun w' h' => ⟨_, rfl, cong (k w' h') ?_⟩⟩) fun h1 => cong (k w h) ?_ <;> simp [h1]
end
theorem Check_spec {c : Cm.Cmd} (hm : kn F ∈ L) (h : St E L w) (hr : RdF F s.1 s.2.1 2 (c.tg.flatMap tV)) (hc : okC c) (k : ∀ w', St E L w' → R (.returned (.int .i64 (Cm.chk c))) w') :
    Calls Try.prog 15 #[cmdV c s] w R := by
  have hn := tgs_len hm h hr
  refine C_conf_Check ?_
  unfold T_conf_Check
  intro w9
  have h9 : St E (blkL w.heap.size 28 (cmdL c s) :: L) w9 := h.alloc (.cells ⟨cmdL c s⟩ 28)
  refine u1 h9 (u2 h9 ⟨_, rd_fld h9.at_blk rfl rfl, _, rd_fld h9.at_blk rfl rfl, u3 h9 ?_⟩)
  have fin : ∀ w' (q : Int), St E L w' → Cm.chk c = q → R (.returned (.int .i64 q)) w' := fun w' q h' e => e ▸ k w' h'
  have u4 : T_conf_Check_4 (Cm.usesPool c.act) (Cm.usesRoute c.act) w9 = fun Kn Kp => if (!Cm.usesPool c.act) = true then Kn (!Cm.usesRoute c.act) w9 else Kn false w9 := rfl
  have u4' : ∀ (Kn : Bool → World → Prop) (Kp), Kn (!Cm.usesPool c.act && !Cm.usesRoute c.act) w9 → T_conf_Check_4 (Cm.usesPool c.act) (Cm.usesRoute c.act) w9 Kn Kp := fun Kn Kp hk => by
    rw [u4]; exact ite_n (fun h1 => cong hk (by simp [h1])) fun h1 => cong hk (by simp [h1])
  refine u4' _ _ (u5 h9 hn (ite_b (fun h1 => fin _ _ h9.drop ?_) fun h1 => u10 h9 hc fun w1 hw1 => ?_))
  · unfold Cm.chk; rw [h1]; rfl
  · have tg : ∀ w2, St E (blkL w.heap.size 28 (cmdL c s) :: L) w2 → Cm.nameBad c = false → ∃ (s95a : Option Addr) (s95l s95c : Nat), rd w2 ((⟨w.heap.size, 0, none⟩ : Addr).add 7) (.slice s95a s95l s95c) ∧
        Calls Try.prog 38 #[.slice s95a s95l s95c] w2 (ret (fun r96 w97 => ∃ x98 : Int, r96 = .int .i64 x98 ∧ R (.returned (.int .i64 x98)) w97) (pan R)) := fun w2 hw2 e =>
      ⟨_, _, _, rd_fld hw2.at_blk rfl rfl, targets_spec (List.mem_cons_of_mem _ hm) hw2 hr hc.2.2.2 fun w3 hw3 => ⟨_, rfl, fin _ _ hw3.drop (by unfold Cm.chk; rw [h1, e]; rfl)⟩⟩
    refine ite_b (fun h2 => ite_b (fun _ => fin _ _ hw1.drop ?_) fun hh => by rw [h2] at hh; cases hh) fun h2 => ite_b (fun h3 => ⟨_, rd_fld hw1.at_blk rfl rfl, host_spec hw1 hc.1 fun w2 hw2 => ⟨_, rfl, ite_n (fun h4 => fin _ _ hw2.drop ?_) fun h4 => ⟨_, rd_fld hw2.at_blk rfl rfl, prefix_spec hw2 hc.2.1 fun w3 hw3 => ⟨_, rfl, ite_n (fun h5 => fin _ _ hw3.drop ?_) fun h5 => tg w3 hw3 ?_⟩⟩⟩⟩) fun h3 => tg w1 hw1 ?_
    · unfold Cm.chk Cm.nameBad; rw [h1, h2]; rfl
    · unfold Cm.chk Cm.nameBad; rw [h1, h2, h3, h4]; rfl
    · unfold Cm.chk Cm.nameBad; rw [h1, h2, h3, h4, h5]; rfl
    · unfold Cm.nameBad; rw [h2, h3, h4, h5]; rfl
    · unfold Cm.nameBad; rw [h2, h3]; rfl
/-! ### the document's -/
section
variable {Kn : Bool → World → Prop} {Kp : List PanicEntry → World → Prop} {c : Cm.Cmd} {b : Nat}
def bad1 (c : Cm.Cmd) : Bool := decide (c.act < 1) || (decide (4 < c.act) || (decide (c.client < 0) || (decide (32 < c.client) || (decide (c.expect < -1) || decide (1099511627776 ≤ c.expect)))))
theorem r1 (h : St E (blkL b 28 (cmdL c s) :: L) w) (k : Kn (bad1 c) w) : T_ref08_Check_1 ⟨b, 0, none⟩ w Kn Kp := by
  unfold T_ref08_Check_1
  have hk : ∀ q, bad1 c = q → Kn q w := fun q e => e ▸ k
  unfold bad1 at hk
  refine ⟨_, rd_cell h.at_blk rfl rfl, ite_d (fun h1 => hk _ ?_) fun h1 => ⟨_, rd_cell h.at_blk rfl rfl, ite_d (fun h2 => hk _ ?_) fun h2 => ⟨_, rd_fld h.at_blk rfl rfl, ite_d (fun h3 => hk _ ?_) fun h3 =>
    ⟨_, rd_fld h.at_blk rfl rfl, ite_d (fun h4 => hk _ ?_) fun h4 => ⟨_, rd_fld h.at_blk rfl rfl, ite_d (fun h5 => hk _ ?_) fun h5 => ⟨_, rd_fld h.at_blk rfl rfl, hk _ ?_⟩⟩⟩⟩⟩⟩
  · simp [h1]
  · simp [show 4 < c.act from h2]
  · simp [h3]
  · simp [show 32 < c.client from h4]
  · simp [h5]
  · rw [decide_eq_false h1, decide_eq_false (show ¬ 4 < c.act from h2), decide_eq_false h3, decide_eq_false (show ¬ 32 < c.client from h4), decide_eq_false h5, Bool.eq_iff_iff]; simp; omega
theorem r2 (h : St E (blkL b 28 (cmdL c s) :: L) w) (k : bad1 c = false → Kn (!Cm.seqOk c) w) (h0 : bad1 c = false) : T_ref08_Check_2 ⟨b, 0, none⟩ w Kn Kp := by
  unfold T_ref08_Check_2
  have hc : 0 ≤ c.client := by simp [bad1] at h0; omega
  have hk : ∀ q, (!Cm.seqOk c) = q → Kn q w := fun q e => e ▸ k h0
  simp only [eq_dec, ne_dec]
  refine ⟨_, rd_fld h.at_blk rfl rfl, ite_d (fun h1 => ⟨_, rd_fld h.at_blk rfl rfl, ite_d (fun h2 => hk _ ?_) fun h2 => ⟨_, rd_fld h.at_blk rfl rfl, ite_d (fun h3 => absurd h3 (by omega)) fun h3 => hk _ ?_⟩⟩) fun h1 =>
    ⟨_, rd_fld h.at_blk rfl rfl, ite_d (fun h2 => ⟨_, rd_fld h.at_blk rfl rfl, ite_d (fun h3 => hk _ ?_) fun h3 => ⟨_, rd_fld h.at_blk rfl rfl, hk _ ?_⟩⟩) fun h2 => absurd h2 (by omega)⟩⟩
  · simp [Cm.seqOk, h1]; omega
  · simp [Cm.seqOk, h1]; omega
  · simp [Cm.seqOk, h1]; omega
  · rw [Bool.eq_iff_iff]; simp [Cm.seqOk, h1]; omega
theorem r4 (h : St E (blkL b 28 (cmdL c s) :: L) w) (hn : c.tg.length = s.2.1) (k : Kn (decide (c.host ≠ []) || (decide (c.pfx ≠ []) || (decide (c.act = 2) && decide (0 < c.tg.length)))) w) : T_ref08_Check_4 ⟨b, 0, none⟩ w Kn Kp := by
  unfold T_ref08_Check_4
  refine ⟨_, rd_fld h.at_blk rfl rfl, ?_⟩
  rw [ne_nil]
  refine ite_b (fun h1 => cong k (by rw [h1]; rfl)) fun h1 => ⟨_, rd_fld h.at_blk rfl rfl, ?_⟩
  rw [ne_nil]
  refine ite_b (fun h2 => cong k (by rw [h2]; simp)) fun h2 => ⟨_, rd_cell h.at_blk rfl rfl, ?_⟩
  rw [h1, h2, Bool.false_or, Bool.false_or] at k
  rw [eq_dec]
  refine ite_d (fun h3 => ⟨_, _, _, rd_fld h.at_blk rfl rfl, cong k ?_⟩) fun h3 => cong k ?_
  · rw [decide_eq_true h3, hn, Bool.true_and, Bool.eq_iff_iff]; simp
  · rw [decide_eq_false h3]; rfl
theorem r5 (h : St E (blkL b 28 (cmdL c s) :: L) w) (hn : c.tg.length = s.2.1) (k : Kn (decide (0 < c.tg.length) || decide (c.pool ≠ [])) w) : T_ref08_Check_5 ⟨b, 0, none⟩ w Kn Kp := by
  unfold T_ref08_Check_5
  refine ⟨_, _, _, rd_fld h.at_blk rfl rfl, ite_d (fun h1 => cong k ?_) fun h1 => ⟨_, rd_fld h.at_blk rfl rfl, ?_⟩⟩
  · rw [decide_eq_true (by omega)]; rfl
  · rw [ne_nil]; refine cong k ?_
    rw [decide_eq_false (by omega)]; rfl
end
end
end Go.Vc

/-
  A text appended to bytes of ours; byte rows.
-/
namespace Go.Vc
open Go Go.RowKit

def bytesV (l : List UInt8) : List Value := l.map fun b => .int .u8 (b.toNat : Int)
theorem bytesV_len (l : List UInt8) : (bytesV l).length = l.length := by simp [bytesV]
theorem bytesV_one (l : List UInt8) : ∀ u ∈ bytesV l, one u = true := by
  intro u hu
  obtain ⟨b, _, rfl⟩ := List.mem_map.1 hu
  rfl
theorem bytesV_app (a b : List UInt8) : bytesV (a ++ b) = bytesV a ++ bytesV b := List.map_append
section
variable {P : Program} {E w : World} {L : List Asrt} {t u ty e : TypeId} {i : TypeInfo} {z : Value}
theorem str_cells (s : ByteArray) : (s.data.map fun b => Value.int .u8 (b.toNat : Int)) = (bytesV s.data.toList).toArray := by
  apply Array.ext'; simp [bytesV]
theorem run_first_str (s : ByteArray) (n : Nat) (w : World) : (Builtin.firstCells n s.size (.string s)).run P w = .ok (bytesV s.data.toList).toArray w := by
  have hx : (s.extract 0 s.size).data = s.data := by
    simp
  show (Sem.pure ((s.extract 0 s.size).data.map fun b => Value.int .u8 (b.toNat : Int))).run P w = _
  rw [hx, str_cells]; rfl
theorem append_str (ht : P.underlying t = some (.slice e)) (hu : P.underlying u = some .string) (hi : P.info? e = some i) (hz : i.zero = some z) (hzs : z.cells.size = 1) (hs1 : i.size = 1) (hb1 : i.bytes = 1)
    {a : Option Addr} {l c : Nat} {xs : List Value} {s : ByteArray} (h : St E (ownS a l c e 1 xs :: L) w) (hb : l + s.size ≤ 140737488355328) :
    ∃ a' c' w', (Builtin.append_ #[t, u] ty #[.slice a l c, .string s]).run P w = .ok (.slice a' (l + s.size) c') w' ∧ St E (ownS a' (l + s.size) c' e 1 (xs ++ bytesV s.data.toList) :: L) w' := by
  have hf := h.ownS_facts
  have hsz : (bytesV s.data.toList).length = s.size := by rw [bytesV_len]; simp
  rcases Nat.eq_zero_or_pos s.size with h0 | h0
  · have hnil : bytesV s.data.toList = [] := List.eq_nil_of_length_eq_zero (by rw [hsz]; exact h0)
    have hfc := run_first_str (P := P) s i.size w
    rw [hnil] at hfc
    refine ⟨a, c, w, ?_, by rw [hnil, h0]; simpa using h⟩
    rw [h0]
    rw [h0] at hfc
    cases a with
    | none => simp [Builtin.append_, run_underlying_ ht, run_underlying_ hu, sizeOf, typeInfo, hi, Builtin.lenOf, h0, hfc, hf.2.1]
    | some ad => simp [Builtin.append_, run_underlying_ ht, run_underlying_ hu, sizeOf, typeInfo, hi, Builtin.lenOf, h0, hfc, hf.2.1, storeCells]
  · have hm : maxLen = 140737488355328 ∨ 140737488355328 ≤ maxLen := by unfold maxLen; omega
    have fin : ∀ (cap : Nat), l + s.size ≤ cap → cap ≤ maxLen → ∀ (w' : World), w' = w.drew.alloc (.cells ((xs ++ bytesV s.data.toList) ++ (Builtin.zeroCells z.cells (cap - (l + s.size))).toList).toArray e) →
        St E (ownS (some ⟨w.heap.size, 0, none⟩) (l + s.size) cap e 1 (xs ++ bytesV s.data.toList) :: L) w' := fun cap hc hcm w' hw => by
      subst hw
      have h1 := (h.drop.drew).alloc (.cells ((xs ++ bytesV s.data.toList) ++ (Builtin.zeroCells z.cells (cap - (l + s.size))).toList).toArray e)
      exact h1.ownS_mk (by rw [List.length_append, hsz, hf.1]; omega) hc hcm (by simp [Builtin.zeroCells, hzs])
    rcases h.ownS_open with ⟨rfl, rfl, rfl, rfl⟩ | ⟨g, rest, rfl, hr, hs⟩
    · have hrun := run_append_nil_string (P := P) w t u ty e i z ht hu hi hz s h0 (by omega) (by rw [hb1]; omega)
      refine ⟨_, _, _, by rw [Nat.zero_add]; exact hrun, ?_⟩
      have := fin (grownCap w s.size 0 e) (by rw [Nat.zero_add]; exact grownCap_ge w s.size 0 e) (grownCap_le_maxLen w s.size 0 e (by unfold maxLen; omega)) _ rfl
      rw [Nat.zero_add] at this ⊢
      refine Eq.mp ?_ this
      congr 3
      apply Array.ext'
      simp [str_cells]
    · by_cases hroom : l + s.size ≤ c
      · have hst := run_storeCells (P := P) ⟨g, l, none⟩ (bytesV s.data.toList) 0 w fun j v hv => by
          have hj := (List.getElem?_eq_some_iff.1 hv).1
          rw [Nat.zero_add, add_mk]
          exact ⟨bytesV_one _ v (List.mem_of_getElem? hv), ⟨_, (cell_of hs.at_blk _).trans (List.getElem?_eq_getElem (by rw [List.length_append, hf.1, hr]; rw [hsz] at hj; omega))⟩, frozen_of hs.at_blk _⟩
        have hfc := run_first_str (P := P) s i.size w
        rw [hs1] at hfc
        refine ⟨some ⟨g, 0, none⟩, c, wr w ⟨g, l, none⟩ (.agg ⟨bytesV s.data.toList⟩), ?_, ?_⟩
        · rw [wr_agg_of]
          simp [Builtin.append_, run_underlying_ ht, run_underlying_ hu, sizeOf, typeInfo, hi, Builtin.lenOf, hroom, hfc, add_mk, hs1, hst]
        · have := hs.wr_agg (off := l) (xs := bytesV s.data.toList) (by rw [List.length_append, hf.1, hr, hsz]; omega)
          rw [List.take_append_of_le_length (by rw [hf.1]; omega), List.take_of_length_le (by rw [hf.1]; omega), List.drop_append, List.drop_of_length_le (by rw [hf.1]; omega), List.nil_append] at this
          refine this.ownS_mk (by rw [List.length_append, hsz, hf.1]; omega) hroom hf.2.2 ?_
          rw [List.length_drop, hr, hsz, hf.1]; omega
      · have hn : ¬ (l + s.size ≤ c) := hroom
        have h63' : ¬ (9223372036854775807 < ((l : Int) + (s.size : Int))) := by omega
        have hfit := growslice_fits (need := l + s.size) (old := c) (bytes := i.bytes) (by omega) (by rw [hb1]; omega)
        have h48' : ¬ (281474976710656 < Builtin.nextslicecap (l + s.size) c * i.bytes) := by omega
        have hfc := run_first_str (P := P) s i.size w.drew
        have hfo := run_firstCells_some (P := P) w.drew i.size l ⟨g, 0, none⟩ l c xs (by rw [hs1]; exact hf.1) (fun j v hv => by
          rw [add_mk, Nat.zero_add]
          exact (cell_of (w := w.drew) hs.at_blk j).trans (by rw [List.getElem?_append_left (List.getElem?_eq_some_iff.1 hv).1]; exact hv))
        refine ⟨some ⟨w.heap.size, 0, none⟩, grownCap w (l + s.size) c e, w.drew.alloc (.cells (xs.toArray ++ (bytesV s.data.toList).toArray ++ Builtin.zeroCells z.cells (grownCap w (l + s.size) c e - (l + s.size))) e), ?_, ?_⟩
        · simp [Builtin.append_, run_underlying_ ht, run_underlying_ hu, sizeOf, typeInfo, zeroValue, hi, hz, Builtin.lenOf, hn, h63', h48', Question.forced, hfc, hfo, newRow, grownCap]
          congr 2
          apply Array.ext'
          simp [List.append_assoc]
        · refine fin _ (grownCap_ge w (l + s.size) c e) (grownCap_le_maxLen w _ _ e (by unfold maxLen; omega)) _ ?_
          congr 2
          apply Array.ext'
          simp
end
end Go.Vc

/-
  Numbers, texts, weights, targets as bytes: appended and taken; the program's functions and the document's.
-/
namespace Go.Vc
open Go Go.Proofs Go.Proofs.Ytcpmfjclkdjfmaa
set_option maxRecDepth 100000

/-! ### arithmetic -/
theorem ofInt_nat (n : Nat) (h : n < 18446744073709551616) : (BitVec.ofInt 64 (n : Int)).toNat = n := by
  rw [BitVec.toNat_ofInt]; omega
theorem and127 (n : Nat) (h : n < 18446744073709551616) : ((BitVec.ofInt (IntKind.bits .i64) (n : Int)) &&& (BitVec.ofInt (IntKind.bits .i64) 127)).toNat = n % 128 := by
  show ((BitVec.ofInt 64 (n : Int)) &&& (BitVec.ofInt 64 127)).toNat = _
  rw [BitVec.toNat_and, ofInt_nat n h, show (BitVec.ofInt 64 127).toNat = 2 ^ 7 - 1 from by decide, Nat.and_two_pow_sub_one_eq_mod]
theorem or128 : ∀ x : Fin 128, x.val ||| 128 = x.val + 128 := by decide
theorem wrap_nat {n : Nat} (h : n < 9223372036854775808) : IntKind.wrap .i64 (n : Int) = n := wrap_id (by omega) (by omega)
theorem wrap_u8_mod (n : Nat) : IntKind.wrap .u8 (n : Int) = ((UInt8.ofNat n).toNat : Int) := by
  unfold IntKind.wrap
  simp [IntKind.signed, IntKind.bits]
theorem low7 (n : Nat) (h : n < 9223372036854775808) : IntKind.wrap .u8 (IntKind.wrap .i64 ((BitVec.ofInt (IntKind.bits .i64) (IntKind.wrap .i64 ((BitVec.ofInt (IntKind.bits .i64) (n : Int)) &&& (BitVec.ofInt (IntKind.bits .i64) 127)).toNat)) ||| (BitVec.ofInt (IntKind.bits .i64) 128)).toNat) = ((UInt8.ofNat (n % 128 + 128)).toNat : Int) := by
  rw [and127 n (by omega), wrap_nat (n := n % 128) (by omega)]
  have e : ((BitVec.ofInt (IntKind.bits .i64) ((n % 128 : Nat) : Int)) ||| (BitVec.ofInt (IntKind.bits .i64) 128)).toNat = n % 128 + 128 := by
    show ((BitVec.ofInt 64 ((n % 128 : Nat) : Int)) ||| (BitVec.ofInt 64 128)).toNat = _
    rw [BitVec.toNat_or, ofInt_nat _ (by omega), show (BitVec.ofInt 64 128).toNat = 128 from by decide]
    exact or128 ⟨n % 128, by omega⟩
  rw [e, wrap_nat (n := n % 128 + 128) (by omega), wrap_u8_mod]
section
variable {E w : World} {L : List Asrt} {R : Ending → World → Prop} {F : Fz}

/-! ### bytes of ours -/
def byA (s : Sl) (xs : Cm.Bs) : Asrt := ownS s.1 s.2.1 s.2.2 5 1 (bytesV xs)
theorem St.by_len {s : Sl} {xs : Cm.Bs} (h : St E (byA s xs :: L) w) : xs.length = s.2.1 := by have := h.ownS_facts.1; rw [bytesV_len] at this; omega
theorem St.by_nil (h : St E L w) : St E (byA (none, 0, 0) [] :: L) w := h.ownS_nil
theorem St.by_new (h : St E L w) (xs : Cm.Bs) (hl : xs.length ≤ big) : St E (byA (some ⟨w.heap.size, 0, none⟩, xs.length, xs.length) xs :: L) (w.alloc (.cells ⟨bytesV xs⟩ 5)) :=
  (St.ownS_mk (xs := bytesV xs) (rest := []) (l := xs.length) (c := xs.length) (sz := 1) (by rw [List.append_nil]; exact h.alloc _) (by rw [bytesV_len]; omega) (Nat.le_refl _) (by unfold big at hl; unfold maxLen; omega) (by simp) :)
theorem app_b {s : Sl} {a2 : Option Addr} {l2 c2 : Nat} {xs ys : Cm.Bs} (h : St E (byA s xs :: L) w) (hro : RdS w a2 l2 1 (bytesV ys)) (hb : xs.length + ys.length ≤ big) :
    ∃ (s' : Sl) (w' : World), (Builtin.append_ #[42, 42] 42 #[.slice s.1 s.2.1 s.2.2, .slice a2 l2 c2]).run Try.prog w = .ok (.slice s'.1 s'.2.1 s'.2.2) w' ∧ St E (byA s' (xs ++ ys) :: L) w' := by
  have hl := h.by_len
  have hl2 : ys.length = l2 := by have := hro.1; rw [bytesV_len] at this; omega
  obtain ⟨a', c', w', hr, hs⟩ := append_own (P := Try.prog) (t := 42) (ty := 42) (e := 5) (i := Try.t5) (z := .int .u8 0) (by kernel_rfl) (by kernel_rfl) (by kernel_rfl) (by kernel_rfl) (by decide) (c2 := c2) h hro (bytesV_one ys)
    (by have : Try.t5.bytes = 1 := by kernel_rfl
        rw [this]; unfold big at hb; omega) (by unfold big at hb; unfold maxLen; omega)
  exact ⟨(a', s.2.1 + l2, c'), w', hr, by rw [byA, bytesV_app]; exact hs⟩
theorem app_1 {s : Sl} {xs : Cm.Bs} {x : UInt8} (h : St E (byA s xs :: L) w) (hb : xs.length + 1 ≤ big) :
    ∃ (s' : Sl) (w' : World), (Builtin.append_ #[42, 42] 42 #[.slice s.1 s.2.1 s.2.2, .slice (some ⟨w.heap.size, 0, none⟩) 1 1]).run Try.prog (w.alloc (.cells #[.int .u8 (x.toNat : Int)] 5)) = .ok (.slice s'.1 s'.2.1 s'.2.2) w' ∧ St E (byA s' (xs ++ [x]) :: L) w' := by
  have h2 : St E (byA (some ⟨w.heap.size, 0, none⟩, 1, 1) [x] :: byA s xs :: L) (w.alloc (.cells #[.int .u8 (x.toNat : Int)] 5)) := h.by_new [x] (show 1 ≤ big by decide)
  obtain ⟨s', w', hr, hs⟩ := app_b (c2 := 1) h2.f1 (St.rdS_own h2) (by simpa using hb)
  exact ⟨s', w', hr, hs.f1.drop⟩
theorem app_s {s : Sl} {xs ys : Cm.Bs} (h : St E (byA s xs :: L) w) (hb : xs.length + ys.length ≤ big) :
    ∃ (s' : Sl) (w' : World), (Builtin.append_ #[42, 9] 42 #[.slice s.1 s.2.1 s.2.2, .string (bs ys)]).run Try.prog w = .ok (.slice s'.1 s'.2.1 s'.2.2) w' ∧ St E (byA s' (xs ++ ys) :: L) w' := by
  have hl := h.by_len
  obtain ⟨a', c', w', hr, hs⟩ := append_str (P := Try.prog) (t := 42) (u := 9) (ty := 42) (e := 5) (i := Try.t5) (z := .int .u8 0) (by kernel_rfl) (by kernel_rfl) (by kernel_rfl) (by kernel_rfl) (by kernel_rfl) (by kernel_rfl) (by kernel_rfl) (s := bs ys) h
    (by rw [bs_size]; unfold big at hb; omega)
  exact ⟨(a', s.2.1 + (bs ys).size, c'), w', hr, by rw [byA, bytesV_app]; exact hs⟩

/-! ### numbers -/
theorem number_spec {s : Sl} {xs : Cm.Bs} (j : Nat) {n : Nat} (hn : n < 128 ^ (j + 1)) (hj : j ≤ 5) (h : St E (byA s xs :: L) w) (hb : xs.length + 6 ≤ big)
    (k : ∀ (w' : World) (s' : Sl), St E (byA s' (xs ++ Cm.encNF j n) :: L) w' → R (.returned (.slice s'.1 s'.2.1 s'.2.2)) w') : Calls Try.prog 80 #[.slice s.1 s.2.1 s.2.2, .int .i64 (n : Int)] w R := by
  refine C_wire_number ?_
  unfold T_wire_number T_wire_number_1
  intro X hX
  have go : ∀ (j : Nat) (n : Nat) (s : Sl) (ys : Cm.Bs) (w : World), n < 128 ^ (j + 1) → j ≤ 5 → ys.length + j + 1 ≤ big → St E (byA s ys :: L) w → (∀ (w' : World) (s' : Sl), St E (byA s' (ys ++ Cm.encNF j n) :: L) w' → R (.returned (.slice s'.1 s'.2.1 s'.2.2)) w') → X s.1 s.2.1 s.2.2 (n : Int) w := by
    intro j
    induction j with
    | zero =>
      intro n s ys w hn hj hb h k
      refine hX _ _ _ _ _ ?_
      unfold T_wire_number_1_body
      refine ite_d (fun hc => absurd hc (by have : n < 128 := by simpa using hn
                                            omega)) (fun hc => ?_)
      dsimp -zeta only
      intro w20
      obtain ⟨s', w', hr, hs⟩ := app_1 (x := UInt8.ofNat n) h (by omega)
      rw [← wrap_u8_mod] at hr
      exact runV_ok hr ⟨_, _, _, rfl, k _ _ hs⟩
    | succ j ih =>
      intro n s ys w hn hj hb h k
      refine hX _ _ _ _ _ ?_
      unfold T_wire_number_1_body
      have hn2 : n < 9223372036854775808 := Nat.lt_of_lt_of_le hn (Nat.le_trans (Nat.pow_le_pow_right (by decide) (by omega : j + 1 + 1 ≤ 6)) (by decide))
      refine ite_d (fun hc => ?_) (fun hc => ?_)
      · intro w5
        obtain ⟨s', w', hr, hs⟩ := app_1 (x := UInt8.ofNat (n % 128 + 128)) h (by omega)
        rw [← low7 n hn2] at hr
        refine runV_ok hr ⟨_, _, _, rfl, ?_⟩
        rw [show Int.fdiv (n : Int) (2 ^ 7) = ((n / 128 : Nat) : Int) from by
          rw [Int.fdiv_eq_ediv_of_nonneg _ (by decide)]; norm_cast]
        refine ih (n / 128) s' _ _ (by rw [Nat.div_lt_iff_lt_mul (by decide)]; rwa [Nat.pow_succ] at hn) (by omega) (by simp; omega) hs fun w2 s2 h2 => k w2 s2 ?_
        rw [Cm.encNF, if_neg (by omega)]
        simpa using h2
      · dsimp -zeta only
        intro w20
        obtain ⟨s', w', hr, hs⟩ := app_1 (x := UInt8.ofNat n) h (by omega)
        rw [← wrap_u8_mod] at hr
        refine runV_ok hr ⟨_, _, _, rfl, k _ _ ?_⟩
        rw [Cm.encNF, if_pos (by omega)]
        exact hs
  exact go j n s xs w hn hj (by omega) h k
theorem num_len (n : Int) : (Cm.num n).length ≤ 6 := by
  unfold Cm.num
  split
  · simp
  · have : ∀ j n, (Cm.encNF j n).length ≤ j + 1 := by
      intro j
      induction j with
      | zero => intro n; simp [Cm.encNF]
      | succ j ih => intro n; rw [Cm.encNF]; split <;> simp [ih]
    exact this 5 _
def numE (n : Int) : Int := if n < 0 ∨ 1099511627776 < n then 2 else 0
theorem Number_spec {n : Int} (h : St E L w) (k : ∀ (w' : World) (s' : Sl), St E (byA s' (Cm.num n) :: L) w' → R (.returned (.tuple #[.slice s'.1 s'.2.1 s'.2.2, .int .i64 (numE n)])) w') : Calls Try.prog 57 #[.int .i64 n] w R := by
  refine C_wire_Number ?_
  unfold T_wire_Number
  unfold numE Cm.num at k
  refine ite_d (fun h1 => ?_) fun h1 => ite_d (fun h2 => ?_) fun h2 => ?_
  · rw [if_pos (.inl h1), if_pos (.inl h1)] at k
    exact k w (none, 0, 0) h.by_nil
  · rw [if_pos (.inr (by omega)), if_pos (.inr (by omega))] at k
    exact k w (none, 0, 0) h.by_nil
  · rw [if_neg (by omega), if_neg (by omega)] at k
    obtain ⟨m, rfl⟩ := Int.eq_ofNat_of_zero_le (by omega : 0 ≤ n)
    exact number_spec (s := (none, 0, 0)) (xs := []) 5 (n := m) (by omega) (by omega) h.by_nil (by decide) fun w' s' h' => ⟨_, _, _, rfl, k w' s' (by simpa using h')⟩
section
variable {s : Sl} {xs : Cm.Bs}
theorem num_spec {n : Int} (h : St E (byA s xs :: L) w) (hb : xs.length + 6 ≤ big) (k : ∀ (w' : World) (s' : Sl), St E (byA s' (xs ++ Cm.num n) :: L) w' → R (.returned (.slice s'.1 s'.2.1 s'.2.2)) w') : Calls Try.prog 29 #[.slice s.1 s.2.1 s.2.2, .int .i64 n] w R := by
  refine C_conf_num ?_
  unfold T_conf_num
  refine Number_spec h fun w' s' h' => ⟨_, _, _, _, rfl, ?_⟩
  obtain ⟨s2, w2, hr, hs⟩ := app_b (c2 := s'.2.2) h'.f1 (St.rdS_own h') (by have := num_len n; omega)
  exact runV_ok hr ⟨_, _, _, rfl, k w2 s2 hs.f1.drop⟩
theorem text_len (x : Cm.Bs) : (Cm.text x).length ≤ 6 + x.length := by have := num_len x.length; simp [Cm.text]; omega
theorem text_spec {x : Cm.Bs} (h : St E (byA s xs :: L) w) (hb : xs.length + 6 + x.length ≤ big) (k : ∀ (w' : World) (s' : Sl), St E (byA s' (xs ++ Cm.text x) :: L) w' → R (.returned (.slice s'.1 s'.2.1 s'.2.2)) w') : Calls Try.prog 31 #[.slice s.1 s.2.1 s.2.2, .string (bs x)] w R := by
  refine C_conf_text ?_
  unfold T_conf_text
  rw [bs_size]
  refine num_spec h (by omega) fun w' s' h' => ⟨_, _, _, rfl, ?_⟩
  obtain ⟨s2, w2, hr, hs⟩ := app_s (ys := x) h' (by have := num_len x.length; simp; omega)
  exact runV_ok hr ⟨_, _, _, rfl, k w2 s2 (by simpa [Cm.text] using hs)⟩
/-! ### weights, targets -/
theorem run_shr (t : TypeId) (x y : Operand) {v n : Nat} {q : IntKind} (hn : n < 64) : (do eqGuard .shr t x y (.int .u64 (v : Int)) (.int q (n : Int)); binOp .shr t (.int .u64 (v : Int)) (.int q (n : Int)) : Sem Value).run Try.prog w = .ok (.int .u64 ((v / 2 ^ n : Nat) : Int)) w := by
  have e : min (n : Int).toNat (IntKind.bits .u64) = n := by rw [Int.toNat_natCast]; exact Nat.min_eq_left (by show n ≤ 64; omega)
  have h0 : ¬ ((n : Int) < 0) := by omega
  simp only [eqGuard, binOp, Op.shift]
  rw [if_neg h0, e, Int.fdiv_eq_ediv_of_nonneg _ (by exact_mod_cast Nat.zero_le _)]
  simp
def f64n (v : Nat) (i : Nat) : UInt8 := UInt8.ofNat (v / 2 ^ (56 - 8 * i))
theorem f64_take (v : Nat) : ∀ i, i ≤ 8 → (Cm.f64 v).take i = (List.range i).map (f64n v) := by
  intro i hi
  match i, hi with
  | 0, _ => rfl
  | 1, _ => rfl
  | 2, _ => rfl
  | 3, _ => rfl
  | 4, _ => rfl
  | 5, _ => rfl
  | 6, _ => rfl
  | 7, _ => rfl
  | 8, _ => simp [Cm.f64, List.range_succ, f64n]
theorem float_spec {v : Nat} (h : St E (byA s xs :: L) w) (hb : xs.length + 8 ≤ big) (k : ∀ (w' : World) (s' : Sl), St E (byA s' (xs ++ Cm.f64 v) :: L) w' → R (.returned (.slice s'.1 s'.2.1 s'.2.2)) w') : Calls Try.prog 58 #[.slice s.1 s.2.1 s.2.2, .float .f64 v] w R := by
  refine C_conf_float ?_
  unfold T_conf_float T_conf_float_1
  intro X hX
  refine up_to 8 (Q := fun j => ∀ (w : World) (s : Sl), St E (byA s (xs ++ (Cm.f64 v).take j) :: L) w → X s.1 s.2.1 s.2.2 (56 - 8 * (j : Int)) w) ?_ w s (by simpa using h)
  intro j hj ih w s h
  refine hX _ _ _ _ _ ?_
  unfold T_conf_float_1_body
  refine ite_d (fun hc => ?_) (fun hc => ?_)
  · have hj8 : j < 8 := by omega
    refine runV_ok run_fbits ⟨_, rfl, ?_⟩
    rw [show (56 - 8 * (j : Int)) = ((56 - 8 * j : Nat) : Int) from by omega]
    refine runV_ok (run_shr _ _ _ (by omega)) ⟨_, rfl, ?_⟩
    intro w12
    obtain ⟨s', w', hr, hs⟩ := app_1 (x := f64n v j) h (by simp [f64_take v j (by omega)]; omega)
    unfold f64n at hr
    rw [← wrap_u8_mod] at hr
    refine runV_ok hr ⟨_, _, _, rfl, ?_⟩
    rw [wrap_id (by omega) (by omega), show ((56 - 8 * j : Nat) : Int) - 8 = 56 - 8 * ((j + 1 : Nat) : Int) from by omega]
    refine ih hj8 _ _ ?_
    rw [f64_take v (j + 1) (by omega), List.range_succ, List.map_append, ← f64_take v j (by omega)]
    simpa using hs
  · have : j = 8 := by omega
    subst this
    exact k _ _ h
theorem tgt_len (t : Cm.Tgt) : (Cm.tgt t).length ≤ 14 + t.addr.length := by have := text_len t.addr; simp [Cm.tgt, Cm.f64_len]; omega
def tgsMax (l : List Cm.Tgt) : Nat := 6 + (l.map fun t => 14 + t.addr.length).sum
theorem flat_tgt_len (l : List Cm.Tgt) : (l.flatMap Cm.tgt).length ≤ (l.map fun t => 14 + t.addr.length).sum := by
  induction l with
  | nil => simp
  | cons t r ih => have := tgt_len t; simp only [List.flatMap_cons, List.length_append, List.map_cons, List.sum_cons]; omega
theorem sum_take_le (f : Cm.Tgt → Nat) : ∀ (l : List Cm.Tgt) (j : Nat) (h : j < l.length), ((l.take j).map f).sum + f l[j] ≤ (l.map f).sum
  | [], _, h => by simp at h
  | t :: r, 0, _ => by simp
  | t :: r, j + 1, h => by
    have := sum_take_le f r j (by simpa using h)
    simp only [List.take_succ_cons, List.map_cons, List.sum_cons, List.getElem_cons_succ]; omega
theorem row_spec {q : Sl} {l : List Cm.Tgt} (hm : kn F ∈ L) (hr : RdF F q.1 q.2.1 2 (l.flatMap tV)) (hl : okTs l) (h : St E (byA s xs :: L) w) (hb : xs.length + tgsMax l ≤ big)
    (k : ∀ (w' : World) (s' : Sl), St E (byA s' (xs ++ Cm.tgs l) :: L) w' → R (.returned (.slice s'.1 s'.2.1 s'.2.2)) w') : Calls Try.prog 30 #[.slice s.1 s.2.1 s.2.2, .slice q.1 q.2.1 q.2.2] w R := by
  have hn := tgs_len hm h.drop hr
  unfold tgsMax at hb
  refine C_conf_row ?_
  unfold T_conf_row
  refine num_spec h (by omega) fun w1 s1 h1 => ⟨_, _, _, rfl, ?_⟩
  unfold T_conf_row_1
  intro X hX
  refine up_to l.length (Q := fun j => ∀ (w : World) (s : Sl), St E (byA s (xs ++ Cm.num l.length ++ (l.take j).flatMap Cm.tgt) :: L) w → X s.1 s.2.1 s.2.2 (j : Int) w) ?_ w1 s1 (by rw [← hn] at h1; simpa using h1)
  intro j hj ih w s h
  refine hX _ _ _ _ _ ?_
  unfold T_conf_row_1_body
  rw [← hn]
  refine ite_d (fun hc => ?_) (fun hc => ?_)
  · have hjl : j < l.length := by omega
    obtain ⟨ad, ha, hrd, _⟩ := (hr.at h (List.mem_cons_of_mem _ hm)).elem tV_len (List.getElem?_eq_getElem hjl) (by decide)
    have hs1 := sum_take_le (fun t => 14 + t.addr.length) l j hjl
    have hs2 := flat_tgt_len (l.take j)
    have hs3 := num_len l.length
    have hs4 := text_len l[j].addr
    refine ⟨by omega, by omega, ad, ha, _, _, by rw [Int.toNat_natCast]; exact hrd, ?_⟩
    intro w8
    have h8 := h.alloc (.cells #[.string (ByteArray.mk #[]), .float .f64 0] 55)
    refine ⟨rfl, wrOk_agg h8.at_blk (xs := tV l[j]) (by simp [tV]) (by intro u hu; simp [tV] at hu; rcases hu with rfl | rfl <;> rfl), ?_⟩
    intro w9 w10
    have h9 : St E (blkL w.heap.size 55 (tV l[j]) :: byA s (xs ++ Cm.num l.length ++ (l.take j).flatMap Cm.tgt) :: L) w10 := (h8.wr_agg0 (xs := tV l[j]) rfl).drew
    refine ⟨_, rd_cell h9.at_blk (l := tV l[j]) rfl rfl, _, rd_fld h9.at_blk (l := tV l[j]) rfl rfl, ?_⟩
    refine text_spec (x := l[j].addr) h9.f1 (by simp only [List.length_append]; omega) fun w2 s2 h2 => ⟨_, _, _, rfl, ⟨rd_fld h2.f1.at_blk (l := tV l[j]) rfl rfl, trivial⟩, ?_⟩
    refine float_spec h2 (by simp only [List.length_append]; omega) fun w3 s3 h3 => ⟨_, _, _, rfl, trivial, ?_⟩
    rw [succ_huge (by have := hl.1; omega)]
    refine ih hjl _ _ ?_
    rw [List.take_succ_eq_append_getElem hjl, List.flatMap_append]
    have := h3.f1.drop
    simpa [Cm.tgt] using this
  · refine k _ _ ?_
    rw [List.take_of_length_le (by omega)] at h
    simpa [Cm.tgs] using h
end
end
end Go.Vc

/-
  Structs held against each other.
-/
namespace Go.Vc
open Go
section
variable {P : Program} {t : TypeId} {w : World} {x y : Operand}
theorem run_ne_agg {a b : Array Value} {r : Bool} (hg : P.eqGuardType P.depth t = false) (he : (Op.equal t (.agg a) (.agg b)).run P w = .ok r w) :
    (do eqGuard .neq t x y (.agg a) (.agg b); binOp .neq t (.agg a) (.agg b) : Sem Value).run P w = .ok (.bool !r) w := by
  simp [eqGuard, program, Sem.run, hg, binOp, he]
theorem run_eq_agg {a b : Array Value} {r : Bool} (hg : P.eqGuardType P.depth t = false) (he : (Op.equal t (.agg a) (.agg b)).run P w = .ok r w) :
    (do eqGuard .eql t x y (.agg a) (.agg b); binOp .eql t (.agg a) (.agg b) : Sem Value).run P w = .ok (.bool r) w := by
  simp [eqGuard, program, Sem.run, hg, binOp, he]
theorem equal_str3 {f0 f1 f2 : Field} (hu : P.underlying t = some (.struct #[f0, f1, f2])) (h0 : P.underlying f0.type = some .string) (h1 : P.underlying f1.type = some .string) (h2 : P.underlying f2.type = some .string)
    (hn0 : f0.name ≠ "_") (hn1 : f1.name ≠ "_") (hn2 : f2.name ≠ "_") (ho0 : f0.offset = 0) (ho1 : f1.offset = 1) (ho2 : f2.offset = 2) (hst : P.stoodInHeld t = false) (a1 a2 a3 b1 b2 b3 : ByteArray) :
    (Op.equal t (.agg #[.string a1, .string a2, .string a3]) (.agg #[.string b1, .string b2, .string b3])).run P w = .ok (decide (a1 = b1) && (decide (a2 = b2) && decide (a3 = b3))) w := by
  have e0 : ∀ x y : ByteArray, (Op.equalIn 9999 f0.type (.string x) (.string y)).run P w = .ok (x == y) w := fun x y => equalIn_string (P := P) h0 x y 9998 w
  have e1 : ∀ x y : ByteArray, (Op.equalIn 9999 f1.type (.string x) (.string y)).run P w = .ok (x == y) w := fun x y => equalIn_string (P := P) h1 x y 9998 w
  have e2 : ∀ x y : ByteArray, (Op.equalIn 9999 f2.type (.string x) (.string y)).run P w = .ok (x == y) w := fun x y => equalIn_string (P := P) h2 x y 9998 w
  have hag : ∀ f : Field, P.underlying f.type = some .string → aggT P f.type = false := fun f hf => by simp [aggT, hf]
  have hp0 : ∀ x y z : Value, (part f0.type #[x, y, z] f0.offset).run P w = .ok x w := fun x y z => by simp [part, run_isAgg h0, hag f0 h0, ho0]
  have hp1 : ∀ x y z : Value, (part f1.type #[x, y, z] f1.offset).run P w = .ok y w := fun x y z => by simp [part, run_isAgg h1, hag f1 h1, ho1]
  have hp2 : ∀ x y z : Value, (part f2.type #[x, y, z] f2.offset).run P w = .ok z w := fun x y z => by simp [part, run_isAgg h2, hag f2 h2, ho2]
  show (Op.equalIn (9999 + 1) t _ _).run P w = _
  unfold Op.equalIn
  simp only [Sem.run_bind, run_underlying_ hu, Result.andThen_ok, program, Sem.run, hst]
  by_cases ha : a1 = b1
  · by_cases hb : a2 = b2
    · by_cases hc : a3 = b3
      · simp [hn0, hn1, hn2, hp0, hp1, hp2, e0, e1, e2, ha, hb, hc, bytes_beq]
      · simp [hn0, hn1, hn2, hp0, hp1, hp2, e0, e1, e2, ha, hb, hc, bytes_beq]
    · simp [hn0, hn1, hp0, hp1, e0, e1, ha, hb, bytes_beq]
  · simp [hn0, hp0, e0, ha, bytes_beq]
end
end Go.Vc

/-
  Rows of targets; targets and commands held against each other.
-/
namespace Go.Vc
open Go Go.Proofs Go.Proofs.Ytcpmfjclkdjfmaa
set_option maxRecDepth 100000
section
variable {E w : World} {L : List Asrt} {R : Ending → World → Prop} {F : Fz}
def tgA (s : Sl) (l : List Cm.Tgt) : Asrt := ownS s.1 s.2.1 s.2.2 55 2 (l.flatMap tV)
theorem app_t {s : Sl} {a2 : Option Addr} {l2 c2 : Nat} {xs ys : List Cm.Tgt} (h : St E (tgA s xs :: L) w) (hro : RdS w a2 l2 2 (ys.flatMap tV)) (hb : xs.length + ys.length ≤ 1000000) :
    ∃ (s' : Sl) (w' : World), (Builtin.append_ #[26, 26] 26 #[.slice s.1 s.2.1 s.2.2, .slice a2 l2 c2]).run Try.prog w = .ok (.slice s'.1 s'.2.1 s'.2.2) w' ∧ St E (tgA s' (xs ++ ys) :: L) w' := by
  have hl : xs.length = s.2.1 := h.rdS_own.count tV_len (by decide)
  have hl2 : ys.length = l2 := hro.count tV_len (by decide)
  obtain ⟨a', c', w', hr, hs⟩ := append_own (P := Try.prog) (t := 26) (ty := 26) (e := 55) (i := Try.t55) (z := .agg #[.string (ByteArray.mk #[]), .float .f64 0]) (by kernel_rfl) (by kernel_rfl) (by kernel_rfl) (by kernel_rfl) (by decide) (c2 := c2) h hro (tV_one ys)
    (by have : Try.t55.bytes = 24 := by kernel_rfl
        rw [this]; omega) (by unfold maxLen; omega)
  rw [show Try.t55.size = 2 from by kernel_rfl, ← List.flatMap_append] at hs
  exact ⟨(a', s.2.1 + l2, c'), w', hr, hs⟩
def zeroC : Cm.Cmd := ⟨0, 0, 0, 0, [], [], [], []⟩
def shortTs (l : List Cm.Tgt) : Prop := l.length ≤ 16 ∧ ∀ t ∈ l, t.addr.length ≤ 128 ∧ t.w < two64
theorem shortTs.ok {l : List Cm.Tgt} (h : shortTs l) : okTs l := ⟨by have := h.1; unfold huge; omega, fun t ht => ⟨by have := (h.2 t ht).1; unfold huge; omega, (h.2 t ht).2⟩⟩
theorem one_cmdL (c : Cm.Cmd) (s : Sl) : ∀ u ∈ cmdL c s, one u = true := by
  intro u hu
  simp only [cmdL, List.mem_cons, List.not_mem_nil, or_false] at hu
  rcases hu with rfl | rfl | rfl | rfl | rfl | rfl | rfl | rfl <;> rfl
theorem St.freezeT {s : Sl} {l : List Cm.Tgt} (h : St E (tgA s l :: kn F :: L) w) : ∃ G, Fz.le F G ∧ St E (kn G :: L) w ∧ RdF G s.1 s.2.1 2 (l.flatMap tV) := h.freezeS
/-! ### the same -/
theorem str_beq (a b : Cm.Bs) : ((bs a).toList == (bs b).toList) = decide (a = b) := by
  rw [bs_toList, bs_toList, Bool.eq_iff_iff]; simp
theorem drop_step {α : Type} [DecidableEq α] {l1 l2 : List α} {j : Nat} (h1 : j < l1.length) (h2 : j < l2.length) : decide (l1.drop j = l2.drop j) = (decide (l1[j] = l2[j]) && decide (l1.drop (j + 1) = l2.drop (j + 1))) := by
  rw [List.drop_eq_getElem_cons h1, List.drop_eq_getElem_cons h2, Bool.eq_iff_iff, Bool.and_eq_true, decide_eq_true_eq, decide_eq_true_eq, decide_eq_true_eq, List.cons.injEq]
theorem SameTargets_spec {s1 s2 : Sl} {l1 l2 : List Cm.Tgt} (hm : kn F ∈ L) (h : St E L w) (r1 : RdF F s1.1 s1.2.1 2 (l1.flatMap tV)) (r2 : RdF F s2.1 s2.2.1 2 (l2.flatMap tV)) (hl : l1.length ≤ huge)
    (k : ∀ w', St E L w' → R (.returned (.bool (decide (l1 = l2)))) w') : Calls Try.prog 27 #[.slice s1.1 s1.2.1 s1.2.2, .slice s2.1 s2.2.1 s2.2.2] w R := by
  have n1 := tgs_len hm h r1
  have n2 := tgs_len hm h r2
  refine C_ref08_SameTargets ?_
  unfold T_ref08_SameTargets
  rw [← n1, ← n2, ne_dec]
  refine ite_d (fun hh => congB (k w h) ?_) fun hh => ?_
  · rw [decide_eq_false_iff_not]; rintro rfl; exact hh rfl
  have hll : l1.length = l2.length := by simp at hh; omega
  unfold T_ref08_SameTargets_1
  intro X hX
  refine up_to l1.length (Q := fun j => ∀ w, St E L w → decide (l1 = l2) = decide (l1.drop j = l2.drop j) → X (j : Int) w) ?_ w h rfl
  intro j hj ih w h he
  refine hX _ _ ?_
  unfold T_ref08_SameTargets_1_body
  refine ite_d (fun hc => ?_) fun hc => ?_
  · have hj1 : j < l1.length := by omega
    have hj2 : j < l2.length := by omega
    rw [drop_step hj1 hj2] at he
    intro w6
    have h6 := h.drew
    obtain ⟨a1, e1, _, d1⟩ := (r1.at h6 hm).elem tV_len (List.getElem?_eq_getElem hj1) (by decide)
    obtain ⟨a2, e2, _, d2⟩ := (r2.at h6 hm).elem tV_len (List.getElem?_eq_getElem hj2) (by decide)
    refine ⟨by omega, by omega, a1, e1, _, by rw [Int.toNat_natCast]; exact d1 0 _ rfl rfl, by omega, by omega, a2, e2, _, by rw [Int.toNat_natCast]; exact d2 0 _ rfl rfl, ?_⟩
    rw [str_beq]
    refine ite_n (fun h1 => ⟨trivial, trivial, congB (k _ h6) ?_⟩) fun h1 => ⟨by omega, by omega, a1, e1, _, by rw [Int.toNat_natCast]; exact d1 1 _ rfl rfl, by omega, by omega, a2, e2, _, by rw [Int.toNat_natCast]; exact d2 1 _ rfl rfl, runV_ok run_fbits ⟨_, rfl, ⟨by rw [Int.toNat_natCast]; exact d2 1 _ rfl rfl, trivial⟩, runV_ok run_fbits ⟨_, rfl, trivial, ?_⟩⟩⟩
    · rw [he, Bool.and_eq_false_iff]; refine .inl (decide_eq_false fun e => ?_)
      rw [e] at h1; simp at h1
    · rw [ne_dec]
      refine ite_d (fun h2 => congB (k _ h6) ?_) fun h2 => ?_
      · rw [he, Bool.and_eq_false_iff]; refine .inl (decide_eq_false fun e => ?_)
        rw [e] at h2; exact h2 rfl
      · rw [succ_huge (by omega)]
        refine ih hj1 _ h6 ?_
        rw [he]
        have e : l1[j] = l2[j] := by
          have h1' : l1[j].addr = l2[j].addr := by simpa using h1
          have h2' : l1[j].w = l2[j].w := by simp at h2; omega
          cases hh1 : l1[j]; cases hh2 : l2[j]; simp_all
        rw [decide_eq_true e, Bool.true_and]
  · have : j = l1.length := by omega
    subst this
    rw [List.drop_length, List.drop_of_length_le (by omega)] at he
    exact congB (k w h) (by rw [he]; rfl)
end
end Go.Vc

/-
  What commands come to, in lists alone, and what always holds of it. No program in sight.
-/
namespace Go.Cm

def plLt (a b : Pl) : Bool := decide (a.name < b.name)
def laLt (a b : Last) : Bool := decide (a.client < b.client)
/-- A list with one at its place (in the stead of what neither stands ahead of it nor behind). -/
def put {α : Type} (lt : α → α → Bool) (l : List α) (p : α) : List α := l.filter (fun a => lt a p) ++ p :: l.filter (fun a => lt p a)
def there (s : Sm) (n : Bs) : Bool := s.pools.any fun p => decide (p.name = n)
def used (s : Sm) (n : Bs) : Bool := s.routes.any fun r => decide (r.pool = n)
def isAt (h p : Bs) (r : Rt) : Bool := decide (r.host = h) && decide (r.pfx = p)
def known (s : Sm) (h p : Bs) : Bool := s.routes.any (isAt h p)
def butPool (s : Sm) (n : Bs) : List Pl := s.pools.filter fun p => !decide (p.name = n)
def butRoute (s : Sm) (h p : Bs) : List Rt := s.routes.filter fun r => !isAt h p r
def fit (s s' : Sm) : Sm × Int := if 12000 < (confB s'.pools s'.routes).length then (s, 6) else (s', 0)
def act (s : Sm) (x : Cmd) : Sm × Int :=
  if x.act = 1 then
    if !there s x.pool && decide (32 ≤ s.pools.length) then (s, 6)
    else fit s { s with pools := put plLt (butPool s x.pool) ⟨x.pool, x.tg⟩ }
  else if x.act = 2 then
    if !there s x.pool then (s, 8) else if used s x.pool then (s, 13) else fit s { s with pools := butPool s x.pool }
  else if x.act = 3 then
    if !there s x.pool then (s, 8) else if !known s x.host x.pfx && decide (64 ≤ s.routes.length) then (s, 6)
    else fit s { s with routes := put rtLt (butRoute s x.host x.pfx) ⟨x.host, x.pfx, x.pool⟩ }
  else if !known s x.host x.pfx then (s, 8) else fit s { s with routes := butRoute s x.host x.pfx }
def seenC (s : Sm) (k : Int) : Int × Int × Int := match s.l.find? fun x => decide (x.client = k) with
  | some x => (x.seq, x.e, x.ver)
  | none => (0, 0, 0)
def note (s : Sm) (x : Last) : Sm := { s with l := put laLt s.l x }
/-- The step itself: the state, the error. -/
def step (s : Sm) (x : Cmd) : Sm × Int :=
  if 0 ≤ x.expect ∧ x.expect ≠ s.ver then (s, 12) else if s.ver = 1099511627776 then (s, 6) else act s x
def vers (p : Sm × Int) : Int := if p.2 = 0 then p.1.ver + 1 else p.1.ver
def doC (s : Sm) (x : Cmd) : Sm × Int × Int :=
  if chk x ≠ 0 then (s, chk x, s.ver)
  else if 0 < x.client ∧ x.seq = (seenC s x.client).1 then (s, (seenC s x.client).2)
  else if 0 < x.client ∧ x.seq < (seenC s x.client).1 then (s, 12, s.ver)
  else
    let p := step s x
    (if 0 < x.client then note { p.1 with ver := vers p } ⟨x.client, x.seq, p.2, vers p⟩ else { p.1 with ver := vers p }, p.2, vers p)
def new : Sm := ⟨0, [], [], []⟩

/-! ### orders -/
theorem slt_irrefl (a : Bs) : ¬ a < a := List.lt_irrefl a
theorem slt_trans {a b c : Bs} (h : a < b) (k : b < c) : a < c := List.lt_trans h k
theorem slt_tri (a b : Bs) : a < b ∨ a = b ∨ b < a := by
  by_cases h : a < b
  · exact .inl h
  · by_cases k : b < a
    · exact .inr (.inr k)
    · exact .inr (.inl (List.le_antisymm (List.not_lt.1 k) (List.not_lt.1 h)))
/-- A strict order of all, up to 'same place'. -/
structure Ord {α : Type} (lt : α → α → Bool) (same : α → α → Bool) : Prop where
  irr : ∀ a b, same a b = true → lt a b = false
  tr : ∀ a b c, lt a b = true → lt b c = true → lt a c = true
  tri : ∀ a b, same a b = false → lt a b = true ∨ lt b a = true
  cong : ∀ a b c, same a b = true → lt a c = lt b c
  congr : ∀ a b c, same a b = true → lt c a = lt c b
  refl : ∀ a, same a a = true
def plSame (a b : Pl) : Bool := decide (a.name = b.name)
def rtSame (a b : Rt) : Bool := isAt b.host b.pfx a
def laSame (a b : Last) : Bool := decide (a.client = b.client)
theorem plOrd : Ord plLt plSame where
  irr a b h := by simp only [plSame, decide_eq_true_eq] at h; simp [plLt, h, slt_irrefl b.name]
  tr a b c h k := by simp only [plLt, decide_eq_true_eq] at *; exact slt_trans h k
  tri a b h := by
    simp only [plSame, decide_eq_false_iff_not] at h
    simp only [plLt, decide_eq_true_eq]
    rcases slt_tri a.name b.name with h1 | h1 | h1
    · exact .inl h1
    · exact absurd h1 h
    · exact .inr h1
  cong a b c h := by simp only [plSame, decide_eq_true_eq] at h; simp [plLt, h]
  congr a b c h := by simp only [plSame, decide_eq_true_eq] at h; simp [plLt, h]
  refl a := by simp [plSame]
theorem laOrd : Ord laLt laSame where
  irr a b h := by simp only [laSame, decide_eq_true_eq] at h; simp [laLt, h]
  tr a b c h k := by simp only [laLt, decide_eq_true_eq] at *; omega
  tri a b h := by
    simp only [laSame, decide_eq_false_iff_not] at h
    simp only [laLt, decide_eq_true_eq]; omega
  cong a b c h := by simp only [laSame, decide_eq_true_eq] at h; simp [laLt, h]
  congr a b c h := by simp only [laSame, decide_eq_true_eq] at h; simp [laLt, h]
  refl a := by simp [laSame]
theorem rtOrd : Ord rtLt rtSame where
  irr a b h := by
    simp only [rtSame, isAt, Bool.and_eq_true, decide_eq_true_eq] at h
    have h1 := slt_irrefl b.host; have h2 := slt_irrefl b.pfx
    simp [rtLt, h.1, h.2, h1, h2]
  tr a b c h k := by
    simp only [rtLt, Bool.or_eq_true, Bool.and_eq_true, decide_eq_true_eq] at *
    rcases h with h | ⟨h, h'⟩ <;> rcases k with k | ⟨k, k'⟩
    · exact .inl (slt_trans h k)
    · exact .inl (k ▸ h)
    · exact .inl (h ▸ k)
    · exact .inr ⟨h.trans k, slt_trans h' k'⟩
  tri a b h := by
    simp only [rtSame, isAt, Bool.and_eq_false_iff, decide_eq_false_iff_not] at h
    simp only [rtLt, Bool.or_eq_true, Bool.and_eq_true, decide_eq_true_eq]
    rcases slt_tri a.host b.host with h1 | h1 | h1
    · exact .inl (.inl h1)
    · rcases slt_tri a.pfx b.pfx with h2 | h2 | h2
      · exact .inl (.inr ⟨h1, h2⟩)
      · rcases h with h | h
        · exact absurd h1 h
        · exact absurd h2 h
      · exact .inr (.inr ⟨h1.symm, h2⟩)
    · exact .inr (.inl h1)
  cong a b c h := by
    simp only [rtSame, isAt, Bool.and_eq_true, decide_eq_true_eq] at h
    simp [rtLt, h.1, h.2]
  congr a b c h := by
    simp only [rtSame, isAt, Bool.and_eq_true, decide_eq_true_eq] at h
    simp [rtLt, h.1, h.2]
  refl a := by simp [rtSame, isAt]

section
variable {α : Type} {lt same : α → α → Bool}
theorem rises_iff (O : Ord lt same) : ∀ l : List α, rises lt l = true ↔ l.Pairwise fun a b => lt a b = true
  | [] => by simp [rises]
  | [a] => by simp [rises]
  | a :: b :: r => by
    rw [rises, Bool.and_eq_true, rises_iff O (b :: r), List.pairwise_cons (l := b :: r)]
    constructor
    · rintro ⟨h1, h2⟩
      refine ⟨fun c hc => ?_, h2⟩
      rcases List.mem_cons.1 hc with rfl | hc
      · exact h1
      · exact O.tr _ _ _ h1 ((List.pairwise_cons.1 h2).1 c hc)
    · rintro ⟨h1, h2⟩
      exact ⟨h1 b (by simp), h2⟩
theorem put_rises (O : Ord lt same) {l : List α} (h : rises lt l = true) (p : α) : rises lt (put lt l p) = true := by
  rw [rises_iff O] at *
  unfold put
  rw [List.pairwise_append, List.pairwise_cons]
  refine ⟨h.filter _, ⟨fun a ha => (List.mem_filter.1 ha).2, h.filter _⟩, fun a ha b hb => ?_⟩
  have ha := (List.mem_filter.1 ha).2
  rcases List.mem_cons.1 hb with rfl | hb
  · exact ha
  · exact O.tr _ _ _ ha (List.mem_filter.1 hb).2
theorem filter_rises (O : Ord lt same) {l : List α} (h : rises lt l = true) (f : α → Bool) : rises lt (l.filter f) = true := by
  rw [rises_iff O] at *; exact h.filter _
theorem put_perm (O : Ord lt same) (l : List α) (p : α) : (put lt l p).Perm (p :: l.filter fun a => !same a p) := by
  unfold put
  refine List.perm_middle.trans (List.Perm.cons p ?_)
  have hc : ∀ a : α, (!same a p) = (lt a p || lt p a) ∧ ¬ (lt a p = true ∧ lt p a = true) := fun a => by
    cases hs : same a p
    · constructor
      · rcases O.tri a p hs with h | h <;> simp [h]
      · rintro ⟨h1, h2⟩
        have := O.tr _ _ _ h1 h2
        rw [O.irr a a (O.refl a)] at this; cases this
    · rw [O.irr a p hs, show lt p a = false from by rw [O.congr a p p hs]; exact O.irr p p (O.refl p)]
      simp
  induction l with
  | nil => simp
  | cons a l ih =>
    obtain ⟨h1, h2⟩ := hc a
    simp only [List.filter_cons, h1]
    cases ha : lt a p <;> cases hb : lt p a
    · simpa using ih
    · simp only [Bool.false_or, if_true, if_false, Bool.false_eq_true]
      exact List.perm_middle.trans (List.Perm.cons a ih)
    · simp only [Bool.or_false, if_true, if_false, Bool.false_eq_true]
      exact List.Perm.cons a ih
    · exact absurd ⟨ha, hb⟩ h2
end

/-! ### what always holds -/
structure Inv (s : Sm) : Prop where
  v0 : 0 ≤ s.ver
  v1 : s.ver ≤ 1099511627776
  pl : ∀ p ∈ s.pools, isName p.name = true ∧ chkT p.tg = 0
  pr : rises plLt s.pools = true
  pn : s.pools.length ≤ 32
  rt : ∀ r ∈ s.routes, there s r.pool = true ∧ isHost r.host = true ∧ isPfx r.pfx = true
  rr : rises rtLt s.routes = true
  rn : s.routes.length ≤ 64
  la : ∀ x ∈ s.l, (1 ≤ x.client ∧ x.client ≤ 32) ∧ (1 ≤ x.seq ∧ x.seq ≤ 1099511627776) ∧ told x.e = true ∧ 0 ≤ x.ver ∧ x.ver ≤ s.ver
  lr : rises laLt s.l = true
  sz : (confB s.pools s.routes).length ≤ 12000
theorem Inv.new : Inv new := ⟨by decide, by decide, by simp [Cm.new], rfl, by decide, by simp [Cm.new], rfl, by decide, by simp [Cm.new], rfl, by decide⟩
theorem fit_cases (s s' : Sm) : fit s s' = (s, 6) ∨ (fit s s' = (s', 0) ∧ (confB s'.pools s'.routes).length ≤ 12000) := by
  unfold fit
  split
  · exact .inl rfl
  · exact .inr ⟨rfl, by omega⟩
theorem filter_ne_len {α : Type} {l : List α} {f : α → Bool} {a : α} (ha : a ∈ l) (hf : f a = false) : (l.filter f).length + 1 ≤ l.length := by
  induction l with
  | nil => cases ha
  | cons b r ih =>
    rcases List.mem_cons.1 ha with rfl | ha
    · rw [List.filter_cons, hf]; simp [List.length_filter_le]
    · have := ih ha
      rw [List.filter_cons]; split <;> simp <;> omega
theorem act_keeps {s : Sm} (I : Inv s) {x : Cmd} (hx : chk x = 0) : Inv (act s x).1 ∧ (act s x).1.ver = s.ver ∧ (act s x).1.l = s.l ∧ ((act s x).2 ≠ 0 → (act s x).1 = s) ∧ told (act s x).2 = true := by
  have F := chk_fine hx
  obtain ⟨_, hnb, _⟩ := chk_zero hx
  simp only [nameBad, Bool.or_eq_false_iff] at hnb
  have keep : ∀ e : Int, told e = true → Inv (s, e).1 ∧ (s, e).1.ver = s.ver ∧ (s, e).1.l = s.l ∧ ((s, e).2 ≠ 0 → (s, e).1 = s) ∧ told (s, e).2 = true := fun e he => ⟨I, rfl, rfl, fun _ => rfl, he⟩
  have fits : ∀ s' : Sm, s'.ver = s.ver → s'.l = s.l → ((confB s'.pools s'.routes).length ≤ 12000 → Inv s') →
      Inv (fit s s').1 ∧ (fit s s').1.ver = s.ver ∧ (fit s s').1.l = s.l ∧ ((fit s s').2 ≠ 0 → (fit s s').1 = s) ∧ told (fit s s').2 = true := fun s' h1 h2 h3 => by
    rcases fit_cases s s' with e | ⟨e, hl⟩
    · rw [e]; exact keep 6 rfl
    · rw [e]; exact ⟨h3 hl, h1, h2, fun h => absurd rfl h, rfl⟩
  have plen : ∀ n, there s n = true → (butPool s n).length + 1 ≤ s.pools.length := fun n h => by
    obtain ⟨p, hp, hpn⟩ := List.any_eq_true.1 h
    exact filter_ne_len hp (by simpa using hpn)
  have rlen : ∀ h q, known s h q = true → (butRoute s h q).length + 1 ≤ s.routes.length := fun h q hk => by
    obtain ⟨p, hp, hpn⟩ := List.any_eq_true.1 hk
    exact filter_ne_len hp (by simpa using hpn)
  unfold act
  split
  · rename_i ha
    split
    · exact keep 6 rfl
    · rename_i hn
      refine fits _ rfl rfl fun hl => ?_
      have hname : isName x.pool = true := by have := hnb.1; simp [usesPool, ha] at this; exact this
      have hmem : ∀ p ∈ put plLt (butPool s x.pool) ⟨x.pool, x.tg⟩, p = ⟨x.pool, x.tg⟩ ∨ p ∈ s.pools := fun p hp => by
        rw [(put_perm plOrd _ _).mem_iff] at hp
        rcases List.mem_cons.1 hp with h | h
        · exact .inl h
        · exact .inr (List.mem_filter.1 (List.mem_filter.1 h).1).1
      refine { I with pl := fun p hp => ?_, pr := put_rises plOrd (filter_rises plOrd I.pr _) _, pn := ?_, rt := fun r hr => ?_, sz := hl }
      · rcases hmem p hp with rfl | h
        · exact ⟨hname, F.t⟩
        · exact I.pl p h
      · have hp := (put_perm plOrd (butPool s x.pool) ⟨x.pool, x.tg⟩).length_eq
        simp only [List.length_cons] at hp
        have h1 : (((butPool s x.pool).filter fun a => !plSame a ⟨x.pool, x.tg⟩)).length ≤ (butPool s x.pool).length := List.length_filter_le ..
        show (put plLt (butPool s x.pool) ⟨x.pool, x.tg⟩).length ≤ 32
        cases ht : there s x.pool
        · have h2 : (butPool s x.pool).length ≤ s.pools.length := List.length_filter_le ..
          have : s.pools.length < 32 := by simpa [ht] using hn
          omega
        · have := plen _ ht; have := I.pn; omega
      · obtain ⟨h1, h2⟩ := I.rt r hr
        refine ⟨?_, h2⟩
        obtain ⟨p, hp, hpn⟩ := List.any_eq_true.1 h1
        have hpn' : p.name = r.pool := by simpa using hpn
        refine List.any_eq_true.2 ?_
        by_cases hx : p.name = x.pool
        · exact ⟨⟨x.pool, x.tg⟩, (put_perm plOrd _ _).mem_iff.2 List.mem_cons_self, by simp [← hx, hpn']⟩
        · refine ⟨p, (put_perm plOrd _ _).mem_iff.2 (List.mem_cons_of_mem _ (List.mem_filter.2 ⟨List.mem_filter.2 ⟨hp, by simp [hx]⟩, by simp [plSame, hx]⟩)), hpn⟩
  · rename_i ha1
    split
    · rename_i ha
      split
      · exact keep 8 rfl
      · split
        · exact keep 13 rfl
        · rename_i hu
          refine fits _ rfl rfl fun hl => ?_
          refine { I with pl := fun p hp => I.pl p (List.mem_filter.1 hp).1, pr := filter_rises plOrd I.pr _, pn := ?_, rt := fun r hr => ?_, sz := hl }
          · exact Nat.le_trans (List.length_filter_le ..) I.pn
          · obtain ⟨h1, h2⟩ := I.rt r hr
            refine ⟨?_, h2⟩
            obtain ⟨p, hp, hpn⟩ := List.any_eq_true.1 h1
            have hpn' : p.name = r.pool := by simpa using hpn
            refine List.any_eq_true.2 ⟨p, List.mem_filter.2 ⟨hp, ?_⟩, hpn⟩
            have : ¬ r.pool = x.pool := fun e => hu (List.any_eq_true.2 ⟨r, hr, by simpa using e⟩)
            simpa [hpn'] using this
    · split
      · rename_i ha
        split
        · exact keep 8 rfl
        · rename_i hth
          split
          · exact keep 6 rfl
          · rename_i hn
            refine fits _ rfl rfl fun hl => ?_
            have hrt : isHost x.host = true ∧ isPfx x.pfx = true := by have := hnb.2; simp [usesRoute, ha] at this; exact this
            have hmem : ∀ r ∈ put rtLt (butRoute s x.host x.pfx) ⟨x.host, x.pfx, x.pool⟩, r = ⟨x.host, x.pfx, x.pool⟩ ∨ r ∈ s.routes := fun p hp => by
              rw [(put_perm rtOrd _ _).mem_iff] at hp
              rcases List.mem_cons.1 hp with h | h
              · exact .inl h
              · exact .inr (List.mem_filter.1 (List.mem_filter.1 h).1).1
            refine { I with rt := fun r hr => ?_, rr := put_rises rtOrd (filter_rises rtOrd I.rr _) _, rn := ?_, sz := hl }
            · rcases hmem r hr with rfl | h
              · exact ⟨(by simpa using hth : there s x.pool = true), hrt⟩
              · exact I.rt r h
            · have hp := (put_perm rtOrd (butRoute s x.host x.pfx) ⟨x.host, x.pfx, x.pool⟩).length_eq
              simp only [List.length_cons] at hp
              have h1 : (((butRoute s x.host x.pfx).filter fun a => !rtSame a ⟨x.host, x.pfx, x.pool⟩)).length ≤ (butRoute s x.host x.pfx).length := List.length_filter_le ..
              show (put rtLt (butRoute s x.host x.pfx) ⟨x.host, x.pfx, x.pool⟩).length ≤ 64
              cases ht : known s x.host x.pfx
              · have h2 : (butRoute s x.host x.pfx).length ≤ s.routes.length := List.length_filter_le ..
                have : s.routes.length < 64 := by simpa [ht] using hn
                omega
              · have := rlen _ _ ht; have := I.rn; omega
      · split
        · exact keep 8 rfl
        · refine fits _ rfl rfl fun hl => ?_
          exact { I with rt := fun r hr => I.rt r (List.mem_filter.1 hr).1, rr := filter_rises rtOrd I.rr _, rn := Nat.le_trans (List.length_filter_le ..) I.rn, sz := hl }
theorem step_keeps {s : Sm} (I : Inv s) {x : Cmd} (hx : chk x = 0) : Inv (step s x).1 ∧ (step s x).1.ver = s.ver ∧ (step s x).1.l = s.l ∧ ((step s x).2 ≠ 0 → (step s x).1 = s) ∧ told (step s x).2 = true ∧ ((step s x).2 = 0 → s.ver < 1099511627776) := by
  unfold step
  split
  · exact ⟨I, rfl, rfl, fun _ => rfl, rfl, fun h => by cases h⟩
  · split
    · exact ⟨I, rfl, rfl, fun _ => rfl, rfl, fun h => by cases h⟩
    · rename_i hv
      obtain ⟨h1, h2, h3, h4, h5⟩ := act_keeps I hx
      exact ⟨h1, h2, h3, h4, h5, fun _ => by have := I.v1; omega⟩
theorem Inv.up {s : Sm} (I : Inv s) {v : Int} (h1 : s.ver ≤ v) (h2 : v ≤ 1099511627776) : Inv { s with ver := v } :=
  { I with v0 := by have := I.v0; simp; omega, v1 := h2, la := fun x hx => (I.la x hx).imp id fun h => h.imp id fun h => h.imp id fun h => h.imp id fun h => by simp; omega }
theorem Inv.note {s : Sm} (I : Inv s) {x : Last} (h1 : 1 ≤ x.client ∧ x.client ≤ 32) (h2 : 1 ≤ x.seq ∧ x.seq ≤ 1099511627776) (h3 : told x.e = true) (h4 : 0 ≤ x.ver ∧ x.ver ≤ s.ver) : Inv (Cm.note s x) :=
  { I with lr := put_rises laOrd I.lr _, la := fun y hy => (List.mem_cons.1 ((put_perm laOrd _ _).mem_iff.1 hy)).elim (fun e => by subst e; exact ⟨h1, h2, h3, h4⟩) (fun h => I.la y (List.mem_filter.1 h).1) }
theorem vers_ok {s : Sm} (I : Inv s) {x : Cmd} (hx : chk x = 0) : s.ver ≤ vers (step s x) ∧ vers (step s x) ≤ 1099511627776 ∧ vers (step s x) = if (step s x).2 = 0 then s.ver + 1 else s.ver := by
  obtain ⟨h1, h2, h3, h4, h5, h6⟩ := step_keeps I hx
  have := I.v1
  unfold vers
  split
  · rename_i h; have := h6 h; omega
  · omega
theorem doC_keeps {s : Sm} (I : Inv s) (x : Cmd) : Inv (doC s x).1 := by
  unfold doC
  split
  · exact I
  · rename_i hx
    have hx : chk x = 0 := by simpa using hx
    split
    · exact I
    · split
      · exact I
      · obtain ⟨h1, h2, h3, h4, h5, h6⟩ := step_keeps I hx
        obtain ⟨v1, v2, _⟩ := vers_ok I hx
        have I2 := h1.up (v := vers (step s x)) (by omega) v2
        have F := chk_fine hx
        show Inv (if 0 < x.client then _ else _)
        split
        · rename_i hc
          have hs : 1 ≤ x.seq := by
            obtain ⟨ha, _, _⟩ := chk_zero hx
            simp only [argBad, Bool.or_eq_false_iff] at ha
            have := ha.1.1.1.1.1.2
            simp only [Bool.not_eq_false', seqOk] at this
            rw [if_neg (by omega)] at this
            simp at this; omega
          exact I2.note ⟨by simp; omega, F.cl.2⟩ ⟨hs, F.sq.2⟩ h5 ⟨by have := I.v0; simp; omega, by simp⟩
        · exact I2
/-! ### a store's bytes -/
theorem Inv.right {s : Sm} (I : Inv s) : right s = true := by
  simp only [Cm.right, Bool.and_eq_true, decide_eq_true_eq]
  refine ⟨⟨⟨⟨?_, I.pr⟩, ?_, I.rr⟩, ?_, I.lr⟩, I.sz⟩
  · exact List.all_eq_true.2 fun p hp => by simp [I.pl p hp]
  · refine List.all_eq_true.2 fun r hr => ?_
    obtain ⟨h1, h2, h3⟩ := I.rt r hr
    have h1 : (s.pools.any fun p => decide (p.name = r.pool)) = true := h1
    rw [h1, h2, h3]; rfl
  · refine List.all_eq_true.2 fun x hx => ?_
    obtain ⟨h1, h2, h3, h4, h5⟩ := I.la x hx
    simp [rightL, h1, h2.1, h3, h5]
end Go.Cm

/-
  What is taken away makes no bytes more; what maps come to is what lists come to.
-/
namespace Go.Cm
theorem num_one {n : Nat} (h : n < 128) : (num n).length = 1 := by
  unfold num
  rw [if_neg (by omega), Int.toNat_natCast]
  unfold encNF
  rw [if_pos h]; rfl
theorem flat_sub {α : Type} {f : α → Bs} {l l' : List α} (h : l.Sublist l') : (l.flatMap f).length ≤ (l'.flatMap f).length := by
  induction h with
  | slnil => simp
  | cons a _ ih => simp only [List.flatMap_cons, List.length_append]; omega
  | cons_cons a _ ih => simp only [List.flatMap_cons, List.length_append]; omega
theorem confB_sub {p p' : List Pl} {r r' : List Rt} (hp : p.Sublist p') (hr : r.Sublist r') (h1 : p'.length ≤ 32) (h2 : r'.length ≤ 64) : (confB p r).length ≤ (confB p' r').length := by
  have a1 := hp.length_le; have a2 := hr.length_le
  have b1 := flat_sub (f := plB) hp; have b2 := flat_sub (f := rtB) hr
  simp only [confB, List.length_append]
  rw [num_one (n := p.length) (by omega), num_one (n := p'.length) (by omega), num_one (n := r.length) (by omega), num_one (n := r'.length) (by omega)]
  omega
theorem fit_butPool {s : Sm} (I : Inv s) (n : Bs) : fit s { s with pools := butPool s n } = ({ s with pools := butPool s n }, 0) := by
  unfold fit
  have := confB_sub (p := butPool s n) (r := s.routes) List.filter_sublist (List.Sublist.refl _) I.pn I.rn
  rw [if_neg (by have := I.sz; simp only; omega)]
theorem fit_butRoute {s : Sm} (I : Inv s) (h p : Bs) : fit s { s with routes := butRoute s h p } = ({ s with routes := butRoute s h p }, 0) := by
  unfold fit
  have := confB_sub (p := s.pools) (r := butRoute s h p) (List.Sublist.refl _) List.filter_sublist I.pn I.rn
  rw [if_neg (by have := I.sz; simp only; omega)]
theorem put_but_perm {s : Sm} (x : Pl) : (put plLt (butPool s x.name) x).Perm (x :: butPool s x.name) := by
  refine (put_perm plOrd _ _).trans (List.Perm.cons _ ?_)
  rw [List.filter_eq_self.2 fun a ha => ?_]
  have := (List.mem_filter.1 ha).2
  simpa [plSame] using this
theorem put_butR_perm {s : Sm} (x : Rt) : (put rtLt (butRoute s x.host x.pfx) x).Perm (x :: butRoute s x.host x.pfx) := by
  refine (put_perm rtOrd _ _).trans (List.Perm.cons _ ?_)
  rw [List.filter_eq_self.2 fun a ha => ?_]
  have := (List.mem_filter.1 ha).2
  simpa [rtSame] using this
end Go.Cm

/-
  The program's store: three maps that hold what the lists hold; New, the configuration's bytes.
-/
namespace Go.Vc
open Go Go.Proofs Go.Proofs.Ytcpmfjclkdjfmaa
set_option maxRecDepth 100000

theorem KeyLaw.comap {κ κ' : Type} [DecidableEq κ] [DecidableEq κ'] {P : Program} {t : TypeId} {d : TypeDesc} {kv : κ → Value} (K : KeyLaw P t d kv) (f : κ' → κ) (hf : ∀ a b, f a = f b → a = b) : KeyLaw P t d (fun a => kv (f a)) where
  und := K.und
  eq a b w := by rw [K.eq]; congr 1; exact decide_eq_decide.2 ⟨hf a b, congrArg f⟩
  chk a e w := K.chk (f a) e w
  now a b r h := by rw [K.now _ _ _ h]; exact decide_eq_decide.2 ⟨hf a b, congrArg f⟩
  bits a := K.bits (f a)
theorem strLaw : KeyLaw Try.prog 9 .string encS := KeyLaw.comap (keyLaw_string (t := 9) (by kernel_rfl)) bs fun _ _ h => bs_inj h
theorem intLaw : KeyLaw Try.prog 3 (.int .i64) encI := keyLaw_int (t := 3) (by kernel_rfl)
theorem placeLaw : KeyLaw Try.prog 75 (.struct #[⟨ "host", 9, 0, false, "", "tollgate/conf", 0⟩, ⟨ "prefix", 9, 1, false, "", "tollgate/conf", 16⟩]) encP :=
  KeyLaw.comap (keyLaw_str2 (P := Try.prog) (t := 75) (by kernel_rfl) (by kernel_rfl) (by kernel_rfl) (by decide) (by decide) rfl rfl (by kernel_rfl)) (fun x : Pr => (bs x.1, bs x.2))
    fun a b h => by simp only [Prod.mk.injEq] at h; exact Prod.ext (bs_inj h.1) (bs_inj h.2)
theorem und_pools : Try.prog.underlying 59 = some (.map 9 26) := by kernel_rfl
theorem und_routes : Try.prog.underlying 60 = some (.map 75 9) := by kernel_rfl
theorem und_clients : Try.prog.underlying 61 = some (.map 3 79) := by kernel_rfl
theorem tm_tgs : tmpl Try.prog 26 = some (.slice none 0 0) := by kernel_rfl
theorem tm_str : tmpl Try.prog 9 = some (.string (ByteArray.mk #[])) := by kernel_rfl
theorem tm_seen : tmpl Try.prog 79 = some (.agg #[.int .i64 0, .int .i64 0, .int .i64 0]) := by kernel_rfl

abbrev PV := Sl × List Cm.Tgt
def pvV (v : PV) : Value := .slice v.1.1 v.1.2.1 v.1.2.2
abbrev LV := Int × Int × Int
def lvV (v : LV) : Value := .agg #[.int .i64 v.1, .int .i64 v.2.1, .int .i64 v.2.2]
def plOf (e : Cm.Bs × PV) : Cm.Pl := ⟨e.1, e.2.2⟩
def rtK (r : Cm.Rt) : Pr × Cm.Bs := ((r.host, r.pfx), r.pool)
def laK (x : Cm.Last) : Int × LV := (x.client, x.seq, x.e, x.ver)
def goodP (F : Fz) (v : PV) : Prop := RdF F v.1.1 v.1.2.1 2 (v.2.flatMap tV)
def poolsR (F : Fz) (M : List (Cm.Bs × PV)) (ps : List Cm.Pl) : Prop := (∀ e ∈ M, goodP F e.2) ∧ (M.map plOf).Perm ps
def routesR (M : List (Pr × Cm.Bs)) (rs : List Cm.Rt) : Prop := M.Perm (rs.map rtK)
def clientsR (M : List (Int × LV)) (ls : List Cm.Last) : Prop := M.Perm (ls.map laK)
def stL (v : Int) (mp mr mc : Nat) : List Value := [.int .i64 v, .map (some mp), .map (some mr), .map (some mc)]
/-- The store at p is s. -/
def stA (F : Fz) (p : Nat) (s : Cm.Sm) : Asrt := fun h => ∃ (x : Nat × Nat × Nat × List (Cm.Bs × PV) × List (Pr × Cm.Bs) × List (Int × LV)), poolsR F x.2.2.2.1 s.pools ∧ routesR x.2.2.2.2.1 s.routes ∧ clientsR x.2.2.2.2.2 s.l ∧
  seps [blkL p 63 (stL s.ver x.1 x.2.1 x.2.2.1), mapA x.1 encS pvV x.2.2.2.1, mapA x.2.1 encP encS x.2.2.2.2.1, mapA x.2.2.1 encI lvV x.2.2.2.2.2] h
section
variable {E w : World} {L : List Asrt} {R : Ending → World → Prop} {F G : Fz} {p : Nat} {s : Cm.Sm}
abbrev st4 (p : Nat) (v : Int) (mp mr mc : Nat) (Mp : List (Cm.Bs × PV)) (Mr : List (Pr × Cm.Bs)) (Mc : List (Int × LV)) (L : List Asrt) : List Asrt :=
  blkL p 63 (stL v mp mr mc) :: mapA mp encS pvV Mp :: mapA mr encP encS Mr :: mapA mc encI lvV Mc :: L
theorem St.st_open (h : St E (stA F p s :: L) w) : ∃ mp mr mc Mp Mr Mc, poolsR F Mp s.pools ∧ routesR Mr s.routes ∧ clientsR Mc s.l ∧ St E (st4 p s.ver mp mr mc Mp Mr Mc L) w := by
  obtain ⟨en, x, ⟨h1, h2, d, rfl, ⟨y, ho1, ho2, ho3, hs⟩, hL⟩, hl⟩ := h
  exact ⟨_, _, _, _, _, _, ho1, ho2, ho3, St.open_ (L1 := [_, _, _, _]) ⟨en, _, ⟨h1, h2, d, rfl, hs, hL⟩, hl⟩⟩
theorem St.st_mk {mp mr mc : Nat} {Mp : List (Cm.Bs × PV)} {Mr : List (Pr × Cm.Bs)} {Mc : List (Int × LV)} (hp : poolsR F Mp s.pools) (hr : routesR Mr s.routes) (hc : clientsR Mc s.l) (h : St E (st4 p s.ver mp mr mc Mp Mr Mc L) w) : St E (stA F p s :: L) w :=
  (St.shut (L1 := [_, _, _, _]) h).mono fun _ hx => ⟨(mp, mr, mc, Mp, Mr, Mc), hp, hr, hc, hx⟩
theorem poolsR.mono {M : List (Cm.Bs × PV)} {ps : List Cm.Pl} (h : poolsR F M ps) (k : Fz.le F G) : poolsR G M ps := ⟨fun e he => RdF.mono (h.1 e he) k, h.2⟩
theorem St.st_mono (h : St E (stA F p s :: L) w) (k : Fz.le F G) : St E (stA G p s :: L) w := h.mono fun _ ⟨y, h1, h2, h3, h4⟩ => ⟨y, h1.mono k, h2, h3, h4⟩

theorem mget_mem {κ ν : Type} [DecidableEq κ] : ∀ {m : List (κ × ν)}, (m.map (·.1)).Nodup → ∀ {e : κ × ν}, e ∈ m → mget m e.1 = some e.2
  | [], _, _, h => by cases h
  | p :: r, hn, e, h => by
    rw [mget_cons]
    rw [List.map_cons, List.nodup_cons] at hn
    rcases List.mem_cons.1 h with rfl | h
    · simp
    · rw [if_neg (fun he : p.1 = e.1 => hn.1 (by rw [he]; exact List.mem_map_of_mem h)), mget_mem hn.2 h]
theorem St.nodup {κ ν : Type} [DecidableEq κ] {b : Nat} {kv : κ → Value} {vv : ν → Value} {m : List (κ × ν)} (h : St E (mapA b kv vv m :: L) w) : (m.map (·.1)).Nodup := by
  obtain ⟨_, _, _, _, hn, _⟩ := h.mapA_open
  exact hn
theorem mget_none_iff {κ ν : Type} [DecidableEq κ] {m : List (κ × ν)} {a : κ} : mget m a = none ↔ a ∉ m.map (·.1) := by
  refine ⟨fun h hm => ?_, mget_none_of⟩
  induction m with
  | nil => cases hm
  | cons e r ih =>
    rw [mget_cons] at h
    split at h
    · cases h
    · rename_i hne
      rcases List.mem_cons.1 hm with he | he
      · exact hne he.symm
      · exact ih h he
theorem mget_some {κ ν : Type} [DecidableEq κ] {m : List (κ × ν)} {a : κ} {v : ν} (h : mget m a = some v) : (a, v) ∈ m := by
  induction m with
  | nil => cases h
  | cons e r ih =>
    rw [mget_cons] at h
    split at h
    · rename_i he
      cases h
      exact List.mem_cons.2 (.inl (by rw [← he]))
    · exact List.mem_cons_of_mem _ (ih h)

/-- New: P8.2. -/
theorem New_spec (F : Fz) (h : St E L w) (k : ∀ p w', St E (stA F p Cm.new :: L) w' → R (.returned (.pointer (some ⟨p, 0, none⟩))) w') : Calls Try.prog 7 #[] w R := by
  refine C_conf_New ?_
  unfold T_conf_New
  intro w1 w2 w3 w4
  have h1 : St E (mapA w.heap.size encS pvV [] :: L) w1 := h.mapA_new encS pvV
  have h2 : St E (mapA w1.heap.size encP encS [] :: mapA w.heap.size encS pvV [] :: L) w2 := h1.mapA_new encP encS
  have h3 : St E (mapA w2.heap.size encI lvV [] :: mapA w1.heap.size encP encS [] :: mapA w.heap.size encS pvV [] :: L) w3 := h2.mapA_new encI lvV
  have h4 := h3.alloc (.cells #[.int .i64 0, .map (some w.heap.size), .map (some w1.heap.size), .map (some w2.heap.size)] 63)
  exact k _ _ (St.st_mk (mp := w.heap.size) (mr := w1.heap.size) (mc := w2.heap.size) (Mp := []) (Mr := []) (Mc := []) ⟨(fun e he => nomatch he), List.Perm.nil⟩ List.Perm.nil List.Perm.nil (h4.sel 4 [0, 3, 2, 1]))

/-- What a store's lists must be that its bytes can be laid. -/
structure Sz (s : Cm.Sm) : Prop where
  pl : ∀ p ∈ s.pools, p.name.length ≤ 128 ∧ shortTs p.tg
  pr : Cm.rises Cm.plLt s.pools = true
  pn : s.pools.length ≤ 64
  rt : ∀ r ∈ s.routes, r.host.length ≤ 128 ∧ r.pfx.length ≤ 128 ∧ r.pool.length ≤ 128
  rr : Cm.rises Cm.rtLt s.routes = true
  rn : s.routes.length ≤ 128
theorem short_of {l : List Cm.Tgt} (h : Cm.chkT l = 0) : shortTs l := ⟨(Cm.chkT_zero h).2, fun t ht => by
  have := Cm.chkT_good h t ht
  exact ⟨this.1, this.2⟩⟩
theorem Sz.of {s : Cm.Sm} (I : Cm.Inv s) : Sz s :=
  ⟨fun p hp => ⟨by have := Cm.name_len (I.pl p hp).1; omega, short_of (I.pl p hp).2⟩, I.pr, by have := I.pn; omega,
   fun r hr => ⟨by have := Cm.host_len (I.rt r hr).2.1; omega, by have := Cm.pfx_len (I.rt r hr).2.2; omega, by
     have := (I.rt r hr).1
     simp only [Cm.there, List.any_eq_true, decide_eq_true_eq] at this
     obtain ⟨p, hp, hn⟩ := this
     have := Cm.name_len (I.pl p hp).1
     rw [← hn]; omega⟩, I.rr, by have := I.rn; omega⟩
theorem tgsMax_short {l : List Cm.Tgt} (h : shortTs l) : tgsMax l ≤ 2278 := by
  have key : ∀ l : List Cm.Tgt, (∀ t ∈ l, t.addr.length ≤ 128) → (l.map fun t => 14 + t.addr.length).sum ≤ l.length * 142 := by
    intro l
    induction l with
    | nil => intro _; simp
    | cons a r ih =>
      intro hl
      have := ih fun t ht => hl t (List.mem_cons_of_mem _ ht)
      have := hl a List.mem_cons_self
      simp only [List.map_cons, List.sum_cons, List.length_cons]; omega
  have := key l fun t ht => (h.2 t ht).1
  have := h.1
  unfold tgsMax; omega
theorem tgs_max (l : List Cm.Tgt) : (Cm.tgs l).length ≤ tgsMax l := by
  have := flat_tgt_len l
  have := num_len l.length
  unfold tgsMax
  simp only [Cm.tgs, List.length_append]; omega
theorem flat_max {α : Type} {f : α → Cm.Bs} {c : Nat} : ∀ {l : List α}, (∀ a ∈ l, (f a).length ≤ c) → (l.flatMap f).length ≤ l.length * c
  | [], _ => by simp
  | a :: r, h => by
    have := flat_max (l := r) fun b hb => h b (List.mem_cons_of_mem _ hb)
    have := h a List.mem_cons_self
    rw [List.flatMap_cons, List.length_append, List.length_cons, Nat.add_mul]; omega
theorem plB_len {x : Cm.Pl} (h : x.name.length ≤ 128 ∧ shortTs x.tg) : (Cm.plB x).length ≤ 2412 := by
  have := text_len x.name
  have := tgs_max x.tg
  have := tgsMax_short h.2
  have := h.1
  simp only [Cm.plB, List.length_append]; omega
theorem rtB_len {x : Cm.Rt} (h : x.host.length ≤ 128 ∧ x.pfx.length ≤ 128 ∧ x.pool.length ≤ 128) : (Cm.rtB x).length ≤ 402 := by
  have := text_len x.host
  have := text_len x.pfx
  have := text_len x.pool
  obtain ⟨h1, h2, h3⟩ := h
  simp only [Cm.rtB, List.length_append]; omega
theorem take_all {α : Type} {P : α → Prop} {l : List α} (h : ∀ a ∈ l, P a) (j : Nat) : ∀ a ∈ l.take j, P a := fun a ha => h a (List.mem_of_mem_take ha)
theorem pls_len (S : Sz s) (j : Nat) : ((s.pools.take j).flatMap Cm.plB).length ≤ 154368 := by
  have h1 := flat_max (f := Cm.plB) (c := 2412) fun a ha => plB_len (take_all S.pl j a ha)
  have h2 : (s.pools.take j).length ≤ 64 := by have := S.pn; simp; omega
  have : (s.pools.take j).length * 2412 ≤ 64 * 2412 := Nat.mul_le_mul_right _ h2
  omega
theorem rts_len (S : Sz s) (j : Nat) : ((s.routes.take j).flatMap Cm.rtB).length ≤ 51456 := by
  have h1 := flat_max (f := Cm.rtB) (c := 402) fun a ha => rtB_len (take_all S.rt j a ha)
  have h2 : (s.routes.take j).length ≤ 128 := by have := S.rn; simp; omega
  have : (s.routes.take j).length * 402 ≤ 128 * 402 := Nat.mul_le_mul_right _ h2
  omega
/-- The pools' names, the routes' places, in their order. -/
def nmK (p : Cm.Pl) : Cm.Bs := p.name
def plK (r : Cm.Rt) : Pr := (r.host, r.pfx)
theorem names_rise (h : Cm.rises Cm.plLt s.pools = true) : (s.pools.map nmK).Pairwise (· < ·) := by
  rw [List.pairwise_map]
  exact ((Cm.rises_iff Cm.plOrd _).1 h).imp fun {a b} h => of_decide_eq_true h
theorem places_rise (h : Cm.rises Cm.rtLt s.routes = true) : (s.routes.map plK).Pairwise fun a b => prLt a b = true := by
  rw [List.pairwise_map]
  exact ((Cm.rises_iff Cm.rtOrd _).1 h).imp fun {a b} h => h
theorem names_perm {M : List (Cm.Bs × PV)} {ps : List Cm.Pl} (h : poolsR F M ps) : (ps.map nmK).Perm (M.map (·.1)) := by
  have := (h.2.map nmK).symm
  rwa [List.map_map] at this
theorem places_perm {M : List (Pr × Cm.Bs)} {rs : List Cm.Rt} (h : routesR M rs) : (rs.map plK).Perm (M.map (·.1)) := by
  have := (h.map (·.1)).symm
  rwa [List.map_map] at this
theorem pool_get {M : List (Cm.Bs × PV)} {ps : List Cm.Pl} (h : poolsR F M ps) (hn : (M.map (·.1)).Nodup) {x : Cm.Pl} (hx : x ∈ ps) : ∃ v : PV, mget M x.name = some v ∧ v.2 = x.tg ∧ goodP F v := by
  have := h.2.mem_iff.2 hx
  obtain ⟨e, he, rfl⟩ := List.mem_map.1 this
  exact ⟨e.2, mget_mem hn he, rfl, h.1 e he⟩
theorem route_get {M : List (Pr × Cm.Bs)} {rs : List Cm.Rt} (h : routesR M rs) (hn : (M.map (·.1)).Nodup) {x : Cm.Rt} (hx : x ∈ rs) : mget M (x.host, x.pfx) = some x.pool := by
  have : rtK x ∈ M := h.mem_iff.2 (List.mem_map_of_mem hx)
  exact mget_mem hn this
theorem key_at {a : Option Addr} {ks : List Cm.Bs} (h : RdS w a ks.length 1 (ks.flatMap celS)) {j : Nat} (hj : j < ks.length) : ∃ ad, a = some ad ∧ rd w (ad.add (j * 1)) (.string (bs ks[j])) := by
  obtain ⟨ad, ha, _, hk⟩ := h.elem (f := celS) (fun _ => rfl) (List.getElem?_eq_getElem hj) (by decide)
  exact ⟨ad, ha, hk 0 _ rfl rfl⟩
end
end Go.Vc

/-
  The program's store: the bytes of a configuration.
-/
namespace Go.Vc
open Go Go.Proofs Go.Proofs.Ytcpmfjclkdjfmaa
set_option maxRecDepth 100000
section
variable {E w : World} {L : List Asrt} {R : Ending → World → Prop} {F G : Fz} {p : Nat} {s : Cm.Sm} {xs : Cm.Bs} {b : Sl}
theorem look_pool {mp : Nat} {Mp : List (Cm.Bs × PV)} {n : Cm.Bs} {v : PV} (h : St E (mapA mp encS pvV Mp :: L) w) (hv : mget Mp n = some v) :
    (Instr.lookup 59 (.map (some mp)) (.string (bs n)) false).run Try.prog w = .ok (.slice v.1.1 v.1.2.1 v.1.2.2) w := by
  have := lookup_run strLaw und_pools tm_tgs h n
  rw [hv] at this
  exact this
theorem look_route {mr : Nat} {Mr : List (Pr × Cm.Bs)} {n : Pr} {v : Cm.Bs} (h : St E (mapA mr encP encS Mr :: L) w) (hv : mget Mr n = some v) :
    (Instr.lookup 60 (.map (some mr)) (.agg #[.string (bs n.1), .string (bs n.2)]) false).run Try.prog w = .ok (.string (bs v)) w := by
  have := lookup_run placeLaw und_routes tm_str h n
  rw [hv] at this
  exact this
theorem place_at {a : Option Addr} {ks : List Pr} (h : RdS w a ks.length 2 (ks.flatMap celP)) {j : Nat} (hj : j < ks.length) : ∃ ad, a = some ad ∧ rd w (ad.add (j * 2)) (.agg #[.string (bs ks[j].1), .string (bs ks[j].2)]) := by
  obtain ⟨ad, ha, hk, _⟩ := h.elem (f := celP) (fun _ => rfl) (List.getElem?_eq_getElem hj) (by decide)
  exact ⟨ad, ha, hk⟩
theorem config_l1 {Kn : Option Addr → Nat → Nat → World → Prop} {Kp : List PanicEntry → World → Prop} {ka : Option Addr} {kc mp mr mc : Nat} {Mp : List (Cm.Bs × PV)} {Mr : List (Pr × Cm.Bs)} {Mc : List (Int × LV)} (hm : kn F ∈ L) (S : Sz s) (hp : poolsR F Mp s.pools)
    (h : St E (byA b xs :: ownS ka (s.pools.map nmK).length kc 9 1 ((s.pools.map nmK).flatMap celS) :: st4 p s.ver mp mr mc Mp Mr Mc L) w) (hx : xs.length ≤ 1200000)
    (k : ∀ (w : World) (b : Sl), St E (byA b (xs ++ s.pools.flatMap Cm.plB) :: ownS ka (s.pools.map nmK).length kc 9 1 ((s.pools.map nmK).flatMap celS) :: st4 p s.ver mp mr mc Mp Mr Mc L) w → Kn b.1 b.2.1 b.2.2 w) :
    T_conf_Store_config_1 b.1 b.2.1 b.2.2 0 (some ⟨p, 0, none⟩) ka (s.pools.map nmK).length kc (((s.pools.map nmK).length : Nat) : Int) w Kn Kp := by
  have hbig : big = 140737488355328 := rfl
  have hpn := S.pn
  unfold T_conf_Store_config_1
  intro X hX
  refine up_to s.pools.length (Q := fun j => ∀ (w : World) (b : Sl), St E (byA b (xs ++ (s.pools.take j).flatMap Cm.plB) :: ownS ka (s.pools.map nmK).length kc 9 1 ((s.pools.map nmK).flatMap celS) :: st4 p s.ver mp mr mc Mp Mr Mc L) w → X b.1 b.2.1 b.2.2 (j : Int) w) ?_ w b (by simpa using h)
  intro j hj ih w b h
  refine hX _ _ _ _ _ ?_
  unfold T_conf_Store_config_1_body
  rw [List.length_map]
  refine ite_d (fun hc => ?_) (fun hc => ?_)
  · have hjl : j < s.pools.length := by omega
    obtain ⟨ad, ha, hrd⟩ := key_at (ks := s.pools.map nmK) h.f1.rdS_own (j := j) (by simpa using hjl)
    rw [List.getElem_map] at hrd
    refine ⟨by omega, by omega, ad, ha, _, by rw [Int.toNat_natCast]; exact hrd, ?_⟩
    intro w4
    have h4 : St E _ w4 := h.drew
    have hx1 := pls_len S j
    obtain ⟨hx3, hx4⟩ := S.pl _ (List.getElem_mem hjl)
    have hx5 := tgsMax_short hx4
    have hx6 := text_len (nmK s.pools[j])
    have hx7 : (nmK s.pools[j]).length ≤ 128 := hx3
    obtain ⟨v, hv, hvt, hvg⟩ := pool_get hp h.f3.nodup (List.getElem_mem hjl)
    have hvg : RdF F v.1.1 v.1.2.1 2 (s.pools[j].tg.flatMap tV) := hvt ▸ hvg
    have fin : ∀ (w : World) (b : Sl), St E (byA b (xs ++ (s.pools.take j).flatMap Cm.plB ++ Cm.text (nmK s.pools[j]) ++ Cm.tgs s.pools[j].tg) :: ownS ka (s.pools.map nmK).length kc 9 1 ((s.pools.map nmK).flatMap celS) :: st4 p s.ver mp mr mc Mp Mr Mc L) w → X b.1 b.2.1 b.2.2 (IntKind.wrap .i64 ((j : Int) + 1)) w := fun w b h => by
      rw [succ_big (by omega)]
      refine ih hjl _ _ ?_
      rw [List.take_succ_eq_append_getElem hjl, List.flatMap_append]
      simpa [Cm.plB, nmK] using h
    have hm5 : ∀ {A B C D H : Asrt}, kn F ∈ A :: B :: C :: D :: H :: L := List.mem_cons_of_mem _ (List.mem_cons_of_mem _ (List.mem_cons_of_mem _ (List.mem_cons_of_mem _ (List.mem_cons_of_mem _ hm))))
    refine ⟨_, rfl, _, rd_fld h4.f2.at_blk rfl rfl, ?_, ?_⟩
    · refine text_spec (x := nmK s.pools[j]) h4 (by simp only [List.length_append]; omega) fun w5 b5 h5 => ⟨_, _, _, rfl, ⟨rd_fld h5.f2.at_blk rfl rfl, trivial⟩, runV_ok (look_pool h5.f3 hv) ⟨_, _, _, rfl, trivial, ?_⟩⟩
      exact row_spec hm5 hvg hx4.ok h5 (by simp only [List.length_append]; omega) fun w6 b6 h6 => ⟨_, _, _, rfl, trivial, fin _ _ h6⟩
    · refine runV_ok (look_pool h4.f3 hv) ⟨_, _, _, rfl, trivial, ?_⟩
      refine text_spec (x := nmK s.pools[j]) h4 (by simp only [List.length_append]; omega) fun w5 b5 h5 => ⟨_, _, _, rfl, trivial, ?_⟩
      exact row_spec hm5 hvg hx4.ok h5 (by simp only [List.length_append]; omega) fun w6 b6 h6 => ⟨_, _, _, rfl, trivial, fin _ _ h6⟩
  · rw [List.take_of_length_le (by omega)] at h
    exact k _ _ h
set_option maxHeartbeats 2000000 in
theorem config_l2 {Kn : Option Addr → Nat → Nat → World → Prop} {Kp : List PanicEntry → World → Prop} {ka : Option Addr} {kc mp mr mc : Nat} {Mp : List (Cm.Bs × PV)} {Mr : List (Pr × Cm.Bs)} {Mc : List (Int × LV)} (S : Sz s) (hr : routesR Mr s.routes)
    (h : St E (byA b xs :: ownS ka (s.routes.map plK).length kc 75 2 ((s.routes.map plK).flatMap celP) :: st4 p s.ver mp mr mc Mp Mr Mc L) w) (hx : xs.length ≤ 1500000)
    (k : ∀ (w : World) (b : Sl), St E (byA b (xs ++ s.routes.flatMap Cm.rtB) :: ownS ka (s.routes.map plK).length kc 75 2 ((s.routes.map plK).flatMap celP) :: st4 p s.ver mp mr mc Mp Mr Mc L) w → Kn b.1 b.2.1 b.2.2 w) :
    T_conf_Store_config_2 b.1 b.2.1 b.2.2 0 (some ⟨p, 0, none⟩) ka (s.routes.map plK).length kc (((s.routes.map plK).length : Nat) : Int) w Kn Kp := by
  have hbig : big = 140737488355328 := rfl
  have hrn := S.rn
  unfold T_conf_Store_config_2
  intro X hX
  refine up_to s.routes.length (Q := fun j => ∀ (w : World) (b : Sl), St E (byA b (xs ++ (s.routes.take j).flatMap Cm.rtB) :: ownS ka (s.routes.map plK).length kc 75 2 ((s.routes.map plK).flatMap celP) :: st4 p s.ver mp mr mc Mp Mr Mc L) w → X b.1 b.2.1 b.2.2 (j : Int) w) ?_ w b (by simpa using h)
  intro j hj ih w b h
  refine hX _ _ _ _ _ ?_
  unfold T_conf_Store_config_2_body
  rw [List.length_map]
  refine ite_d (fun hc => ?_) (fun hc => ?_)
  · have hjl : j < s.routes.length := by omega
    obtain ⟨ad, ha, hrd⟩ := place_at (ks := s.routes.map plK) h.f1.rdS_own (j := j) (by simpa using hjl)
    rw [List.getElem_map] at hrd
    refine ⟨by omega, by omega, ad, ha, _, _, by rw [Int.toNat_natCast]; exact hrd, ?_⟩
    have hx1 := rts_len S j
    obtain ⟨hx3, hx4, hx5⟩ := S.rt _ (List.getElem_mem hjl)
    have e1 := text_len s.routes[j].host
    have e2 := text_len s.routes[j].pfx
    have e3 := text_len s.routes[j].pool
    have hv := route_get hr h.f4.nodup (List.getElem_mem hjl)
    intro w8
    have h8 := h.alloc (.cells #[.string (ByteArray.mk #[]), .string (ByteArray.mk #[])] 75)
    refine ⟨rfl, wrOk_agg h8.at_blk (xs := celP (plK s.routes[j])) (by simp [celP]) (by intro u hu; simp [celP] at hu; rcases hu with rfl | rfl <;> rfl), ?_⟩
    intro w9 w10
    have h10 : St E (blkL w.heap.size 75 (celP (plK s.routes[j])) :: byA b (xs ++ (s.routes.take j).flatMap Cm.rtB) :: ownS ka (s.routes.map plK).length kc 75 2 ((s.routes.map plK).flatMap celP) :: st4 p s.ver mp mr mc Mp Mr Mc L) w10 := (h8.wr_agg0 (xs := celP (plK s.routes[j])) rfl).drew
    generalize w.heap.size = bk at *
    have h10 : St E (byA b (xs ++ (s.routes.take j).flatMap Cm.rtB) :: blkL bk 75 (celP (plK s.routes[j])) :: ownS ka (s.routes.map plK).length kc 75 2 ((s.routes.map plK).flatMap celP) :: st4 p s.ver mp mr mc Mp Mr Mc L) w10 := h10.f1
    clear_value w10
    have lk : ∀ {w : World} {ys : Cm.Bs} {b : Sl}, St E (byA b ys :: blkL bk 75 (celP (plK s.routes[j])) :: ownS ka (s.routes.map plK).length kc 75 2 ((s.routes.map plK).flatMap celP) :: st4 p s.ver mp mr mc Mp Mr Mc L) w →
        (Instr.lookup 60 (.map (some mr)) (.agg #[.string (bs s.routes[j].host), .string (bs s.routes[j].pfx)]) false).run Try.prog w = .ok (.string (bs s.routes[j].pool)) w := fun h => look_route h.f5 hv
    have r0 : ∀ {w : World} {ys : Cm.Bs} {b : Sl}, St E (byA b ys :: blkL bk 75 (celP (plK s.routes[j])) :: ownS ka (s.routes.map plK).length kc 75 2 ((s.routes.map plK).flatMap celP) :: st4 p s.ver mp mr mc Mp Mr Mc L) w →
        rd w ⟨bk, 0, none⟩ (.string (bs s.routes[j].host)) := fun h => rd_cell h.f1.at_blk rfl rfl
    have r1 : ∀ {w : World} {ys : Cm.Bs} {b : Sl}, St E (byA b ys :: blkL bk 75 (celP (plK s.routes[j])) :: ownS ka (s.routes.map plK).length kc 75 2 ((s.routes.map plK).flatMap celP) :: st4 p s.ver mp mr mc Mp Mr Mc L) w →
        rd w ((⟨bk, 0, none⟩ : Addr).add 1) (.string (bs s.routes[j].pfx)) := fun h => rd_fld h.f1.at_blk rfl rfl
    have ra : ∀ {w : World} {ys : Cm.Bs} {b : Sl}, St E (byA b ys :: blkL bk 75 (celP (plK s.routes[j])) :: ownS ka (s.routes.map plK).length kc 75 2 ((s.routes.map plK).flatMap celP) :: st4 p s.ver mp mr mc Mp Mr Mc L) w →
        rd w ⟨bk, 0, none⟩ (.agg #[.string (bs s.routes[j].host), .string (bs s.routes[j].pfx)]) := fun h => rd_agg (xs := celP (plK s.routes[j])) h.f1.at_blk (by intro i u hu; rw [Nat.zero_add]; exact hu)
    have rm : ∀ {w : World} {ys : Cm.Bs} {b : Sl}, St E (byA b ys :: blkL bk 75 (celP (plK s.routes[j])) :: ownS ka (s.routes.map plK).length kc 75 2 ((s.routes.map plK).flatMap celP) :: st4 p s.ver mp mr mc Mp Mr Mc L) w →
        rd w ((⟨p, 0, none⟩ : Addr).add 2) (.map (some mr)) := fun h => rd_fld h.f3.at_blk rfl rfl
    have fin : ∀ (w : World) (b : Sl), St E (byA b (xs ++ (s.routes.take j).flatMap Cm.rtB ++ Cm.text s.routes[j].host ++ Cm.text s.routes[j].pfx ++ Cm.text s.routes[j].pool) :: blkL bk 75 (celP (plK s.routes[j])) :: ownS ka (s.routes.map plK).length kc 75 2 ((s.routes.map plK).flatMap celP) :: st4 p s.ver mp mr mc Mp Mr Mc L) w → X b.1 b.2.1 b.2.2 (IntKind.wrap .i64 ((j : Int) + 1)) w := fun w b h => by
      rw [succ_big (by omega)]
      refine ih hjl _ _ ?_
      rw [List.take_succ_eq_append_getElem hjl, List.flatMap_append]
      have := h.f1.drop
      simpa [Cm.rtB] using this
    refine ⟨_, r0 h10, _, r1 h10, _, rfl, _, rm h10, _, _, ra h10, ?_, ?_⟩
    · refine text_spec (x := s.routes[j].host) h10 (by simp only [List.length_append]; omega) fun w1 b1 h1 => ⟨_, _, _, rfl, ⟨ra h1, rm h1, r1 h1, trivial⟩, ?_, ?_⟩
      · refine text_spec (x := s.routes[j].pfx) h1 (by simp only [List.length_append]; omega) fun w2 b2 h2 => ⟨_, _, _, rfl, ⟨ra h2, rm h2, trivial⟩, runV_ok (lk h2) ⟨_, rfl, trivial, ?_⟩⟩
        exact text_spec (x := s.routes[j].pool) h2 (by simp only [List.length_append]; omega) fun w3 b3 h3 => ⟨_, _, _, rfl, trivial, fin _ _ h3⟩
      · refine runV_ok (lk h1) ⟨_, rfl, ⟨r1 h1, trivial⟩, ?_⟩
        refine text_spec (x := s.routes[j].pfx) h1 (by simp only [List.length_append]; omega) fun w2 b2 h2 => ⟨_, _, _, rfl, trivial, ?_⟩
        exact text_spec (x := s.routes[j].pool) h2 (by simp only [List.length_append]; omega) fun w3 b3 h3 => ⟨_, _, _, rfl, trivial, fin _ _ h3⟩
    · refine runV_ok (lk h10) ⟨_, rfl, ⟨r1 h10, r0 h10, trivial⟩, ?_⟩
      refine text_spec (x := s.routes[j].host) h10 (by simp only [List.length_append]; omega) fun w1 b1 h1 => ⟨_, _, _, rfl, ⟨r1 h1, trivial⟩, ?_⟩
      refine text_spec (x := s.routes[j].pfx) h1 (by simp only [List.length_append]; omega) fun w2 b2 h2 => ⟨_, _, _, rfl, trivial, ?_⟩
      exact text_spec (x := s.routes[j].pool) h2 (by simp only [List.length_append]; omega) fun w3 b3 h3 => ⟨_, _, _, rfl, trivial, fin _ _ h3⟩
  · rw [List.take_of_length_le (by omega)] at h
    exact k _ _ h
theorem config_spec4 {mp mr mc : Nat} {Mp : List (Cm.Bs × PV)} {Mr : List (Pr × Cm.Bs)} {Mc : List (Int × LV)} (hm : kn F ∈ L) (S : Sz s) (hp : poolsR F Mp s.pools) (hr : routesR Mr s.routes) (h : St E (byA b xs :: st4 p s.ver mp mr mc Mp Mr Mc L) w) (hx : xs.length ≤ 1000000)
    (k : ∀ (w' : World) (b' : Sl), St E (byA b' (xs ++ Cm.confB s.pools s.routes) :: st4 p s.ver mp mr mc Mp Mr Mc L) w' → R (.returned (.slice b'.1 b'.2.1 b'.2.2)) w') :
    Calls Try.prog 56 #[.pointer (some ⟨p, 0, none⟩), .slice b.1 b.2.1 b.2.2] w R := by
  have hbig : big = 140737488355328 := rfl
  have h := h.sel 5 [1, 2, 3, 4, 0]
  refine C_conf_Store_config ?_
  unfold T_conf_Store_config
  have hlp : Mp.length = s.pools.length := by have := hp.2.length_eq; simpa using this
  have hlr : Mr.length = s.routes.length := by have := List.Perm.length_eq hr; simpa using this
  have hpn := S.pn
  have hrn := S.rn
  have hy1 := pls_len S s.pools.length
  rw [List.take_length] at hy1
  have hy2 := num_len s.pools.length
  have hy3 := num_len s.routes.length
  refine ⟨_, rfl, _, rd_fld h.at_blk rfl rfl, runV_ok (lenMap_run und_pools h.f1 _ _ rfl) ⟨_, rfl, ?_⟩⟩
  rw [hlp]
  refine num_spec (h.sel 5 [4, 0, 1, 2, 3]) (by omega) fun w1 s1 h1 => ⟨_, _, _, rfl, ?_⟩
  have h1 : St E (byA s1 (xs ++ Cm.num s.pools.length) :: st4 p s.ver mp mr mc Mp Mr Mc L) w1 := h1
  refine ⟨_, rfl, _, rd_fld h1.f1.at_blk rfl rfl, KeysS_spec h1 fun B w2 h2 => ⟨_, rfl, rfl, ?_⟩⟩
  refine SortedS_spec (ks := s.pools.map nmK) (L := byA s1 (xs ++ Cm.num s.pools.length) :: blkL p 63 (stL s.ver mp mr mc) :: mapA mr encP encS Mr :: mapA mc encI lvV Mc :: L) (h2.sel 6 [0, 3, 1, 2, 4, 5]) (by omega) (names_perm hp) (names_rise S.pr) fun ka kc w3 h3 => ⟨_, _, _, rfl, ?_⟩
  have h3 : St E (byA s1 (xs ++ Cm.num s.pools.length) :: ownS ka (s.pools.map nmK).length kc 9 1 ((s.pools.map nmK).flatMap celS) :: st4 p s.ver mp mr mc Mp Mr Mc L) w3 := h3.sel 6 [2, 0, 3, 1, 4, 5]
  refine config_l1 hm S hp h3 (by simp only [List.length_append]; omega) fun w4 b4 h4 => ?_
  have h5 := h4.f1.drop
  refine ⟨_, rfl, _, rd_fld h5.f1.at_blk rfl rfl, runV_ok (lenMap_run und_routes h5.f3 _ _ rfl) ⟨_, rfl, ?_⟩⟩
  rw [hlr]
  refine num_spec h5 (by simp only [List.length_append]; omega) fun w6 b6 h6 => ⟨_, _, _, rfl, ?_⟩
  refine sorted_spec (ks := s.routes.map plK) (L := byA b6 (xs ++ Cm.num s.pools.length ++ s.pools.flatMap Cm.plB ++ Cm.num s.routes.length) :: mapA mp encS pvV Mp :: mapA mc encI lvV Mc :: L) (h6.sel 5 [1, 3, 0, 2, 4]) (by omega) (places_perm hr) (places_rise S.rr) fun ka kc w7 h7 => ⟨_, _, _, rfl, ?_⟩
  have h7 : St E (byA b6 (xs ++ Cm.num s.pools.length ++ s.pools.flatMap Cm.plB ++ Cm.num s.routes.length) :: ownS ka (s.routes.map plK).length kc 75 2 ((s.routes.map plK).flatMap celP) :: st4 p s.ver mp mr mc Mp Mr Mc L) w7 := h7.sel 6 [3, 0, 1, 4, 2, 5]
  refine config_l2 S hr h7 (by simp only [List.length_append]; omega) fun w8 b8 h8 => k _ _ ?_
  simpa [Cm.confB] using h8.f1.drop
/-- (*Store).config: bytes with the configuration's behind. -/
theorem config_spec (hm : kn F ∈ L) (S : Sz s) (h : St E (byA b xs :: stA F p s :: L) w) (hx : xs.length ≤ 1000000)
    (k : ∀ (w' : World) (b' : Sl), St E (byA b' (xs ++ Cm.confB s.pools s.routes) :: stA F p s :: L) w' → R (.returned (.slice b'.1 b'.2.1 b'.2.2)) w') :
    Calls Try.prog 56 #[.pointer (some ⟨p, 0, none⟩), .slice b.1 b.2.1 b.2.2] w R := by
  obtain ⟨mp, mr, mc, Mp, Mr, Mc, hp, hr, hc, h⟩ := h.f1.st_open
  refine config_spec4 hm S hp hr (h.sel 5 [4, 0, 1, 2, 3]) hx fun w' b' h' => k _ _ ?_
  exact (St.st_mk hp hr hc (h'.sel 5 [1, 2, 3, 4, 0])).f1
end
end Go.Vc

/-
  The program's store: what a client was told, a store's bytes; what maps hold when one is put in or taken out.
-/
namespace Go.Vc
open Go Go.Proofs Go.Proofs.Ytcpmfjclkdjfmaa
set_option maxRecDepth 100000
section
variable {κ ν : Type} [DecidableEq κ] {m : List (κ × ν)} {a : κ} {v : ν}
def butM (m : List (κ × ν)) (a : κ) : List (κ × ν) := m.filter fun e => !decide (e.1 = a)
theorem butM_self (h : a ∉ m.map (·.1)) : butM m a = m := List.filter_eq_self.2 fun e he => by
  simp only [Bool.not_eq_true', decide_eq_false_iff_not]
  exact fun h' => h (h' ▸ List.mem_map_of_mem he)
theorem mset_perm : ∀ {m : List (κ × ν)}, (m.map (·.1)).Nodup → ∀ (a : κ) (v : ν), (mset m a v).Perm ((a, v) :: butM m a)
  | [], _, _, _ => List.Perm.refl _
  | p :: r, hn, a, v => by
    rw [List.map_cons, List.nodup_cons] at hn
    unfold mset
    split
    · rename_i h
      have : butM (p :: r) a = r := by
        unfold butM
        rw [List.filter_cons, if_neg (by simp [h])]
        exact butM_self (by rw [← h]; exact hn.1)
      rw [this]
    · rename_i h
      have : butM (p :: r) a = p :: butM r a := by
        unfold butM
        rw [List.filter_cons, if_pos (by simp [h])]
      rw [this]
      exact ((mset_perm hn.2 a v).cons p).trans (.swap ..)
theorem mdel_eq : ∀ {m : List (κ × ν)}, (m.map (·.1)).Nodup → ∀ (a : κ), mdel m a = butM m a
  | [], _, _ => rfl
  | p :: r, hn, a => by
    rw [List.map_cons, List.nodup_cons] at hn
    unfold mdel
    split
    · rename_i h
      unfold butM
      rw [List.filter_cons, if_neg (by simp [h])]
      exact (butM_self (by rw [← h]; exact hn.1)).symm
    · rename_i h
      have : butM (p :: r) a = p :: butM r a := by
        unfold butM
        rw [List.filter_cons, if_pos (by simp [h])]
      rw [this, mdel_eq hn.2 a]
theorem but_back (h : (m.map (·.1)).Nodup) (hv : mget m a = some v) : ((a, v) :: butM m a).Perm m := by
  have h2 : mset m a v = m := by
    clear h
    induction m with
    | nil => cases hv
    | cons p r ih =>
      rw [mget_cons] at hv
      unfold mset
      split
      · rename_i h; rw [if_pos h] at hv; cases hv; rw [← h]
      · rename_i h; rw [if_neg h] at hv; rw [ih hv]
  have := mset_perm h a v
  rw [h2] at this
  exact this.symm
end
section
variable {E w : World} {L : List Asrt} {R : Ending → World → Prop} {F G : Fz} {p : Nat} {s : Cm.Sm} {n : Cm.Bs}
theorem but_pools {M : List (Cm.Bs × PV)} (h : poolsR F M s.pools) : poolsR F (butM M n) (Cm.butPool s n) := by
  refine ⟨fun e he => h.1 e (List.mem_filter.1 he).1, ?_⟩
  have := h.2.filter fun p => !decide (p.name = n)
  refine List.Perm.trans (List.Perm.of_eq ?_) this
  rw [List.filter_map]; rfl
theorem put_pools {M : List (Cm.Bs × PV)} (h : poolsR F M s.pools) (hn : (M.map (·.1)).Nodup) {v : PV} (hv : goodP F v) : poolsR F (mset M n v) (Cm.put Cm.plLt (Cm.butPool s n) ⟨n, v.2⟩) := by
  have hp := mset_perm hn n v
  refine ⟨fun e he => ?_, ?_⟩
  · rcases List.mem_cons.1 (hp.mem_iff.1 he) with rfl | he
    · exact hv
    · exact h.1 e (List.mem_filter.1 he).1
  · refine (hp.map plOf).trans ?_
    refine List.Perm.trans (List.Perm.cons _ (but_pools h).2) (Cm.put_but_perm ⟨n, v.2⟩).symm
theorem poolsR.perm {M M' : List (Cm.Bs × PV)} {ps : List Cm.Pl} (h : poolsR F M ps) (hp : M'.Perm M) : poolsR F M' ps := ⟨fun e he => h.1 e (hp.mem_iff.1 he), (hp.map plOf).trans h.2⟩
theorem there_get {M : List (Cm.Bs × PV)} (h : poolsR F M s.pools) : (mget M n).isSome = Cm.there s n := by
  have hk := names_perm h
  cases hv : mget M n with
  | none =>
    have h1 := mget_none_iff.1 hv
    cases ht : Cm.there s n with
    | false => rfl
    | true =>
      simp only [Cm.there, List.any_eq_true, decide_eq_true_eq] at ht
      obtain ⟨x, hx, hxn⟩ := ht
      exact absurd (hk.mem_iff.1 (hxn ▸ List.mem_map_of_mem (f := nmK) hx)) h1
  | some v =>
    have h1 := hk.mem_iff.2 (List.mem_map_of_mem (f := (·.1)) (mget_some hv))
    obtain ⟨x, hx, hxn⟩ := List.mem_map.1 h1
    refine (List.any_eq_true.2 ⟨x, hx, ?_⟩).symm
    exact decide_eq_true hxn
theorem but_routes {M : List (Pr × Cm.Bs)} {h' p' : Cm.Bs} (h : routesR M s.routes) : routesR (butM M (h', p')) (Cm.butRoute s h' p') := by
  have := h.filter fun e => !decide (e.1 = (h', p'))
  refine List.Perm.trans this (List.Perm.of_eq ?_)
  rw [List.filter_map]
  congr 1
  unfold Cm.butRoute
  congr 1
  funext r
  simp [rtK, Cm.isAt, Prod.mk.injEq]
theorem put_routes {M : List (Pr × Cm.Bs)} {x : Cm.Rt} (h : routesR M s.routes) (hn : (M.map (·.1)).Nodup) : routesR (mset M (x.host, x.pfx) x.pool) (Cm.put Cm.rtLt (Cm.butRoute s x.host x.pfx) x) := by
  refine (mset_perm hn _ _).trans ?_
  refine List.Perm.trans (List.Perm.cons _ (but_routes h)) ?_
  exact ((Cm.put_butR_perm x).map rtK).symm
theorem known_get {M : List (Pr × Cm.Bs)} {h' p' : Cm.Bs} (h : routesR M s.routes) : (mget M (h', p')).isSome = Cm.known s h' p' := by
  have hk := places_perm h
  cases hv : mget M (h', p') with
  | none =>
    have h1 := mget_none_iff.1 hv
    cases ht : Cm.known s h' p' with
    | false => rfl
    | true =>
      simp only [Cm.known, List.any_eq_true, Cm.isAt, Bool.and_eq_true, decide_eq_true_eq] at ht
      obtain ⟨x, hx, hx1, hx2⟩ := ht
      refine absurd (hk.mem_iff.1 ?_) h1
      have := List.mem_map_of_mem (f := plK) hx
      rw [← hx1, ← hx2]; exact this
  | some v =>
    have h1 := hk.mem_iff.2 (List.mem_map_of_mem (f := (·.1)) (mget_some hv))
    obtain ⟨x, hx, hxn⟩ := List.mem_map.1 h1
    refine (List.any_eq_true.2 ⟨x, hx, ?_⟩).symm
    simp only [plK, Prod.mk.injEq] at hxn
    simp [Cm.isAt, hxn.1, hxn.2]
theorem client_get {M : List (Int × LV)} (h : clientsR M s.l) (hn : (M.map (·.1)).Nodup) (k : Int) : (mget M k).getD (0, 0, 0) = Cm.seenC s k := by
  unfold Cm.seenC
  cases hf : s.l.find? fun x => decide (x.client = k) with
  | some x =>
    have hx := List.mem_of_find?_eq_some hf
    have hk : x.client = k := by have := List.find?_some hf; simpa using this
    have : laK x ∈ M := h.mem_iff.2 (List.mem_map_of_mem hx)
    have := mget_mem hn this
    rw [show (laK x).1 = k from hk] at this
    rw [this]; rfl
  | none =>
    have : mget M k = none := mget_none_of fun hm => by
      obtain ⟨e, he, hek⟩ := List.mem_map.1 hm
      obtain ⟨x, hx, hxe⟩ := List.mem_map.1 (h.mem_iff.1 he)
      have := List.find?_eq_none.1 hf x hx
      rw [← hek, ← hxe] at this
      simp [laK] at this
    rw [this]; rfl
theorem put_clients {M : List (Int × LV)} {x : Cm.Last} (h : clientsR M s.l) (hn : (M.map (·.1)).Nodup) : clientsR (mset M x.client (x.seq, x.e, x.ver)) (Cm.put Cm.laLt s.l x) := by
  refine (mset_perm hn _ _).trans ?_
  refine List.Perm.trans (List.Perm.cons _ ?_) (((Cm.put_perm Cm.laOrd s.l x).map laK).symm)
  have := h.filter fun e => !decide (e.1 = x.client)
  refine List.Perm.trans this (List.Perm.of_eq ?_)
  rw [List.filter_map]
  congr 1
theorem look_client {mc : Nat} {Mc : List (Int × LV)} (hc : clientsR Mc s.l) (h : St E (mapA mc encI lvV Mc :: L) w) (k : Int) :
    (Instr.lookup 61 (.map (some mc)) (.int .i64 k) false).run Try.prog w = .ok (lvV (Cm.seenC s k)) w := by
  have := lookup_run intLaw und_clients tm_seen h k
  rw [← client_get hc h.nodup]
  cases hv : mget Mc k <;> rw [hv] at this <;> exact this
end
end Go.Vc

/-
  The program's store does a command that is right.
-/
namespace Go.Vc
open Go Go.Proofs Go.Proofs.Ytcpmfjclkdjfmaa
set_option maxRecDepth 100000
section
variable {E w : World} {L : List Asrt} {R : Ending → World → Prop} {F G : Fz} {p : Nat} {s : Cm.Sm} {c : Cm.Cmd} {q : Sl}
theorem Clone_spec {tg : List Cm.Tgt} (hm : kn F ∈ L) (h : St E L w) (hr : RdF F q.1 q.2.1 2 (tg.flatMap tV)) (hl : tg.length ≤ 1000) (k : ∀ (q' : Sl) w', St E (tgA q' tg :: L) w' → R (.returned (.slice q'.1 q'.2.1 q'.2.2)) w') :
    Calls Try.prog 24 #[.slice q.1 q.2.1 q.2.2] w R := by
  have hn := tgs_len hm h hr
  obtain ⟨a, l, cc⟩ := q
  refine C_slices_Clone_api_Target ?_
  unfold T_slices_Clone_api_Target
  cases a with
  | none =>
    have : tg = [] := by
      rcases (hr.at h hm).2 with h0 | ⟨g, off, ha, _⟩
      · exact List.eq_nil_of_length_eq_zero (hn.trans h0)
      · cases ha
    subst this
    exact ite_none (k (none, 0, 0) w h.ownS_nil)
  | some ad =>
    refine ite_some ?_
    intro w2
    have h2 : St E (tgA (some ⟨w.heap.size, 0, none⟩, 0, 0) [] :: L) w2 := St.ownS_mk (rest := []) (h.alloc _) rfl (Nat.le_refl _) (Nat.zero_le _) rfl
    obtain ⟨s', w', hr2, hs⟩ := app_t (c2 := cc) h2 (hr.at h2 (List.mem_cons_of_mem _ hm)) (by simp; omega)
    exact runV_ok hr2 ⟨_, _, _, rfl, k s' w' (by simpa using hs)⟩

abbrev actL (bp bc : Nat) (c : Cm.Cmd) (q : Sl) (L : List Asrt) : List Asrt := blkL bp 75 (celP (c.host, c.pfx)) :: blkL bc 28 (cmdL c q) :: L
theorem act1_spec {bp bc mp mr mc : Nat} {Mp : List (Cm.Bs × PV)} {Mr : List (Pr × Cm.Bs)} {Mc : List (Int × LV)} {b : Bool} {Kn : Bool → World → Prop} {Kp : List PanicEntry → World → Prop} (hp : poolsR F Mp s.pools)
    (h : St E (actL bp bc c q (st4 p s.ver mp mr mc Mp Mr Mc L)) w) (k : Kn (!b && decide (32 ≤ s.pools.length)) w) : T_conf_Store_act_1 (some ⟨p, 0, none⟩) b w Kn Kp := by
  have hl : Mp.length = s.pools.length := by have := hp.2.length_eq; simpa using this
  unfold T_conf_Store_act_1
  refine ite_n (fun hb => ⟨_, rfl, _, rd_fld h.f2.at_blk rfl rfl, runV_ok (lenMap_run und_pools h.f3 _ _ rfl) ⟨_, rfl, cong k ?_⟩⟩) (fun hb => cong k (by simp [hb]))
  rw [hl, hb, Bool.eq_iff_iff]; simp; omega
theorem act3_spec {bp bc mp mr mc : Nat} {Mp : List (Cm.Bs × PV)} {Mr : List (Pr × Cm.Bs)} {Mc : List (Int × LV)} {b : Bool} {Kn : Bool → World → Prop} {Kp : List PanicEntry → World → Prop} (hr : routesR Mr s.routes)
    (h : St E (actL bp bc c q (st4 p s.ver mp mr mc Mp Mr Mc L)) w) (k : Kn (!b && decide (64 ≤ s.routes.length)) w) : T_conf_Store_act_3 (some ⟨p, 0, none⟩) b w Kn Kp := by
  have hl : Mr.length = s.routes.length := by have := List.Perm.length_eq hr; simpa using this
  unfold T_conf_Store_act_3
  refine ite_n (fun hb => ⟨_, rfl, _, rd_fld h.f2.at_blk rfl rfl, runV_ok (lenMap_run und_routes h.f4 _ _ rfl) ⟨_, rfl, cong k ?_⟩⟩) (fun hb => cong k (by simp [hb]))
  rw [hl, hb, Bool.eq_iff_iff]; simp; omega
/-- The walk through the routes: is there one of this pool? -/
theorem act2_spec {bp bc mp mr mc it : Nat} {Mp : List (Cm.Bs × PV)} {Mr : List (Pr × Cm.Bs)} {Mc : List (Int × LV)} {Kn : World → Prop} {Kr : Int → World → Prop} {Kp : List PanicEntry → World → Prop} (hr : routesR Mr s.routes)
    (h : St E (iterA it mr encP encS Mr Mr :: actL bp bc c q (blkL p 63 (stL s.ver mp mr mc) :: mapA mp encS pvV Mp :: mapA mc encI lvV Mc :: L)) w)
    (k1 : Cm.used s c.pool = true → ∀ w', St E (actL bp bc c q (st4 p s.ver mp mr mc Mp Mr Mc L)) w' → Kr 13 w')
    (k2 : Cm.used s c.pool = false → ∀ w', St E (actL bp bc c q (st4 p s.ver mp mr mc Mp Mr Mc L)) w' → Kn w') :
    T_conf_Store_act_2 ⟨bc, 0, none⟩ ⟨it, 0, none⟩ w Kn Kr Kp := by
  unfold T_conf_Store_act_2
  intro X hX
  have fin : ∀ {w : World} {rest : List (Pr × Cm.Bs)}, St E (iterA it mr encP encS Mr rest :: actL bp bc c q (blkL p 63 (stL s.ver mp mr mc) :: mapA mp encS pvV Mp :: mapA mc encI lvV Mc :: L)) w → St E (actL bp bc c q (st4 p s.ver mp mr mc Mp Mr Mc L)) w :=
    fun h => h.iter_done.sel 6 [1, 2, 3, 4, 0, 5]
  have hu : Cm.used s c.pool = Mr.any fun e => decide (e.2 = c.pool) := by
    rw [Bool.eq_iff_iff, List.any_eq_true]
    unfold Cm.used
    rw [List.any_eq_true]
    constructor
    · rintro ⟨r, hr1, hr2⟩
      exact ⟨rtK r, hr.mem_iff.2 (List.mem_map_of_mem hr1), hr2⟩
    · rintro ⟨e, he1, he2⟩
      obtain ⟨r, hr1, rfl⟩ := List.mem_map.1 (hr.mem_iff.1 he1)
      exact ⟨r, hr1, he2⟩
  have key : ∀ (n : Nat) (rest : List (Pr × Cm.Bs)) (w : World), rest.length = n → (∀ e ∈ rest, e ∈ Mr) → (∀ e ∈ Mr, e ∉ rest → e.2 ≠ c.pool) →
      St E (iterA it mr encP encS Mr rest :: actL bp bc c q (blkL p 63 (stL s.ver mp mr mc) :: mapA mp encS pvV Mp :: mapA mc encI lvV Mc :: L)) w → X w := by
    intro n
    induction n with
    | zero =>
      intro rest w hn hin hout h
      have hnil : rest = [] := List.eq_nil_of_length_eq_zero hn
      subst hnil
      refine hX _ ?_
      unfold T_conf_Store_act_2_body
      rcases next_run (P := Try.prog) 0 h with ⟨_, hrun⟩ | ⟨r1, e, r2, w', hrest, _⟩
      · refine runV_ok hrun ⟨_, _, rfl, ite_b (fun hh => by cases hh) fun _ => k2 ?_ _ (fin h)⟩
        rw [hu, List.any_eq_false]
        intro e he
        simpa using hout e he (by simp)
      · simp at hrest
    | succ n ih =>
      intro rest w hn hin hout h
      refine hX _ ?_
      unfold T_conf_Store_act_2_body
      rcases next_run (P := Try.prog) 0 h with ⟨hnil, hrun⟩ | ⟨r1, e, r2, w', hrest, hrun, h', hent⟩
      · rw [hnil] at hn; cases hn
      · refine runV_ok hrun ⟨_, _, rfl, ite_b (fun _ => ?_) fun hh => by cases hh⟩
        refine runV_ok hent ⟨_, _, rfl, _, rfl, _, rd_fld h'.f2.at_blk rfl rfl, ite_b (fun h1 => k1 ?_ _ (fin h')) fun h1 => ?_⟩
        · rw [hu, List.any_eq_true]
          exact ⟨e, hin e (by rw [hrest]; simp), by rw [show ({ data := e.2.toArray } : ByteArray) = bs e.2 from rfl, str_beq] at h1; exact h1⟩
        · rw [show ({ data := e.2.toArray } : ByteArray) = bs e.2 from rfl, str_beq, decide_eq_false_iff_not] at h1
          refine ih (r1 ++ r2) _ (by rw [hrest] at hn; simp at hn; simp; omega) (fun x hx => hin x (by rw [hrest]; simp only [List.mem_append, List.mem_cons] at hx ⊢; exact hx.elim .inl fun h => .inr (.inr h))) (fun x hx hnx => ?_) h'
          by_cases hxe : x = e
          · rw [hxe]; exact h1
          · exact hout x hx (by rw [hrest]; simp only [List.mem_append, List.mem_cons, not_or] at hnx ⊢; exact ⟨hnx.1, hxe, hnx.2⟩)
  exact key _ Mr w rfl (fun e he => he) (fun e he hn => absurd he hn) h
end
end Go.Vc

/-
  The program's store does a command that is right: as the lists say.
-/
namespace Go.Vc
open Go Go.Proofs Go.Proofs.Ytcpmfjclkdjfmaa
set_option maxRecDepth 100000
section
variable {E w : World} {L : List Asrt} {R : Ending → World → Prop} {F G : Fz} {p : Nat} {s : Cm.Sm} {c : Cm.Cmd} {q : Sl} {n : Cm.Bs}
def putP (s : Cm.Sm) (n : Cm.Bs) (tg : List Cm.Tgt) : Cm.Sm := { s with pools := Cm.put Cm.plLt (Cm.butPool s n) ⟨n, tg⟩ }
def putR (s : Cm.Sm) (x : Cm.Rt) : Cm.Sm := { s with routes := Cm.put Cm.rtLt (Cm.butRoute s x.host x.pfx) x }
theorem sz_putP (I : Cm.Inv s) (hc : Cm.chk c = 0) : Sz (putP s c.pool c.tg) := by
  have f := Cm.chk_fine hc
  have S := Sz.of I
  have hp := Cm.put_but_perm (s := s) ⟨c.pool, c.tg⟩
  refine { S with pl := fun x hx => ?_, pr := Cm.put_rises Cm.plOrd (Cm.filter_rises Cm.plOrd I.pr _) _, pn := ?_ }
  · rcases List.mem_cons.1 (hp.mem_iff.1 hx) with rfl | hx
    · exact ⟨by have := f.o; simp only; omega, short_of f.t⟩
    · exact S.pl x (List.mem_filter.1 hx).1
  · have h1 := hp.length_eq
    have h2 : (Cm.butPool s c.pool).length ≤ s.pools.length := List.length_filter_le ..
    have := I.pn
    show (Cm.put Cm.plLt (Cm.butPool s c.pool) ⟨c.pool, c.tg⟩).length ≤ 64
    rw [h1, List.length_cons]
    show (Cm.butPool s c.pool).length + 1 ≤ 64
    omega
theorem sz_putR (I : Cm.Inv s) (hc : Cm.chk c = 0) : Sz (putR s ⟨c.host, c.pfx, c.pool⟩) := by
  have f := Cm.chk_fine hc
  have S := Sz.of I
  have hp := Cm.put_butR_perm (s := s) ⟨c.host, c.pfx, c.pool⟩
  refine { S with rt := fun x hx => ?_, rr := Cm.put_rises Cm.rtOrd (Cm.filter_rises Cm.rtOrd I.rr _) _, rn := ?_ }
  · rcases List.mem_cons.1 (hp.mem_iff.1 hx) with rfl | hx
    · exact ⟨by have := f.h; simp only; omega, by have := f.p; simp only; omega, by have := f.o; simp only; omega⟩
    · exact S.rt x (List.mem_filter.1 hx).1
  · have h1 := hp.length_eq
    have h2 : (Cm.butRoute s c.host c.pfx).length ≤ s.routes.length := List.length_filter_le ..
    have := I.rn
    show (Cm.put Cm.rtLt (Cm.butRoute s c.host c.pfx) ⟨c.host, c.pfx, c.pool⟩).length ≤ 128
    rw [h1, List.length_cons]
    show (Cm.butRoute s c.host c.pfx).length + 1 ≤ 128
    omega
theorem but_put {tg : List Cm.Tgt} : (Cm.butPool (putP s n tg) n).Perm (Cm.butPool s n) := by
  have := (Cm.put_but_perm (s := s) ⟨n, tg⟩).filter fun p => !decide (p.name = n)
  refine List.Perm.trans this ?_
  rw [List.filter_cons, if_neg (by simp)]
  exact List.Perm.of_eq (List.filter_eq_self.2 fun e he => (List.mem_filter.1 he).2)
theorem but_putR {x : Cm.Rt} : (Cm.butRoute (putR s x) x.host x.pfx).Perm (Cm.butRoute s x.host x.pfx) := by
  have := (Cm.put_butR_perm (s := s) x).filter fun r => !Cm.isAt x.host x.pfx r
  refine List.Perm.trans this ?_
  rw [List.filter_cons, if_neg (by simp [Cm.isAt])]
  exact List.Perm.of_eq (List.filter_eq_self.2 fun e he => (List.mem_filter.1 he).2)
theorem del_pools {M : List (Cm.Bs × PV)} (h : poolsR F M s.pools) (hn : (M.map (·.1)).Nodup) : poolsR F (mdel M n) (Cm.butPool s n) := by
  rw [mdel_eq hn]; exact but_pools h
theorem poolsR.to {M : List (Cm.Bs × PV)} {ps ps' : List Cm.Pl} (h : poolsR F M ps) (hp : ps.Perm ps') : poolsR F M ps' := ⟨h.1, h.2.trans hp⟩
theorem but_none (h : Cm.there s n = false) : Cm.butPool s n = s.pools := List.filter_eq_self.2 fun e he => by
  have := List.any_eq_false.1 h e he
  simpa using this
theorem but_noneR {h' p' : Cm.Bs} (h : Cm.known s h' p' = false) : Cm.butRoute s h' p' = s.routes := List.filter_eq_self.2 fun e he => by
  have := List.any_eq_false.1 h e he
  simpa using this
theorem back_pools {M M2 : List (Cm.Bs × PV)} {tg : List Cm.Tgt} {v : PV} (h2 : poolsR G M2 (putP s n tg).pools) (hn2 : (M2.map (·.1)).Nodup) (h : poolsR F M s.pools) (hn : (M.map (·.1)).Nodup) (hFG : Fz.le F G) (hv : mget M n = some v) :
    poolsR G (mset (mdel M2 n) n v) s.pools := by
  have hd := del_pools (s := putP s n tg) (n := n) h2 hn2
  have hp := mset_perm (nodup_mdel hn2 n) n v
  refine ⟨fun e he => ?_, ?_⟩
  · rcases List.mem_cons.1 (hp.mem_iff.1 he) with rfl | he
    · exact RdF.mono (h.1 _ (mget_some hv)) hFG
    · exact hd.1 e (List.mem_filter.1 he).1
  · refine (hp.map plOf).trans ?_
    have h3 : ((butM (mdel M2 n) n).map plOf).Perm (Cm.butPool s n) := by
      have := (but_pools (s := { putP s n tg with pools := Cm.butPool (putP s n tg) n }) (n := n) hd).2
      refine this.trans ?_
      refine List.Perm.trans (List.Perm.of_eq (List.filter_eq_self.2 fun e he => (List.mem_filter.1 he).2)) but_put
    have h4 := ((but_back hn hv).map plOf).trans h.2
    refine List.Perm.trans (List.Perm.cons _ h3) (List.Perm.trans (List.Perm.cons _ ?_) h4)
    exact (but_pools h).2.symm
theorem routesR.to {M : List (Pr × Cm.Bs)} {rs rs' : List Cm.Rt} (h : routesR M rs) (hp : rs.Perm rs') : routesR M rs' := h.trans (hp.map rtK)
theorem del_routes {M : List (Pr × Cm.Bs)} {h' p' : Cm.Bs} (h : routesR M s.routes) (hn : (M.map (·.1)).Nodup) : routesR (mdel M (h', p')) (Cm.butRoute s h' p') := by
  rw [mdel_eq hn]; exact but_routes h
theorem back_routes {M M2 : List (Pr × Cm.Bs)} {x : Cm.Rt} {v : Cm.Bs} (h2 : routesR M2 (putR s x).routes) (hn2 : (M2.map (·.1)).Nodup) (h : routesR M s.routes) (hn : (M.map (·.1)).Nodup) (hv : mget M (x.host, x.pfx) = some v) :
    routesR (mset (mdel M2 (x.host, x.pfx)) (x.host, x.pfx) v) s.routes := by
  have hd : routesR (mdel M2 (x.host, x.pfx)) (Cm.butRoute s x.host x.pfx) := routesR.to (del_routes (s := putR s x) h2 hn2) but_putR
  refine (mset_perm (nodup_mdel hn2 _) _ v).trans ?_
  have h3 : (butM (mdel M2 (x.host, x.pfx)) (x.host, x.pfx)).Perm (butM M (x.host, x.pfx)) := by
    rw [mdel_eq hn2]
    refine List.Perm.trans (List.Perm.of_eq (List.filter_eq_self.2 fun e he => (List.mem_filter.1 he).2)) ?_
    rw [← mdel_eq hn2]
    exact List.Perm.trans hd (but_routes h).symm
  exact (List.Perm.cons _ h3).trans ((but_back hn hv).trans h)
theorem look_pool_ok {mp : Nat} {Mp : List (Cm.Bs × PV)} (hp : poolsR F Mp s.pools) (h : St E (mapA mp encS pvV Mp :: L) w) (n : Cm.Bs) :
    (Instr.lookup 59 (.map (some mp)) (.string (bs n)) true).run Try.prog w = .ok (.tuple #[pvV ((mget Mp n).getD ((none, 0, 0), [])), .bool (Cm.there s n)]) w := by
  have := lookup_ok_run strLaw und_pools tm_tgs h n
  rw [← there_get hp]
  cases hv : mget Mp n <;> rw [hv] at this <;> exact this
theorem look_route_ok {mr : Nat} {Mr : List (Pr × Cm.Bs)} (hr : routesR Mr s.routes) (h : St E (mapA mr encP encS Mr :: L) w) (h' p' : Cm.Bs) :
    (Instr.lookup 60 (.map (some mr)) (.agg #[.string (bs h'), .string (bs p')]) true).run Try.prog w = .ok (.tuple #[.string (bs ((mget Mr (h', p')).getD [])), .bool (Cm.known s h' p')]) w := by
  have := lookup_ok_run placeLaw und_routes tm_str h (h', p')
  rw [← known_get hr]
  cases hv : mget Mr (h', p') <;> rw [hv] at this <;> exact this
set_option maxHeartbeats 8000000 in
/-- (*Store).act. -/
theorem act_spec (I : Cm.Inv s) (hc : Cm.chk c = 0) (hr : RdF F q.1 q.2.1 2 (c.tg.flatMap tV)) (h : St E (stA F p s :: kn F :: L) w)
    (k : ∀ G w', Fz.le F G → St E (stA G p (Cm.act s c).1 :: kn G :: L) w' → R (.returned (.int .i64 (Cm.act s c).2)) w') : Calls Try.prog 26 #[.pointer (some ⟨p, 0, none⟩), cmdV c q] w R := by
  have ff := Cm.chk_fine hc
  obtain ⟨mp, mr, mc, Mp, Mr, Mc, hp, hrr, hcl, h⟩ := h.st_open
  have hnp := h.f1.nodup
  have hnr := h.f2.nodup
  refine C_conf_Store_act ?_
  unfold T_conf_Store_act
  intro w10
  have h10 : St E (blkL w.heap.size 28 (cmdL c q) :: st4 p s.ver mp mr mc Mp Mr Mc (kn F :: L)) w10 := h.alloc _
  refine ⟨_, rd_fld h10.at_blk rfl rfl, _, rd_fld h10.at_blk rfl rfl, ?_⟩
  intro w13
  have h13 := h10.alloc (.cells #[.string (ByteArray.mk #[]), .string (ByteArray.mk #[])] 75)
  refine ⟨rfl, wrOk_agg h13.at_blk (xs := celP (c.host, c.pfx)) (by simp [celP]) (by intro u hu; simp [celP] at hu; rcases hu with rfl | rfl <;> rfl), ?_⟩
  intro w14 w15
  have h15 : St E (actL w10.heap.size w.heap.size c q (st4 p s.ver mp mr mc Mp Mr Mc (kn F :: L))) w15 := (h13.wr_agg0 (xs := celP (c.host, c.pfx)) rfl).drew
  clear_value w15
  clear h13 h10
  clear_value w14 w13 w10
  generalize w10.heap.size = bp at *
  generalize w.heap.size = bc at *
  refine ⟨_, rfl, _, rd_fld h15.f2.at_blk rfl rfl, _, rd_fld h15.f1.at_blk rfl rfl, runV_ok (look_pool_ok hp h15.f3 c.pool) ⟨_, _, _, _, rfl, trivial, ?_⟩⟩
  intro w23
  have h23 : St E _ w23 := h15.drew
  clear_value w23
  refine ⟨_, rfl, _, rd_fld h23.f2.at_blk rfl rfl, _, _, rd_agg (xs := celP (c.host, c.pfx)) h23.at_blk (by intro i u hu; rw [Nat.zero_add]; exact hu), runV_ok (look_route_ok hrr h23.f4 c.host c.pfx) ⟨_, _, rfl, trivial, _, rd_cell h23.f1.at_blk rfl rfl, ?_⟩⟩
  refine ite_b (fun h1 => ?_) fun h1 => ite_b (fun h2 => ?_) fun h2 => ite_b (fun h3 => ?_) fun h3 => ?_
  · have h1 : c.act = 1 := by simpa using h1
    refine act1_spec hp h23 (ite_b (fun hb => ?_) fun hb => ?_)
    · have e : Cm.act s c = (s, 6) := by unfold Cm.act; rw [if_pos h1, if_pos hb]
      rw [e] at k
      exact k F _ (Fz.le_refl F) (St.st_mk hp hrr hcl h23.drop.drop)
    · have e : Cm.act s c = Cm.fit s (putP s c.pool c.tg) := by unfold Cm.act; rw [if_pos h1, if_neg (by simp [hb])]; rfl
      rw [e] at k
      intro w45
      have h45 : St E _ w45 := h23.drew
      clear_value w45
      refine ⟨_, rfl, _, rd_fld h45.f2.at_blk rfl rfl, _, rd_fld h45.f1.at_blk rfl rfl, _, _, _, rd_fld h45.f1.at_blk rfl rfl, Clone_spec (List.mem_cons_of_mem _ (List.mem_cons_of_mem _ at4)) h45 hr (by have := (short_of ff.t).1; omega) fun q' w51 h51 => ⟨_, _, _, rfl, ⟨rd_fld h51.f2.at_blk rfl rfl, rd_fld h51.f3.at_blk rfl rfl, trivial⟩, ?_⟩⟩
      obtain ⟨w53, hr53, h53⟩ := mapUpdate_run strLaw und_pools h51.f4 c.pool (q', c.tg)
      refine runV_ok hr53 ⟨trivial, ?_⟩
      obtain ⟨G, hFG, h54, hrG⟩ := St.freezeT (h53.sel 8 [1, 7, 0, 2, 3, 4, 5, 6])
      have hpG : poolsR G (mset Mp c.pool (q', c.tg)) (putP s c.pool c.tg).pools := put_pools (hp.mono hFG) hnp hrG
      have h55 : St E (stA G p (putP s c.pool c.tg) :: kn G :: blkL bc 28 (cmdL c q) :: L) w53 := St.st_mk (s := putP s c.pool c.tg) hpG hrr hcl (St.sel (L := kn G :: mapA mp encS pvV (mset Mp c.pool (q', c.tg)) :: blkL bp 75 (celP (c.host, c.pfx)) :: blkL bc 28 (cmdL c q) :: blkL p 63 (stL s.ver mp mr mc) :: mapA mr encP encS Mr :: mapA mc encI lvV Mc :: L) h54 7 [4, 1, 5, 6, 0, 3])
      refine config_spec (b := (none, 0, 0)) (xs := []) at0 (sz_putP I hc) h55.by_nil (by simp) fun w55 b' h56 => ⟨_, _, _, rfl, ?_⟩
      have hlen := h56.by_len
      rw [List.nil_append] at hlen h56
      refine ite_d (fun hgt => ?_) fun hgt => ?_
      · have e2 : Cm.fit s (putP s c.pool c.tg) = (s, 6) := by unfold Cm.fit; rw [if_pos (by omega)]
        rw [e2] at k
        intro w57
        have h57 : St E _ w57 := h56.drop.drew
        clear_value w57
        obtain ⟨mp2, mr2, mc2, Mp2, Mr2, Mc2, hp2, hr2, hc2, h58⟩ := h57.st_open
        have hn2 := h58.f1.nodup
        refine ⟨_, rfl, _, rd_fld h58.at_blk rfl rfl, _, rd_fld h58.f5.at_blk rfl rfl, ?_⟩
        obtain ⟨w62, hr62, h62⟩ := delete_run strLaw und_pools h58.f1 c.pool #[59, 9] 0 rfl
        refine runV_ok hr62 ⟨trivial, ite_b (fun hth => ?_) fun hth => ?_⟩
        · intro w63
          have h63 : St E _ w63 := h62.drew
          clear_value w63
          refine ⟨_, rfl, _, rd_fld h63.f1.at_blk rfl rfl, _, rd_fld h63.f5.at_blk rfl rfl, ?_⟩
          rw [← there_get hp] at hth
          obtain ⟨v, hv⟩ := Option.isSome_iff_exists.1 hth
          rw [hv]
          obtain ⟨w67, hr67, h67⟩ := mapUpdate_run strLaw und_pools h63 c.pool v
          exact runV_ok hr67 ⟨trivial, k G _ hFG (St.st_mk (back_pools hp2 hn2 hp hnp hFG hv) hr2 hc2 (h67.sel 6 [1, 0, 2, 3, 4]))⟩
        · have hd : poolsR G (mdel Mp2 c.pool) s.pools := by
            have := poolsR.to (del_pools (n := c.pool) hp2 hn2) but_put
            rwa [but_none hth] at this
          exact k G _ hFG (St.st_mk hd hr2 hc2 (h62.sel 6 [1, 0, 2, 3, 4]))
      · have e2 : Cm.fit s (putP s c.pool c.tg) = (putP s c.pool c.tg, 0) := by unfold Cm.fit; rw [if_neg (by omega)]
        rw [e2] at k
        exact k G _ hFG (h56.drop.sel 3 [0, 1])
  · have h1 : c.act ≠ 1 := by simpa using h1
    have h2 : c.act = 2 := by simpa using h2
    refine ite_n (fun hth => ?_) fun hth => ?_
    · have e : Cm.act s c = (s, 8) := by unfold Cm.act; rw [if_neg h1, if_pos h2, if_pos (by simp [hth])]
      rw [e] at k
      exact k F _ (Fz.le_refl F) (St.st_mk hp hrr hcl h23.drop.drop)
    · obtain ⟨w71, hr71, h71⟩ := range_run und_routes h23.f4
      refine ⟨_, rfl, _, rd_fld h23.f2.at_blk rfl rfl, runV_ok hr71 ⟨_, rfl, act2_spec hrr (L := kn F :: L) h71 (fun hu w' h' => ?_) fun hu w89 h89 => ?_⟩⟩
      · have e : Cm.act s c = (s, 13) := by unfold Cm.act; rw [if_neg h1, if_pos h2, if_neg (by simp [hth]), if_pos hu]
        rw [e] at k
        exact k F _ (Fz.le_refl F) (St.st_mk hp hrr hcl h'.drop.drop)
      · have e : Cm.act s c = ({ s with pools := Cm.butPool s c.pool }, 0) := by unfold Cm.act; rw [if_neg h1, if_pos h2, if_neg (by simp [hth]), if_neg (by simp [hu]), Cm.fit_butPool I]
        rw [e] at k
        intro w90
        have h90 : St E _ w90 := h89.drew
        clear_value w90
        refine ⟨_, rfl, _, rd_fld h90.f2.at_blk rfl rfl, _, rd_fld h90.f1.at_blk rfl rfl, ?_⟩
        obtain ⟨w95, hr95, h95⟩ := delete_run strLaw und_pools h90.f3 c.pool #[59, 9] 0 rfl
        exact runV_ok hr95 ⟨trivial, k F _ (Fz.le_refl F) (St.st_mk (s := { s with pools := Cm.butPool s c.pool }) (del_pools hp hnp) hrr hcl (h95.sel 6 [3, 0, 4, 5]))⟩
  · have h1 : c.act ≠ 1 := by simpa using h1
    have h2 : c.act ≠ 2 := by simpa using h2
    have h3 : c.act = 3 := by simpa using h3
    refine ite_n (fun hth => ?_) fun hth => ?_
    · have e : Cm.act s c = (s, 8) := by unfold Cm.act; rw [if_neg h1, if_neg h2, if_pos h3, if_pos (by simp [hth])]
      rw [e] at k
      exact k F _ (Fz.le_refl F) (St.st_mk hp hrr hcl h23.drop.drop)
    · refine act3_spec hrr h23 (ite_b (fun hb => ?_) fun hb => ?_)
      · have e : Cm.act s c = (s, 6) := by unfold Cm.act; rw [if_neg h1, if_neg h2, if_pos h3, if_neg (by simp [hth]), if_pos hb]
        rw [e] at k
        exact k F _ (Fz.le_refl F) (St.st_mk hp hrr hcl h23.drop.drop)
      · have e : Cm.act s c = Cm.fit s (putR s ⟨c.host, c.pfx, c.pool⟩) := by unfold Cm.act; rw [if_neg h1, if_neg h2, if_pos h3, if_neg (by simp [hth]), if_neg (by simp [hb])]; rfl
        rw [e] at k
        intro w110
        have h110 : St E _ w110 := h23.drew
        clear_value w110
        refine ⟨_, rfl, _, rd_fld h110.f2.at_blk rfl rfl, _, _, rd_agg (xs := celP (c.host, c.pfx)) h110.at_blk (by intro i u hu; rw [Nat.zero_add]; exact hu), _, rd_fld h110.f1.at_blk rfl rfl, ?_⟩
        obtain ⟨w116, hr116, h116⟩ := mapUpdate_run placeLaw und_routes h110.f4 (c.host, c.pfx) c.pool
        refine runV_ok hr116 ⟨trivial, ?_⟩
        have h117 : St E (stA F p (putR s ⟨c.host, c.pfx, c.pool⟩) :: kn F :: blkL bp 75 (celP (c.host, c.pfx)) :: L) w116 := St.st_mk (s := putR s ⟨c.host, c.pfx, c.pool⟩) hp (put_routes (x := ⟨c.host, c.pfx, c.pool⟩) hrr hnr) hcl (St.sel (L := mapA mr encP encS (mset Mr (c.host, c.pfx) c.pool) :: blkL bp 75 (celP (c.host, c.pfx)) :: blkL bc 28 (cmdL c q) :: blkL p 63 (stL s.ver mp mr mc) :: mapA mp encS pvV Mp :: mapA mc encI lvV Mc :: kn F :: L) h116 7 [3, 4, 0, 5, 6, 1])
        refine config_spec (b := (none, 0, 0)) (xs := []) at0 (sz_putR I hc) h117.by_nil (by simp) fun w55 b' h56 => ⟨_, _, _, rfl, ?_⟩
        have hlen := h56.by_len
        rw [List.nil_append] at hlen h56
        refine ite_d (fun hgt => ?_) fun hgt => ?_
        · have e2 : Cm.fit s (putR s ⟨c.host, c.pfx, c.pool⟩) = (s, 6) := by unfold Cm.fit; rw [if_pos (by omega)]
          rw [e2] at k
          intro w57
          have h57 : St E _ w57 := h56.drop.drew
          clear_value w57
          obtain ⟨mp2, mr2, mc2, Mp2, Mr2, Mc2, hp2, hr2, hc2, h58⟩ := h57.st_open
          have hn2 := h58.f2.nodup
          refine ⟨_, rfl, _, rd_fld h58.at_blk rfl rfl, _, _, rd_agg (xs := celP (c.host, c.pfx)) h58.f5.at_blk (by intro i u hu; rw [Nat.zero_add]; exact hu), ?_⟩
          obtain ⟨w62, hr62, h62⟩ := delete_run placeLaw und_routes h58.f2 (c.host, c.pfx) #[60, 75] 0 rfl
          refine runV_ok hr62 ⟨trivial, ite_b (fun hkn => ?_) fun hkn => ?_⟩
          · intro w63
            have h63 : St E _ w63 := h62.drew
            clear_value w63
            refine ⟨_, rfl, _, rd_fld h63.f1.at_blk rfl rfl, _, _, rd_agg (xs := celP (c.host, c.pfx)) h63.f5.at_blk (by intro i u hu; rw [Nat.zero_add]; exact hu), ?_⟩
            rw [← known_get hrr] at hkn
            obtain ⟨v, hv⟩ := Option.isSome_iff_exists.1 hkn
            rw [hv]
            obtain ⟨w67, hr67, h67⟩ := mapUpdate_run placeLaw und_routes h63 (c.host, c.pfx) v
            exact runV_ok hr67 ⟨trivial, k F _ (Fz.le_refl F) (St.st_mk hp2 (back_routes (x := ⟨c.host, c.pfx, c.pool⟩) hr2 hn2 hrr hnr hv) hc2 (h67.sel 6 [1, 2, 0, 3, 4]))⟩
          · have hd : routesR (mdel Mr2 (c.host, c.pfx)) s.routes := by
              have := routesR.to (del_routes (s := putR s ⟨c.host, c.pfx, c.pool⟩) (h' := c.host) (p' := c.pfx) hr2 hn2) (but_putR (x := ⟨c.host, c.pfx, c.pool⟩))
              rwa [but_noneR hkn] at this
            exact k F _ (Fz.le_refl F) (St.st_mk hp2 hd hc2 (h62.sel 6 [1, 2, 0, 3, 4]))
        · have e2 : Cm.fit s (putR s ⟨c.host, c.pfx, c.pool⟩) = (putR s ⟨c.host, c.pfx, c.pool⟩, 0) := by unfold Cm.fit; rw [if_neg (by omega)]
          rw [e2] at k
          exact k F _ (Fz.le_refl F) (h56.drop.sel 3 [0, 1])
  · have h1 : c.act ≠ 1 := by simpa using h1
    have h2 : c.act ≠ 2 := by simpa using h2
    have h3 : c.act ≠ 3 := by simpa using h3
    refine ite_n (fun hkn => ?_) fun hkn => ?_
    · have e : Cm.act s c = (s, 8) := by unfold Cm.act; rw [if_neg h1, if_neg h2, if_neg h3, if_pos (by simp [hkn])]
      rw [e] at k
      exact k F _ (Fz.le_refl F) (St.st_mk hp hrr hcl h23.drop.drop)
    · have e : Cm.act s c = ({ s with routes := Cm.butRoute s c.host c.pfx }, 0) := by unfold Cm.act; rw [if_neg h1, if_neg h2, if_neg h3, if_neg (by simp [hkn]), Cm.fit_butRoute I]
      rw [e] at k
      intro w133
      have h133 : St E _ w133 := h23.drew
      clear_value w133
      refine ⟨_, rfl, _, rd_fld h133.f2.at_blk rfl rfl, _, _, rd_agg (xs := celP (c.host, c.pfx)) h133.at_blk (by intro i u hu; rw [Nat.zero_add]; exact hu), ?_⟩
      obtain ⟨w139, hr139, h139⟩ := delete_run placeLaw und_routes h133.f4 (c.host, c.pfx) #[60, 75] 0 rfl
      exact runV_ok hr139 ⟨trivial, k F _ (Fz.le_refl F) (St.st_mk (s := { s with routes := Cm.butRoute s c.host c.pfx }) hp (del_routes hrr hnr) hcl (h139.sel 6 [3, 4, 0, 5]))⟩
end
end Go.Vc

/-
  The program's store does a command.
-/
namespace Go.Vc
open Go Go.Proofs Go.Proofs.Ytcpmfjclkdjfmaa
set_option maxRecDepth 100000
section
variable {E w : World} {L : List Asrt} {R : Ending → World → Prop} {F G : Fz} {p : Nat} {s : Cm.Sm} {c : Cm.Cmd} {q : Sl}
abbrev rsL (e v : Int) : List Value := [.int .i64 e, .int .i64 v]
abbrev doL (br bc : Nat) (e v : Int) (c : Cm.Cmd) (q : Sl) (L : List Asrt) : List Asrt := blkL br 37 (rsL e v) :: blkL bc 28 (cmdL c q) :: L
theorem one_res (e v : Int) : ∀ u ∈ rsL e v, one u = true := by intro u hu; simp at hu; rcases hu with rfl | rfl <;> rfl
theorem rd_res {b t : Nat} {e v : Int} (h : St E (blkL b t (rsL e v) :: L) w) : rd w ⟨b, 0, none⟩ (.agg #[.int .i64 e, .int .i64 v]) := rd_agg (xs := rsL e v) h.at_blk (by intro i u hu; rw [Nat.zero_add]; exact hu)
theorem ok_res {b t : Nat} {l : List Value} (h : St E (blkL b t l :: L) w) (hl : l.length = 2) (e v : Int) : wrOk w ⟨b, 0, none⟩ (.agg #[.int .i64 e, .int .i64 v]) := wrOk_agg h.at_blk (xs := rsL e v) (by rw [hl]; exact Nat.le_refl 2) (one_res e v)
theorem St.wr_res {b t : Nat} {l : List Value} (h : St E (blkL b t l :: L) w) (hl : l.length = 2) (e v : Int) : St E (blkL b t (rsL e v) :: L) (wr w ⟨b, 0, none⟩ (.agg #[.int .i64 e, .int .i64 v])) := h.wr_agg0 (xs := rsL e v) (by rw [hl]; rfl)
theorem rd_cmd {b : Nat} (h : St E (blkL b 28 (cmdL c q) :: L) w) : rd w ⟨b, 0, none⟩ (cmdV c q) := rd_agg (xs := cmdL c q) h.at_blk (by intro i u hu; rw [Nat.zero_add]; exact hu)
theorem St.do_shut {A B : Asrt} {mp mr mc : Nat} {Mp : List (Cm.Bs × PV)} {Mr : List (Pr × Cm.Bs)} {Mc : List (Int × LV)} (hp : poolsR F Mp s.pools) (hr : routesR Mr s.routes) (hc : clientsR Mc s.l) (h : St E (A :: B :: st4 p s.ver mp mr mc Mp Mr Mc L) w) : St E (A :: B :: stA F p s :: L) w :=
  St.sel (L := stA F p s :: A :: B :: L) (St.st_mk hp hr hc (h.sel 6 [2, 3, 4, 5, 0, 1])) 3 [1, 2, 0]
abbrev seenL (x : LV) : List Value := [.int .i64 x.1, .int .i64 x.2.1, .int .i64 x.2.2]
theorem ok_seen {b t : Nat} {l : List Value} (h : St E (blkL b t l :: L) w) (hl : l.length = 3) (x : LV) : wrOk w ⟨b, 0, none⟩ (lvV x) := wrOk_agg h.at_blk (xs := seenL x) (by rw [hl]; simp) (by intro u hu; simp at hu; rcases hu with rfl | rfl | rfl <;> rfl)
theorem St.wr_seen {b t : Nat} {l : List Value} (h : St E (blkL b t l :: L) w) (hl : l.length = 3) (x : LV) : St E (blkL b t (seenL x) :: L) (wr w ⟨b, 0, none⟩ (lvV x)) := h.wr_agg0 (xs := seenL x) (by rw [hl]; rfl)
set_option maxHeartbeats 2000000 in
theorem do1_spec {br bc mp mr mc : Nat} {e v : Int} {Mp : List (Cm.Bs × PV)} {Mr : List (Pr × Cm.Bs)} {Mc : List (Int × LV)} {Kn Kr : World → Prop} {Kp : List PanicEntry → World → Prop} (hcl : clientsR Mc s.l)
    (h : St E (doL br bc e v c q (st4 p s.ver mp mr mc Mp Mr Mc L)) w)
    (k1 : ¬ (0 < c.client ∧ c.seq = (Cm.seenC s c.client).1) → ¬ (0 < c.client ∧ c.seq < (Cm.seenC s c.client).1) → ∀ w', St E (doL br bc e v c q (st4 p s.ver mp mr mc Mp Mr Mc L)) w' → Kn w')
    (k2 : 0 < c.client ∧ c.seq = (Cm.seenC s c.client).1 → ∀ w', St E (doL br bc (Cm.seenC s c.client).2.1 (Cm.seenC s c.client).2.2 c q (st4 p s.ver mp mr mc Mp Mr Mc L)) w' → Kr w')
    (k3 : ¬ (0 < c.client ∧ c.seq = (Cm.seenC s c.client).1) → 0 < c.client ∧ c.seq < (Cm.seenC s c.client).1 → ∀ w', St E (doL br bc 12 s.ver c q (st4 p s.ver mp mr mc Mp Mr Mc L)) w' → Kr w') :
    T_conf_Store_Do_1 (some ⟨p, 0, none⟩) ⟨bc, 0, none⟩ ⟨br, 0, none⟩ (decide (c.client > 0)) w Kn Kr Kp := by
  unfold T_conf_Store_Do_1
  refine ite_b (fun hb => ?_) fun hb => k1 (fun hx => ?_) (fun hx => ?_) _ h
  · have hcc : 0 < c.client := of_decide_eq_true hb
    intro w36
    have h36 : St E _ w36 := h.drew
    clear_value w36
    have tail : ∀ (w : World) (bl : Nat), St E (blkL bl 79 (seenL (Cm.seenC s c.client)) :: doL br bc e v c q (st4 p s.ver mp mr mc Mp Mr Mc L)) w →
        ∃ x47 : Int, rd w ((⟨bc, 0, none⟩ : Addr).add 2) (.int .i64 x47) ∧ ∃ x48 : Int, rd w ⟨bl, 0, none⟩ (.int .i64 x48) ∧ if ((x47 : Int) == x48) = true then (∃ x49 : Int, ∃ x50 : Int, rd w ((⟨bl, 0, none⟩ : Addr).add 1) (.agg #[.int .i64 x49, .int .i64 x50]) ∧ (.agg #[.int .i64 x49, .int .i64 x50] : Value).cells.size = 2 ∧ wrOk w ⟨br, 0, none⟩ (.agg #[.int .i64 x49, .int .i64 x50]) ∧ let w51 : World := wr w ⟨br, 0, none⟩ (.agg #[.int .i64 x49, .int .i64 x50])
          Kr w51) else (∃ x52 : Int, rd w ((⟨bc, 0, none⟩ : Addr).add 2) (.int .i64 x52) ∧ ∃ x53 : Int, rd w ⟨bl, 0, none⟩ (.int .i64 x53) ∧ if (decide ((x52 : Int) < x53)) = true then (∃ a54, some (⟨p, 0, none⟩ : Addr) = some a54 ∧ ∃ x55 : Int, rd w a54 (.int .i64 x55) ∧ (.agg #[.int .i64 12, .int .i64 x55] : Value).cells.size = 2 ∧ wrOk w ⟨br, 0, none⟩ (.agg #[.int .i64 12, .int .i64 x55]) ∧ let w56 : World := wr w ⟨br, 0, none⟩ (.agg #[.int .i64 12, .int .i64 x55])
          Kr w56) else (Kn w)) := by
      intro w bl h
      refine ⟨_, rd_fld h.f2.at_blk rfl rfl, _, rd_cell h.at_blk rfl rfl, ite_b (fun h1 => ?_) fun h1 => ?_⟩
      · refine ⟨_, _, rd_agg (xs := rsL (Cm.seenC s c.client).2.1 (Cm.seenC s c.client).2.2) h.at_blk (off := 1) (by intro i u hu; rw [Nat.add_comm]; exact hu), rfl, ok_res h.f1 rfl _ _, k2 ⟨hcc, by simpa using h1⟩ _ (h.f1.wr_res rfl _ _).f1.drop⟩
      · have hne : ¬ (0 < c.client ∧ c.seq = (Cm.seenC s c.client).1) := fun hx => by rw [hx.2] at h1; simp at h1
        refine ⟨_, rd_fld h.f2.at_blk rfl rfl, _, rd_cell h.at_blk rfl rfl, ite_d (fun h2 => ?_) fun h2 => k1 hne (fun hx => h2 hx.2) _ h.drop⟩
        exact ⟨_, rfl, _, rd_cell h.f3.at_blk rfl rfl, rfl, ok_res h.f1 rfl _ _, k3 hne ⟨hcc, h2⟩ _ (h.f1.wr_res rfl _ _).f1.drop⟩
    refine ⟨_, rfl, _, rd_fld h36.f2.at_blk rfl rfl, _, rd_fld h36.f1.at_blk rfl rfl, ?_, ?_⟩
    · refine runV_ok (look_client hcl h36.f5 c.client) ⟨_, _, _, rfl, trivial, ?_⟩
      intro w45
      have h45 := h36.alloc (.cells #[.int .i64 0, .int .i64 0, .int .i64 0] 79)
      refine ⟨trivial, rfl, ok_seen h45 rfl _, ?_⟩
      intro w46
      exact ⟨trivial, tail _ _ (h45.wr_seen rfl _)⟩
    · intro w57
      have h57 : St E _ w57 := h36.alloc (.cells #[.int .i64 0, .int .i64 0, .int .i64 0] 79)
      refine ⟨⟨rd_fld h57.f2.at_blk rfl rfl, rd_fld h57.f3.at_blk rfl rfl, trivial⟩, runV_ok (look_client hcl (St.sel h57 7 [6, 0, 1, 2, 3, 4, 5]) c.client) ⟨_, _, _, rfl, trivial, rfl, ok_seen h57 rfl _, ?_⟩⟩
      intro w63
      exact ⟨trivial, tail _ _ (h57.wr_seen rfl _)⟩
  · exact absurd hx.1 (of_decide_eq_false hb)
  · exact absurd hx.1 (of_decide_eq_false hb)
theorem do2_spec {br bc mp mr mc : Nat} {e v : Int} {Mp : List (Cm.Bs × PV)} {Mr : List (Pr × Cm.Bs)} {Mc : List (Int × LV)} {Kn : Int → World → Prop} {Kp : List PanicEntry → World → Prop} (I : Cm.Inv s) (hc : Cm.chk c = 0) (hr : RdF F q.1 q.2.1 2 (c.tg.flatMap tV))
    (hp : poolsR F Mp s.pools) (hrr : routesR Mr s.routes) (hcl : clientsR Mc s.l) (h : St E (doL br bc e v c q (st4 p s.ver mp mr mc Mp Mr Mc (kn F :: L))) w)
    (k : ∀ G w', Fz.le F G → St E (doL br bc e v c q (stA G p (Cm.step s c).1 :: kn G :: L)) w' → Kn (Cm.step s c).2 w') :
    T_conf_Store_Do_2 (some ⟨p, 0, none⟩) ⟨bc, 0, none⟩ 12 w Kn Kp := by
  have nf : ∀ {w : World} {s' : Cm.Sm} {er : Int}, Cm.step s c = (s', er) → s' = s → St E (doL br bc e v c q (st4 p s.ver mp mr mc Mp Mr Mc (kn F :: L))) w → Kn er w := fun hs he h => by
    subst he
    rw [hs] at k
    exact k F _ (Fz.le_refl F) (h.do_shut hp hrr hcl)
  have go : ¬ (0 ≤ c.expect ∧ c.expect ≠ s.ver) → ∀ {w : World}, St E (doL br bc e v c q (st4 p s.ver mp mr mc Mp Mr Mc (kn F :: L))) w →
      (∃ a90, some (⟨p, 0, none⟩ : Addr) = some a90 ∧ ∃ x91 : Int, rd w a90 (.int .i64 x91) ∧ if ((x91 : Int) == 1099511627776) = true then (Kn 6 w) else (∃ x92 : Int, ∃ x93 : Int, ∃ x94 : Int, ∃ x95 : Int, ∃ s96 : ByteArray, ∃ s97 : ByteArray, ∃ s98 : ByteArray, ∃ s99a : Option Addr, ∃ s99l : Nat, ∃ s99c : Nat, rd w ⟨bc, 0, none⟩ (.agg #[.int .i64 x92, .int .i64 x93, .int .i64 x94, .int .i64 x95, .string s96, .string s97, .string s98, .slice s99a s99l s99c]) ∧ Calls Try.prog 26 #[.pointer (some (⟨p, 0, none⟩ : Addr)), .agg #[.int .i64 x92, .int .i64 x93, .int .i64 x94, .int .i64 x95, .string s96, .string s97, .string s98, .slice s99a s99l s99c]] w (ret (fun r100 w101 => ∃ x102 : Int, r100 = .int .i64 x102 ∧ Kn x102 w101) Kp))) := fun hne w h => by
    refine ⟨_, rfl, _, rd_cell h.f2.at_blk rfl rfl, ite_b (fun h1 => ?_) fun h1 => ?_⟩
    · exact nf (by unfold Cm.step; rw [if_neg hne, if_pos (by simpa using h1)]) rfl h
    · have hst : Cm.step s c = Cm.act s c := by unfold Cm.step; rw [if_neg hne, if_neg (by simpa using h1)]
      rw [hst] at k
      refine ⟨_, _, _, _, _, _, _, _, _, _, rd_cmd h.f1, act_spec I hc hr ((h.do_shut hp hrr hcl).sel 4 [2, 3, 0, 1]) fun G w' hFG h' => ⟨_, rfl, k G _ hFG (St.sel (L := _ :: _ :: _ :: _ :: L) h' 4 [2, 3, 0, 1])⟩⟩
  unfold T_conf_Store_Do_2 T_conf_Store_Do_3
  intro w80
  have h80 : St E _ w80 := h.drew
  clear_value w80
  refine ⟨_, rd_fld h80.f1.at_blk rfl rfl, ite_d (fun h1 => ?_) fun h1 => ?_⟩
  · refine ⟨_, rd_fld h80.f1.at_blk rfl rfl, _, rfl, _, rd_cell h80.f2.at_blk rfl rfl, ite_b (fun h2 => ?_) fun h2 => ?_⟩
    · exact nf (by unfold Cm.step; rw [if_pos ⟨h1, by simpa using h2⟩]) rfl h80
    · exact go (fun hx => by simp at h2; exact hx.2 h2) h80
  · exact ite_b (fun h2 => by cases h2) fun _ => go (fun hx => h1 hx.1) h80
set_option maxHeartbeats 2000000 in
/-- (*Store).Do: P8.2. -/
theorem Do_spec (I : Cm.Inv s) (hr : RdF F q.1 q.2.1 2 (c.tg.flatMap tV)) (ho : okC c) (h : St E (stA F p s :: kn F :: L) w)
    (k : ∀ G w', Fz.le F G → St E (stA G p (Cm.doC s c).1 :: kn G :: L) w' → R (.returned (.agg #[.int .i64 (Cm.doC s c).2.1, .int .i64 (Cm.doC s c).2.2])) w') : Calls Try.prog 10 #[.pointer (some ⟨p, 0, none⟩), cmdV c q] w R := by
  obtain ⟨mp, mr, mc, Mp, Mr, Mc, hp, hrr, hcl, h⟩ := h.st_open
  refine C_conf_Store_Do ?_
  unfold T_conf_Store_Do
  intro w10
  have h10 : St E (blkL w.heap.size 28 (cmdL c q) :: st4 p s.ver mp mr mc Mp Mr Mc (kn F :: L)) w10 := h.alloc _
  intro w11
  have h11 : St E (doL w10.heap.size w.heap.size 0 0 c q (st4 p s.ver mp mr mc Mp Mr Mc (kn F :: L))) w11 := h10.alloc _
  clear_value w11
  clear h10
  clear_value w10
  generalize w10.heap.size = br at *
  generalize w.heap.size = bc at *
  have done : ∀ {w : World} {e v : Int} {s' : Cm.Sm} {G : Fz}, Fz.le F G → Cm.doC s c = (s', e, v) → St E (doL br bc e v c q (stA G p s' :: kn G :: L)) w →
      ∃ x136 : Int, ∃ x137 : Int, rd w ⟨br, 0, none⟩ (.agg #[.int .i64 x136, .int .i64 x137]) ∧ R (.returned (.agg #[.int .i64 x136, .int .i64 x137])) w := fun hFG hd h => by
    rw [hd] at k
    exact ⟨_, _, rd_res h, k _ _ hFG h.drop.drop⟩
  have back : ∀ {w : World} {e v : Int}, St E (doL br bc e v c q (st4 p s.ver mp mr mc Mp Mr Mc (kn F :: L))) w → St E (doL br bc e v c q (stA F p s :: kn F :: L)) w := fun h =>
    h.do_shut hp hrr hcl
  refine ite_some ⟨_, _, _, _, _, _, _, _, _, _, rd_cmd h11.f1, Check_spec (List.mem_cons_of_mem _ (List.mem_cons_of_mem _ at4)) h11 hr ho fun w24 h24 => ⟨_, rfl, ite_b (fun h1 => ?_) fun h1 => ?_⟩⟩
  · have h1 : Cm.chk c ≠ 0 := by simpa using h1
    refine ⟨_, rfl, _, rd_cell h24.f2.at_blk rfl rfl, rfl, ok_res h24 rfl _ _, ?_⟩
    intro w28
    exact done (Fz.le_refl F) (by unfold Cm.doC; rw [if_pos h1]) (back (h24.wr_res rfl _ _))
  · have hc : Cm.chk c = 0 := by simpa using h1
    refine ⟨_, rd_fld h24.f1.at_blk rfl rfl, do1_spec hcl h24 (fun n1 n2 w74 h74 => ?_) (fun y1 w74 h74 => ?_) (fun n1 y2 w74 h74 => ?_)⟩
    · refine do2_spec I hc hr hp hrr hcl h74 fun G w107 hFG h107 => ?_
      have hd : Cm.doC s c = (if 0 < c.client then Cm.note { (Cm.step s c).1 with ver := Cm.vers (Cm.step s c) } ⟨c.client, c.seq, (Cm.step s c).2, Cm.vers (Cm.step s c)⟩ else { (Cm.step s c).1 with ver := Cm.vers (Cm.step s c) }, (Cm.step s c).2, Cm.vers (Cm.step s c)) := by
        unfold Cm.doC; rw [if_neg (by simpa using hc), if_neg n1, if_neg n2]
      obtain ⟨J, hv, hl, _, _, hz⟩ := Cm.step_keeps I hc
      generalize hst : Cm.step s c = st at *
      obtain ⟨s', er⟩ := st
      simp only at *
      obtain ⟨mp, mr, mc, Mp, Mr, Mc, hp, hrr, hcl, h107⟩ := (h107.sel 3 [2, 0, 1] : St E (stA G p s' :: blkL br 37 (rsL 0 0) :: blkL bc 28 (cmdL c q) :: kn G :: L) w107).st_open
      have fin : ∀ {w : World}, St E (st4 p (Cm.vers (s', er)) mp mr mc Mp Mr Mc (doL br bc 0 0 c q (kn G :: L))) w → (∃ a115, some (⟨p, 0, none⟩ : Addr) = some a115 ∧ ∃ x116 : Int, rd w a115 (.int .i64 x116) ∧ let w117 : World := w.alloc (.cells #[.int .i64 0, .int .i64 0] 37)
          (.agg #[.int .i64 er, .int .i64 x116] : Value).cells.size = 2 ∧ wrOk w117 (⟨w.heap.size, 0, none⟩ : Addr) (.agg #[.int .i64 er, .int .i64 x116]) ∧ let w118 : World := wr w117 (⟨w.heap.size, 0, none⟩ : Addr) (.agg #[.int .i64 er, .int .i64 x116])
          ∃ x119 : Int, rd w118 ((⟨bc, 0, none⟩ : Addr).add 1) (.int .i64 x119) ∧ if (decide ((x119 : Int) > 0)) = true then (let w120 : World := w118.drew
          ∃ a121, some (⟨p, 0, none⟩ : Addr) = some a121 ∧ ∃ m122 : Option Nat, rd w120 (a121.add 3) (.map m122) ∧ ∃ x123 : Int, rd w120 ((⟨bc, 0, none⟩ : Addr).add 1) (.int .i64 x123) ∧ ∃ x124 : Int, rd w120 ((⟨bc, 0, none⟩ : Addr).add 2) (.int .i64 x124) ∧ ∃ x125 : Int, ∃ x126 : Int, rd w120 (⟨w.heap.size, 0, none⟩ : Addr) (.agg #[.int .i64 x125, .int .i64 x126]) ∧ runV Try.prog (Instr.mapUpdate 61 (.map m122) (.int .i64 x123) (.agg #[.int .i64 x124, .int .i64 x125, .int .i64 x126])) w120 (fun _ w127 => (True) ∧ ∃ x128 : Int, ∃ x129 : Int, rd w127 (⟨w.heap.size, 0, none⟩ : Addr) (.agg #[.int .i64 x128, .int .i64 x129]) ∧ (.agg #[.int .i64 x128, .int .i64 x129] : Value).cells.size = 2 ∧ wrOk w127 (⟨br, 0, none⟩ : Addr) (.agg #[.int .i64 x128, .int .i64 x129]) ∧ let w130 : World := wr w127 (⟨br, 0, none⟩ : Addr) (.agg #[.int .i64 x128, .int .i64 x129])
          ∃ x131 : Int, ∃ x132 : Int, rd w130 (⟨br, 0, none⟩ : Addr) (.agg #[.int .i64 x131, .int .i64 x132]) ∧ R (.returned (.agg #[.int .i64 x131, .int .i64 x132])) w130) (pan R)) else (∃ x133 : Int, ∃ x134 : Int, rd w118 (⟨w.heap.size, 0, none⟩ : Addr) (.agg #[.int .i64 x133, .int .i64 x134]) ∧ (.agg #[.int .i64 x133, .int .i64 x134] : Value).cells.size = 2 ∧ wrOk w118 (⟨br, 0, none⟩ : Addr) (.agg #[.int .i64 x133, .int .i64 x134]) ∧ let w135 : World := wr w118 (⟨br, 0, none⟩ : Addr) (.agg #[.int .i64 x133, .int .i64 x134])
          ∃ x136 : Int, ∃ x137 : Int, rd w135 (⟨br, 0, none⟩ : Addr) (.agg #[.int .i64 x136, .int .i64 x137]) ∧ R (.returned (.agg #[.int .i64 x136, .int .i64 x137])) w135)) := fun {w} h => by
        refine ⟨_, rfl, _, rd_cell h.at_blk rfl rfl, ?_⟩
        intro w117
        have h117 := h.alloc (.cells #[.int .i64 0, .int .i64 0] 37)
        refine ⟨rfl, ok_res h117 rfl _ _, ?_⟩
        intro w118
        have h118 : St E (blkL w.heap.size 37 (rsL er (Cm.vers (s', er))) :: st4 p (Cm.vers (s', er)) mp mr mc Mp Mr Mc (doL br bc 0 0 c q (kn G :: L))) w118 := h117.wr_res rfl _ _
        clear_value w118
        generalize w.heap.size = b2 at *
        refine ⟨_, rd_fld (St.sel h118 7 [6, 0, 1, 2, 3, 4, 5]).at_blk rfl rfl, ite_d (fun hcc => ?_) fun hcc => ?_⟩
        · intro w120
          have h120 : St E _ w120 := h118.drew
          clear_value w120
          have hc6 := (St.sel h120 7 [6, 0, 1, 2, 3, 4, 5]).at_blk
          refine ⟨_, rfl, _, rd_fld h120.f1.at_blk rfl rfl, _, rd_fld hc6 rfl rfl, _, rd_fld hc6 rfl rfl, _, _, rd_res h120, ?_⟩
          obtain ⟨w127, hr127, h127⟩ := mapUpdate_run intLaw und_clients h120.f4 c.client ((c.seq, er, Cm.vers (s', er)) : LV)
          have h127 : St E (mapA mc encI lvV (mset Mc c.client (c.seq, er, Cm.vers (s', er))) :: blkL b2 37 (rsL er (Cm.vers (s', er))) :: blkL p 63 (stL (Cm.vers (s', er)) mp mr mc) :: mapA mp encS pvV Mp :: mapA mr encP encS Mr :: doL br bc 0 0 c q (kn G :: L)) w127 := h127
          refine runV_ok hr127 ⟨trivial, _, _, rd_res h127.f1, rfl, ok_res h127.f5 rfl _ _, ?_⟩
          intro w130
          have h130 := h127.f5.wr_res rfl er (Cm.vers (s', er))
          have hcl2 : clientsR (mset Mc c.client (c.seq, er, Cm.vers (s', er))) (Cm.note { s' with ver := Cm.vers (s', er) } ⟨c.client, c.seq, er, Cm.vers (s', er)⟩).l := put_clients (x := ⟨c.client, c.seq, er, Cm.vers (s', er)⟩) hcl h120.f4.nodup
          refine done hFG hd ?_
          rw [if_pos hcc]
          exact St.sel (L := _ :: _ :: _ :: kn G :: L) (St.st_mk (s := Cm.note { s' with ver := Cm.vers (s', er) } ⟨c.client, c.seq, er, Cm.vers (s', er)⟩) hp hrr hcl2 (St.sel (L := blkL br 37 (rsL er (Cm.vers (s', er))) :: mapA mc encI lvV (mset Mc c.client (c.seq, er, Cm.vers (s', er))) :: blkL b2 37 (rsL er (Cm.vers (s', er))) :: blkL p 63 (stL (Cm.vers (s', er)) mp mr mc) :: mapA mp encS pvV Mp :: mapA mr encP encS Mr :: blkL bc 28 (cmdL c q) :: kn G :: L) h130 7 [3, 4, 5, 1, 0, 6])) 3 [1, 2, 0]
        · refine ⟨_, _, rd_res h118, rfl, ok_res h118.f5 rfl _ _, ?_⟩
          intro w135
          have h135 := h118.f5.wr_res rfl er (Cm.vers (s', er))
          refine done hFG hd ?_
          rw [if_neg hcc]
          exact St.sel (L := _ :: _ :: _ :: kn G :: L) (St.st_mk (s := { s' with ver := Cm.vers (s', er) }) hp hrr hcl (St.sel (L := blkL br 37 (rsL er (Cm.vers (s', er))) :: blkL b2 37 (rsL er (Cm.vers (s', er))) :: blkL p 63 (stL (Cm.vers (s', er)) mp mr mc) :: mapA mp encS pvV Mp :: mapA mr encP encS Mr :: mapA mc encI lvV Mc :: blkL bc 28 (cmdL c q) :: kn G :: L) h135 7 [2, 3, 4, 5, 0, 6])) 3 [1, 2, 0]
      unfold T_conf_Store_Do_4
      refine ite_b (fun h0 => ?_) fun h0 => ?_
      · have h0 : er = 0 := by simpa using h0
        have hver : Cm.vers (s', er) = s'.ver + 1 := by unfold Cm.vers; rw [if_pos h0]
        have hw : IntKind.wrap .i64 (s'.ver + 1) = s'.ver + 1 := by
          have := hz h0
          have := J.v0
          exact wrap_id (by omega) (by omega)
        rw [hver] at fin
        refine ⟨_, rfl, _, rd_cell h107.at_blk rfl rfl, _, rfl, rfl, wrOk_cell h107.at_blk (by simp [stL]) rfl, ?_⟩
        intro w113
        have := h107.wr_cell (off := 0) (v := .int .i64 (IntKind.wrap .i64 (s'.ver + 1))) rfl
        rw [show (stL s'.ver mp mr mc).set 0 (.int .i64 (IntKind.wrap .i64 (s'.ver + 1))) = stL (s'.ver + 1) mp mr mc from by rw [hw]; rfl] at this
        exact fin this
      · have h0 : er ≠ 0 := by simpa using h0
        have hver : Cm.vers (s', er) = s'.ver := by unfold Cm.vers; rw [if_neg h0]
        rw [hver] at fin
        exact fin h107
    · refine done (Fz.le_refl F) (by unfold Cm.doC; rw [if_neg (by simpa using hc), if_pos y1]) (back h74)
    · refine done (Fz.le_refl F) (by unfold Cm.doC; rw [if_neg (by simpa using hc), if_neg n1, if_pos y2]) (back h74)
end
end Go.Vc

/-
  The program's store: its bytes, its configuration in new memory.
-/
namespace Go.Vc
open Go Go.Proofs Go.Proofs.Ytcpmfjclkdjfmaa
set_option maxRecDepth 100000
section
variable {E w : World} {L : List Asrt} {R : Ending → World → Prop} {F G : Fz} {p : Nat} {s : Cm.Sm}
end
end Go.Vc

/-
  Rows of pools, of routes, of what clients were told; a configuration in new memory.
-/
namespace Go.Vc
open Go Go.Proofs Go.Proofs.Ytcpmfjclkdjfmaa
set_option maxRecDepth 100000
abbrev PlS := Sl × Cm.Pl
def pcV (x : PlS) : List Value := [.string (bs x.2.name), .slice x.1.1 x.1.2.1 x.1.2.2]
def rcV (r : Cm.Rt) : List Value := [.string (bs r.host), .string (bs r.pfx), .string (bs r.pool)]
section
variable {E w : World} {L : List Asrt} {R : Ending → World → Prop} {F G : Fz} {p : Nat} {s : Cm.Sm}

/-! ### pl -/
def plA (s : Sl) (l : List PlS) : Asrt := ownS s.1 s.2.1 s.2.2 71 2 (l.flatMap pcV)
theorem pcV_len (x : PlS) : (pcV x).length = 2 := rfl
theorem pcV_one (l : List PlS) : ∀ u ∈ l.flatMap pcV, one u = true := by
  intro u hu
  obtain ⟨x, _, hx⟩ := List.mem_flatMap.1 hu
  simp [pcV] at hx
  rcases hx with rfl | rfl <;> rfl
theorem app_pl {s : Sl} {a2 : Option Addr} {l2 c2 : Nat} {xs ys : List PlS} (h : St E (plA s xs :: L) w) (hro : RdS w a2 l2 2 (ys.flatMap pcV)) (hb : xs.length + ys.length ≤ 1000000) :
    ∃ (s' : Sl) (w' : World), (Builtin.append_ #[31, 31] 31 #[.slice s.1 s.2.1 s.2.2, .slice a2 l2 c2]).run Try.prog w = .ok (.slice s'.1 s'.2.1 s'.2.2) w' ∧ St E (plA s' (xs ++ ys) :: L) w' := by
  have hl : xs.length = s.2.1 := h.rdS_own.count pcV_len (by decide)
  have hl2 : ys.length = l2 := hro.count pcV_len (by decide)
  obtain ⟨a', c', w', hr, hs⟩ := append_own (P := Try.prog) (t := 31) (ty := 31) (e := 71) (i := Try.t71) (z := .agg #[.string (ByteArray.mk #[]), .slice none 0 0]) (by kernel_rfl) (by kernel_rfl) (by kernel_rfl) (by kernel_rfl) (by decide) (c2 := c2) h hro (pcV_one ys)
    (by have : Try.t71.bytes = 40 := by kernel_rfl
        rw [this]; omega) (by unfold maxLen; omega)
  rw [show Try.t71.size = 2 from by kernel_rfl, ← List.flatMap_append] at hs
  exact ⟨(a', s.2.1 + l2, c'), w', hr, hs⟩
theorem St.pl_new (h : St E L w) (x : PlS) : St E (plA (some ⟨w.heap.size, 0, none⟩, 1, 1) [x] :: L) (w.alloc (.cells ⟨pcV x⟩ 71)) := by
  refine (St.ownS_mk (xs := [x].flatMap pcV) (rest := []) (l := 1) (c := 1) (sz := 2) ?_ rfl (Nat.le_refl _) (by decide) rfl :)
  simpa using h.alloc (.cells ⟨pcV x⟩ 71)
theorem app_pl1 {s : Sl} {xs : List PlS} {x : PlS} (h : St E (plA s xs :: L) w) (hb : xs.length + 1 ≤ 1000000) :
    ∃ (s' : Sl) (w' : World), (Builtin.append_ #[31, 31] 31 #[.slice s.1 s.2.1 s.2.2, .slice (some ⟨w.heap.size, 0, none⟩) 1 1]).run Try.prog (w.alloc (.cells ⟨pcV x⟩ 71)) = .ok (.slice s'.1 s'.2.1 s'.2.2) w' ∧ St E (plA s' (xs ++ [x]) :: L) w' := by
  have h2 := h.pl_new x
  obtain ⟨s', w', hr, hs⟩ := app_pl (c2 := 1) h2.f1 (St.rdS_own h2) (by simpa using hb)
  exact ⟨s', w', hr, hs.f1.drop⟩
theorem St.pl_nil (h : St E L w) : St E (plA (none, 0, 0) [] :: L) w := h.ownS_nil
theorem St.pl_len {s : Sl} {l : List PlS} (h : St E (plA s l :: L) w) : l.length = s.2.1 := h.rdS_own.count pcV_len (by decide)
theorem St.freeze_pl {s : Sl} {l : List PlS} (h : St E (plA s l :: kn F :: L) w) : ∃ G, Fz.le F G ∧ St E (kn G :: L) w ∧ RdF G s.1 s.2.1 2 (l.flatMap pcV) := h.freezeS

/-! ### rt -/
def rtA (s : Sl) (l : List Cm.Rt) : Asrt := ownS s.1 s.2.1 s.2.2 77 3 (l.flatMap rcV)
theorem rcV_len (x : Cm.Rt) : (rcV x).length = 3 := rfl
theorem rcV_one (l : List Cm.Rt) : ∀ u ∈ l.flatMap rcV, one u = true := by
  intro u hu
  obtain ⟨x, _, hx⟩ := List.mem_flatMap.1 hu
  simp [rcV] at hx
  rcases hx with rfl | rfl | rfl <;> rfl
theorem app_rt {s : Sl} {a2 : Option Addr} {l2 c2 : Nat} {xs ys : List Cm.Rt} (h : St E (rtA s xs :: L) w) (hro : RdS w a2 l2 3 (ys.flatMap rcV)) (hb : xs.length + ys.length ≤ 1000000) :
    ∃ (s' : Sl) (w' : World), (Builtin.append_ #[30, 30] 30 #[.slice s.1 s.2.1 s.2.2, .slice a2 l2 c2]).run Try.prog w = .ok (.slice s'.1 s'.2.1 s'.2.2) w' ∧ St E (rtA s' (xs ++ ys) :: L) w' := by
  have hl : xs.length = s.2.1 := h.rdS_own.count rcV_len (by decide)
  have hl2 : ys.length = l2 := hro.count rcV_len (by decide)
  obtain ⟨a', c', w', hr, hs⟩ := append_own (P := Try.prog) (t := 30) (ty := 30) (e := 77) (i := Try.t77) (z := .agg #[.string (ByteArray.mk #[]), .string (ByteArray.mk #[]), .string (ByteArray.mk #[])]) (by kernel_rfl) (by kernel_rfl) (by kernel_rfl) (by kernel_rfl) (by decide) (c2 := c2) h hro (rcV_one ys)
    (by have : Try.t77.bytes = 48 := by kernel_rfl
        rw [this]; omega) (by unfold maxLen; omega)
  rw [show Try.t77.size = 3 from by kernel_rfl, ← List.flatMap_append] at hs
  exact ⟨(a', s.2.1 + l2, c'), w', hr, hs⟩
theorem St.rt_new (h : St E L w) (x : Cm.Rt) : St E (rtA (some ⟨w.heap.size, 0, none⟩, 1, 1) [x] :: L) (w.alloc (.cells ⟨rcV x⟩ 77)) := by
  refine (St.ownS_mk (xs := [x].flatMap rcV) (rest := []) (l := 1) (c := 1) (sz := 3) ?_ rfl (Nat.le_refl _) (by decide) rfl :)
  simpa using h.alloc (.cells ⟨rcV x⟩ 77)
theorem app_rt1 {s : Sl} {xs : List Cm.Rt} {x : Cm.Rt} (h : St E (rtA s xs :: L) w) (hb : xs.length + 1 ≤ 1000000) :
    ∃ (s' : Sl) (w' : World), (Builtin.append_ #[30, 30] 30 #[.slice s.1 s.2.1 s.2.2, .slice (some ⟨w.heap.size, 0, none⟩) 1 1]).run Try.prog (w.alloc (.cells ⟨rcV x⟩ 77)) = .ok (.slice s'.1 s'.2.1 s'.2.2) w' ∧ St E (rtA s' (xs ++ [x]) :: L) w' := by
  have h2 := h.rt_new x
  obtain ⟨s', w', hr, hs⟩ := app_rt (c2 := 1) h2.f1 (St.rdS_own h2) (by simpa using hb)
  exact ⟨s', w', hr, hs.f1.drop⟩
theorem St.rt_nil (h : St E L w) : St E (rtA (none, 0, 0) [] :: L) w := h.ownS_nil
theorem St.rt_len {s : Sl} {l : List Cm.Rt} (h : St E (rtA s l :: L) w) : l.length = s.2.1 := h.rdS_own.count rcV_len (by decide)
theorem St.freeze_rt {s : Sl} {l : List Cm.Rt} (h : St E (rtA s l :: kn F :: L) w) : ∃ G, Fz.le F G ∧ St E (kn G :: L) w ∧ RdF G s.1 s.2.1 3 (l.flatMap rcV) := h.freezeS

/-! ### la -/
/-! ### a configuration -/
/-- The pools' targets, each in a row of its own. -/
def tgO (xs : List PlS) : Asrt := seps (xs.map fun x => tgA x.1 x.2.tg)
theorem St.tgO_nil (h : St E L w) : St E (tgO [] :: L) w := St.shut (L1 := []) h
theorem St.tgO_put {xs : List PlS} {x : PlS} (h : St E (tgA x.1 x.2.tg :: tgO xs :: L) w) : St E (tgO (xs ++ [x]) :: L) w := by
  have h1 : St E ((xs.map fun x => tgA x.1 x.2.tg) ++ (tgA x.1 x.2.tg :: L)) w := St.open_ (L1 := xs.map fun x => tgA x.1 x.2.tg) h.f1
  unfold tgO
  refine St.shut (L1 := (xs ++ [x]).map fun x => tgA x.1 x.2.tg) ?_
  simpa using h1
/-- All of them, known for good. -/
theorem St.tgO_freeze : ∀ {xs : List PlS} {F : Fz} {L : List Asrt}, St E (tgO xs :: kn F :: L) w → ∃ G, Fz.le F G ∧ St E (kn G :: L) w ∧ ∀ x ∈ xs, RdF G x.1.1 x.1.2.1 2 (x.2.tg.flatMap tV)
  | [], F, L, h => ⟨F, Fz.le_refl F, h.drop, fun x hx => by cases hx⟩
  | x :: r, F, L, h => by
    have h1 : St E (tgA x.1 x.2.tg :: ((r.map fun x => tgA x.1 x.2.tg) ++ (kn F :: L))) w := St.open_ (L1 := (x :: r).map fun x => tgA x.1 x.2.tg) h
    have h2 : St E (tgA x.1 x.2.tg :: kn F :: ((r.map fun x => tgA x.1 x.2.tg) ++ L)) w := h1.perm (List.Perm.cons _ List.perm_middle)
    obtain ⟨G1, hF, h3, hr⟩ := h2.freezeT
    have h4 : St E (tgO r :: kn G1 :: L) w := St.shut (L1 := r.map fun x : PlS => tgA x.1 x.2.tg) (h3.perm List.perm_middle.symm)
    obtain ⟨G, hG, h5, hrs⟩ := h4.tgO_freeze
    refine ⟨G, Fz.le_trans hF hG, h5, fun y hy => ?_⟩
    rcases List.mem_cons.1 hy with rfl | hy
    · exact RdF.mono hr hG
    · exact hrs y hy
def cfgV (v : Int) (ra pa : Sl) : Value := .agg #[.int .i64 v, .slice ra.1 ra.2.1 ra.2.2, .slice pa.1 pa.2.1 pa.2.2]
abbrev cfgL (v : Int) (ra pa : Sl) : List Value := [.int .i64 v, .slice ra.1 ra.2.1 ra.2.2, .slice pa.1 pa.2.1 pa.2.2]

theorem rd_cfg {b : Nat} {v : Int} {ra pa : Sl} (h : St E (blkL b 33 (cfgL v ra pa) :: L) w) : rd w ⟨b, 0, none⟩ (cfgV v ra pa) := rd_agg (xs := cfgL v ra pa) h.at_blk (by intro i u hu; rw [Nat.zero_add]; exact hu)
theorem one_cfg (v : Int) (ra pa : Sl) : ∀ u ∈ cfgL v ra pa, one u = true := by intro u hu; simp at hu; rcases hu with rfl | rfl | rfl <;> rfl
theorem ok_cfg {b t : Nat} {l : List Value} (h : St E (blkL b t l :: L) w) (hl : l.length = 3) (v : Int) (ra pa : Sl) : wrOk w ⟨b, 0, none⟩ (cfgV v ra pa) := wrOk_agg h.at_blk (xs := cfgL v ra pa) (by rw [hl]; exact Nat.le_refl 3) (one_cfg v ra pa)
theorem St.wr_cfg {b t : Nat} {l : List Value} (h : St E (blkL b t l :: L) w) (hl : l.length = 3) (v : Int) (ra pa : Sl) : St E (blkL b t (cfgL v ra pa) :: L) (wr w ⟨b, 0, none⟩ (cfgV v ra pa)) := h.wr_agg0 (xs := cfgL v ra pa) (by rw [hl]; rfl)
set_option maxHeartbeats 1000000 in
theorem cfg_l1 {Kn : World → Prop} {Kp : List PanicEntry → World → Prop} {ka : Option Addr} {kc bc mp mr mc : Nat} {v0 : Int} {Mp : List (Cm.Bs × PV)} {Mr : List (Pr × Cm.Bs)} {Mc : List (Int × LV)} (hm : kn F ∈ L) (S : Sz s) (hp : poolsR F Mp s.pools)
    (h : St E (blkL bc 33 (cfgL v0 (none, 0, 0) (none, 0, 0)) :: plA (none, 0, 0) [] :: tgO [] :: ownS ka (s.pools.map nmK).length kc 9 1 ((s.pools.map nmK).flatMap celS) :: st4 p s.ver mp mr mc Mp Mr Mc L) w)
    (k : ∀ (w : World) (pa : Sl) (xs : List PlS), xs.map (·.2) = s.pools → St E (blkL bc 33 (cfgL v0 (none, 0, 0) pa) :: plA pa xs :: tgO xs :: st4 p s.ver mp mr mc Mp Mr Mc L) w → Kn w) :
    T_conf_Store_Config_1 0 (some ⟨p, 0, none⟩) ⟨bc, 0, none⟩ ka (s.pools.map nmK).length kc (((s.pools.map nmK).length : Nat) : Int) w Kn Kp := by
  have hbig : big = 140737488355328 := rfl
  have hpn := S.pn
  unfold T_conf_Store_Config_1
  intro X hX
  refine up_to s.pools.length (Q := fun j => ∀ (w : World) (pa : Sl) (xs : List PlS), xs.map (·.2) = s.pools.take j → St E (blkL bc 33 (cfgL v0 (none, 0, 0) pa) :: plA pa xs :: tgO xs :: ownS ka (s.pools.map nmK).length kc 9 1 ((s.pools.map nmK).flatMap celS) :: st4 p s.ver mp mr mc Mp Mr Mc L) w → X (j : Int) w) ?_ w (none, 0, 0) [] rfl h
  intro j hj ih w pa xs hxs h
  have hxl : xs.length ≤ 64 := by have := congrArg List.length hxs; simp at this; omega
  refine hX _ _ ?_
  unfold T_conf_Store_Config_1_body
  rw [List.length_map]
  refine ite_d (fun hc => ?_) (fun hc => ?_)
  · have hjl : j < s.pools.length := by omega
    obtain ⟨ad, ha, hrd⟩ := key_at (ks := s.pools.map nmK) h.f3.rdS_own (j := j) (by simpa using hjl)
    rw [List.getElem_map] at hrd
    refine ⟨by omega, by omega, ad, ha, _, by rw [Int.toNat_natCast]; exact hrd, ?_⟩
    intro w4
    have h4 : St E _ w4 := h.drew
    clear_value w4
    obtain ⟨hx3, hx4⟩ := S.pl _ (List.getElem_mem hjl)
    obtain ⟨v, hv, hvt, hvg⟩ := pool_get hp h.f5.nodup (List.getElem_mem hjl)
    have hvg : RdF F v.1.1 v.1.2.1 2 (s.pools[j].tg.flatMap tV) := hvt ▸ hvg
    have hm8 : ∀ {A B C D H I J K : Asrt}, kn F ∈ A :: B :: C :: D :: H :: I :: J :: K :: L := List.mem_cons_of_mem _ (List.mem_cons_of_mem _ (List.mem_cons_of_mem _ (List.mem_cons_of_mem _ (List.mem_cons_of_mem _ (List.mem_cons_of_mem _ (List.mem_cons_of_mem _ (List.mem_cons_of_mem _ hm)))))))
    refine ⟨_, _, _, rd_fld h4.at_blk rfl rfl, _, rfl, _, rd_fld h4.f4.at_blk rfl rfl, runV_ok (look_pool h4.f5 hv) ⟨_, _, _, rfl, ⟨rd_fld h4.at_blk rfl rfl, trivial⟩, ?_⟩⟩
    refine Clone_spec (q := v.1) hm8 h4 hvg (by have := hx4.1; omega) fun q' w34 h34 => ⟨_, _, _, rfl, ⟨rd_fld h34.f1.at_blk rfl rfl, trivial⟩, ?_⟩
    intro w36
    have h36 := h34.alloc (.cells ⟨pcV (q', s.pools[j])⟩ 71)
    refine ⟨⟨rd_fld h36.f2.at_blk rfl rfl, trivial⟩, ?_⟩
    obtain ⟨pa', w38, hr38, h38⟩ := app_pl1 (x := (q', s.pools[j])) h34.f2 (by omega)
    refine runV_ok hr38 ⟨_, _, _, rfl, trivial, rfl, wrOk_fld h38.f2.at_blk (by show 2 < 3; decide) rfl, ?_⟩
    intro w40
    have h40 := h38.f2.wr_fld (k := 2) (v := .slice pa'.1 pa'.2.1 pa'.2.2) rfl
    refine ⟨trivial, ?_⟩
    rw [succ_big (by omega)]
    refine ih hjl _ pa' (xs ++ [(q', s.pools[j])]) (by rw [List.map_append, hxs, List.take_succ_eq_append_getElem hjl]; rfl) ?_
    have h41 : St E (blkL bc 33 (cfgL v0 (none, 0, 0) pa') :: plA pa' (xs ++ [(q', s.pools[j])]) :: tgA q' s.pools[j].tg :: tgO xs :: ownS ka (s.pools.map nmK).length kc 9 1 ((s.pools.map nmK).flatMap celS) :: st4 p s.ver mp mr mc Mp Mr Mc L) w40 := h40
    exact St.sel (L := _ :: _ :: _ :: _) (St.tgO_put (x := (q', s.pools[j])) (h41.sel 4 [2, 3, 0, 1])) 3 [1, 2, 0]
  · rw [List.take_of_length_le (by omega)] at hxs
    exact k _ _ _ hxs (h.sel 4 [0, 1, 2])
set_option maxHeartbeats 2000000 in
theorem cfg_l2 {Kn : World → Prop} {Kp : List PanicEntry → World → Prop} {ka : Option Addr} {kc bc mp mr mc : Nat} {v0 : Int} {pa : Sl} {Mp : List (Cm.Bs × PV)} {Mr : List (Pr × Cm.Bs)} {Mc : List (Int × LV)} (S : Sz s) (hr : routesR Mr s.routes)
    (h : St E (blkL bc 33 (cfgL v0 (none, 0, 0) pa) :: rtA (none, 0, 0) [] :: ownS ka (s.routes.map plK).length kc 75 2 ((s.routes.map plK).flatMap celP) :: st4 p s.ver mp mr mc Mp Mr Mc L) w)
    (k : ∀ (w : World) (ra : Sl), St E (blkL bc 33 (cfgL v0 ra pa) :: rtA ra s.routes :: st4 p s.ver mp mr mc Mp Mr Mc L) w → Kn w) :
    T_conf_Store_Config_2 0 (some ⟨p, 0, none⟩) ⟨bc, 0, none⟩ ka (s.routes.map plK).length kc (((s.routes.map plK).length : Nat) : Int) w Kn Kp := by
  have hbig : big = 140737488355328 := rfl
  have hrn := S.rn
  unfold T_conf_Store_Config_2
  intro X hX
  refine up_to s.routes.length (Q := fun j => ∀ (w : World) (ra : Sl), St E (blkL bc 33 (cfgL v0 ra pa) :: rtA ra (s.routes.take j) :: ownS ka (s.routes.map plK).length kc 75 2 ((s.routes.map plK).flatMap celP) :: st4 p s.ver mp mr mc Mp Mr Mc L) w → X (j : Int) w) ?_ w (none, 0, 0) h
  intro j hj ih w ra h
  refine hX _ _ ?_
  unfold T_conf_Store_Config_2_body
  rw [List.length_map]
  refine ite_d (fun hc => ?_) (fun hc => ?_)
  · have hjl : j < s.routes.length := by omega
    obtain ⟨ad, ha, hrd⟩ := place_at (ks := s.routes.map plK) h.f2.rdS_own (j := j) (by simpa using hjl)
    rw [List.getElem_map] at hrd
    refine ⟨by omega, by omega, ad, ha, _, _, by rw [Int.toNat_natCast]; exact hrd, ?_⟩
    have hv := route_get hr h.f5.nodup (List.getElem_mem hjl)
    intro w8
    have h8 := h.alloc (.cells #[.string (ByteArray.mk #[]), .string (ByteArray.mk #[])] 75)
    refine ⟨rfl, wrOk_agg h8.at_blk (xs := celP (plK s.routes[j])) (by simp [celP]) (by intro u hu; simp [celP] at hu; rcases hu with rfl | rfl <;> rfl), ?_⟩
    intro w9 w10
    have h10 : St E (blkL w.heap.size 75 (celP (plK s.routes[j])) :: blkL bc 33 (cfgL v0 ra pa) :: rtA ra (s.routes.take j) :: ownS ka (s.routes.map plK).length kc 75 2 ((s.routes.map plK).flatMap celP) :: st4 p s.ver mp mr mc Mp Mr Mc L) w10 := (h8.wr_agg0 (xs := celP (plK s.routes[j])) rfl).drew
    clear_value w10
    clear h8
    clear_value w9 w8
    generalize w.heap.size = bk at *
    refine ⟨_, _, _, rd_fld h10.f1.at_blk rfl rfl, _, rd_cell h10.at_blk rfl rfl, _, rd_fld h10.at_blk rfl rfl, _, rfl, _, rd_fld h10.f4.at_blk rfl rfl, _, _, rd_agg (xs := celP (plK s.routes[j])) h10.at_blk (by intro i u hu; rw [Nat.zero_add]; exact hu), ?_⟩
    have h10m : St E (mapA mr encP encS Mr :: L) w10 := h10.sel 8 [6]
    refine runV_ok (look_route h10m hv) ⟨_, rfl, ⟨rd_fld h10.at_blk rfl rfl, rd_cell h10.at_blk rfl rfl, rd_fld h10.f1.at_blk rfl rfl, trivial⟩, ?_⟩
    intro w66
    have h66 := h10.alloc (.cells ⟨rcV s.routes[j]⟩ 77)
    refine ⟨⟨rd_fld h66.f2.at_blk rfl rfl, trivial⟩, ?_⟩
    obtain ⟨ra', w68, hr68, h68⟩ := app_rt1 (x := s.routes[j]) h10.f2 (by simp; omega)
    refine runV_ok hr68 ⟨_, _, _, rfl, trivial, rfl, wrOk_fld h68.f2.at_blk (by show 1 < 3; decide) rfl, ?_⟩
    intro w70
    have h70 := h68.f2.wr_fld (k := 1) (v := .slice ra'.1 ra'.2.1 ra'.2.2) rfl
    refine ⟨trivial, ?_⟩
    rw [succ_big (by omega)]
    refine ih hjl _ ra' ?_
    rw [List.take_succ_eq_append_getElem hjl]
    have h71 : St E (blkL bc 33 (cfgL v0 ra' pa) :: rtA ra' (s.routes.take j ++ [s.routes[j]]) :: blkL bk 75 (celP (plK s.routes[j])) :: ownS ka (s.routes.map plK).length kc 75 2 ((s.routes.map plK).flatMap celP) :: st4 p s.ver mp mr mc Mp Mr Mc L) w70 := h70
    exact h71.sel 3 [0, 1]
  · rw [List.take_of_length_le (by omega)] at h
    exact k _ _ (h.sel 3 [0, 1])
set_option maxHeartbeats 2000000 in
/-- (*Store).Config: the configuration, in new memory. -/
theorem Config_spec (hm : kn F ∈ L) (S : Sz s) (h : St E (stA F p s :: L) w)
    (k : ∀ (w' : World) (ra pa : Sl) (xs : List PlS), xs.map (·.2) = s.pools → St E (rtA ra s.routes :: plA pa xs :: tgO xs :: stA F p s :: L) w' → R (.returned (cfgV s.ver ra pa)) w') : Calls Try.prog 9 #[.pointer (some ⟨p, 0, none⟩)] w R := by
  obtain ⟨mp, mr, mc, Mp, Mr, Mc, hp, hr, hcl, h⟩ := h.st_open
  have hlp : Mp.length = s.pools.length := by have := hp.2.length_eq; simpa using this
  have hlr : Mr.length = s.routes.length := by have := List.Perm.length_eq hr; simpa using this
  have hpn := S.pn
  have hrn := S.rn
  refine C_conf_Store_Config ?_
  unfold T_conf_Store_Config
  intro w2
  have h2 := h.alloc (.cells #[.int .i64 0, .slice none 0 0, .slice none 0 0] 33)
  refine ite_some ⟨_, rfl, _, rd_cell h2.f1.at_blk rfl rfl, ?_⟩
  intro w9
  have h9 := h2.alloc (.cells #[.int .i64 0, .slice none 0 0, .slice none 0 0] 33)
  refine ⟨rfl, ok_cfg h9 rfl s.ver (none, 0, 0) (none, 0, 0), ?_⟩
  intro w10
  have h10 : St E (blkL w2.heap.size 33 (cfgL s.ver (none, 0, 0) (none, 0, 0)) :: blkL w.heap.size 33 (cfgL 0 (none, 0, 0) (none, 0, 0)) :: st4 p s.ver mp mr mc Mp Mr Mc L) w10 := h9.wr_cfg rfl _ _ _
  clear_value w10
  clear h9 h2
  clear_value w9 w2
  generalize w2.heap.size = bc at *
  generalize w.heap.size = br at *
  refine ⟨_, rfl, _, rd_fld h10.f2.at_blk rfl rfl, KeysS_spec h10 fun B w14 h14 => ⟨_, rfl, rfl, ?_⟩⟩
  refine SortedS_spec (ks := s.pools.map nmK) (L := blkL bc 33 (cfgL s.ver (none, 0, 0) (none, 0, 0)) :: blkL br 33 (cfgL 0 (none, 0, 0) (none, 0, 0)) :: blkL p 63 (stL s.ver mp mr mc) :: mapA mr encP encS Mr :: mapA mc encI lvV Mc :: L) (h14.sel 7 [0, 4, 1, 2, 3, 5, 6]) (by omega) (names_perm hp) (names_rise S.pr) fun ka kc w17 h17 => ⟨_, _, _, rfl, ?_⟩
  have h18 : St E (blkL bc 33 (cfgL s.ver (none, 0, 0) (none, 0, 0)) :: ownS ka (s.pools.map nmK).length kc 9 1 ((s.pools.map nmK).flatMap celS) :: st4 p s.ver mp mr mc Mp Mr Mc (blkL br 33 (cfgL 0 (none, 0, 0) (none, 0, 0)) :: L)) w17 := h17.sel 7 [2, 0, 4, 1, 5, 6, 3]
  refine cfg_l1 (List.mem_cons_of_mem _ hm) S hp (h18.tgO_nil.pl_nil.sel 4 [2, 0, 1, 3]) fun w41 pa xs hxs h41 => ?_
  refine sorted_spec (ks := s.routes.map plK) (L := blkL bc 33 (cfgL s.ver (none, 0, 0) pa) :: plA pa xs :: tgO xs :: mapA mp encS pvV Mp :: mapA mc encI lvV Mc :: blkL br 33 (cfgL 0 (none, 0, 0) (none, 0, 0)) :: L) (h41.sel 8 [3, 5, 0, 1, 2, 4, 6, 7]) (by omega) (places_perm hr) (places_rise S.rr) fun ka kc w43 h43 => ⟨_, _, _, rfl, ?_⟩
  have h44 : St E (blkL bc 33 (cfgL s.ver (none, 0, 0) pa) :: ownS ka (s.routes.map plK).length kc 75 2 ((s.routes.map plK).flatMap celP) :: st4 p s.ver mp mr mc Mp Mr Mc (plA pa xs :: tgO xs :: blkL br 33 (cfgL 0 (none, 0, 0) (none, 0, 0)) :: L)) w43 := h43.sel 9 [3, 0, 1, 6, 2, 7, 4, 5, 8]
  refine cfg_l2 S hr (h44.rt_nil.f1) fun w71 ra h71 => ?_
  refine ⟨_, _, _, _, _, _, _, rd_cfg h71, rfl, ok_cfg (h71.sel 9 [8]) rfl s.ver ra pa, ?_⟩
  intro w75
  have h75 := St.wr_cfg (h71.sel 9 [8, 1, 2, 3, 4, 5, 6, 7]) rfl s.ver ra pa
  refine ⟨_, _, _, _, _, _, _, rd_cfg h75, k _ ra pa xs hxs ?_⟩
  have h76 : St E (rtA ra s.routes :: st4 p s.ver mp mr mc Mp Mr Mc (plA pa xs :: tgO xs :: L)) w75 := h75.drop
  exact St.sel (L := stA F p s :: rtA ra s.routes :: plA pa xs :: tgO xs :: L) (St.st_mk hp hr hcl (h76.sel 5 [1, 2, 3, 4, 0])) 4 [1, 2, 3, 0]
end
end Go.Vc

/-
  Configurations held against each other; results held against each other.
-/
namespace Go.Vc
open Go Go.Proofs Go.Proofs.Ytcpmfjclkdjfmaa
set_option maxRecDepth 100000
section
variable {E w : World} {L : List Asrt} {R : Ending → World → Prop} {F G : Fz}
theorem res_eq (x y : Operand) (a b c d : Int) : (do eqGuard .eql 37 x y (.agg #[.int .i64 a, .int .i64 b]) (.agg #[.int .i64 c, .int .i64 d]); binOp .eql 37 (.agg #[.int .i64 a, .int .i64 b]) (.agg #[.int .i64 c, .int .i64 d]) : Sem Value).run Try.prog w = .ok (.bool (decide ((a, b) = (c, d)))) w :=
  run_eq_agg (by kernel_rfl) ((keyLaw_int2 (P := Try.prog) (t := 37) (f0 := ⟨ "E", 35, 0, false, "", "", 0⟩) (f1 := ⟨ "Version", 3, 1, false, "", "", 8⟩) (by kernel_rfl) (by kernel_rfl) (by kernel_rfl) (by decide) (by decide) rfl rfl (by kernel_rfl)).eq (a, b) (c, d) w)
theorem route_eq (a b : Cm.Rt) : (Op.equal 77 (.agg #[.string (bs a.host), .string (bs a.pfx), .string (bs a.pool)]) (.agg #[.string (bs b.host), .string (bs b.pfx), .string (bs b.pool)])).run Try.prog w = .ok (decide (a = b)) w := by
  have := equal_str3 (P := Try.prog) (t := 77) (w := w) (f0 := ⟨ "Host", 9, 0, false, "", "", 0⟩) (f1 := ⟨ "Prefix", 9, 1, false, "", "", 16⟩) (f2 := ⟨ "Pool", 9, 2, false, "", "", 32⟩) (by kernel_rfl) (by kernel_rfl) (by kernel_rfl) (by kernel_rfl) (by decide) (by decide) (by decide) rfl rfl rfl (by kernel_rfl) (bs a.host) (bs a.pfx) (bs a.pool) (bs b.host) (bs b.pfx) (bs b.pool)
  rw [this]
  congr 1
  have e : ∀ x y : Cm.Bs, bs x = bs y ↔ x = y := fun x y => ⟨bs_inj, congrArg bs⟩
  obtain ⟨a1, a2, a3⟩ := a
  obtain ⟨b1, b2, b3⟩ := b
  simp only [e, Cm.Rt.mk.injEq]
  rw [Bool.eq_iff_iff]
  simp
/-- A configuration, known for good. -/
def cfgR (F : Fz) (ra pa : Sl) (rs : List Cm.Rt) (ps : List Cm.Pl) : Prop :=
  RdF F ra.1 ra.2.1 3 (rs.flatMap rcV) ∧ ∃ xs : List PlS, xs.map (·.2) = ps ∧ RdF F pa.1 pa.2.1 2 (xs.flatMap pcV) ∧ ∀ x ∈ xs, RdF F x.1.1 x.1.2.1 2 (x.2.tg.flatMap tV)
theorem cfgR.mono {ra pa : Sl} {rs : List Cm.Rt} {ps : List Cm.Pl} (h : cfgR F ra pa rs ps) (k : Fz.le F G) : cfgR G ra pa rs ps := by
  obtain ⟨h1, xs, h2, h3, h4⟩ := h
  exact ⟨RdF.mono h1 k, xs, h2, RdF.mono h3 k, fun x hx => RdF.mono (h4 x hx) k⟩
theorem St.cfg_freeze {ra pa : Sl} {rs : List Cm.Rt} {ps : List Cm.Pl} {xs : List PlS} (hx : xs.map (·.2) = ps) (h : St E (rtA ra rs :: plA pa xs :: tgO xs :: kn F :: L) w) : ∃ G, Fz.le F G ∧ St E (kn G :: L) w ∧ cfgR G ra pa rs ps := by
  obtain ⟨G1, k1, h1, r1⟩ := St.freeze_rt (h.sel 4 [0, 3, 1, 2])
  obtain ⟨G2, k2, h2, r2⟩ := St.freeze_pl (St.sel (L := kn G1 :: plA pa xs :: tgO xs :: L) h1 3 [1, 0, 2])
  obtain ⟨G3, k3, h3, r3⟩ := St.tgO_freeze (St.sel (L := kn G2 :: tgO xs :: L) h2 2 [1, 0])
  exact ⟨G3, Fz.le_trans k1 (Fz.le_trans k2 k3), h3, RdF.mono r1 (Fz.le_trans k2 k3), xs, hx, RdF.mono r2 k3, r3⟩
theorem len_ne (a b : Nat) : (((a : Nat) : Int) != ((b : Nat) : Int)) = !decide (a = b) := by
  rw [ne_dec, Bool.eq_iff_iff]; simp; omega
theorem eq_of_take {α : Type} {l1 l2 : List α} {j : Nat} (hl : l1.length = l2.length) (h : l1.take j = l2.take j) (hj : l1.length ≤ j) : l1 = l2 := by
  rwa [List.take_of_length_le hj, List.take_of_length_le (by omega)] at h
theorem take_step {α : Type} {l1 l2 : List α} {j : Nat} (h1 : j < l1.length) (h2 : j < l2.length) (h : l1.take j = l2.take j) (e : l1[j] = l2[j]) : l1.take (j + 1) = l2.take (j + 1) := by
  rw [List.take_succ_eq_append_getElem h1, List.take_succ_eq_append_getElem h2, h, e]
theorem ne_at {α : Type} {l1 l2 : List α} {j : Nat} (h1 : j < l1.length) (h2 : j < l2.length) (e : l1[j] ≠ l2[j]) : l1 ≠ l2 := fun h => e (by subst h; rfl)
theorem pl_at {xs : List PlS} {a : Option Addr} {l : Nat} (h : RdS w a l 2 (xs.flatMap pcV)) {j : Nat} (hj : j < xs.length) : ∃ ad, a = some ad ∧ rd w (ad.add (j * 2)) (.string (bs xs[j].2.name)) ∧ rd w ((ad.add (j * 2)).add 1) (.slice xs[j].1.1 xs[j].1.2.1 xs[j].1.2.2) ∧ rd w (ad.add (j * 2)) (.agg #[.string (bs xs[j].2.name), .slice xs[j].1.1 xs[j].1.2.1 xs[j].1.2.2]) := by
  obtain ⟨ad, ha, h1, h2⟩ := h.elem (f := pcV) pcV_len (List.getElem?_eq_getElem hj) (by decide)
  exact ⟨ad, ha, h2 0 _ rfl rfl, h2 1 _ rfl rfl, h1⟩
theorem rt_at {xs : List Cm.Rt} {a : Option Addr} {l : Nat} (h : RdS w a l 3 (xs.flatMap rcV)) {j : Nat} (hj : j < xs.length) : ∃ ad, a = some ad ∧ rd w (ad.add (j * 3)) (.agg #[.string (bs xs[j].host), .string (bs xs[j].pfx), .string (bs xs[j].pool)]) ∧ ∀ k v, (rcV xs[j])[k]? = some v → one v = true → rd w ((ad.add (j * 3)).add k) v := by
  obtain ⟨ad, ha, h1, h2⟩ := h.elem (f := rcV) rcV_len (List.getElem?_eq_getElem hj) (by decide)
  exact ⟨ad, ha, h1, h2⟩
variable {v1 v2 : Int} {ra1 pa1 ra2 pa2 : Sl} {rs1 rs2 : List Cm.Rt} {ps1 ps2 : List Cm.Pl} {a b : Nat}
abbrev scL (a b : Nat) (v1 : Int) (ra1 pa1 : Sl) (v2 : Int) (ra2 pa2 : Sl) (L : List Asrt) : List Asrt := blkL b 33 (cfgL v2 ra2 pa2) :: blkL a 33 (cfgL v1 ra1 pa1) :: L
set_option maxHeartbeats 1000000 in
theorem sc_pools {Kn : World → Prop} {Kr : Bool → World → Prop} {Kp : List PanicEntry → World → Prop} {xs1 xs2 : List PlS} (hm : kn F ∈ L) (h : St E (scL a b v1 ra1 pa1 v2 ra2 pa2 L) w) (r1 : RdF F pa1.1 pa1.2.1 2 (xs1.flatMap pcV)) (r2 : RdF F pa2.1 pa2.2.1 2 (xs2.flatMap pcV))
    (t1 : ∀ x ∈ xs1, RdF F x.1.1 x.1.2.1 2 (x.2.tg.flatMap tV)) (t2 : ∀ x ∈ xs2, RdF F x.1.1 x.1.2.1 2 (x.2.tg.flatMap tV)) (hl : xs1.length = xs2.length) (hb : xs1.length ≤ 1000000) (ht : ∀ x ∈ xs1, x.2.tg.length ≤ huge)
    (k1 : xs1.map (·.2) = xs2.map (·.2) → ∀ w', St E (scL a b v1 ra1 pa1 v2 ra2 pa2 L) w' → Kn w') (k2 : xs1.map (·.2) ≠ xs2.map (·.2) → ∀ w', St E (scL a b v1 ra1 pa1 v2 ra2 pa2 L) w' → Kr false w') :
    T_ref08_SameConfig_2 0 ⟨a, 0, none⟩ ⟨b, 0, none⟩ w Kn Kr Kp := by
  have hbig : big = 140737488355328 := rfl
  have n1 := r1.count pcV_len (by decide) h (List.mem_cons_of_mem _ (List.mem_cons_of_mem _ hm))
  have n2 := r2.count pcV_len (by decide) h (List.mem_cons_of_mem _ (List.mem_cons_of_mem _ hm))
  unfold T_ref08_SameConfig_2
  intro X hX
  refine up_to xs1.length (Q := fun j => ∀ w : World, (xs1.map (·.2)).take j = (xs2.map (·.2)).take j → St E (scL a b v1 ra1 pa1 v2 ra2 pa2 L) w → X (j : Int) w) ?_ w rfl h
  intro j hj ih w he h
  refine hX _ _ ?_
  unfold T_ref08_SameConfig_2_body
  refine ⟨_, _, _, rd_fld h.f1.at_blk rfl rfl, ?_⟩
  rw [← n1]
  refine ite_d (fun hc => ?_) fun hc => ?_
  · have hjl : j < xs1.length := by omega
    have hjl2 : j < xs2.length := by omega
    intro w26
    have h26 : St E _ w26 := h.drew
    clear_value w26
    obtain ⟨ad1, ha1, hn1, hs1, _⟩ := pl_at (r1.at h26 (List.mem_cons_of_mem _ (List.mem_cons_of_mem _ hm))) hjl
    obtain ⟨ad2, ha2, hn2, hs2, _⟩ := pl_at (r2.at h26 (List.mem_cons_of_mem _ (List.mem_cons_of_mem _ hm))) hjl2
    have e1 : (xs1.map (·.2))[j]'(by simpa using hjl) = xs1[j].2 := by simp
    have e2 : (xs2.map (·.2))[j]'(by simpa using hjl2) = xs2[j].2 := by simp
    refine ⟨_, _, _, rd_fld h26.f1.at_blk rfl rfl, by omega, by omega, ad1, ha1, _, by rw [Int.toNat_natCast]; exact hn1, _, _, _, rd_fld h26.at_blk rfl rfl, by omega, by omega, ad2, ha2, _, by rw [Int.toNat_natCast]; exact hn2, ite_b (fun hx => ?_) fun hx => ?_⟩
    · refine ⟨⟨rd_fld h26.at_blk rfl rfl, rd_fld h26.f1.at_blk rfl rfl, trivial⟩, k2 ?_ _ h26⟩
      rw [str_beq] at hx
      refine ne_at (by simpa using hjl) (by simpa using hjl2) fun e => ?_
      rw [e1, e2] at e
      simp [e] at hx
    · refine ⟨_, _, _, rd_fld h26.f1.at_blk rfl rfl, by omega, by omega, ad1, ha1, _, _, _, by rw [Int.toNat_natCast]; exact hs1, _, _, _, rd_fld h26.at_blk rfl rfl, by omega, by omega, ad2, ha2, _, _, _, by rw [Int.toNat_natCast]; exact hs2, ?_⟩
      refine SameTargets_spec (s1 := xs1[j].1) (s2 := xs2[j].1) (List.mem_cons_of_mem _ (List.mem_cons_of_mem _ hm)) h26 (t1 _ (List.getElem_mem hjl)) (t2 _ (List.getElem_mem hjl2)) (ht _ (List.getElem_mem hjl)) fun w40 h40 => ⟨_, rfl, ⟨rd_fld h40.at_blk rfl rfl, rd_fld h40.f1.at_blk rfl rfl, rd_fld h40.at_blk rfl rfl, rd_fld h40.f1.at_blk rfl rfl, trivial⟩, ite_b (fun hy => ?_) fun hy => ?_⟩
      · refine k2 (ne_at (by simpa using hjl) (by simpa using hjl2) fun e => ?_) _ h40
        rw [e1, e2] at e
        simp [e] at hy
      · rw [succ_big (by omega)]
        refine ih hjl _ (take_step (by simpa using hjl) (by simpa using hjl2) he ?_) h40
        rw [e1, e2]
        rw [str_beq] at hx
        have hx : xs1[j].2.name = xs2[j].2.name := by simpa using hx
        have hy : xs1[j].2.tg = xs2[j].2.tg := by simpa using hy
        generalize xs1[j].2 = q1 at *
        generalize xs2[j].2 = q2 at *
        cases q1; cases q2
        simp only at hx hy
        rw [hx, hy]
  · exact k1 (eq_of_take (by simpa using hl) he (by simp; omega)) _ h
set_option maxHeartbeats 1000000 in
theorem sc_routes {Kn : World → Prop} {Kr : Bool → World → Prop} {Kp : List PanicEntry → World → Prop} (hm : kn F ∈ L) (h : St E (scL a b v1 ra1 pa1 v2 ra2 pa2 L) w) (r1 : RdF F ra1.1 ra1.2.1 3 (rs1.flatMap rcV)) (r2 : RdF F ra2.1 ra2.2.1 3 (rs2.flatMap rcV))
    (hl : rs1.length = rs2.length) (hb : rs1.length ≤ 1000000)
    (k1 : rs1 = rs2 → ∀ w', St E (scL a b v1 ra1 pa1 v2 ra2 pa2 L) w' → Kn w') (k2 : rs1 ≠ rs2 → ∀ w', St E (scL a b v1 ra1 pa1 v2 ra2 pa2 L) w' → Kr false w') :
    T_ref08_SameConfig_3 0 ⟨a, 0, none⟩ ⟨b, 0, none⟩ w Kn Kr Kp := by
  have hbig : big = 140737488355328 := rfl
  have n1 := r1.count rcV_len (by decide) h (List.mem_cons_of_mem _ (List.mem_cons_of_mem _ hm))
  have n2 := r2.count rcV_len (by decide) h (List.mem_cons_of_mem _ (List.mem_cons_of_mem _ hm))
  unfold T_ref08_SameConfig_3
  intro X hX
  refine up_to rs1.length (Q := fun j => ∀ w : World, rs1.take j = rs2.take j → St E (scL a b v1 ra1 pa1 v2 ra2 pa2 L) w → X (j : Int) w) ?_ w rfl h
  intro j hj ih w he h
  refine hX _ _ ?_
  unfold T_ref08_SameConfig_3_body
  refine ⟨_, _, _, rd_fld h.f1.at_blk rfl rfl, ?_⟩
  rw [← n1]
  refine ite_d (fun hc => ?_) fun hc => ?_
  · have hjl : j < rs1.length := by omega
    have hjl2 : j < rs2.length := by omega
    intro w26
    have h26 : St E _ w26 := h.drew
    clear_value w26
    obtain ⟨ad1, ha1, hn1, _⟩ := rt_at (r1.at h26 (List.mem_cons_of_mem _ (List.mem_cons_of_mem _ hm))) hjl
    obtain ⟨ad2, ha2, hn2, _⟩ := rt_at (r2.at h26 (List.mem_cons_of_mem _ (List.mem_cons_of_mem _ hm))) hjl2
    refine ⟨_, _, _, rd_fld h26.f1.at_blk rfl rfl, by omega, by omega, ad1, ha1, _, _, _, by rw [Int.toNat_natCast]; exact hn1, _, _, _, rd_fld h26.at_blk rfl rfl, by omega, by omega, ad2, ha2, _, _, _, by rw [Int.toNat_natCast]; exact hn2, ?_⟩
    refine runV_ok (run_ne_agg (by kernel_rfl) (route_eq rs1[j] rs2[j])) ⟨_, rfl, trivial, ite_b (fun hx => ?_) fun hx => ?_⟩
    · exact k2 (ne_at hjl hjl2 fun e => by simp [e] at hx) _ h26
    · rw [succ_big (by omega)]
      exact ih hjl _ (take_step hjl hjl2 he (by simpa using hx)) h26
  · exact k1 (eq_of_take hl he (by omega)) _ h
/-- SameConfig. -/
theorem SameConfig_spec (hm : kn F ∈ L) (h : St E L w) (r1 : cfgR F ra1 pa1 rs1 ps1) (r2 : cfgR F ra2 pa2 rs2 ps2) (hp : ps1.length ≤ 1000000) (hr : rs1.length ≤ 1000000) (ht : ∀ x ∈ ps1, x.tg.length ≤ huge)
    (k : ∀ w', St E L w' → R (.returned (.bool (decide (v1 = v2 ∧ ps1 = ps2 ∧ rs1 = rs2)))) w') : Calls Try.prog 11 #[cfgV v1 ra1 pa1, cfgV v2 ra2 pa2] w R := by
  obtain ⟨rr1, xs1, rfl, rp1, rt1⟩ := r1
  obtain ⟨rr2, xs2, rfl, rp2, rt2⟩ := r2
  refine C_ref08_SameConfig ?_
  unfold T_ref08_SameConfig
  intro w7
  have h7 : St E (blkL w.heap.size 33 (cfgL v1 ra1 pa1) :: L) w7 := h.alloc _
  intro w8
  have h8 : St E (scL w.heap.size w7.heap.size v1 ra1 pa1 v2 ra2 pa2 L) w8 := h7.alloc _
  clear_value w8
  clear h7
  generalize w7.heap.size = b at *
  generalize w.heap.size = a at *
  have hm2 : ∀ {A B : Asrt}, kn F ∈ A :: B :: L := List.mem_cons_of_mem _ (List.mem_cons_of_mem _ hm)
  have n1 := rp1.count pcV_len (by decide) h8 hm2
  have n2 := rp2.count pcV_len (by decide) h8 hm2
  have m1 := rr1.count rcV_len (by decide) h8 hm2
  have m2 := rr2.count rcV_len (by decide) h8 hm2
  have no : ∀ {w : World}, St E (scL a b v1 ra1 pa1 v2 ra2 pa2 L) w → ¬ (v1 = v2 ∧ xs1.map (·.2) = xs2.map (·.2) ∧ rs1 = rs2) → R (.returned (.bool false)) w := fun h hn => congB (k _ h.drop.drop) (by simpa using hn)
  unfold T_ref08_SameConfig_1
  refine ⟨_, rd_cell h8.f1.at_blk rfl rfl, _, rd_cell h8.at_blk rfl rfl, ite_b (fun hx => ?_) fun hx => ⟨_, _, _, rd_fld h8.f1.at_blk rfl rfl, _, _, _, rd_fld h8.at_blk rfl rfl, ite_b (fun hy => ?_) fun hy => ⟨_, _, _, rd_fld h8.f1.at_blk rfl rfl, _, _, _, rd_fld h8.at_blk rfl rfl, ite_b (fun hz => ?_) fun hz => ?_⟩⟩⟩
  · exact ite_b (fun _ => no h8 fun hh => by simp [hh.1] at hx) fun hh => by cases hh
  · refine ite_b (fun _ => no h8 fun hh => ?_) fun hh => by cases hh
    rw [len_ne] at hy
    have := congrArg List.length hh.2.1
    simp only [List.length_map] at this
    simp [← n1, ← n2, this] at hy
  · rw [len_ne] at hz
    refine no h8 fun hh => ?_
    have := congrArg List.length hh.2.2
    simp [← m1, ← m2, this] at hz
  · rw [len_ne] at hy hz
    have hy : xs1.length = xs2.length := by rw [n1, n2]; simpa using hy
    have hz : rs1.length = rs2.length := by rw [m1, m2]; simpa using hz
    have hx : v1 = v2 := by simpa using hx
    refine sc_pools hm h8 rp1 rp2 rt1 rt2 hy (by simpa using hp) (fun x hx => ht x.2 (List.mem_map_of_mem hx)) (fun he w3 h3 => ?_) fun hne w3 h3 => no h3 fun hh => hne hh.2.1
    exact sc_routes hm h3 rr1 rr2 hz hr (fun he2 w4 h4 => congB (k _ h4.drop.drop) (by simp [hx, he, he2])) fun hne w4 h4 => no h4 fun hh => hne hh.2.2
end
end Go.Vc

/-
  What the functions' code comes to; printed by a program of this claim's own.
-/
namespace Go.Proofs.Ytcpmfjclkdjfmaa
open Go Go.Vc
set_option maxRecDepth 100000
set_option linter.unusedVariables false

/-! tollgate/tollgatelaw08.live -/
def T_law08_live  (w : World) (R : Ending → World → Prop) : Prop :=
  Calls Try.prog 7 #[] w (ret (fun r1 w2 => ∃ p3 : Option Addr, r1 = .pointer p3 ∧ Calls Try.prog 20 #[.string (ByteArray.mk #[97])] w2 (ret (fun r4 w5 => ∃ x6 : Int, ∃ x7 : Int, ∃ x8 : Int, ∃ x9 : Int, ∃ s10 : ByteArray, ∃ s11 : ByteArray, ∃ s12 : ByteArray, ∃ s13a : Option Addr, ∃ s13l : Nat, ∃ s13c : Nat, r4 = .agg #[.int .i64 x6, .int .i64 x7, .int .i64 x8, .int .i64 x9, .string s10, .string s11, .string s12, .slice s13a s13l s13c] ∧ Calls Try.prog 10 #[.pointer p3, .agg #[.int .i64 x6, .int .i64 x7, .int .i64 x8, .int .i64 x9, .string s10, .string s11, .string s12, .slice s13a s13l s13c]] w5 (ret (fun r14 w15 => ∃ x16 : Int, ∃ x17 : Int, r14 = .agg #[.int .i64 x16, .int .i64 x17] ∧ let w18 : World := w15.alloc (.cells #[.int .i64 0, .int .i64 0] 37)
  (.agg #[.int .i64 x16, .int .i64 x17] : Value).cells.size = 2 ∧ wrOk w18 (⟨w15.heap.size, 0, none⟩ : Addr) (.agg #[.int .i64 x16, .int .i64 x17]) ∧ let w19 : World := wr w18 (⟨w15.heap.size, 0, none⟩ : Addr) (.agg #[.int .i64 x16, .int .i64 x17])
  Calls Try.prog 28 #[.string (ByteArray.mk #[120, 46, 121]), .string (ByteArray.mk #[47]), .string (ByteArray.mk #[97])] w19 (ret (fun r20 w21 => ∃ x22 : Int, ∃ x23 : Int, ∃ x24 : Int, ∃ x25 : Int, ∃ s26 : ByteArray, ∃ s27 : ByteArray, ∃ s28 : ByteArray, ∃ s29a : Option Addr, ∃ s29l : Nat, ∃ s29c : Nat, r20 = .agg #[.int .i64 x22, .int .i64 x23, .int .i64 x24, .int .i64 x25, .string s26, .string s27, .string s28, .slice s29a s29l s29c] ∧ Calls Try.prog 10 #[.pointer p3, .agg #[.int .i64 x22, .int .i64 x23, .int .i64 x24, .int .i64 x25, .string s26, .string s27, .string s28, .slice s29a s29l s29c]] w21 (ret (fun r30 w31 => ∃ x32 : Int, ∃ x33 : Int, r30 = .agg #[.int .i64 x32, .int .i64 x33] ∧ let w34 : World := w31.alloc (.cells #[.int .i64 0, .int .i64 0] 37)
  (.agg #[.int .i64 x32, .int .i64 x33] : Value).cells.size = 2 ∧ wrOk w34 (⟨w31.heap.size, 0, none⟩ : Addr) (.agg #[.int .i64 x32, .int .i64 x33]) ∧ let w35 : World := wr w34 (⟨w31.heap.size, 0, none⟩ : Addr) (.agg #[.int .i64 x32, .int .i64 x33])
  Calls Try.prog 10 #[.pointer p3, .agg #[.int .i64 2, .int .i64 0, .int .i64 0, .int .i64 (-1), .string (ByteArray.mk #[]), .string (ByteArray.mk #[]), .string (ByteArray.mk #[97]), .slice none 0 0]] w35 (ret (fun r36 w37 => ∃ x38 : Int, ∃ x39 : Int, r36 = .agg #[.int .i64 x38, .int .i64 x39] ∧ let w40 : World := w37.alloc (.cells #[.int .i64 0, .int .i64 0] 37)
  (.agg #[.int .i64 x38, .int .i64 x39] : Value).cells.size = 2 ∧ wrOk w40 (⟨w37.heap.size, 0, none⟩ : Addr) (.agg #[.int .i64 x38, .int .i64 x39]) ∧ let w41 : World := wr w40 (⟨w37.heap.size, 0, none⟩ : Addr) (.agg #[.int .i64 x38, .int .i64 x39])
  Calls Try.prog 9 #[.pointer p3] w41 (ret (fun r42 w43 => ∃ x44 : Int, ∃ s45a : Option Addr, ∃ s45l : Nat, ∃ s45c : Nat, ∃ s46a : Option Addr, ∃ s46l : Nat, ∃ s46c : Nat, r42 = .agg #[.int .i64 x44, .slice s45a s45l s45c, .slice s46a s46l s46c] ∧ let w47 : World := w43.alloc (.cells #[.int .i64 0, .slice none 0 0, .slice none 0 0] 33)
  (.agg #[.int .i64 x44, .slice s45a s45l s45c, .slice s46a s46l s46c] : Value).cells.size = 3 ∧ wrOk w47 (⟨w43.heap.size, 0, none⟩ : Addr) (.agg #[.int .i64 x44, .slice s45a s45l s45c, .slice s46a s46l s46c]) ∧ let w48 : World := wr w47 (⟨w43.heap.size, 0, none⟩ : Addr) (.agg #[.int .i64 x44, .slice s45a s45l s45c, .slice s46a s46l s46c])
  ∃ x49 : Int, ∃ x50 : Int, rd w48 (⟨w15.heap.size, 0, none⟩ : Addr) (.agg #[.int .i64 x49, .int .i64 x50]) ∧ runV Try.prog (do eqGuard .eql 37 (.tmp 18) (.tmp 19) (.agg #[.int .i64 x49, .int .i64 x50]) (.agg #[.int .i64 0, .int .i64 1]); binOp .eql 37 (.agg #[.int .i64 x49, .int .i64 x50]) (.agg #[.int .i64 0, .int .i64 1])) w48 (fun r51 w52 => ∃ b53 : Bool, r51 = .bool b53 ∧ if b53 = true then (∃ x54 : Int, ∃ x55 : Int, rd w52 (⟨w31.heap.size, 0, none⟩ : Addr) (.agg #[.int .i64 x54, .int .i64 x55]) ∧ runV Try.prog (do eqGuard .eql 37 (.tmp 22) (.tmp 23) (.agg #[.int .i64 x54, .int .i64 x55]) (.agg #[.int .i64 0, .int .i64 2]); binOp .eql 37 (.agg #[.int .i64 x54, .int .i64 x55]) (.agg #[.int .i64 0, .int .i64 2])) w52 (fun r56 w57 => ∃ b58 : Bool, r56 = .bool b58 ∧ if b58 = true then (∃ x59 : Int, ∃ x60 : Int, rd w57 (⟨w37.heap.size, 0, none⟩ : Addr) (.agg #[.int .i64 x59, .int .i64 x60]) ∧ runV Try.prog (do eqGuard .eql 37 (.tmp 27) (.tmp 28) (.agg #[.int .i64 x59, .int .i64 x60]) (.agg #[.int .i64 13, .int .i64 2]); binOp .eql 37 (.agg #[.int .i64 x59, .int .i64 x60]) (.agg #[.int .i64 13, .int .i64 2])) w57 (fun r61 w62 => ∃ b63 : Bool, r61 = .bool b63 ∧ if b63 = true then (∃ x64 : Int, rd w62 (⟨w43.heap.size, 0, none⟩ : Addr) (.int .i64 x64) ∧ if ((x64 : Int) == 2) = true then (∃ s65a : Option Addr, ∃ s65l : Nat, ∃ s65c : Nat, rd w62 ((⟨w43.heap.size, 0, none⟩ : Addr).add 2) (.slice s65a s65l s65c) ∧ if (((s65l : Nat) : Int) == 1) = true then (∃ s66a : Option Addr, ∃ s66l : Nat, ∃ s66c : Nat, rd w62 ((⟨w43.heap.size, 0, none⟩ : Addr).add 1) (.slice s66a s66l s66c) ∧ if (((s66l : Nat) : Int) == 1) = true then (∃ s67a : Option Addr, ∃ s67l : Nat, ∃ s67c : Nat, rd w62 ((⟨w43.heap.size, 0, none⟩ : Addr).add 1) (.slice s67a s67l s67c) ∧ 0 ≤ (0 : Int) ∧ (0 : Int) < ((s67l : Nat) : Int) ∧ ∃ b68, s67a = some b68 ∧ ∃ s69 : ByteArray, rd w62 ((b68.add ((0 : Int).toNat * 3)).add 2) (.string s69) ∧ R (.returned (.bool (s69.toList == (ByteArray.mk #[97]).toList))) w62) else (R (.returned (.bool false)) w62)) else (R (.returned (.bool false)) w62)) else (R (.returned (.bool false)) w62)) else (R (.returned (.bool false)) w62)) (pan R)) else (R (.returned (.bool false)) w57)) (pan R)) else (R (.returned (.bool false)) w52)) (pan R)) (pan R))) (pan R))) (pan R))) (pan R))) (pan R))) (pan R))) (pan R))

theorem T_law08_live_hl : allP (hokL Try.prog (hookAt []) (bodyOf Try.f12) 1) = (True) := by kernel_rfl

theorem T_law08_live_eq  (w : World) (R : Ending → World → Prop) : vcCode Try.prog (hookAt []) (bodyOf Try.f12) 1 ⟨argEnv [] 0, Try.f12.ntmps, []⟩ w (finQ Try.prog Try.f12.results.toList R) = T_law08_live  w R := by kernel_rfl

theorem T_law08_live_b : Try.f12.body = some (bodyOf Try.f12) := by kernel_rfl
theorem T_law08_live_s : (quietSel (bodyOf Try.f12) && Nat.ble 0 Try.f12.ntmps) = true := by kernel_rfl

theorem C_law08_live  {w : World} {R : Ending → World → Prop} (h : T_law08_live  w R) : Calls Try.prog 12 #[] w R :=
  calls_of_text (args := []) mixed Try.func12 T_law08_live_b T_law08_live_s (HOk_of _ _ (by rw [T_law08_live_hl]; exact trivial)) (by rw [T_law08_live_eq]; exact h)

end Go.Proofs.Ytcpmfjclkdjfmaa

/-
  The commands that the statements make themselves; what must be whatever is asked.
-/
namespace Go.Vc
open Go Go.Proofs Go.Proofs.Ytcpmfjclkdjfmaa
set_option maxRecDepth 100000
section
variable {E w : World} {L : List Asrt} {R : Ending → World → Prop} {F G : Fz}
def tgt1 : Cm.Tgt := ⟨[116], 4607182418800017408⟩
def poolC (n : Cm.Bs) : Cm.Cmd := ⟨1, 0, 0, -1, [], [], n, [tgt1]⟩
def routeC (h p t : Cm.Bs) : Cm.Cmd := ⟨3, 0, 0, -1, h, p, t, []⟩
def dropC (n : Cm.Bs) : Cm.Cmd := ⟨2, 0, 0, -1, [], [], n, []⟩
theorem ok_poolC {n : Cm.Bs} (h : n.length ≤ huge) : okC (poolC n) := ⟨Nat.zero_le _, Nat.zero_le _, h, by simp [poolC, huge], fun t ht => by
  simp [poolC] at ht
  subst ht
  exact ⟨by simp [tgt1, huge], by simp [tgt1, two64]⟩⟩
theorem ok_routeC {h p t : Cm.Bs} (h1 : h.length ≤ huge) (h2 : p.length ≤ huge) (h3 : t.length ≤ huge) : okC (routeC h p t) := ⟨h1, h2, h3, Nat.zero_le _, fun t ht => by simp [routeC] at ht⟩
theorem ok_dropC {n : Cm.Bs} (h : n.length ≤ huge) : okC (dropC n) := ⟨Nat.zero_le _, Nat.zero_le _, h, Nat.zero_le _, fun t ht => by simp [dropC] at ht⟩
theorem St.wr_cmd {b t : Nat} {l : List Value} (h : St E (blkL b t l :: L) w) (hl : l.length = 8) (c : Cm.Cmd) (q : Sl) : St E (blkL b t (cmdL c q) :: L) (wr w ⟨b, 0, none⟩ (cmdV c q)) := h.wr_agg0 (xs := cmdL c q) (by rw [hl]; rfl)
theorem ok_cmd {b t : Nat} {l : List Value} (h : St E (blkL b t l :: L) w) (hl : l.length = 8) (c : Cm.Cmd) (q : Sl) : wrOk w ⟨b, 0, none⟩ (cmdV c q) := wrOk_agg h.at_blk (xs := cmdL c q) (by rw [hl]; exact Nat.le_refl 8) (one_cmdL c q)
theorem pool_spec {n : Cm.Bs} (h : St E (kn F :: L) w) (k : ∀ G (q : Sl) w', Fz.le F G → RdF G q.1 q.2.1 2 ((poolC n).tg.flatMap tV) → St E (kn G :: L) w' → R (.returned (cmdV (poolC n) q)) w') : Calls Try.prog 20 #[.string (bs n)] w R := by
  refine C_law08_pool ?_
  unfold T_law08_pool
  intro w2
  have h2 : St E (blkL w.heap.size 28 (cmdL zeroC (none, 0, 0)) :: kn F :: L) w2 := h.alloc _
  intro w3
  have h3 : St E (tgA (some ⟨w2.heap.size, 0, none⟩, 1, 1) [tgt1] :: blkL w.heap.size 28 (cmdL zeroC (none, 0, 0)) :: kn F :: L) w3 := (St.ownS_mk (xs := [tgt1].flatMap tV) (rest := []) (l := 1) (c := 1) (sz := 2) (h2.alloc _) rfl (Nat.le_refl _) (by decide) rfl :)
  refine ⟨rfl, ok_cmd h3.f1 rfl (poolC n) (some ⟨w2.heap.size, 0, none⟩, 1, 1), ?_⟩
  intro w4
  have h4 := St.wr_cmd h3.f1 rfl (poolC n) (some ⟨w2.heap.size, 0, none⟩, 1, 1)
  obtain ⟨G, hG, h5, hr⟩ := St.freezeT (h4.sel 3 [1, 2])
  exact ⟨_, _, _, _, _, _, _, _, _, _, rd_cmd h4, k G (some ⟨w2.heap.size, 0, none⟩, 1, 1) _ hG hr h5⟩
theorem route_spec {hh p t : Cm.Bs} (h : St E L w) (k : ∀ w', St E L w' → R (.returned (cmdV (routeC hh p t) (none, 0, 0))) w') : Calls Try.prog 28 #[.string (bs hh), .string (bs p), .string (bs t)] w R := by
  refine C_law08_route ?_
  unfold T_law08_route
  intro w4
  have h4 : St E (blkL w.heap.size 28 (cmdL zeroC (none, 0, 0)) :: L) w4 := h.alloc _
  refine ⟨rfl, ok_cmd h4 rfl (routeC hh p t) (none, 0, 0), ?_⟩
  intro w5
  have h5 := St.wr_cmd h4 rfl (routeC hh p t) (none, 0, 0)
  exact ⟨_, _, _, _, _, _, _, _, _, _, rd_cmd h5, k _ h5.drop⟩
def live1 : Cm.Sm := ⟨1, [], [⟨[97], [tgt1]⟩], []⟩
def live2 : Cm.Sm := ⟨2, [⟨[120, 46, 121], [47], [97]⟩], [⟨[97], [tgt1]⟩], []⟩
theorem do_live1 : Cm.doC Cm.new (poolC [97]) = (live1, 0, 1) := by kernel_rfl
theorem do_live2 : Cm.doC live1 (routeC [120, 46, 121] [47] [97]) = (live2, 0, 2) := by kernel_rfl
theorem do_live3 : Cm.doC live2 (dropC [97]) = (live2, 13, 2) := by kernel_rfl
theorem inv1 : Cm.Inv live1 := by have := Cm.doC_keeps Cm.Inv.new (poolC [97]); rwa [do_live1] at this
theorem inv2 : Cm.Inv live2 := by have := Cm.doC_keeps inv1 (routeC [120, 46, 121] [47] [97]); rwa [do_live2] at this
set_option maxHeartbeats 4000000 in
/-- live: it is true. -/
theorem live_spec (h : St E (kn F :: L) w) (k : ∀ G w', Fz.le F G → St E (kn G :: L) w' → R (.returned (.bool true)) w') : Calls Try.prog 12 #[] w R := by
  refine C_law08_live ?_
  unfold T_law08_live
  refine New_spec F h fun p w2 h2 => ⟨_, rfl, ?_⟩
  refine pool_spec (n := [97]) h2.f1 fun G1 q1 w5 k1 r1 h5 => ⟨_, _, _, _, _, _, _, _, _, _, rfl, ?_⟩
  refine Do_spec (c := poolC [97]) (q := q1) Cm.Inv.new r1 (ok_poolC (by simp [huge])) (h5.f1.st_mono k1) fun G2 w15 k2 h15 => ?_
  rw [do_live1] at h15 ⊢
  refine ⟨_, _, rfl, ?_⟩
  intro w18
  have h18 := h15.alloc (.cells #[.int .i64 0, .int .i64 0] 37)
  refine ⟨rfl, ok_res h18 rfl 0 1, ?_⟩
  intro w19
  have h19 : St E (blkL w15.heap.size 37 (rsL 0 1) :: stA G2 p live1 :: kn G2 :: L) w19 := h18.wr_res rfl 0 1
  clear h18
  clear_value w19 w18
  generalize w15.heap.size = b1 at *
  refine route_spec (hh := [120, 46, 121]) (p := [47]) (t := [97]) h19 fun w21 h21 => ⟨_, _, _, _, _, _, _, _, _, _, rfl, ?_⟩
  refine Do_spec (c := routeC [120, 46, 121] [47] [97]) (q := (none, 0, 0)) inv1 (RdF.nil G2 none) (ok_routeC (by simp [huge]) (by simp [huge]) (by simp [huge])) (h21.sel 3 [1, 2, 0]) fun G3 w31 k3 h31 => ?_
  rw [do_live2] at h31 ⊢
  refine ⟨_, _, rfl, ?_⟩
  intro w34
  have h34 := h31.alloc (.cells #[.int .i64 0, .int .i64 0] 37)
  refine ⟨rfl, ok_res h34 rfl 0 2, ?_⟩
  intro w35
  have h35 : St E (blkL w31.heap.size 37 (rsL 0 2) :: stA G3 p live2 :: kn G3 :: blkL b1 37 (rsL 0 1) :: L) w35 := h34.wr_res rfl 0 2
  clear h34
  clear_value w35 w34
  generalize w31.heap.size = b2 at *
  refine Do_spec (c := dropC [97]) (q := (none, 0, 0)) inv2 (RdF.nil G3 none) (ok_dropC (by simp [huge])) (h35.sel 4 [1, 2, 0, 3]) fun G4 w37 k4 h37 => ?_
  rw [do_live3] at h37 ⊢
  refine ⟨_, _, rfl, ?_⟩
  intro w40
  have h40 := h37.alloc (.cells #[.int .i64 0, .int .i64 0] 37)
  refine ⟨rfl, ok_res h40 rfl 13 2, ?_⟩
  intro w41
  have h41 : St E (blkL w37.heap.size 37 (rsL 13 2) :: stA G4 p live2 :: kn G4 :: blkL b2 37 (rsL 0 2) :: blkL b1 37 (rsL 0 1) :: L) w41 := h40.wr_res rfl 13 2
  clear h40
  clear_value w41 w40
  generalize w37.heap.size = b3 at *
  refine Config_spec (F := G4) at1 (Sz.of inv2) (h41.sel 3 [1, 0, 2]) fun w43 ra pa xs hxs h43 => ⟨_, _, _, _, _, _, _, rfl, ?_⟩
  intro w47
  have h47 := h43.alloc (.cells #[.int .i64 0, .slice none 0 0, .slice none 0 0] 33)
  refine ⟨rfl, ok_cfg h47 rfl 2 ra pa, ?_⟩
  intro w48
  have h48 : St E (blkL w43.heap.size 33 (cfgL 2 ra pa) :: rtA ra live2.routes :: plA pa xs :: tgO xs :: stA G4 p live2 :: blkL b3 37 (rsL 13 2) :: kn G4 :: blkL b2 37 (rsL 0 2) :: blkL b1 37 (rsL 0 1) :: L) w48 := St.wr_cfg h47 rfl 2 ra pa
  clear h47
  clear_value w48 w47
  generalize w43.heap.size = bc at *
  have hb1 : St E (blkL b1 37 (rsL 0 1) :: L) w48 := h48.sel 9 [8]
  have hb2 : St E (blkL b2 37 (rsL 0 2) :: L) w48 := h48.sel 9 [7]
  have hb3 : St E (blkL b3 37 (rsL 13 2) :: L) w48 := h48.sel 9 [5]
  have hpl := St.pl_len h48.f2
  have hrt := St.rt_len h48.f1
  have hx1 : xs.length = 1 := by have := congrArg List.length hxs; simpa [live2] using this
  have hr1 : live2.routes.length = 1 := rfl
  refine ⟨_, _, rd_res hb1, runV_ok (res_eq _ _ 0 1 0 1) ⟨_, rfl, ite_b (fun _ => ?_) fun hh => by simp at hh⟩⟩
  refine ⟨_, _, rd_res hb2, runV_ok (res_eq _ _ 0 2 0 2) ⟨_, rfl, ite_b (fun _ => ?_) fun hh => by simp at hh⟩⟩
  refine ⟨_, _, rd_res hb3, runV_ok (res_eq _ _ 13 2 13 2) ⟨_, rfl, ite_b (fun _ => ?_) fun hh => by simp at hh⟩⟩
  refine ⟨_, rd_cell h48.at_blk rfl rfl, ite_b (fun _ => ?_) fun hh => by simp at hh⟩
  refine ⟨_, _, _, rd_fld h48.at_blk rfl rfl, ite_b (fun _ => ?_) fun hh => by rw [← hpl, hx1] at hh; simp at hh⟩
  refine ⟨_, _, _, rd_fld h48.at_blk rfl rfl, ite_b (fun _ => ?_) fun hh => by rw [← hrt, hr1] at hh; simp at hh⟩
  obtain ⟨ad, ha, _, hk⟩ := rt_at (h48.f1).rdS_own (j := 0) (by rw [hr1]; decide)
  refine ⟨_, _, _, rd_fld h48.at_blk rfl rfl, by decide, by rw [← hrt, hr1]; decide, ad, ha, _, hk 2 _ rfl rfl, ?_⟩
  rw [show (ByteArray.mk #[97]) = bs [97] from rfl, str_beq]
  exact k G4 _ (Fz.le_trans k1 (Fz.le_trans k2 (Fz.le_trans k3 k4))) (h48.sel 9 [6])
end
end Go.Vc

/-
  Nothing of its own: a name that the other seat needs.
-/

/-
  The document's store: lists that rise; a configuration's bytes, lists with one at its place.
-/
namespace Go.Vc
open Go Go.Proofs Go.Proofs.Ytcpmfjclkdjfmaa
set_option maxRecDepth 100000
section
variable {E w : World} {L : List Asrt} {R : Ending → World → Prop} {F G : Fz} {s : Cm.Sm} {xs : Cm.Bs} {b ra pa : Sl}
end
end Go.Vc

/-
  The document's store does a command that is right: as the lists say.
-/
namespace Go.Vc
open Go Go.Proofs Go.Proofs.Ytcpmfjclkdjfmaa
set_option maxRecDepth 100000
section
variable {E w : World} {L : List Asrt} {R : Ending → World → Prop} {F G : Fz} {s : Cm.Sm} {c : Cm.Cmd} {q ra pa : Sl} {v : Int}
end
end Go.Vc

/-
  The document's store: what a client was told, and what it does with a command.
-/
namespace Go.Vc
open Go Go.Proofs Go.Proofs.Ytcpmfjclkdjfmaa
set_option maxRecDepth 100000
section
variable {E w : World} {L : List Asrt} {R : Ending → World → Prop} {F G : Fz} {s : Cm.Sm} {c : Cm.Cmd} {q : Sl} {r : Nat}
end
end Go.Vc

/-
  Commands that came in: what stands in them.
-/
namespace Go.Vc
open Go Go.Proofs Go.Proofs.Ytcpmfjclkdjfmaa
set_option maxRecDepth 100000
section
variable {H : Type} {enc : TypeId × Value → H} {W : World}
theorem trod_float0 {t : TypeId} {fk : FloatKind} (ht : Try.prog.underlying t = some (.float fk)) {fuel : Nat} {cs : List Value} {x : DataW H × List MemPlace} (h : DataW.trod enc Try.prog W 0 (fun _ => true) true fuel t cs = some x) : ∃ b, cs = [.float fk b] ∧ x = (.lit (.float fk b), []) ∧ (Lit.float fk b).wf = true := by
  cases fuel with
  | zero => simp [DataW.trod] at h
  | succ n =>
    unfold DataW.trod at h
    rw [ht] at h
    split at h <;> simp_all
theorem trod_float {t : TypeId} (ht : Try.prog.underlying t = some (.float .f64)) {fuel : Nat} {cs : List Value} {x : DataW H × List MemPlace} (h : DataW.trod enc Try.prog W 0 (fun _ => true) true fuel t cs = some x) : ∃ b, cs = [.float .f64 b] ∧ b < two64 := by
  obtain ⟨b, h1, _, h2⟩ := trod_float0 ht h
  exact ⟨b, h1, of_decide_eq_true h2⟩
theorem sl_of {t e : TypeId} (ht : Try.prog.underlying t = some (.slice e)) {fuel : Nat} {v : Value} {x : DataW H × List MemPlace} (h : DataW.trod enc Try.prog W 0 (fun _ => true) true fuel t [v] = some x) : ∃ a l c, v = .slice a l c ∧ l ≤ c := by
  rcases DataW.trod_slice ht h with ⟨hcs, _⟩ | ⟨ad, len, cap, _, _, _, _, hcs, _, _, hl, _⟩
  · simp at hcs; exact ⟨_, _, _, hcs, Nat.le_refl _⟩
  · simp at hcs; exact ⟨_, _, _, hcs, hl⟩
/-- Targets that came in. -/
theorem open_tgs {a : Option Addr} {l c : Nat} {fuel : Nat} {x : DataW H × List MemPlace} (h : DataW.trod enc Try.prog W 0 (fun _ => true) true fuel 26 [.slice a l c] = some x) :
    ∃ tg : List Cm.Tgt, RdS W a l 2 (tg.flatMap tV) ∧ okTs tg := by
  obtain ⟨tg, h1, h2, h3⟩ := open_elems (β := Cm.Tgt) (f := tV) okT tV_len (by decide) Try.underlying26 (by kernel_rfl) (fun n cs x hx => by
    obtain ⟨xs, m, _, _, hcl, hxl, hfs⟩ := DataW.trod_struct Try.underlying55 hx
    rw [show Try.prog.cellsOf 55 = 2 by kernel_rfl] at hcl
    have hxl2 : xs.length = 2 := hxl
    have cs_ : Try.prog.cellsOf 9 = 1 := by kernel_rfl
    have cf : Try.prog.cellsOf 51 = 1 := by kernel_rfl
    match cs, hcl with
    | [v0, v1], _ =>
      have f0 := hfs 0 _ rfl
      have f1 := hfs 1 _ rfl
      simp only [List.getElem_toArray, List.getElem_cons_zero, List.getElem_cons_succ, cs_, cf, List.drop_zero, List.drop_succ_cons, List.take_succ_cons, List.take_zero] at f0 f1
      rw [List.getElem?_eq_getElem (by omega)] at f0 f1
      obtain ⟨s0, e0, _, w0⟩ := DataW.trod_string Try.underlying9 f0
      obtain ⟨b1, e1, w1⟩ := trod_float Try.underlying51 f1
      simp at e0 e1
      subst e0 e1
      refine ⟨⟨s0.data.toList, b1⟩, by unfold tV; dsimp only; rw [bs_of], ?_, w1⟩
      have : s0.data.toList.length = s0.size := Array.length_toList
      show s0.data.toList.length ≤ huge
      rw [this]; exact w0) h
  refine ⟨tg, h1, ?_, h3⟩
  have := h1.count tV_len (by decide)
  rw [this]; exact h2
/-- A command that came in. -/
theorem open_cmd {fuel : Nat} {cs : List Value} {x : DataW H × List MemPlace} (hx : DataW.trod enc Try.prog W 0 (fun _ => true) true fuel 28 cs = some x) :
    ∃ d : Cm.Cmd × Sl, cs = cmdL d.1 d.2 ∧ okC d.1 ∧ RdS W d.2.1 d.2.2.1 2 (d.1.tg.flatMap tV) := by
  obtain ⟨xs, m, _, _, hcl, hxl, hfs⟩ := DataW.trod_struct Try.underlying28 hx
  rw [show Try.prog.cellsOf 28 = 8 by kernel_rfl] at hcl
  have hxl8 : xs.length = 8 := hxl
  have c1 : Try.prog.cellsOf 9 = 1 := by kernel_rfl
  have c2 : Try.prog.cellsOf 3 = 1 := by kernel_rfl
  have c3 : Try.prog.cellsOf 25 = 1 := by kernel_rfl
  have c4 : Try.prog.cellsOf 26 = 1 := by kernel_rfl
  match cs, hcl with
  | [v0, v1, v2, v3, v4, v5, v6, v7], _ =>
    have f0 := hfs 0 _ rfl
    have f1 := hfs 1 _ rfl
    have f2 := hfs 2 _ rfl
    have f3 := hfs 3 _ rfl
    have f4 := hfs 4 _ rfl
    have f5 := hfs 5 _ rfl
    have f6 := hfs 6 _ rfl
    have f7 := hfs 7 _ rfl
    simp only [List.getElem_toArray, List.getElem_cons_zero, List.getElem_cons_succ, c1, c2, c3, c4, List.drop_zero, List.drop_succ_cons, List.take_succ_cons, List.take_zero] at f0 f1 f2 f3 f4 f5 f6 f7
    rw [List.getElem?_eq_getElem (by omega)] at f0 f1 f2 f3 f4 f5 f6 f7
    obtain ⟨k0, e0, _⟩ := DataW.trod_int Try.underlying25 f0
    obtain ⟨k1, e1, _⟩ := DataW.trod_int Try.underlying3 f1
    obtain ⟨k2, e2, _⟩ := DataW.trod_int Try.underlying3 f2
    obtain ⟨k3, e3, _⟩ := DataW.trod_int Try.underlying3 f3
    obtain ⟨s4, e4, _, w4⟩ := DataW.trod_string Try.underlying9 f4
    obtain ⟨s5, e5, _, w5⟩ := DataW.trod_string Try.underlying9 f5
    obtain ⟨s6, e6, _, w6⟩ := DataW.trod_string Try.underlying9 f6
    obtain ⟨a7, l7, c7, rfl, _⟩ := sl_of Try.underlying26 f7
    obtain ⟨tg, h7, o7⟩ := open_tgs f7
    simp at e0 e1 e2 e3 e4 e5 e6
    subst e0 e1 e2 e3 e4 e5 e6
    have len : ∀ s : ByteArray, s.data.toList.length = s.size := fun s => Array.length_toList
    exact ⟨(⟨k0, k1, k2, k3, s4.data.toList, s5.data.toList, s6.data.toList, tg⟩, (a7, l7, c7)), by unfold cmdL; dsimp only; rw [bs_of, bs_of, bs_of], ⟨by show s4.data.toList.length ≤ huge; rw [len]; exact w4, by show s5.data.toList.length ≤ huge; rw [len]; exact w5, by show s6.data.toList.length ≤ huge; rw [len]; exact w6, o7⟩, h7⟩
theorem cmdL_len (d : Cm.Cmd × Sl) : (cmdL d.1 d.2).length = 8 := rfl
/-- Commands that came in. -/
def CmdsR (F : Fz) (a : Option Addr) (l : Nat) (ds : List (Cm.Cmd × Sl)) : Prop := RdF F a l 8 (ds.flatMap fun d => cmdL d.1 d.2) ∧ ∀ d ∈ ds, okC d.1 ∧ RdF F d.2.1 d.2.2.1 2 (d.1.tg.flatMap tV)
theorem open_cmds {a : Option Addr} {l c : Nat} {d : DataW H} {ps : List MemPlace} (h : DataW.Trod enc Try.prog W 0 (fun _ => true) true 22 (.slice a l c) d ps) : ∃ ds, CmdsR (fun b => W.heap[b]?) a l ds ∧ l ≤ maxLen := by
  obtain ⟨fuel, hf⟩ := h
  obtain ⟨ds, h1, h2, h3⟩ := open_elems (β := Cm.Cmd × Sl) (f := fun d => cmdL d.1 d.2) (fun d => okC d.1 ∧ RdS W d.2.1 d.2.2.1 2 (d.1.tg.flatMap tV)) cmdL_len (by decide) Try.underlying22 (by kernel_rfl) (fun n cs x hx => by
    obtain ⟨d, e, h1, h2⟩ := open_cmd hx
    exact ⟨d, e, h1, h2⟩) hf
  exact ⟨ds, ⟨RdF.of_world h1, fun d hd => ⟨(h3 d hd).1, RdF.of_world (h3 d hd).2⟩⟩, h2⟩
end
end Go.Vc

/-
  Nothing of its own: a name that the other seat needs.
-/

/-
  Commands on both stores: whatever they are, both come to the same.
-/
namespace Go.Vc
open Go Go.Proofs Go.Proofs.Ytcpmfjclkdjfmaa
set_option maxRecDepth 100000
section
variable {E w : World} {L : List Asrt} {R : Ending → World → Prop} {F G : Fz} {s : Cm.Sm} {c : Cm.Cmd} {q : Sl} {p r : Nat}
def shortC (c : Cm.Cmd) (q : Sl) : Bool := decide (q.2.1 ≤ 100) && (decide (c.host.length ≤ 1000) && (decide (c.pfx.length ≤ 1000) && decide (c.pool.length ≤ 1000)))
theorem short_spec (h : St E L w) (k : ∀ w', St E L w' → R (.returned (.bool (shortC c q))) w') : Calls Try.prog 8 #[cmdV c q] w R := by
  refine C_law08_short ?_
  unfold T_law08_short
  intro w9
  have h9 : St E (blkL w.heap.size 28 (cmdL c q) :: L) w9 := h.alloc _
  have e : ∀ s : Cm.Bs, decide (((bs s).size : Int) ≤ 1000) = decide (s.length ≤ 1000) := fun s => by rw [bs_size, Bool.eq_iff_iff]; simp; omega
  have e0 : decide ((q.2.1 : Int) ≤ 100) = decide (q.2.1 ≤ 100) := by rw [Bool.eq_iff_iff]; simp; omega
  refine ⟨_, _, _, rd_fld h9.at_blk rfl rfl, ?_⟩
  rw [e0]
  refine ite_b (fun h1 => ⟨_, rd_fld h9.at_blk rfl rfl, ?_⟩) fun h1 => congB (k _ h9.drop) (by unfold shortC; rw [h1, Bool.false_and])
  rw [e]
  refine ite_b (fun h2 => ⟨_, rd_fld h9.at_blk rfl rfl, ?_⟩) fun h2 => congB (k _ h9.drop) (by unfold shortC; rw [h1, h2, Bool.true_and, Bool.false_and])
  rw [e]
  refine ite_b (fun h3 => ⟨_, rd_fld h9.at_blk rfl rfl, ?_⟩) fun h3 => congB (k _ h9.drop) (by unfold shortC; rw [h1, h2, h3, Bool.true_and, Bool.true_and, Bool.false_and])
  rw [e]
  exact congB (k _ h9.drop) (by unfold shortC; rw [h1, h2, h3, Bool.true_and, Bool.true_and, Bool.true_and])
theorem cmd_at {ds : List (Cm.Cmd × Sl)} {a : Option Addr} {l : Nat} (h : RdS w a l 8 (ds.flatMap fun d => cmdL d.1 d.2)) {j : Nat} (hj : j < ds.length) : ∃ ad, a = some ad ∧ rd w (ad.add (j * 8)) (cmdV ds[j].1 ds[j].2) := by
  obtain ⟨ad, ha, h1, _⟩ := h.elem (f := fun d : Cm.Cmd × Sl => cmdL d.1 d.2) cmdL_len (List.getElem?_eq_getElem hj) (by decide)
  exact ⟨ad, ha, h1⟩
theorem CmdsR.mono {a : Option Addr} {l : Nat} {ds : List (Cm.Cmd × Sl)} (h : CmdsR F a l ds) (k : Fz.le F G) : CmdsR G a l ds := ⟨RdF.mono h.1 k, fun d hd => ⟨(h.2 d hd).1, RdF.mono (h.2 d hd).2 k⟩⟩
end
end Go.Vc

/-
  Config, and what it tells stays as it is.
-/
namespace Go.Vc
open Go Go.Proofs Go.Proofs.Ytcpmfjclkdjfmaa Go.RowKit
set_option maxRecDepth 100000
section
variable {E w : World} {L : List Asrt} {R : Ending → World → Prop} {F G : Fz} {s : Cm.Sm} {p : Nat}
/-- Config, and what it tells stays as it is. -/
theorem Config_kn (S : Sz s) (h : St E (stA F p s :: kn F :: L) w) (k : ∀ (G : Fz) (w' : World) (ra pa : Sl), Fz.le F G → cfgR G ra pa s.routes s.pools → St E (stA G p s :: kn G :: L) w' → R (.returned (cfgV s.ver ra pa)) w') :
    Calls Try.prog 9 #[.pointer (some ⟨p, 0, none⟩)] w R := by
  refine Config_spec (L := kn F :: L) at0 S h fun w' ra pa xs hxs h' => ?_
  obtain ⟨G, hG, h2, hc⟩ := St.cfg_freeze hxs (h'.sel 5 [0, 1, 2, 4, 3])
  have h3 : St E (kn G :: stA F p s :: L) w' := h2
  exact k G w' ra pa hG hc (h3.f1.st_mono hG)
end
end Go.Vc

/-
  What the functions' code comes to; printed by a program of this claim's own.
-/
namespace Go.Proofs.Ytcpmfjclkdjfmaa
open Go Go.Vc
set_option maxRecDepth 100000
set_option linter.unusedVariables false

/-! tollgate/tollgatelaw08.ConfVersions -/
def T_law08_ConfVersions_2 (l9a : Option Addr) (l9l : Nat) (l9c : Nat) (i10 : Int) (w : World) (Kn : Bool → World → Prop) (Kp : List PanicEntry → World → Prop) : Prop :=
  if (decide ((i10 : Int) < ((l9l : Nat) : Int))) = true then (Kn (decide ((i10 : Int) < 150)) w) else (Kn false w)

def T_law08_ConfVersions_2_outs : Exit → Option (List (Nat × Value)) := fun x => match x with | .normal => some [(17, .bool false)] | .panic _ => some [] | _ => none

def T_law08_ConfVersions_2_ks : Nat → Bool := ksOf [10, 11, 12, 13, 14, 15, 16, 17]

def H_law08_ConfVersions_2 : Env → World → QT → Prop := unitHook 56 T_law08_ConfVersions_2_ks [(0, .slice none 0 0), (5, .int .i64 0)] T_law08_ConfVersions_2_outs fun l w C => match l with | [v0, v1] => T_law08_ConfVersions_2 (pA v0) (pL v0) (pC v0) (pInt v1) w (fun b12 w => C .normal [.bool b12] w) (fun ch w => C (.panic ch) [] w) | _ => False

theorem T_law08_ConfVersions_2_hl : allP (hokL Try.prog (hookAt []) (at_ (bodyOf Try.f3) [1, 1, 1, 0, 1, 0, 0, 0, 0]) 976) = (True) := by kernel_rfl
theorem T_law08_ConfVersions_2_hok : HOk Try.prog (hookAt []) (at_ (bodyOf Try.f3) [1, 1, 1, 0, 1, 0, 0, 0, 0]) 976 := HOk_of _ _ (by rw [T_law08_ConfVersions_2_hl]; exact trivial)

theorem T_law08_ConfVersions_2_eq (C : Conts) (l9a : Option Addr) (l9l : Nat) (l9c : Nat) (i10 : Int) (w : World) : vcCode Try.prog (hookAt []) (at_ (bodyOf Try.f3) [1, 1, 1, 0, 1, 0, 0, 0, 0]) 976 ⟨[(0, .slice l9a l9l l9c), (5, .int .i64 i10)], 56, []⟩ w (unitQ T_law08_ConfVersions_2_outs C) = T_law08_ConfVersions_2 l9a l9l l9c i10 w (fun b13 w => C .normal [.bool b13] w) (fun ch w => C (.panic ch) [] w) := by kernel_rfl

theorem T_law08_ConfVersions_2_ok : UnitOk Try.prog H_law08_ConfVersions_2 (at_ (bodyOf Try.f3) [1, 1, 1, 0, 1, 0, 0, 0, 0]) 976 := unit_ok (H := (hookAt [])) (by kernel_rfl) T_law08_ConfVersions_2_hok fun l w C hk => by
    obtain ⟨v0, l_v0, rfl, k_v0, hk_v0⟩ := Kinds.cons_ hk
    obtain ⟨l9a, l9l, l9c, rfl⟩ := kind_slice k_v0
    obtain ⟨v1, l_v1, rfl, k_v1, hk_v1⟩ := Kinds.cons_ hk_v0
    obtain ⟨i10, rfl⟩ := kind_int k_v1
    obtain rfl := Kinds.nil_ hk_v1
    exact T_law08_ConfVersions_2_eq C l9a l9l l9c i10 w

def T_law08_ConfVersions_3 (s62 : Option Addr) (n63 : Int) (was64 : Addr) (b65 : Bool) (w : World) (Kn : Int → World → Prop) (Kr : Bool → World → Prop) (Kp : List PanicEntry → World → Prop) : Prop :=
  if b65 = true then (Kn (IntKind.wrap .i64 ((n63 : Int) + 1)) w) else (let w66 : World := w.drew
  ∃ x67 : Int, ∃ s68a : Option Addr, ∃ s68l : Nat, ∃ s68c : Nat, ∃ s69a : Option Addr, ∃ s69l : Nat, ∃ s69c : Nat, rd w66 was64 (.agg #[.int .i64 x67, .slice s68a s68l s68c, .slice s69a s69l s69c]) ∧ Calls Try.prog 9 #[.pointer s62] w66 (ret (fun r70 w71 => ∃ x72 : Int, ∃ s73a : Option Addr, ∃ s73l : Nat, ∃ s73c : Nat, ∃ s74a : Option Addr, ∃ s74l : Nat, ∃ s74c : Nat, r70 = .agg #[.int .i64 x72, .slice s73a s73l s73c, .slice s74a s74l s74c] ∧ (rd w71 was64 (.agg #[.int .i64 x67, .slice s68a s68l s68c, .slice s69a s69l s69c]) ∧ True) ∧ Calls Try.prog 11 #[.agg #[.int .i64 x72, .slice s73a s73l s73c, .slice s74a s74l s74c], .agg #[.int .i64 x67, .slice s68a s68l s68c, .slice s69a s69l s69c]] w71 (ret (fun r75 w76 => ∃ b77 : Bool, r75 = .bool b77 ∧ (True) ∧ if (!b77) = true then (Kr false w76) else (Kn n63 w76)) Kp)) Kp))

def T_law08_ConfVersions_3_outs : Exit → Option (List (Nat × Value)) := fun x => match x with | .normal => some [(4, .int .i64 0)] | .ret => some [(2, .bool false)] | .panic _ => some [] | _ => none

def T_law08_ConfVersions_3_ks : Nat → Bool := ksOf [2, 4, 37, 38, 39, 40, 41, 42, 43]

def H_law08_ConfVersions_3 : Env → World → QT → Prop := unitHook 56 T_law08_ConfVersions_3_ks [(3, .pointer none), (4, .int .i64 0), (7, .pointer (some ⟨0, 0, none⟩)), (36, .bool false)] T_law08_ConfVersions_3_outs fun l w C => match l with | [v0, v1, v2, v3] => T_law08_ConfVersions_3 (pPtr v0) (pInt v1) (pAddr v2) (pBool v3) w (fun n80 w => C .normal [.int .i64 n80] w) (fun b81 w => C .ret [.bool b81] w) (fun ch w => C (.panic ch) [] w) | _ => False

theorem T_law08_ConfVersions_3_hl : allP (hokL Try.prog (hookAt []) (at_ (bodyOf Try.f3) [1, 1, 1, 0, 1, 0, 0, 1, 0, 0, 1, 1, 1, 1, 1, 0, 1]) 250493) = (True) := by kernel_rfl
theorem T_law08_ConfVersions_3_hok : HOk Try.prog (hookAt []) (at_ (bodyOf Try.f3) [1, 1, 1, 0, 1, 0, 0, 1, 0, 0, 1, 1, 1, 1, 1, 0, 1]) 250493 := HOk_of _ _ (by rw [T_law08_ConfVersions_3_hl]; exact trivial)

theorem T_law08_ConfVersions_3_eq (C : Conts) (s62 : Option Addr) (n63 : Int) (was64 : Addr) (b65 : Bool) (w : World) : vcCode Try.prog (hookAt []) (at_ (bodyOf Try.f3) [1, 1, 1, 0, 1, 0, 0, 1, 0, 0, 1, 1, 1, 1, 1, 0, 1]) 250493 ⟨[(3, .pointer s62), (4, .int .i64 n63), (7, .pointer (some was64)), (36, .bool b65)], 56, []⟩ w (unitQ T_law08_ConfVersions_3_outs C) = T_law08_ConfVersions_3 s62 n63 was64 b65 w (fun n82 w => C .normal [.int .i64 n82] w) (fun b83 w => C .ret [.bool b83] w) (fun ch w => C (.panic ch) [] w) := by kernel_rfl

theorem T_law08_ConfVersions_3_ok : UnitOk Try.prog H_law08_ConfVersions_3 (at_ (bodyOf Try.f3) [1, 1, 1, 0, 1, 0, 0, 1, 0, 0, 1, 1, 1, 1, 1, 0, 1]) 250493 := unit_ok (H := (hookAt [])) (by kernel_rfl) T_law08_ConfVersions_3_hok fun l w C hk => by
    obtain ⟨v0, l_v0, rfl, k_v0, hk_v0⟩ := Kinds.cons_ hk
    obtain ⟨s62, rfl⟩ := kind_pointer k_v0
    obtain ⟨v1, l_v1, rfl, k_v1, hk_v1⟩ := Kinds.cons_ hk_v0
    obtain ⟨n63, rfl⟩ := kind_int k_v1
    obtain ⟨v2, l_v2, rfl, k_v2, hk_v2⟩ := Kinds.cons_ hk_v1
    obtain ⟨was64, rfl⟩ := kind_addr k_v2
    obtain ⟨v3, l_v3, rfl, k_v3, hk_v3⟩ := Kinds.cons_ hk_v2
    obtain ⟨b65, rfl⟩ := kind_bool k_v3
    obtain rfl := Kinds.nil_ hk_v3
    exact T_law08_ConfVersions_3_eq C s62 n63 was64 b65 w

def T_law08_ConfVersions_1_body (X : Int → Int → World → Prop) (n5 : Int) (i6 : Int) (l7a : Option Addr) (l7l : Nat) (l7c : Nat) (s8 : Option Addr) (w : World) (Kn : World → Prop) (Kr : Bool → World → Prop) (Kp : List PanicEntry → World → Prop)  : Prop :=
  T_law08_ConfVersions_2 l7a l7l l7c i6 w (fun b14 w15 => if b14 = true then (0 ≤ (i6 : Int) ∧ (i6 : Int) < ((l7l : Nat) : Int) ∧ ∃ b16, l7a = some b16 ∧ ∃ x17 : Int, ∃ x18 : Int, ∃ x19 : Int, ∃ x20 : Int, ∃ s21 : ByteArray, ∃ s22 : ByteArray, ∃ s23 : ByteArray, ∃ s24a : Option Addr, ∃ s24l : Nat, ∃ s24c : Nat, rd w15 (b16.add ((i6 : Int).toNat * 8)) (.agg #[.int .i64 x17, .int .i64 x18, .int .i64 x19, .int .i64 x20, .string s21, .string s22, .string s23, .slice s24a s24l s24c]) ∧ let w25 : World := w15.alloc (.cells #[.int .i64 0, .int .i64 0, .int .i64 0, .int .i64 0, .string (ByteArray.mk #[]), .string (ByteArray.mk #[]), .string (ByteArray.mk #[]), .slice none 0 0] 28)
  (.agg #[.int .i64 x17, .int .i64 x18, .int .i64 x19, .int .i64 x20, .string s21, .string s22, .string s23, .slice s24a s24l s24c] : Value).cells.size = 8 ∧ wrOk w25 (⟨w15.heap.size, 0, none⟩ : Addr) (.agg #[.int .i64 x17, .int .i64 x18, .int .i64 x19, .int .i64 x20, .string s21, .string s22, .string s23, .slice s24a s24l s24c]) ∧ let w26 : World := wr w25 (⟨w15.heap.size, 0, none⟩ : Addr) (.agg #[.int .i64 x17, .int .i64 x18, .int .i64 x19, .int .i64 x20, .string s21, .string s22, .string s23, .slice s24a s24l s24c])
  ∃ x27 : Int, ∃ x28 : Int, ∃ x29 : Int, ∃ x30 : Int, ∃ s31 : ByteArray, ∃ s32 : ByteArray, ∃ s33 : ByteArray, ∃ s34a : Option Addr, ∃ s34l : Nat, ∃ s34c : Nat, rd w26 (⟨w15.heap.size, 0, none⟩ : Addr) (.agg #[.int .i64 x27, .int .i64 x28, .int .i64 x29, .int .i64 x30, .string s31, .string s32, .string s33, .slice s34a s34l s34c]) ∧ Calls Try.prog 8 #[.agg #[.int .i64 x27, .int .i64 x28, .int .i64 x29, .int .i64 x30, .string s31, .string s32, .string s33, .slice s34a s34l s34c]] w26 (ret (fun r35 w36 => ∃ b37 : Bool, r35 = .bool b37 ∧ if (!b37) = true then (X n5 (IntKind.wrap .i64 ((i6 : Int) + 1)) w36) else ((.int .i64 0 : Value).cells.size = 1 ∧ wrOk w36 ((⟨w15.heap.size, 0, none⟩ : Addr).add 1) (.int .i64 0) ∧ let w38 : World := wr w36 ((⟨w15.heap.size, 0, none⟩ : Addr).add 1) (.int .i64 0)
  (.int .i64 0 : Value).cells.size = 1 ∧ wrOk w38 ((⟨w15.heap.size, 0, none⟩ : Addr).add 2) (.int .i64 0) ∧ let w39 : World := wr w38 ((⟨w15.heap.size, 0, none⟩ : Addr).add 2) (.int .i64 0)
  Calls Try.prog 9 #[.pointer s8] w39 (ret (fun r40 w41 => ∃ x42 : Int, ∃ s43a : Option Addr, ∃ s43l : Nat, ∃ s43c : Nat, ∃ s44a : Option Addr, ∃ s44l : Nat, ∃ s44c : Nat, r40 = .agg #[.int .i64 x42, .slice s43a s43l s43c, .slice s44a s44l s44c] ∧ let w45 : World := w41.alloc (.cells #[.int .i64 0, .slice none 0 0, .slice none 0 0] 33)
  (.agg #[.int .i64 x42, .slice s43a s43l s43c, .slice s44a s44l s44c] : Value).cells.size = 3 ∧ wrOk w45 (⟨w41.heap.size, 0, none⟩ : Addr) (.agg #[.int .i64 x42, .slice s43a s43l s43c, .slice s44a s44l s44c]) ∧ let w46 : World := wr w45 (⟨w41.heap.size, 0, none⟩ : Addr) (.agg #[.int .i64 x42, .slice s43a s43l s43c, .slice s44a s44l s44c])
  ∃ x47 : Int, ∃ x48 : Int, ∃ x49 : Int, ∃ x50 : Int, ∃ s51 : ByteArray, ∃ s52 : ByteArray, ∃ s53 : ByteArray, ∃ s54a : Option Addr, ∃ s54l : Nat, ∃ s54c : Nat, rd w46 (⟨w15.heap.size, 0, none⟩ : Addr) (.agg #[.int .i64 x47, .int .i64 x48, .int .i64 x49, .int .i64 x50, .string s51, .string s52, .string s53, .slice s54a s54l s54c]) ∧ Calls Try.prog 10 #[.pointer s8, .agg #[.int .i64 x47, .int .i64 x48, .int .i64 x49, .int .i64 x50, .string s51, .string s52, .string s53, .slice s54a s54l s54c]] w46 (ret (fun r55 w56 => ∃ x57 : Int, ∃ x58 : Int, r55 = .agg #[.int .i64 x57, .int .i64 x58] ∧ let w59 : World := w56.alloc (.cells #[.int .i64 0, .int .i64 0] 37)
  (.agg #[.int .i64 x57, .int .i64 x58] : Value).cells.size = 2 ∧ wrOk w59 (⟨w56.heap.size, 0, none⟩ : Addr) (.agg #[.int .i64 x57, .int .i64 x58]) ∧ let w60 : World := wr w59 (⟨w56.heap.size, 0, none⟩ : Addr) (.agg #[.int .i64 x57, .int .i64 x58])
  ∃ x61 : Int, rd w60 (⟨w56.heap.size, 0, none⟩ : Addr) (.int .i64 x61) ∧ T_law08_ConfVersions_3 s8 n5 (⟨w41.heap.size, 0, none⟩ : Addr) ((x61 : Int) == 0) w60 (fun n84 w85 => ∃ x86 : Int, rd w85 ((⟨w56.heap.size, 0, none⟩ : Addr).add 1) (.int .i64 x86) ∧ if ((x86 : Int) != n84) = true then (Kr false w85) else (Calls Try.prog 9 #[.pointer s8] w85 (ret (fun r87 w88 => ∃ x89 : Int, ∃ s90a : Option Addr, ∃ s90l : Nat, ∃ s90c : Nat, ∃ s91a : Option Addr, ∃ s91l : Nat, ∃ s91c : Nat, r87 = .agg #[.int .i64 x89, .slice s90a s90l s90c, .slice s91a s91l s91c] ∧ if ((x89 : Int) != n84) = true then (Kr false w88) else (X n84 (IntKind.wrap .i64 ((i6 : Int) + 1)) w88)) Kp))) (fun b92 w93 => Kr b92 w93) Kp) Kp)) Kp))) Kp)) else (Kn  w15)) Kp

def T_law08_ConfVersions_1 (n5 : Int) (i6 : Int) (l7a : Option Addr) (l7l : Nat) (l7c : Nat) (s8 : Option Addr) (w : World) (Kn : World → Prop) (Kr : Bool → World → Prop) (Kp : List PanicEntry → World → Prop) : Prop :=
  ∀ X : Int → Int → World → Prop, (∀ (n5 : Int) (i6 : Int) (w : World), T_law08_ConfVersions_1_body X n5 i6 l7a l7l l7c s8 w Kn Kr Kp → X n5 i6 w) → X n5 i6 w

def T_law08_ConfVersions_1_outs : Exit → Option (List (Nat × Value)) := fun x => match x with | .normal => some [] | .ret => some [(2, .bool false)] | .panic _ => some [] | _ => none

def T_law08_ConfVersions_1_ks : Nat → Bool := ksOf [2, 4, 5, 6, 7, 8, 10, 11, 12, 13, 14, 15, 16, 17, 18, 19, 20, 21, 22, 23, 24, 25, 26, 27, 28, 29, 30, 31, 32, 33, 34, 35, 36, 37, 38, 39, 40, 41, 42, 43, 44, 45, 46, 47, 48, 49, 50, 51, 52, 53, 54]

def H_law08_ConfVersions_1 : Env → World → QT → Prop := unitHook 56 T_law08_ConfVersions_1_ks [(4, .int .i64 0), (5, .int .i64 0), (0, .slice none 0 0), (3, .pointer none)] T_law08_ConfVersions_1_outs fun l w C => match l with | [v0, v1, v2, v3] => T_law08_ConfVersions_1 (pInt v0) (pInt v1) (pA v2) (pL v2) (pC v2) (pPtr v3) w (fun w => C .normal [] w) (fun b95 w => C .ret [.bool b95] w) (fun ch w => C (.panic ch) [] w) | _ => False

theorem T_law08_ConfVersions_1_hl : allP (hokL Try.prog (hookAt [(976, H_law08_ConfVersions_2), (250493, H_law08_ConfVersions_3)]) (at_ (bodyOf Try.f3) [1, 1, 1, 0, 1, 0, 0]) 244) = (UnitOk Try.prog H_law08_ConfVersions_2 (at_ (bodyOf Try.f3) [1, 1, 1, 0, 1, 0, 0, 0, 0]) 976 ∧ UnitOk Try.prog H_law08_ConfVersions_3 (at_ (bodyOf Try.f3) [1, 1, 1, 0, 1, 0, 0, 1, 0, 0, 1, 1, 1, 1, 1, 0, 1]) 250493 ∧ True) := by kernel_rfl
theorem T_law08_ConfVersions_1_hok : HOk Try.prog (hookAt [(976, H_law08_ConfVersions_2), (250493, H_law08_ConfVersions_3)]) (at_ (bodyOf Try.f3) [1, 1, 1, 0, 1, 0, 0]) 244 := HOk_of _ _ (by rw [T_law08_ConfVersions_1_hl]; exact ⟨T_law08_ConfVersions_2_ok, T_law08_ConfVersions_3_ok, trivial⟩)

theorem T_law08_ConfVersions_1_eq (C : Conts) (X : List Value → World → Prop) (n5 : Int) (i6 : Int) (l7a : Option Addr) (l7l : Nat) (l7c : Nat) (s8 : Option Addr) (w : World) : vcCode Try.prog (hookAt [(976, H_law08_ConfVersions_2), (250493, H_law08_ConfVersions_3)]) (at_ (bodyOf Try.f3) [1, 1, 1, 0, 1, 0, 0]) 244 ⟨[(4, .int .i64 n5), (5, .int .i64 i6)] ++ [(0, .slice l7a l7l l7c), (3, .pointer s8)], 56, []⟩ w (seqQ (fun e w => takeAll e [(4, .int .i64 0), (5, .int .i64 0)] fun l => X l w) (blockQ 0 (unitQ T_law08_ConfVersions_1_outs C))) = T_law08_ConfVersions_1_body (fun n5 i6 w => X [.int .i64 n5, .int .i64 i6] w) n5 i6 l7a l7l l7c s8 w (fun w => C .normal [] w) (fun b96 w => C .ret [.bool b96] w) (fun ch w => C (.panic ch) [] w) := by kernel_rfl

theorem T_law08_ConfVersions_1_ok : UnitOk Try.prog H_law08_ConfVersions_1 (at_ (bodyOf Try.f3) [1, 1, 1, 0, 1]) 61 := by
  have hc : at_ (bodyOf Try.f3) [1, 1, 1, 0, 1] = .block 0 (.loop (at_ (bodyOf Try.f3) [1, 1, 1, 0, 1, 0, 0])) := by kernel_rfl
  rw [hc]
  refine loop_unit_ok (carr := [(4, .int .i64 0), (5, .int .i64 0)]) (fix := [(0, .slice none 0 0), (3, .pointer none)]) (ks := T_law08_ConfVersions_1_ks) (H := (hookAt [(976, H_law08_ConfVersions_2), (250493, H_law08_ConfVersions_3)])) (B := fun C X l u w => match l, u with | [v0, v1], [v2, v3] => T_law08_ConfVersions_1_body (fun n5 i6 w => X [.int .i64 n5, .int .i64 i6] w) (pInt v0) (pInt v1) (pA v2) (pL v2) (pC v2) (pPtr v3) w (fun w => C .normal [] w) (fun b97 w => C .ret [.bool b97] w) (fun ch w => C (.panic ch) [] w) | _, _ => False) (by kernel_rfl) (by kernel_rfl) T_law08_ConfVersions_1_hok ?_ ?_
  · intro C X l u w hl hu
    obtain ⟨v0, l_v0, rfl, k_v0, hl_v0⟩ := Kinds.cons_ hl
    obtain ⟨n5, rfl⟩ := kind_int k_v0
    obtain ⟨v1, l_v1, rfl, k_v1, hl_v1⟩ := Kinds.cons_ hl_v0
    obtain ⟨i6, rfl⟩ := kind_int k_v1
    obtain rfl := Kinds.nil_ hl_v1
    obtain ⟨v2, l_v2, rfl, k_v2, hu_v2⟩ := Kinds.cons_ hu
    obtain ⟨l7a, l7l, l7c, rfl⟩ := kind_slice k_v2
    obtain ⟨v3, l_v3, rfl, k_v3, hu_v3⟩ := Kinds.cons_ hu_v2
    obtain ⟨s8, rfl⟩ := kind_pointer k_v3
    obtain rfl := Kinds.nil_ hu_v3
    exact T_law08_ConfVersions_1_eq C X n5 i6 l7a l7l l7c s8 w
  · intro l u w C hl hu
    obtain ⟨v0, l_v0, rfl, k_v0, hl_v0⟩ := Kinds.cons_ hl
    obtain ⟨n5, rfl⟩ := kind_int k_v0
    obtain ⟨v1, l_v1, rfl, k_v1, hl_v1⟩ := Kinds.cons_ hl_v0
    obtain ⟨i6, rfl⟩ := kind_int k_v1
    obtain rfl := Kinds.nil_ hl_v1
    obtain ⟨v2, l_v2, rfl, k_v2, hu_v2⟩ := Kinds.cons_ hu
    obtain ⟨l7a, l7l, l7c, rfl⟩ := kind_slice k_v2
    obtain ⟨v3, l_v3, rfl, k_v3, hu_v3⟩ := Kinds.cons_ hu_v2
    obtain ⟨s8, rfl⟩ := kind_pointer k_v3
    obtain rfl := Kinds.nil_ hu_v3
    constructor
    · intro h X hX
      exact h (fun n5 i6 w => X [.int .i64 n5, .int .i64 i6] w) (fun n5 i6 w hb => hX [.int .i64 n5, .int .i64 i6] w ⟨rfl, rfl, trivial⟩ hb)
    · intro h X hX
      exact h (fun l w => match l with | [v0, v1] => X (pInt v0) (pInt v1) w | _ => True) (fun l w hl hb => by
        obtain ⟨v0, l_v0, rfl, k_v0, hl_v0⟩ := Kinds.cons_ hl
        obtain ⟨n5, rfl⟩ := kind_int k_v0
        obtain ⟨v1, l_v1, rfl, k_v1, hl_v1⟩ := Kinds.cons_ hl_v0
        obtain ⟨i6, rfl⟩ := kind_int k_v1
        obtain rfl := Kinds.nil_ hl_v1
        exact hX n5 i6 w hb)

def T_law08_ConfVersions (l1a : Option Addr) (l1l : Nat) (l1c : Nat) (w : World) (R : Ending → World → Prop) : Prop :=
  Calls Try.prog 7 #[] w (ret (fun r2 w3 => ∃ p4 : Option Addr, r2 = .pointer p4 ∧ T_law08_ConfVersions_1 0 0 l1a l1l l1c p4 w3 (fun w98 => Calls Try.prog 12 #[] w98 (ret (fun r99 w100 => ∃ b101 : Bool, r99 = .bool b101 ∧ R (.returned (.bool b101)) w100) (pan R))) (fun b102 w103 => R (.returned (.bool b102)) w103) (pan R)) (pan R))

theorem T_law08_ConfVersions_hl : allP (hokL Try.prog (hookAt [(61, H_law08_ConfVersions_1)]) (bodyOf Try.f3) 1) = (UnitOk Try.prog H_law08_ConfVersions_1 (at_ (bodyOf Try.f3) [1, 1, 1, 0, 1]) 61 ∧ True) := by kernel_rfl

theorem T_law08_ConfVersions_eq (l1a : Option Addr) (l1l : Nat) (l1c : Nat) (w : World) (R : Ending → World → Prop) : vcCode Try.prog (hookAt [(61, H_law08_ConfVersions_1)]) (bodyOf Try.f3) 1 ⟨argEnv [.slice l1a l1l l1c] 0, Try.f3.ntmps, []⟩ w (finQ Try.prog Try.f3.results.toList R) = T_law08_ConfVersions l1a l1l l1c w R := by kernel_rfl

theorem T_law08_ConfVersions_b : Try.f3.body = some (bodyOf Try.f3) := by kernel_rfl
theorem T_law08_ConfVersions_s : (quietSel (bodyOf Try.f3) && Nat.ble 1 Try.f3.ntmps) = true := by kernel_rfl

theorem C_law08_ConfVersions {l1a : Option Addr} {l1l : Nat} {l1c : Nat} {w : World} {R : Ending → World → Prop} (h : T_law08_ConfVersions l1a l1l l1c w R) : Calls Try.prog 3 #[.slice l1a l1l l1c] w R :=
  calls_of_text (args := [.slice l1a l1l l1c]) mixed Try.func3 T_law08_ConfVersions_b T_law08_ConfVersions_s (HOk_of _ _ (by rw [T_law08_ConfVersions_hl]; exact ⟨T_law08_ConfVersions_1_ok, trivial⟩)) (by rw [T_law08_ConfVersions_eq]; exact h)

end Go.Proofs.Ytcpmfjclkdjfmaa
