/-
  Which names, hosts, prefixes, addresses, weights may be: the program's functions and the document's.
-/
import Derived.Test.YtcpmfjclkdjfmaaGreatGa
import Derived.Test.YtcpmfjclkdjfmaaGreatVcFz
import Derived.Test.YtcpmfjclkdjfmaaGreatConfM
namespace Go.Vc
open Go Go.Proofs Go.Proofs.YtcpmfjclkdjfmaaGreat
set_option maxRecDepth 100000

abbrev Sl := Option Addr × Nat × Nat
/-- As many bytes as a row can be made of; as many as a string that came in may have. -/
abbrev big : Nat := 140737488355328
abbrev huge : Nat := 9223372036854775807
def bs (s : Cm.Bs) : ByteArray := ⟨s.toArray⟩
theorem bs_toList (s : Cm.Bs) : (bs s).toList = s := toList_mk s
theorem bs_size (s : Cm.Bs) : (bs s).size = s.length := by simp [bs, ByteArray.size]
theorem bs_get (s : Cm.Bs) (i : Nat) : (bs s)[i]? = s[i]? := by
  show (getElem? (bs s) i) = _
  by_cases h : i < s.length
  · rw [getElem?_pos (bs s) i (by rw [bs_size]; exact h), List.getElem?_eq_getElem h]
    rfl
  · rw [getElem?_neg (bs s) i (by rw [bs_size]; exact h), List.getElem?_eq_none (by omega)]
theorem bs_of (b : ByteArray) : bs b.data.toList = b := by cases b; rfl
theorem bs_nil : bs [] = ByteArray.mk #[] := rfl
theorem toList_nil : (ByteArray.mk #[]).toList = [] := toList_mk []
theorem bs_inj {a b : Cm.Bs} (h : bs a = bs b) : a = b := by have := congrArg ByteArray.toList h; rwa [bs_toList, bs_toList] at this
theorem cong {α : Type} {K : α → World → Prop} {w : World} {a b : α} (k : K a w) (h : a = b) : K b w := h ▸ k
theorem congR {R : Ending → World → Prop} {w : World} {a b : Value} (k : R (.returned a) w) (h : a = b) : R (.returned b) w := h ▸ k
theorem congB {R : Ending → World → Prop} {w : World} {a b : Bool} (k : R (.returned (.bool a)) w) (h : a = b) : R (.returned (.bool b)) w := h ▸ k
theorem congI {R : Ending → World → Prop} {w : World} {q : IntKind} {a b : Int} (k : R (.returned (.int q a)) w) (h : a = b) : R (.returned (.int q b)) w := h ▸ k
theorem succ_big {j : Nat} (h : j < big) : IntKind.wrap .i64 ((j : Int) + 1) = ((j + 1 : Nat) : Int) := by rw [wrap_id (by omega) (by unfold big at h; omega)]; omega
theorem succ_huge {j : Nat} (h : j < huge) : IntKind.wrap .i64 ((j : Int) + 1) = ((j + 1 : Nat) : Int) := by rw [wrap_id (by omega) (by unfold huge at h; omega)]; omega

section
variable {E w : World} {L : List Asrt} {R : Ending → World → Prop}

/-! ### one byte, and each one -/
theorem small_spec {c : UInt8} (h : St E L w) (k : ∀ w', St E L w' → R (.returned (.bool (Cm.small c))) w') : Calls Tryz.prog 83 #[.int .u8 ((c.toNat : Nat) : Int)] w R := by
  refine C_conf_small ?_
  unfold T_conf_small
  have q := k w h
  have hq : ∀ b : Bool, Cm.small c = b → R (.returned (.bool b)) w := fun b hb => hb ▸ q
  refine ite_d (fun h1 => ite_d (fun h2 => hq _ ?_) fun h2 => ite_d (fun h3 => ite_d (fun h4 => hq _ ?_) fun h4 => hq _ ?_) fun h3 => hq _ ?_) fun h1 => ite_d (fun h3 => ite_d (fun h4 => hq _ ?_) fun h4 => hq _ ?_) fun h3 => hq _ ?_
  all_goals (rw [Bool.eq_iff_iff]; simp [Cm.small]; omega)
def eachRun {σ : Type} (f : σ → UInt8 → Bool) (nx : σ → UInt8 → σ) : σ → Cm.Bs → Bool × σ
  | x, [] => (true, x)
  | x, c :: r => if f x c then eachRun f nx (nx x c) r else (false, nx x c)
theorem each_spec {σ : Type} {f : σ → UInt8 → Bool} {nx : σ → UInt8 → σ} {LL : σ → List Asrt} {g : FuncId} {gi gc : Array Value} {s : Cm.Bs} {most : Int} {x : σ} (hb : hasBody Tryz.prog g = true)
    (hs : ∀ (x : σ) (c : UInt8) (w : World) (R : Ending → World → Prop), St E (LL x) w → (∀ w', St E (LL (nx x c)) w' → R (.returned (.bool (f x c))) w') → Calls Tryz.prog g ⟨gi.toList ++ ([.int .u8 ((c.toNat : Nat) : Int)] ++ gc.toList)⟩ w R)
    (h : St E (LL x) w) (hl : s.length ≤ huge)
    (k : ∀ w', St E (LL (eachRun f nx x s).2) w' → R (.returned (.bool ((eachRun f nx x s).1 && (decide (0 < s.length) && decide ((s.length : Int) ≤ most))))) w') :
    Calls Tryz.prog 82 #[.string (bs s), .int .i64 most, .func (.func g) gi gc] w R := by
  refine C_conf_each ?_
  unfold T_conf_each T_conf_each_1
  intro X hX
  refine up_to s.length (Q := fun j => ∀ (y : σ) (w : World), St E (LL y) w → (eachRun f nx x s = eachRun f nx y (s.drop j)) → X (j : Int) w) ?_ x w h rfl
  intro j hj ih y w h he
  refine hX _ _ ?_
  unfold T_conf_each_1_body
  rw [bs_size]
  refine ite_d (fun hc => ?_) (fun hc => ?_)
  · have hjl : j < s.length := by omega
    have hd : s.drop j = s[j] :: s.drop (j + 1) := List.drop_eq_getElem_cons hjl
    rw [hd] at he
    refine ⟨by omega, s[j], by rw [bs_get, Int.toNat_natCast, List.getElem?_eq_getElem hjl], hb, hs y s[j] w _ h fun w' h' => ⟨_, rfl, ite_n (fun hf => ?_) (fun hf => ?_)⟩⟩
    · simp only [eachRun, hf, Bool.false_eq_true, if_false] at he
      rw [he] at k
      exact k w' h'
    · simp only [eachRun, hf, if_true] at he
      rw [succ_huge (by omega)]
      exact ih hjl _ _ h' he
  · have hd : s.drop j = [] := List.drop_eq_nil_of_le (by omega)
    rw [hd] at he
    simp only [eachRun] at he
    rw [he] at k
    refine ite_d (fun h0 => ?_) (fun h0 => ?_)
    · refine congB (k w h) ?_
      rw [decide_eq_true (by omega : 0 < s.length)]; simp
    · refine congB (k w h) ?_
      rw [decide_eq_false (by omega : ¬ 0 < s.length)]; simp
theorem eachRun_all {p : UInt8 → Bool} : ∀ s : Cm.Bs, (eachRun (fun (_ : Unit) c => p c) (fun x _ => x) () s).1 = s.all p
  | [] => rfl
  | c :: r => by
    unfold eachRun
    cases h : p c <;> simp [h, eachRun_all r]
theorem each_all {p : UInt8 → Bool} {g : FuncId} {s : Cm.Bs} {most : Int} (hb : hasBody Tryz.prog g = true)
    (hs : ∀ (c : UInt8) (w : World) (R : Ending → World → Prop), St E L w → (∀ w', St E L w' → R (.returned (.bool (p c))) w') → Calls Tryz.prog g #[.int .u8 ((c.toNat : Nat) : Int)] w R)
    (h : St E L w) (hl : s.length ≤ huge) (k : ∀ w', St E L w' → R (.returned (.bool (s.all p && (decide (0 < s.length) && decide ((s.length : Int) ≤ most))))) w') :
    Calls Tryz.prog 82 #[.string (bs s), .int .i64 most, .func (.func g) #[] #[]] w R :=
  each_spec (LL := fun _ => L) (x := ()) hb (fun _ c w R h k => hs c w R h k) h hl fun w' h' => by rw [eachRun_all]; exact k w' h'
theorem prefix1_spec {c : UInt8} (h : St E L w) (k : ∀ w', St E L w' → R (.returned (.bool (Cm.pfxB c))) w') : Calls Tryz.prog 85 #[.int .u8 ((c.toNat : Nat) : Int)] w R := by
  refine C_conf_prefix_c1 ?_
  unfold T_conf_prefix_c1
  have hq : ∀ b : Bool, Cm.pfxB c = b → R (.returned (.bool b)) w := fun b hb => hb ▸ k w h
  refine ite_d (fun h1 => ?_) fun h1 => hq _ ?_
  · refine ite_d (fun h2 => ?_) fun h2 => hq _ ?_
    · refine ite_b (fun h3 => hq _ ?_) fun h3 => hq _ ?_
      · rw [Bool.eq_iff_iff]; simp at h3; simp [Cm.pfxB, Cm.seen]; omega
      · rw [Bool.eq_iff_iff]; simp at h3; simp [Cm.pfxB, Cm.seen]; omega
    · rw [Bool.eq_iff_iff]; simp [Cm.pfxB, Cm.seen]; omega
  · rw [Bool.eq_iff_iff]; simp [Cm.pfxB, Cm.seen]; omega
theorem address1_spec {c : UInt8} (h : St E L w) (k : ∀ w', St E L w' → R (.returned (.bool (Cm.seen c))) w') : Calls Tryz.prog 115 #[.int .u8 ((c.toNat : Nat) : Int)] w R := by
  refine C_conf_address_c1 ?_
  unfold T_conf_address_c1
  have hq : ∀ b : Bool, Cm.seen c = b → R (.returned (.bool b)) w := fun b hb => hb ▸ k w h
  refine ite_d (fun h1 => hq _ ?_) fun h1 => hq _ ?_
  all_goals (rw [Bool.eq_iff_iff]; simp [Cm.seen]; omega)
theorem host1_spec {b : Nat} {p : Bool} {c : UInt8} (h : St E (blkL b 4 [.bool p] :: L) w) (k : ∀ w', St E (blkL b 4 [.bool (decide (c.toNat = 46))] :: L) w' → R (.returned (.bool (Cm.small c || (decide (c.toNat = 46) && !p)))) w') :
    Calls Tryz.prog 84 #[.int .u8 ((c.toNat : Nat) : Int), .pointer (some ⟨b, 0, none⟩)] w R := by
  refine C_conf_host_c1 ?_
  unfold T_conf_host_c1
  refine ⟨p, rd_cell h.at_blk rfl rfl, rfl, wrOk_cell h.at_blk (by simp) rfl, ?_⟩
  intro w4
  have e : (((c.toNat : Nat) : Int) == 46) = decide (c.toNat = 46) := by rw [Bool.eq_iff_iff]; simp; omega
  have h4 : St E (blkL b 4 [.bool (decide (c.toNat = 46))] :: L) w4 := by
    have := h.wr_cell (off := 0) (v := .bool (((c.toNat : Nat) : Int) == 46)) rfl
    rw [← e]; exact this
  refine small_spec h4 fun w' h' => ⟨_, rfl, ite_b (fun h1 => ?_) (fun h1 => ⟨_, rd_cell h'.at_blk rfl rfl, ite_b (fun h2 => ?_) (fun h2 => ?_)⟩)⟩
  · exact congB (k w' h') (by simp [h1])
  · exact congB (k w' h') (by simp [h1, h2])
  · exact congB (k w' h') (by simp [h1, h2])
theorem body_small : hasBody Tryz.prog 83 = true := by kernel_rfl
theorem body_host1 : hasBody Tryz.prog 84 = true := by kernel_rfl
theorem body_prefix1 : hasBody Tryz.prog 85 = true := by kernel_rfl
theorem body_address1 : hasBody Tryz.prog 115 = true := by kernel_rfl

variable {s : Cm.Bs}
theorem len_and {n : Nat} (b : Bool) : (b && (decide (0 < s.length) && decide ((s.length : Int) ≤ ((n : Nat) : Int)))) = (decide (1 ≤ s.length ∧ s.length ≤ n) && b) := by
  rw [Bool.and_comm]; congr 1
  rw [Bool.eq_iff_iff]; simp only [Bool.and_eq_true, decide_eq_true_eq]; omega
theorem poolName_spec (h : St E L w) (hl : s.length ≤ huge) (k : ∀ w', St E L w' → R (.returned (.bool (Cm.isName s))) w') : Calls Tryz.prog 45 #[.string (bs s)] w R := by
  refine C_conf_poolName ?_
  unfold T_conf_poolName
  refine each_all body_small (fun c w R h k => small_spec h k) h hl fun w' h' => ⟨_, rfl, congB (k w' h') ?_⟩
  rw [show (64 : Int) = ((64 : Nat) : Int) from rfl, len_and]; rfl
theorem address_spec (h : St E L w) (hl : s.length ≤ huge) (k : ∀ w', St E L w' → R (.returned (.bool (Cm.isAddr s))) w') : Calls Tryz.prog 86 #[.string (bs s)] w R := by
  refine C_conf_address ?_
  unfold T_conf_address
  refine each_all body_address1 (fun c w R h k => address1_spec h k) h hl fun w' h' => ⟨_, rfl, congB (k w' h') ?_⟩
  rw [show (64 : Int) = ((64 : Nat) : Int) from rfl, len_and]; rfl
theorem prefix_spec (h : St E L w) (hl : s.length ≤ huge) (k : ∀ w', St E L w' → R (.returned (.bool (Cm.isPfx s))) w') : Calls Tryz.prog 47 #[.string (bs s)] w R := by
  refine C_conf_prefix ?_
  unfold T_conf_prefix
  refine each_all body_prefix1 (fun c w R h k => prefix1_spec h k) h hl fun w' h' => ⟨_, rfl, ?_⟩
  rw [show (128 : Int) = ((128 : Nat) : Int) from rfl, len_and]
  refine ite_b (fun h1 => ?_) (fun h1 => ?_)
  · have h2 := h1
    simp only [Bool.and_eq_true, decide_eq_true_eq] at h2
    match s, h2 with
    | [], h2 => simp at h2
    | c :: r, h2 =>
      refine ⟨by omega, c, by rw [bs_get]; rfl, congB (k w' h') ?_⟩
      unfold Cm.isPfx
      rw [h1, Bool.true_and, Bool.eq_iff_iff]
      simp
      constructor
      · rintro rfl; rfl
      · intro hc; apply UInt8.toNat_inj.1; simpa using (by omega : c.toNat = 47)
  · refine congB (k w' h') ?_
    unfold Cm.isPfx
    rw [h1]; rfl
theorem eachRun_host : ∀ (s : Cm.Bs) (p : Bool), ((eachRun (fun (p : Bool) (c : UInt8) => Cm.small c || (decide (c.toNat = 46) && !p)) (fun _ c => decide (c.toNat = 46)) p s).1 && !(eachRun (fun (p : Bool) (c : UInt8) => Cm.small c || (decide (c.toNat = 46) && !p)) (fun _ c => decide (c.toNat = 46)) p s).2) = Cm.hostRun p s
  | [], p => by simp [eachRun, Cm.hostRun]
  | c :: r, p => by
    unfold eachRun Cm.hostRun
    cases h : (Cm.small c || (decide (c.toNat = 46) && !p))
    · simp
    · simpa using eachRun_host r (decide (c.toNat = 46))
theorem host_spec (h : St E L w) (hl : s.length ≤ huge) (k : ∀ w', St E L w' → R (.returned (.bool (Cm.isHost s))) w') : Calls Tryz.prog 46 #[.string (bs s)] w R := by
  refine C_conf_host ?_
  unfold T_conf_host
  intro w2
  have h2 := h.alloc (.cells #[.bool false] 4)
  refine ⟨rfl, wrOk_cell h2.at_blk (by simp) rfl, ?_⟩
  intro w3
  have h3 : St E (blkL w.heap.size 4 [.bool true] :: L) w3 := h2.wr_cell (off := 0) (v := .bool true) rfl
  refine each_spec (LL := fun p => blkL w.heap.size 4 [.bool p] :: L) (x := true) body_host1 (fun p c w R h k => host1_spec h k) h3 hl fun w' h' => ⟨_, rfl, ite_b (fun h1 => ?_) (fun h1 => ?_)⟩
  · refine ⟨_, rd_cell h'.at_blk rfl rfl, congB (k w' h'.drop) ?_⟩
    rw [show (64 : Int) = ((64 : Nat) : Int) from rfl, len_and] at h1
    simp only [Bool.and_eq_true] at h1
    unfold Cm.isHost
    rw [h1.1, Bool.true_and, ← eachRun_host s true, h1.2, Bool.true_and]
  · refine congB (k w' h'.drop) ?_
    rw [show (64 : Int) = ((64 : Nat) : Int) from rfl, len_and] at h1
    unfold Cm.isHost
    rw [← eachRun_host s true, ← Bool.and_assoc, h1]; rfl

/-! ### the document's -/
theorem letters_spec {p : Bool} (h : St E L w) (hl : s.length ≤ huge) (k : ∀ w', St E L w' → R (.returned (.bool (s.all fun c => Cm.small c || (p && decide (c.toNat = 46))))) w') : Calls Tryz.prog 43 #[.string (bs s), .bool p] w R := by
  refine C_ref08_letters ?_
  unfold T_ref08_letters T_ref08_letters_1
  intro X hX
  refine up_to s.length (Q := fun j => (s.all (fun c => Cm.small c || (p && decide (c.toNat = 46))) = (s.drop j).all fun c => Cm.small c || (p && decide (c.toNat = 46))) → X (j : Int) w) ?_ rfl
  intro j hj ih he
  refine hX _ _ ?_
  unfold T_ref08_letters_1_body
  rw [bs_size]
  refine ite_d (fun hc => ?_) (fun hc => ?_)
  · have hjl : j < s.length := by omega
    have hd : s.drop j = s[j] :: s.drop (j + 1) := List.drop_eq_getElem_cons hjl
    rw [hd, List.all_cons] at he
    have next : (Cm.small s[j] || (p && decide (s[j].toNat = 46))) = true → X (IntKind.wrap .i64 ((j : Int) + 1)) w := fun ht => by
      rw [succ_huge (by omega)]
      exact ih hjl (by rw [he, ht, Bool.true_and])
    have stop : (Cm.small s[j] || (p && decide (s[j].toNat = 46))) = false → R (.returned (.bool false)) w := fun ht => congB (k w h) (by rw [he, ht]; rfl)
    refine ⟨by omega, s[j], by rw [bs_get, Int.toNat_natCast, List.getElem?_eq_getElem hjl], ?_⟩
    generalize s[j] = c at *
    have fin : (if p = true then (if (!(((c.toNat : Nat) : Int) == 46)) = true then R (.returned (.bool false)) w else X (IntKind.wrap .i64 ((j : Int) + 1)) w) else R (.returned (.bool false)) w) ∨ Cm.small c = true := by
      cases hs : Cm.small c
      · refine .inl (ite_b (fun hp => ite_n (fun h4 => stop ?_) fun h4 => next ?_) fun hp => stop ?_)
        · simp at h4; simp [hs]; omega
        · simp at h4; simp [hp]; omega
        · simp [hs, hp]
      · exact .inr rfl
    have nx2 : Cm.small c = true → X (IntKind.wrap .i64 ((j : Int) + 1)) w := fun hs => next (by simp [hs])
    have fin2 : ¬ Cm.small c = true → (if p = true then (if (!(((c.toNat : Nat) : Int) == 46)) = true then R (.returned (.bool false)) w else X (IntKind.wrap .i64 ((j : Int) + 1)) w) else R (.returned (.bool false)) w) := fun hs => fin.resolve_right hs
    have e45 : (((c.toNat : Nat) : Int) == 45) = decide (c.toNat = 45) := by rw [Bool.eq_iff_iff]; simp; omega
    refine ite_d (fun h1 => ite_d (fun h2 => nx2 ?_) fun h2 => ite_d (fun h3 => ite_d (fun h4 => nx2 ?_) fun h4 => ?_) fun h3 => ?_) fun h1 => ite_d (fun h3 => ite_d (fun h4 => nx2 ?_) fun h4 => ?_) fun h3 => ?_
    · simp [Cm.small]; omega
    · simp [Cm.small]; omega
    · rw [e45]; exact ite_d (fun h5 => nx2 (by simp [Cm.small]; omega)) fun h5 => fin2 (by simp [Cm.small]; omega)
    · rw [e45]; exact ite_d (fun h5 => nx2 (by simp [Cm.small]; omega)) fun h5 => fin2 (by simp [Cm.small]; omega)
    · simp [Cm.small]; omega
    · rw [e45]; exact ite_d (fun h5 => nx2 (by simp [Cm.small]; omega)) fun h5 => fin2 (by simp [Cm.small]; omega)
    · rw [e45]; exact ite_d (fun h5 => nx2 (by simp [Cm.small]; omega)) fun h5 => fin2 (by simp [Cm.small]; omega)
  · rw [List.drop_eq_nil_of_le (by omega)] at he
    exact congB (k w h) he
theorem seen_spec (h : St E L w) (hl : s.length ≤ huge) (k : ∀ w', St E L w' → R (.returned (.bool (s.all Cm.seen))) w') : Calls Tryz.prog 44 #[.string (bs s)] w R := by
  refine C_ref08_seen ?_
  unfold T_ref08_seen T_ref08_seen_1
  intro X hX
  refine up_to s.length (Q := fun j => (s.all Cm.seen = (s.drop j).all Cm.seen) → X (j : Int) w) ?_ rfl
  intro j hj ih he
  refine hX _ _ ?_
  unfold T_ref08_seen_1_body
  rw [bs_size]
  refine ite_d (fun hc => ?_) (fun hc => ?_)
  · have hjl : j < s.length := by omega
    have hd : s.drop j = s[j] :: s.drop (j + 1) := List.drop_eq_getElem_cons hjl
    rw [hd, List.all_cons] at he
    have hg : (bs s)[(j : Int).toNat]? = some s[j] := by rw [bs_get, Int.toNat_natCast, List.getElem?_eq_getElem hjl]
    refine ⟨by omega, _, hg, ite_d (fun h1 => congB (k w h) ?_) fun h1 => ⟨by omega, _, hg, ite_d (fun h2 => congB (k w h) ?_) fun h2 => ?_⟩⟩
    · rw [he]; simp [Cm.seen]; omega
    · rw [he]; simp [Cm.seen]; omega
    · rw [succ_huge (by omega)]
      exact ih hjl (by rw [he]; simp [Cm.seen]; omega)
  · rw [List.drop_eq_nil_of_le (by omega)] at he
    exact congB (k w h) he
theorem PoolName_spec (h : St E L w) (hl : s.length ≤ huge) (k : ∀ w', St E L w' → R (.returned (.bool (Cm.isName s))) w') : Calls Tryz.prog 97 #[.string (bs s)] w R := by
  refine C_ref08_PoolName ?_
  unfold T_ref08_PoolName
  rw [bs_size]
  refine ite_d (fun h1 => ite_d (fun h2 => letters_spec h hl fun w' h' => ⟨_, rfl, congB (k w' h') ?_⟩) fun h2 => congB (k w h) ?_) fun h1 => congB (k w h) ?_
  · simp [Cm.isName]; omega
  · simp [Cm.isName]; omega
  · simp [Cm.isName]; omega
theorem Addr_spec (h : St E L w) (hl : s.length ≤ huge) (k : ∀ w', St E L w' → R (.returned (.bool (Cm.isAddr s))) w') : Calls Tryz.prog 126 #[.string (bs s)] w R := by
  refine C_ref08_Addr ?_
  unfold T_ref08_Addr
  rw [bs_size]
  refine ite_d (fun h1 => ite_d (fun h2 => seen_spec h hl fun w' h' => ⟨_, rfl, congB (k w' h') ?_⟩) fun h2 => congB (k w h) ?_) fun h1 => congB (k w h) ?_
  · simp [Cm.isAddr]; omega
  · simp [Cm.isAddr]; omega
  · simp [Cm.isAddr]; omega
theorem all_pfx : ∀ s : Cm.Bs, s.all Cm.pfxB = ((s.all fun c => !decide (c.toNat = 63) && !decide (c.toNat = 35)) && s.all Cm.seen)
  | [] => rfl
  | c :: r => by
    simp only [List.all_cons, all_pfx r, Cm.pfxB]
    cases Cm.seen c <;> cases decide (c.toNat = 63) <;> cases decide (c.toNat = 35) <;> simp
theorem Prefix_spec (h : St E L w) (hl : s.length ≤ huge) (k : ∀ w', St E L w' → R (.returned (.bool (Cm.isPfx s))) w') : Calls Tryz.prog 22 #[.string (bs s)] w R := by
  refine C_ref08_Prefix ?_
  unfold T_ref08_Prefix T_ref08_Prefix_1
  intro X hX
  refine up_to s.length (Q := fun j => ((s.all fun c => !decide (c.toNat = 63) && !decide (c.toNat = 35)) = (s.drop j).all fun c => !decide (c.toNat = 63) && !decide (c.toNat = 35)) → X (j : Int) w) ?_ rfl
  intro j hj ih he
  refine hX _ _ ?_
  unfold T_ref08_Prefix_1_body
  rw [bs_size]
  refine ite_d (fun hc => ?_) (fun hc => ?_)
  · have hjl : j < s.length := by omega
    have hd : s.drop j = s[j] :: s.drop (j + 1) := List.drop_eq_getElem_cons hjl
    rw [hd, List.all_cons] at he
    have hg : (bs s)[(j : Int).toNat]? = some s[j] := by rw [bs_get, Int.toNat_natCast, List.getElem?_eq_getElem hjl]
    have stop : (!decide (s[j].toNat = 63) && !decide (s[j].toNat = 35)) = false → R (.returned (.bool false)) w := fun ht => congB (k w h) (by unfold Cm.isPfx; rw [all_pfx, he, ht]; simp)
    refine ⟨by omega, _, hg, ite_b (fun h1 => stop ?_) fun h1 => ⟨by omega, _, hg, ite_b (fun h2 => stop ?_) fun h2 => ?_⟩⟩
    · simp at h1; simp; omega
    · simp at h2; simp; omega
    · rw [succ_huge (by omega)]
      refine ih hjl (by
        rw [he]
        have e1 : decide (s[j].toNat = 63) = false := by simp at h1; simp; omega
        have e2 : decide (s[j].toNat = 35) = false := by simp at h2; simp; omega
        rw [e1, e2]; rfl)
  · rw [List.drop_eq_nil_of_le (by omega), List.all_nil] at he
    refine ite_d (fun h1 => ite_d (fun h2 => ?_) fun h2 => congB (k w h) ?_) fun h1 => congB (k w h) ?_
    · match s, h1 with
      | [], h1 => simp at h1
      | c :: r, h1 =>
        have e47 : (((c.toNat : Nat) : Int) == 47) = decide ((c :: r).head? = some 47) := by
          rw [Bool.eq_iff_iff]
          simp
          constructor
          · intro hc; apply UInt8.toNat_inj.1; simpa using (by omega : c.toNat = 47)
          · rintro rfl; rfl
        refine ⟨by omega, c, by rw [bs_get]; rfl, ite_b (fun h3 => seen_spec h hl fun w' h' => ⟨_, rfl, congB (k w' h') ?_⟩) fun h3 => congB (k w h) ?_⟩
        · rw [e47] at h3
          unfold Cm.isPfx
          rw [all_pfx, he, h3, decide_eq_true ⟨by omega, by omega⟩]; simp
        · rw [e47] at h3
          unfold Cm.isPfx
          rw [h3]; simp
    · unfold Cm.isPfx; rw [decide_eq_false (by omega)]; simp
    · unfold Cm.isPfx; rw [decide_eq_false (by omega)]; simp
/-- No two points one behind the other. -/
def noTwo : Cm.Bs → Bool
  | c :: d :: r => !(decide (c.toNat = 46) && decide (d.toNat = 46)) && noTwo (d :: r)
  | _ => true
theorem small_46 {x : UInt8} (hx : x.toNat = 46) : Cm.small x = false := by simp [Cm.small, hx]
/-- What the document asks of points. -/
theorem hostRun_iff : ∀ (s : Cm.Bs) (p : Bool), Cm.hostRun p s = ((s.all fun c => Cm.small c || (true && decide (c.toNat = 46))) && ((if s = [] then !p else !(p && decide (s.head?.map (·.toNat) = some 46)) && !decide (s.getLast?.map (·.toNat) = some 46)) && noTwo s))
  | [], p => by simp [Cm.hostRun, noTwo]
  | [c], p => by
    unfold Cm.hostRun
    by_cases hc : c.toNat = 46
    · cases p <;> simp [Cm.hostRun, hc, noTwo]
    · cases p <;> simp [Cm.hostRun, hc, noTwo]
  | c :: d :: r, p => by
    have ih := hostRun_iff (d :: r) (decide (c.toNat = 46))
    unfold Cm.hostRun
    rw [ih]
    simp only [noTwo, List.all_cons, List.getLast?_cons_cons, List.head?_cons, Option.map_some, Option.some.injEq, if_neg (List.cons_ne_nil _ _), Bool.true_and]
    generalize noTwo (d :: r) = q1
    generalize decide ((List.getLast? (d :: r)).map (·.toNat) = some 46) = q2
    generalize (r.all fun c => Cm.small c || decide (c.toNat = 46)) = q3
    by_cases hc : c.toNat = 46 <;> by_cases hd : d.toNat = 46
    · simp only [hc, hd, small_46 hc, small_46 hd, decide_true]
      cases p <;> cases q1 <;> cases q2 <;> cases q3 <;> rfl
    · simp only [hc, hd, small_46 hc, decide_true, decide_false]
      cases p <;> cases q1 <;> cases q2 <;> cases q3 <;> cases Cm.small d <;> rfl
    · simp only [hc, hd, small_46 hd, decide_true, decide_false]
      cases p <;> cases q1 <;> cases q2 <;> cases q3 <;> cases Cm.small c <;> rfl
    · simp only [hc, hd, decide_false]
      cases p <;> cases q1 <;> cases q2 <;> cases q3 <;> cases Cm.small c <;> cases Cm.small d <;> rfl
theorem noTwo_drop {s : Cm.Bs} {i : Nat} (h : i + 1 < s.length) : noTwo (s.drop i) = (!(decide (s[i].toNat = 46) && decide (s[i + 1].toNat = 46)) && noTwo (s.drop (i + 1))) := by
  rw [List.drop_eq_getElem_cons (by omega : i < s.length), List.drop_eq_getElem_cons h]
  rfl
theorem byte_eq (c : UInt8) (n : Nat) : (((c.toNat : Nat) : Int) == ((n : Nat) : Int)) = decide (c.toNat = n) := by
  rw [Bool.eq_iff_iff]; simp; omega
theorem Host_spec (h : St E L w) (hl : s.length ≤ huge) (k : ∀ w', St E L w' → R (.returned (.bool (Cm.isHost s))) w') : Calls Tryz.prog 21 #[.string (bs s)] w R := by
  refine C_ref08_Host ?_
  unfold T_ref08_Host T_ref08_Host_1
  rw [bs_size]
  have stop : ∀ w', St E L w' → Cm.isHost s = false → R (.returned (.bool false)) w' := fun w' h' e => congB (k w' h') e
  refine ite_d (fun h1 => ite_b (fun _ => stop w h ?_) (fun hh => by cases hh)) fun h1 => ite_d (fun h2 => ite_b (fun _ => stop w h ?_) (fun hh => by cases hh)) fun h2 => letters_spec h hl fun w' h' => ⟨_, rfl, ?_⟩
  · unfold Cm.isHost; rw [decide_eq_false (by omega)]; rfl
  · unfold Cm.isHost; rw [decide_eq_false (by omega)]; rfl
  · have hs : s ≠ [] := by rintro rfl; simp at h1
    have h0 : 0 < s.length := by omega
    have hh : Cm.isHost s = ((s.all fun c => Cm.small c || (true && decide (c.toNat = 46))) && ((!(true && decide (s.head?.map (·.toNat) = some 46)) && !decide (s.getLast?.map (·.toNat) = some 46)) && noTwo s)) := by
      unfold Cm.isHost
      rw [decide_eq_true ⟨by omega, by omega⟩, hostRun_iff, if_neg hs, Bool.true_and]
    refine ite_n (fun h3 => ite_b (fun _ => stop w' h' ?_) (fun hh => by cases hh)) fun h3 => ⟨by omega, s[0], by rw [bs_get]; exact List.getElem?_eq_getElem h0, ?_⟩
    · rw [hh, h3]; rfl
    · rw [h3, Bool.true_and] at hh
      rw [List.head?_eq_getElem?, List.getElem?_eq_getElem h0] at hh
      rw [show (46 : Int) = ((46 : Nat) : Int) from rfl, byte_eq]
      refine ite_d (fun h4 => ite_b (fun _ => stop w' h' ?_) (fun hh => by cases hh)) fun h4 => ?_
      · rw [hh]; simp [h4]
      · rw [List.getLast?_eq_getElem?, List.getElem?_eq_getElem (by omega : s.length - 1 < s.length)] at hh
        have hw : IntKind.wrap .i64 (((s.length : Nat) : Int) - 1) = ((s.length - 1 : Nat) : Int) := by rw [wrap_id (by omega) (by unfold huge at hl; omega)]; omega
        rw [hw]
        refine ⟨by omega, s[s.length - 1], by rw [bs_get, Int.toNat_natCast, List.getElem?_eq_getElem], ?_⟩
        rw [byte_eq]
        refine ite_d (fun h5 => stop w' h' ?_) fun h5 => ?_
        · rw [hh]; simp [h5]
        · have hh2 : Cm.isHost s = noTwo s := by rw [hh]; simp [h4, h5]
          unfold T_ref08_Host_2
          intro X hX
          have hd0 : s.drop 0 = s := List.drop_zero
          refine up_to (s.length - 1) (Q := fun j => noTwo s = noTwo (s.drop j) → X ((j + 1 : Nat) : Int) w') ?_ (by rw [hd0])
          intro j hj ih he
          refine hX _ _ ?_
          unfold T_ref08_Host_2_body
          rw [bs_size]
          refine ite_d (fun hc => ?_) (fun hc => ?_)
          · have hjl : j + 1 < s.length := by omega
            rw [noTwo_drop hjl] at he
            have hn : IntKind.wrap .i64 (((j + 1 : Nat) : Int) + 1) = ((j + 1 + 1 : Nat) : Int) := succ_huge (by omega)
            have next : (!(decide (s[j].toNat = 46) && decide (s[j + 1].toNat = 46))) = true → X (IntKind.wrap .i64 (((j + 1 : Nat) : Int) + 1)) w' := fun ht => by
              rw [hn]; exact ih (by omega) (by rw [he, ht, Bool.true_and])
            refine ⟨by omega, s[j + 1], by rw [bs_get, Int.toNat_natCast, List.getElem?_eq_getElem hjl], ?_⟩
            rw [show (46 : Int) = ((46 : Nat) : Int) from rfl, byte_eq]
            refine ite_d (fun h6 => ?_) fun h6 => next (by simp [h6])
            have hp : IntKind.wrap .i64 (((j + 1 : Nat) : Int) - 1) = (j : Int) := by rw [wrap_id (by omega) (by unfold huge at hl; omega)]; omega
            rw [hp]
            refine ⟨by omega, s[j], by rw [bs_get, Int.toNat_natCast, List.getElem?_eq_getElem (by omega)], ?_⟩
            rw [byte_eq]
            refine ite_d (fun h7 => stop w' h' ?_) fun h7 => next (by simp [h7])
            rw [hh2, he]; simp [h6, h7]
          · have hj2 : j = s.length - 1 := by omega
            have : s.drop j = [s[j]'(by omega)] := by
              rw [List.drop_eq_getElem_cons (by omega : j < s.length), List.drop_eq_nil_of_le (by omega)]
            rw [this] at he
            exact congB (k w' h') (by rw [hh2, he]; rfl)
end
end Go.Vc
