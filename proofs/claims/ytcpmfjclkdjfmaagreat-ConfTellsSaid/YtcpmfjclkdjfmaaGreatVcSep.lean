/-
  What is owned of memory: assertions that lie apart, as a list.
-/
import Derived.Test.YtcpmfjclkdjfmaaGreatVcUnit
import Derived.Laws.AppendOwn
namespace Go.Vc
open Go

abbrev PHeap := Nat → Option (Bool × Obj)
abbrev Asrt := PHeap → Prop
def dj (h1 h2 : PHeap) : Prop := ∀ b, h1 b = none ∨ h2 b = none ∨ ∃ o, h1 b = some (false, o) ∧ h2 b = some (false, o)
def un (h1 h2 : PHeap) : PHeap := fun b => match h1 b with | some x => some x | none => h2 b
def sepL : List Asrt → PHeap → Prop
  | [], _ => True
  | A :: L, h => ∃ h1 h2, dj h1 h2 ∧ h = un h1 h2 ∧ A h1 ∧ sepL L h2
def lies (h : PHeap) (w : World) : Prop := ∀ b f o, h b = some (f, o) → w.heap[b]? = some o
structure SameEnv (E w : World) : Prop where
  os : w.os = E.os
  tape : w.tape = E.tape
  output : w.output = E.output
def St (E : World) (L : List Asrt) (w : World) : Prop := SameEnv E w ∧ ∃ h, sepL L h ∧ lies h w

theorem dj.symm {a b : PHeap} (h : dj a b) : dj b a := fun c => by
  rcases h c with h | h | ⟨o, h1, h2⟩
  · exact .inr (.inl h)
  · exact .inl h
  · exact .inr (.inr ⟨o, h2, h1⟩)
theorem un_comm {a b : PHeap} (h : dj a b) : un a b = un b a := by
  funext c
  unfold un
  rcases h c with h | h | ⟨o, h1, h2⟩
  · rw [h]; cases hb : b c <;> rfl
  · rw [h]; cases ha : a c <;> rfl
  · rw [h1, h2]
theorem un_assoc (a b c : PHeap) : un (un a b) c = un a (un b c) := by
  funext d; unfold un; cases a d <;> rfl
theorem dj_un {a b c : PHeap} (h : dj a (un b c)) (_hb : dj b c) : dj a b ∧ dj a c := by
  refine ⟨fun d => ?_, fun d => ?_⟩
  · rcases h d with h1 | h1 | ⟨o, h1, h2⟩
    · exact .inl h1
    · unfold un at h1; cases hb : b d <;> simp [hb] at h1; exact .inr (.inl rfl)
    · unfold un at h2
      cases hb : b d <;> simp [hb] at h2
      · exact .inr (.inl rfl)
      · exact .inr (.inr ⟨o, h1, by rw [h2]⟩)
  · rcases h d with h1 | h1 | ⟨o, h1, h2⟩
    · exact .inl h1
    · unfold un at h1; cases hb : b d <;> simp [hb] at h1; exact .inr (.inl h1)
    · unfold un at h2
      cases hb : b d <;> simp [hb] at h2
      · exact .inr (.inr ⟨o, h1, h2⟩)
      · rcases _hb d with h3 | h3 | ⟨o', h3, h4⟩
        · rw [h3] at hb; cases hb
        · exact .inr (.inl h3)
        · rw [h3] at hb; injection hb with hb; rw [← hb] at h2; injection h2 with _ h2; subst h2; exact .inr (.inr ⟨_, h1, h4⟩)
theorem dj_un_left {a b c : PHeap} (h1 : dj a c) (h2 : dj b c) : dj (un a b) c := fun d => by
  unfold un
  cases ha : a d with
  | none => exact h2 d
  | some x => have := h1 d; rw [ha] at this; exact this

theorem sepL_swap {A B : Asrt} {L : List Asrt} {h : PHeap} (hs : sepL (A :: B :: L) h) : sepL (B :: A :: L) h := by
  obtain ⟨h1, h23, d1, rfl, hA, h2, h3, d2, rfl, hB, hL⟩ := hs
  obtain ⟨d12, d13⟩ := dj_un d1 d2
  refine ⟨h2, un h1 h3, ?_, ?_, hB, h1, h3, d13, rfl, hA, hL⟩
  · exact (dj_un_left d12 d2.symm).symm
  · rw [← un_assoc, ← un_assoc, un_comm d12]
theorem sepL_perm {L L' : List Asrt} (p : L.Perm L') : ∀ {h : PHeap}, sepL L h → sepL L' h := by
  induction p with
  | nil => exact fun h => h
  | cons A _ ih => rintro h ⟨h1, h2, d, e, hA, hL⟩; exact ⟨h1, h2, d, e, hA, ih hL⟩
  | swap A B L => exact fun h => sepL_swap h
  | trans _ _ ih1 ih2 => exact fun h => ih2 (ih1 h)

section
variable {E w w' : World} {A B : Asrt} {L L' : List Asrt}

theorem St.perm (h : St E L w) (p : L.Perm L') : St E L' w := let ⟨e, x, hs, hl⟩ := h; ⟨e, x, sepL_perm p hs, hl⟩
theorem St.drop (h : St E (A :: L) w) : St E L w := by
  obtain ⟨e, x, ⟨h1, h2, d, rfl, _, hL⟩, hl⟩ := h
  refine ⟨e, h2, hL, fun b f o hb => ?_⟩
  cases h1b : h1 b with
  | none => exact hl b f o (by unfold un; rw [h1b]; exact hb)
  | some x =>
    rcases d b with h' | h' | ⟨o', h', h''⟩
    · rw [h'] at h1b; cases h1b
    · rw [h'] at hb; cases hb
    · rw [h''] at hb; injection hb with hb; injection hb with _ hb; subst hb
      exact hl b false o' (by unfold un; rw [h'])
theorem St.mono (h : St E (A :: L) w) (f : ∀ x, A x → B x) : St E (B :: L) w := by
  obtain ⟨e, x, ⟨h1, h2, d, rfl, hA, hL⟩, hl⟩ := h
  exact ⟨e, _, ⟨h1, h2, d, rfl, f _ hA, hL⟩, hl⟩
/-- Bring number n to the front. -/
theorem St.f1 {A B : Asrt} (h : St E (A :: B :: L) w) : St E (B :: A :: L) w := h.perm (.swap ..)
theorem St.f2 {A B C : Asrt} (h : St E (A :: B :: C :: L) w) : St E (C :: A :: B :: L) w := h.perm ((List.Perm.cons _ (.swap ..)).trans (.swap ..))
theorem St.f3 {A B C D : Asrt} (h : St E (A :: B :: C :: D :: L) w) : St E (D :: A :: B :: C :: L) w :=
  h.perm ((List.Perm.cons _ ((List.Perm.cons _ (.swap ..)).trans (.swap ..))).trans (.swap ..))
theorem St.f4 {A B C D F : Asrt} (h : St E (A :: B :: C :: D :: F :: L) w) : St E (F :: A :: B :: C :: D :: L) w := (h.perm ((List.perm_middle (l₁ := [A, B, C, D]) (l₂ := L) (a := F))) :)
theorem St.f5 {A B C D F G : Asrt} (h : St E (A :: B :: C :: D :: F :: G :: L) w) : St E (G :: A :: B :: C :: D :: F :: L) w := (h.perm ((List.perm_middle (l₁ := [A, B, C, D, F]) (l₂ := L) (a := G))) :)
/-- Put the first one behind n others. -/
theorem St.b2 {A B C : Asrt} (h : St E (A :: B :: C :: L) w) : St E (B :: C :: A :: L) w := h.perm (List.perm_middle (l₁ := [B, C]) (l₂ := L) (a := A)).symm
theorem St.b3 {A B C D : Asrt} (h : St E (A :: B :: C :: D :: L) w) : St E (B :: C :: D :: A :: L) w := h.perm (List.perm_middle (l₁ := [B, C, D]) (l₂ := L) (a := A)).symm
theorem St.b4 {A B C D F : Asrt} (h : St E (A :: B :: C :: D :: F :: L) w) : St E (B :: C :: D :: F :: A :: L) w := h.perm (List.perm_middle (l₁ := [B, C, D, F]) (l₂ := L) (a := A)).symm
theorem perm_front (L1 : List Asrt) (A : Asrt) (L2 : List Asrt) : (L1 ++ A :: L2).Perm (A :: (L1 ++ L2)) := List.perm_middle
theorem St.front (L1 : List Asrt) {A : Asrt} {L2 : List Asrt} (h : St E (L1 ++ A :: L2) w) : St E (A :: (L1 ++ L2)) w := h.perm (perm_front _ _ _)

/-- A list of assertions as one. -/
def seps (L : List Asrt) : Asrt := sepL L
theorem sepL_append : ∀ {L1 L2 : List Asrt} {h : PHeap}, sepL (L1 ++ L2) h ↔ ∃ h1 h2, dj h1 h2 ∧ h = un h1 h2 ∧ sepL L1 h1 ∧ sepL L2 h2
  | [], L2, h => by
    constructor
    · intro hs; exact ⟨fun _ => none, h, fun _ => .inl rfl, by funext b; rfl, trivial, hs⟩
    · rintro ⟨h1, h2, d, rfl, _, hs⟩
      -- what is beside may be let go
      have : ∀ (L : List Asrt) (x y : PHeap), dj x y → sepL L y → sepL L (un x y) := by
        intro L
        induction L with
        | nil => intros; trivial
        | cons A L ih =>
          rintro x y dxy ⟨y1, y2, d, rfl, hA, hL⟩
          obtain ⟨d1, d2⟩ := dj_un dxy d
          refine ⟨y1, un x y2, (dj_un_left d1 d.symm).symm, ?_, hA, ih _ _ d2 hL⟩
          rw [← un_assoc, ← un_assoc, un_comm d1]
      exact this _ _ _ d hs
  | A :: L1, L2, h => by
    constructor
    · rintro ⟨h1, h2, d, rfl, hA, hs⟩
      obtain ⟨h3, h4, d', rfl, hs1, hs2⟩ := sepL_append.1 hs
      obtain ⟨d3, d4⟩ := dj_un d d'
      exact ⟨un h1 h3, h4, dj_un_left d4 d', (un_assoc _ _ _).symm, ⟨h1, h3, d3, rfl, hA, hs1⟩, hs2⟩
    · rintro ⟨x, h4, d', rfl, ⟨h1, h3, d3, rfl, hA, hs1⟩, hs2⟩
      obtain ⟨e1, e2⟩ := dj_un d'.symm d3
      refine ⟨h1, un h3 h4, ?_, un_assoc _ _ _, hA, sepL_append.2 ⟨h3, h4, e2.symm, rfl, hs1, hs2⟩⟩
      exact (dj_un_left d3.symm e1).symm
theorem St.open_ {L1 L2 : List Asrt} (h : St E (seps L1 :: L2) w) : St E (L1 ++ L2) w := by
  obtain ⟨e, x, ⟨h1, h2, d, rfl, hs, hL⟩, hl⟩ := h
  exact ⟨e, _, sepL_append.2 ⟨h1, h2, d, rfl, hs, hL⟩, hl⟩
theorem St.shut {L1 L2 : List Asrt} (h : St E (L1 ++ L2) w) : St E (seps L1 :: L2) w := by
  obtain ⟨e, x, hs, hl⟩ := h
  obtain ⟨h1, h2, d, rfl, h3, h4⟩ := sepL_append.1 hs
  exact ⟨e, _, ⟨h1, h2, d, rfl, h3, h4⟩, hl⟩

def pureA (p : Prop) : Asrt := fun _ => p
theorem St.pure_ {p : Prop} (h : St E (pureA p :: L) w) : p ∧ St E L w := ⟨let ⟨_, _, ⟨_, _, _, _, hp, _⟩, _⟩ := h; hp, h.drop⟩
theorem St.addPure {p : Prop} (hp : p) (h : St E L w) : St E (pureA p :: L) w := by
  obtain ⟨e, x, hs, hl⟩ := h
  exact ⟨e, x, ⟨fun _ => none, x, fun _ => .inl rfl, by funext b; rfl, hp, hs⟩, hl⟩
theorem St.ex_ {α : Type} {F : α → Asrt} (h : St E ((fun x => ∃ a, F a x) :: L) w) : ∃ a, St E (F a :: L) w := by
  obtain ⟨e, x, ⟨h1, h2, d, rfl, ⟨a, hA⟩, hL⟩, hl⟩ := h
  exact ⟨a, e, _, ⟨h1, h2, d, rfl, hA, hL⟩, hl⟩

/-! ### blocks -/
/-- Block b is o, and ours. -/
def blk (b : Nat) (o : Obj) : Asrt := fun h => h b = some (true, o)
/-- Block b is o, and stays. -/
def ro (b : Nat) (o : Obj) : Asrt := fun h => ∃ f, h b = some (f, o)
/-- All that was there in W stays. -/
def old (W : World) : Asrt := fun h => ∀ b o, W.heap[b]? = some o → ∃ f, h b = some (f, o)

theorem St.at_blk {b : Nat} {o : Obj} (h : St E (blk b o :: L) w) : w.heap[b]? = some o := by
  obtain ⟨_, x, ⟨h1, h2, d, rfl, hA, hL⟩, hl⟩ := h
  exact hl b true o (by unfold un; rw [show h1 b = some (true, o) from hA])
theorem St.at_ro {b : Nat} {o : Obj} (h : St E (ro b o :: L) w) : w.heap[b]? = some o := by
  obtain ⟨_, x, ⟨h1, h2, d, rfl, ⟨f, hA⟩, hL⟩, hl⟩ := h
  exact hl b f o (by unfold un; rw [hA])
theorem St.at_old {W : World} {b : Nat} {o : Obj} (h : St E (old W :: L) w) (hb : W.heap[b]? = some o) : w.heap[b]? = some o := by
  obtain ⟨_, x, ⟨h1, h2, d, rfl, hA, hL⟩, hl⟩ := h
  obtain ⟨f, hf⟩ := hA b o hb
  exact hl b f o (by unfold un; rw [hf])

/-- A block of ours is turned; nothing else that was there is. -/
theorem St.upd {b : Nat} {o o' : Obj} (h : St E (blk b o :: L) w) (he : SameEnv w w') (hb : w'.heap[b]? = some o') (hk : ∀ c, c ≠ b → c < w.heap.size → w'.heap[c]? = w.heap[c]?) : St E (blk b o' :: L) w' := by
  obtain ⟨e, x, ⟨h1, h2, d, rfl, hA, hL⟩, hl⟩ := h
  have hA' : h1 b = some (true, o) := hA
  have hb2 : h2 b = none := by
    rcases d b with h' | h' | ⟨o2, h', _⟩
    · rw [hA'] at h'; cases h'
    · exact h'
    · rw [hA'] at h'; cases h'
  refine ⟨⟨he.os.trans e.os, he.tape.trans e.tape, he.output.trans e.output⟩, un (fun c => if c = b then some (true, o') else none) h2, ⟨_, h2, fun c => ?_, rfl, by simp [blk], hL⟩, fun c f u hc => ?_⟩
  · by_cases hcb : c = b
    · subst hcb; exact .inr (.inl hb2)
    · exact .inl (by simp [hcb])
  · unfold un at hc
    by_cases hcb : c = b
    · subst hcb; simp at hc; rw [hb, hc.2]
    · simp only [hcb, if_false] at hc
      have hw : w.heap[c]? = some u := by
        cases h1c : h1 c with
        | none => exact hl c f u (by unfold un; rw [h1c]; exact hc)
        | some y =>
          rcases d c with h' | h' | ⟨o2, h', h''⟩
          · rw [h'] at h1c; cases h1c
          · rw [h'] at hc; cases hc
          · rw [h''] at hc; injection hc with hc; injection hc with _ hc; subst hc
            exact hl c false o2 (by unfold un; rw [h'])
      have hlt : c < w.heap.size := (Array.getElem?_eq_some_iff.1 hw).1
      rw [hk c hcb hlt, hw]
/-- Nothing that was there is turned. -/
theorem St.same (h : St E L w) (he : SameEnv w w') (hk : ∀ c, c < w.heap.size → w'.heap[c]? = w.heap[c]?) : St E L w' := by
  obtain ⟨e, x, hs, hl⟩ := h
  refine ⟨⟨he.os.trans e.os, he.tape.trans e.tape, he.output.trans e.output⟩, x, hs, fun b f o hb => ?_⟩
  have hw := hl b f o hb
  rw [hk b (Array.getElem?_eq_some_iff.1 hw).1, hw]
theorem St.add_new {b : Nat} {o : Obj} (h : St E L w) (he : SameEnv w w') (hlt : w.heap.size ≤ b) (hb : w'.heap[b]? = some o) (hk : ∀ c, c < w.heap.size → w'.heap[c]? = w.heap[c]?) : St E (blk b o :: L) w' := by
  obtain ⟨e, x, hs, hl⟩ := h
  have hxb : x b = none := by
    cases hx : x b with
    | none => rfl
    | some y => have := (Array.getElem?_eq_some_iff.1 (hl b y.1 y.2 hx)).1; omega
  refine ⟨⟨he.os.trans e.os, he.tape.trans e.tape, he.output.trans e.output⟩, un (fun c => if c = b then some (true, o) else none) x, ⟨_, x, fun c => ?_, rfl, by simp [blk], hs⟩, fun c f u hc => ?_⟩
  · by_cases hcb : c = b
    · subst hcb; exact .inr (.inl hxb)
    · exact .inl (by simp [hcb])
  · unfold un at hc
    by_cases hcb : c = b
    · subst hcb; simp at hc; rw [hb, hc.2]
    · simp only [hcb, if_false] at hc
      have hw := hl c f u hc
      rw [hk c (Array.getElem?_eq_some_iff.1 hw).1, hw]

theorem SameEnv.refl (w : World) : SameEnv w w := ⟨rfl, rfl, rfl⟩
theorem St.alloc (h : St E L w) (o : Obj) : St E (blk w.heap.size o :: L) (w.alloc o) :=
  h.add_new ⟨rfl, rfl, rfl⟩ (Nat.le_refl _) (by show (w.heap.push o)[w.heap.size]? = some o; simp) fun c hc => by
    show (w.heap.push o)[c]? = _
    rw [Array.getElem?_push, if_neg (by omega)]
theorem St.drew (h : St E L w) : St E L w.drew := h.same ⟨rfl, rfl, rfl⟩ fun _ _ => rfl
theorem St.drewN (h : St E L w) (n : Nat) : St E L { w with drawn := n } := h.same ⟨rfl, rfl, rfl⟩ fun _ _ => rfl

/-- What stays may be had twice. -/
def toRO (h : PHeap) : PHeap := fun b => (h b).map fun x => (false, x.2)
def Dup (A : Asrt) : Prop := ∀ h, A h → A (toRO h)
theorem Dup.ro_ (b : Nat) (o : Obj) : Dup (ro b o) := fun h ⟨f, hf⟩ => ⟨false, by simp [toRO, hf]⟩
theorem Dup.old_ (W : World) : Dup (old W) := fun h hh b o hb => by
  obtain ⟨f, hf⟩ := hh b o hb
  exact ⟨false, by simp [toRO, hf]⟩
theorem Dup.pure_ (p : Prop) : Dup (pureA p) := fun _ hp => hp
theorem St.dup (hd : Dup A) (h : St E (A :: L) w) : St E (A :: A :: L) w := by
  obtain ⟨e, x, ⟨h1, h2, d, rfl, hA, hL⟩, hl⟩ := h
  have dr : dj (toRO h1) h2 := fun c => by
    rcases d c with h' | h' | ⟨o, h', h''⟩
    · exact .inl (by simp [toRO, h'])
    · exact .inr (.inl h')
    · exact .inr (.inr ⟨o, by simp [toRO, h'], h''⟩)
  have du : dj (toRO h1) (un (toRO h1) h2) := fun c => by
    cases hc : h1 c with
    | none => exact .inl (by simp [toRO, hc])
    | some y => exact .inr (.inr ⟨y.2, by simp [toRO, hc], by simp [un, toRO, hc]⟩)
  refine ⟨e, _, ⟨toRO h1, _, du, rfl, hd _ hA, toRO h1, h2, dr, rfl, hd _ hA, hL⟩, fun b f o hb => ?_⟩
  unfold un at hb
  cases hc : h1 b with
  | none => simp [toRO, hc] at hb; exact hl b f o (by unfold un; rw [hc]; exact hb)
  | some y =>
    simp [toRO, hc] at hb
    exact hl b y.1 o (by unfold un; rw [hc, ← hb.2])
theorem St.freeze {b : Nat} {o : Obj} (h : St E (blk b o :: L) w) : St E (ro b o :: L) w := h.mono fun _ hx => ⟨true, hx⟩
theorem St.ne {b c : Nat} {o u : Obj} (h : St E (blk b o :: ro c u :: L) w) : b ≠ c := by
  rintro rfl
  obtain ⟨_, x, ⟨h1, h2, d, rfl, hA, h3, h4, d2, rfl, ⟨f, hB⟩, _⟩, _⟩ := h
  have hA' : h1 b = some (true, o) := hA
  rcases d b with h' | h' | ⟨o', h', _⟩
  · rw [hA'] at h'; cases h'
  · simp [un, hB] at h'
  · rw [hA'] at h'; cases h'
end
end Go.Vc
