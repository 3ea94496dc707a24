/-
  Parts of a function that are told of by themselves: what they do not write stays known.
-/
import Derived.Test.YtcpmfjclkdjfmaaGreatVcFun
namespace Go.Vc
open Go

/-- A relation of environments that lasts. -/
structure Lasts (Rl : Env → Env → Prop) (ok : Option Tmp → Bool) : Prop where
  ref : ∀ {e' e}, Rl e' e → Ref e' e
  put_ : ∀ {e' e} {d : Option Tmp} (v : Value), Rl e' e → ok d = true → Rl (put e' d v) (put e d v)
  know : ∀ {e' e} {t : Nat} {b : Bool}, Rl e' e → find e.l t = some (.bool b) → Rl (put e' (some t) (.bool b)) (put e (some t) (.bool b))

section
variable {P : Program} {ops : Array Oper} {o : Oper} {e e' : Env} {w : World} {Rl : Env → Env → Prop} {ok : Option Tmp → Bool}

theorem vcStep_monoR (L : Lasts Rl ok) {K K' : Env → World → Prop} {X X' : List PanicEntry → World → Prop} (hd : ok o.dst = true) (r : Rl e' e) (hm : ∀ e e' w, K e w → Rl e' e → K' e' w) (hx : ∀ c w, X c w → X' c w)
    (h : vcStep P e o w K X) : vcStep P e' o w K' X' := by
  unfold vcStep at *
  cases hk : (knows e o.op && dstOk e o.dst) <;> simp only [hk, cond] at h
  simp only [Bool.and_eq_true] at hk
  have hk' : (knows e' o.op && dstOk e' o.dst) = true := by rw [(L.ref r).knows_ hk.1, (L.ref r).dstOk_, hk.2]; rfl
  rw [hk']
  simp only [cond]
  have hc : ∀ x ∈ o.op.operands, evd e' x = evd e x := fun x hx => (L.ref r).evd_ hk.1 hx
  cases hp : isPure P o.op <;> simp only [hp] at h ⊢
  · rw [vcMem_congr o hc]
    exact vcMem_mono (fun v w' hv => hm _ _ _ hv (L.put_ _ r hd)) hx h
  · rw [vcPure_congr o hc]
    exact vcPure_mono (fun v hv => hm _ _ _ hv (L.put_ _ r hd)) h

theorem vcSkip_monoR (L : Lasts Rl ok) {K K' : Env → World → Prop} (hd : ok o.dst = true) (r : Rl e' e) (hm : ∀ e e' w, K e w → Rl e' e → K' e' w) (h : vcSkip e o w K) : vcSkip e' o w K' := by
  unfold vcSkip at *
  rw [(L.ref r).dstOk_]
  cases hdd : dstOk e o.dst <;> simp only [hdd, cond] at h ⊢
  exact hm _ _ _ h (L.put_ _ r hd)

theorem vcOper_monoR (L : Lasts Rl ok) {K K' : Env → World → Prop} {X X' : List PanicEntry → World → Prop} (hd : ok o.dst = true) (r : Rl e' e) (hm : ∀ e e' w, K e w → Rl e' e → K' e' w) (hx : ∀ c w, X c w → X' c w)
    (h : vcOper P ops e o w K X) : vcOper P ops e' o w K' X' := by
  unfold vcOper at *
  split at h
  · exact vcStep_monoR L hd r (fun e e' w hk r' => hintK_mono (L.ref r') (fun v hv => hm _ _ _ hv (L.put_ _ r' hd)) (fun hk => hm _ _ _ hk r') hk) hx h
  · rename_i j want hg
    split at h
    · exact h.elim
    · rename_i t ht
      split at h
      · rename_i b hb
        rw [(L.ref r).at_ _ _ hb]
        simp only
        split at h
        · rename_i hbt
          subst hbt
          rw [if_pos rfl]
          cases want <;> simp only [cond] at h ⊢
          · exact vcSkip_monoR L hd (L.know r hb) hm h
          · exact vcStep_monoR L hd (L.know r hb) hm hx h
        · rename_i hbt
          have hbf : b = false := by simpa using hbt
          subst hbf
          rw [if_neg (by simp)]
          cases want <;> simp only [cond] at h ⊢
          · exact vcStep_monoR L hd (L.know r hb) hm hx h
          · exact vcSkip_monoR L hd (L.know r hb) hm h
      · rename_i vs hb
        rw [(L.ref r).at_ _ _ hb]
        exact vcSkip_monoR L hd r hm h
      · exact h.elim

theorem vcOps_monoR (L : Lasts Rl ok) {Q Q' : QT} (hq : ∀ x e e' w, Q x e w → Rl e' e → Q' x e' w) : ∀ (l : List Oper), (l.all fun (o : Oper) => ok o.dst) = true → ∀ (e e' : Env) (w : World), Rl e' e → vcOps P ops l e w Q → vcOps P ops l e' w Q'
  | [], _, _, _, _, r, h => hq _ _ _ _ h r
  | _ :: rest, ha, _, _, _, r, h => by
    simp only [List.all_cons, Bool.and_eq_true] at ha
    exact vcOper_monoR L ha.1 r (fun _ _ _ hk r' => vcOps_monoR L hq rest ha.2 _ _ _ r' hk) (fun _ _ hp => hq _ _ _ _ hp r) h

theorem vcTake_monoR (L : Lasts Rl ok) {K K' : Env → Option (World → Prop) → Prop} (hd : ok o.dst = true) (r : Rl e' e) (hm : ∀ e e' s, K e s → Rl e' e → K' e' s) (h : vcTake P e o w K) : vcTake P e' o w K' := by
  unfold vcTake at *
  cases hk : (knows e o.op && dstOk e o.dst) <;> simp only [hk, cond] at h
  simp only [Bool.and_eq_true] at hk
  have hk' : (knows e' o.op && dstOk e' o.dst) = true := by rw [(L.ref r).knows_ hk.1, (L.ref r).dstOk_, hk.2]; rfl
  rw [hk']
  simp only [cond]
  have hc : ∀ x ∈ o.op.operands, evd e' x = evd e x := fun x hx => (L.ref r).evd_ hk.1 hx
  cases hp : isPure P o.op <;> simp only [hp] at h ⊢
  · split at h
    · rename_i t x hop
      have hx : evd e' x = evd e x := hc x (by rw [hop]; simp [Op.operands])
      rw [hx]
      split at h
      · rename_i a z ha hz
        cases hl : ldOk P t z <;> simp only [hl] at h ⊢
        exact mk_mono _ _ _ _ (fun _ hu => ⟨hu.1, hm _ _ _ hu.2 (L.put_ _ r hd)⟩) h
      · exact h
    · exact h
  · rw [vcPure_congr o hc]
    exact vcPure_mono (fun v hv => hm _ _ _ hv (L.put_ _ r hd)) h

theorem vcTakeG_monoR (L : Lasts Rl ok) {K K' : Env → Option (World → Prop) → Prop} (hd : ok o.dst = true) (r : Rl e' e) (hm : ∀ e e' s, K e s → Rl e' e → K' e' s) (h : vcTakeG P ops e o w K) : vcTakeG P ops e' o w K' := by
  unfold vcTakeG at *
  split at h
  · exact vcTake_monoR L hd r hm h
  · rename_i j want hg
    split at h
    · exact h.elim
    · rename_i t ht
      split at h
      · rename_i b hb
        rw [(L.ref r).at_ _ _ hb]
        simp only
        split at h
        · rename_i hbt
          subst hbt
          rw [if_pos rfl]
          cases want <;> simp only [cond] at h ⊢
          · exact vcSkip_monoR L hd (L.know r hb) (fun _ _ _ hk r' => hm _ _ _ hk r') h
          · exact vcTake_monoR L hd (L.know r hb) hm h
        · rename_i hbt
          have hbf : b = false := by simpa using hbt
          subst hbf
          rw [if_neg (by simp)]
          cases want <;> simp only [cond] at h ⊢
          · exact vcTake_monoR L hd (L.know r hb) hm h
          · exact vcSkip_monoR L hd (L.know r hb) (fun _ _ _ hk r' => hm _ _ _ hk r') h
      · rename_i vs hb
        rw [(L.ref r).at_ _ _ hb]
        exact vcSkip_monoR L hd r (fun _ _ _ hk r' => hm _ _ _ hk r') h
      · exact h.elim

theorem vcDraw_monoR (L : Lasts Rl ok) (ha : (ops.toList.all fun (o : Oper) => ok o.dst) = true) {Q Q' : QT} (hq : ∀ x e e' w, Q x e w → Rl e' e → Q' x e' w) : ∀ (fuel : Nat) (listed : Array Bool) (S : Held) (e e' : Env) (w : World), Rl e' e → vcDraw P ops fuel listed S e w Q → vcDraw P ops fuel listed S e' w Q' := by
  have hok : ∀ (i : Nat) (o : Oper), ops[i]? = some o → ok o.dst = true := fun i o ho => List.all_eq_true.1 ha o (Array.mem_toList_iff.2 (Array.mem_of_getElem? ho))
  intro fuel
  induction fuel with
  | zero =>
    intro listed S e e' w r h
    unfold vcDraw at h ⊢
    cases hr : (Region.ready .any ops listed).isEmpty <;> simp only [hr, cond] at h ⊢
    exact hq _ _ _ _ h r
  | succ fuel ih =>
    intro listed S e e' w r h
    unfold vcDraw at h ⊢
    split at h
    · rename_i i hi
      split at h
      · rename_i o ho
        exact vcTakeG_monoR L (hok _ _ ho) r (fun _ _ _ hk r' => ih _ _ _ _ _ r' hk) h
      · exact h
    · cases hr : (Region.ready .any ops listed).isEmpty <;> simp only [hr, cond] at h ⊢
      · refine forAll_mono (fun i hi => ?_) h
        split at hi
        · rename_i o ho
          exact vcOper_monoR L (hok _ _ ho) r (fun _ _ _ hk r' => ⟨hk.1, ih _ _ _ _ _ r' hk.2⟩) (fun _ _ hp => hq _ _ _ _ hp r) hi
        · exact hi
      · exact hq _ _ _ _ h r

def okW (ok : Option Tmp → Bool) : Code → Bool
  | .region _ ops _ => ops.toList.all fun (o : Oper) => ok o.dst
  | .seq a b => okW ok a && okW ok b
  | .cond _ a b => okW ok a && okW ok b
  | .block _ b => okW ok b
  | .loop b => okW ok b
  | _ => true

theorem vcCode_monoR (L : Lasts Rl ok) : ∀ (c : Code) (p : Nat), okW ok c = true → ∀ {e e' : Env} {w : World} {Q Q' : QT}, (∀ x e e' w, Q x e w → Rl e' e → Q' x e' w) → Rl e' e → vcCode P noH c p e w Q → vcCode P noH c p e' w Q' := by
  intro c
  induction c with
  | skip => intro p _ e e' w Q Q' hq r h; exact hq _ _ _ _ h r
  | region id ops d =>
    intro p ha e e' w Q Q' hq r h
    cases d
    · exact vcOps_monoR L hq _ ha _ _ _ r h
    · simp only [vcCode, hk, noH] at h ⊢
      cases hn : Region.noSelect ops <;> simp only [hn, cond] at h ⊢
      exact vcDraw_monoR L ha hq _ _ _ _ _ _ r h
  | seq a b iha ihb =>
    intro p ha e e' w Q Q' hq r h
    simp only [okW, Bool.and_eq_true] at ha
    refine iha _ ha.1 (Q := seqQ (fun e w => vcCode P noH b (2 * p + 1) e w Q) Q) (fun x e e' w hx r' => ?_) r h
    cases x <;> first | exact ihb _ ha.2 hq r' hx | exact hq _ _ _ _ hx r'
  | cond c a b iha ihb =>
    intro p ha e e' w Q Q' hq r h
    simp only [okW, Bool.and_eq_true] at ha
    simp only [vcCode, hk, noH] at h ⊢
    split at h
    · rename_i t ht
      rw [(L.ref r).ev_ ht]
      simp only
      split at h
      · rename_i hb; rw [if_pos hb]; exact iha _ ha.1 hq r h
      · rename_i hb; rw [if_neg hb]; exact ihb _ ha.2 hq r h
    · exact h.elim
  | block id b ih =>
    intro p ha e e' w Q Q' hq r h
    refine ih _ ha (Q := blockQ id Q) (fun x e e' w hx r' => ?_) r h
    cases x <;> simp only [blockQ] at hx ⊢ <;> try exact hq _ _ _ _ hx r'
    rename_i i
    cases hb : Nat.beq i id <;> simp only [hb, cond] at hx ⊢ <;> exact hq _ _ _ _ hx r'
  | loop b ih =>
    intro p ha e e' w Q Q' hq r h
    intro X' hX'
    have key := h (fun e w => ∀ e', Rl e' e → X' e' w) (fun e w hb e' r' => hX' e' w (ih _ ha (Q := seqQ (fun e w => ∀ e', Rl e' e → X' e' w) Q) (fun x e1 e1' w1 hx r1 => by
      cases x <;> first | exact hx e1' r1 | exact hq _ _ _ _ hx r1) r' hb))
    exact key e' r
  | exit id => intro p _ e e' w Q Q' hq r h; exact hq _ _ _ _ h r
  | goto l => intro p _ e e' w Q Q' hq r h; exact hq _ _ _ _ h r
  | ret => intro p _ e e' w Q Q' hq r h; exact hq _ _ _ _ h r
  | _ => intro p _ e e' w Q Q' hq r h; exact h.elim
end

/-! ### what is not written stays -/

structure RefF (ks : Nat → Bool) (base : Env) (e' e : Env) : Prop where
  ref : Ref e' e
  n : e'.n = base.n
  ds : e'.ds = base.ds
  stay : ∀ t v, ks t = true → find base.l t = some v → find e'.l t = some v
def notIn (ks : Nat → Bool) (d : Option Tmp) : Bool := match d with | some d => !ks d | none => true
theorem RefF.lasts (ks : Nat → Bool) (base : Env) : Lasts (RefF ks base) (notIn ks) where
  ref := fun r => r.ref
  put_ := fun {e' e d} v r hd => ⟨r.ref.put_ d v, by cases d <;> exact r.n, by cases d <;> exact r.ds, fun t u hk hb => by
    cases d with
    | none => exact r.stay t u hk hb
    | some d =>
      simp only [put, find_cons]
      rw [if_neg (fun he => by subst he; simp [notIn, hk] at hd)]
      exact r.stay t u hk hb⟩
  know := fun {e' e t b} r hb => ⟨r.ref.put_ _ _, r.n, r.ds, fun s u hk hs => by
    simp only [put, find_cons]
    split
    · rename_i he
      subst he
      have h1 := r.stay _ _ hk hs
      rw [r.ref.at_ _ _ hb] at h1
      exact h1
    · exact r.stay s u hk hs⟩

def strip (ks : Nat → Bool) : List (Nat × Value) → List (Nat × Value)
  | [] => []
  | p :: r => cond (ks p.1) (p :: strip ks r) (strip ks r)
theorem find_strip (ks : Nat → Bool) : ∀ (l : List (Nat × Value)) (t : Nat) (v : Value), find (strip ks l) t = some v → ks t = true ∧ find l t = some v
  | [], _, _, h => by cases h
  | (d, u) :: r, t, v, h => by
    unfold strip at h
    cases hk : ks d <;> simp only [hk, cond] at h
    · obtain ⟨h1, h2⟩ := find_strip ks r t v h
      refine ⟨h1, ?_⟩
      rw [find_cons, if_neg (fun he => by subst he; rw [hk] at h1; cases h1)]
      exact h2
    · rw [find_cons] at h ⊢
      split at h
      · rename_i he; subst he; rw [if_pos rfl]; exact ⟨hk, h⟩
      · rename_i he
        rw [if_neg he]
        exact find_strip ks r t v h

theorem Ref.nil_ {e' : Env} {n : Nat} {ds : List Deferred} (hn : e'.n = n) (hd : e'.ds = ds) : Ref e' ⟨[], n, ds⟩ := ⟨hn, hd, fun _ _ h => by cases h⟩
theorem Ref.cons_ {e' : Env} {l : List (Nat × Value)} {n : Nat} {ds : List Deferred} {d : Nat} {v : Value} (h : find e'.l d = some v) (r : Ref e' ⟨l, n, ds⟩) : Ref e' ⟨(d, v) :: l, n, ds⟩ :=
  ⟨r.n, r.ds, fun t u hu => by
    rw [find_cons] at hu
    split at hu
    · rename_i he; subst he; rw [h]; exact hu
    · exact r.at_ t u hu⟩

/-! ### slots that come in, slots that go out -/

/-- v is of z's kind. -/
def kindOk (z v : Value) : Bool :=
  match z, v with
  | .int k _, .int k' _ => decide (k = k')
  | .bool _, .bool _ => true
  | .string _, .string _ => true
  | .float k _, .float k' _ => decide (k = k')
  | .pointer none, .pointer _ => true
  | .pointer (some _), .pointer (some _) => true
  | .slice _ _ _, .slice _ _ _ => true
  | .func _ _ _, .func (.func _) _ _ => true
  | .map _, .map _ => true
  | .nilFunc, _ => true
  | _, _ => false
def takeAll (e : Env) : List (Nat × Value) → (List Value → Prop) → Prop
  | [], K => K []
  | p :: r, K =>
    match find e.l p.1 with
    | some v => cond (kindOk p.2 v) (takeAll e r fun l => K (v :: l)) False
    | none => False
/-- The values stand in their slots, each of its kind. -/
def Stand (e : Env) : List (Nat × Value) → List Value → Prop
  | [], [] => True
  | p :: r, v :: l => find e.l p.1 = some v ∧ kindOk p.2 v = true ∧ Stand e r l
  | _, _ => False
theorem takeAll_stand {e : Env} : ∀ {ins : List (Nat × Value)} {K : List Value → Prop}, takeAll e ins K → ∃ l, Stand e ins l ∧ K l
  | [], _, h => ⟨[], trivial, h⟩
  | p :: r, K, h => by
    unfold takeAll at h
    split at h
    · rename_i v hv
      cases hk : kindOk p.2 v <;> simp only [hk, cond] at h
      obtain ⟨l, hl, hK⟩ := takeAll_stand h
      exact ⟨v :: l, ⟨hv, hk, hl⟩, hK⟩
    · exact h.elim
theorem takeAll_mono {e e' : Env} (r : Ref e' e) : ∀ {ins : List (Nat × Value)} {K : List Value → Prop}, takeAll e ins K → takeAll e' ins K
  | [], _, h => h
  | p :: rs, K, h => by
    unfold takeAll at h ⊢
    split at h
    · rename_i v hv
      rw [r.at_ _ _ hv]
      cases hk : kindOk p.2 v <;> simp only [hk, cond] at h ⊢
      exact takeAll_mono r h
    · exact h.elim
def zipE : List (Nat × Value) → List Value → List (Nat × Value)
  | p :: r, v :: l => (p.1, v) :: zipE r l
  | _, _ => []
theorem Stand.ref {e : Env} {n : Nat} {ds : List Deferred} (hn : e.n = n) (hd : e.ds = ds) : ∀ {ins : List (Nat × Value)} {l : List Value}, Stand e ins l → Ref e ⟨zipE ins l, n, ds⟩
  | [], [], _ => .nil_ hn hd
  | _ :: _, _ :: _, h => .cons_ h.1 (Stand.ref hn hd h.2.2)
/-- Each value is of its kind. -/
def Kinds : List (Nat × Value) → List Value → Prop
  | [], [] => True
  | p :: r, v :: l => kindOk p.2 v = true ∧ Kinds r l
  | _, _ => False
theorem Stand.kinds {e : Env} : ∀ {ins : List (Nat × Value)} {l : List Value}, Stand e ins l → Kinds ins l
  | [], [], _ => trivial
  | _ :: _, _ :: _, h => ⟨h.2.1, h.2.2.kinds⟩

theorem kind_int {k : IntKind} {n : Int} {v : Value} (h : kindOk (.int k n) v = true) : ∃ x, v = .int k x := by
  cases v <;> simp [kindOk] at h
  subst h; exact ⟨_, rfl⟩
theorem kind_float {k : FloatKind} {n : Nat} {v : Value} (h : kindOk (.float k n) v = true) : ∃ x, v = .float k x := by
  cases v <;> simp [kindOk] at h
  subst h; exact ⟨_, rfl⟩
theorem kind_bool {b : Bool} {v : Value} (h : kindOk (.bool b) v = true) : ∃ x, v = .bool x := by cases v <;> simp [kindOk] at h; exact ⟨_, rfl⟩
theorem kind_string {b : ByteArray} {v : Value} (h : kindOk (.string b) v = true) : ∃ x, v = .string x := by cases v <;> simp [kindOk] at h; exact ⟨_, rfl⟩
theorem kind_pointer {v : Value} (h : kindOk (.pointer none) v = true) : ∃ x, v = .pointer x := by cases v <;> simp [kindOk] at h; exact ⟨_, rfl⟩
theorem kind_addr {a : Addr} {v : Value} (h : kindOk (.pointer (some a)) v = true) : ∃ x, v = .pointer (some x) := by
  cases v <;> simp [kindOk] at h
  rename_i p
  cases p with
  | none => simp at h
  | some x => exact ⟨x, rfl⟩
theorem kind_func {fn : Fn} {a b : Array Value} {v : Value} (h : kindOk (.func fn a b) v = true) : ∃ g fi ca, v = .func (.func g) fi ca := by
  cases v <;> simp [kindOk] at h
  rename_i f fi ca
  cases f <;> simp at h
  exact ⟨_, _, _, rfl⟩
theorem kind_any {v : Value} (_h : kindOk .nilFunc v = true) : ∃ x, v = x := ⟨_, rfl⟩
theorem kind_slice {a : Option Addr} {l c : Nat} {v : Value} (h : kindOk (.slice a l c) v = true) : ∃ a l c, v = .slice a l c := by cases v <;> simp [kindOk] at h; exact ⟨_, _, _, rfl⟩
theorem kind_map {r : Option Nat} {v : Value} (h : kindOk (.map r) v = true) : ∃ x, v = .map x := by cases v <;> simp [kindOk] at h; exact ⟨_, rfl⟩

abbrev Conts := Exit → List Value → World → Prop
/-- What a part's ways out want: the slots, and what is then to hold. -/
def unitQ (outs : Exit → Option (List (Nat × Value))) (C : Conts) : QT := fun x e w =>
  match outs x with
  | some o => takeAll e o fun l => C x l w
  | none => False
theorem MonoQ.unit_ {outs : Exit → Option (List (Nat × Value))} {C : Conts} : MonoQ (unitQ outs C) := by
  intro x e e' w h r
  unfold unitQ at *
  split at h
  · exact takeAll_mono r h
  · exact h.elim

/-- A part, told of by F. -/
def unitHook (N : Nat) (ks : Nat → Bool) (ins : List (Nat × Value)) (outs : Exit → Option (List (Nat × Value))) (F : List Value → World → Conts → Prop) : Env → World → QT → Prop := fun e w Q =>
  cond (Nat.beq e.n N && e.ds.isEmpty) (takeAll e ins fun l => F l w fun x vs w => match outs x with | some o => Q x ⟨zipE o vs ++ strip ks e.l, e.n, e.ds⟩ w | none => False) False

theorem find_append (l m : List (Nat × Value)) (t : Nat) : find (l ++ m) t = match find l t with | some v => some v | none => find m t := by
  induction l with
  | nil => rfl
  | cons p l ih =>
    rw [List.cons_append, show p = (p.1, p.2) from rfl, find_cons, find_cons]
    split
    · rfl
    · exact ih

/-- Hooks aside: what holds of more holds where that is asked. -/
theorem vcCode_hmono {P : Program} {H : Hook} : ∀ (c : Code) (p : Nat) {e : Env} {w : World} {Q Q' : QT}, (∀ x e w, Q x e w → Q' x e w) → HOk P H c p → vcCode P H c p e w Q → vcCode P H c p e w Q' := by
  have LE : Lasts (fun a b => a = b) (fun _ => true) := ⟨fun r => by subst r; exact Ref.refl _, fun _ r _ => by subst r; rfl, fun r _ => by subst r; rfl⟩
  intro c
  induction c with
  | seq a b iha ihb =>
    intro p e w Q Q' hq ho h
    simp only [vcCode, HOk] at h ho ⊢
    cases hp : H p with
    | some f => rw [hp] at h ho; exact ho.mono _ _ _ _ hq h
    | none =>
      rw [hp] at h ho
      exact iha _ (fun x e w hx => by cases x <;> first | exact ihb _ hq ho.2 hx | exact hq _ _ _ hx) ho.1 h
  | cond c a b iha ihb =>
    intro p e w Q Q' hq ho h
    simp only [vcCode, HOk] at h ho ⊢
    cases hp : H p with
    | some f => rw [hp] at h ho; exact ho.mono _ _ _ _ hq h
    | none =>
      rw [hp] at h ho
      simp only [hk] at h ⊢
      split at h
      · split at h
        · rename_i ht; rw [if_pos ht]; exact iha _ hq ho.1 h
        · rename_i ht; rw [if_neg ht]; exact ihb _ hq ho.2 h
      · exact h
  | block id b ih =>
    intro p e w Q Q' hq ho h
    simp only [vcCode, HOk] at h ho ⊢
    cases hp : H p with
    | some f => rw [hp] at h ho; exact ho.mono _ _ _ _ hq h
    | none =>
      rw [hp] at h ho
      refine ih _ (Q := blockQ id Q) (fun x e w hx => ?_) ho h
      cases x <;> simp only [blockQ] at hx ⊢ <;> try exact hq _ _ _ hx
      rename_i i
      cases hb : Nat.beq i id <;> simp only [hb, cond] at hx ⊢ <;> exact hq _ _ _ hx
  | loop b ih =>
    intro p e w Q Q' hq ho h
    simp only [vcCode, HOk] at h ho ⊢
    cases hp : H p with
    | some f => rw [hp] at h ho; exact ho.mono _ _ _ _ hq h
    | none =>
      rw [hp] at h ho
      simp only [hk] at h ⊢
      intro X hX
      exact h X fun e w hb => hX e w (ih _ (fun x e w hx => by cases x <;> first | exact hx | exact hq _ _ _ hx) ho hb)
  | region id ops d =>
    intro p e w Q Q' hq ho h
    simp only [HOk] at ho
    cases hp : H p with
    | some f => cases d <;> (simp only [vcCode] at h ⊢; rw [hp] at h ho ⊢; exact ho.mono _ _ _ _ hq h)
    | none =>
      cases d
      · simp only [vcCode, hp, hk] at h ⊢
        exact vcOps_monoR LE (Q := Q) (Q' := Q') (fun x e e' w hx r => by subst r; exact hq _ _ _ hx) _ (List.all_eq_true.2 fun _ _ => rfl) _ _ _ rfl h
      · simp only [vcCode, hp, hk] at h ⊢
        cases hn : Region.noSelect ops <;> simp only [hn, cond] at h ⊢
        exact vcDraw_monoR LE (List.all_eq_true.2 fun _ _ => rfl) (Q := Q) (Q' := Q') (fun x e e' w hx r => by subst r; exact hq _ _ _ hx) _ _ _ _ _ _ rfl h
  | _ =>
    intro p e w Q Q' hq ho h
    simp only [vcCode, HOk] at h ho ⊢
    cases hp : H p with
    | some f => rw [hp] at h ho; exact ho.mono _ _ _ _ hq h
    | none => rw [hp] at h; first | exact hq _ _ _ h | exact h.elim

theorem unitHook_mono {N : Nat} {ks : Nat → Bool} {ins : List (Nat × Value)} {outs : Exit → Option (List (Nat × Value))} {F : List Value → World → Conts → Prop}
    (hF : ∀ l w C C', Kinds ins l → (∀ x l w, C x l w → C' x l w) → F l w C → F l w C') : ∀ e w Q Q', (∀ x e w, Q x e w → Q' x e w) → unitHook N ks ins outs F e w Q → unitHook N ks ins outs F e w Q' := by
  intro e w Q Q' hq h
  unfold unitHook at h ⊢
  cases hc : (Nat.beq e.n N && e.ds.isEmpty) <;> simp only [hc, cond] at h ⊢
  have key : ∀ (ins : List (Nat × Value)) (G G' : List Value → Prop), (∀ l, Kinds ins l → G l → G' l) → takeAll e ins G → takeAll e ins G' := by
    intro ins
    induction ins with
    | nil => intro G G' hg h; exact hg [] trivial h
    | cons p r ih =>
      intro G G' hg h
      unfold takeAll at h ⊢
      split at h
      · rename_i v hv
        cases hk : kindOk p.2 v <;> simp only [hk, cond] at h ⊢
        exact ih _ _ (fun l hl hG => hg (v :: l) ⟨hk, hl⟩ hG) h
      · exact h
  refine key _ _ _ (fun l hl hf => hF l w _ _ hl (fun x vs w hx => ?_) hf) h
  split at hx
  · exact hq _ _ _ hx
  · exact hx

theorem unitHook_ok {P : Program} {c : Code} {p N : Nat} {ks : Nat → Bool} {ins : List (Nat × Value)} {outs : Exit → Option (List (Nat × Value))} {F : List Value → World → Conts → Prop}
    (hw : okW (notIn ks) c = true) (hF : ∀ l w C, Kinds ins l → F l w C → vcCode P noH c p ⟨zipE ins l, N, []⟩ w (unitQ outs C)) :
    ∀ e w Q, MonoQ Q → unitHook N ks ins outs F e w Q → vcCode P noH c p e w Q := by
  intro e w Q hm h
  unfold unitHook at h
  cases hc : (Nat.beq e.n N && e.ds.isEmpty) <;> simp only [hc, cond] at h
  simp only [Bool.and_eq_true] at hc
  have hn : e.n = N := Nat.eq_of_beq_eq_true hc.1
  have hd : e.ds = [] := List.isEmpty_iff.1 hc.2
  obtain ⟨l, hs, hf⟩ := takeAll_stand h
  have hv := hF l w _ hs.kinds hf
  refine vcCode_monoR (RefF.lasts ks e) c p hw (fun x e1 e1' w1 hu r => ?_) ⟨hs.ref hn hd, rfl, rfl, fun _ _ _ ht => ht⟩ hv
  unfold unitQ at hu
  split at hu
  · rename_i o ho
    obtain ⟨vs, hvs, hq⟩ := takeAll_stand hu
    simp only [ho] at hq
    refine hm _ _ _ _ hq ⟨r.n, r.ds, fun t v ht => ?_⟩
    rw [find_append] at ht
    split at ht
    · rename_i v' hv'
      injection ht with ht
      subst ht
      exact r.ref.at_ _ _ ((hvs.ref (n := e1.n) (ds := e1.ds) rfl rfl).at_ _ _ hv')
    · obtain ⟨h1, h2⟩ := find_strip ks _ _ _ ht
      exact r.stay t v h1 h2
  · exact hu.elim

/-- A part without a loop at its head. -/
theorem unit_ok {P : Program} {H : Hook} {c : Code} {p N : Nat} {ks : Nat → Bool} {ins : List (Nat × Value)} {outs : Exit → Option (List (Nat × Value))} {F : List Value → World → Conts → Prop}
    (hw : okW (notIn ks) c = true) (hH : HOk P H c p) (hF : ∀ l w C, Kinds ins l → vcCode P H c p ⟨zipE ins l, N, []⟩ w (unitQ outs C) = F l w C) : UnitOk P (unitHook N ks ins outs F) c p where
  sound := unitHook_ok hw fun l w C hk h => by
    rw [← hF l w C hk] at h
    exact vcCode_hook c p MonoQ.unit_ (fun _ _ _ h => h) hH h
  mono := unitHook_mono fun l w C C' hk hc h => by
    rw [← hF _ _ _ hk] at h ⊢
    refine vcCode_hmono c p (fun x e w hx => ?_) hH h
    unfold unitQ at hx ⊢
    split at hx
    · obtain ⟨vs, hs, hC⟩ := takeAll_stand hx
      have : ∀ (o : List (Nat × Value)) (K K' : List Value → Prop), (∀ l, K l → K' l) → takeAll e o K → takeAll e o K' := by
        intro o
        induction o with
        | nil => intro K K' hk h; exact hk _ h
        | cons q o ih =>
          intro K K' hk h
          unfold takeAll at h ⊢
          split at h
          · cases hkk : kindOk q.2 _ <;> simp only [hkk, cond] at h ⊢
            exact ih _ _ (fun l hl => hk _ hl) h
          · exact h
      exact this _ _ _ (fun l hl => hc _ _ _ hl) hx
    · exact hx

/-! ### a loop -/

/-- A loop, told of by B: carr: the slots that a round may turn; fix: those that it reads and leaves. -/
theorem loop_ok {P : Program} {id p N : Nat} {b : Code} {ks : Nat → Bool} {carr fix : List (Nat × Value)} {fv : List Value} {outs : Exit → Option (List (Nat × Value))} {C : Conts} {H : Hook}
    {B : (List Value → World → Prop) → List Value → World → Prop}
    (hw : okW (notIn ks) b = true) (hks : (fix.all fun q => ks q.1) = true)
    (hH : HOk P H b (2 * (2 * p)))
    (hB : ∀ X l w, Kinds carr l → B X l w → vcCode P H b (2 * (2 * p)) ⟨zipE carr l ++ zipE fix fv, N, []⟩ w (seqQ (fun e w => takeAll e carr fun l => X l w) (blockQ id (unitQ outs C))))
    (l0 : List Value) (w : World) (hk : Kinds carr l0) (hL : ∀ X : List Value → World → Prop, (∀ l w, Kinds carr l → B X l w → X l w) → X l0 w) :
    vcCode P noH (.block id (.loop b)) p ⟨zipE carr l0 ++ zipE fix fv, N, []⟩ w (unitQ outs C) := by
  intro X hX
  have key := hL (fun l w => Kinds carr l → ∀ e', Ref e' ⟨zipE carr l ++ zipE fix fv, N, []⟩ → X e' w) (fun l w hkl hb _ e' r => ?_) hk _ (Ref.refl _)
  · exact key
  · refine hX e' w ?_
    have h1 := hB _ l w hkl hb
    have hmq : MonoQ (seqQ (fun e w => takeAll e carr fun l => Kinds carr l → ∀ e', Ref e' ⟨zipE carr l ++ zipE fix fv, N, []⟩ → X e' w) (blockQ id (unitQ outs C))) :=
      seqQ_mono (fun _ _ _ hx r => takeAll_mono r hx) (blockQ_mono MonoQ.unit_)
    have h2 := vcCode_hook (H := H) b _ hmq (fun _ _ _ h => h) hH h1
    refine vcCode_monoR (RefF.lasts ks ⟨zipE carr l ++ zipE fix fv, N, []⟩) b _ hw (fun x e1 e1' w1 hu r1 => ?_) ⟨r, r.n, r.ds, fun t v _ ht => r.at_ t v ht⟩ h2
    cases x <;> simp only [seqQ] at hu ⊢
    case normal =>
      obtain ⟨l', hl', hx⟩ := takeAll_stand hu
      have hst : Ref e1' ⟨zipE carr l', N, []⟩ := ⟨r1.n, r1.ds, fun t v ht => r1.ref.at_ _ _ ((hl'.ref (n := e1.n) (ds := e1.ds) rfl rfl).at_ _ _ ht)⟩
      refine hx hl'.kinds e1' ⟨r1.n, r1.ds, fun t v ht => ?_⟩
      rw [find_append] at ht
      split at ht
      · rename_i v' hv'
        injection ht with ht
        subst ht
        exact hst.at_ _ _ hv'
      · -- a slot of 'fix'
        rename_i hnone
        have hfx : ks t = true := by
          have : ∀ (f : List (Nat × Value)) (u : List Value), (f.all fun q => ks q.1) = true → find (zipE f u) t = some v → ks t = true := by
            intro f
            induction f with
            | nil => intro u _ h; cases u <;> cases h
            | cons q f ih =>
              intro u ha h
              simp only [List.all_cons, Bool.and_eq_true] at ha
              cases u with
              | nil => cases h
              | cons z u =>
                simp only [zipE, find_cons] at h
                split at h
                · rename_i he; rw [← he]; exact ha.1
                · exact ih u ha.2 h
          exact this fix fv hks ht
        refine r1.stay t v hfx ?_
        rw [find_append]
        have hz : find (zipE carr l) t = none := by
          have hsame : ∀ (c : List (Nat × Value)) (u u' : List Value), Kinds c u → Kinds c u' → find (zipE c u') t = none → find (zipE c u) t = none := by
            intro c
            induction c with
            | nil => intro u u' _ _ _; cases u <;> rfl
            | cons q c ih =>
              intro u u' hu hu' h
              cases u with
              | nil => exact hu.elim
              | cons z u =>
                cases u' with
                | nil => exact hu'.elim
                | cons z' u' =>
                  simp only [zipE, find_cons] at h ⊢
                  split at h
                  · cases h
                  · rename_i he; rw [if_neg he]; exact ih u u' hu.2 hu'.2 h
          exact hsame carr l l' hkl hl'.kinds hnone
        rw [hz]
        exact ht
    all_goals exact blockQ_mono MonoQ.unit_ _ _ _ _ hu r1.ref

theorem Kinds.split_ : ∀ {a b : List (Nat × Value)} {l : List Value}, Kinds (a ++ b) l → ∃ l1 l2, l = l1 ++ l2 ∧ Kinds a l1 ∧ Kinds b l2
  | [], _, l, h => ⟨[], l, rfl, trivial, h⟩
  | _ :: a, b, [], h => h.elim
  | _ :: a, b, v :: l, h => by
    obtain ⟨l1, l2, rfl, h1, h2⟩ := Kinds.split_ h.2
    exact ⟨v :: l1, l2, rfl, ⟨h.1, h1⟩, h2⟩
theorem zipE_append : ∀ {a b : List (Nat × Value)} {l u : List Value}, Kinds a l → zipE (a ++ b) (l ++ u) = zipE a l ++ zipE b u
  | [], _, [], _, _ => rfl
  | _ :: _, _, _ :: _, _, h => by simp [zipE, zipE_append h.2]
theorem Kinds.cons_ {q : Nat × Value} {r : List (Nat × Value)} {l : List Value} (h : Kinds (q :: r) l) : ∃ v l', l = v :: l' ∧ kindOk q.2 v = true ∧ Kinds r l' := by
  cases l with
  | nil => exact h.elim
  | cons v l => exact ⟨v, l, rfl, h.1, h.2⟩
theorem Kinds.nil_ {l : List Value} (h : Kinds [] l) : l = [] := by
  cases l with
  | nil => rfl
  | cons v l => exact h.elim

/-- A loop. -/
theorem loop_unit_ok {P : Program} {id p N : Nat} {b : Code} {ks : Nat → Bool} {carr fix : List (Nat × Value)} {outs : Exit → Option (List (Nat × Value))} {H : Hook}
    {B : Conts → (List Value → World → Prop) → List Value → List Value → World → Prop} {F : List Value → World → Conts → Prop}
    (hw : okW (notIn ks) b = true) (hks : (fix.all fun q => ks q.1) = true) (hH : HOk P H b (2 * (2 * p)))
    (hB : ∀ C X l u w, Kinds carr l → Kinds fix u → vcCode P H b (2 * (2 * p)) ⟨zipE carr l ++ zipE fix u, N, []⟩ w (seqQ (fun e w => takeAll e carr fun l => X l w) (blockQ id (unitQ outs C))) = B C X l u w)
    (hF : ∀ l u w C, Kinds carr l → Kinds fix u → (F (l ++ u) w C ↔ ∀ X : List Value → World → Prop, (∀ l w, Kinds carr l → B C X l u w → X l w) → X l w)) :
    UnitOk P (unitHook N ks (carr ++ fix) outs F) (.block id (.loop b)) p where
  sound := unitHook_ok hw fun l w C hk h => by
    obtain ⟨l1, l2, rfl, h1, h2⟩ := Kinds.split_ hk
    rw [zipE_append h1]
    exact loop_ok hw hks hH (B := fun X l w => B C X l l2 w) (fun X l w hl hb => by rw [hB C X l l2 w hl h2]; exact hb) l1 w h1 ((hF l1 l2 w C h1 h2).1 h)
  mono := unitHook_mono fun l w C C' hk hc h => by
    obtain ⟨l1, l2, rfl, h1, h2⟩ := Kinds.split_ hk
    rw [hF _ _ _ _ h1 h2] at h ⊢
    intro X hX
    refine h X fun l w hl hb => hX l w hl ?_
    rw [← hB _ _ _ _ _ hl h2] at hb ⊢
    refine vcCode_hmono b _ (fun x e w hx => ?_) hH hb
    have hu : ∀ x e w, unitQ outs C x e w → unitQ outs C' x e w := fun x e w hx => by
      unfold unitQ at hx ⊢
      split at hx
      · have : ∀ (o : List (Nat × Value)) (K K' : List Value → Prop), (∀ l, K l → K' l) → takeAll e o K → takeAll e o K' := by
          intro o
          induction o with
          | nil => intro K K' hk h; exact hk _ h
          | cons q o ih =>
            intro K K' hk h
            unfold takeAll at h ⊢
            split at h
            · cases hkk : kindOk q.2 _ <;> simp only [hkk, cond] at h ⊢
              exact ih _ _ (fun l hl => hk _ hl) h
            · exact h
        exact this _ _ _ (fun l hl => hc _ _ _ hl) hx
      · exact hx
    cases x <;> simp only [seqQ] at hx ⊢
    case normal => exact hx
    all_goals
      simp only [blockQ] at hx ⊢
      first
        | exact hu _ _ _ hx
        | (rename_i i
           cases hb : Nat.beq i id <;> simp only [hb, cond] at hx ⊢ <;> exact hu _ _ _ hx)

/-! ### the hooks of a function, as a list -/

def hookAt : List (Nat × (Env → World → QT → Prop)) → Hook
  | [], _ => none
  | q :: r, p => cond (Nat.beq q.1 p) (some q.2) (hookAt r p)
def hokO (P : Program) (c : Code) (p : Nat) (h : Option (Env → World → QT → Prop)) (d : List Prop) : List Prop :=
  match h with
  | some h => [UnitOk P h c p]
  | none => d
def hokL (P : Program) (H : Hook) : Code → Nat → List Prop
  | .seq a b, p => hokO P (.seq a b) p (H p) (hokL P H a (2 * p) ++ hokL P H b (2 * p + 1))
  | .cond c a b, p => hokO P (.cond c a b) p (H p) (hokL P H a (2 * p) ++ hokL P H b (2 * p + 1))
  | .block id b, p => hokO P (.block id b) p (H p) (hokL P H b (2 * p))
  | .loop b, p => hokO P (.loop b) p (H p) (hokL P H b (2 * p))
  | c, p => hokO P c p (H p) []
def allP : List Prop → Prop
  | [] => True
  | a :: r => a ∧ allP r
theorem allP_append : ∀ {a b : List Prop}, allP (a ++ b) → allP a ∧ allP b
  | [], _, h => ⟨trivial, h⟩
  | _ :: _, _, h => ⟨⟨h.1, (allP_append h.2).1⟩, (allP_append h.2).2⟩
theorem HOk_of {P : Program} {H : Hook} : ∀ (c : Code) (p : Nat), allP (hokL P H c p) → HOk P H c p := by
  have leaf : ∀ (c : Code) (p : Nat) (d : List Prop) (D : Prop), (allP d → D) → allP (hokO P c p (H p) d) → hOk P c p (H p) D := by
    intro c p d D hd h
    unfold hokO at h
    unfold hOk
    cases hp : H p with
    | some f => rw [hp] at h; exact h.1
    | none => rw [hp] at h; exact hd h
  intro c
  induction c with
  | seq a b iha ihb => intro p h; exact leaf _ _ _ _ (fun hd => ⟨iha _ (allP_append hd).1, ihb _ (allP_append hd).2⟩) h
  | cond c a b iha ihb => intro p h; exact leaf _ _ _ _ (fun hd => ⟨iha _ (allP_append hd).1, ihb _ (allP_append hd).2⟩) h
  | block id b ih => intro p h; exact leaf _ _ _ _ (ih _) h
  | loop b ih => intro p h; exact leaf _ _ _ _ (ih _) h
  | _ => intro p h; exact leaf _ _ _ _ (fun _ => trivial) h

def memN (t : Nat) : List Nat → Bool
  | [] => false
  | d :: r => cond (Nat.beq d t) true (memN t r)
def at_ : Code → List Nat → Code
  | c, [] => c
  | .seq a b, q :: r => cond (Nat.beq q 0) (at_ a r) (at_ b r)
  | .cond _ a b, q :: r => cond (Nat.beq q 0) (at_ a r) (at_ b r)
  | .block _ b, _ :: r => at_ b r
  | .loop b, _ :: r => at_ b r
  | c, _ => c
def bodyOf (f : Func) : Code := f.body.getD .skip

theorem calls_of_text {P : Program} {f : FuncId} {fn : Func} {args : List Value} {w : World} {R : Ending → World → Prop} {H : Hook} (hm : P.follows .mixedOrders = true) (hf : P.funcs[f]? = some fn) (hb : fn.body = some (bodyOf fn))
    (hs : (quietSel (bodyOf fn) && Nat.ble args.length fn.ntmps) = true) (hH : HOk P H (bodyOf fn) 1) (h : vcCode P H (bodyOf fn) 1 ⟨argEnv args 0, fn.ntmps, []⟩ w (finQ P fn.results.toList R)) : Calls P f ⟨args⟩ w R :=
  calls_of_vc hm hf hb hs (vcCode_hook _ _ MonoQ.fin (fun _ _ _ h => h) hH h)

def pInt : Value → Int | .int _ n => n | _ => 0
def pBool : Value → Bool | .bool b => b | _ => false
def pStr : Value → ByteArray | .string s => s | _ => default
def pFlt : Value → Nat | .float _ b => b | _ => 0
def pPtr : Value → Option Addr | .pointer p => p | _ => none
def pAddr : Value → Addr | .pointer (some a) => a | _ => default
def pFn : Value → FuncId | .func (.func g) _ _ => g | _ => 0
def pFi : Value → Array Value | .func _ fi _ => fi | _ => #[]
def pCa : Value → Array Value | .func _ _ ca => ca | _ => #[]
def zc (P : Program) (t : TypeId) : Array Value := ((tmpl P t).getD undef).cells
def pan (R : Ending → World → Prop) : List PanicEntry → World → Prop := fun ch w => R (.panicked ch) w
def ksOf (l : List Nat) : Nat → Bool := fun t => !(memN t l)
def pMap : Value → Option Nat | .map r => r | _ => none
def pA : Value → Option Addr | .slice a _ _ => a | _ => none
def pL : Value → Nat | .slice _ l _ => l | _ => 0
def pC : Value → Nat | .slice _ _ c => c | _ => 0
end Go.Vc
