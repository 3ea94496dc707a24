/-
  A region that draws its order: what does not write is taken first; what was loaded must stay till nobody can load it later.
-/
import Derived.Test.YtcpmfjclkdjfmaaGreatVcCode
namespace Go.Vc
open Go

/-- Does j wait for i (over at most so many edges)? -/
def anc (md : Region.Mode) (ops : Array Oper) : Nat → Nat → Nat → Bool
  | 0, _, _ => false
  | n + 1, j, i =>
    match ops[j]? with
    | some o => o.after.toList.any fun e => Region.binds md e && (Nat.beq e.on i || anc md ops n e.on i)
    | none => false
abbrev Held := List (Nat × (World → Prop))
def keep (md : Region.Mode) (ops : Array Oper) (j : Nat) : Held → Held
  | [] => []
  | p :: S => cond (anc md ops 3 j p.1) (keep md ops j S) (p :: keep md ops j S)
def allS : Held → World → Prop
  | [], _ => True
  | p :: S, w => p.2 w ∧ allS S w

def Down (md : Region.Mode) (ops : Array Oper) (listed : Array Bool) : Prop :=
  ∀ j o, ops[j]? = some o → listed.getD j false = true → ∀ e ∈ o.after, Region.binds md e = true → listed.getD e.on false = true

section
variable {P : Program} {ops : Array Oper} {Q : Exit → Act → World → Prop} {md : Region.Mode}

theorem anc_listed {listed : Array Bool} (hd : Down md ops listed) : ∀ (n j i : Nat), (∀ o, ops[j]? = some o → ∀ e ∈ o.after, Region.binds md e = true → listed.getD e.on false = true) →
    anc md ops n j i = true → listed.getD i false = true
  | 0, _, _, _, h => by simp [anc] at h
  | n + 1, j, i, hj, h => by
    unfold anc at h
    split at h
    · rename_i o ho
      obtain ⟨e, he, hb⟩ := List.any_eq_true.1 h
      simp only [Bool.and_eq_true, Bool.or_eq_true] at hb
      have hl := hj o ho e (Array.mem_toList_iff.1 he) hb.1
      rcases hb.2 with hb | hb
      · rw [← Nat.eq_of_beq_eq_true hb]; exact hl
      · exact anc_listed hd n e.on i (fun o' ho' e' he' hb' => hd e.on o' ho' hl e' he' hb') hb
    · cases h

theorem Down.start (n : Nat) : Down md ops (Array.replicate n false) := by
  intro j o _ h
  simp only [Array.getD_eq_getD_getElem?] at h
  by_cases hj : j < n
  · simp [hj] at h
  · rw [Array.getElem?_eq_none (by simpa using hj)] at h; cases h

theorem Down.set {listed : Array Bool} (hd : Down md ops listed) {i : Nat} (hr : i ∈ Region.ready md ops listed) : Down md ops (listed.setIfInBounds i true) := by
  intro j o ho hl e he hb
  by_cases hij : i = j
  · subst hij
    obtain ⟨_, o', ho', hall⟩ := mem_ready.1 hr
    rw [ho] at ho'
    injection ho' with ho'
    subst ho'
    exact getD_set_true (hall e he hb)
  · rw [getD_set_ne false hij] at hl
    exact getD_set_true (hd j o ho hl e he hb)

def wpAnyT (P : Program) (md : Region.Mode) (ops : Array Oper) (Q : Exit → Act → World → Prop) : Nat → Array Bool → Held → Act → World → Prop
  | 0, listed, _, a, w => Region.ready md ops listed = [] ∧ Q .normal a w
  | fuel + 1, listed, S, a, w =>
    (Region.ready md ops listed = [] → Q .normal a w) ∧
    ∀ i ∈ Region.ready md ops listed, wpOp P ops Q i (fun a' w' => allS (keep md ops i S) w' ∧ wpAnyT P md ops Q fuel (listed.setIfInBounds i true) (keep md ops i S) a' w') a w

theorem keep_cons (j : Nat) (p : Nat × (World → Prop)) (S : Held) : keep md ops j (p :: S) = cond (anc md ops 3 j p.1) (keep md ops j S) (p :: keep md ops j S) := rfl
theorem keep_sub {S S' : Held} (h : S'.Sublist S) (j : Nat) : (keep md ops j S').Sublist (keep md ops j S) := by
  induction h with
  | slnil => exact .slnil
  | cons p _ ih =>
    rw [keep_cons]
    cases anc md ops 3 j p.1 <;> simp only [cond]
    · exact .cons _ ih
    · exact ih
  | cons_cons p _ ih =>
    rw [keep_cons, keep_cons]
    cases anc md ops 3 j p.1 <;> simp only [cond]
    · exact .cons_cons _ ih
    · exact ih
theorem allS_sub {S S' : Held} (h : S'.Sublist S) {w : World} (ha : allS S w) : allS S' w := by
  induction h with
  | slnil => exact ha
  | cons p _ ih => exact ih ha.2
  | cons_cons p _ ih => exact ⟨ha.1, ih ha.2⟩
theorem wpAnyT_sub : ∀ (fuel : Nat) (listed : Array Bool) {S S' : Held} (a : Act) (w : World), S'.Sublist S → wpAnyT P md ops Q fuel listed S a w → wpAnyT P md ops Q fuel listed S' a w
  | 0, _, _, _, _, _, _, h => h
  | fuel + 1, _, _, _, _, _, hs, h => ⟨h.1, fun i hi => wpOp_mono (fun a' w' h' => ⟨allS_sub (keep_sub hs i) h'.1, wpAnyT_sub fuel _ a' w' (keep_sub hs i) h'.2⟩) (h.2 i hi)⟩

theorem wpAny_of_T : ∀ (fuel : Nat) (listed : Array Bool) (S : Held) (a : Act) (w : World), wpAnyT P md ops Q fuel listed S a w → wpAny P md ops Q fuel listed a w
  | 0, _, _, _, _, h => h
  | fuel + 1, _, _, _, _, h => ⟨h.1, fun i hi => wpOp_mono (fun a' w' h' => wpAny_of_T fuel _ _ a' w' h'.2) (h.2 i hi)⟩

theorem wpAnyT_first {i : Nat} {oi : Oper} {v : Value} {s : World → Prop} (hi : ops[i]? = some oi) (hsel : ∀ (j : Nat) (o : Oper) cs b, ops[j]? = some o → o.op ≠ .select cs b)
    (hQ : ∀ c a w, Q (.panic c) (a.put oi.dst v) w → Q (.panic c) a w) :
    ∀ (fuel : Nat) (listed : Array Bool) (S : Held) (a : Act) (w : World), Down md ops listed →
      (∀ j oj, ops[j]? = some oj → j ≠ i → listed.getD j true = false → (∀ e ∈ oj.after, Region.binds md e = true → e.on ≠ i) → oi.apart ops oj = true) →
      i ∈ Region.ready md ops listed → YieldsIf P ops s oi v a → s w → allS S w →
      wpAnyT P md ops Q fuel (listed.setIfInBounds i true) ((i, s) :: S) (a.put oi.dst v) w → wpAnyT P md ops Q (fuel + 1) listed S a w := by
  have sub : ∀ (j : Nat) (S : Held), (keep md ops j S).Sublist S := by
    intro j S
    induction S with
    | nil => exact .slnil
    | cons p S ih =>
      rw [keep_cons]
      cases anc md ops 3 j p.1 <;> simp only [cond]
      · exact .cons_cons _ ih
      · exact .cons _ ih
  intro fuel
  induction fuel with
  | zero =>
    intro listed S a w hd _ hr hy hS hA H
    refine ⟨fun h => (by rw [h] at hr; cases hr), fun j hj => ?_⟩
    by_cases hji : j = i
    · subst hji
      exact hy.wpOp hi hS ⟨allS_sub (sub _ _) hA, H⟩
    · have := ready_mono hj hji
      rw [H.1] at this
      cases this
  | succ fuel ih =>
    intro listed S a w hd hfree hr hy hS hA H
    refine ⟨fun h => (by rw [h] at hr; cases hr), fun j hj => ?_⟩
    by_cases hji : j = i
    · subst hji; exact hy.wpOp hi hS ⟨allS_sub (sub _ _) hA, wpAnyT_sub _ _ _ _ (.cons _ (sub _ _)) H⟩
    · have h1 := H.2 j (ready_mono hj hji)
      obtain ⟨hjun, oj, hoj, hall⟩ := mem_ready.1 hj
      have hiun := (mem_ready.1 hr).1
      have hinot : listed.getD i false = false := by
        rcases Nat.lt_or_ge i listed.size with h' | h'
        · simpa [h'] using hiun
        · simp [Array.getElem?_eq_none h']
      have hnot : ∀ e ∈ oj.after, Region.binds md e = true → e.on ≠ i := fun e he hb heq => by
        have h1 := hall e he hb
        rw [heq, hinot] at h1
        cases h1
      have hanc : anc md ops 3 j i = false := by
        cases hc : anc md ops 3 j i
        · rfl
        · have := anc_listed hd 3 j i (fun o ho e he hb => by rw [hoj] at ho; injection ho with ho; subst ho; exact hall e he hb) hc
          rw [hinot] at this
          cases this
      have hkeep : keep md ops j ((i, s) :: S) = (i, s) :: keep md ops j S := by
        show cond (anc md ops 3 j i) _ _ = _
        rw [hanc]; rfl
      rw [hkeep] at h1
      have h2 := wpOp_putIf hoj (hfree j oj hoj hji hjun hnot) (fun cs b => hsel i oi cs b hi) (fun cs b => hsel j oj cs b hoj) hQ hy h1
      have hfree' : ∀ k ok, ops[k]? = some ok → k ≠ i → (listed.setIfInBounds j true).getD k true = false →
          (∀ e ∈ ok.after, Region.binds md e = true → e.on ≠ i) → oi.apart ops ok = true := fun k ok hk hki hun hno => by
        refine hfree k ok hk hki ?_ hno
        by_cases hjk : j = k
        · subst hjk; exact hjun
        · rw [getD_set_ne true hjk] at hun; exact hun
      refine wpOp_mono (fun a' w' h3 => ⟨h3.2.1.2, ih (listed.setIfInBounds j true) (keep md ops j S) a' w' (hd.set hj) hfree' (ready_mono hr (Ne.symm hji)) h3.1 h3.2.1.1 h3.2.1.2 ?_⟩) h2
      rw [Array.setIfInBounds_comm _ _ hji]
      exact h3.2.2
theorem wpAnyT_triv (i : Nat) : ∀ (fuel : Nat) (listed : Array Bool) (S : Held) (a : Act) (w : World), wpAnyT P md ops Q fuel listed S a w → wpAnyT P md ops Q fuel listed ((i, fun _ => True) :: S) a w
  | 0, _, _, _, _, h => h
  | fuel + 1, _, S, _, _, h => ⟨h.1, fun j hj => wpOp_mono (fun a' w' h' => by
      rw [keep_cons]
      cases anc md ops 3 j i <;> simp only [cond]
      · exact ⟨⟨trivial, h'.1⟩, wpAnyT_triv i fuel _ _ a' w' h'.2⟩
      · exact h') (h.2 j hj)⟩
end

/-! ### the same as a Prop that the kernel reckons -/

def isLoad (o : Op) : Bool := match o with | .load _ _ => true | _ => false
/-- The first of those that may come up that can be taken first. -/
def pickFirst (P : Program) (ops : Array Oper) (listed : Array Bool) : List Nat → Option Nat
  | [] => none
  | i :: r =>
    match ops[i]? with
    | some o => cond ((isPure P o.op || isLoad o.op) && Region.free .any ops listed i) (some i) (pickFirst P ops listed r)
    | none => pickFirst P ops listed r
def forAll (f : Nat → Prop) : List Nat → Prop
  | [] => True
  | i :: r => match r with | [] => f i | _ => f i ∧ forAll f r

def vcTake (P : Program) (e : Env) (o : Oper) (w : World) (K : Env → Option (World → Prop) → Prop) : Prop :=
  cond (knows e o.op && dstOk e o.dst)
    (cond (isPure P o.op) (vcPure P (evd e) o fun v => K (put e o.dst v) none)
      (match o.op with
       | .load t x => (match evd e x, tmpl P t with | .pointer (some a), some z => cond (ldOk P t z) (mk 4 z fun u => rd w a u ∧ K (put e o.dst u) (some fun w => rd w a u)) False | _, _ => False)
       | _ => False)) False
def vcTakeG (P : Program) (ops : Array Oper) (e : Env) (o : Oper) (w : World) (K : Env → Option (World → Prop) → Prop) : Prop :=
  match o.guard with
  | none => vcTake P e o w K
  | some (j, want) =>
    match (ops[j]?).bind (·.dst) with
    | none => False
    | some t =>
      match find e.l t with
      | some (.bool b) =>
        if b = true then cond want (vcTake P (put e (some t) (.bool true)) o w K) (vcSkip (put e (some t) (.bool true)) o w fun e _ => K e none)
        else cond want (vcSkip (put e (some t) (.bool false)) o w fun e _ => K e none) (vcTake P (put e (some t) (.bool false)) o w K)
      | some (.tuple _) => vcSkip e o w fun e _ => K e none
      | _ => False

def hold (i : Nat) (s : Option (World → Prop)) (S : Held) : Held :=
  match s with
  | some s => (i, s) :: S
  | none => S

def vcDraw (P : Program) (ops : Array Oper) : Nat → Array Bool → Held → Env → World → QT → Prop
  | 0, listed, _, e, w, Q => cond (Region.ready .any ops listed).isEmpty (Q .normal e w) False
  | fuel + 1, listed, S, e, w, Q =>
    match pickFirst P ops listed (Region.ready .any ops listed) with
    | some i =>
      (match ops[i]? with
       | some o => vcTakeG P ops e o w fun e s => vcDraw P ops fuel (listed.setIfInBounds i true) (hold i s S) e w Q
       | none => False)
    | none =>
      cond (Region.ready .any ops listed).isEmpty (Q .normal e w)
        (forAll (fun i => match ops[i]? with
          | some o => vcOper P ops e o w (fun e w => allS (keep .any ops i S) w ∧ vcDraw P ops fuel (listed.setIfInBounds i true) (keep .any ops i S) e w Q) (fun ch w => Q (.panic ch) e w)
          | none => False) (Region.ready .any ops listed))

theorem forAll_mem {f : Nat → Prop} : ∀ {l : List Nat}, forAll f l → ∀ i ∈ l, f i
  | [], _, i, hi => by cases hi
  | [_], h, j, hj => by simp at hj; subst hj; exact h
  | i :: _ :: _, h, j, hj => by
    rcases List.mem_cons.1 hj with e | hj
    · subst e; exact h.1
    · exact forAll_mem h.2 j hj
theorem forAll_mono {f g : Nat → Prop} (hm : ∀ i, f i → g i) : ∀ {l : List Nat}, forAll f l → forAll g l
  | [], _ => trivial
  | [_], h => hm _ h
  | _ :: _ :: _, h => ⟨hm _ h.1, forAll_mono hm h.2⟩

section
variable {P : Program} {ops : Array Oper}

theorem pickFirst_some {listed : Array Bool} : ∀ {l : List Nat} {i : Nat}, pickFirst P ops listed l = some i → i ∈ l ∧ ∃ o, ops[i]? = some o ∧ Region.free .any ops listed i = true
  | [], _, h => by cases h
  | j :: r, _, h => by
    unfold pickFirst at h
    split at h
    · rename_i o ho
      cases hc : ((isPure P o.op || isLoad o.op) && Region.free .any ops listed j) <;> simp only [hc, cond] at h
      · obtain ⟨hm, hx⟩ := pickFirst_some h
        exact ⟨List.mem_cons_of_mem _ hm, hx⟩
      · injection h with h
        subst h
        simp only [Bool.and_eq_true] at hc
        exact ⟨List.mem_cons_self .., o, ho, hc.2⟩
    · obtain ⟨hm, hx⟩ := pickFirst_some h
      exact ⟨List.mem_cons_of_mem _ hm, hx⟩

theorem vcTake_mono {e e' : Env} {o : Oper} {w : World} {K K' : Env → Option (World → Prop) → Prop} (r : Ref e' e) (hm : ∀ e e' s, K e s → Ref e' e → K' e' s) (h : vcTake P e o w K) : vcTake P e' o w K' := by
  unfold vcTake at *
  cases hk : (knows e o.op && dstOk e o.dst) <;> simp only [hk, cond] at h
  simp only [Bool.and_eq_true] at hk
  have hk' : (knows e' o.op && dstOk e' o.dst) = true := by rw [r.knows_ hk.1, r.dstOk_, hk.2]; rfl
  rw [hk']
  simp only [cond]
  have hc : ∀ x ∈ o.op.operands, evd e' x = evd e x := fun x hx => r.evd_ hk.1 hx
  cases hp : isPure P o.op <;> simp only [hp] at h ⊢
  · split at h
    · rename_i t x hop
      have hx : evd e' x = evd e x := hc x (by rw [hop]; simp [Op.operands])
      rw [hx]
      split at h
      · rename_i a z ha hz
        cases hl : ldOk P t z <;> simp only [hl] at h ⊢
        exact mk_mono _ _ _ _ (fun _ hu => ⟨hu.1, hm _ _ _ hu.2 (r.put_ _ _)⟩) h
      · exact h
    · exact h
  · rw [vcPure_congr o hc]
    exact vcPure_mono (fun v hv => hm _ _ _ hv (r.put_ _ _)) h

theorem vcTakeG_mono {e e' : Env} {o : Oper} {w : World} {K K' : Env → Option (World → Prop) → Prop} (r : Ref e' e) (hm : ∀ e e' s, K e s → Ref e' e → K' e' s) (h : vcTakeG P ops e o w K) : vcTakeG P ops e' o w K' := by
  unfold vcTakeG at *
  split at h
  · exact vcTake_mono r hm h
  · rename_i j want hg
    split at h
    · exact h.elim
    · rename_i t ht
      split at h
      · rename_i b hb
        rw [r.at_ _ _ hb]
        simp only
        split at h
        · rename_i hbt
          rw [if_pos hbt]
          cases want <;> simp only [cond] at h ⊢
          · exact vcSkip_mono (r.put_ _ _) (fun _ _ _ hk r' => hm _ _ _ hk r') h
          · exact vcTake_mono (r.put_ _ _) hm h
        · rename_i hbt
          rw [if_neg hbt]
          cases want <;> simp only [cond] at h ⊢
          · exact vcTake_mono (r.put_ _ _) hm h
          · exact vcSkip_mono (r.put_ _ _) (fun _ _ _ hk r' => hm _ _ _ hk r') h
      · rename_i vs hb
        rw [r.at_ _ _ hb]
        exact vcSkip_mono r (fun _ _ _ hk r' => hm _ _ _ hk r') h
      · exact h.elim

theorem vcDraw_mono {Q Q' : QT} (hq : ∀ x e e' w, Q x e w → Ref e' e → Q' x e' w) : ∀ (fuel : Nat) (listed : Array Bool) (S : Held) (e e' : Env) (w : World), Ref e' e → vcDraw P ops fuel listed S e w Q → vcDraw P ops fuel listed S e' w Q' := by
  intro fuel
  induction fuel with
  | zero =>
    intro listed S e e' w r h
    unfold vcDraw at h ⊢
    cases hr : (Region.ready .any ops listed).isEmpty <;> simp only [hr, cond] at h ⊢
    exact hq _ _ _ _ h r
  | succ fuel ih =>
    intro listed S e e' w r h
    unfold vcDraw at h ⊢
    split at h
    · split at h
      · exact vcTakeG_mono r (fun _ _ _ hk r' => ih _ _ _ _ _ r' hk) h
      · exact h
    · cases hr : (Region.ready .any ops listed).isEmpty <;> simp only [hr, cond] at h ⊢
      · refine forAll_mono (fun i hi => ?_) h
        split at hi
        · exact vcOper_mono r (fun _ _ _ hk r' => ⟨hk.1, ih _ _ _ _ _ r' hk.2⟩) (fun _ _ hp => hq _ _ _ _ hp r) hi
        · exact hi
      · exact hq _ _ _ _ h r

def Still (Qd : Exit → Act → World → Prop) : Prop := ∀ c a d v w, Qd (.panic c) (Act.put a d v) w → Qd (.panic c) a w

theorem vcTake_sound {e : Env} {o : Oper} {w : World} {a : Act} {K : Env → Option (World → Prop) → Prop} (fr : Fr a e) (hs : ∀ cs b, o.op ≠ .select cs b) (hw : Region.wanted o (yielded ops a.tmps) = true)
    (h : vcTake P e o w K) : ∃ v e', Fr (a.put o.dst v) e' ∧ ((K e' none ∧ YieldsIf P ops (fun _ => True) o v a) ∨ ∃ s : World → Prop, s w ∧ K e' (some s) ∧ YieldsIf P ops s o v a) := by
  unfold vcTake at h
  cases hk : (knows e o.op && dstOk e o.dst) <;> simp only [hk, cond] at h
  simp only [Bool.and_eq_true] at hk
  have hex : execOp a.eval o = execOp (evd e) o := execOp_congr o hs fun x hx => fr.evd_ hk.1 hx
  cases hp : isPure P o.op <;> simp only [hp] at h
  · split at h
    · rename_i t x hop
      split at h
      · rename_i b z hb hz
        cases hl : ldOk P t z <;> simp only [hl] at h
        obtain ⟨u, hu, hr, hK⟩ := mk_some _ _ _ h
        refine ⟨u, _, fr.put_ hk.2 u, .inr ⟨fun w => rd w b u, hr, hK, .inl ⟨hw, fun w' hr' => ?_⟩⟩⟩
        rw [hex]
        have := run_loadAt (P := P) (w := w') hl hu hr'
        simp [execOp, hop, hb, this]
      · exact h.elim
    · exact h.elim
  · obtain ⟨v, hv, hr⟩ := vcPure_sound h
    exact ⟨v, _, fr.put_ hk.2 v, .inl ⟨hv, .inl ⟨hw, fun w' _ => by rw [hex]; exact hr w'⟩⟩⟩

theorem vcSkipT_sound {e : Env} {o : Oper} {w : World} {a : Act} {K : Env → Option (World → Prop) → Prop} (fr : Fr a e) (hw : Region.wanted o (yielded ops a.tmps) = false)
    (h : vcSkip e o w fun e _ => K e none) : ∃ v e', Fr (a.put o.dst v) e' ∧ ((K e' none ∧ YieldsIf P ops (fun _ => True) o v a) ∨ ∃ s : World → Prop, s w ∧ K e' (some s) ∧ YieldsIf P ops s o v a) := by
  unfold vcSkip at h
  cases hd : dstOk e o.dst <;> simp only [hd, cond] at h
  exact ⟨undef, _, fr.put_ hd _, .inl ⟨h, .inr ⟨hw, rfl⟩⟩⟩

theorem vcTakeG_sound {e : Env} {o : Oper} {w : World} {a : Act} {K : Env → Option (World → Prop) → Prop} (fr : Fr a e) (hs : ∀ cs b, o.op ≠ .select cs b)
    (h : vcTakeG P ops e o w K) : ∃ v e', Fr (a.put o.dst v) e' ∧ ((K e' none ∧ YieldsIf P ops (fun _ => True) o v a) ∨ ∃ s : World → Prop, s w ∧ K e' (some s) ∧ YieldsIf P ops s o v a) := by
  unfold vcTakeG at h
  split at h
  · rename_i hg
    exact vcTake_sound fr hs (by simp [Region.wanted, hg]) h
  · rename_i j want hg
    split at h
    · exact h.elim
    · rename_i t ht
      split at h
      · rename_i b hb
        have hy := yielded_of fr ht hb
        split at h
        · rename_i hbt
          subst hbt
          have fr' : Fr a (put e (some t) (.bool true)) := fr.ref (Ref.know hb)
          cases want <;> simp only [cond] at h
          · exact vcSkipT_sound fr' (by simp [Region.wanted, hg, hy]) h
          · exact vcTake_sound fr' hs (by simp [Region.wanted, hg, hy]) h
        · rename_i hbt
          have hbf : b = false := by simpa using hbt
          subst hbf
          have fr' : Fr a (put e (some t) (.bool false)) := fr.ref (Ref.know hb)
          cases want <;> simp only [cond] at h
          · exact vcTake_sound fr' hs (by simp [Region.wanted, hg, hy]) h
          · exact vcSkipT_sound fr' (by simp [Region.wanted, hg, hy]) h
      · rename_i vs hb
        exact vcSkipT_sound fr (by simp [Region.wanted, hg, yielded_none fr ht hb]) h
      · exact h.elim

theorem vcDraw_sound {Q : QT} {Qd : Exit → Act → World → Prop} (hsel : Region.noSelect ops = true) (hst : Still Qd) (hq : ∀ x e w a, Q x e w → Fr a e → Qd x a w) :
    ∀ (fuel : Nat) (listed : Array Bool) (S : Held) (e : Env) (w : World) (a : Act), Fr a e → Down .any ops listed → allS S w → vcDraw P ops fuel listed S e w Q → wpAnyT P .any ops Qd fuel listed S a w := by
  intro fuel
  induction fuel with
  | zero =>
    intro listed S e w a fr _ _ h
    unfold vcDraw at h
    cases hr : (Region.ready .any ops listed).isEmpty <;> simp only [hr, cond] at h
    exact ⟨List.isEmpty_iff.1 hr, hq _ _ _ _ h fr⟩
  | succ fuel ih =>
    intro listed S e w a fr hd hA h
    unfold vcDraw at h
    split at h
    · rename_i i hi
      obtain ⟨hmem, o, ho, hfree⟩ := pickFirst_some hi
      rw [ho] at h
      simp only at h
      obtain ⟨v, e', fr', hK⟩ := vcTakeG_sound fr (Region.noSelect_spec hsel i o · · ho) h
      have hQ : ∀ c a' w', Qd (.panic c) (a'.put o.dst v) w' → Qd (.panic c) a' w' := fun c a' w' hh => hst c a' o.dst v w' hh
      rcases hK with ⟨hK, hy⟩ | ⟨s, hs, hK, hy⟩
      · exact wpAnyT_first ho (Region.noSelect_spec hsel) hQ fuel listed S a w hd (Region.free_spec ho hfree) hmem hy trivial hA
          (wpAnyT_triv i _ _ _ _ _ (ih _ _ _ _ _ fr' (hd.set hmem) hA hK))
      · exact wpAnyT_first ho (Region.noSelect_spec hsel) hQ fuel listed S a w hd (Region.free_spec ho hfree) hmem hy hs hA
          (ih _ _ _ _ _ fr' (hd.set hmem) ⟨hs, hA⟩ hK)
    · cases hr : (Region.ready .any ops listed).isEmpty <;> simp only [hr, cond] at h
      · refine ⟨fun h0 => (by rw [h0] at hr; cases hr), fun i hi => ?_⟩
        have hf := forAll_mem h i hi
        split at hf
        · rename_i o ho
          unfold wpOp
          simp only [ho]
          have := vcOper_sound (Qd := Qd) (next := fun a' w' => allS (keep .any ops i S) w' ∧ wpAnyT P .any ops Qd fuel (listed.setIfInBounds i true) (keep .any ops i S) a' w') fr (Region.noSelect_spec hsel i o · · ho)
            (fun e' a' w' hk fr' => ⟨hk.1, ih _ _ _ _ _ fr' (hd.set hi) hk.1 hk.2⟩) (fun c w' hx => hq _ _ _ _ hx fr) hf
          split
          · rename_i hw; rw [if_pos hw] at this; exact .inl this
          · rename_i hw; rw [if_neg hw] at this; exact this
        · exact hf.elim
      · have h0 := List.isEmpty_iff.1 hr
        exact ⟨fun _ => hq _ _ _ _ h fr, fun i hi => by rw [h0] at hi; cases hi⟩
end
end Go.Vc
