/-
  A scope whose run jumps back to one label, told of as a loop.
-/
import Derived.Test.YtcpmfjclkdjfmaaGreatVcUnit
import Derived.Scope
namespace Go.Vc
open Go

/-- A jump to l, as a way out of block m. -/
def sub (l m : Nat) : Code → Code
  | .seq a b => .seq (sub l m a) (sub l m b)
  | .cond c a b => .cond c (sub l m a) (sub l m b)
  | .block id b => .block id (sub l m b)
  | .loop b => .loop (sub l m b)
  | .goto l' => cond (Nat.beq l' l) (.exit m) (.goto l')
  | c => c
/-- No block m within. -/
def freshC (m : Nat) : Code → Bool
  | .seq a b => freshC m a && freshC m b
  | .cond _ a b => freshC m a && freshC m b
  | .block id b => !Nat.beq id m && freshC m b
  | .loop b => freshC m b
  | _ => true
def orQ (l m : Nat) (Q : QT) : QT := fun x e w => match x with
  | .goto l' => cond (Nat.beq l' l) (Q (.exit m) e w ∨ Q (.goto l') e w) (Q (.goto l') e w)
  | x => Q x e w
theorem orQ_in {l m : Nat} {Q : QT} {x : Exit} {e : Env} {w : World} (h : Q x e w) : orQ l m Q x e w := by
  cases x <;> simp only [orQ] <;> first | exact h | (cases Nat.beq _ l <;> simp only [cond]; exact h; exact .inr h)
theorem orQ_mono {l m : Nat} {Q Q' : QT} (h : ∀ x e e' w, Q x e w → Ref e' e → Q' x e' w) : ∀ x e e' w, orQ l m Q x e w → Ref e' e → orQ l m Q' x e' w := by
  intro x e e' w hx r
  cases x <;> simp only [orQ] at hx ⊢ <;> try exact h _ _ _ _ hx r
  rename_i l'
  cases hb : Nat.beq l' l <;> simp only [hb, cond] at hx ⊢
  · exact h _ _ _ _ hx r
  · exact hx.imp (fun a => h _ _ _ _ a r) (fun a => h _ _ _ _ a r)

variable {P : Program}
theorem sub_ok {l m : Nat} : ∀ (c : Code) (p p' : Nat) {e : Env} {w : World} {Q : QT}, freshC m c = true → MonoQ Q → vcCode P noH (sub l m c) p e w Q → vcCode P noH c p' e w (orQ l m Q) := by
  intro c
  induction c with
  | skip => intro p p' e w Q _ hm h; exact orQ_in (l := l) (m := m) (x := .normal) h
  | region id ops d =>
    intro p p' e w Q _ hm h
    have h' : vcCode P noH (.region id ops d) p e w Q := h
    cases d
    · exact vcCode_mono (Q := Q) (Q' := orQ l m Q) (.region id ops false) p' (fun x e e' w hx r => orQ_in (hm _ _ _ _ hx r)) (Ref.refl _) h'
    · exact vcCode_mono (Q := Q) (Q' := orQ l m Q) (.region id ops true) p' (fun x e e' w hx r => orQ_in (hm _ _ _ _ hx r)) (Ref.refl _) h'
  | seq a b iha ihb =>
    intro p p' e w Q hf hm h
    simp only [freshC, Bool.and_eq_true] at hf
    have h' : vcCode P noH (sub l m a) (2 * p) e w (seqQ (fun e w => vcCode P noH (sub l m b) (2 * p + 1) e w Q) Q) := h
    have hmq : MonoQ (seqQ (fun e w => vcCode P noH (sub l m b) (2 * p + 1) e w Q) Q) := seqQ_mono (fun _ _ _ hk r => vcCode_mono _ _ hm r hk) hm
    have h1 := iha (2 * p) (2 * p') hf.1 hmq h'
    refine vcCode_mono a (2 * p') (fun x e e' w hx r => ?_) (Ref.refl _) h1
    cases x <;> simp only [orQ, seqQ] at hx ⊢
    case normal => exact ihb _ _ hf.2 hm (vcCode_mono _ _ hm r hx)
    case goto l' =>
      cases hb : Nat.beq l' l <;> simp only [hb, cond] at hx ⊢
      · exact hm _ _ _ _ hx r
      · exact hx.imp (fun a => hm _ _ _ _ a r) (fun a => hm _ _ _ _ a r)
    all_goals exact hm _ _ _ _ hx r
  | cond c a b iha ihb =>
    intro p p' e w Q hf hm h
    simp only [freshC, Bool.and_eq_true] at hf
    simp only [sub, vcCode, hk, noH] at h ⊢
    split at h
    · rename_i t ht
      split at h
      · rename_i htt; rw [if_pos htt]; exact iha _ _ hf.1 hm h
      · rename_i htt; rw [if_neg htt]; exact ihb _ _ hf.2 hm h
    · exact h.elim
  | block id b ih =>
    intro p p' e w Q hf hm h
    simp only [freshC, Bool.and_eq_true, Bool.not_eq_true'] at hf
    have h1 := ih (2 * p) (2 * p') hf.2 (blockQ_mono hm) h
    refine vcCode_mono b (2 * p') (fun x e e' w hx r => ?_) (Ref.refl _) h1
    cases x <;> simp only [orQ, blockQ] at hx ⊢
    case exit i =>
      cases hb : Nat.beq i id <;> simp only [hb, cond] at hx ⊢ <;> exact hm _ _ _ _ hx r
    case goto l' =>
      have hmid : Nat.beq m id = false := by
        cases hb : Nat.beq m id
        · rfl
        · rw [Nat.eq_of_beq_eq_true hb, Nat.beq_refl] at hf; cases hf.1
      cases hb : Nat.beq l' l <;> simp only [hb, hmid, cond] at hx ⊢
      · exact hm _ _ _ _ hx r
      · exact hx.imp (fun a => hm _ _ _ _ a r) (fun a => hm _ _ _ _ a r)
    all_goals exact hm _ _ _ _ hx r
  | loop b ih =>
    intro p p' e w Q hf hm h X hX
    refine h (fun e w => ∀ e', Ref e' e → X e' w) (fun e w hb e' r => hX e' w ?_) e (Ref.refl _)
    have hmq : MonoQ (seqQ (fun e w => ∀ e', Ref e' e → X e' w) Q) := seqQ_mono (fun _ _ _ hx r e'' r' => hx e'' (r'.trans r)) hm
    have h1 := ih (2 * p) (2 * p') hf hmq hb
    refine vcCode_mono b (2 * p') (fun x e e' w hx r => ?_) r h1
    cases x <;> simp only [orQ, seqQ] at hx ⊢
    case normal => exact hx _ r
    case goto l' =>
      cases hb : Nat.beq l' l <;> simp only [hb, cond] at hx ⊢
      · exact hm _ _ _ _ hx r
      · exact hx.imp (fun a => hm _ _ _ _ a r) (fun a => hm _ _ _ _ a r)
    all_goals exact hm _ _ _ _ hx r
  | exit id => intro p p' e w Q _ hm h; exact h
  | goto l' =>
    intro p p' e w Q _ hm h
    simp only [sub] at h
    show orQ l m Q (.goto l') e w
    cases hb : Nat.beq l' l <;> simp only [hb, cond, orQ] at h ⊢
    · exact h
    · exact .inl h
  | ret => intro p p' e w Q _ hm h; exact h
  | _ => intro p p' e w Q _ hm h; exact h.elim

/-! ### a region uses no other ways out than two -/
section
variable {ops : Array Oper} {o : Oper} {e e' : Env} {w : World} {Rl : Env → Env → Prop} {ok : Option Tmp → Bool}
theorem vcOps_npR (L : Lasts Rl ok) {Q Q' : QT} (hn : ∀ e e' w, Q .normal e w → Rl e' e → Q' .normal e' w) (hpq : ∀ c e e' w, Q (.panic c) e w → Rl e' e → Q' (.panic c) e' w) : ∀ (l : List Oper), (l.all fun (o : Oper) => ok o.dst) = true → ∀ (e e' : Env) (w : World), Rl e' e → vcOps P ops l e w Q → vcOps P ops l e' w Q'
  | [], _, _, _, _, r, h => hn _ _ _ h r
  | _ :: rest, ha, _, _, _, r, h => by
    simp only [List.all_cons, Bool.and_eq_true] at ha
    exact vcOper_monoR L ha.1 r (fun _ _ _ hk r' => vcOps_npR L hn hpq rest ha.2 _ _ _ r' hk) (fun _ _ hp => hpq _ _ _ _ hp r) h


theorem vcDraw_npR (L : Lasts Rl ok) (ha : (ops.toList.all fun (o : Oper) => ok o.dst) = true) {Q Q' : QT} (hn : ∀ e e' w, Q .normal e w → Rl e' e → Q' .normal e' w) (hpq : ∀ c e e' w, Q (.panic c) e w → Rl e' e → Q' (.panic c) e' w) : ∀ (fuel : Nat) (listed : Array Bool) (S : Held) (e e' : Env) (w : World), Rl e' e → vcDraw P ops fuel listed S e w Q → vcDraw P ops fuel listed S e' w Q' := by
  have hok : ∀ (i : Nat) (o : Oper), ops[i]? = some o → ok o.dst = true := fun i o ho => List.all_eq_true.1 ha o (Array.mem_toList_iff.2 (Array.mem_of_getElem? ho))
  intro fuel
  induction fuel with
  | zero =>
    intro listed S e e' w r h
    unfold vcDraw at h ⊢
    cases hr : (Region.ready .any ops listed).isEmpty <;> simp only [hr, cond] at h ⊢
    exact hn _ _ _ h r
  | succ fuel ih =>
    intro listed S e e' w r h
    unfold vcDraw at h ⊢
    split at h
    · rename_i i hi
      split at h
      · rename_i o ho
        exact vcTakeG_monoR L (hok _ _ ho) r (fun _ _ _ hk r' => ih _ _ _ _ _ r' hk) h
      · exact h
    · cases hr : (Region.ready .any ops listed).isEmpty <;> simp only [hr, cond] at h ⊢
      · refine forAll_mono (fun i hi => ?_) h
        split at hi
        · rename_i o ho
          exact vcOper_monoR L (hok _ _ ho) r (fun _ _ _ hk r' => ⟨hk.1, ih _ _ _ _ _ r' hk.2⟩) (fun _ _ hp => hpq _ _ _ _ hp r) hi
        · exact hi
      · exact hn _ _ _ h r
end
theorem lasts_eq : Lasts (fun a b => a = b) (fun _ => true) := ⟨fun r => by subst r; exact Ref.refl _, fun _ r _ => by subst r; rfl, fun r _ => by subst r; rfl⟩
/-- The way out number i does not stand in it. -/
def noExit (i : Nat) : Code → Bool
  | .seq a b => noExit i a && noExit i b
  | .cond _ a b => noExit i a && noExit i b
  | .block _ b => noExit i b
  | .loop b => noExit i b
  | .exit j => !Nat.beq j i
  | _ => true
def dropQ (i : Nat) (Q : QT) : QT := fun x e w => match x with
  | .exit j => cond (Nat.beq j i) False (Q (.exit j) e w)
  | x => Q x e w
theorem dropQ_mono {i : Nat} {Q Q' : QT} (h : ∀ x e e' w, Q x e w → Ref e' e → Q' x e' w) : ∀ x e e' w, dropQ i Q x e w → Ref e' e → dropQ i Q' x e' w := by
  intro x e e' w hx r
  cases x <;> simp only [dropQ] at hx ⊢ <;> try exact h _ _ _ _ hx r
  cases hb : Nat.beq _ i <;> simp only [hb, cond] at hx ⊢
  exact h _ _ _ _ hx r
theorem drop_ok {i : Nat} : ∀ (c : Code) (p : Nat) {e : Env} {w : World} {Q : QT}, noExit i c = true → MonoQ Q → vcCode P noH c p e w Q → vcCode P noH c p e w (dropQ i Q) := by
  intro c
  induction c with
  | skip => intro p e w Q _ hm h; exact h
  | region id ops d =>
    intro p e w Q _ hm h
    cases d
    · exact vcOps_npR lasts_eq (Q := Q) (Q' := dropQ i Q) (fun e e' w h r => by subst r; exact h) (fun c e e' w h r => by subst r; exact h) _ (List.all_eq_true.2 fun _ _ => rfl) _ _ _ rfl h
    · simp only [vcCode, hk, noH] at h ⊢
      cases hn : Region.noSelect ops <;> simp only [hn, cond] at h ⊢
      exact vcDraw_npR lasts_eq (List.all_eq_true.2 fun _ _ => rfl) (Q := Q) (Q' := dropQ i Q) (fun e e' w h r => by subst r; exact h) (fun c e e' w h r => by subst r; exact h) _ _ _ _ _ _ rfl h
  | seq a b iha ihb =>
    intro p e w Q hf hm h
    simp only [noExit, Bool.and_eq_true] at hf
    have hmq : MonoQ (seqQ (fun e w => vcCode P noH b (2 * p + 1) e w Q) Q) := seqQ_mono (fun _ _ _ hk r => vcCode_mono _ _ hm r hk) hm
    have h1 := iha (2 * p) hf.1 hmq h
    refine vcCode_mono a (2 * p) (fun x e e' w hx r => ?_) (Ref.refl _) h1
    cases x <;> simp only [dropQ, seqQ] at hx ⊢
    case normal => exact ihb _ hf.2 hm (vcCode_mono _ _ hm r hx)
    case exit j =>
      cases hb : Nat.beq j i <;> simp only [hb, cond] at hx ⊢
      exact hm _ _ _ _ hx r
    all_goals exact hm _ _ _ _ hx r
  | cond c a b iha ihb =>
    intro p e w Q hf hm h
    simp only [noExit, Bool.and_eq_true] at hf
    simp only [vcCode, hk, noH] at h ⊢
    split at h
    · rename_i t ht
      split at h
      · rename_i htt; rw [if_pos htt]; exact iha _ hf.1 hm h
      · rename_i htt; rw [if_neg htt]; exact ihb _ hf.2 hm h
    · exact h.elim
  | block id b ih =>
    intro p e w Q hf hm h
    have h1 := ih (2 * p) hf (blockQ_mono hm) h
    refine vcCode_mono b (2 * p) (fun x e e' w hx r => ?_) (Ref.refl _) h1
    cases x <;> simp only [dropQ, blockQ] at hx ⊢
    case exit j =>
      cases hj : Nat.beq j i <;> simp only [hj, cond] at hx ⊢
      cases hb : Nat.beq j id <;> simp only [hb] at hx ⊢ <;> exact hm _ _ _ _ hx r
    all_goals exact hm _ _ _ _ hx r
  | loop b ih =>
    intro p e w Q hf hm h X hX
    refine h (fun e w => ∀ e', Ref e' e → X e' w) (fun e w hb e' r => hX e' w ?_) e (Ref.refl _)
    have hmq : MonoQ (seqQ (fun e w => ∀ e', Ref e' e → X e' w) Q) := seqQ_mono (fun _ _ _ hx r e'' r' => hx e'' (r'.trans r)) hm
    have h1 := ih (2 * p) hf hmq hb
    refine vcCode_mono b (2 * p) (fun x e e' w hx r => ?_) r h1
    cases x <;> simp only [dropQ, seqQ] at hx ⊢
    case normal => exact hx _ r
    case exit j =>
      cases hb : Nat.beq j i <;> simp only [hb, cond] at hx ⊢
      exact hm _ _ _ _ hx r
    all_goals exact hm _ _ _ _ hx r
  | exit j =>
    intro p e w Q hf hm h
    simp only [noExit, Bool.not_eq_true'] at hf
    show dropQ i Q (.exit j) e w
    simp only [dropQ, hf, cond]
    exact h
  | goto l => intro p e w Q _ hm h; exact h
  | ret => intro p e w Q _ hm h; exact h
  | _ => intro p e w Q _ hm h; exact h.elim

/-! ### the scope -/
def ScopeFrom (P : Program) (c B : Code) (Q : Exit → Act → World → Prop) (a : Act) (w : World) : Prop :=
  ∀ (b : Frame) (k : List Item) (cs : List Frame), ∃ e a' w', Q e a' w' ∧ Arrives P (lone (b.at a (.code (.seq .skip B) :: .inScope c :: k)) cs w) b k cs e a' w'
def scopeQ (P : Program) (c B : Code) (l : Nat) (Q : Exit → Act → World → Prop) : Exit → Act → World → Prop
  | .goto l', a, w => l' = l ∧ ScopeFrom P c B Q a w
  | e, a, w => Q e a w
theorem scope_arrives {c B : Code} {l : Nat} {Q : Exit → Act → World → Prop} (hf : findLabel c l = some (.seq .skip B)) {x : Code} {a : Act} {w : World} (h : x.wp P (scopeQ P c B l Q) a w) (b : Frame) (k : List Item) (cs : List Frame) :
    ∃ e a' w', Q e a' w' ∧ Arrives P (lone (b.at a (.code x :: .inScope c :: k)) cs w) b k cs e a' w' := by
  have hg : gotoIn l (.inScope c :: k) = some (.code (.seq .skip B) :: .inScope c :: k) := by simp [gotoIn, hf]
  obtain ⟨e, a₁, w₁, hq, harr⟩ := h b (.inScope c :: k) cs
  cases e with
  | normal => exact ⟨.normal, a₁, w₁, hq, Steps.trans harr (.one step_inScope)⟩
  | exit id => exact ⟨.exit id, a₁, w₁, hq, fun k' hk => harr k' (by simp [exitTo, hk])⟩
  | goto l' =>
    obtain ⟨rfl, hS⟩ := hq
    obtain ⟨e₂, a₂, w₂, hq₂, harr₂⟩ := hS b k cs
    exact ⟨e₂, a₂, w₂, hq₂, .of_steps (harr _ hg) harr₂⟩
  | ret => exact ⟨_, a₁, w₁, hq, harr⟩
  | panic ch => exact ⟨_, a₁, w₁, hq, harr⟩
  | outgrown => exact ⟨_, a₁, w₁, hq, harr⟩
theorem ScopeFrom.step {c B : Code} {l : Nat} {Q : Exit → Act → World → Prop} (hf : findLabel c l = some (.seq .skip B)) {a : Act} {w : World} (h : B.wp P (scopeQ P c B l Q) a w) : ScopeFrom P c B Q a w :=
  fun b k cs => scope_arrives hf (wp_seq (wp_skip h)) b k cs
theorem wp_scope_from {c B : Code} {l : Nat} {Q : Exit → Act → World → Prop} (hf : findLabel c l = some (.seq .skip B)) {a : Act} {w : World} (h : c.wp P (scopeQ P c B l Q) a w) : (Code.scope c).wp P Q a w := by
  intro b k cs
  obtain ⟨e, a', w', hq, harr⟩ := scope_arrives hf h b k cs
  exact ⟨e, a', w', hq, .of_steps (.one step_scope) harr⟩

/-- What follows the label, as a loop. -/
def lapC (l M N : Nat) (B : Code) : Code := .block N (.loop (.block M (.seq (sub l M B) (.refuse ""))))
theorem lap_sound (hm : P.follows .mixedOrders = true) {c B : Code} {l M N p : Nat} {Q : QT} {Qd : Exit → Act → World → Prop} (hf : findLabel c l = some (.seq .skip B)) (hs : quietSel B = true) (hfr : freshC M B = true) (hM : noExit M B = true) (hN : noExit N B = true)
    (hst : Still Qd) (hmq : MonoQ Q) (hng : ∀ l' e w, ¬ Q (.goto l') e w) (hq : ∀ x e w a, Q x e w → Fr a e → Qd x a w) {e : Env} {w : World} {a : Act} (fr : Fr a e)
    (h : vcCode P noH (lapC l M N B) p e w Q) : B.wp P (scopeQ P c B l Qd) a w := by
  refine h (fun e w => ∀ a, Fr a e → B.wp P (scopeQ P c B l Qd) a w) (fun e w hb a fr' => ?_) a fr
  have hX : ∀ (e e' : Env) (w : World), (∀ a, Fr a e → B.wp P (scopeQ P c B l Qd) a w) → Ref e' e → ∀ a, Fr a e' → B.wp P (scopeQ P c B l Qd) a w := fun e e' w hx r a fr => hx a (fr.ref r)
  have hm1 : MonoQ (seqQ (fun e w => ∀ a, Fr a e → B.wp P (scopeQ P c B l Qd) a w) (blockQ N Q)) := seqQ_mono (fun e e' w hx r => hX e e' w hx r) (blockQ_mono hmq)
  have hm2 : MonoQ (blockQ M (seqQ (fun e w => ∀ a, Fr a e → B.wp P (scopeQ P c B l Qd) a w) (blockQ N Q))) := blockQ_mono hm1
  have hm3 : MonoQ (seqQ (fun e w => vcCode P noH (.refuse "") 0 e w (blockQ M (seqQ (fun e w => ∀ a, Fr a e → B.wp P (scopeQ P c B l Qd) a w) (blockQ N Q)))) (blockQ M (seqQ (fun e w => ∀ a, Fr a e → B.wp P (scopeQ P c B l Qd) a w) (blockQ N Q)))) := seqQ_mono (fun _ _ _ hx _ => hx) hm2
  have h1 := sub_ok B (2 * (2 * (2 * (2 * p)))) 1 hfr hm3 hb
  have h2 := drop_ok (i := M) B 1 hM (orQ_mono hm3) h1
  have h3 := drop_ok (i := N) B 1 hN (dropQ_mono (orQ_mono hm3)) h2
  refine vcCode_sound hm B 1 hs (Qd := scopeQ P c B l Qd) (fun ch a d v w hx => hst ch a d v w hx) (fun x e w a hx fr => ?_) fr' h3
  cases x with
  | normal => exact hx.elim
  | exit j =>
    simp only [dropQ] at hx
    cases hjN : Nat.beq j N <;> simp only [hjN, cond] at hx
    cases hjM : Nat.beq j M <;> simp only [hjM] at hx
    simp only [orQ, seqQ, blockQ, hjM, hjN, cond] at hx
    exact hq _ _ _ _ hx fr
  | goto l' =>
    simp only [dropQ, orQ] at hx
    cases hl : Nat.beq l' l <;> simp only [hl, cond] at hx
    · exact absurd hx (hng l' e w)
    · rcases hx with hx | hx
      · refine ⟨Nat.eq_of_beq_eq_true hl, ScopeFrom.step hf ?_⟩
        simp only [seqQ, blockQ, Nat.beq_refl, cond] at hx
        exact hx a fr
      · exact absurd hx (hng l' e w)
  | ret => exact hq _ _ _ _ hx fr
  | panic ch => exact hq _ _ _ _ hx fr
  | outgrown => exact hq _ _ _ _ hx fr

/-! ### the chain ahead of the label -/
/-- A scope's inside, turned: from the label on it is a loop. -/
def turnT (l M N : Nat) : Code → Code
  | .seq (.label l') b => cond (Nat.beq l' l) (lapC l M N b) (.seq (.label l') b)
  | .seq a b => .seq a (turnT l M N b)
  | c => c
/-- What stands behind the label. -/
def lapOf (l : Nat) : Code → Option Code
  | .seq (.label l') b => cond (Nat.beq l' l) (some b) none
  | .seq _ b => lapOf l b
  | _ => none
theorem chain_sound (hm : P.follows .mixedOrders = true) {c B : Code} {l M N : Nat} {Q : QT} {Qd : Exit → Act → World → Prop} (hf : findLabel c l = some (.seq .skip B)) (hfr : freshC M B = true) (hM : noExit M B = true) (hN : noExit N B = true) (hsB : quietSel B = true)
    (hst : Still Qd) (hmq : MonoQ Q) (hng : ∀ l' e w, ¬ Q (.goto l') e w) (hq : ∀ x e w a, Q x e w → Fr a e → Qd x a w) :
    ∀ (d : Code) (p : Nat), lapOf l d = some B → quietSel d = true → ∀ {e : Env} {w : World} {a : Act}, Fr a e → vcCode P noH (turnT l M N d) p e w Q → d.wp P (scopeQ P c B l Qd) a w := by
  have hst' : Still (scopeQ P c B l Qd) := fun ch a d v w hx => hst ch a d v w hx
  have hq' : ∀ x e w a, Q x e w → Fr a e → scopeQ P c B l Qd x a w := fun x e w a hx fr => by
    cases x <;> first | exact hq _ _ _ _ hx fr | exact absurd hx (hng _ _ _)
  intro d
  induction d with
  | seq x y _ ihy =>
    intro p hl hs e w a fr h
    simp only [quietSel, Bool.and_eq_true] at hs
    have plain : lapOf l y = some B → vcCode P noH (.seq x (turnT l M N y)) p e w Q → (Code.seq x y).wp P (scopeQ P c B l Qd) a w := fun hl h => by
      have hmq' : MonoQ (seqQ (fun e w => vcCode P noH (turnT l M N y) (2 * p + 1) e w Q) Q) := seqQ_mono (fun _ _ _ hk r => vcCode_mono _ _ hmq r hk) hmq
      refine wp_seq (vcCode_sound hm x (2 * p) hs.1 (Q := seqQ (fun e w => vcCode P noH (turnT l M N y) (2 * p + 1) e w Q) Q) hst'.then_ (fun z e w a hz fr' => ?_) fr h)
      cases z <;> first | exact ihy _ hl hs.2 fr' hz | exact hq' _ _ _ _ hz fr'
    cases x with
    | label l' =>
      simp only [lapOf, turnT] at hl h
      cases hb : Nat.beq l' l <;> simp only [hb, cond] at hl h
      · cases hl
      · injection hl with hl
        subst hl
        exact wp_seq (wp_label (lap_sound hm hf hsB hfr hM hN hst hmq hng hq fr h))
    | _ => exact plain hl h
  | _ => intro p hl; cases hl
theorem scope_turned (hm : P.follows .mixedOrders = true) {c B : Code} {l M N p : Nat} {Q : QT} {Qd : Exit → Act → World → Prop} (hf : findLabel c l = some (.seq .skip B)) (hl : lapOf l c = some B) (hs : quietSel c = true) (hsB : quietSel B = true) (hfr : freshC M B = true) (hM : noExit M B = true) (hN : noExit N B = true)
    (hst : Still Qd) (hmq : MonoQ Q) (hng : ∀ l' e w, ¬ Q (.goto l') e w) (hq : ∀ x e w a, Q x e w → Fr a e → Qd x a w) {e : Env} {w : World} {a : Act} (fr : Fr a e) (h : vcCode P noH (turnT l M N c) p e w Q) : (Code.scope c).wp P Qd a w :=
  wp_scope_from hf (chain_sound hm hf hfr hM hN hsB hst hmq hng hq c p hl hs fr h)

/-- A function whose body is 'r; scope c', by its turned text. -/
theorem calls_of_scope {f : FuncId} {fn : Func} {r c B : Code} {l M N : Nat} {args : List Value} {w : World} {R : Ending → World → Prop} {H : Hook} (hm : P.follows .mixedOrders = true) (hf : P.funcs[f]? = some fn) (hb : fn.body = some (.seq r (.scope c)))
    (hfl : findLabel c l = some (.seq .skip B)) (hl : lapOf l c = some B)
    (hs : ((quietSel r && quietSel c && quietSel B) && (freshC M B && noExit M B && noExit N B) && Nat.ble args.length fn.ntmps) = true)
    (hH : HOk P H (.seq r (turnT l M N c)) 1) (hh : vcCode P H (.seq r (turnT l M N c)) 1 ⟨argEnv args 0, fn.ntmps, []⟩ w (finQ P fn.results.toList R)) : Calls P f ⟨args⟩ w R := by
  simp only [Bool.and_eq_true] at hs
  obtain ⟨⟨⟨⟨s1, s2⟩, s3⟩, ⟨⟨s4, s5⟩, s6⟩⟩, s7⟩ := hs
  have hle : args.length ≤ fn.ntmps := Nat.le_of_ble_eq_true s7
  have h := vcCode_hook (Q := finQ P fn.results.toList R) (Q' := finQ P fn.results.toList R) _ _ MonoQ.fin (fun _ _ _ h => h) hH hh
  have hst : Still (bodyPost P fn R) := fun c a d v w hh => by
    obtain ⟨hd, hR⟩ := hh
    refine ⟨?_, hR⟩
    cases d <;> exact hd
  have hq : ∀ x e w a, finQ P fn.results.toList R x e w → Fr a e → bodyPost P fn R x a w := fun x e w a hx fr => by
    have hds : a.defers = e.ds := fr.ds
    cases x <;> simp only [finQ] at hx <;> try exact hx.elim
    all_goals
      cases he : e.ds.isEmpty <;> simp only [he, cond] at hx
      have hnil : a.defers = [] := by rw [hds]; exact List.isEmpty_iff.1 he
      first
        | (obtain ⟨v, hv, hR⟩ := results_run (R := fun v => R (.returned v) w) fr hx; exact ⟨hnil, v, hv, hR⟩)
        | exact ⟨hnil, hx⟩
  have hm2 : MonoQ (seqQ (fun e w => vcCode P noH (turnT l M N c) 3 e w (finQ P fn.results.toList R)) (finQ P fn.results.toList R)) := seqQ_mono (fun _ _ _ hk r => vcCode_mono _ _ MonoQ.fin r hk) MonoQ.fin
  refine calls_of_wp hf hb (wp_seq (vcCode_sound hm r 2 s1 (Q := seqQ (fun e w => vcCode P noH (turnT l M N c) 3 e w (finQ P fn.results.toList R)) (finQ P fn.results.toList R)) hst.then_ (fun z e w a hz fr => ?_) ⟨by simp; omega, rfl, fun t v hv => ?_⟩ h))
  · cases z with
    | normal => exact scope_turned hm hfl hl s2 s3 s4 s5 s6 hst MonoQ.fin (fun _ _ _ hx => hx) hq fr hz
    | exit i => exact hq (.exit i) e w a hz fr
    | goto i => exact hq (.goto i) e w a hz fr
    | ret => exact hq .ret e w a hz fr
    | panic ch => exact hq (.panic ch) e w a hz fr
    | outgrown => exact hq .outgrown e w a hz fr
  · obtain ⟨_, h2⟩ := find_argEnv _ _ _ _ hv
    have hlt : t < args.length := (List.getElem?_eq_some_iff.1 h2).1
    simp only [Nat.sub_zero] at h2
    rw [List.getElem?_eq_getElem hlt] at h2
    injection h2 with h2
    simp [Array.getElem?_append, hlt, h2]
def rOf : Code → Code
  | .seq r _ => r
  | c => c
def cOf : Code → Code
  | .seq _ (.scope c) => c
  | c => c
def turnB (l M N : Nat) (b : Code) : Code := .seq (rOf b) (turnT l M N (cOf b))
end Go.Vc
