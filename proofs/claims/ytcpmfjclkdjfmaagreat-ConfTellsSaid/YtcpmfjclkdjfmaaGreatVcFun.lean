/-
  Blocks, loops, whole functions.
-/
import Derived.Test.YtcpmfjclkdjfmaaGreatVcDraw
namespace Go.Vc
open Go

def seqQ (K : Env → World → Prop) (Q : QT) : QT := fun x e w => match x with | .normal => K e w | x => Q x e w
def blockQ (id : Nat) (Q : QT) : QT := fun x e w => match x with | .exit i => cond (Nat.beq i id) (Q .normal e w) (Q (.exit i) e w) | x => Q x e w
abbrev Hook := Nat → Option (Env → World → QT → Prop)
def hk (h : Option (Env → World → QT → Prop)) (d : Env → World → QT → Prop) : Env → World → QT → Prop :=
  match h with
  | some h => h
  | none => d

/-- What code comes to. H: parts that are told of elsewhere, by their place in the tree. -/
def vcCode (P : Program) (H : Hook) : Code → Nat → Env → World → QT → Prop
  | .skip, p => hk (H p) fun e w Q => Q .normal e w
  | .region _ ops false, p => hk (H p) fun e w Q => vcOps P ops ops.toList e w Q
  | .region _ ops true, p => hk (H p) fun e w Q => cond (Region.noSelect ops) (vcDraw P ops ops.size (Array.replicate ops.size false) [] e w.drew Q) False
  | .seq a b, p => hk (H p) fun e w Q => vcCode P H a (2 * p) e w (seqQ (fun e w => vcCode P H b (2 * p + 1) e w Q) Q)
  | .cond c a b, p => hk (H p) fun e w Q => match ev e c with | some (.bool t) => if t = true then vcCode P H a (2 * p) e w Q else vcCode P H b (2 * p + 1) e w Q | _ => False
  | .block id b, p => hk (H p) fun e w Q => vcCode P H b (2 * p) e w (blockQ id Q)
  | .loop b, p => hk (H p) fun e w Q => ∀ X : Env → World → Prop, (∀ e w, vcCode P H b (2 * p) e w (seqQ X Q) → X e w) → X e w
  | .exit id, p => hk (H p) fun e w Q => Q (.exit id) e w
  | .goto l, p => hk (H p) fun e w Q => Q (.goto l) e w
  | .ret, p => hk (H p) fun e w Q => Q .ret e w
  | _, p => hk (H p) fun _ _ _ => False

def noH : Hook := fun _ => none

section
variable {P : Program}

theorem seqQ_mono {K K' : Env → World → Prop} {Q Q' : QT} (hk : ∀ e e' w, K e w → Ref e' e → K' e' w) (hq : ∀ x e e' w, Q x e w → Ref e' e → Q' x e' w) : ∀ x e e' w, seqQ K Q x e w → Ref e' e → seqQ K' Q' x e' w := by
  intro x e e' w h r
  cases x <;> first | exact hk _ _ _ h r | exact hq _ _ _ _ h r
theorem blockQ_mono {id : Nat} {Q Q' : QT} (hq : ∀ x e e' w, Q x e w → Ref e' e → Q' x e' w) : ∀ x e e' w, blockQ id Q x e w → Ref e' e → blockQ id Q' x e' w := by
  intro x e e' w h r
  cases x <;> simp only [blockQ] at h ⊢ <;> try exact hq _ _ _ _ h r
  rename_i i
  cases hb : Nat.beq i id <;> simp only [hb, cond] at h ⊢ <;> exact hq _ _ _ _ h r

theorem vcCode_mono : ∀ (c : Code) (p : Nat) {e e' : Env} {w : World} {Q Q' : QT}, (∀ x e e' w, Q x e w → Ref e' e → Q' x e' w) → Ref e' e → vcCode P noH c p e w Q → vcCode P noH c p e' w Q' := by
  intro c
  induction c with
  | skip => intro p e e' w Q Q' hq r h; exact hq _ _ _ _ h r
  | region id ops d =>
    intro p e e' w Q Q' hq r h
    cases d
    · exact vcOps_mono hq _ _ _ _ r h
    · simp only [vcCode, hk, noH] at h ⊢
      cases hn : Region.noSelect ops <;> simp only [hn, cond] at h ⊢
      exact vcDraw_mono hq _ _ _ _ _ _ r h
  | seq a b iha ihb =>
    intro p e e' w Q Q' hq r h
    exact iha _ (seqQ_mono (fun _ _ _ hk r' => ihb _ hq r' hk) hq) r h
  | cond c a b iha ihb =>
    intro p e e' w Q Q' hq r h
    simp only [vcCode, hk, noH] at h ⊢
    split at h
    · rename_i t ht
      rw [r.ev_ ht]
      simp only
      split at h
      · rename_i hb; rw [if_pos hb]; exact iha _ hq r h
      · rename_i hb; rw [if_neg hb]; exact ihb _ hq r h
    · exact h.elim
  | block id b ih =>
    intro p e e' w Q Q' hq r h
    exact ih _ (blockQ_mono hq) r h
  | loop b ih =>
    intro p e e' w Q Q' hq r h
    intro X' hX'
    have key := h (fun e w => ∀ e', Ref e' e → X' e' w) (fun e w hb e' r' => hX' e' w (ih _ (seqQ_mono (fun e e' w hx r' => hx e' r') hq) r' hb))
    exact key e' r
  | exit id => intro p e e' w Q Q' hq r h; exact hq _ _ _ _ h r
  | goto l => intro p e e' w Q Q' hq r h; exact hq _ _ _ _ h r
  | ret => intro p e e' w Q Q' hq r h; exact hq _ _ _ _ h r
  | _ => intro p e e' w Q Q' hq r h; exact h.elim

/-! ### sound for the model -/

def LoopFrom (P : Program) (body : Code) (Q : Exit → Act → World → Prop) (a : Act) (w : World) : Prop :=
  ∀ (b : Frame) (k : List Item) (cs : List Frame), ∃ e a' w', Q e a' w' ∧ Arrives P (lone (b.at a (.code body :: .inLoop body :: k)) cs w) b k cs e a' w'

theorem wp_of_LoopFrom {body : Code} {Q : Exit → Act → World → Prop} {a : Act} {w : World} (h : LoopFrom P body Q a w) : (Code.loop body).wp P Q a w := by
  intro b k cs
  obtain ⟨e, a', w', hq, harr⟩ := h b k cs
  exact ⟨e, a', w', hq, .of_steps (.one step_loop) harr⟩
theorem LoopFrom.step {body : Code} {Q : Exit → Act → World → Prop} {a : Act} {w : World} (h : body.wp P (Exit.then (LoopFrom P body Q) Q) a w) : LoopFrom P body Q a w := by
  intro b k cs
  obtain ⟨e, a₁, w₁, hq, harr⟩ := h b (.inLoop body :: k) cs
  cases e with
  | normal =>
    obtain ⟨e₂, a₂, w₂, hq₂, harr₂⟩ := hq b k cs
    exact ⟨e₂, a₂, w₂, hq₂, .of_steps (Steps.trans harr (.one step_inLoop)) harr₂⟩
  | exit id => exact ⟨_, a₁, w₁, hq, .pass (x := .inLoop body) rfl (fun _ _ => .inl (by simp)) harr⟩
  | goto l => exact ⟨_, a₁, w₁, hq, .pass (x := .inLoop body) rfl (fun _ _ => .inl (by simp)) harr⟩
  | ret => exact ⟨_, a₁, w₁, hq, .pass (x := .inLoop body) rfl (fun _ _ => .inl (by simp)) harr⟩
  | panic ch => exact ⟨_, a₁, w₁, hq, .pass (x := .inLoop body) rfl (fun _ _ => .inl (by simp)) harr⟩
  | outgrown => exact ⟨_, a₁, w₁, hq, .pass (x := .inLoop body) rfl (fun _ _ => .inl (by simp)) harr⟩

theorem wpList_of_vcOps {ops : Array Oper} {Q : QT} {Qd : Exit → Act → World → Prop} (hsel : ∀ o ∈ ops, ∀ cs b, o.op ≠ .select cs b) (hq : ∀ x e w a, Q x e w → Fr a e → Qd x a w) :
    ∀ (l : List Oper), (∀ o ∈ l, o ∈ ops) → ∀ (e : Env) (w : World) (a : Act), Fr a e → vcOps P ops l e w Q → wpList P ops Qd l a w
  | [], _, _, _, _, fr, h => hq _ _ _ _ h fr
  | o :: rest, hm, e, w, a, fr, h => by
    have := vcOper_sound (Qd := Qd) (next := wpList P ops Qd rest) fr (hsel o (hm o (List.mem_cons_self ..)))
      (fun e' a' w' hk fr' => wpList_of_vcOps hsel hq rest (fun o ho => hm o (List.mem_cons_of_mem _ ho)) e' w' a' fr' hk) (fun c w' hx => hq _ _ _ _ hx fr) h
    unfold wpList
    split
    · rename_i hw; rw [if_pos hw] at this; exact .inl this
    · rename_i hw; rw [if_neg hw] at this; exact this

theorem Still.then_ {K : Act → World → Prop} {Q : Exit → Act → World → Prop} (h : Still Q) : Still (Exit.then K Q) := h
theorem Still.inBlock_ {id : Nat} {Q : Exit → Act → World → Prop} (h : Still Q) : Still (Exit.inBlock id Q) := h

/-- No region of it selects. -/
def quietSel : Code → Bool
  | .region _ ops _ => ops.toList.all fun o => match o.op with | .select _ _ => false | _ => true
  | .seq a b => quietSel a && quietSel b
  | .cond _ a b => quietSel a && quietSel b
  | .block _ b => quietSel b
  | .loop b => quietSel b
  | _ => true

theorem vcCode_sound (hm : P.follows .mixedOrders = true) : ∀ (c : Code) (p : Nat), quietSel c = true → ∀ {e : Env} {w : World} {a : Act} {Q : QT} {Qd : Exit → Act → World → Prop}, Still Qd → (∀ x e w a, Q x e w → Fr a e → Qd x a w) → Fr a e →
    vcCode P noH c p e w Q → c.wp P Qd a w := by
  intro c
  induction c with
  | skip => intro p _ e w a Q Qd hst hq fr h; exact wp_skip (hq _ _ _ _ h fr)
  | region id ops d =>
    intro p hs e w a Q Qd hst hq fr h
    have hsel : ∀ o ∈ ops, ∀ cs b, o.op ≠ .select cs b := fun o ho cs b heq => by
      have := List.all_eq_true.1 hs o (Array.mem_toList_iff.2 ho)
      rw [heq] at this
      cases this
    cases d
    · exact wp_region_list (wpList_of_vcOps hsel hq ops.toList (fun o ho => Array.mem_toList_iff.1 ho) e w a fr h)
    · simp only [vcCode, hk, noH] at h
      cases hn : Region.noSelect ops <;> simp only [hn, cond] at h
      exact wp_region_any hm (wpAny_of_T _ _ _ _ _ (vcDraw_sound hn hst hq _ _ [] _ _ _ fr (Down.start _) trivial h))
  | seq x y ihx ihy =>
    intro p hs e w a Q Qd hst hq fr h
    simp only [quietSel, Bool.and_eq_true] at hs
    refine wp_seq (ihx _ hs.1 (Q := seqQ (fun e w => vcCode P noH y (2 * p + 1) e w Q) Q) hst.then_ (fun z e w a hz fr' => ?_) fr h)
    cases z <;> first | exact ihy _ hs.2 hst hq fr' hz | exact hq _ _ _ _ hz fr'
  | cond c x y ihx ihy =>
    intro p hs e w a Q Qd hst hq fr h
    simp only [quietSel, Bool.and_eq_true] at hs
    simp only [vcCode, hk, noH] at h
    split at h
    · rename_i t ht
      refine wp_cond_split (fr.ev_ ht) (fun ht' => ?_) (fun ht' => ?_)
      · rw [if_pos ht'] at h; exact ihx _ hs.1 hst hq fr h
      · rw [if_neg (by simp [ht'])] at h; exact ihy _ hs.2 hst hq fr h
    · exact h.elim
  | block id b ih =>
    intro p hs e w a Q Qd hst hq fr h
    refine wp_block (ih _ hs (Q := blockQ id Q) hst.inBlock_ (fun z e w a hz fr' => ?_) fr h)
    cases z <;> simp only [blockQ, Exit.inBlock] at hz ⊢ <;> try exact hq _ _ _ _ hz fr'
    rename_i i
    cases hb : Nat.beq i id <;> simp only [hb, cond] at hz
    · rw [if_neg (fun e => by subst e; rw [Nat.beq_refl] at hb; cases hb)]
      exact hq _ _ _ _ hz fr'
    · rw [if_pos (Nat.eq_of_beq_eq_true hb)]
      exact hq _ _ _ _ hz fr'
  | loop b ih =>
    intro p hs e w a Q Qd hst hq fr h
    refine wp_of_LoopFrom (h (fun e w => ∀ a, Fr a e → LoopFrom P b Qd a w) (fun e w hb a fr' => LoopFrom.step (ih _ hs (Q := seqQ _ Q) hst.then_ (fun z e w a hz fr' => ?_) fr' hb)) a fr)
    cases z <;> first | exact hz _ fr' | exact hq _ _ _ _ hz fr'
  | exit id => intro p _ e w a Q Qd hst hq fr h; exact wp_exit (hq _ _ _ _ h fr)
  | goto l => intro p _ e w a Q Qd hst hq fr h; exact wp_goto (hq _ _ _ _ h fr)
  | ret => intro p _ e w a Q Qd hst hq fr h; exact wp_ret (hq _ _ _ _ h fr)
  | _ => intro p _ e w a Q Qd hst hq fr h; exact h.elim

/-! ### parts told of elsewhere -/

def MonoQ (Q : QT) : Prop := ∀ x e e' w, Q x e w → Ref e' e → Q x e' w
structure UnitOk (P : Program) (h : Env → World → QT → Prop) (c : Code) (p : Nat) : Prop where
  sound : ∀ e w Q, MonoQ Q → h e w Q → vcCode P noH c p e w Q
  mono : ∀ e w Q Q', (∀ x e w, Q x e w → Q' x e w) → h e w Q → h e w Q'
def hOk (P : Program) (c : Code) (p : Nat) (h : Option (Env → World → QT → Prop)) (d : Prop) : Prop :=
  match h with
  | some h => UnitOk P h c p
  | none => d
/-- Each part that H tells of is told of rightly. -/
def HOk (P : Program) (H : Hook) : Code → Nat → Prop
  | .seq a b, p => hOk P (.seq a b) p (H p) (HOk P H a (2 * p) ∧ HOk P H b (2 * p + 1))
  | .cond c a b, p => hOk P (.cond c a b) p (H p) (HOk P H a (2 * p) ∧ HOk P H b (2 * p + 1))
  | .block id b, p => hOk P (.block id b) p (H p) (HOk P H b (2 * p))
  | .loop b, p => hOk P (.loop b) p (H p) (HOk P H b (2 * p))
  | c, p => hOk P c p (H p) True

theorem MonoQ.seq_ {p : Nat} {c : Code} {Q : QT} (h : MonoQ Q) : MonoQ (seqQ (fun e w => vcCode P noH c p e w Q) Q) :=
  seqQ_mono (fun _ _ _ hk r => vcCode_mono _ _ h r hk) h
theorem MonoQ.block_ {id : Nat} {Q : QT} (h : MonoQ Q) : MonoQ (blockQ id Q) := blockQ_mono h

theorem hk_some {h : Env → World → QT → Prop} {o : Option (Env → World → QT → Prop)} (ho : o = some h) (d : Env → World → QT → Prop) : hk o d = h := by rw [ho]; rfl
theorem hk_none {o : Option (Env → World → QT → Prop)} (ho : o = none) (d : Env → World → QT → Prop) : hk o d = d := by rw [ho]; rfl

theorem vcCode_hook {H : Hook} : ∀ (c : Code) (p : Nat) {e : Env} {w : World} {Q Q' : QT}, MonoQ Q' → (∀ x e w, Q x e w → Q' x e w) → HOk P H c p →
    vcCode P H c p e w Q → vcCode P noH c p e w Q' := by
  intro c
  induction c with
  | seq a b iha ihb =>
    intro p e w Q Q' hm hq ho h
    simp only [vcCode, HOk] at h ho
    cases hp : H p with
    | some f => rw [hp] at h ho; exact ho.sound _ _ _ hm (ho.mono _ _ _ _ hq h)
    | none =>
      rw [hp] at h ho
      refine iha (2 * p) (Q := seqQ (fun e w => vcCode P H b (2 * p + 1) e w Q) Q) hm.seq_ (fun x e w hx => ?_) ho.1 h
      cases x <;> first | exact ihb (2 * p + 1) hm hq ho.2 hx | exact hq _ _ _ hx
  | cond c a b iha ihb =>
    intro p e w Q Q' hm hq ho h
    simp only [vcCode, HOk] at h ho
    cases hp : H p with
    | some f => rw [hp] at h ho; exact ho.sound _ _ _ hm (ho.mono _ _ _ _ hq h)
    | none =>
      rw [hp] at h ho
      simp only [hk] at h
      simp only [vcCode, hk, noH]
      split at h
      · split at h
        · rename_i ht; rw [if_pos ht]; exact iha (2 * p) hm hq ho.1 h
        · rename_i ht; rw [if_neg ht]; exact ihb (2 * p + 1) hm hq ho.2 h
      · exact h
  | block id b ih =>
    intro p e w Q Q' hm hq ho h
    simp only [vcCode, HOk] at h ho
    cases hp : H p with
    | some f => rw [hp] at h ho; exact ho.sound _ _ _ hm (ho.mono _ _ _ _ hq h)
    | none =>
      rw [hp] at h ho
      refine ih (2 * p) (Q := blockQ id Q) hm.block_ (fun x e w hx => ?_) ho h
      cases x <;> simp only [blockQ] at hx ⊢ <;> try exact hq _ _ _ hx
      rename_i i
      cases hb : Nat.beq i id <;> simp only [hb, cond] at hx ⊢ <;> exact hq _ _ _ hx
  | loop b ih =>
    intro p e w Q Q' hm hq ho h
    simp only [vcCode, HOk] at h ho
    cases hp : H p with
    | some f => rw [hp] at h ho; exact ho.sound _ _ _ hm (ho.mono _ _ _ _ hq h)
    | none =>
      rw [hp] at h ho
      simp only [hk] at h
      intro X hX
      -- up to what is known beside
      have key := h (fun e w => ∀ e', Ref e' e → X e' w) (fun e w hb e' r => hX e' w ?_)
      · exact key e (Ref.refl _)
      · have hm2 : MonoQ (seqQ (fun e w => ∀ e', Ref e' e → X e' w) Q') := seqQ_mono (fun _ _ _ hx r' => fun e'' r'' => hx e'' (r''.trans r')) hm
        have h1 := ih (2 * p) (Q := seqQ (fun e w => ∀ e', Ref e' e → X e' w) Q) (Q' := seqQ (fun e w => ∀ e', Ref e' e → X e' w) Q') hm2 (fun x e w hx => by cases x <;> first | exact hx | exact hq _ _ _ hx) ho hb
        exact vcCode_mono _ _ (seqQ_mono (fun _ e' _ hx r' => hx e' r') hm) r h1
  | skip =>
    intro p e w Q Q' hm hq ho h
    simp only [vcCode, HOk] at h ho
    cases hp : H p with
    | some f => rw [hp] at h ho; exact ho.sound _ _ _ hm (ho.mono _ _ _ _ hq h)
    | none => rw [hp] at h; exact hq _ _ _ h
  | exit id =>
    intro p e w Q Q' hm hq ho h
    simp only [vcCode, HOk] at h ho
    cases hp : H p with
    | some f => rw [hp] at h ho; exact ho.sound _ _ _ hm (ho.mono _ _ _ _ hq h)
    | none => rw [hp] at h; exact hq _ _ _ h
  | goto l =>
    intro p e w Q Q' hm hq ho h
    simp only [vcCode, HOk] at h ho
    cases hp : H p with
    | some f => rw [hp] at h ho; exact ho.sound _ _ _ hm (ho.mono _ _ _ _ hq h)
    | none => rw [hp] at h; exact hq _ _ _ h
  | ret =>
    intro p e w Q Q' hm hq ho h
    simp only [vcCode, HOk] at h ho
    cases hp : H p with
    | some f => rw [hp] at h ho; exact ho.sound _ _ _ hm (ho.mono _ _ _ _ hq h)
    | none => rw [hp] at h; exact hq _ _ _ h
  | region id ops d =>
    intro p e w Q Q' hm hq ho h
    simp only [HOk] at ho
    cases hp : H p with
    | some f => cases d <;> (simp only [vcCode] at h; rw [hp] at h ho; exact ho.sound _ _ _ hm (ho.mono _ _ _ _ hq h))
    | none =>
      cases d
      · simp only [vcCode, hp, hk] at h
        exact vcOps_mono (Q := Q) (Q' := Q') (fun x e e' w hx r => hm x _ _ w (hq _ _ _ hx) r) _ _ _ _ (Ref.refl _) h
      · simp only [vcCode, hp, hk, noH] at h ⊢
        cases hn : Region.noSelect ops <;> simp only [hn, cond] at h ⊢
        exact vcDraw_mono (Q := Q) (Q' := Q') (fun x e e' w hx r => hm x _ _ w (hq _ _ _ hx) r) _ _ _ _ _ _ (Ref.refl _) h
  | _ =>
    intro p e w Q Q' hm hq ho h
    simp only [vcCode, HOk] at h ho
    cases hp : H p with
    | some f => rw [hp] at h ho; exact ho.sound _ _ _ hm (ho.mono _ _ _ _ hq h)
    | none => rw [hp] at h; exact h.elim

/-! ### functions -/

def argEnv : List Value → Nat → List (Nat × Value)
  | [], _ => []
  | v :: r, i => (i, v) :: argEnv r (i + 1)
def resL (P : Program) (e : Env) (w : World) : List ResultVar → (List Value → Prop) → Prop
  | [], K => K []
  | .tmp t :: r, K => (match find e.l t with | some v => resL P e w r fun l => K (v :: l) | none => False)
  | .cell t ty :: r, K => (match find e.l t, tmpl P ty with | some (.pointer (some a)), some z => cond (ldOk P ty z) (mk 4 z fun u => rd w a u ∧ resL P e w r fun l => K (u :: l)) False | _, _ => False)
def oneOf : List Value → Value
  | [v] => v
  | l => .tuple ⟨l⟩
def finQ (P : Program) (rs : List ResultVar) (R : Ending → World → Prop) : QT := fun x e w =>
  match x with
  | .normal => cond e.ds.isEmpty (resL P e w rs fun l => R (.returned (oneOf l)) w) False
  | .ret => cond e.ds.isEmpty (resL P e w rs fun l => R (.returned (oneOf l)) w) False
  | .panic ch => cond e.ds.isEmpty (R (.panicked ch) w) False
  | _ => False

theorem find_argEnv : ∀ (l : List Value) (i t : Nat) (v : Value), find (argEnv l i) t = some v → i ≤ t ∧ l[t - i]? = some v
  | [], _, _, _, h => by cases h
  | u :: r, i, t, v, h => by
    simp only [argEnv, find_cons] at h
    split at h
    · rename_i e; subst e; exact ⟨Nat.le_refl _, by simpa using h⟩
    · rename_i hne
      obtain ⟨h1, h2⟩ := find_argEnv r (i + 1) t v h
      refine ⟨by omega, ?_⟩
      rw [show t - i = (t - (i + 1)) + 1 from by omega]
      simpa using h2

theorem resL_mono {e e' : Env} (r : Ref e' e) {w : World} : ∀ (l : List ResultVar) {K : List Value → Prop}, resL P e w l K → resL P e' w l K
  | [], _, h => h
  | .tmp t :: l, K, h => by
    unfold resL at h ⊢
    split at h
    · rename_i v hv; rw [r.at_ _ _ hv]; exact resL_mono r l h
    · exact h.elim
  | .cell t ty :: l, K, h => by
    unfold resL at h ⊢
    split at h
    · rename_i a z hv hz
      rw [r.at_ _ _ hv, hz]
      cases hl : ldOk P ty z <;> simp only [hl, cond] at h ⊢
      exact mk_mono _ _ _ _ (fun _ hu => ⟨hu.1, resL_mono r l hu.2⟩) h
    · exact h.elim

theorem MonoQ.fin {rs : List ResultVar} {R : Ending → World → Prop} : MonoQ (finQ P rs R) := by
  intro x e e' w h r
  have hd : e'.ds.isEmpty = e.ds.isEmpty := by rw [r.ds]
  cases x <;> simp only [finQ] at h ⊢ <;> try exact h
  all_goals
    rw [hd]
    cases he : e.ds.isEmpty <;> simp only [he, cond] at h ⊢
    first | exact resL_mono r _ h | exact h

/-- One result. -/
def resOne (a : Act) : ResultVar → Sem Value
  | .tmp t => pure (a.tmps.getD t undef)
  | .cell b t => do loadVar t (← asAddr (a.tmps.getD b undef))
theorem resL_run {e : Env} {a : Act} (fr : Fr a e) {w : World} : ∀ (l : List ResultVar) {K : List Value → Prop}, resL P e w l K →
    ∃ vs, K vs ∧ (l.mapM (resOne a)).run P w = .ok vs w
  | [], K, h => ⟨[], h, rfl⟩
  | .tmp t :: l, K, h => by
    unfold resL at h
    split at h
    · rename_i v hv
      obtain ⟨vs, hK, hr⟩ := resL_run fr l h
      have hg : a.tmps.getD t undef = v := by simp [fr.at_ _ _ hv]
      have h1 : (resOne a (.tmp t)).run P w = .ok v w := by simp only [resOne, hg, Sem.run_pure]
      exact ⟨_, hK, by simp only [List.mapM_cons, Sem.run_bind, Sem.run_pure, h1, Result.andThen_ok, hr]⟩
    · exact h.elim
  | .cell t ty :: l, K, h => by
    unfold resL at h
    split at h
    · rename_i b z hv hz
      cases hl : ldOk P ty z <;> simp only [hl, cond] at h
      obtain ⟨u, hu, hrd, h⟩ := mk_some _ _ _ h
      obtain ⟨vs, hK, hr⟩ := resL_run fr l h
      have hg : a.tmps.getD t undef = .pointer (some b) := by simp [fr.at_ _ _ hv]
      have hld := run_loadAt (P := P) hl hu hrd
      simp only [Instr.loadAt, Instr.sureAddr, Sem.run_bind, Sem.run_pure, Result.andThen_ok] at hld
      have h1 : (resOne a (.cell t ty)).run P w = .ok u w := by simp only [resOne, hg, asAddr, Sem.run_bind, Sem.run_pure, Result.andThen_ok, hld]
      exact ⟨_, hK, by simp only [List.mapM_cons, Sem.run_bind, Sem.run_pure, h1, Result.andThen_ok, hr]⟩
    · exact h.elim

theorem results_run {fn : Func} {e : Env} {a : Act} (fr : Fr a e) {w : World} {R : Value → Prop} (h : resL P e w fn.results.toList fun l => R (oneOf l)) : ∃ v, (results fn a.tmps).run P w = .ok v w ∧ R v := by
  obtain ⟨vs, hK, hr⟩ := resL_run fr _ h
  refine ⟨_, ?_, hK⟩
  have hm : (fn.results.mapM (resOne a)).run P w = .ok vs.toArray w := by
    have : fn.results = fn.results.toList.toArray := by simp
    rw [this, List.mapM_toArray]
    simp only [Sem.run_map, hr, Result.andThen_ok]
  have e1 : results fn a.tmps = (do let vs ← fn.results.mapM (resOne a); pure (if h : vs.size = 1 then vs[0] else .tuple vs)) := by
    unfold results
    congr 2
  rw [e1]
  simp only [Sem.run_bind, hm, Result.andThen_ok, Sem.run_pure]
  match vs with
  | [] => rfl
  | [v] => rfl
  | _ :: _ :: _ => simp [oneOf]

theorem calls_of_vc {f : FuncId} {fn : Func} {c : Code} {args : List Value} {w : World} {R : Ending → World → Prop} (hm : P.follows .mixedOrders = true) (hf : P.funcs[f]? = some fn) (hb : fn.body = some c)
    (hs : (quietSel c && Nat.ble args.length fn.ntmps) = true) (h : vcCode P noH c 1 ⟨argEnv args 0, fn.ntmps, []⟩ w (finQ P fn.results.toList R)) : Calls P f ⟨args⟩ w R := by
  simp only [Bool.and_eq_true] at hs
  have hle : args.length ≤ fn.ntmps := Nat.le_of_ble_eq_true hs.2
  refine calls_of_wp hf hb (vcCode_sound hm c 1 hs.1 (Q := finQ P fn.results.toList R) (fun c a d v w hh => ?_) (fun x e w a hx fr => ?_) ⟨by simp; omega, rfl, fun t v hv => ?_⟩ h)
  · obtain ⟨hd, hR⟩ := hh
    refine ⟨?_, hR⟩
    cases d <;> exact hd
  · have hds : a.defers = e.ds := fr.ds
    cases x <;> simp only [finQ] at hx <;> try exact hx.elim
    all_goals
      cases he : e.ds.isEmpty <;> simp only [he, cond] at hx
      have hnil : a.defers = [] := by rw [hds]; exact List.isEmpty_iff.1 he
      first
        | (obtain ⟨v, hv, hR⟩ := results_run (R := fun v => R (.returned v) w) fr hx; exact ⟨hnil, v, hv, hR⟩)
        | exact ⟨hnil, hx⟩
  · obtain ⟨_, h2⟩ := find_argEnv _ _ _ _ hv
    have hlt : t < args.length := (List.getElem?_eq_some_iff.1 h2).1
    simp only [Nat.sub_zero] at h2
    rw [List.getElem?_eq_getElem hlt] at h2
    injection h2 with h2
    simp [Array.getElem?_append, hlt, h2]
end
end Go.Vc
