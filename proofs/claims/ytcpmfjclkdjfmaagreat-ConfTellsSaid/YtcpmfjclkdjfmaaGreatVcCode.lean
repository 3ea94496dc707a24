/-
  Code: what it comes to, as a Prop that the kernel reckons; sound for the model's own weakest condition.
-/
import Derived.Test.YtcpmfjclkdjfmaaGreatVcMem
namespace Go.Vc
open Go

section
variable {P : Program} {ρ ρ' : Operand → Value} {o : Oper} {w : World} {K K' : Value → World → Prop} {X X' : List PanicEntry → World → Prop}

theorem vcCall_mono {d : Bool} {f : Value} {args : List Value} (hm : ∀ v w, K v w → K' v w) (hx : ∀ c w, X c w → X' c w) (h : vcCall P o d f args w K X) : vcCall P o d f args w K' X' := by
  unfold vcCall at *
  split at h
  · rename_i g fi ca
    have cm : ∀ {a : Array Value}, Calls P g a w (retK P o K X) → Calls P g a w (retK P o K' X') := fun h => h.mono fun e w' he => by
      cases e <;> first | exact shp_mono (K := fun v => K v w') (K' := fun v => K' v w') (fun _ hv => hm _ _ hv) he | exact hx _ _ he | exact he
    cases d <;> simp only [cond] at h ⊢
    · exact ⟨h.1, cm h.2⟩
    · cases hb : hasBody P g <;> simp only [hb] at h ⊢
      · refine runV_mono (fun nx w' hn => ?_) hx h
        cases nx <;> first | exact shp_mono (K := fun v => K v w') (K' := fun v => K' v w') (fun _ hv => hm _ _ hv) hn | exact hn
      · exact cm h
  · exact h

theorem runS_mono {s : Sem Value} (hm : ∀ v w, K v w → K' v w) (hx : ∀ c w, X c w → X' c w) (h : runS P o s w K X) : runS P o s w K' X' :=
  runV_mono (fun _ _ hv => shp_mono (fun _ hu => hm _ _ hu) hv) hx h
theorem runU_mono {s : Sem Unit} (hm : ∀ v w, K v w → K' v w) (hx : ∀ c w, X c w → X' c w) (h : runU P s w K X) : runU P s w K' X' :=
  runV_mono (fun _ _ hv => hm _ _ hv) hx h

theorem vcMem_mono (hm : ∀ v w, K v w → K' v w) (hx : ∀ c w, X c w → X' c w) (h : vcMem P ρ o w K X) : vcMem P ρ o w K' X' := by
  obtain ⟨dst, op, type, pos, after, guard⟩ := o
  cases op <;> simp only [vcMem] at h ⊢
  case alloc =>
    split at h
    · exact hm _ _ h
    · exact h
  case box => exact hm _ _ h
  case load t x =>
    split at h
    · rename_i a z ha hz
      cases hl : ldOk P t z <;> simp only [hl, cond] at h ⊢
      exact mk_mono _ _ _ _ (fun _ hu => ⟨hu.1, hm _ _ hu.2⟩) h
    · exact h
  case store =>
    split at h
    · exact ⟨h.1, h.2.1, hm _ _ h.2.2⟩
    · exact h
  case buildSlice =>
    split at h
    · split at h
      · exact hm _ _ h
      · exact h
    · exact h
  case makeMap t r =>
    cases r with
    | none => simp only at h ⊢; exact hm _ _ h
    | some r => simp only at h
  case call =>
    split at h <;> first
      | exact h.elim
      | exact vcCall_mono hm hx h
      | exact runS_mono hm hx h
  case range => exact runV_mono (fun _ _ ⟨a, e, hk⟩ => ⟨a, e, hm _ _ hk⟩) hx h
  case next it s =>
    cases s <;> simp only [cond] at h ⊢
    · exact runV_mono (fun _ _ ⟨b, l, e, hk⟩ => ⟨b, l, e, hm _ _ hk⟩) hx h
    · exact runS_mono hm hx h
  case entry => exact runV_mono (fun _ _ ⟨k, u, e, hk⟩ => ⟨k, u, e, hm _ _ hk⟩) hx h
  all_goals first | exact runS_mono hm hx h | exact runU_mono hm hx h | exact h

theorem vcMem_congr (o : Oper) (h : ∀ x ∈ o.op.operands, ρ x = ρ' x) : vcMem P ρ o w K X = vcMem P ρ' o w K X := by
  obtain ⟨dst, op, type, pos, after, guard⟩ := o
  have pairs : ∀ ps : Array (Nat × Operand), (∀ x ∈ ps.map (·.2), ρ x = ρ' x) →
      (ps.map fun (i, x) => (i, ρ x)) = (ps.map fun (i, x) => (i, ρ' x)) := fun ps hp =>
    Array.map_congr_left fun p hm => by
      obtain ⟨i, x⟩ := p
      simp only [hp x (Array.mem_map.2 ⟨(i, x), hm, rfl⟩)]
  cases op <;> simp only [Op.operands] at h <;> simp only [vcMem]
  case buildSlice t n ps => rw [pairs ps fun x hx => h x (by simpa using hx)]
  case makeMap t r => cases r <;> rfl
  case call c =>
    have hargs : c.args.map ρ = c.args.map ρ' := Array.map_congr_left fun x hx => h x (by simp [Call.operands, hx])
    rw [hargs]
    cases hc : c.callee with
    | value f => have hf : ρ f = ρ' f := h f (by simp [Call.operands, hc]); simp only [hf]
    | builtin b => cases b <;> rfl
    | invoke r m => rfl
  all_goals (first | rfl | (simp_all; done))
end

abbrev QT := Exit → Env → World → Prop

/-! ### a region in the text's order -/

def vcStep (P : Program) (e : Env) (o : Oper) (w : World) (K : Env → World → Prop) (X : List PanicEntry → World → Prop) : Prop :=
  cond (knows e o.op && dstOk e o.dst)
    (cond (isPure P o.op) (vcPure P (evd e) o fun v => K (put e o.dst v) w) (vcMem P (evd e) o w (fun v w' => K (put e o.dst v) w') X)) False
/-- What type a part of temporary d is drawn out at. -/
def hint (ops : Array Oper) (d i : Nat) : Option TypeId :=
  ops.toList.findSome? fun o => match o.op with
    | .extract (.tmp s) j => cond (Nat.beq s d && Nat.beq j i) (some o.type) none
    | _ => none
def shapeBy (P : Program) (t : Option TypeId) (v : Value) (K : Value → Prop) : Prop :=
  match t with
  | some t => shaped P t v K
  | none => K v
/-- A map's entry: its parts' shapes, as they are drawn out. -/
def hintK (P : Program) (ops : Array Oper) (o : Oper) (K : Env → World → Prop) (e : Env) (w : World) : Prop :=
  match o.op with
  | .entry _ => (match o.dst with
    | some d => (match find e.l d with
      | some (.tuple ⟨[k, u]⟩) => shapeBy P (hint ops d 0) k fun k => shapeBy P (hint ops d 1) u fun u => K (put e o.dst (.tuple ⟨[k, u]⟩)) w
      | _ => False)
    | none => False)
  | _ => K e w
def vcSkip (e : Env) (o : Oper) (w : World) (K : Env → World → Prop) : Prop := cond (dstOk e o.dst) (K (put e o.dst undef) w) False
/-- Whether it comes up: its guard. -/
def vcOper (P : Program) (ops : Array Oper) (e : Env) (o : Oper) (w : World) (K : Env → World → Prop) (X : List PanicEntry → World → Prop) : Prop :=
  match o.guard with
  | none => vcStep P e o w (hintK P ops o K) X
  | some (j, want) =>
    match (ops[j]?).bind (·.dst) with
    | none => False
    | some t =>
      match find e.l t with
      | some (.bool b) =>
        if b = true then cond want (vcStep P (put e (some t) (.bool true)) o w K X) (vcSkip (put e (some t) (.bool true)) o w K)
        else cond want (vcSkip (put e (some t) (.bool false)) o w K) (vcStep P (put e (some t) (.bool false)) o w K X)
      | some (.tuple _) => vcSkip e o w K
      | _ => False
def vcOps (P : Program) (ops : Array Oper) : List Oper → Env → World → QT → Prop
  | [], e, w, Q => Q .normal e w
  | o :: rest, e, w, Q => vcOper P ops e o w (fun e w => vcOps P ops rest e w Q) (fun ch w => Q (.panic ch) e w)

theorem Ref.know {e : Env} {t : Nat} {v : Value} (h : find e.l t = some v) : Ref e (put e (some t) v) := by
  refine ⟨rfl, rfl, fun s u hu => ?_⟩
  simp only [put, find_cons] at hu
  split at hu
  · rename_i e; subst e; rw [h]; exact hu
  · exact hu

section
variable {P : Program} {ops : Array Oper} {o : Oper} {e e' : Env} {w : World}

theorem Ref.dstOk_ (h : Ref e' e) {d : Option Tmp} : dstOk e' d = dstOk e d := by unfold dstOk; rw [h.n]

theorem vcStep_mono {K K' : Env → World → Prop} {X X' : List PanicEntry → World → Prop} (r : Ref e' e) (hm : ∀ e e' w, K e w → Ref e' e → K' e' w) (hx : ∀ c w, X c w → X' c w)
    (h : vcStep P e o w K X) : vcStep P e' o w K' X' := by
  unfold vcStep at *
  cases hk : (knows e o.op && dstOk e o.dst) <;> simp only [hk, cond] at h
  simp only [Bool.and_eq_true] at hk
  have hk' : (knows e' o.op && dstOk e' o.dst) = true := by rw [r.knows_ hk.1, r.dstOk_, hk.2]; rfl
  rw [hk']
  simp only [cond]
  have hc : ∀ x ∈ o.op.operands, evd e' x = evd e x := fun x hx => r.evd_ hk.1 hx
  cases hp : isPure P o.op <;> simp only [hp] at h ⊢
  · rw [vcMem_congr o hc]
    exact vcMem_mono (fun v w' hv => hm _ _ _ hv (r.put_ _ _)) hx h
  · rw [vcPure_congr o hc]
    exact vcPure_mono (fun v hv => hm _ _ _ hv (r.put_ _ _)) h

theorem vcSkip_mono {K K' : Env → World → Prop} (r : Ref e' e) (hm : ∀ e e' w, K e w → Ref e' e → K' e' w) (h : vcSkip e o w K) : vcSkip e' o w K' := by
  unfold vcSkip at *
  rw [r.dstOk_]
  cases hd : dstOk e o.dst <;> simp only [hd, cond] at h ⊢
  exact hm _ _ _ h (r.put_ _ _)

theorem shapeBy_mono {t : Option TypeId} {v : Value} {K K' : Value → Prop} (h : ∀ v, K v → K' v) (hk : shapeBy P t v K) : shapeBy P t v K' := by
  cases t with
  | none => exact h _ hk
  | some t => exact shaped_mono h hk
theorem shapeBy_at {t : Option TypeId} {v : Value} {K : Value → Prop} (hk : shapeBy P t v K) : K v := by
  cases t with
  | none => exact hk
  | some t => exact shaped_at hk
theorem hintK_mono {K K' : Env → World → Prop} (r : Ref e' e) (hp : ∀ v, K (put e o.dst v) w → K' (put e' o.dst v) w) (hm : K e w → K' e' w) (h : hintK P ops o K e w) : hintK P ops o K' e' w := by
  unfold hintK at *
  split at h
  · rename_i it hit
    split at h
    · rename_i d hd
      split at h
      · rename_i k u hf
        rw [r.at_ _ _ hf]
        exact shapeBy_mono (fun k hk => shapeBy_mono (fun u hu => hp _ hu) hk) h
      · exact h.elim
    · exact h.elim
  · exact hm h
theorem hintK_at {K : Env → World → Prop} (h : hintK P ops o K e w) : K e w ∨ ∃ d v, o.dst = some d ∧ find e.l d = some v ∧ K (put e (some d) v) w := by
  unfold hintK at h
  split at h
  · rename_i it hit
    split at h
    · rename_i d hd
      split at h
      · rename_i k u hf
        refine .inr ⟨d, _, hd, hf, ?_⟩
        have := shapeBy_at (shapeBy_at h)
        rw [hd] at this
        exact this
      · exact h.elim
    · exact h.elim
  · exact .inl h
theorem vcOper_mono {K K' : Env → World → Prop} {X X' : List PanicEntry → World → Prop} (r : Ref e' e) (hm : ∀ e e' w, K e w → Ref e' e → K' e' w) (hx : ∀ c w, X c w → X' c w)
    (h : vcOper P ops e o w K X) : vcOper P ops e' o w K' X' := by
  unfold vcOper at *
  split at h
  · exact vcStep_mono r (fun e e' w hk r' => hintK_mono r' (fun v hv => hm _ _ _ hv (r'.put_ _ _)) (fun hk => hm _ _ _ hk r') hk) hx h
  · rename_i j want hg
    split at h
    · exact h.elim
    · rename_i t ht
      split at h
      · rename_i b hb
        rw [r.at_ _ _ hb]
        simp only
        split at h
        · rename_i hbt
          rw [if_pos hbt]
          cases want <;> simp only [cond] at h ⊢
          · exact vcSkip_mono (r.put_ _ _) hm h
          · exact vcStep_mono (r.put_ _ _) hm hx h
        · rename_i hbt
          rw [if_neg hbt]
          cases want <;> simp only [cond] at h ⊢
          · exact vcStep_mono (r.put_ _ _) hm hx h
          · exact vcSkip_mono (r.put_ _ _) hm h
      · rename_i vs hb
        rw [r.at_ _ _ hb]
        exact vcSkip_mono r hm h
      · exact h.elim

theorem vcOps_mono {Q Q' : QT} (hq : ∀ x e e' w, Q x e w → Ref e' e → Q' x e' w) : ∀ (l : List Oper) (e e' : Env) (w : World), Ref e' e → vcOps P ops l e w Q → vcOps P ops l e' w Q'
  | [], _, _, _, r, h => hq _ _ _ _ h r
  | _ :: rest, _, _, _, r, h => vcOper_mono r (fun _ _ _ hk r' => vcOps_mono hq rest _ _ _ r' hk) (fun _ _ hp => hq _ _ _ _ hp r) h

/-- What a step comes to, in the model's own words. -/
def Next1 (P : Program) (o : Oper) (a : Act) (w : World) (next : Act → World → Prop) (Qd : Exit → Act → World → Prop) : Prop := o.wp P a w next Qd

theorem wp_of_out {a : Act} {next : Act → World → Prop} {Qd : Exit → Act → World → Prop} {K : Value → World → Prop} {X : List PanicEntry → World → Prop}
    (h : Out P (execOp a.eval o) w K X) (hn : ∀ v w', K v w' → next (a.put o.dst v) w') (hx : ∀ c w', X c w' → Qd (.panic c) a w') : o.wp P a w next Qd := by
  unfold Oper.wp
  unfold Out at h
  generalize (execOp a.eval o).run P w = r at *
  cases r with
  | ok nx w' =>
    cases nx <;> first
      | exact hn _ _ h
      | (refine Calls.mono h fun e w'' he => ?_
         cases e <;> first | exact hn _ _ he | exact hx _ _ he | exact he.elim)
      | exact h.elim
  | halt x w' => cases x <;> first | exact hx _ _ h | exact h.elim

theorem vcStep_sound {a : Act} {next : Act → World → Prop} {Qd : Exit → Act → World → Prop} {K : Env → World → Prop} {X : List PanicEntry → World → Prop} (fr : Fr a e) (hs : ∀ cs b, o.op ≠ .select cs b)
    (hn : ∀ e' a' w', K e' w' → Fr a' e' → next a' w') (hx : ∀ c w', X c w' → Qd (.panic c) a w') (h : vcStep P e o w K X) : o.wp P a w next Qd := by
  unfold vcStep at h
  cases hk : (knows e o.op && dstOk e o.dst) <;> simp only [hk, cond] at h
  simp only [Bool.and_eq_true] at hk
  have hex : execOp a.eval o = execOp (evd e) o := execOp_congr o hs fun x hx => fr.evd_ hk.1 hx
  cases hp : isPure P o.op <;> simp only [hp] at h
  · refine wp_of_out (K := fun v w' => K (put e o.dst v) w') (X := X) ?_ (fun v w' hv => hn _ _ _ hv (fr.put_ hk.2 v)) hx
    rw [hex]
    exact vcMem_sound h
  · obtain ⟨v, hv, hr⟩ := vcPure_sound h
    unfold Oper.wp
    rw [hex, hr w]
    exact hn _ _ _ hv (fr.put_ hk.2 v)

theorem yielded_of {a : Act} {t : Tmp} {j : Nat} {b : Bool} (fr : Fr a e) (ht : (ops[j]?).bind (·.dst) = some t) (hb : find e.l t = some (.bool b)) : yielded ops a.tmps j = some b := by
  unfold yielded
  rw [ht]
  simp [fr.at_ _ _ hb]

theorem yielded_none {a : Act} {t : Tmp} {j : Nat} {vs : Array Value} (fr : Fr a e) (ht : (ops[j]?).bind (·.dst) = some t) (hb : find e.l t = some (.tuple vs)) : yielded ops a.tmps j = none := by
  unfold yielded
  rw [ht]
  simp [fr.at_ _ _ hb]

theorem vcSkip_sound {a : Act} {next : Act → World → Prop} {K : Env → World → Prop} (fr : Fr a e) (hn : ∀ e' a' w', K e' w' → Fr a' e' → next a' w') (h : vcSkip e o w K) : next (a.put o.dst undef) w := by
  unfold vcSkip at h
  cases hd : dstOk e o.dst <;> simp only [hd, cond] at h
  exact hn _ _ _ h (fr.put_ hd _)

theorem vcOper_sound {a : Act} {next : Act → World → Prop} {Qd : Exit → Act → World → Prop} {K : Env → World → Prop} {X : List PanicEntry → World → Prop} (fr : Fr a e) (hs : ∀ cs b, o.op ≠ .select cs b)
    (hn : ∀ e' a' w', K e' w' → Fr a' e' → next a' w') (hx : ∀ c w', X c w' → Qd (.panic c) a w') (h : vcOper P ops e o w K X) :
    if Region.wanted o (yielded ops a.tmps) then o.wp P a w next Qd else next (a.put o.dst undef) w := by
  unfold vcOper at h
  split at h
  · rename_i hg
    rw [if_pos (by simp [Region.wanted, hg])]
    exact vcStep_sound fr hs (fun e' a' w' hk fr' => by
      rcases hintK_at hk with h1 | ⟨d, v, _, hf, h1⟩
      · exact hn _ _ _ h1 fr'
      · exact hn _ _ _ h1 (fr'.ref (Ref.know hf))) hx h
  · rename_i j want hg
    split at h
    · exact h.elim
    · rename_i t ht
      split at h
      · rename_i b hb
        have hy := yielded_of fr ht hb
        split at h
        · rename_i hbt
          subst hbt
          have fr' : Fr a (put e (some t) (.bool true)) := fr.ref (Ref.know hb)
          cases want <;> simp only [cond] at h
          · rw [if_neg (by simp [Region.wanted, hg, hy])]; exact vcSkip_sound fr' hn h
          · rw [if_pos (by simp [Region.wanted, hg, hy])]; exact vcStep_sound fr' hs hn hx h
        · rename_i hbt
          have hbf : b = false := by simpa using hbt
          subst hbf
          have fr' : Fr a (put e (some t) (.bool false)) := fr.ref (Ref.know hb)
          cases want <;> simp only [cond] at h
          · rw [if_pos (by simp [Region.wanted, hg, hy])]; exact vcStep_sound fr' hs hn hx h
          · rw [if_neg (by simp [Region.wanted, hg, hy])]; exact vcSkip_sound fr' hn h
      · rename_i vs hb
        rw [if_neg (by simp [Region.wanted, hg, yielded_none fr ht hb])]
        exact vcSkip_sound fr hn h
      · exact h.elim
end

end Go.Vc
