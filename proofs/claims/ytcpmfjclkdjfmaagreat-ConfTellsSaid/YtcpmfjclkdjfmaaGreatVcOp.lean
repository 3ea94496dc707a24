/-
  One operation: what it comes to, as a Prop; sound for the model's own run.
-/
import Derived.Test.YtcpmfjclkdjfmaaGreatVcCore
namespace Go.Vc
open Go

def isConst : Operand → Bool
  | .const _ => true
  | _ => false
def under (P : Program) (t : TypeId) : Option TypeDesc := P.underlying t
def intT (P : Program) (t : TypeId) : Bool := match P.underlying t with | some (.int _) => true | _ => false
def strT (P : Program) (t : TypeId) : Bool := match P.underlying t with | some .string => true | _ => false
def pureBin (P : Program) (op : BinOp) (t : TypeId) (y : Operand) : Bool :=
  match op with
  | .quo | .rem | .shl | .shr => isConst y && intT P t
  | .add => intT P t
  | _ =>
    match P.underlying t with
    | some (.int _) | some .bool | some .string | some (.pointer _) | some (.slice _) | some (.map _ _) | some (.func _ _ _) => true
    | _ => false
def pureCall (P : Program) (c : Call) : Bool :=
  match c.callee with
  | .builtin .len | .builtin .cap => (match c.argTypes.toList with | t :: _ => (match P.underlying t with | some .string | some (.slice _) | some (.array _ _) => true | _ => false) | [] => false)
  | .builtin .min | .builtin .max => (match c.argTypes.toList with | t :: _ => intT P t | [] => false)
  | _ => false
/-- An operation that does not look at memory. -/
def isPure (P : Program) (o : Op) : Bool :=
  match o with
  | .move _ | .assign _ | .pick _ _ _ | .nilCheck _ | .unOp _ _ _ | .makeInterface _ _ | .makeFunc _ _ _ | .fieldAddr _ _ _ | .field _ _ _ | .indexAddr _ _ _ | .extract _ _ | .build _ _ => true
  | .slice t _ _ _ _ => (match P.underlying t with | some (.slice _) | some .string | some (.array _ _) => true | _ => false)
  | .index t _ _ => strT P t
  | .binOp op t _ y _ => pureBin P op t y
  | .convert s d _ => (intT P s && intT P d) || (strT P s && strT P d)
  | .call c => pureCall P c
  | _ => false

def eqb (op : BinOp) (b : Bool) : Bool := match op with | .eql => b | _ => !b
def isEq (op : BinOp) : Bool := match op with | .eql | .neq => true | _ => false
/-- A comparison with nil; any other pure binary operation. -/
def vcBin (P : Program) (op : BinOp) (t : TypeId) (x y : Operand) (vx vy : Value) (K : Value → Prop) : Prop :=
  match isEq op, P.underlying t, vx, vy with
  | true, some (.pointer _), .pointer p, .pointer none => K (.bool (eqb op p.isNone))
  | true, some (.slice _), .slice a _ _, .slice none _ _ => K (.bool (eqb op a.isNone))
  | true, some (.map _ _), .map r, .map none => K (.bool (eqb op r.isNone))
  | _, _, _, _ => pureK P (do eqGuard op t x y vx vy; binOp op t vx vy) K

def fieldOff (P : Program) (s : TypeId) (f : Nat) : Option Nat :=
  match P.underlying s with
  | some (.struct fs) =>
    match fs[f]? with
    | some fd => (match P.info? fd.type with | some i => cond (Nat.beq i.size 0) none (some fd.offset) | none => none)
    | none => none
  | _ => none
def szOf (P : Program) (t : TypeId) : Option Nat := (P.info? t).map (·.size)

/-- An optional bound, from 0 to m. -/
def bound (v : Option Value) (dflt m : Nat) (K : Nat → Prop) : Prop :=
  match v with
  | none => K dflt
  | some (.int _ i) => 0 ≤ i ∧ i ≤ (m : Int) ∧ K i.toNat
  | some _ => False
/-- A third index wants the second one. -/
def gap (hi mx : Option Value) : Bool := match hi, mx with | none, some _ => false | _, _ => true
def vcSlice (P : Program) (t : TypeId) (x : Value) (lo hi mx : Option Value) (K : Value → Prop) : Prop :=
  match P.underlying t, x with
  | some .string, .string s => cond mx.isNone (bound hi s.size s.size fun h => bound lo 0 h fun l => K (.string (s.extract l h))) False
  | some (.slice e), .slice a len cap =>
    (match szOf P e with
     | none => False
     | some z => cond (gap hi mx) (bound mx cap cap fun m => bound hi len m fun h => bound lo 0 h fun l => K (.slice (if m = l then a else a.map (·.add (l * z))) (h - l) (m - l))) False)
  | some (.array n e), .pointer (some a) =>
    (match szOf P e with
     | none => False
     | some z => cond (gap hi mx) (bound mx n n fun m => bound hi n m fun h => bound lo 0 h fun l => K (.slice (some (if m = l then a else a.add (l * z))) (h - l) (m - l))) False)
  | _, _ => False
def vcIndexAddr (P : Program) (t : TypeId) (x i : Value) (K : Value → Prop) : Prop :=
  match P.underlying t, x, i with
  | some (.slice e), .slice a len _, .int _ i =>
    (match szOf P e with
     | none => False
     | some z => 0 ≤ i ∧ i < (len : Int) ∧ ∃ b, a = some b ∧ K (.pointer (some (b.add (i.toNat * z)))))
  | some (.array n e), .pointer (some b), .int _ i =>
    (match szOf P e with
     | none => False
     | some z => 0 ≤ i ∧ i < (n : Int) ∧ K (.pointer (some (b.add (i.toNat * z)))))
  | _, _, _ => False
def vcIndex (x i : Value) (K : Value → Prop) : Prop :=
  match x, i with
  | .string s, .int _ i => 0 ≤ i ∧ ∃ b, s[i.toNat]? = some b ∧ K (.int .u8 b.toNat)
  | _, _ => False

def vcPure (P : Program) (ρ : Operand → Value) (o : Oper) (K : Value → Prop) : Prop :=
  match o.op with
  | .move x | .assign x => K (ρ x)
  | .pick c a b => (match ρ c with | .bool t => if t = true then K (ρ a) else K (ρ b) | _ => False)
  | .nilCheck x => (match ρ x with | .pointer p => ∃ a, p = some a ∧ K (.pointer (some a)) | .func (.func f) fi ca => K (.func (.func f) fi ca) | _ => False)
  | .binOp op t x y _ => vcBin P op t x y (ρ x) (ρ y) K
  | .unOp op _ x => pureK P (Op.unary op (ρ x)) K
  | .convert s d x => pureK P (convert s d (ρ x)) K
  | .makeInterface t x => pureK P (Instr.makeInterface t (ρ x)) K
  | .makeFunc fn first captured => K (.func fn (first.map ρ) (captured.map ρ))
  | .fieldAddr s x f => (match ρ x, fieldOff P s f with | .pointer (some a), some off => K (.pointer (some (a.add off))) | _, _ => False)
  | .field t x f => pureK P (Instr.field t (ρ x) f) K
  | .indexAddr t x i => vcIndexAddr P t (ρ x) (ρ i) K
  | .index t x i => cond (strT P t) (vcIndex (ρ x) (ρ i) K) False
  | .extract t i => pureK P (Instr.extract (ρ t) i) K
  | .build t parts => pureK P (Instr.build t (parts.map fun (i, x) => (i, ρ x))) K
  | .slice t x lo hi mx => vcSlice P t (ρ x) (lo.map ρ) (hi.map ρ) (mx.map ρ) K
  | .call c =>
    (match c.callee with
     | .builtin .len => pureK P (Builtin.len_ c.argTypes o.type (c.args.map ρ)) K
     | .builtin .cap => pureK P (Builtin.cap_ c.argTypes o.type (c.args.map ρ)) K
     | .builtin .min => pureK P (Builtin.min_ c.argTypes o.type (c.args.map ρ)) K
     | .builtin .max => pureK P (Builtin.max_ c.argTypes o.type (c.args.map ρ)) K
     | _ => False)
  | _ => False

/-! ### it is sound -/

def PureOut (P : Program) (s : Sem Next) (K : Value → Prop) : Prop := ∃ v, K v ∧ ∀ w, s.run P w = .ok (.value v) w

theorem PureOut.of_pureK {P : Program} {s : Sem Value} {K : Value → Prop} (h : pureK P s K) : PureOut P (do pure (.value (← s))) K := by
  obtain ⟨v, hv, hr⟩ := pureK_run h
  exact ⟨v, hv, fun w => by simp [hr w]⟩

theorem run_underlying_ {P : Program} {t : TypeId} {d : TypeDesc} (h : P.underlying t = some d) (w : World) : (underlying t).run P w = .ok d w := by
  simp [underlying, program, Sem.run, h]

theorem run_sizeOf_ {P : Program} {t : TypeId} {n : Nat} (h : szOf P t = some n) (w : World) : (sizeOf t).run P w = .ok n w := by
  unfold szOf at h
  cases hi : P.info? t with
  | none => simp [hi] at h
  | some i => simp [hi] at h; subst h; simp [sizeOf, typeInfo, program, Sem.run, hi]

theorem run_sliceBound {P : Program} {k : IntKind} {i : Int} {y : Nat} {c : BoundsCode} (h0 : 0 ≤ i) (h1 : i ≤ (y : Int)) (w : World) : (Instr.sliceBound (.int k i) y c).run P w = .ok i.toNat w := by
  simp [Instr.sliceBound, asIntOf, h0, h1]

theorem sliceBounds_ok {P : Program} {isS : Bool} {len cap : Nat} {lo hi mx : Option Value} {Q : Nat → Nat → Nat → Prop} (hm : hi = none → mx = none)
    (h : bound mx cap cap fun m => bound hi len m fun h => bound lo 0 h fun l => Q l h m) : ∃ l h m, Q l h m ∧ ∀ w, (Instr.sliceBounds isS len cap lo hi mx).run P w = .ok (l, h, m) w := by
  unfold bound at h
  cases mx with
  | none =>
    simp only at h
    cases hi with
    | none =>
      simp only at h
      cases lo with
      | none => exact ⟨_, _, _, h, fun w => by simp [Instr.sliceBounds]⟩
      | some v =>
        cases v with
        | int k i => exact ⟨_, _, _, h.2.2, fun w => by simp [Instr.sliceBounds, run_sliceBound h.1 h.2.1]⟩
        | _ => exact absurd h (by simp)
    | some u =>
      cases u with
      | int k j =>
        obtain ⟨h1, h2, h⟩ := h
        cases lo with
        | none => exact ⟨_, _, _, h, fun w => by simp [Instr.sliceBounds, run_sliceBound h1 h2]⟩
        | some v =>
          cases v with
          | int k i => exact ⟨_, _, _, h.2.2, fun w => by simp [Instr.sliceBounds, run_sliceBound h1 h2, run_sliceBound h.1 h.2.1]⟩
          | _ => exact absurd h (by simp)
      | _ => exact absurd h (by simp)
  | some m =>
    cases m with
    | int k q =>
      obtain ⟨h1, h2, h⟩ := h
      cases hi with
      | none => exact absurd (hm rfl) (by simp)
      | some u =>
        cases u with
        | int k j =>
          obtain ⟨h3, h4, h⟩ := h
          cases lo with
          | none => exact ⟨_, _, _, h, fun w => by simp [Instr.sliceBounds, run_sliceBound h1 h2, run_sliceBound h3 h4]⟩
          | some v =>
            cases v with
            | int k i => exact ⟨_, _, _, h.2.2, fun w => by simp [Instr.sliceBounds, run_sliceBound h1 h2, run_sliceBound h3 h4, run_sliceBound h.1 h.2.1]⟩
            | _ => exact absurd h (by simp)
        | _ => exact absurd h (by simp)
    | _ => exact absurd h (by simp)

theorem run_eq_ptr_nil {P : Program} {t e : TypeId} (hu : P.underlying t = some (.pointer e)) (p : Option Addr) (d : Nat) (w : World) : (Op.equalIn (d + 1) t (.pointer p) (.pointer none)).run P w = .ok p.isNone w := by
  cases p <;> simp [Op.equalIn, run_underlying_ hu]
theorem run_eq_slice_nil {P : Program} {t e : TypeId} (hu : P.underlying t = some (.slice e)) (a : Option Addr) (l c l' c' d : Nat) (w : World) : (Op.equalIn (d + 1) t (.slice a l c) (.slice none l' c')).run P w = .ok a.isNone w := by
  cases a <;> simp [Op.equalIn, run_underlying_ hu]
theorem run_eq_map_nil {P : Program} {t k e : TypeId} (hu : P.underlying t = some (.map k e)) (r : Option Nat) (d : Nat) (w : World) : (Op.equalIn (d + 1) t (.map r) (.map none)).run P w = .ok r.isNone w := by
  cases r <;> simp [Op.equalIn, run_underlying_ hu]
theorem binOp_eq_run {P : Program} {op : BinOp} {t : TypeId} {x y : Operand} {vx vy : Value} (hg : ∀ w, (eqGuard op t x y vx vy).run P w = .ok () w)
    (hb : binOp op t vx vy = (do pure (.bool (eqb op (← Op.equal t vx vy)))) ) {b : Bool} (hr : ∀ w, (Op.equalIn (9999 + 1) t vx vy).run P w = .ok b w) (w : World) :
    (do pure (.value (← (do eqGuard op t x y vx vy; binOp op t vx vy))) : Sem Next).run P w = .ok (.value (.bool (eqb op b))) w := by
  have hr' : (Op.equal t vx vy).run P w = .ok b w := hr w
  simp only [Sem.run_bind, hg, hb, Result.andThen_ok, hr', Sem.run_pure]

theorem vcBin_sound {P : Program} {op : BinOp} {t : TypeId} {x y : Operand} {vx vy : Value} {K : Value → Prop} (h : vcBin P op t x y vx vy K) :
    PureOut P (do pure (.value (← (do eqGuard op t x y vx vy; binOp op t vx vy)))) K := by
  unfold vcBin at h
  split at h
  · rename_i he hu
    exact ⟨_, h, binOp_eq_run (fun w => by cases op <;> first | rfl | simp [isEq] at he) (by cases op <;> first | rfl | simp [isEq] at he) (run_eq_ptr_nil hu _ 9999)⟩
  · rename_i he hu
    exact ⟨_, h, binOp_eq_run (fun w => by cases op <;> first | rfl | simp [isEq] at he) (by cases op <;> first | rfl | simp [isEq] at he) (run_eq_slice_nil hu _ _ _ _ _ 9999)⟩
  · rename_i he hu
    exact ⟨_, h, binOp_eq_run (fun w => by cases op <;> first | rfl | simp [isEq] at he) (by cases op <;> first | rfl | simp [isEq] at he) (run_eq_map_nil hu _ 9999)⟩
  · exact PureOut.of_pureK h

theorem gap_imp {hi mx : Option Value} (h : gap hi mx = true) : hi = none → mx = none := by
  intro e; subst e; cases mx with
  | none => rfl
  | some v => cases h
theorem vcSlice_sound {P : Program} {t : TypeId} {x : Value} {lo hi mx : Option Value} {K : Value → Prop} (h : vcSlice P t x lo hi mx K) :
    PureOut P (do pure (.value (← Instr.sliceAt t x lo hi mx))) K := by
  unfold vcSlice at h
  split at h
  · rename_i s hu
    cases mx with
    | some v => exact h.elim
    | none =>
      simp only [Option.isNone_none, cond] at h
      obtain ⟨l, hh, m, hK, hr⟩ := sliceBounds_ok (P := P) (isS := false) (len := s.size) (cap := s.size) (lo := lo) (hi := hi) (mx := none) (Q := fun l h _ => K (.string (s.extract l h))) (fun _ => rfl) (by simpa [bound] using h)
      exact ⟨_, hK, fun w => by simp [Instr.sliceAt, Instr.slice, run_underlying_ hu, hr w]⟩
  · rename_i hu
    split at h
    · exact h.elim
    · rename_i a len cap _ _ z hz
      cases hg : gap hi mx <;> simp only [hg, cond] at h
      obtain ⟨l, hh, m, hK, hr⟩ := sliceBounds_ok (P := P) (isS := true) (gap_imp hg) h
      exact ⟨_, hK, fun w => by simp [Instr.sliceAt, Instr.slice, run_underlying_ hu, hr w, run_sizeOf_ hz]⟩
  · rename_i hu
    split at h
    · exact h.elim
    · rename_i n e a _ _ z hz
      cases hg : gap hi mx <;> simp only [hg, cond] at h
      obtain ⟨l, hh, m, hK, hr⟩ := sliceBounds_ok (P := P) (isS := false) (gap_imp hg) h
      exact ⟨_, hK, fun w => by simp [Instr.sliceAt, Instr.sureAddr, run_underlying_ hu, hr w, run_sizeOf_ hz]⟩
  · exact h.elim

theorem vcIndexAddr_sound {P : Program} {t : TypeId} {x i : Value} {K : Value → Prop} (h : vcIndexAddr P t x i K) :
    PureOut P (do pure (.value (← Instr.indexAt t x i))) K := by
  unfold vcIndexAddr at h
  split at h
  · rename_i hu
    split at h
    · exact h.elim
    · rename_i z hz
      obtain ⟨h0, h1, b, rfl, hK⟩ := h
      exact ⟨_, hK, fun w => by simp [Instr.indexAt, asIntOf, run_underlying_ hu, h0, h1, run_sizeOf_ hz]⟩
  · rename_i hu
    split at h
    · exact h.elim
    · rename_i z hz
      obtain ⟨h0, h1, hK⟩ := h
      exact ⟨_, hK, fun w => by simp [Instr.indexAt, asIntOf, Instr.sureAddr, run_underlying_ hu, h0, h1, run_sizeOf_ hz]⟩
  · exact h.elim

theorem vcIndex_sound {P : Program} {t : TypeId} {x i : Value} {K : Value → Prop} (ht : strT P t = true) (h : vcIndex x i K) :
    PureOut P (do pure (.value (← Instr.index t x i))) K := by
  have hu : P.underlying t = some .string := by
    unfold strT at ht
    split at ht
    · assumption
    · cases ht
  unfold vcIndex at h
  split at h
  · obtain ⟨h0, b, hb, hK⟩ := h
    exact ⟨_, hK, fun w => by simp [Instr.index, asIntOf, run_underlying_ hu, h0, hb]⟩
  · exact h.elim

theorem vcPure_sound {P : Program} {ρ : Operand → Value} {o : Oper} {K : Value → Prop} (h : vcPure P ρ o K) : PureOut P (execOp ρ o) K := by
  obtain ⟨dst, op, type, pos, after, guard⟩ := o
  cases op <;> simp only [vcPure] at h <;> simp only [execOp]
  case move x => exact ⟨_, h, fun w => rfl⟩
  case assign x => exact ⟨_, h, fun w => rfl⟩
  case pick c a b =>
    split at h
    · rename_i t ht
      rw [ht]
      cases t
      · exact ⟨_, by simpa using h, fun w => by simp [asBool]⟩
      · exact ⟨_, by simpa using h, fun w => by simp [asBool]⟩
    · exact h.elim
  case nilCheck x =>
    split at h
    · rename_i p hp
      obtain ⟨a, rfl, hK⟩ := h
      rw [hp]
      exact ⟨_, hK, fun w => rfl⟩
    · rename_i hp
      rw [hp]
      exact ⟨_, h, fun w => rfl⟩
    · exact h.elim
  case binOp => exact vcBin_sound h
  case unOp => exact PureOut.of_pureK h
  case convert => exact PureOut.of_pureK h
  case makeInterface => exact PureOut.of_pureK h
  case makeFunc => exact ⟨_, h, fun w => by simp [Instr.makeFunc]⟩
  case fieldAddr s x f =>
    split at h
    · rename_i a off ha ho
      rw [ha]
      refine ⟨_, h, fun w => ?_⟩
      unfold fieldOff at ho
      split at ho
      · rename_i fs hu
        split at ho
        · rename_i fd hf
          split at ho
          · rename_i i hi
            cases hb : Nat.beq i.size 0 <;> simp only [hb, cond] at ho
            · injection ho with ho
              subst ho
              have hne : i.size ≠ 0 := fun e => by rw [e] at hb; cases hb
              have hsz : szOf P fd.type = some i.size := by simp [szOf, hi]
              simp [Instr.fieldAt, run_underlying_ hu, hf, Instr.sureAddr, fieldPlace, run_sizeOf_ hsz, hne]
            · cases ho
          · cases ho
        · cases ho
      · cases ho
    · exact h.elim
  case field => exact PureOut.of_pureK h
  case indexAddr => exact vcIndexAddr_sound h
  case index t x i =>
    cases hs : strT P t <;> simp only [hs, cond] at h
    exact vcIndex_sound hs h
  case extract => exact PureOut.of_pureK h
  case build => exact PureOut.of_pureK h
  case slice => exact vcSlice_sound h
  case call c =>
    split at h <;> rename_i hc <;> first
      | exact h.elim
      | (obtain ⟨v, hv, hr⟩ := pureK_run h
         refine ⟨v, hv, fun w => ?_⟩
         simp [resolve, hc, invoke, builtin, hr w])
  all_goals exact h.elim

theorem bound_mono {v : Option Value} {d m : Nat} {K K' : Nat → Prop} (h : ∀ n, K n → K' n) (hk : bound v d m K) : bound v d m K' := by
  unfold bound at *
  split at hk
  · exact h _ hk
  · exact ⟨hk.1, hk.2.1, h _ hk.2.2⟩
  · exact hk

theorem vcPure_mono {P : Program} {ρ : Operand → Value} {o : Oper} {K K' : Value → Prop} (hm : ∀ v, K v → K' v) (h : vcPure P ρ o K) : vcPure P ρ o K' := by
  obtain ⟨dst, op, type, pos, after, guard⟩ := o
  cases op <;> simp only [vcPure] at h ⊢
  case move => exact hm _ h
  case assign => exact hm _ h
  case pick =>
    split at h
    · split at h
      · rename_i ht; rw [if_pos ht]; exact hm _ h
      · rename_i ht; rw [if_neg ht]; exact hm _ h
    · exact h
  case nilCheck =>
    split at h
    · obtain ⟨a, e, hK⟩ := h; exact ⟨a, e, hm _ hK⟩
    · exact hm _ h
    · exact h
  case binOp =>
    unfold vcBin at *
    split at h
    · exact hm _ h
    · exact hm _ h
    · exact hm _ h
    · exact pureK_mono hm h
  case makeFunc => exact hm _ h
  case fieldAddr =>
    split at h
    · exact hm _ h
    · exact h
  case indexAddr =>
    unfold vcIndexAddr at *
    split at h
    · split at h
      · exact h
      · obtain ⟨h0, h1, b, e, hK⟩ := h; exact ⟨h0, h1, b, e, hm _ hK⟩
    · split at h
      · exact h
      · exact ⟨h.1, h.2.1, hm _ h.2.2⟩
    · exact h
  case index t x i =>
    cases hs : strT P t <;> simp only [hs, cond] at h ⊢
    unfold vcIndex at *
    split at h
    · obtain ⟨h0, b, e, hK⟩ := h; exact ⟨h0, b, e, hm _ hK⟩
    · exact h
  case slice =>
    rename_i t x lo hi mx
    unfold vcSlice at *
    split at h
    · cases hg : (mx.map ρ).isNone <;> simp only [hg, cond] at h ⊢
      exact bound_mono (fun _ h1 => bound_mono (fun _ h2 => hm _ h2) h1) h
    · split at h
      · exact h
      · cases hg : gap (hi.map ρ) (mx.map ρ) <;> simp only [hg, cond] at h ⊢
        exact bound_mono (fun _ h1 => bound_mono (fun _ h2 => bound_mono (fun _ h3 => hm _ h3) h2) h1) h
    · split at h
      · exact h
      · cases hg : gap (hi.map ρ) (mx.map ρ) <;> simp only [hg, cond] at h ⊢
        exact bound_mono (fun _ h1 => bound_mono (fun _ h2 => bound_mono (fun _ h3 => hm _ h3) h2) h1) h
    · exact h
  case call =>
    split at h <;> first | exact pureK_mono hm h | exact h
  all_goals first | exact pureK_mono hm h | exact h

/-- It looks at its operands alone. -/
theorem vcPure_congr {P : Program} {ρ ρ' : Operand → Value} (o : Oper) (h : ∀ x ∈ o.op.operands, ρ x = ρ' x) (K : Value → Prop) : vcPure P ρ o K = vcPure P ρ' o K := by
  obtain ⟨dst, op, type, pos, after, guard⟩ := o
  have pairs : ∀ ps : Array (Nat × Operand), (∀ x ∈ ps.map (·.2), ρ x = ρ' x) →
      (ps.map fun (i, x) => (i, ρ x)) = (ps.map fun (i, x) => (i, ρ' x)) := fun ps hp =>
    Array.map_congr_left fun p hm => by
      obtain ⟨i, x⟩ := p
      simp only [hp x (Array.mem_map.2 ⟨(i, x), hm, rfl⟩)]
  cases op <;> simp only [Op.operands] at h <;> simp only [vcPure]
  case build t ps => rw [pairs ps fun x hx => h x (by simpa using hx)]
  case makeFunc fn first captured =>
    rw [Array.map_congr_left (xs := first) fun x hx => h x (by simp [hx]), Array.map_congr_left (xs := captured) fun x hx => h x (by simp [hx])]
  case call c =>
    have hargs : c.args.map ρ = c.args.map ρ' := Array.map_congr_left fun x hx => h x (by simp [Call.operands, hx])
    rw [hargs]
  case slice t x lo hi mx => cases lo <;> cases hi <;> cases mx <;> simp_all
  all_goals (first | rfl | (simp_all; done))

end Go.Vc
