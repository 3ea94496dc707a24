/-
  Texts of this claim's own, laid into one: VcCore, VcOp, VcMem, VcCode, VcDraw, VcFun, VcUnit, VcGoto, VcCc, VcDef, Fa, EvP.
-/
import Derived.OrdersHeld
import Derived.Tactics
import Derived.Laws.World
import Derived.Scope
import Derived.KernelRfl
import Derived.Recover
import Derived.Test.YtaocnfjhfmapkaaGreatDoorProg
set_option linter.all false
/-
  A calculus of weakest conditions for the loaded functions, run by the kernel: what a function's code comes to is computed as one Prop; that it is sound is proved here once.
-/
namespace Go.Vc
open Go

/-! ### environments -/

structure Env where
  l : List (Nat × Value)
  n : Nat
  ds : List Deferred

def find : List (Nat × Value) → Nat → Option Value
  | [], _ => none
  | p :: r, t => cond (Nat.beq p.1 t) (some p.2) (find r t)

def ev (e : Env) : Operand → Option Value
  | .tmp t => find e.l t
  | .const v => some v
  | .global g => some (.pointer (some ⟨g, 0, none⟩))
  | .func f => some (.func (.func f) #[] #[])

def evd (e : Env) (x : Operand) : Value := (ev e x).getD undef
def knows (e : Env) (o : Op) : Bool := o.operands.toList.all fun x => (ev e x).isSome
def put (e : Env) (d : Option Tmp) (v : Value) : Env :=
  match d with
  | some d => { e with l := (d, v) :: e.l }
  | none => e
def dstOk (e : Env) (d : Option Tmp) : Bool :=
  match d with
  | some d => Nat.blt d e.n
  | none => true

structure Fr (a : Act) (e : Env) : Prop where
  size : a.tmps.size = e.n
  ds : a.defers = e.ds
  at_ : ∀ t v, find e.l t = some v → a.tmps[t]? = some v

/-- e' knows all that e knows. -/
structure Ref (e' e : Env) : Prop where
  n : e'.n = e.n
  ds : e'.ds = e.ds
  at_ : ∀ t v, find e.l t = some v → find e'.l t = some v

theorem Ref.refl (e : Env) : Ref e e := ⟨rfl, rfl, fun _ _ h => h⟩
theorem Ref.trans {a b c : Env} (h : Ref a b) (h' : Ref b c) : Ref a c := ⟨h.n.trans h'.n, h.ds.trans h'.ds, fun t v x => h.at_ t v (h'.at_ t v x)⟩
theorem Fr.ref {a : Act} {e e' : Env} (h : Fr a e') (r : Ref e' e) : Fr a e := ⟨h.size.trans r.n, h.ds.trans r.ds, fun t v x => h.at_ t v (r.at_ t v x)⟩

theorem find_cons (d : Nat) (v : Value) (l : List (Nat × Value)) (t : Nat) : find ((d, v) :: l) t = if d = t then some v else find l t := by
  show cond (Nat.beq d t) (some v) (find l t) = _
  by_cases h : d = t
  · subst h; simp [Nat.beq_refl]
  · rw [if_neg h]
    have : Nat.beq d t = false := by
      cases hb : Nat.beq d t
      · rfl
      · exact absurd (Nat.eq_of_beq_eq_true hb) h
    rw [this]; rfl

theorem Ref.put_ {e e' : Env} (h : Ref e' e) (d : Option Tmp) (v : Value) : Ref (put e' d v) (put e d v) := by
  cases d with
  | none => exact h
  | some d =>
    refine ⟨h.n, h.ds, fun t u hu => ?_⟩
    simp only [put, find_cons] at hu ⊢
    split at hu
    · rename_i e; rw [if_pos e]; exact hu
    · rename_i e; rw [if_neg e]; exact h.at_ t u hu

theorem Ref.ev_ {e e' : Env} (h : Ref e' e) {x : Operand} {v : Value} (hx : ev e x = some v) : ev e' x = some v := by
  cases x with
  | tmp t => exact h.at_ t v hx
  | const u => exact hx
  | global g => exact hx
  | func f => exact hx

theorem Fr.ev_ {a : Act} {e : Env} (h : Fr a e) {x : Operand} {v : Value} (hx : ev e x = some v) : a.eval x = v := by
  cases x with
  | tmp t =>
    have := h.at_ t v hx
    simp [Act.eval, this]
  | const u => simpa [ev, Act.eval] using hx
  | global g => simpa [ev, Act.eval] using hx
  | func f => simpa [ev, Act.eval] using hx

theorem Fr.put_ {a : Act} {e : Env} (h : Fr a e) {d : Option Tmp} (hd : dstOk e d = true) (v : Value) : Fr (a.put d v) (put e d v) := by
  cases d with
  | none => exact h
  | some d =>
    have hlt : d < a.tmps.size := by rw [h.size]; simpa [dstOk, Nat.blt_eq] using hd
    refine ⟨by simp [Act.put, put, h.size], h.ds, fun t u hu => ?_⟩
    simp only [put, find_cons] at hu
    simp only [Act.put]
    split at hu
    · rename_i e; subst e; simpa [hlt] using hu
    · rename_i e; rw [Array.getElem?_setIfInBounds_ne e]; exact h.at_ t u hu

theorem knows_iff {e : Env} {o : Op} (h : knows e o = true) {x : Operand} (hx : x ∈ o.operands) : ev e x = some (evd e x) := by
  have := List.all_eq_true.1 h x (Array.mem_toList_iff.2 hx)
  unfold evd
  cases he : ev e x with
  | none => simp [he] at this
  | some v => rfl

theorem Ref.knows_ {e e' : Env} (h : Ref e' e) {o : Op} (hk : knows e o = true) : knows e' o = true := by
  refine List.all_eq_true.2 fun x hx => ?_
  have := h.ev_ (knows_iff hk (Array.mem_toList_iff.1 hx))
  simp [this]

theorem Ref.evd_ {e e' : Env} (h : Ref e' e) {o : Op} (hk : knows e o = true) {x : Operand} (hx : x ∈ o.operands) : evd e' x = evd e x := by
  have := h.ev_ (knows_iff hk hx)
  simp [evd, this]

theorem Fr.evd_ {a : Act} {e : Env} (h : Fr a e) {o : Op} (hk : knows e o = true) {x : Operand} (hx : x ∈ o.operands) : a.eval x = evd e x :=
  h.ev_ (knows_iff hk hx)

/-! ### the shapes of values -/

def one : Value → Bool
  | .agg _ => false
  | .tuple _ => false
  | _ => true

/-- For some value of the shape of z. -/
def mkL (f : Value → (Value → Prop) → Prop) : List Value → (List Value → Prop) → Prop
  | [], K => K []
  | z :: r, K => f z fun v => mkL f r fun l => K (v :: l)
def mk : Nat → Value → (Value → Prop) → Prop
  | 0, _, K => ∃ u, K u
  | n + 1, z, K =>
    match z with
    | .int k _ => ∃ x : Int, K (.int k x)
    | .bool _ => ∃ b : Bool, K (.bool b)
    | .string _ => ∃ s : ByteArray, K (.string s)
    | .float k _ => ∃ b : Nat, K (.float k b)
    | .pointer _ => ∃ p : Option Addr, K (.pointer p)
    | .slice _ _ _ => ∃ (a : Option Addr) (l c : Nat), K (.slice a l c)
    | .map _ => ∃ r : Option Nat, K (.map r)
    | .agg cs => cond (Nat.ble cs.size 9) (mkL (mk n) cs.toList fun l => K (.agg ⟨l⟩)) (∃ xs : Array Value, xs.size = cs.size ∧ K (.agg xs))
    | .tuple cs => mkL (mk n) cs.toList fun l => K (.tuple ⟨l⟩)
    | _ => ∃ u, one u = true ∧ K u

theorem mkL_mono {f : Value → (Value → Prop) → Prop} (hf : ∀ z K K', (∀ v, K v → K' v) → f z K → f z K') :
    ∀ (l : List Value) (K K' : List Value → Prop), (∀ v, K v → K' v) → mkL f l K → mkL f l K'
  | [], _, _, h, hk => h _ hk
  | _ :: r, _, _, h, hk => hf _ _ _ (fun _ hv => mkL_mono hf r _ _ (fun _ hl => h _ hl) hv) hk
theorem mk_mono : ∀ (n : Nat) (z : Value) (K K' : Value → Prop), (∀ v, K v → K' v) → mk n z K → mk n z K' := by
  intro n
  induction n with
  | zero => intro z K K' h ⟨u, hu⟩; exact ⟨u, h _ hu⟩
  | succ n ih =>
    intro z K K' h hk
    cases z <;> simp only [mk] at hk ⊢
    case agg cs =>
      cases hb : Nat.ble cs.size 9 <;> simp only [hb, cond] at hk ⊢
      · obtain ⟨xs, hx, hK⟩ := hk; exact ⟨xs, hx, h _ hK⟩
      · exact mkL_mono ih _ _ _ (fun _ hl => h _ hl) hk
    case tuple cs => exact mkL_mono ih _ _ _ (fun _ hl => h _ hl) hk
    case slice a l c => obtain ⟨a, l, c, hK⟩ := hk; exact ⟨a, l, c, h _ hK⟩
    all_goals first
      | (obtain ⟨x, ho, hK⟩ := hk; exact ⟨x, ho, h _ hK⟩)
      | (obtain ⟨x, hK⟩ := hk; exact ⟨x, h _ hK⟩)
theorem mkL_some {f : Value → (Value → Prop) → Prop} (hf : ∀ z K, f z K → ∃ v, K v) : ∀ (l : List Value) (K : List Value → Prop), mkL f l K → ∃ v, v.length = l.length ∧ K v
  | [], _, hk => ⟨_, rfl, hk⟩
  | _ :: r, _, hk => by
    obtain ⟨v, hv⟩ := hf _ _ hk
    obtain ⟨l, hl, hK⟩ := mkL_some hf r _ hv
    exact ⟨_, by simp [hl], hK⟩
/-- u is a whole where z is one, of as many cells. -/
def alike (z u : Value) : Prop :=
  match z with
  | .agg cs => ∃ xs : Array Value, u = .agg xs ∧ xs.size = cs.size
  | .tuple _ => True
  | _ => one u = true
theorem mk_some : ∀ (n : Nat) (z : Value) (K : Value → Prop), mk (n + 1) z K → ∃ v, alike z v ∧ K v := by
  have some_ : ∀ (n : Nat) (z : Value) (K : Value → Prop), mk n z K → ∃ v, K v := by
    intro n
    induction n with
    | zero => intro z K h; exact h
    | succ n ih =>
      intro z K hk
      cases z <;> simp only [mk] at hk
      case agg cs =>
        cases hb : Nat.ble cs.size 9 <;> simp only [hb, cond] at hk
        · obtain ⟨xs, hx, hK⟩ := hk; exact ⟨_, hK⟩
        · obtain ⟨l, _, hl⟩ := mkL_some ih _ _ hk; exact ⟨_, hl⟩
      case tuple cs => obtain ⟨l, _, hl⟩ := mkL_some ih _ _ hk; exact ⟨_, hl⟩
      case slice a l c => obtain ⟨a, l, c, hK⟩ := hk; exact ⟨_, hK⟩
      all_goals first
        | (obtain ⟨x, ho, hK⟩ := hk; exact ⟨_, hK⟩)
        | (obtain ⟨x, hK⟩ := hk; exact ⟨_, hK⟩)
  intro n z K hk
  cases z <;> simp only [mk] at hk <;> simp only [alike]
  case agg cs =>
    cases hb : Nat.ble cs.size 9 <;> simp only [hb, cond] at hk
    · obtain ⟨xs, hx, hK⟩ := hk; exact ⟨_, ⟨_, rfl, hx⟩, hK⟩
    · obtain ⟨l, hn, hl⟩ := mkL_some (some_ n) _ _ hk; exact ⟨_, ⟨_, rfl, by simpa using hn⟩, hl⟩
  case tuple cs => obtain ⟨l, _, hl⟩ := mkL_some (some_ n) _ _ hk; exact ⟨_, trivial, hl⟩
  case slice a l c => obtain ⟨a, l, c, hK⟩ := hk; exact ⟨_, rfl, hK⟩
  all_goals first
    | (obtain ⟨x, ho, hK⟩ := hk; exact ⟨_, ho, hK⟩)
    | (obtain ⟨x, hK⟩ := hk; exact ⟨_, rfl, hK⟩)

def tmpl (P : Program) (t : TypeId) : Option Value := (P.info? t).bind (·.zero)
/-- v is of t's shape. -/
def shaped (P : Program) (t : TypeId) (v : Value) (K : Value → Prop) : Prop :=
  match tmpl P t with
  | some z => mk 4 z fun u => v = u ∧ K u
  | none => K v
theorem shaped_mono {P : Program} {t : TypeId} {v : Value} {K K' : Value → Prop} (h : ∀ v, K v → K' v) (hk : shaped P t v K) : shaped P t v K' := by
  unfold shaped at *
  split at hk
  · exact mk_mono _ _ _ _ (fun _ hu => ⟨hu.1, h _ hu.2⟩) hk
  · exact h _ hk
theorem shaped_at {P : Program} {t : TypeId} {v : Value} {K : Value → Prop} (hk : shaped P t v K) : K v := by
  unfold shaped at hk
  split at hk
  · obtain ⟨u, _, rfl, hu⟩ := mk_some _ _ _ hk; exact hu
  · exact hk

/-! ### runs -/

def pureRun {α : Type} (P : Program) : Sem α → Option α
  | .pure a => some a
  | .program k => pureRun P (k P)
  | .mark _ k => pureRun P k
  | _ => none
theorem pureRun_run {α : Type} {P : Program} {s : Sem α} {a : α} (h : pureRun P s = some a) (w : World) : s.run P w = .ok a w := by
  induction s with
  | pure x => simp [pureRun] at h; subst h; rfl
  | program k ih => exact ih P h
  | mark m k ih => exact ih h
  | _ => simp [pureRun] at h
def pureK (P : Program) (s : Sem Value) (K : Value → Prop) : Prop :=
  match pureRun P s with
  | some v => K v
  | none => False
theorem pureK_mono {P : Program} {s : Sem Value} {K K' : Value → Prop} (h : ∀ v, K v → K' v) (hk : pureK P s K) : pureK P s K' := by
  unfold pureK at *
  cases hp : pureRun P s <;> simp only [hp] at hk ⊢
  exact h _ hk
theorem pureK_run {P : Program} {s : Sem Value} {K : Value → Prop} (hk : pureK P s K) : ∃ v, K v ∧ ∀ w, s.run P w = .ok v w := by
  unfold pureK at hk
  cases hp : pureRun P s <;> simp only [hp] at hk
  exact ⟨_, hk, fun w => pureRun_run hp w⟩

def chain (v : Value) : List PanicEntry := [{ v, recovered := false }]
def runV {α : Type} (P : Program) (s : Sem α) (w : World) (K : α → World → Prop) (X : List PanicEntry → World → Prop) : Prop :=
  match s.run P w with
  | .ok v w' => K v w'
  | .halt (.panic v) w' => X (chain v) w'
  | _ => False
theorem runV_mono {α : Type} {P : Program} {s : Sem α} {w : World} {K K' : α → World → Prop} {X X' : List PanicEntry → World → Prop} (h : ∀ v w, K v w → K' v w) (hx : ∀ v w, X v w → X' v w)
    (hk : runV P s w K X) : runV P s w K' X' := by
  unfold runV at *
  generalize s.run P w = r at *
  cases r with
  | ok v w' => exact h _ _ hk
  | halt x w' => cases x <;> first | exact hx _ _ hk | exact hk
theorem runV_ok {α : Type} {P : Program} {s : Sem α} {w w' : World} {v : α} {K : α → World → Prop} {X : List PanicEntry → World → Prop} (hr : s.run P w = .ok v w') (hk : K v w') : runV P s w K X := by
  unfold runV; rw [hr]; exact hk

/-! ### memory -/

/-- The cells of u lie from a on. -/
def rd (w : World) (a : Addr) (u : Value) : Prop := ∀ i v, u.cells[i]? = some v → w.cell? (a.add i) = some v
def wrOk (w : World) (a : Addr) (u : Value) : Prop := ∀ i v, u.cells[i]? = some v → one v = true ∧ (∃ old, w.cell? (a.add i) = some old) ∧ w.frozen? (a.add i) = false
def wrL (w : World) (a : Addr) : List Value → Nat → World
  | [], _ => w
  | v :: r, i => wrL (w.setCell (a.add i) v) a r (i + 1)
def wr (w : World) (a : Addr) (u : Value) : World := wrL w a u.cells.toList 0

end Go.Vc

/-
  One operation: what it comes to, as a Prop; sound for the model's own run.
-/
namespace Go.Vc
open Go

def isConst : Operand → Bool
  | .const _ => true
  | _ => false
def under (P : Program) (t : TypeId) : Option TypeDesc := P.underlying t
def intT (P : Program) (t : TypeId) : Bool := match P.underlying t with | some (.int _) => true | _ => false
def strT (P : Program) (t : TypeId) : Bool := match P.underlying t with | some .string => true | _ => false
def pureBin (P : Program) (op : BinOp) (t : TypeId) (y : Operand) : Bool :=
  match op with
  | .quo | .rem | .shl | .shr => isConst y && intT P t
  | .add => intT P t
  | _ =>
    match P.underlying t with
    | some (.int _) | some .bool | some .string | some (.pointer _) | some (.slice _) | some (.map _ _) | some (.func _ _ _) => true
    | _ => false
def pureCall (P : Program) (c : Call) : Bool :=
  match c.callee with
  | .builtin .len | .builtin .cap => (match c.argTypes.toList with | t :: _ => (match P.underlying t with | some .string | some (.slice _) | some (.array _ _) => true | _ => false) | [] => false)
  | .builtin .min | .builtin .max => (match c.argTypes.toList with | t :: _ => intT P t | [] => false)
  | _ => false
/-- An operation that does not look at memory. -/
def isPure (P : Program) (o : Op) : Bool :=
  match o with
  | .move _ | .assign _ | .pick _ _ _ | .nilCheck _ | .unOp _ _ _ | .makeInterface _ _ | .makeFunc _ _ _ | .fieldAddr _ _ _ | .field _ _ _ | .indexAddr _ _ _ | .extract _ _ | .build _ _ => true
  | .slice t _ _ _ _ => (match P.underlying t with | some (.slice _) | some .string | some (.array _ _) => true | _ => false)
  | .index t _ _ => strT P t
  | .binOp op t _ y _ => pureBin P op t y
  | .convert s d _ => (intT P s && intT P d) || (strT P s && strT P d)
  | .call c => pureCall P c
  | _ => false

def eqb (op : BinOp) (b : Bool) : Bool := match op with | .eql => b | _ => !b
def isEq (op : BinOp) : Bool := match op with | .eql | .neq => true | _ => false
/-- A comparison with nil; any other pure binary operation. -/
def vcBin (P : Program) (op : BinOp) (t : TypeId) (x y : Operand) (vx vy : Value) (K : Value → Prop) : Prop :=
  match isEq op, P.underlying t, vx, vy with
  | true, some (.pointer _), .pointer p, .pointer none => K (.bool (eqb op p.isNone))
  | true, some (.slice _), .slice a _ _, .slice none _ _ => K (.bool (eqb op a.isNone))
  | true, some (.map _ _), .map r, .map none => K (.bool (eqb op r.isNone))
  | _, _, _, _ => pureK P (do eqGuard op t x y vx vy; binOp op t vx vy) K

def fieldOff (P : Program) (s : TypeId) (f : Nat) : Option Nat :=
  match P.underlying s with
  | some (.struct fs) =>
    match fs[f]? with
    | some fd => (match P.info? fd.type with | some i => cond (Nat.beq i.size 0) none (some fd.offset) | none => none)
    | none => none
  | _ => none
def szOf (P : Program) (t : TypeId) : Option Nat := (P.info? t).map (·.size)

/-- An optional bound, from 0 to m. -/
def bound (v : Option Value) (dflt m : Nat) (K : Nat → Prop) : Prop :=
  match v with
  | none => K dflt
  | some (.int _ i) => 0 ≤ i ∧ i ≤ (m : Int) ∧ K i.toNat
  | some _ => False
/-- A third index wants the second one. -/
def gap (hi mx : Option Value) : Bool := match hi, mx with | none, some _ => false | _, _ => true
def vcSlice (P : Program) (t : TypeId) (x : Value) (lo hi mx : Option Value) (K : Value → Prop) : Prop :=
  match P.underlying t, x with
  | some .string, .string s => cond mx.isNone (bound hi s.size s.size fun h => bound lo 0 h fun l => K (.string (s.extract l h))) False
  | some (.slice e), .slice a len cap =>
    (match szOf P e with
     | none => False
     | some z => cond (gap hi mx) (bound mx cap cap fun m => bound hi len m fun h => bound lo 0 h fun l => K (.slice (if m = l then a else a.map (·.add (l * z))) (h - l) (m - l))) False)
  | some (.array n e), .pointer (some a) =>
    (match szOf P e with
     | none => False
     | some z => cond (gap hi mx) (bound mx n n fun m => bound hi n m fun h => bound lo 0 h fun l => K (.slice (some (if m = l then a else a.add (l * z))) (h - l) (m - l))) False)
  | _, _ => False
def vcIndexAddr (P : Program) (t : TypeId) (x i : Value) (K : Value → Prop) : Prop :=
  match P.underlying t, x, i with
  | some (.slice e), .slice a len _, .int _ i =>
    (match szOf P e with
     | none => False
     | some z => 0 ≤ i ∧ i < (len : Int) ∧ ∃ b, a = some b ∧ K (.pointer (some (b.add (i.toNat * z)))))
  | some (.array n e), .pointer (some b), .int _ i =>
    (match szOf P e with
     | none => False
     | some z => 0 ≤ i ∧ i < (n : Int) ∧ K (.pointer (some (b.add (i.toNat * z)))))
  | _, _, _ => False
def vcIndex (x i : Value) (K : Value → Prop) : Prop :=
  match x, i with
  | .string s, .int _ i => 0 ≤ i ∧ ∃ b, s[i.toNat]? = some b ∧ K (.int .u8 b.toNat)
  | _, _ => False

def vcPure (P : Program) (ρ : Operand → Value) (o : Oper) (K : Value → Prop) : Prop :=
  match o.op with
  | .move x | .assign x => K (ρ x)
  | .pick c a b => (match ρ c with | .bool t => if t = true then K (ρ a) else K (ρ b) | _ => False)
  | .nilCheck x => (match ρ x with | .pointer p => ∃ a, p = some a ∧ K (.pointer (some a)) | .func (.func f) fi ca => K (.func (.func f) fi ca) | _ => False)
  | .binOp op t x y _ => vcBin P op t x y (ρ x) (ρ y) K
  | .unOp op _ x => pureK P (Op.unary op (ρ x)) K
  | .convert s d x => pureK P (convert s d (ρ x)) K
  | .makeInterface t x => pureK P (Instr.makeInterface t (ρ x)) K
  | .makeFunc fn first captured => K (.func fn (first.map ρ) (captured.map ρ))
  | .fieldAddr s x f => (match ρ x, fieldOff P s f with | .pointer (some a), some off => K (.pointer (some (a.add off))) | _, _ => False)
  | .field t x f => pureK P (Instr.field t (ρ x) f) K
  | .indexAddr t x i => vcIndexAddr P t (ρ x) (ρ i) K
  | .index t x i => cond (strT P t) (vcIndex (ρ x) (ρ i) K) False
  | .extract t i => pureK P (Instr.extract (ρ t) i) K
  | .build t parts => pureK P (Instr.build t (parts.map fun (i, x) => (i, ρ x))) K
  | .slice t x lo hi mx => vcSlice P t (ρ x) (lo.map ρ) (hi.map ρ) (mx.map ρ) K
  | .call c =>
    (match c.callee with
     | .builtin .len => pureK P (Builtin.len_ c.argTypes o.type (c.args.map ρ)) K
     | .builtin .cap => pureK P (Builtin.cap_ c.argTypes o.type (c.args.map ρ)) K
     | .builtin .min => pureK P (Builtin.min_ c.argTypes o.type (c.args.map ρ)) K
     | .builtin .max => pureK P (Builtin.max_ c.argTypes o.type (c.args.map ρ)) K
     | _ => False)
  | _ => False

/-! ### it is sound -/

def PureOut (P : Program) (s : Sem Next) (K : Value → Prop) : Prop := ∃ v, K v ∧ ∀ w, s.run P w = .ok (.value v) w

theorem PureOut.of_pureK {P : Program} {s : Sem Value} {K : Value → Prop} (h : pureK P s K) : PureOut P (do pure (.value (← s))) K := by
  obtain ⟨v, hv, hr⟩ := pureK_run h
  exact ⟨v, hv, fun w => by simp [hr w]⟩

theorem run_underlying_ {P : Program} {t : TypeId} {d : TypeDesc} (h : P.underlying t = some d) (w : World) : (underlying t).run P w = .ok d w := by
  simp [underlying, program, Sem.run, h]

theorem run_sizeOf_ {P : Program} {t : TypeId} {n : Nat} (h : szOf P t = some n) (w : World) : (sizeOf t).run P w = .ok n w := by
  unfold szOf at h
  cases hi : P.info? t with
  | none => simp [hi] at h
  | some i => simp [hi] at h; subst h; simp [sizeOf, typeInfo, program, Sem.run, hi]

theorem run_sliceBound {P : Program} {k : IntKind} {i : Int} {y : Nat} {c : BoundsCode} (h0 : 0 ≤ i) (h1 : i ≤ (y : Int)) (w : World) : (Instr.sliceBound (.int k i) y c).run P w = .ok i.toNat w := by
  simp [Instr.sliceBound, asIntOf, h0, h1]

theorem sliceBounds_ok {P : Program} {isS : Bool} {len cap : Nat} {lo hi mx : Option Value} {Q : Nat → Nat → Nat → Prop} (hm : hi = none → mx = none)
    (h : bound mx cap cap fun m => bound hi len m fun h => bound lo 0 h fun l => Q l h m) : ∃ l h m, Q l h m ∧ ∀ w, (Instr.sliceBounds isS len cap lo hi mx).run P w = .ok (l, h, m) w := by
  unfold bound at h
  cases mx with
  | none =>
    simp only at h
    cases hi with
    | none =>
      simp only at h
      cases lo with
      | none => exact ⟨_, _, _, h, fun w => by simp [Instr.sliceBounds]⟩
      | some v =>
        cases v with
        | int k i => exact ⟨_, _, _, h.2.2, fun w => by simp [Instr.sliceBounds, run_sliceBound h.1 h.2.1]⟩
        | _ => exact absurd h (by simp)
    | some u =>
      cases u with
      | int k j =>
        obtain ⟨h1, h2, h⟩ := h
        cases lo with
        | none => exact ⟨_, _, _, h, fun w => by simp [Instr.sliceBounds, run_sliceBound h1 h2]⟩
        | some v =>
          cases v with
          | int k i => exact ⟨_, _, _, h.2.2, fun w => by simp [Instr.sliceBounds, run_sliceBound h1 h2, run_sliceBound h.1 h.2.1]⟩
          | _ => exact absurd h (by simp)
      | _ => exact absurd h (by simp)
  | some m =>
    cases m with
    | int k q =>
      obtain ⟨h1, h2, h⟩ := h
      cases hi with
      | none => exact absurd (hm rfl) (by simp)
      | some u =>
        cases u with
        | int k j =>
          obtain ⟨h3, h4, h⟩ := h
          cases lo with
          | none => exact ⟨_, _, _, h, fun w => by simp [Instr.sliceBounds, run_sliceBound h1 h2, run_sliceBound h3 h4]⟩
          | some v =>
            cases v with
            | int k i => exact ⟨_, _, _, h.2.2, fun w => by simp [Instr.sliceBounds, run_sliceBound h1 h2, run_sliceBound h3 h4, run_sliceBound h.1 h.2.1]⟩
            | _ => exact absurd h (by simp)
        | _ => exact absurd h (by simp)
    | _ => exact absurd h (by simp)

theorem run_eq_ptr_nil {P : Program} {t e : TypeId} (hu : P.underlying t = some (.pointer e)) (p : Option Addr) (d : Nat) (w : World) : (Op.equalIn (d + 1) t (.pointer p) (.pointer none)).run P w = .ok p.isNone w := by
  cases p <;> simp [Op.equalIn, run_underlying_ hu]
theorem run_eq_slice_nil {P : Program} {t e : TypeId} (hu : P.underlying t = some (.slice e)) (a : Option Addr) (l c l' c' d : Nat) (w : World) : (Op.equalIn (d + 1) t (.slice a l c) (.slice none l' c')).run P w = .ok a.isNone w := by
  cases a <;> simp [Op.equalIn, run_underlying_ hu]
theorem run_eq_map_nil {P : Program} {t k e : TypeId} (hu : P.underlying t = some (.map k e)) (r : Option Nat) (d : Nat) (w : World) : (Op.equalIn (d + 1) t (.map r) (.map none)).run P w = .ok r.isNone w := by
  cases r <;> simp [Op.equalIn, run_underlying_ hu]
theorem binOp_eq_run {P : Program} {op : BinOp} {t : TypeId} {x y : Operand} {vx vy : Value} (hg : ∀ w, (eqGuard op t x y vx vy).run P w = .ok () w)
    (hb : binOp op t vx vy = (do pure (.bool (eqb op (← Op.equal t vx vy)))) ) {b : Bool} (hr : ∀ w, (Op.equalIn (9999 + 1) t vx vy).run P w = .ok b w) (w : World) :
    (do pure (.value (← (do eqGuard op t x y vx vy; binOp op t vx vy))) : Sem Next).run P w = .ok (.value (.bool (eqb op b))) w := by
  have hr' : (Op.equal t vx vy).run P w = .ok b w := hr w
  simp only [Sem.run_bind, hg, hb, Result.andThen_ok, hr', Sem.run_pure]

theorem vcBin_sound {P : Program} {op : BinOp} {t : TypeId} {x y : Operand} {vx vy : Value} {K : Value → Prop} (h : vcBin P op t x y vx vy K) :
    PureOut P (do pure (.value (← (do eqGuard op t x y vx vy; binOp op t vx vy)))) K := by
  unfold vcBin at h
  split at h
  · rename_i he hu
    exact ⟨_, h, binOp_eq_run (fun w => by cases op <;> first | rfl | simp [isEq] at he) (by cases op <;> first | rfl | simp [isEq] at he) (run_eq_ptr_nil hu _ 9999)⟩
  · rename_i he hu
    exact ⟨_, h, binOp_eq_run (fun w => by cases op <;> first | rfl | simp [isEq] at he) (by cases op <;> first | rfl | simp [isEq] at he) (run_eq_slice_nil hu _ _ _ _ _ 9999)⟩
  · rename_i he hu
    exact ⟨_, h, binOp_eq_run (fun w => by cases op <;> first | rfl | simp [isEq] at he) (by cases op <;> first | rfl | simp [isEq] at he) (run_eq_map_nil hu _ 9999)⟩
  · exact PureOut.of_pureK h

theorem gap_imp {hi mx : Option Value} (h : gap hi mx = true) : hi = none → mx = none := by
  intro e; subst e; cases mx with
  | none => rfl
  | some v => cases h
theorem vcSlice_sound {P : Program} {t : TypeId} {x : Value} {lo hi mx : Option Value} {K : Value → Prop} (h : vcSlice P t x lo hi mx K) :
    PureOut P (do pure (.value (← Instr.sliceAt t x lo hi mx))) K := by
  unfold vcSlice at h
  split at h
  · rename_i s hu
    cases mx with
    | some v => exact h.elim
    | none =>
      simp only [Option.isNone_none, cond] at h
      obtain ⟨l, hh, m, hK, hr⟩ := sliceBounds_ok (P := P) (isS := false) (len := s.size) (cap := s.size) (lo := lo) (hi := hi) (mx := none) (Q := fun l h _ => K (.string (s.extract l h))) (fun _ => rfl) (by simpa [bound] using h)
      exact ⟨_, hK, fun w => by simp [Instr.sliceAt, Instr.slice, run_underlying_ hu, hr w]⟩
  · rename_i hu
    split at h
    · exact h.elim
    · rename_i a len cap _ _ z hz
      cases hg : gap hi mx <;> simp only [hg, cond] at h
      obtain ⟨l, hh, m, hK, hr⟩ := sliceBounds_ok (P := P) (isS := true) (gap_imp hg) h
      exact ⟨_, hK, fun w => by simp [Instr.sliceAt, Instr.slice, run_underlying_ hu, hr w, run_sizeOf_ hz]⟩
  · rename_i hu
    split at h
    · exact h.elim
    · rename_i n e a _ _ z hz
      cases hg : gap hi mx <;> simp only [hg, cond] at h
      obtain ⟨l, hh, m, hK, hr⟩ := sliceBounds_ok (P := P) (isS := false) (gap_imp hg) h
      exact ⟨_, hK, fun w => by simp [Instr.sliceAt, Instr.sureAddr, run_underlying_ hu, hr w, run_sizeOf_ hz]⟩
  · exact h.elim

theorem vcIndexAddr_sound {P : Program} {t : TypeId} {x i : Value} {K : Value → Prop} (h : vcIndexAddr P t x i K) :
    PureOut P (do pure (.value (← Instr.indexAt t x i))) K := by
  unfold vcIndexAddr at h
  split at h
  · rename_i hu
    split at h
    · exact h.elim
    · rename_i z hz
      obtain ⟨h0, h1, b, rfl, hK⟩ := h
      exact ⟨_, hK, fun w => by simp [Instr.indexAt, asIntOf, run_underlying_ hu, h0, h1, run_sizeOf_ hz]⟩
  · rename_i hu
    split at h
    · exact h.elim
    · rename_i z hz
      obtain ⟨h0, h1, hK⟩ := h
      exact ⟨_, hK, fun w => by simp [Instr.indexAt, asIntOf, Instr.sureAddr, run_underlying_ hu, h0, h1, run_sizeOf_ hz]⟩
  · exact h.elim

theorem vcIndex_sound {P : Program} {t : TypeId} {x i : Value} {K : Value → Prop} (ht : strT P t = true) (h : vcIndex x i K) :
    PureOut P (do pure (.value (← Instr.index t x i))) K := by
  have hu : P.underlying t = some .string := by
    unfold strT at ht
    split at ht
    · assumption
    · cases ht
  unfold vcIndex at h
  split at h
  · obtain ⟨h0, b, hb, hK⟩ := h
    exact ⟨_, hK, fun w => by simp [Instr.index, asIntOf, run_underlying_ hu, h0, hb]⟩
  · exact h.elim

theorem vcPure_sound {P : Program} {ρ : Operand → Value} {o : Oper} {K : Value → Prop} (h : vcPure P ρ o K) : PureOut P (execOp ρ o) K := by
  obtain ⟨dst, op, type, pos, after, guard⟩ := o
  cases op <;> simp only [vcPure] at h <;> simp only [execOp]
  case move x => exact ⟨_, h, fun w => rfl⟩
  case assign x => exact ⟨_, h, fun w => rfl⟩
  case pick c a b =>
    split at h
    · rename_i t ht
      rw [ht]
      cases t
      · exact ⟨_, by simpa using h, fun w => by simp [asBool]⟩
      · exact ⟨_, by simpa using h, fun w => by simp [asBool]⟩
    · exact h.elim
  case nilCheck x =>
    split at h
    · rename_i p hp
      obtain ⟨a, rfl, hK⟩ := h
      rw [hp]
      exact ⟨_, hK, fun w => rfl⟩
    · rename_i hp
      rw [hp]
      exact ⟨_, h, fun w => rfl⟩
    · exact h.elim
  case binOp => exact vcBin_sound h
  case unOp => exact PureOut.of_pureK h
  case convert => exact PureOut.of_pureK h
  case makeInterface => exact PureOut.of_pureK h
  case makeFunc => exact ⟨_, h, fun w => by simp [Instr.makeFunc]⟩
  case fieldAddr s x f =>
    split at h
    · rename_i a off ha ho
      rw [ha]
      refine ⟨_, h, fun w => ?_⟩
      unfold fieldOff at ho
      split at ho
      · rename_i fs hu
        split at ho
        · rename_i fd hf
          split at ho
          · rename_i i hi
            cases hb : Nat.beq i.size 0 <;> simp only [hb, cond] at ho
            · injection ho with ho
              subst ho
              have hne : i.size ≠ 0 := fun e => by rw [e] at hb; cases hb
              have hsz : szOf P fd.type = some i.size := by simp [szOf, hi]
              simp [Instr.fieldAt, run_underlying_ hu, hf, Instr.sureAddr, fieldPlace, run_sizeOf_ hsz, hne]
            · cases ho
          · cases ho
        · cases ho
      · cases ho
    · exact h.elim
  case field => exact PureOut.of_pureK h
  case indexAddr => exact vcIndexAddr_sound h
  case index t x i =>
    cases hs : strT P t <;> simp only [hs, cond] at h
    exact vcIndex_sound hs h
  case extract => exact PureOut.of_pureK h
  case build => exact PureOut.of_pureK h
  case slice => exact vcSlice_sound h
  case call c =>
    split at h <;> rename_i hc <;> first
      | exact h.elim
      | (obtain ⟨v, hv, hr⟩ := pureK_run h
         refine ⟨v, hv, fun w => ?_⟩
         simp [resolve, hc, invoke, builtin, hr w])
  all_goals exact h.elim

theorem bound_mono {v : Option Value} {d m : Nat} {K K' : Nat → Prop} (h : ∀ n, K n → K' n) (hk : bound v d m K) : bound v d m K' := by
  unfold bound at *
  split at hk
  · exact h _ hk
  · exact ⟨hk.1, hk.2.1, h _ hk.2.2⟩
  · exact hk

theorem vcPure_mono {P : Program} {ρ : Operand → Value} {o : Oper} {K K' : Value → Prop} (hm : ∀ v, K v → K' v) (h : vcPure P ρ o K) : vcPure P ρ o K' := by
  obtain ⟨dst, op, type, pos, after, guard⟩ := o
  cases op <;> simp only [vcPure] at h ⊢
  case move => exact hm _ h
  case assign => exact hm _ h
  case pick =>
    split at h
    · split at h
      · rename_i ht; rw [if_pos ht]; exact hm _ h
      · rename_i ht; rw [if_neg ht]; exact hm _ h
    · exact h
  case nilCheck =>
    split at h
    · obtain ⟨a, e, hK⟩ := h; exact ⟨a, e, hm _ hK⟩
    · exact hm _ h
    · exact h
  case binOp =>
    unfold vcBin at *
    split at h
    · exact hm _ h
    · exact hm _ h
    · exact hm _ h
    · exact pureK_mono hm h
  case makeFunc => exact hm _ h
  case fieldAddr =>
    split at h
    · exact hm _ h
    · exact h
  case indexAddr =>
    unfold vcIndexAddr at *
    split at h
    · split at h
      · exact h
      · obtain ⟨h0, h1, b, e, hK⟩ := h; exact ⟨h0, h1, b, e, hm _ hK⟩
    · split at h
      · exact h
      · exact ⟨h.1, h.2.1, hm _ h.2.2⟩
    · exact h
  case index t x i =>
    cases hs : strT P t <;> simp only [hs, cond] at h ⊢
    unfold vcIndex at *
    split at h
    · obtain ⟨h0, b, e, hK⟩ := h; exact ⟨h0, b, e, hm _ hK⟩
    · exact h
  case slice =>
    rename_i t x lo hi mx
    unfold vcSlice at *
    split at h
    · cases hg : (mx.map ρ).isNone <;> simp only [hg, cond] at h ⊢
      exact bound_mono (fun _ h1 => bound_mono (fun _ h2 => hm _ h2) h1) h
    · split at h
      · exact h
      · cases hg : gap (hi.map ρ) (mx.map ρ) <;> simp only [hg, cond] at h ⊢
        exact bound_mono (fun _ h1 => bound_mono (fun _ h2 => bound_mono (fun _ h3 => hm _ h3) h2) h1) h
    · split at h
      · exact h
      · cases hg : gap (hi.map ρ) (mx.map ρ) <;> simp only [hg, cond] at h ⊢
        exact bound_mono (fun _ h1 => bound_mono (fun _ h2 => bound_mono (fun _ h3 => hm _ h3) h2) h1) h
    · exact h
  case call =>
    split at h <;> first | exact pureK_mono hm h | exact h
  all_goals first | exact pureK_mono hm h | exact h

/-- It looks at its operands alone. -/
theorem vcPure_congr {P : Program} {ρ ρ' : Operand → Value} (o : Oper) (h : ∀ x ∈ o.op.operands, ρ x = ρ' x) (K : Value → Prop) : vcPure P ρ o K = vcPure P ρ' o K := by
  obtain ⟨dst, op, type, pos, after, guard⟩ := o
  have pairs : ∀ ps : Array (Nat × Operand), (∀ x ∈ ps.map (·.2), ρ x = ρ' x) →
      (ps.map fun (i, x) => (i, ρ x)) = (ps.map fun (i, x) => (i, ρ' x)) := fun ps hp =>
    Array.map_congr_left fun p hm => by
      obtain ⟨i, x⟩ := p
      simp only [hp x (Array.mem_map.2 ⟨(i, x), hm, rfl⟩)]
  cases op <;> simp only [Op.operands] at h <;> simp only [vcPure]
  case build t ps => rw [pairs ps fun x hx => h x (by simpa using hx)]
  case makeFunc fn first captured =>
    rw [Array.map_congr_left (xs := first) fun x hx => h x (by simp [hx]), Array.map_congr_left (xs := captured) fun x hx => h x (by simp [hx])]
  case call c =>
    have hargs : c.args.map ρ = c.args.map ρ' := Array.map_congr_left fun x hx => h x (by simp [Call.operands, hx])
    rw [hargs]
  case slice t x lo hi mx => cases lo <;> cases hi <;> cases mx <;> simp_all
  all_goals (first | rfl | (simp_all; done))

end Go.Vc

/-
  One operation that looks at memory, or calls: what it comes to, as a Prop; sound for the model's own run.
-/
namespace Go.Vc
open Go

def hasBody (P : Program) (g : FuncId) : Bool :=
  match P.funcs[g]? with
  | some fn => fn.body.isSome && !(fn.name == "runtime.NumGoroutine")
  | none => false
def aggT (P : Program) (t : TypeId) : Bool := match P.underlying t with | some (.struct _) | some (.array _ _) => true | _ => false
def ldOk (P : Program) (t : TypeId) (z : Value) : Bool :=
  match z with
  | .agg cs => aggT P t && (match szOf P t with | some n => Nat.beq cs.size n | none => false)
  | z => one z && !aggT P t && (P.underlying t).isSome
def shp (P : Program) (o : Oper) (v : Value) (K : Value → Prop) : Prop :=
  match o.dst with
  | none => K v
  | some _ => shaped P o.type v K
def ret (K : Value → World → Prop) (X : List PanicEntry → World → Prop) : Ending → World → Prop
  | .returned v, w => K v w
  | .panicked ch, w => X ch w
  | .outgrown, _ => False
def retK (P : Program) (o : Oper) (K : Value → World → Prop) (X : List PanicEntry → World → Prop) : Ending → World → Prop :=
  ret (fun v w => shp P o v fun v => K v w) X
def bsCells (P : Program) (e : TypeId) (len : Nat) (parts : Array (Nat × Value)) : Option (Array Value) :=
  match szOf P e, tmpl P e with
  | some size, some z => cond (Nat.ble (len * size) 16777216) (Instr.fill (fun i => some (i * size, size)) ((Array.range (len * size)).map ((if len * size = 0 then #[] else z.cells)[· % (if len * size = 0 then #[] else z.cells : Array Value).size]!)) parts.toList) none
  | _, _ => none

def runS (P : Program) (o : Oper) (s : Sem Value) (w : World) (K : Value → World → Prop) (X : List PanicEntry → World → Prop) : Prop :=
  runV P s w (fun v w' => shp P o v fun v => K v w') X
def runU (P : Program) (s : Sem Unit) (w : World) (K : Value → World → Prop) (X : List PanicEntry → World → Prop) : Prop :=
  runV P s w (fun _ w' => K undef w') X

def nxv (K : Value → World → Prop) : Next → World → Prop := fun nx w => match nx with | .value v => K v w | _ => False
def isFn : Operand → Bool
  | .func _ => true
  | _ => false
/-- A call of a function by its name (d); of a function's value. -/
def vcCall (P : Program) (o : Oper) (d : Bool) (f : Value) (args : List Value) (w : World) (K : Value → World → Prop) (X : List PanicEntry → World → Prop) : Prop :=
  match f with
  | .func (.func g) fi ca =>
    cond d (cond (hasBody P g) (Calls P g ⟨fi.toList ++ (args ++ ca.toList)⟩ w (retK P o K X))
      (runV P (callFunc g ⟨fi.toList ++ (args ++ ca.toList)⟩) w (nxv fun v w' => shp P o v (fun v => K v w')) X))
      (hasBody P g = true ∧ Calls P g ⟨fi.toList ++ (args ++ ca.toList)⟩ w (retK P o K X))
  | _ => False

/-- A call of a method by its name. -/
def vcInvoke (P : Program) (o : Oper) (recv : Value) (name : String) (args : Array Value) (w : World) (K : Value → World → Prop) (X : List PanicEntry → World → Prop) : Prop :=
  ∃ g ags, (callMethod recv name args).run P w = .ok (.enter g ags) w ∧ Calls P g ags w (retK P o K X)

def vcMem (P : Program) (ρ : Operand → Value) (o : Oper) (w : World) (K : Value → World → Prop) (X : List PanicEntry → World → Prop) : Prop :=
  match o.op with
  | .alloc t => (match tmpl P t with | some z => K (.pointer (some ⟨w.heap.size, 0, none⟩)) (w.alloc (.cells z.cells t)) | none => False)
  | .box t x => K (.pointer (some ⟨w.heap.size, 0, none⟩)) (w.alloc (.cells (ρ x).cells t))
  | .load t x => (match ρ x, tmpl P t with | .pointer (some a), some z => cond (ldOk P t z) (mk 4 z fun u => rd w a u ∧ K u w) False | _, _ => False)
  | .store t x y => (match ρ x, szOf P t with | .pointer (some a), some n => (ρ y).cells.size = n ∧ wrOk w a (ρ y) ∧ K undef (wr w a (ρ y)) | _, _ => False)
  | .buildSlice t len parts => (match P.underlying t with
    | some (.slice e) => (match bsCells P e len (parts.map fun (i, x) => (i, ρ x)) with | some cs => K (.slice (some ⟨w.heap.size, 0, none⟩) len len) (w.alloc (.cells cs e)) | none => False)
    | _ => False)
  | .makeMap _ none => K (.map (some w.heap.size)) (w.alloc (.map #[] 0))
  | .binOp op t x y _ => runS P o (do eqGuard op t x y (ρ x) (ρ y); binOp op t (ρ x) (ρ y)) w K X
  | .convert s d x => runS P o (convert s d (ρ x)) w K X
  | .lookup t x i ok => runS P o (Instr.lookup t (ρ x) (ρ i) ok) w K X
  | .makeSlice t l c => runS P o (Instr.makeSlice t (ρ l) (ρ c)) w K X
  | .typeAssert x t u ok => cond ok (runV P (Instr.typeAssert (ρ x) t u ok) w (fun v w' => ∃ (a : Value) (b : Bool), v = .tuple ⟨[a, .bool b]⟩ ∧ shaped P u a fun a => K (.tuple ⟨[a, .bool b]⟩) w') X) (runS P o (Instr.typeAssert (ρ x) t u ok) w K X)
  | .range t x => runV P (Instr.range t (ρ x)) w (fun v w' => ∃ a, v = .pointer (some a) ∧ K (.pointer (some a)) w') X
  | .next it s => cond s (runS P o (Instr.next (ρ it) s o.type) w K X) (runV P (Instr.next (ρ it) s o.type) w (fun v w' => ∃ b l, v = .tuple ⟨.bool b :: l⟩ ∧ K (.tuple ⟨.bool b :: l⟩) w') X)
  | .entry it => runV P (Instr.entry (ρ it)) w (fun v w' => ∃ k u, v = .tuple #[k, u] ∧ K (.tuple #[k, u]) w') X
  | .index t x i => runS P o (Instr.index t (ρ x) (ρ i)) w K X
  | .mapUpdate t m k x | .insert t m k x => runU P (Instr.mapUpdate t (ρ m) (ρ k) (ρ x)) w K X
  | .panic x => runS P o (Instr.panic (ρ x)) w K X
  | .call c =>
    (match c.callee with
     | .builtin .append => runS P o (Builtin.append_ c.argTypes o.type (c.args.map ρ)) w K X
     | .builtin .copy => runS P o (Builtin.copy_ c.argTypes o.type (c.args.map ρ)) w K X
     | .builtin .delete => runS P o (Builtin.delete_ c.argTypes o.type (c.args.map ρ)) w K X
     | .builtin .clear => runS P o (Builtin.clear_ c.argTypes o.type (c.args.map ρ)) w K X
     | .builtin .len => runS P o (Builtin.len_ c.argTypes o.type (c.args.map ρ)) w K X
     | .builtin .max => runS P o (Builtin.max_ c.argTypes o.type (c.args.map ρ)) w K X
     | .builtin .min => runS P o (Builtin.min_ c.argTypes o.type (c.args.map ρ)) w K X
     | .builtin .panic => runS P o (Instr.panic ((c.args.map ρ).getD 0 .nilIface)) w K X
     | .value f => vcCall P o (isFn f) (ρ f) (c.args.map ρ).toList w K X
     | .invoke r name => vcInvoke P o (ρ r) name (c.args.map ρ) w K X
     | _ => False)
  | _ => False

/-! ### it is sound -/

def Out (P : Program) (s : Sem Next) (w : World) (K : Value → World → Prop) (X : List PanicEntry → World → Prop) : Prop :=
  match s.run P w with
  | .ok (.value v) w' => K v w'
  | .ok .skip w' => K undef w'
  | .ok (.enter f args) w' => Calls P f args w' fun
      | .returned v, w'' => K v w''
      | .panicked ch, w'' => X ch w''
      | .outgrown, _ => False
  | .halt (.panic v) w' => X (chain v) w'
  | _ => False

section
variable {P : Program} {ρ : Operand → Value} {o : Oper} {w : World} {K : Value → World → Prop} {X : List PanicEntry → World → Prop}

theorem shp_at {v : Value} {K : Value → Prop} (h : shp P o v K) : K v := by
  unfold shp at h
  split at h
  · exact h
  · exact shaped_at h
theorem shp_mono {v : Value} {K K' : Value → Prop} (hm : ∀ v, K v → K' v) (h : shp P o v K) : shp P o v K' := by
  unfold shp at *
  split at h
  · exact hm _ h
  · exact shaped_mono hm h

theorem Out.of_runS {s : Sem Value} (h : runS P o s w K X) : Out P (do pure (.value (← s))) w K X := by
  unfold runS runV at h
  unfold Out
  simp only [Sem.run_bind, Sem.run_pure]
  generalize s.run P w = r at *
  cases r with
  | ok v w' => exact shp_at h
  | halt x w' => cases x <;> first | exact h | exact h.elim
theorem Out.of_runV {s : Sem Value} (h : runV P s w K X) : Out P (do pure (.value (← s))) w K X := by
  unfold runV at h
  unfold Out
  simp only [Sem.run_bind, Sem.run_pure]
  generalize s.run P w = r at *
  cases r with
  | ok v w' => exact h
  | halt x w' => cases x <;> first | exact h | exact h.elim
theorem Out.of_runU {s : Sem Unit} (h : runU P s w K X) : Out P (do s; pure .skip) w K X := by
  unfold runU runV at h
  unfold Out
  simp only [Sem.run_bind, Sem.run_pure]
  generalize s.run P w = r at *
  cases r with
  | ok v w' => exact h
  | halt x w' => cases x <;> first | exact h | exact h.elim
theorem Out.of_run {s : Sem Value} {v : Value} {w' : World} (h : s.run P w = .ok v w') (hk : K v w') : Out P (do pure (.value (← s))) w K X := by
  unfold Out
  simp only [Sem.run_bind, Sem.run_pure, h, Result.andThen_ok]
  exact hk

theorem run_zeroValue_ {t : TypeId} {z : Value} (h : tmpl P t = some z) (w : World) : (zeroValue t).run P w = .ok z w := by
  unfold tmpl at h
  cases hi : P.info? t with
  | none => simp [hi] at h
  | some i =>
    simp only [hi, Option.bind_some] at h
    simp [zeroValue, typeInfo, program, Sem.run, hi, h]

theorem run_newVar_ (t : TypeId) (v : Value) (w : World) : (newVar t v).run P w = .ok ⟨w.heap.size, 0, none⟩ (w.alloc (.cells v.cells t)) := by
  rfl

theorem run_loadCellsFrom (a : Addr) : ∀ (l : List Value) (i : Nat) (acc : Array Value), (∀ j v, l[j]? = some v → w.cell? (a.add (i + j)) = some v) →
    (loadCellsFrom a i l.length acc).run P w = .ok (acc ++ l.toArray) w
  | [], i, acc, _ => by simp [loadCellsFrom]
  | v :: r, i, acc, h => by
    have h0 : w.cell? (a.add i) = some v := by simpa using h 0 v (by simp)
    have ih := run_loadCellsFrom a r (i + 1) (acc.push v) fun j u hu => by
      have := h (j + 1) u (by simpa using hu)
      rwa [show i + 1 + j = i + (j + 1) from by omega]
    simp [loadCellsFrom, load, Sem.run, h0, ih]

theorem run_isAgg {t : TypeId} {d : TypeDesc} (h : P.underlying t = some d) (w : World) : (isAgg t).run P w = .ok (aggT P t) w := by
  unfold isAgg aggT
  simp only [Sem.run_bind, run_underlying_ h, Result.andThen_ok, h]
  cases d <;> rfl

theorem under_some_of_agg {t : TypeId} (h : aggT P t = true) : ∃ d, P.underlying t = some d := by
  unfold aggT at h
  cases hu : P.underlying t with
  | none => simp [hu] at h
  | some d => exact ⟨d, rfl⟩

theorem run_loadAt {t : TypeId} {z : Value} {a : Addr} {u : Value} (hz : ldOk P t z = true) (hu : alike z u) (hr : rd w a u) : (Instr.loadAt t (.pointer (some a))).run P w = .ok u w := by
  unfold ldOk at hz
  split at hz
  · rename_i cs
    simp only [Bool.and_eq_true] at hz
    obtain ⟨hag, hs⟩ := hz
    obtain ⟨d, hd⟩ := under_some_of_agg hag
    obtain ⟨xs, rfl, hxs⟩ := hu
    cases hn : szOf P t with
    | none => simp [hn] at hs
    | some n =>
      simp only [hn] at hs
      have hcs : cs.size = n := Nat.eq_of_beq_eq_true hs
      have hl := run_loadCellsFrom (P := P) (w := w) a xs.toList 0 #[] fun j v hv => by
        rw [Nat.zero_add]
        exact hr j v (by simpa [Value.cells] using hv)
      have hlen : xs.toList.length = n := by simp [hxs, hcs]
      rw [hlen] at hl
      simp [Instr.loadAt, Instr.sureAddr, loadVar, run_isAgg hd, hag, run_sizeOf_ hn, loadCells, hl]
  · rename_i hnagg
    simp only [Bool.and_eq_true, Bool.not_eq_true'] at hz
    obtain ⟨⟨ho, hag⟩, hd⟩ := hz
    obtain ⟨d, hd⟩ := Option.isSome_iff_exists.1 hd
    have hou : one u = true := by
      unfold alike at hu
      split at hu
      · rename_i cs; cases ho
      · cases ho
      · exact hu
    have hcells : u.cells = #[u] := by cases u <;> first | rfl | cases hou
    have hc : w.cell? a = some u := by
      have := hr 0 u (by rw [hcells]; rfl)
      simpa [Addr.add] using this
    simp [Instr.loadAt, Instr.sureAddr, loadVar, run_isAgg hd, hag, hc]

theorem cell_setCell_some {w : World} {p : Addr} {v : Value} (q : Addr) (u : Value) (h : w.cell? q = some u) : ∃ u', (w.setCell p v).cell? q = some u' := by
  unfold World.cell? World.setCell at *
  simp only [Array.getElem?_modify]
  by_cases hb : p.block = q.block
  · simp only [hb, if_true]
    cases ho : w.heap[q.block]? with
    | none => simp [ho] at h
    | some o =>
      cases o <;> simp only [ho, Option.map_some] at h ⊢ <;> try cases h
      rename_i c e fz
      split at h
      · cases h
      · rename_i hs
        rw [if_neg hs]
        have hlt : q.off < c.size := (Array.getElem?_eq_some_iff.1 h).1
        refine ⟨(if p.spot.isSome then c else c.setIfInBounds p.off v)[q.off]'(by split <;> simp [hlt]), Array.getElem?_eq_getElem _⟩
  · simp only [hb, if_false]
    exact ⟨u, h⟩
theorem frozen_setCell {w : World} {p : Addr} {v : Value} (q : Addr) : (w.setCell p v).frozen? q = w.frozen? q := by
  unfold World.frozen? World.setCell
  simp only [Array.getElem?_modify]
  by_cases hb : p.block = q.block
  · simp only [hb, if_true]
    cases ho : w.heap[q.block]? with
    | none => simp
    | some o => cases o <;> simp
  · simp only [hb, if_false]

theorem run_storeCells (a : Addr) : ∀ (l : List Value) (i : Nat) (w : World), (∀ j v, l[j]? = some v → one v = true ∧ (∃ old, w.cell? (a.add (i + j)) = some old) ∧ w.frozen? (a.add (i + j)) = false) →
    (storeCells a l i).run P w = .ok () (wrL w a l i)
  | [], i, w, _ => by simp [storeCells, wrL]
  | v :: r, i, w, h => by
    obtain ⟨ho, ⟨old, hc⟩, hf⟩ := h 0 v (by simp)
    rw [Nat.add_zero] at hc hf
    have ih := run_storeCells a r (i + 1) (w.setCell (a.add i) v) fun j u hu => by
      obtain ⟨h1, ⟨old', h2⟩, h3⟩ := h (j + 1) u (by simpa using hu)
      rw [show i + (j + 1) = i + 1 + j from by omega] at h2 h3
      exact ⟨h1, cell_setCell_some _ _ h2, by rw [frozen_setCell]; exact h3⟩
    have hs : (store (a.add i) v).run P w = .ok () (w.setCell (a.add i) v) := by
      cases v <;> first | (simp only [one] at ho; cases ho; done) | simp [store, Sem.run, hc, hf]
    rw [storeCells, Sem.run_bind, hs, Result.andThen_ok, ih]
    rfl

theorem run_storeAt {t : TypeId} {a : Addr} {u : Value} {n : Nat} (hn : szOf P t = some n) (hs : u.cells.size = n) (h : wrOk w a u) : (Instr.storeAt t (.pointer (some a)) u).run P w = .ok () (wr w a u) := by
  have hr := run_storeCells (P := P) a u.cells.toList 0 w fun j v hv => by
    rw [Nat.zero_add]
    exact h j v (by simpa using hv)
  simp [Instr.storeAt, Instr.sureAddr, storeVar, run_sizeOf_ hn, hs, hr, wr]

theorem run_callFunc {g : FuncId} (h : hasBody P g = true) (args : Array Value) (w : World) : (callFunc g args).run P w = .ok (.enter g args) w := by
  unfold hasBody at h
  cases hg : P.funcs[g]? with
  | none => simp [hg] at h
  | some fn =>
    simp only [hg, Bool.and_eq_true, Bool.not_eq_true'] at h
    obtain ⟨hb, hn⟩ := h
    have hb' : ¬ fn.body = none := by cases hbb : fn.body <;> simp [hbb] at hb ⊢
    have hn' : ¬ fn.name = "runtime.NumGoroutine" := by simpa using hn
    simp [callFunc, program, Sem.run, hg, hn', hb']

theorem vcCall_sound {d : Bool} {f : Value} {args : Array Value} (h : vcCall P o d f args.toList w K X) : Out P (do let d ← Deferred.ofValue f args; invoke d.target d.args) w K X := by
  unfold vcCall at h
  split at h
  · rename_i g fi ca
    have hargs : fi ++ args ++ ca = (⟨fi.toList ++ (args.toList ++ ca.toList)⟩ : Array Value) := by
      apply Array.ext'
      simp
    have body : hasBody P g = true → Calls P g ⟨fi.toList ++ (args.toList ++ ca.toList)⟩ w (retK P o K X) → Out P (do let d ← Deferred.ofValue (.func (.func g) fi ca) args; invoke d.target d.args) w K X := by
      intro hb h
      unfold Out
      simp only [Deferred.ofValue, Sem.run_bind, Sem.run_pure, Result.andThen_ok, invoke, hargs, run_callFunc hb]
      refine h.mono fun e w' he => ?_
      cases e <;> first | exact shp_at (K := fun v => K v w') he | exact he
    cases d <;> simp only [cond] at h
    · exact body h.1 h.2
    · cases hb : hasBody P g <;> simp only [hb] at h
      · unfold runV at h
        unfold Out
        simp only [Deferred.ofValue, Sem.run_bind, Sem.run_pure, Result.andThen_ok, invoke, hargs]
        generalize (callFunc g _).run P w = r at *
        cases r with
        | ok nx w' => cases nx <;> first | exact shp_at (K := fun v => K v w') h | exact h.elim
        | halt x w' => cases x <;> first | exact h | exact h.elim
      · exact body hb h
  · exact h.elim

theorem vcInvoke_sound {recv : Value} {name : String} {args : Array Value} (h : vcInvoke P o recv name args w K X) : Out P (do let d ← (pure { target := .fn (.method name) #[], args := #[recv] ++ args } : Sem Deferred); invoke d.target d.args) w K X := by
  obtain ⟨g, ags, hr, h⟩ := h
  unfold Out
  have e0 : (#[recv] ++ args)[0]? = some recv := by rw [Array.getElem?_append_left (by exact Nat.zero_lt_one)]; rfl
  have e1 : (#[recv] ++ args).extract 1 (#[recv] ++ args).size = args := by
    apply Array.ext'
    rw [Array.toList_extract]
    simp [List.take_of_length_le]
  simp only [Sem.run_bind, Sem.run_pure, Result.andThen_ok, invoke, e0, e1, hr]
  refine h.mono fun e w' he => ?_
  cases e <;> first | exact shp_at (K := fun v => K v w') he | exact he
theorem bsCells_sound {t e : TypeId} {len : Nat} {parts : Array (Nat × Value)} {cs : Array Value} (hu : P.underlying t = some (.slice e)) (h : bsCells P e len parts = some cs) (w : World) :
    (Instr.buildSlice t len parts).run P w = .ok (.slice (some ⟨w.heap.size, 0, none⟩) len len) (w.alloc (.cells cs e)) := by
  unfold bsCells at h
  split at h
  · rename_i size z hs hz
    cases hb : Nat.ble (len * size) 16777216 <;> simp only [hb, cond] at h
    · cases h
    have hle : ¬ (len * size > 2 ^ 24) := by have := Nat.le_of_ble_eq_true hb; omega
    have hnr : (newRow e cs).run P w = .ok ⟨w.heap.size, 0, none⟩ (w.alloc (.cells cs e)) := rfl
    by_cases h0 : len * size = 0
    · rw [if_pos h0, h0] at h
      have e0 : Array.range 0 = #[] := rfl
      simp only [e0, List.map_toArray, List.map_nil] at h
      simp [Instr.buildSlice, run_underlying_ hu, run_sizeOf_ hs, h0, e0, h, hnr]
    · rw [if_neg h0] at h
      simp [Instr.buildSlice, run_underlying_ hu, run_sizeOf_ hs, hle, h0, run_zeroValue_ hz, h, hnr]
  · cases h

theorem vcMem_sound (h : vcMem P ρ o w K X) : Out P (execOp ρ o) w K X := by
  obtain ⟨dst, op, type, pos, after, guard⟩ := o
  cases op <;> simp only [vcMem] at h <;> simp only [execOp]
  case alloc t =>
    split at h
    · rename_i z hz
      exact Out.of_run (by simp [Instr.alloc, run_zeroValue_ hz, run_newVar_]) h
    · exact h.elim
  case box t x => exact Out.of_run (by simp [Instr.box, run_newVar_]) h
  case load t x =>
    split at h
    · rename_i a z ha hz
      cases hl : ldOk P t z <;> simp only [hl, cond] at h
      obtain ⟨u, hu, hr, hK⟩ := mk_some _ _ _ h
      rw [ha]
      exact Out.of_run (run_loadAt hl hu hr) hK
    · exact h.elim
  case store t x y =>
    split at h
    · rename_i a n ha hn
      obtain ⟨hs, hw, hK⟩ := h
      rw [ha]
      unfold Out
      simp only [Sem.run_bind, run_storeAt hn hs hw, Result.andThen_ok, Sem.run_pure]
      exact hK
    · exact h.elim
  case buildSlice t len parts =>
    split at h
    · rename_i e hu
      split at h
      · rename_i cs hc
        exact Out.of_run (bsCells_sound hu hc w) h
      · exact h.elim
    · exact h.elim
  case makeMap t r =>
    cases r with
    | none =>
      simp only at h
      exact Out.of_run (s := Instr.makeMap t (none.map ρ)) (v := .map (some w.heap.size)) (w' := w.alloc (.map #[] 0)) rfl h
    | some r => simp only at h
  case typeAssert x t u ok =>
    cases ok
    · exact Out.of_runS h
    · exact Out.of_runV (runV_mono (fun v w' ⟨a, b, e, hk⟩ => by rw [e]; exact shaped_at (K := fun a => K (.tuple ⟨[a, .bool b]⟩) w') hk) (fun _ _ hx => hx) h)
  case call c =>
    split at h <;> rename_i hc <;> first
      | exact h.elim
      | (have := vcInvoke_sound h
         simpa [resolve, hc] using this)
      | (have := vcCall_sound h
         simpa [resolve, hc] using this)
      | (have := Out.of_runS h
         simpa [resolve, hc, invoke, builtin] using this)
  case range => exact Out.of_runV (runV_mono (fun v w' ⟨a, e, hk⟩ => by rw [e]; exact hk) (fun _ _ hx => hx) h)
  case next it s =>
    cases s <;> simp only [cond] at h
    · exact Out.of_runV (runV_mono (fun v w' ⟨b, l, e, hk⟩ => by rw [e]; exact hk) (fun _ _ hx => hx) h)
    · exact Out.of_runS h
  case entry => exact Out.of_runV (runV_mono (fun v w' ⟨k, u, e, hk⟩ => by rw [e]; exact hk) (fun _ _ hx => hx) h)
  all_goals first | exact Out.of_runS h | exact Out.of_runU h | exact h.elim

end
end Go.Vc

/-
  Code: what it comes to, as a Prop that the kernel reckons; sound for the model's own weakest condition.
-/
namespace Go.Vc
open Go

section
variable {P : Program} {ρ ρ' : Operand → Value} {o : Oper} {w : World} {K K' : Value → World → Prop} {X X' : List PanicEntry → World → Prop}

theorem vcCall_mono {d : Bool} {f : Value} {args : List Value} (hm : ∀ v w, K v w → K' v w) (hx : ∀ c w, X c w → X' c w) (h : vcCall P o d f args w K X) : vcCall P o d f args w K' X' := by
  unfold vcCall at *
  split at h
  · rename_i g fi ca
    have cm : ∀ {a : Array Value}, Calls P g a w (retK P o K X) → Calls P g a w (retK P o K' X') := fun h => h.mono fun e w' he => by
      cases e <;> first | exact shp_mono (K := fun v => K v w') (K' := fun v => K' v w') (fun _ hv => hm _ _ hv) he | exact hx _ _ he | exact he
    cases d <;> simp only [cond] at h ⊢
    · exact ⟨h.1, cm h.2⟩
    · cases hb : hasBody P g <;> simp only [hb] at h ⊢
      · refine runV_mono (fun nx w' hn => ?_) hx h
        cases nx <;> first | exact shp_mono (K := fun v => K v w') (K' := fun v => K' v w') (fun _ hv => hm _ _ hv) hn | exact hn
      · exact cm h
  · exact h

theorem runS_mono {s : Sem Value} (hm : ∀ v w, K v w → K' v w) (hx : ∀ c w, X c w → X' c w) (h : runS P o s w K X) : runS P o s w K' X' :=
  runV_mono (fun _ _ hv => shp_mono (fun _ hu => hm _ _ hu) hv) hx h
theorem runU_mono {s : Sem Unit} (hm : ∀ v w, K v w → K' v w) (hx : ∀ c w, X c w → X' c w) (h : runU P s w K X) : runU P s w K' X' :=
  runV_mono (fun _ _ hv => hm _ _ hv) hx h

theorem vcInvoke_mono {recv : Value} {name : String} {args : Array Value} (hm : ∀ v w, K v w → K' v w) (hx : ∀ c w, X c w → X' c w) (h : vcInvoke P o recv name args w K X) : vcInvoke P o recv name args w K' X' := by
  obtain ⟨g, ags, hr, h⟩ := h
  exact ⟨g, ags, hr, h.mono fun e w' he => by
      cases e <;> first | exact shp_mono (K := fun v => K v w') (K' := fun v => K' v w') (fun _ hv => hm _ _ hv) he | exact hx _ _ he | exact he⟩
theorem vcMem_mono (hm : ∀ v w, K v w → K' v w) (hx : ∀ c w, X c w → X' c w) (h : vcMem P ρ o w K X) : vcMem P ρ o w K' X' := by
  obtain ⟨dst, op, type, pos, after, guard⟩ := o
  cases op <;> simp only [vcMem] at h ⊢
  case alloc =>
    split at h
    · exact hm _ _ h
    · exact h
  case box => exact hm _ _ h
  case load t x =>
    split at h
    · rename_i a z ha hz
      cases hl : ldOk P t z <;> simp only [hl, cond] at h ⊢
      exact mk_mono _ _ _ _ (fun _ hu => ⟨hu.1, hm _ _ hu.2⟩) h
    · exact h
  case store =>
    split at h
    · exact ⟨h.1, h.2.1, hm _ _ h.2.2⟩
    · exact h
  case buildSlice =>
    split at h
    · split at h
      · exact hm _ _ h
      · exact h
    · exact h
  case makeMap t r =>
    cases r with
    | none => simp only at h ⊢; exact hm _ _ h
    | some r => simp only at h
  case call =>
    split at h <;> first
      | exact h.elim
      | exact vcCall_mono hm hx h
      | exact vcInvoke_mono hm hx h
      | exact runS_mono hm hx h
  case typeAssert x t u ok =>
    cases ok
    · exact runS_mono hm hx h
    · exact runV_mono (fun _ _ ⟨a, b, e, hk⟩ => ⟨a, b, e, shaped_mono (fun _ hu => hm _ _ hu) hk⟩) hx h
  case range => exact runV_mono (fun _ _ ⟨a, e, hk⟩ => ⟨a, e, hm _ _ hk⟩) hx h
  case next it s =>
    cases s <;> simp only [cond] at h ⊢
    · exact runV_mono (fun _ _ ⟨b, l, e, hk⟩ => ⟨b, l, e, hm _ _ hk⟩) hx h
    · exact runS_mono hm hx h
  case entry => exact runV_mono (fun _ _ ⟨k, u, e, hk⟩ => ⟨k, u, e, hm _ _ hk⟩) hx h
  all_goals first | exact runS_mono hm hx h | exact runU_mono hm hx h | exact h

theorem vcMem_congr (o : Oper) (h : ∀ x ∈ o.op.operands, ρ x = ρ' x) : vcMem P ρ o w K X = vcMem P ρ' o w K X := by
  obtain ⟨dst, op, type, pos, after, guard⟩ := o
  have pairs : ∀ ps : Array (Nat × Operand), (∀ x ∈ ps.map (·.2), ρ x = ρ' x) →
      (ps.map fun (i, x) => (i, ρ x)) = (ps.map fun (i, x) => (i, ρ' x)) := fun ps hp =>
    Array.map_congr_left fun p hm => by
      obtain ⟨i, x⟩ := p
      simp only [hp x (Array.mem_map.2 ⟨(i, x), hm, rfl⟩)]
  cases op <;> simp only [Op.operands] at h <;> simp only [vcMem]
  case buildSlice t n ps => rw [pairs ps fun x hx => h x (by simpa using hx)]
  case makeMap t r => cases r <;> rfl
  case call c =>
    have hargs : c.args.map ρ = c.args.map ρ' := Array.map_congr_left fun x hx => h x (by simp [Call.operands, hx])
    rw [hargs]
    cases hc : c.callee with
    | value f => have hf : ρ f = ρ' f := h f (by simp [Call.operands, hc]); simp only [hf]
    | builtin b => cases b <;> rfl
    | invoke r m => have hr : ρ r = ρ' r := h r (by simp [Call.operands, hc]); simp only [hr]
  all_goals (first | rfl | (simp_all; done))
end

abbrev QT := Exit → Env → World → Prop

/-! ### a region in the text's order -/

def vcStep (P : Program) (e : Env) (o : Oper) (w : World) (K : Env → World → Prop) (X : List PanicEntry → World → Prop) : Prop :=
  cond (knows e o.op && dstOk e o.dst)
    (cond (isPure P o.op) (vcPure P (evd e) o fun v => K (put e o.dst v) w) (vcMem P (evd e) o w (fun v w' => K (put e o.dst v) w') X)) False
/-- What type a part of temporary d is drawn out at. -/
def hint (ops : Array Oper) (d i : Nat) : Option TypeId :=
  ops.toList.findSome? fun o => match o.op with
    | .extract (.tmp s) j => cond (Nat.beq s d && Nat.beq j i) (some o.type) none
    | _ => none
def shapeBy (P : Program) (t : Option TypeId) (v : Value) (K : Value → Prop) : Prop :=
  match t with
  | some t => shaped P t v K
  | none => K v
/-- A map's entry: its parts' shapes, as they are drawn out. -/
def hintK (P : Program) (ops : Array Oper) (o : Oper) (K : Env → World → Prop) (e : Env) (w : World) : Prop :=
  match o.op with
  | .entry _ => (match o.dst with
    | some d => (match find e.l d with
      | some (.tuple ⟨[k, u]⟩) => shapeBy P (hint ops d 0) k fun k => shapeBy P (hint ops d 1) u fun u => K (put e o.dst (.tuple ⟨[k, u]⟩)) w
      | _ => False)
    | none => False)
  | _ => K e w
def vcSkip (e : Env) (o : Oper) (w : World) (K : Env → World → Prop) : Prop := cond (dstOk e o.dst) (K (put e o.dst undef) w) False
/-- Whether it comes up: its guard. -/
def vcOper (P : Program) (ops : Array Oper) (e : Env) (o : Oper) (w : World) (K : Env → World → Prop) (X : List PanicEntry → World → Prop) : Prop :=
  match o.guard with
  | none => vcStep P e o w (hintK P ops o K) X
  | some (j, want) =>
    match (ops[j]?).bind (·.dst) with
    | none => False
    | some t =>
      match find e.l t with
      | some (.bool b) =>
        if b = true then cond want (vcStep P (put e (some t) (.bool true)) o w K X) (vcSkip (put e (some t) (.bool true)) o w K)
        else cond want (vcSkip (put e (some t) (.bool false)) o w K) (vcStep P (put e (some t) (.bool false)) o w K X)
      | some (.tuple _) => vcSkip e o w K
      | _ => False
def vcOps (P : Program) (ops : Array Oper) : List Oper → Env → World → QT → Prop
  | [], e, w, Q => Q .normal e w
  | o :: rest, e, w, Q => vcOper P ops e o w (fun e w => vcOps P ops rest e w Q) (fun ch w => Q (.panic ch) e w)

theorem Ref.know {e : Env} {t : Nat} {v : Value} (h : find e.l t = some v) : Ref e (put e (some t) v) := by
  refine ⟨rfl, rfl, fun s u hu => ?_⟩
  simp only [put, find_cons] at hu
  split at hu
  · rename_i e; subst e; rw [h]; exact hu
  · exact hu

section
variable {P : Program} {ops : Array Oper} {o : Oper} {e e' : Env} {w : World}

theorem Ref.dstOk_ (h : Ref e' e) {d : Option Tmp} : dstOk e' d = dstOk e d := by unfold dstOk; rw [h.n]

theorem vcStep_mono {K K' : Env → World → Prop} {X X' : List PanicEntry → World → Prop} (r : Ref e' e) (hm : ∀ e e' w, K e w → Ref e' e → K' e' w) (hx : ∀ c w, X c w → X' c w)
    (h : vcStep P e o w K X) : vcStep P e' o w K' X' := by
  unfold vcStep at *
  cases hk : (knows e o.op && dstOk e o.dst) <;> simp only [hk, cond] at h
  simp only [Bool.and_eq_true] at hk
  have hk' : (knows e' o.op && dstOk e' o.dst) = true := by rw [r.knows_ hk.1, r.dstOk_, hk.2]; rfl
  rw [hk']
  simp only [cond]
  have hc : ∀ x ∈ o.op.operands, evd e' x = evd e x := fun x hx => r.evd_ hk.1 hx
  cases hp : isPure P o.op <;> simp only [hp] at h ⊢
  · rw [vcMem_congr o hc]
    exact vcMem_mono (fun v w' hv => hm _ _ _ hv (r.put_ _ _)) hx h
  · rw [vcPure_congr o hc]
    exact vcPure_mono (fun v hv => hm _ _ _ hv (r.put_ _ _)) h

theorem vcSkip_mono {K K' : Env → World → Prop} (r : Ref e' e) (hm : ∀ e e' w, K e w → Ref e' e → K' e' w) (h : vcSkip e o w K) : vcSkip e' o w K' := by
  unfold vcSkip at *
  rw [r.dstOk_]
  cases hd : dstOk e o.dst <;> simp only [hd, cond] at h ⊢
  exact hm _ _ _ h (r.put_ _ _)

theorem shapeBy_mono {t : Option TypeId} {v : Value} {K K' : Value → Prop} (h : ∀ v, K v → K' v) (hk : shapeBy P t v K) : shapeBy P t v K' := by
  cases t with
  | none => exact h _ hk
  | some t => exact shaped_mono h hk
theorem shapeBy_at {t : Option TypeId} {v : Value} {K : Value → Prop} (hk : shapeBy P t v K) : K v := by
  cases t with
  | none => exact hk
  | some t => exact shaped_at hk
theorem hintK_mono {K K' : Env → World → Prop} (r : Ref e' e) (hp : ∀ v, K (put e o.dst v) w → K' (put e' o.dst v) w) (hm : K e w → K' e' w) (h : hintK P ops o K e w) : hintK P ops o K' e' w := by
  unfold hintK at *
  split at h
  · rename_i it hit
    split at h
    · rename_i d hd
      split at h
      · rename_i k u hf
        rw [r.at_ _ _ hf]
        exact shapeBy_mono (fun k hk => shapeBy_mono (fun u hu => hp _ hu) hk) h
      · exact h.elim
    · exact h.elim
  · exact hm h
theorem hintK_at {K : Env → World → Prop} (h : hintK P ops o K e w) : K e w ∨ ∃ d v, o.dst = some d ∧ find e.l d = some v ∧ K (put e (some d) v) w := by
  unfold hintK at h
  split at h
  · rename_i it hit
    split at h
    · rename_i d hd
      split at h
      · rename_i k u hf
        refine .inr ⟨d, _, hd, hf, ?_⟩
        have := shapeBy_at (shapeBy_at h)
        rw [hd] at this
        exact this
      · exact h.elim
    · exact h.elim
  · exact .inl h
theorem vcOper_mono {K K' : Env → World → Prop} {X X' : List PanicEntry → World → Prop} (r : Ref e' e) (hm : ∀ e e' w, K e w → Ref e' e → K' e' w) (hx : ∀ c w, X c w → X' c w)
    (h : vcOper P ops e o w K X) : vcOper P ops e' o w K' X' := by
  unfold vcOper at *
  split at h
  · exact vcStep_mono r (fun e e' w hk r' => hintK_mono r' (fun v hv => hm _ _ _ hv (r'.put_ _ _)) (fun hk => hm _ _ _ hk r') hk) hx h
  · rename_i j want hg
    split at h
    · exact h.elim
    · rename_i t ht
      split at h
      · rename_i b hb
        rw [r.at_ _ _ hb]
        simp only
        split at h
        · rename_i hbt
          rw [if_pos hbt]
          cases want <;> simp only [cond] at h ⊢
          · exact vcSkip_mono (r.put_ _ _) hm h
          · exact vcStep_mono (r.put_ _ _) hm hx h
        · rename_i hbt
          rw [if_neg hbt]
          cases want <;> simp only [cond] at h ⊢
          · exact vcStep_mono (r.put_ _ _) hm hx h
          · exact vcSkip_mono (r.put_ _ _) hm h
      · rename_i vs hb
        rw [r.at_ _ _ hb]
        exact vcSkip_mono r hm h
      · exact h.elim

theorem vcOps_mono {Q Q' : QT} (hq : ∀ x e e' w, Q x e w → Ref e' e → Q' x e' w) : ∀ (l : List Oper) (e e' : Env) (w : World), Ref e' e → vcOps P ops l e w Q → vcOps P ops l e' w Q'
  | [], _, _, _, r, h => hq _ _ _ _ h r
  | _ :: rest, _, _, _, r, h => vcOper_mono r (fun _ _ _ hk r' => vcOps_mono hq rest _ _ _ r' hk) (fun _ _ hp => hq _ _ _ _ hp r) h

/-- What a step comes to, in the model's own words. -/
def Next1 (P : Program) (o : Oper) (a : Act) (w : World) (next : Act → World → Prop) (Qd : Exit → Act → World → Prop) : Prop := o.wp P a w next Qd

theorem wp_of_out {a : Act} {next : Act → World → Prop} {Qd : Exit → Act → World → Prop} {K : Value → World → Prop} {X : List PanicEntry → World → Prop}
    (h : Out P (execOp a.eval o) w K X) (hn : ∀ v w', K v w' → next (a.put o.dst v) w') (hx : ∀ c w', X c w' → Qd (.panic c) a w') : o.wp P a w next Qd := by
  unfold Oper.wp
  unfold Out at h
  generalize (execOp a.eval o).run P w = r at *
  cases r with
  | ok nx w' =>
    cases nx <;> first
      | exact hn _ _ h
      | (refine Calls.mono h fun e w'' he => ?_
         cases e <;> first | exact hn _ _ he | exact hx _ _ he | exact he.elim)
      | exact h.elim
  | halt x w' => cases x <;> first | exact hx _ _ h | exact h.elim

theorem vcStep_sound {a : Act} {next : Act → World → Prop} {Qd : Exit → Act → World → Prop} {K : Env → World → Prop} {X : List PanicEntry → World → Prop} (fr : Fr a e) (hs : ∀ cs b, o.op ≠ .select cs b)
    (hn : ∀ e' a' w', K e' w' → Fr a' e' → next a' w') (hx : ∀ c w', X c w' → Qd (.panic c) a w') (h : vcStep P e o w K X) : o.wp P a w next Qd := by
  unfold vcStep at h
  cases hk : (knows e o.op && dstOk e o.dst) <;> simp only [hk, cond] at h
  simp only [Bool.and_eq_true] at hk
  have hex : execOp a.eval o = execOp (evd e) o := execOp_congr o hs fun x hx => fr.evd_ hk.1 hx
  cases hp : isPure P o.op <;> simp only [hp] at h
  · refine wp_of_out (K := fun v w' => K (put e o.dst v) w') (X := X) ?_ (fun v w' hv => hn _ _ _ hv (fr.put_ hk.2 v)) hx
    rw [hex]
    exact vcMem_sound h
  · obtain ⟨v, hv, hr⟩ := vcPure_sound h
    unfold Oper.wp
    rw [hex, hr w]
    exact hn _ _ _ hv (fr.put_ hk.2 v)

theorem yielded_of {a : Act} {t : Tmp} {j : Nat} {b : Bool} (fr : Fr a e) (ht : (ops[j]?).bind (·.dst) = some t) (hb : find e.l t = some (.bool b)) : yielded ops a.tmps j = some b := by
  unfold yielded
  rw [ht]
  simp [fr.at_ _ _ hb]

theorem yielded_none {a : Act} {t : Tmp} {j : Nat} {vs : Array Value} (fr : Fr a e) (ht : (ops[j]?).bind (·.dst) = some t) (hb : find e.l t = some (.tuple vs)) : yielded ops a.tmps j = none := by
  unfold yielded
  rw [ht]
  simp [fr.at_ _ _ hb]

theorem vcSkip_sound {a : Act} {next : Act → World → Prop} {K : Env → World → Prop} (fr : Fr a e) (hn : ∀ e' a' w', K e' w' → Fr a' e' → next a' w') (h : vcSkip e o w K) : next (a.put o.dst undef) w := by
  unfold vcSkip at h
  cases hd : dstOk e o.dst <;> simp only [hd, cond] at h
  exact hn _ _ _ h (fr.put_ hd _)

theorem vcOper_sound {a : Act} {next : Act → World → Prop} {Qd : Exit → Act → World → Prop} {K : Env → World → Prop} {X : List PanicEntry → World → Prop} (fr : Fr a e) (hs : ∀ cs b, o.op ≠ .select cs b)
    (hn : ∀ e' a' w', K e' w' → Fr a' e' → next a' w') (hx : ∀ c w', X c w' → Qd (.panic c) a w') (h : vcOper P ops e o w K X) :
    if Region.wanted o (yielded ops a.tmps) then o.wp P a w next Qd else next (a.put o.dst undef) w := by
  unfold vcOper at h
  split at h
  · rename_i hg
    rw [if_pos (by simp [Region.wanted, hg])]
    exact vcStep_sound fr hs (fun e' a' w' hk fr' => by
      rcases hintK_at hk with h1 | ⟨d, v, _, hf, h1⟩
      · exact hn _ _ _ h1 fr'
      · exact hn _ _ _ h1 (fr'.ref (Ref.know hf))) hx h
  · rename_i j want hg
    split at h
    · exact h.elim
    · rename_i t ht
      split at h
      · rename_i b hb
        have hy := yielded_of fr ht hb
        split at h
        · rename_i hbt
          subst hbt
          have fr' : Fr a (put e (some t) (.bool true)) := fr.ref (Ref.know hb)
          cases want <;> simp only [cond] at h
          · rw [if_neg (by simp [Region.wanted, hg, hy])]; exact vcSkip_sound fr' hn h
          · rw [if_pos (by simp [Region.wanted, hg, hy])]; exact vcStep_sound fr' hs hn hx h
        · rename_i hbt
          have hbf : b = false := by simpa using hbt
          subst hbf
          have fr' : Fr a (put e (some t) (.bool false)) := fr.ref (Ref.know hb)
          cases want <;> simp only [cond] at h
          · rw [if_pos (by simp [Region.wanted, hg, hy])]; exact vcStep_sound fr' hs hn hx h
          · rw [if_neg (by simp [Region.wanted, hg, hy])]; exact vcSkip_sound fr' hn h
      · rename_i vs hb
        rw [if_neg (by simp [Region.wanted, hg, yielded_none fr ht hb])]
        exact vcSkip_sound fr hn h
      · exact h.elim
end

end Go.Vc

/-
  A region that draws its order: what does not write is taken first; what was loaded must stay till nobody can load it later.
-/
namespace Go.Vc
open Go

/-- Does j wait for i (over at most so many edges)? -/
def anc (md : Region.Mode) (ops : Array Oper) : Nat → Nat → Nat → Bool
  | 0, _, _ => false
  | n + 1, j, i =>
    match ops[j]? with
    | some o => o.after.toList.any fun e => Region.binds md e && (Nat.beq e.on i || anc md ops n e.on i)
    | none => false
abbrev Held := List (Nat × (World → Prop))
def keep (md : Region.Mode) (ops : Array Oper) (j : Nat) : Held → Held
  | [] => []
  | p :: S => cond (anc md ops 3 j p.1) (keep md ops j S) (p :: keep md ops j S)
def allS : Held → World → Prop
  | [], _ => True
  | p :: S, w => p.2 w ∧ allS S w

def Down (md : Region.Mode) (ops : Array Oper) (listed : Array Bool) : Prop :=
  ∀ j o, ops[j]? = some o → listed.getD j false = true → ∀ e ∈ o.after, Region.binds md e = true → listed.getD e.on false = true

section
variable {P : Program} {ops : Array Oper} {Q : Exit → Act → World → Prop} {md : Region.Mode}

theorem anc_listed {listed : Array Bool} (hd : Down md ops listed) : ∀ (n j i : Nat), (∀ o, ops[j]? = some o → ∀ e ∈ o.after, Region.binds md e = true → listed.getD e.on false = true) →
    anc md ops n j i = true → listed.getD i false = true
  | 0, _, _, _, h => by simp [anc] at h
  | n + 1, j, i, hj, h => by
    unfold anc at h
    split at h
    · rename_i o ho
      obtain ⟨e, he, hb⟩ := List.any_eq_true.1 h
      simp only [Bool.and_eq_true, Bool.or_eq_true] at hb
      have hl := hj o ho e (Array.mem_toList_iff.1 he) hb.1
      rcases hb.2 with hb | hb
      · rw [← Nat.eq_of_beq_eq_true hb]; exact hl
      · exact anc_listed hd n e.on i (fun o' ho' e' he' hb' => hd e.on o' ho' hl e' he' hb') hb
    · cases h

theorem Down.start (n : Nat) : Down md ops (Array.replicate n false) := by
  intro j o _ h
  simp only [Array.getD_eq_getD_getElem?] at h
  by_cases hj : j < n
  · simp [hj] at h
  · rw [Array.getElem?_eq_none (by simpa using hj)] at h; cases h

theorem Down.set {listed : Array Bool} (hd : Down md ops listed) {i : Nat} (hr : i ∈ Region.ready md ops listed) : Down md ops (listed.setIfInBounds i true) := by
  intro j o ho hl e he hb
  by_cases hij : i = j
  · subst hij
    obtain ⟨_, o', ho', hall⟩ := mem_ready.1 hr
    rw [ho] at ho'
    injection ho' with ho'
    subst ho'
    exact getD_set_true (hall e he hb)
  · rw [getD_set_ne false hij] at hl
    exact getD_set_true (hd j o ho hl e he hb)

def wpAnyT (P : Program) (md : Region.Mode) (ops : Array Oper) (Q : Exit → Act → World → Prop) : Nat → Array Bool → Held → Act → World → Prop
  | 0, listed, _, a, w => Region.ready md ops listed = [] ∧ Q .normal a w
  | fuel + 1, listed, S, a, w =>
    (Region.ready md ops listed = [] → Q .normal a w) ∧
    ∀ i ∈ Region.ready md ops listed, wpOp P ops Q i (fun a' w' => allS (keep md ops i S) w' ∧ wpAnyT P md ops Q fuel (listed.setIfInBounds i true) (keep md ops i S) a' w') a w

theorem keep_cons (j : Nat) (p : Nat × (World → Prop)) (S : Held) : keep md ops j (p :: S) = cond (anc md ops 3 j p.1) (keep md ops j S) (p :: keep md ops j S) := rfl
theorem keep_sub {S S' : Held} (h : S'.Sublist S) (j : Nat) : (keep md ops j S').Sublist (keep md ops j S) := by
  induction h with
  | slnil => exact .slnil
  | cons p _ ih =>
    rw [keep_cons]
    cases anc md ops 3 j p.1 <;> simp only [cond]
    · exact .cons _ ih
    · exact ih
  | cons_cons p _ ih =>
    rw [keep_cons, keep_cons]
    cases anc md ops 3 j p.1 <;> simp only [cond]
    · exact .cons_cons _ ih
    · exact ih
theorem allS_sub {S S' : Held} (h : S'.Sublist S) {w : World} (ha : allS S w) : allS S' w := by
  induction h with
  | slnil => exact ha
  | cons p _ ih => exact ih ha.2
  | cons_cons p _ ih => exact ⟨ha.1, ih ha.2⟩
theorem wpAnyT_sub : ∀ (fuel : Nat) (listed : Array Bool) {S S' : Held} (a : Act) (w : World), S'.Sublist S → wpAnyT P md ops Q fuel listed S a w → wpAnyT P md ops Q fuel listed S' a w
  | 0, _, _, _, _, _, _, h => h
  | fuel + 1, _, _, _, _, _, hs, h => ⟨h.1, fun i hi => wpOp_mono (fun a' w' h' => ⟨allS_sub (keep_sub hs i) h'.1, wpAnyT_sub fuel _ a' w' (keep_sub hs i) h'.2⟩) (h.2 i hi)⟩

theorem wpAny_of_T : ∀ (fuel : Nat) (listed : Array Bool) (S : Held) (a : Act) (w : World), wpAnyT P md ops Q fuel listed S a w → wpAny P md ops Q fuel listed a w
  | 0, _, _, _, _, h => h
  | fuel + 1, _, _, _, _, h => ⟨h.1, fun i hi => wpOp_mono (fun a' w' h' => wpAny_of_T fuel _ _ a' w' h'.2) (h.2 i hi)⟩

theorem wpAnyT_first {i : Nat} {oi : Oper} {v : Value} {s : World → Prop} (hi : ops[i]? = some oi) (hsel : ∀ (j : Nat) (o : Oper) cs b, ops[j]? = some o → o.op ≠ .select cs b)
    (hQ : ∀ c a w, Q (.panic c) (a.put oi.dst v) w → Q (.panic c) a w) :
    ∀ (fuel : Nat) (listed : Array Bool) (S : Held) (a : Act) (w : World), Down md ops listed →
      (∀ j oj, ops[j]? = some oj → j ≠ i → listed.getD j true = false → (∀ e ∈ oj.after, Region.binds md e = true → e.on ≠ i) → oi.apart ops oj = true) →
      i ∈ Region.ready md ops listed → YieldsIf P ops s oi v a → s w → allS S w →
      wpAnyT P md ops Q fuel (listed.setIfInBounds i true) ((i, s) :: S) (a.put oi.dst v) w → wpAnyT P md ops Q (fuel + 1) listed S a w := by
  have sub : ∀ (j : Nat) (S : Held), (keep md ops j S).Sublist S := by
    intro j S
    induction S with
    | nil => exact .slnil
    | cons p S ih =>
      rw [keep_cons]
      cases anc md ops 3 j p.1 <;> simp only [cond]
      · exact .cons_cons _ ih
      · exact .cons _ ih
  intro fuel
  induction fuel with
  | zero =>
    intro listed S a w hd _ hr hy hS hA H
    refine ⟨fun h => (by rw [h] at hr; cases hr), fun j hj => ?_⟩
    by_cases hji : j = i
    · subst hji
      exact hy.wpOp hi hS ⟨allS_sub (sub _ _) hA, H⟩
    · have := ready_mono hj hji
      rw [H.1] at this
      cases this
  | succ fuel ih =>
    intro listed S a w hd hfree hr hy hS hA H
    refine ⟨fun h => (by rw [h] at hr; cases hr), fun j hj => ?_⟩
    by_cases hji : j = i
    · subst hji; exact hy.wpOp hi hS ⟨allS_sub (sub _ _) hA, wpAnyT_sub _ _ _ _ (.cons _ (sub _ _)) H⟩
    · have h1 := H.2 j (ready_mono hj hji)
      obtain ⟨hjun, oj, hoj, hall⟩ := mem_ready.1 hj
      have hiun := (mem_ready.1 hr).1
      have hinot : listed.getD i false = false := by
        rcases Nat.lt_or_ge i listed.size with h' | h'
        · simpa [h'] using hiun
        · simp [Array.getElem?_eq_none h']
      have hnot : ∀ e ∈ oj.after, Region.binds md e = true → e.on ≠ i := fun e he hb heq => by
        have h1 := hall e he hb
        rw [heq, hinot] at h1
        cases h1
      have hanc : anc md ops 3 j i = false := by
        cases hc : anc md ops 3 j i
        · rfl
        · have := anc_listed hd 3 j i (fun o ho e he hb => by rw [hoj] at ho; injection ho with ho; subst ho; exact hall e he hb) hc
          rw [hinot] at this
          cases this
      have hkeep : keep md ops j ((i, s) :: S) = (i, s) :: keep md ops j S := by
        show cond (anc md ops 3 j i) _ _ = _
        rw [hanc]; rfl
      rw [hkeep] at h1
      have h2 := wpOp_putIf hoj (hfree j oj hoj hji hjun hnot) (fun cs b => hsel i oi cs b hi) (fun cs b => hsel j oj cs b hoj) hQ hy h1
      have hfree' : ∀ k ok, ops[k]? = some ok → k ≠ i → (listed.setIfInBounds j true).getD k true = false →
          (∀ e ∈ ok.after, Region.binds md e = true → e.on ≠ i) → oi.apart ops ok = true := fun k ok hk hki hun hno => by
        refine hfree k ok hk hki ?_ hno
        by_cases hjk : j = k
        · subst hjk; exact hjun
        · rw [getD_set_ne true hjk] at hun; exact hun
      refine wpOp_mono (fun a' w' h3 => ⟨h3.2.1.2, ih (listed.setIfInBounds j true) (keep md ops j S) a' w' (hd.set hj) hfree' (ready_mono hr (Ne.symm hji)) h3.1 h3.2.1.1 h3.2.1.2 ?_⟩) h2
      rw [Array.setIfInBounds_comm _ _ hji]
      exact h3.2.2
theorem wpAnyT_triv (i : Nat) : ∀ (fuel : Nat) (listed : Array Bool) (S : Held) (a : Act) (w : World), wpAnyT P md ops Q fuel listed S a w → wpAnyT P md ops Q fuel listed ((i, fun _ => True) :: S) a w
  | 0, _, _, _, _, h => h
  | fuel + 1, _, S, _, _, h => ⟨h.1, fun j hj => wpOp_mono (fun a' w' h' => by
      rw [keep_cons]
      cases anc md ops 3 j i <;> simp only [cond]
      · exact ⟨⟨trivial, h'.1⟩, wpAnyT_triv i fuel _ _ a' w' h'.2⟩
      · exact h') (h.2 j hj)⟩
end

/-! ### the same as a Prop that the kernel reckons -/

def isLoad (o : Op) : Bool := match o with | .load _ _ => true | _ => false
/-- The first of those that may come up that can be taken first. -/
def pickFirst (P : Program) (ops : Array Oper) (listed : Array Bool) : List Nat → Option Nat
  | [] => none
  | i :: r =>
    match ops[i]? with
    | some o => cond ((isPure P o.op || isLoad o.op) && Region.free .any ops listed i) (some i) (pickFirst P ops listed r)
    | none => pickFirst P ops listed r
def forAll (f : Nat → Prop) : List Nat → Prop
  | [] => True
  | i :: r => match r with | [] => f i | _ => f i ∧ forAll f r

def vcTake (P : Program) (e : Env) (o : Oper) (w : World) (K : Env → Option (World → Prop) → Prop) : Prop :=
  cond (knows e o.op && dstOk e o.dst)
    (cond (isPure P o.op) (vcPure P (evd e) o fun v => K (put e o.dst v) none)
      (match o.op with
       | .load t x => (match evd e x, tmpl P t with | .pointer (some a), some z => cond (ldOk P t z) (mk 4 z fun u => rd w a u ∧ K (put e o.dst u) (some fun w => rd w a u)) False | _, _ => False)
       | _ => False)) False
def vcTakeG (P : Program) (ops : Array Oper) (e : Env) (o : Oper) (w : World) (K : Env → Option (World → Prop) → Prop) : Prop :=
  match o.guard with
  | none => vcTake P e o w K
  | some (j, want) =>
    match (ops[j]?).bind (·.dst) with
    | none => False
    | some t =>
      match find e.l t with
      | some (.bool b) =>
        if b = true then cond want (vcTake P (put e (some t) (.bool true)) o w K) (vcSkip (put e (some t) (.bool true)) o w fun e _ => K e none)
        else cond want (vcSkip (put e (some t) (.bool false)) o w fun e _ => K e none) (vcTake P (put e (some t) (.bool false)) o w K)
      | some (.tuple _) => vcSkip e o w fun e _ => K e none
      | _ => False

def hold (i : Nat) (s : Option (World → Prop)) (S : Held) : Held :=
  match s with
  | some s => (i, s) :: S
  | none => S

def vcDraw (P : Program) (ops : Array Oper) : Nat → Array Bool → Held → Env → World → QT → Prop
  | 0, listed, _, e, w, Q => cond (Region.ready .any ops listed).isEmpty (Q .normal e w) False
  | fuel + 1, listed, S, e, w, Q =>
    match pickFirst P ops listed (Region.ready .any ops listed) with
    | some i =>
      (match ops[i]? with
       | some o => vcTakeG P ops e o w fun e s => vcDraw P ops fuel (listed.setIfInBounds i true) (hold i s S) e w Q
       | none => False)
    | none =>
      cond (Region.ready .any ops listed).isEmpty (Q .normal e w)
        (forAll (fun i => match ops[i]? with
          | some o => vcOper P ops e o w (fun e w => allS (keep .any ops i S) w ∧ vcDraw P ops fuel (listed.setIfInBounds i true) (keep .any ops i S) e w Q) (fun ch w => Q (.panic ch) e w)
          | none => False) (Region.ready .any ops listed))

theorem forAll_mem {f : Nat → Prop} : ∀ {l : List Nat}, forAll f l → ∀ i ∈ l, f i
  | [], _, i, hi => by cases hi
  | [_], h, j, hj => by simp at hj; subst hj; exact h
  | i :: _ :: _, h, j, hj => by
    rcases List.mem_cons.1 hj with e | hj
    · subst e; exact h.1
    · exact forAll_mem h.2 j hj
theorem forAll_mono {f g : Nat → Prop} (hm : ∀ i, f i → g i) : ∀ {l : List Nat}, forAll f l → forAll g l
  | [], _ => trivial
  | [_], h => hm _ h
  | _ :: _ :: _, h => ⟨hm _ h.1, forAll_mono hm h.2⟩

section
variable {P : Program} {ops : Array Oper}

theorem pickFirst_some {listed : Array Bool} : ∀ {l : List Nat} {i : Nat}, pickFirst P ops listed l = some i → i ∈ l ∧ ∃ o, ops[i]? = some o ∧ Region.free .any ops listed i = true
  | [], _, h => by cases h
  | j :: r, _, h => by
    unfold pickFirst at h
    split at h
    · rename_i o ho
      cases hc : ((isPure P o.op || isLoad o.op) && Region.free .any ops listed j) <;> simp only [hc, cond] at h
      · obtain ⟨hm, hx⟩ := pickFirst_some h
        exact ⟨List.mem_cons_of_mem _ hm, hx⟩
      · injection h with h
        subst h
        simp only [Bool.and_eq_true] at hc
        exact ⟨List.mem_cons_self .., o, ho, hc.2⟩
    · obtain ⟨hm, hx⟩ := pickFirst_some h
      exact ⟨List.mem_cons_of_mem _ hm, hx⟩

theorem vcTake_mono {e e' : Env} {o : Oper} {w : World} {K K' : Env → Option (World → Prop) → Prop} (r : Ref e' e) (hm : ∀ e e' s, K e s → Ref e' e → K' e' s) (h : vcTake P e o w K) : vcTake P e' o w K' := by
  unfold vcTake at *
  cases hk : (knows e o.op && dstOk e o.dst) <;> simp only [hk, cond] at h
  simp only [Bool.and_eq_true] at hk
  have hk' : (knows e' o.op && dstOk e' o.dst) = true := by rw [r.knows_ hk.1, r.dstOk_, hk.2]; rfl
  rw [hk']
  simp only [cond]
  have hc : ∀ x ∈ o.op.operands, evd e' x = evd e x := fun x hx => r.evd_ hk.1 hx
  cases hp : isPure P o.op <;> simp only [hp] at h ⊢
  · split at h
    · rename_i t x hop
      have hx : evd e' x = evd e x := hc x (by rw [hop]; simp [Op.operands])
      rw [hx]
      split at h
      · rename_i a z ha hz
        cases hl : ldOk P t z <;> simp only [hl] at h ⊢
        exact mk_mono _ _ _ _ (fun _ hu => ⟨hu.1, hm _ _ _ hu.2 (r.put_ _ _)⟩) h
      · exact h
    · exact h
  · rw [vcPure_congr o hc]
    exact vcPure_mono (fun v hv => hm _ _ _ hv (r.put_ _ _)) h

theorem vcTakeG_mono {e e' : Env} {o : Oper} {w : World} {K K' : Env → Option (World → Prop) → Prop} (r : Ref e' e) (hm : ∀ e e' s, K e s → Ref e' e → K' e' s) (h : vcTakeG P ops e o w K) : vcTakeG P ops e' o w K' := by
  unfold vcTakeG at *
  split at h
  · exact vcTake_mono r hm h
  · rename_i j want hg
    split at h
    · exact h.elim
    · rename_i t ht
      split at h
      · rename_i b hb
        rw [r.at_ _ _ hb]
        simp only
        split at h
        · rename_i hbt
          rw [if_pos hbt]
          cases want <;> simp only [cond] at h ⊢
          · exact vcSkip_mono (r.put_ _ _) (fun _ _ _ hk r' => hm _ _ _ hk r') h
          · exact vcTake_mono (r.put_ _ _) hm h
        · rename_i hbt
          rw [if_neg hbt]
          cases want <;> simp only [cond] at h ⊢
          · exact vcTake_mono (r.put_ _ _) hm h
          · exact vcSkip_mono (r.put_ _ _) (fun _ _ _ hk r' => hm _ _ _ hk r') h
      · rename_i vs hb
        rw [r.at_ _ _ hb]
        exact vcSkip_mono r (fun _ _ _ hk r' => hm _ _ _ hk r') h
      · exact h.elim

theorem vcDraw_mono {Q Q' : QT} (hq : ∀ x e e' w, Q x e w → Ref e' e → Q' x e' w) : ∀ (fuel : Nat) (listed : Array Bool) (S : Held) (e e' : Env) (w : World), Ref e' e → vcDraw P ops fuel listed S e w Q → vcDraw P ops fuel listed S e' w Q' := by
  intro fuel
  induction fuel with
  | zero =>
    intro listed S e e' w r h
    unfold vcDraw at h ⊢
    cases hr : (Region.ready .any ops listed).isEmpty <;> simp only [hr, cond] at h ⊢
    exact hq _ _ _ _ h r
  | succ fuel ih =>
    intro listed S e e' w r h
    unfold vcDraw at h ⊢
    split at h
    · split at h
      · exact vcTakeG_mono r (fun _ _ _ hk r' => ih _ _ _ _ _ r' hk) h
      · exact h
    · cases hr : (Region.ready .any ops listed).isEmpty <;> simp only [hr, cond] at h ⊢
      · refine forAll_mono (fun i hi => ?_) h
        split at hi
        · exact vcOper_mono r (fun _ _ _ hk r' => ⟨hk.1, ih _ _ _ _ _ r' hk.2⟩) (fun _ _ hp => hq _ _ _ _ hp r) hi
        · exact hi
      · exact hq _ _ _ _ h r

def Still (Qd : Exit → Act → World → Prop) : Prop := ∀ c a d v w, Qd (.panic c) (Act.put a d v) w → Qd (.panic c) a w

theorem vcTake_sound {e : Env} {o : Oper} {w : World} {a : Act} {K : Env → Option (World → Prop) → Prop} (fr : Fr a e) (hs : ∀ cs b, o.op ≠ .select cs b) (hw : Region.wanted o (yielded ops a.tmps) = true)
    (h : vcTake P e o w K) : ∃ v e', Fr (a.put o.dst v) e' ∧ ((K e' none ∧ YieldsIf P ops (fun _ => True) o v a) ∨ ∃ s : World → Prop, s w ∧ K e' (some s) ∧ YieldsIf P ops s o v a) := by
  unfold vcTake at h
  cases hk : (knows e o.op && dstOk e o.dst) <;> simp only [hk, cond] at h
  simp only [Bool.and_eq_true] at hk
  have hex : execOp a.eval o = execOp (evd e) o := execOp_congr o hs fun x hx => fr.evd_ hk.1 hx
  cases hp : isPure P o.op <;> simp only [hp] at h
  · split at h
    · rename_i t x hop
      split at h
      · rename_i b z hb hz
        cases hl : ldOk P t z <;> simp only [hl] at h
        obtain ⟨u, hu, hr, hK⟩ := mk_some _ _ _ h
        refine ⟨u, _, fr.put_ hk.2 u, .inr ⟨fun w => rd w b u, hr, hK, .inl ⟨hw, fun w' hr' => ?_⟩⟩⟩
        rw [hex]
        have := run_loadAt (P := P) (w := w') hl hu hr'
        simp [execOp, hop, hb, this]
      · exact h.elim
    · exact h.elim
  · obtain ⟨v, hv, hr⟩ := vcPure_sound h
    exact ⟨v, _, fr.put_ hk.2 v, .inl ⟨hv, .inl ⟨hw, fun w' _ => by rw [hex]; exact hr w'⟩⟩⟩

theorem vcSkipT_sound {e : Env} {o : Oper} {w : World} {a : Act} {K : Env → Option (World → Prop) → Prop} (fr : Fr a e) (hw : Region.wanted o (yielded ops a.tmps) = false)
    (h : vcSkip e o w fun e _ => K e none) : ∃ v e', Fr (a.put o.dst v) e' ∧ ((K e' none ∧ YieldsIf P ops (fun _ => True) o v a) ∨ ∃ s : World → Prop, s w ∧ K e' (some s) ∧ YieldsIf P ops s o v a) := by
  unfold vcSkip at h
  cases hd : dstOk e o.dst <;> simp only [hd, cond] at h
  exact ⟨undef, _, fr.put_ hd _, .inl ⟨h, .inr ⟨hw, rfl⟩⟩⟩

theorem vcTakeG_sound {e : Env} {o : Oper} {w : World} {a : Act} {K : Env → Option (World → Prop) → Prop} (fr : Fr a e) (hs : ∀ cs b, o.op ≠ .select cs b)
    (h : vcTakeG P ops e o w K) : ∃ v e', Fr (a.put o.dst v) e' ∧ ((K e' none ∧ YieldsIf P ops (fun _ => True) o v a) ∨ ∃ s : World → Prop, s w ∧ K e' (some s) ∧ YieldsIf P ops s o v a) := by
  unfold vcTakeG at h
  split at h
  · rename_i hg
    exact vcTake_sound fr hs (by simp [Region.wanted, hg]) h
  · rename_i j want hg
    split at h
    · exact h.elim
    · rename_i t ht
      split at h
      · rename_i b hb
        have hy := yielded_of fr ht hb
        split at h
        · rename_i hbt
          subst hbt
          have fr' : Fr a (put e (some t) (.bool true)) := fr.ref (Ref.know hb)
          cases want <;> simp only [cond] at h
          · exact vcSkipT_sound fr' (by simp [Region.wanted, hg, hy]) h
          · exact vcTake_sound fr' hs (by simp [Region.wanted, hg, hy]) h
        · rename_i hbt
          have hbf : b = false := by simpa using hbt
          subst hbf
          have fr' : Fr a (put e (some t) (.bool false)) := fr.ref (Ref.know hb)
          cases want <;> simp only [cond] at h
          · exact vcTake_sound fr' hs (by simp [Region.wanted, hg, hy]) h
          · exact vcSkipT_sound fr' (by simp [Region.wanted, hg, hy]) h
      · rename_i vs hb
        exact vcSkipT_sound fr (by simp [Region.wanted, hg, yielded_none fr ht hb]) h
      · exact h.elim

theorem vcDraw_sound {Q : QT} {Qd : Exit → Act → World → Prop} (hsel : Region.noSelect ops = true) (hst : Still Qd) (hq : ∀ x e w a, Q x e w → Fr a e → Qd x a w) :
    ∀ (fuel : Nat) (listed : Array Bool) (S : Held) (e : Env) (w : World) (a : Act), Fr a e → Down .any ops listed → allS S w → vcDraw P ops fuel listed S e w Q → wpAnyT P .any ops Qd fuel listed S a w := by
  intro fuel
  induction fuel with
  | zero =>
    intro listed S e w a fr _ _ h
    unfold vcDraw at h
    cases hr : (Region.ready .any ops listed).isEmpty <;> simp only [hr, cond] at h
    exact ⟨List.isEmpty_iff.1 hr, hq _ _ _ _ h fr⟩
  | succ fuel ih =>
    intro listed S e w a fr hd hA h
    unfold vcDraw at h
    split at h
    · rename_i i hi
      obtain ⟨hmem, o, ho, hfree⟩ := pickFirst_some hi
      rw [ho] at h
      simp only at h
      obtain ⟨v, e', fr', hK⟩ := vcTakeG_sound fr (Region.noSelect_spec hsel i o · · ho) h
      have hQ : ∀ c a' w', Qd (.panic c) (a'.put o.dst v) w' → Qd (.panic c) a' w' := fun c a' w' hh => hst c a' o.dst v w' hh
      rcases hK with ⟨hK, hy⟩ | ⟨s, hs, hK, hy⟩
      · exact wpAnyT_first ho (Region.noSelect_spec hsel) hQ fuel listed S a w hd (Region.free_spec ho hfree) hmem hy trivial hA
          (wpAnyT_triv i _ _ _ _ _ (ih _ _ _ _ _ fr' (hd.set hmem) hA hK))
      · exact wpAnyT_first ho (Region.noSelect_spec hsel) hQ fuel listed S a w hd (Region.free_spec ho hfree) hmem hy hs hA
          (ih _ _ _ _ _ fr' (hd.set hmem) ⟨hs, hA⟩ hK)
    · cases hr : (Region.ready .any ops listed).isEmpty <;> simp only [hr, cond] at h
      · refine ⟨fun h0 => (by rw [h0] at hr; cases hr), fun i hi => ?_⟩
        have hf := forAll_mem h i hi
        split at hf
        · rename_i o ho
          unfold wpOp
          simp only [ho]
          have := vcOper_sound (Qd := Qd) (next := fun a' w' => allS (keep .any ops i S) w' ∧ wpAnyT P .any ops Qd fuel (listed.setIfInBounds i true) (keep .any ops i S) a' w') fr (Region.noSelect_spec hsel i o · · ho)
            (fun e' a' w' hk fr' => ⟨hk.1, ih _ _ _ _ _ fr' (hd.set hi) hk.1 hk.2⟩) (fun c w' hx => hq _ _ _ _ hx fr) hf
          split
          · rename_i hw; rw [if_pos hw] at this; exact .inl this
          · rename_i hw; rw [if_neg hw] at this; exact this
        · exact hf.elim
      · have h0 := List.isEmpty_iff.1 hr
        exact ⟨fun _ => hq _ _ _ _ h fr, fun i hi => by rw [h0] at hi; cases hi⟩
end
end Go.Vc

/-
  Blocks, loops, whole functions.
-/
namespace Go.Vc
open Go

def seqQ (K : Env → World → Prop) (Q : QT) : QT := fun x e w => match x with | .normal => K e w | x => Q x e w
def blockQ (id : Nat) (Q : QT) : QT := fun x e w => match x with | .exit i => cond (Nat.beq i id) (Q .normal e w) (Q (.exit i) e w) | x => Q x e w
abbrev Hook := Nat → Option (Env → World → QT → Prop)
def hk (h : Option (Env → World → QT → Prop)) (d : Env → World → QT → Prop) : Env → World → QT → Prop :=
  match h with
  | some h => h
  | none => d

/-- What code comes to. H: parts that are told of elsewhere, by their place in the tree. -/
def vcCode (P : Program) (H : Hook) : Code → Nat → Env → World → QT → Prop
  | .skip, p => hk (H p) fun e w Q => Q .normal e w
  | .region _ ops false, p => hk (H p) fun e w Q => vcOps P ops ops.toList e w Q
  | .region _ ops true, p => hk (H p) fun e w Q => cond (Region.noSelect ops) (vcDraw P ops ops.size (Array.replicate ops.size false) [] e w.drew Q) False
  | .seq a b, p => hk (H p) fun e w Q => vcCode P H a (2 * p) e w (seqQ (fun e w => vcCode P H b (2 * p + 1) e w Q) Q)
  | .cond c a b, p => hk (H p) fun e w Q => match ev e c with | some (.bool t) => if t = true then vcCode P H a (2 * p) e w Q else vcCode P H b (2 * p + 1) e w Q | _ => False
  | .block id b, p => hk (H p) fun e w Q => vcCode P H b (2 * p) e w (blockQ id Q)
  | .loop b, p => hk (H p) fun e w Q => ∀ X : Env → World → Prop, (∀ e w, vcCode P H b (2 * p) e w (seqQ X Q) → X e w) → X e w
  | .exit id, p => hk (H p) fun e w Q => Q (.exit id) e w
  | .goto l, p => hk (H p) fun e w Q => Q (.goto l) e w
  | .ret, p => hk (H p) fun e w Q => Q .ret e w
  | _, p => hk (H p) fun _ _ _ => False

def noH : Hook := fun _ => none

section
variable {P : Program}

theorem seqQ_mono {K K' : Env → World → Prop} {Q Q' : QT} (hk : ∀ e e' w, K e w → Ref e' e → K' e' w) (hq : ∀ x e e' w, Q x e w → Ref e' e → Q' x e' w) : ∀ x e e' w, seqQ K Q x e w → Ref e' e → seqQ K' Q' x e' w := by
  intro x e e' w h r
  cases x <;> first | exact hk _ _ _ h r | exact hq _ _ _ _ h r
theorem blockQ_mono {id : Nat} {Q Q' : QT} (hq : ∀ x e e' w, Q x e w → Ref e' e → Q' x e' w) : ∀ x e e' w, blockQ id Q x e w → Ref e' e → blockQ id Q' x e' w := by
  intro x e e' w h r
  cases x <;> simp only [blockQ] at h ⊢ <;> try exact hq _ _ _ _ h r
  rename_i i
  cases hb : Nat.beq i id <;> simp only [hb, cond] at h ⊢ <;> exact hq _ _ _ _ h r

theorem vcCode_mono : ∀ (c : Code) (p : Nat) {e e' : Env} {w : World} {Q Q' : QT}, (∀ x e e' w, Q x e w → Ref e' e → Q' x e' w) → Ref e' e → vcCode P noH c p e w Q → vcCode P noH c p e' w Q' := by
  intro c
  induction c with
  | skip => intro p e e' w Q Q' hq r h; exact hq _ _ _ _ h r
  | region id ops d =>
    intro p e e' w Q Q' hq r h
    cases d
    · exact vcOps_mono hq _ _ _ _ r h
    · simp only [vcCode, hk, noH] at h ⊢
      cases hn : Region.noSelect ops <;> simp only [hn, cond] at h ⊢
      exact vcDraw_mono hq _ _ _ _ _ _ r h
  | seq a b iha ihb =>
    intro p e e' w Q Q' hq r h
    exact iha _ (seqQ_mono (fun _ _ _ hk r' => ihb _ hq r' hk) hq) r h
  | cond c a b iha ihb =>
    intro p e e' w Q Q' hq r h
    simp only [vcCode, hk, noH] at h ⊢
    split at h
    · rename_i t ht
      rw [r.ev_ ht]
      simp only
      split at h
      · rename_i hb; rw [if_pos hb]; exact iha _ hq r h
      · rename_i hb; rw [if_neg hb]; exact ihb _ hq r h
    · exact h.elim
  | block id b ih =>
    intro p e e' w Q Q' hq r h
    exact ih _ (blockQ_mono hq) r h
  | loop b ih =>
    intro p e e' w Q Q' hq r h
    intro X' hX'
    have key := h (fun e w => ∀ e', Ref e' e → X' e' w) (fun e w hb e' r' => hX' e' w (ih _ (seqQ_mono (fun e e' w hx r' => hx e' r') hq) r' hb))
    exact key e' r
  | exit id => intro p e e' w Q Q' hq r h; exact hq _ _ _ _ h r
  | goto l => intro p e e' w Q Q' hq r h; exact hq _ _ _ _ h r
  | ret => intro p e e' w Q Q' hq r h; exact hq _ _ _ _ h r
  | _ => intro p e e' w Q Q' hq r h; exact h.elim

/-! ### sound for the model -/

def LoopFrom (P : Program) (body : Code) (Q : Exit → Act → World → Prop) (a : Act) (w : World) : Prop :=
  ∀ (b : Frame) (k : List Item) (cs : List Frame), ∃ e a' w', Q e a' w' ∧ Arrives P (lone (b.at a (.code body :: .inLoop body :: k)) cs w) b k cs e a' w'

theorem wp_of_LoopFrom {body : Code} {Q : Exit → Act → World → Prop} {a : Act} {w : World} (h : LoopFrom P body Q a w) : (Code.loop body).wp P Q a w := by
  intro b k cs
  obtain ⟨e, a', w', hq, harr⟩ := h b k cs
  exact ⟨e, a', w', hq, .of_steps (.one step_loop) harr⟩
theorem LoopFrom.step {body : Code} {Q : Exit → Act → World → Prop} {a : Act} {w : World} (h : body.wp P (Exit.then (LoopFrom P body Q) Q) a w) : LoopFrom P body Q a w := by
  intro b k cs
  obtain ⟨e, a₁, w₁, hq, harr⟩ := h b (.inLoop body :: k) cs
  cases e with
  | normal =>
    obtain ⟨e₂, a₂, w₂, hq₂, harr₂⟩ := hq b k cs
    exact ⟨e₂, a₂, w₂, hq₂, .of_steps (Steps.trans harr (.one step_inLoop)) harr₂⟩
  | exit id => exact ⟨_, a₁, w₁, hq, .pass (x := .inLoop body) rfl (fun _ _ => .inl (by simp)) harr⟩
  | goto l => exact ⟨_, a₁, w₁, hq, .pass (x := .inLoop body) rfl (fun _ _ => .inl (by simp)) harr⟩
  | ret => exact ⟨_, a₁, w₁, hq, .pass (x := .inLoop body) rfl (fun _ _ => .inl (by simp)) harr⟩
  | panic ch => exact ⟨_, a₁, w₁, hq, .pass (x := .inLoop body) rfl (fun _ _ => .inl (by simp)) harr⟩
  | outgrown => exact ⟨_, a₁, w₁, hq, .pass (x := .inLoop body) rfl (fun _ _ => .inl (by simp)) harr⟩

theorem wpList_of_vcOps {ops : Array Oper} {Q : QT} {Qd : Exit → Act → World → Prop} (hsel : ∀ o ∈ ops, ∀ cs b, o.op ≠ .select cs b) (hq : ∀ x e w a, Q x e w → Fr a e → Qd x a w) :
    ∀ (l : List Oper), (∀ o ∈ l, o ∈ ops) → ∀ (e : Env) (w : World) (a : Act), Fr a e → vcOps P ops l e w Q → wpList P ops Qd l a w
  | [], _, _, _, _, fr, h => hq _ _ _ _ h fr
  | o :: rest, hm, e, w, a, fr, h => by
    have := vcOper_sound (Qd := Qd) (next := wpList P ops Qd rest) fr (hsel o (hm o (List.mem_cons_self ..)))
      (fun e' a' w' hk fr' => wpList_of_vcOps hsel hq rest (fun o ho => hm o (List.mem_cons_of_mem _ ho)) e' w' a' fr' hk) (fun c w' hx => hq _ _ _ _ hx fr) h
    unfold wpList
    split
    · rename_i hw; rw [if_pos hw] at this; exact .inl this
    · rename_i hw; rw [if_neg hw] at this; exact this

theorem Still.then_ {K : Act → World → Prop} {Q : Exit → Act → World → Prop} (h : Still Q) : Still (Exit.then K Q) := h
theorem Still.inBlock_ {id : Nat} {Q : Exit → Act → World → Prop} (h : Still Q) : Still (Exit.inBlock id Q) := h

/-- No region of it selects. -/
def quietSel : Code → Bool
  | .region _ ops _ => ops.toList.all fun o => match o.op with | .select _ _ => false | _ => true
  | .seq a b => quietSel a && quietSel b
  | .cond _ a b => quietSel a && quietSel b
  | .block _ b => quietSel b
  | .loop b => quietSel b
  | _ => true

theorem vcCode_sound (hm : P.follows .mixedOrders = true) : ∀ (c : Code) (p : Nat), quietSel c = true → ∀ {e : Env} {w : World} {a : Act} {Q : QT} {Qd : Exit → Act → World → Prop}, Still Qd → (∀ x e w a, Q x e w → Fr a e → Qd x a w) → Fr a e →
    vcCode P noH c p e w Q → c.wp P Qd a w := by
  intro c
  induction c with
  | skip => intro p _ e w a Q Qd hst hq fr h; exact wp_skip (hq _ _ _ _ h fr)
  | region id ops d =>
    intro p hs e w a Q Qd hst hq fr h
    have hsel : ∀ o ∈ ops, ∀ cs b, o.op ≠ .select cs b := fun o ho cs b heq => by
      have := List.all_eq_true.1 hs o (Array.mem_toList_iff.2 ho)
      rw [heq] at this
      cases this
    cases d
    · exact wp_region_list (wpList_of_vcOps hsel hq ops.toList (fun o ho => Array.mem_toList_iff.1 ho) e w a fr h)
    · simp only [vcCode, hk, noH] at h
      cases hn : Region.noSelect ops <;> simp only [hn, cond] at h
      exact wp_region_any hm (wpAny_of_T _ _ _ _ _ (vcDraw_sound hn hst hq _ _ [] _ _ _ fr (Down.start _) trivial h))
  | seq x y ihx ihy =>
    intro p hs e w a Q Qd hst hq fr h
    simp only [quietSel, Bool.and_eq_true] at hs
    refine wp_seq (ihx _ hs.1 (Q := seqQ (fun e w => vcCode P noH y (2 * p + 1) e w Q) Q) hst.then_ (fun z e w a hz fr' => ?_) fr h)
    cases z <;> first | exact ihy _ hs.2 hst hq fr' hz | exact hq _ _ _ _ hz fr'
  | cond c x y ihx ihy =>
    intro p hs e w a Q Qd hst hq fr h
    simp only [quietSel, Bool.and_eq_true] at hs
    simp only [vcCode, hk, noH] at h
    split at h
    · rename_i t ht
      refine wp_cond_split (fr.ev_ ht) (fun ht' => ?_) (fun ht' => ?_)
      · rw [if_pos ht'] at h; exact ihx _ hs.1 hst hq fr h
      · rw [if_neg (by simp [ht'])] at h; exact ihy _ hs.2 hst hq fr h
    · exact h.elim
  | block id b ih =>
    intro p hs e w a Q Qd hst hq fr h
    refine wp_block (ih _ hs (Q := blockQ id Q) hst.inBlock_ (fun z e w a hz fr' => ?_) fr h)
    cases z <;> simp only [blockQ, Exit.inBlock] at hz ⊢ <;> try exact hq _ _ _ _ hz fr'
    rename_i i
    cases hb : Nat.beq i id <;> simp only [hb, cond] at hz
    · rw [if_neg (fun e => by subst e; rw [Nat.beq_refl] at hb; cases hb)]
      exact hq _ _ _ _ hz fr'
    · rw [if_pos (Nat.eq_of_beq_eq_true hb)]
      exact hq _ _ _ _ hz fr'
  | loop b ih =>
    intro p hs e w a Q Qd hst hq fr h
    refine wp_of_LoopFrom (h (fun e w => ∀ a, Fr a e → LoopFrom P b Qd a w) (fun e w hb a fr' => LoopFrom.step (ih _ hs (Q := seqQ _ Q) hst.then_ (fun z e w a hz fr' => ?_) fr' hb)) a fr)
    cases z <;> first | exact hz _ fr' | exact hq _ _ _ _ hz fr'
  | exit id => intro p _ e w a Q Qd hst hq fr h; exact wp_exit (hq _ _ _ _ h fr)
  | goto l => intro p _ e w a Q Qd hst hq fr h; exact wp_goto (hq _ _ _ _ h fr)
  | ret => intro p _ e w a Q Qd hst hq fr h; exact wp_ret (hq _ _ _ _ h fr)
  | _ => intro p _ e w a Q Qd hst hq fr h; exact h.elim

/-! ### parts told of elsewhere -/

def MonoQ (Q : QT) : Prop := ∀ x e e' w, Q x e w → Ref e' e → Q x e' w
structure UnitOk (P : Program) (h : Env → World → QT → Prop) (c : Code) (p : Nat) : Prop where
  sound : ∀ e w Q, MonoQ Q → h e w Q → vcCode P noH c p e w Q
  mono : ∀ e w Q Q', (∀ x e w, Q x e w → Q' x e w) → h e w Q → h e w Q'
def hOk (P : Program) (c : Code) (p : Nat) (h : Option (Env → World → QT → Prop)) (d : Prop) : Prop :=
  match h with
  | some h => UnitOk P h c p
  | none => d
/-- Each part that H tells of is told of rightly. -/
def HOk (P : Program) (H : Hook) : Code → Nat → Prop
  | .seq a b, p => hOk P (.seq a b) p (H p) (HOk P H a (2 * p) ∧ HOk P H b (2 * p + 1))
  | .cond c a b, p => hOk P (.cond c a b) p (H p) (HOk P H a (2 * p) ∧ HOk P H b (2 * p + 1))
  | .block id b, p => hOk P (.block id b) p (H p) (HOk P H b (2 * p))
  | .loop b, p => hOk P (.loop b) p (H p) (HOk P H b (2 * p))
  | c, p => hOk P c p (H p) True

theorem MonoQ.seq_ {p : Nat} {c : Code} {Q : QT} (h : MonoQ Q) : MonoQ (seqQ (fun e w => vcCode P noH c p e w Q) Q) :=
  seqQ_mono (fun _ _ _ hk r => vcCode_mono _ _ h r hk) h
theorem MonoQ.block_ {id : Nat} {Q : QT} (h : MonoQ Q) : MonoQ (blockQ id Q) := blockQ_mono h

theorem hk_some {h : Env → World → QT → Prop} {o : Option (Env → World → QT → Prop)} (ho : o = some h) (d : Env → World → QT → Prop) : hk o d = h := by rw [ho]; rfl
theorem hk_none {o : Option (Env → World → QT → Prop)} (ho : o = none) (d : Env → World → QT → Prop) : hk o d = d := by rw [ho]; rfl

theorem vcCode_hook {H : Hook} : ∀ (c : Code) (p : Nat) {e : Env} {w : World} {Q Q' : QT}, MonoQ Q' → (∀ x e w, Q x e w → Q' x e w) → HOk P H c p →
    vcCode P H c p e w Q → vcCode P noH c p e w Q' := by
  intro c
  induction c with
  | seq a b iha ihb =>
    intro p e w Q Q' hm hq ho h
    simp only [vcCode, HOk] at h ho
    cases hp : H p with
    | some f => rw [hp] at h ho; exact ho.sound _ _ _ hm (ho.mono _ _ _ _ hq h)
    | none =>
      rw [hp] at h ho
      refine iha (2 * p) (Q := seqQ (fun e w => vcCode P H b (2 * p + 1) e w Q) Q) hm.seq_ (fun x e w hx => ?_) ho.1 h
      cases x <;> first | exact ihb (2 * p + 1) hm hq ho.2 hx | exact hq _ _ _ hx
  | cond c a b iha ihb =>
    intro p e w Q Q' hm hq ho h
    simp only [vcCode, HOk] at h ho
    cases hp : H p with
    | some f => rw [hp] at h ho; exact ho.sound _ _ _ hm (ho.mono _ _ _ _ hq h)
    | none =>
      rw [hp] at h ho
      simp only [hk] at h
      simp only [vcCode, hk, noH]
      split at h
      · split at h
        · rename_i ht; rw [if_pos ht]; exact iha (2 * p) hm hq ho.1 h
        · rename_i ht; rw [if_neg ht]; exact ihb (2 * p + 1) hm hq ho.2 h
      · exact h
  | block id b ih =>
    intro p e w Q Q' hm hq ho h
    simp only [vcCode, HOk] at h ho
    cases hp : H p with
    | some f => rw [hp] at h ho; exact ho.sound _ _ _ hm (ho.mono _ _ _ _ hq h)
    | none =>
      rw [hp] at h ho
      refine ih (2 * p) (Q := blockQ id Q) hm.block_ (fun x e w hx => ?_) ho h
      cases x <;> simp only [blockQ] at hx ⊢ <;> try exact hq _ _ _ hx
      rename_i i
      cases hb : Nat.beq i id <;> simp only [hb, cond] at hx ⊢ <;> exact hq _ _ _ hx
  | loop b ih =>
    intro p e w Q Q' hm hq ho h
    simp only [vcCode, HOk] at h ho
    cases hp : H p with
    | some f => rw [hp] at h ho; exact ho.sound _ _ _ hm (ho.mono _ _ _ _ hq h)
    | none =>
      rw [hp] at h ho
      simp only [hk] at h
      intro X hX
      -- up to what is known beside
      have key := h (fun e w => ∀ e', Ref e' e → X e' w) (fun e w hb e' r => hX e' w ?_)
      · exact key e (Ref.refl _)
      · have hm2 : MonoQ (seqQ (fun e w => ∀ e', Ref e' e → X e' w) Q') := seqQ_mono (fun _ _ _ hx r' => fun e'' r'' => hx e'' (r''.trans r')) hm
        have h1 := ih (2 * p) (Q := seqQ (fun e w => ∀ e', Ref e' e → X e' w) Q) (Q' := seqQ (fun e w => ∀ e', Ref e' e → X e' w) Q') hm2 (fun x e w hx => by cases x <;> first | exact hx | exact hq _ _ _ hx) ho hb
        exact vcCode_mono _ _ (seqQ_mono (fun _ e' _ hx r' => hx e' r') hm) r h1
  | skip =>
    intro p e w Q Q' hm hq ho h
    simp only [vcCode, HOk] at h ho
    cases hp : H p with
    | some f => rw [hp] at h ho; exact ho.sound _ _ _ hm (ho.mono _ _ _ _ hq h)
    | none => rw [hp] at h; exact hq _ _ _ h
  | exit id =>
    intro p e w Q Q' hm hq ho h
    simp only [vcCode, HOk] at h ho
    cases hp : H p with
    | some f => rw [hp] at h ho; exact ho.sound _ _ _ hm (ho.mono _ _ _ _ hq h)
    | none => rw [hp] at h; exact hq _ _ _ h
  | goto l =>
    intro p e w Q Q' hm hq ho h
    simp only [vcCode, HOk] at h ho
    cases hp : H p with
    | some f => rw [hp] at h ho; exact ho.sound _ _ _ hm (ho.mono _ _ _ _ hq h)
    | none => rw [hp] at h; exact hq _ _ _ h
  | ret =>
    intro p e w Q Q' hm hq ho h
    simp only [vcCode, HOk] at h ho
    cases hp : H p with
    | some f => rw [hp] at h ho; exact ho.sound _ _ _ hm (ho.mono _ _ _ _ hq h)
    | none => rw [hp] at h; exact hq _ _ _ h
  | region id ops d =>
    intro p e w Q Q' hm hq ho h
    simp only [HOk] at ho
    cases hp : H p with
    | some f => cases d <;> (simp only [vcCode] at h; rw [hp] at h ho; exact ho.sound _ _ _ hm (ho.mono _ _ _ _ hq h))
    | none =>
      cases d
      · simp only [vcCode, hp, hk] at h
        exact vcOps_mono (Q := Q) (Q' := Q') (fun x e e' w hx r => hm x _ _ w (hq _ _ _ hx) r) _ _ _ _ (Ref.refl _) h
      · simp only [vcCode, hp, hk, noH] at h ⊢
        cases hn : Region.noSelect ops <;> simp only [hn, cond] at h ⊢
        exact vcDraw_mono (Q := Q) (Q' := Q') (fun x e e' w hx r => hm x _ _ w (hq _ _ _ hx) r) _ _ _ _ _ _ (Ref.refl _) h
  | _ =>
    intro p e w Q Q' hm hq ho h
    simp only [vcCode, HOk] at h ho
    cases hp : H p with
    | some f => rw [hp] at h ho; exact ho.sound _ _ _ hm (ho.mono _ _ _ _ hq h)
    | none => rw [hp] at h; exact h.elim

/-! ### functions -/

def argEnv : List Value → Nat → List (Nat × Value)
  | [], _ => []
  | v :: r, i => (i, v) :: argEnv r (i + 1)
def resL (P : Program) (e : Env) (w : World) : List ResultVar → (List Value → Prop) → Prop
  | [], K => K []
  | .tmp t :: r, K => (match find e.l t with | some v => resL P e w r fun l => K (v :: l) | none => False)
  | .cell t ty :: r, K => (match find e.l t, tmpl P ty with | some (.pointer (some a)), some z => cond (ldOk P ty z) (mk 4 z fun u => rd w a u ∧ resL P e w r fun l => K (u :: l)) False | _, _ => False)
def oneOf : List Value → Value
  | [v] => v
  | l => .tuple ⟨l⟩
def finQ (P : Program) (rs : List ResultVar) (R : Ending → World → Prop) : QT := fun x e w =>
  match x with
  | .normal => cond e.ds.isEmpty (resL P e w rs fun l => R (.returned (oneOf l)) w) False
  | .ret => cond e.ds.isEmpty (resL P e w rs fun l => R (.returned (oneOf l)) w) False
  | .panic ch => cond e.ds.isEmpty (R (.panicked ch) w) False
  | _ => False

theorem find_argEnv : ∀ (l : List Value) (i t : Nat) (v : Value), find (argEnv l i) t = some v → i ≤ t ∧ l[t - i]? = some v
  | [], _, _, _, h => by cases h
  | u :: r, i, t, v, h => by
    simp only [argEnv, find_cons] at h
    split at h
    · rename_i e; subst e; exact ⟨Nat.le_refl _, by simpa using h⟩
    · rename_i hne
      obtain ⟨h1, h2⟩ := find_argEnv r (i + 1) t v h
      refine ⟨by omega, ?_⟩
      rw [show t - i = (t - (i + 1)) + 1 from by omega]
      simpa using h2

theorem resL_mono {e e' : Env} (r : Ref e' e) {w : World} : ∀ (l : List ResultVar) {K : List Value → Prop}, resL P e w l K → resL P e' w l K
  | [], _, h => h
  | .tmp t :: l, K, h => by
    unfold resL at h ⊢
    split at h
    · rename_i v hv; rw [r.at_ _ _ hv]; exact resL_mono r l h
    · exact h.elim
  | .cell t ty :: l, K, h => by
    unfold resL at h ⊢
    split at h
    · rename_i a z hv hz
      rw [r.at_ _ _ hv, hz]
      cases hl : ldOk P ty z <;> simp only [hl, cond] at h ⊢
      exact mk_mono _ _ _ _ (fun _ hu => ⟨hu.1, resL_mono r l hu.2⟩) h
    · exact h.elim

theorem MonoQ.fin {rs : List ResultVar} {R : Ending → World → Prop} : MonoQ (finQ P rs R) := by
  intro x e e' w h r
  have hd : e'.ds.isEmpty = e.ds.isEmpty := by rw [r.ds]
  cases x <;> simp only [finQ] at h ⊢ <;> try exact h
  all_goals
    rw [hd]
    cases he : e.ds.isEmpty <;> simp only [he, cond] at h ⊢
    first | exact resL_mono r _ h | exact h

/-- One result. -/
def resOne (a : Act) : ResultVar → Sem Value
  | .tmp t => pure (a.tmps.getD t undef)
  | .cell b t => do loadVar t (← asAddr (a.tmps.getD b undef))
theorem resL_run {e : Env} {a : Act} (fr : Fr a e) {w : World} : ∀ (l : List ResultVar) {K : List Value → Prop}, resL P e w l K →
    ∃ vs, K vs ∧ (l.mapM (resOne a)).run P w = .ok vs w
  | [], K, h => ⟨[], h, rfl⟩
  | .tmp t :: l, K, h => by
    unfold resL at h
    split at h
    · rename_i v hv
      obtain ⟨vs, hK, hr⟩ := resL_run fr l h
      have hg : a.tmps.getD t undef = v := by simp [fr.at_ _ _ hv]
      have h1 : (resOne a (.tmp t)).run P w = .ok v w := by simp only [resOne, hg, Sem.run_pure]
      exact ⟨_, hK, by simp only [List.mapM_cons, Sem.run_bind, Sem.run_pure, h1, Result.andThen_ok, hr]⟩
    · exact h.elim
  | .cell t ty :: l, K, h => by
    unfold resL at h
    split at h
    · rename_i b z hv hz
      cases hl : ldOk P ty z <;> simp only [hl, cond] at h
      obtain ⟨u, hu, hrd, h⟩ := mk_some _ _ _ h
      obtain ⟨vs, hK, hr⟩ := resL_run fr l h
      have hg : a.tmps.getD t undef = .pointer (some b) := by simp [fr.at_ _ _ hv]
      have hld := run_loadAt (P := P) hl hu hrd
      simp only [Instr.loadAt, Instr.sureAddr, Sem.run_bind, Sem.run_pure, Result.andThen_ok] at hld
      have h1 : (resOne a (.cell t ty)).run P w = .ok u w := by simp only [resOne, hg, asAddr, Sem.run_bind, Sem.run_pure, Result.andThen_ok, hld]
      exact ⟨_, hK, by simp only [List.mapM_cons, Sem.run_bind, Sem.run_pure, h1, Result.andThen_ok, hr]⟩
    · exact h.elim

theorem results_run {fn : Func} {e : Env} {a : Act} (fr : Fr a e) {w : World} {R : Value → Prop} (h : resL P e w fn.results.toList fun l => R (oneOf l)) : ∃ v, (results fn a.tmps).run P w = .ok v w ∧ R v := by
  obtain ⟨vs, hK, hr⟩ := resL_run fr _ h
  refine ⟨_, ?_, hK⟩
  have hm : (fn.results.mapM (resOne a)).run P w = .ok vs.toArray w := by
    have : fn.results = fn.results.toList.toArray := by simp
    rw [this, List.mapM_toArray]
    simp only [Sem.run_map, hr, Result.andThen_ok]
  have e1 : results fn a.tmps = (do let vs ← fn.results.mapM (resOne a); pure (if h : vs.size = 1 then vs[0] else .tuple vs)) := by
    unfold results
    congr 2
  rw [e1]
  simp only [Sem.run_bind, hm, Result.andThen_ok, Sem.run_pure]
  match vs with
  | [] => rfl
  | [v] => rfl
  | _ :: _ :: _ => simp [oneOf]

theorem calls_of_vc {f : FuncId} {fn : Func} {c : Code} {args : List Value} {w : World} {R : Ending → World → Prop} (hm : P.follows .mixedOrders = true) (hf : P.funcs[f]? = some fn) (hb : fn.body = some c)
    (hs : (quietSel c && Nat.ble args.length fn.ntmps) = true) (h : vcCode P noH c 1 ⟨argEnv args 0, fn.ntmps, []⟩ w (finQ P fn.results.toList R)) : Calls P f ⟨args⟩ w R := by
  simp only [Bool.and_eq_true] at hs
  have hle : args.length ≤ fn.ntmps := Nat.le_of_ble_eq_true hs.2
  refine calls_of_wp hf hb (vcCode_sound hm c 1 hs.1 (Q := finQ P fn.results.toList R) (fun c a d v w hh => ?_) (fun x e w a hx fr => ?_) ⟨by simp; omega, rfl, fun t v hv => ?_⟩ h)
  · obtain ⟨hd, hR⟩ := hh
    refine ⟨?_, hR⟩
    cases d <;> exact hd
  · have hds : a.defers = e.ds := fr.ds
    cases x <;> simp only [finQ] at hx <;> try exact hx.elim
    all_goals
      cases he : e.ds.isEmpty <;> simp only [he, cond] at hx
      have hnil : a.defers = [] := by rw [hds]; exact List.isEmpty_iff.1 he
      first
        | (obtain ⟨v, hv, hR⟩ := results_run (R := fun v => R (.returned v) w) fr hx; exact ⟨hnil, v, hv, hR⟩)
        | exact ⟨hnil, hx⟩
  · obtain ⟨_, h2⟩ := find_argEnv _ _ _ _ hv
    have hlt : t < args.length := (List.getElem?_eq_some_iff.1 h2).1
    simp only [Nat.sub_zero] at h2
    rw [List.getElem?_eq_getElem hlt] at h2
    injection h2 with h2
    simp [Array.getElem?_append, hlt, h2]
end
end Go.Vc

/-
  Parts of a function that are told of by themselves: what they do not write stays known.
-/
namespace Go.Vc
open Go

/-- e' knows all that e knows; of what is deferred nothing is said. -/
structure RefL (e' e : Env) : Prop where
  n : e'.n = e.n
  at_ : ∀ t v, find e.l t = some v → find e'.l t = some v
theorem Ref.toL {e' e : Env} (h : Ref e' e) : RefL e' e := ⟨h.n, h.at_⟩
theorem RefL.up {e' e : Env} (h : RefL e' e) : Ref { e' with ds := e.ds } e := ⟨h.n, rfl, h.at_⟩
theorem RefL.ev_ {e e' : Env} (h : RefL e' e) {x : Operand} {v : Value} (hx : ev e x = some v) : ev e' x = some v := by
  have := h.up.ev_ hx
  cases x <;> exact this
theorem RefL.knows_ {e e' : Env} (h : RefL e' e) {o : Op} (hk : knows e o = true) : knows e' o = true := List.all_eq_true.2 fun x hx => by
  obtain ⟨v, hv⟩ := Option.isSome_iff_exists.1 (List.all_eq_true.1 hk x hx)
  rw [h.ev_ hv]; rfl
theorem RefL.evd_ {e e' : Env} (h : RefL e' e) {o : Op} (hk : knows e o = true) {x : Operand} (hx : x ∈ o.operands) : evd e' x = evd e x := by
  have := knows_iff hk hx
  unfold evd at *
  rw [h.ev_ this, this]
  rfl
theorem RefL.dstOk_ {e e' : Env} (h : RefL e' e) {d : Option Tmp} : dstOk e' d = dstOk e d := by unfold dstOk; rw [h.n]
theorem hintK_monoL {P : Program} {ops : Array Oper} {o : Oper} {e e' : Env} {w : World} {K K' : Env → World → Prop} (r : RefL e' e) (hp : ∀ v, K (put e o.dst v) w → K' (put e' o.dst v) w) (hm : K e w → K' e' w) (h : hintK P ops o K e w) : hintK P ops o K' e' w := by
  unfold hintK at *
  split at h
  · rename_i it hit
    split at h
    · rename_i d hd
      split at h
      · rename_i k u hf
        rw [r.at_ _ _ hf]
        exact shapeBy_mono (fun k hk => shapeBy_mono (fun u hu => hp _ hu) hk) h
      · exact h.elim
    · exact h.elim
  · exact hm h
/-- A relation of environments that lasts. -/
structure Lasts (Rl : Env → Env → Prop) (ok : Option Tmp → Bool) : Prop where
  ref : ∀ {e' e}, Rl e' e → RefL e' e
  put_ : ∀ {e' e} {d : Option Tmp} (v : Value), Rl e' e → ok d = true → Rl (put e' d v) (put e d v)
  know : ∀ {e' e} {t : Nat} {b : Bool}, Rl e' e → find e.l t = some (.bool b) → Rl (put e' (some t) (.bool b)) (put e (some t) (.bool b))

section
variable {P : Program} {ops : Array Oper} {o : Oper} {e e' : Env} {w : World} {Rl : Env → Env → Prop} {ok : Option Tmp → Bool}

theorem vcStep_monoR (L : Lasts Rl ok) {K K' : Env → World → Prop} {X X' : List PanicEntry → World → Prop} (hd : ok o.dst = true) (r : Rl e' e) (hm : ∀ e e' w, K e w → Rl e' e → K' e' w) (hx : ∀ c w, X c w → X' c w)
    (h : vcStep P e o w K X) : vcStep P e' o w K' X' := by
  unfold vcStep at *
  cases hk : (knows e o.op && dstOk e o.dst) <;> simp only [hk, cond] at h
  simp only [Bool.and_eq_true] at hk
  have hk' : (knows e' o.op && dstOk e' o.dst) = true := by rw [(L.ref r).knows_ hk.1, (L.ref r).dstOk_, hk.2]; rfl
  rw [hk']
  simp only [cond]
  have hc : ∀ x ∈ o.op.operands, evd e' x = evd e x := fun x hx => (L.ref r).evd_ hk.1 hx
  cases hp : isPure P o.op <;> simp only [hp] at h ⊢
  · rw [vcMem_congr o hc]
    exact vcMem_mono (fun v w' hv => hm _ _ _ hv (L.put_ _ r hd)) hx h
  · rw [vcPure_congr o hc]
    exact vcPure_mono (fun v hv => hm _ _ _ hv (L.put_ _ r hd)) h

theorem vcSkip_monoR (L : Lasts Rl ok) {K K' : Env → World → Prop} (hd : ok o.dst = true) (r : Rl e' e) (hm : ∀ e e' w, K e w → Rl e' e → K' e' w) (h : vcSkip e o w K) : vcSkip e' o w K' := by
  unfold vcSkip at *
  rw [(L.ref r).dstOk_]
  cases hdd : dstOk e o.dst <;> simp only [hdd, cond] at h ⊢
  exact hm _ _ _ h (L.put_ _ r hd)

theorem vcOper_monoR (L : Lasts Rl ok) {K K' : Env → World → Prop} {X X' : List PanicEntry → World → Prop} (hd : ok o.dst = true) (r : Rl e' e) (hm : ∀ e e' w, K e w → Rl e' e → K' e' w) (hx : ∀ c w, X c w → X' c w)
    (h : vcOper P ops e o w K X) : vcOper P ops e' o w K' X' := by
  unfold vcOper at *
  split at h
  · exact vcStep_monoR L hd r (fun e e' w hk r' => hintK_monoL (L.ref r') (fun v hv => hm _ _ _ hv (L.put_ _ r' hd)) (fun hk => hm _ _ _ hk r') hk) hx h
  · rename_i j want hg
    split at h
    · exact h.elim
    · rename_i t ht
      split at h
      · rename_i b hb
        rw [(L.ref r).at_ _ _ hb]
        simp only
        split at h
        · rename_i hbt
          subst hbt
          rw [if_pos rfl]
          cases want <;> simp only [cond] at h ⊢
          · exact vcSkip_monoR L hd (L.know r hb) hm h
          · exact vcStep_monoR L hd (L.know r hb) hm hx h
        · rename_i hbt
          have hbf : b = false := by simpa using hbt
          subst hbf
          rw [if_neg (by simp)]
          cases want <;> simp only [cond] at h ⊢
          · exact vcStep_monoR L hd (L.know r hb) hm hx h
          · exact vcSkip_monoR L hd (L.know r hb) hm h
      · rename_i vs hb
        rw [(L.ref r).at_ _ _ hb]
        exact vcSkip_monoR L hd r hm h
      · exact h.elim

theorem vcOps_monoR (L : Lasts Rl ok) {Q Q' : QT} (hq : ∀ x e e' w, Q x e w → Rl e' e → Q' x e' w) : ∀ (l : List Oper), (l.all fun (o : Oper) => ok o.dst) = true → ∀ (e e' : Env) (w : World), Rl e' e → vcOps P ops l e w Q → vcOps P ops l e' w Q'
  | [], _, _, _, _, r, h => hq _ _ _ _ h r
  | _ :: rest, ha, _, _, _, r, h => by
    simp only [List.all_cons, Bool.and_eq_true] at ha
    exact vcOper_monoR L ha.1 r (fun _ _ _ hk r' => vcOps_monoR L hq rest ha.2 _ _ _ r' hk) (fun _ _ hp => hq _ _ _ _ hp r) h

theorem vcTake_monoR (L : Lasts Rl ok) {K K' : Env → Option (World → Prop) → Prop} (hd : ok o.dst = true) (r : Rl e' e) (hm : ∀ e e' s, K e s → Rl e' e → K' e' s) (h : vcTake P e o w K) : vcTake P e' o w K' := by
  unfold vcTake at *
  cases hk : (knows e o.op && dstOk e o.dst) <;> simp only [hk, cond] at h
  simp only [Bool.and_eq_true] at hk
  have hk' : (knows e' o.op && dstOk e' o.dst) = true := by rw [(L.ref r).knows_ hk.1, (L.ref r).dstOk_, hk.2]; rfl
  rw [hk']
  simp only [cond]
  have hc : ∀ x ∈ o.op.operands, evd e' x = evd e x := fun x hx => (L.ref r).evd_ hk.1 hx
  cases hp : isPure P o.op <;> simp only [hp] at h ⊢
  · split at h
    · rename_i t x hop
      have hx : evd e' x = evd e x := hc x (by rw [hop]; simp [Op.operands])
      rw [hx]
      split at h
      · rename_i a z ha hz
        cases hl : ldOk P t z <;> simp only [hl] at h ⊢
        exact mk_mono _ _ _ _ (fun _ hu => ⟨hu.1, hm _ _ _ hu.2 (L.put_ _ r hd)⟩) h
      · exact h
    · exact h
  · rw [vcPure_congr o hc]
    exact vcPure_mono (fun v hv => hm _ _ _ hv (L.put_ _ r hd)) h

theorem vcTakeG_monoR (L : Lasts Rl ok) {K K' : Env → Option (World → Prop) → Prop} (hd : ok o.dst = true) (r : Rl e' e) (hm : ∀ e e' s, K e s → Rl e' e → K' e' s) (h : vcTakeG P ops e o w K) : vcTakeG P ops e' o w K' := by
  unfold vcTakeG at *
  split at h
  · exact vcTake_monoR L hd r hm h
  · rename_i j want hg
    split at h
    · exact h.elim
    · rename_i t ht
      split at h
      · rename_i b hb
        rw [(L.ref r).at_ _ _ hb]
        simp only
        split at h
        · rename_i hbt
          subst hbt
          rw [if_pos rfl]
          cases want <;> simp only [cond] at h ⊢
          · exact vcSkip_monoR L hd (L.know r hb) (fun _ _ _ hk r' => hm _ _ _ hk r') h
          · exact vcTake_monoR L hd (L.know r hb) hm h
        · rename_i hbt
          have hbf : b = false := by simpa using hbt
          subst hbf
          rw [if_neg (by simp)]
          cases want <;> simp only [cond] at h ⊢
          · exact vcTake_monoR L hd (L.know r hb) hm h
          · exact vcSkip_monoR L hd (L.know r hb) (fun _ _ _ hk r' => hm _ _ _ hk r') h
      · rename_i vs hb
        rw [(L.ref r).at_ _ _ hb]
        exact vcSkip_monoR L hd r (fun _ _ _ hk r' => hm _ _ _ hk r') h
      · exact h.elim

theorem vcDraw_monoR (L : Lasts Rl ok) (ha : (ops.toList.all fun (o : Oper) => ok o.dst) = true) {Q Q' : QT} (hq : ∀ x e e' w, Q x e w → Rl e' e → Q' x e' w) : ∀ (fuel : Nat) (listed : Array Bool) (S : Held) (e e' : Env) (w : World), Rl e' e → vcDraw P ops fuel listed S e w Q → vcDraw P ops fuel listed S e' w Q' := by
  have hok : ∀ (i : Nat) (o : Oper), ops[i]? = some o → ok o.dst = true := fun i o ho => List.all_eq_true.1 ha o (Array.mem_toList_iff.2 (Array.mem_of_getElem? ho))
  intro fuel
  induction fuel with
  | zero =>
    intro listed S e e' w r h
    unfold vcDraw at h ⊢
    cases hr : (Region.ready .any ops listed).isEmpty <;> simp only [hr, cond] at h ⊢
    exact hq _ _ _ _ h r
  | succ fuel ih =>
    intro listed S e e' w r h
    unfold vcDraw at h ⊢
    split at h
    · rename_i i hi
      split at h
      · rename_i o ho
        exact vcTakeG_monoR L (hok _ _ ho) r (fun _ _ _ hk r' => ih _ _ _ _ _ r' hk) h
      · exact h
    · cases hr : (Region.ready .any ops listed).isEmpty <;> simp only [hr, cond] at h ⊢
      · refine forAll_mono (fun i hi => ?_) h
        split at hi
        · rename_i o ho
          exact vcOper_monoR L (hok _ _ ho) r (fun _ _ _ hk r' => ⟨hk.1, ih _ _ _ _ _ r' hk.2⟩) (fun _ _ hp => hq _ _ _ _ hp r) hi
        · exact hi
      · exact hq _ _ _ _ h r

def okW (ok : Option Tmp → Bool) : Code → Bool
  | .region _ ops _ => ops.toList.all fun (o : Oper) => ok o.dst
  | .seq a b => okW ok a && okW ok b
  | .cond _ a b => okW ok a && okW ok b
  | .block _ b => okW ok b
  | .loop b => okW ok b
  | _ => true

theorem vcCode_monoR (L : Lasts Rl ok) : ∀ (c : Code) (p : Nat), okW ok c = true → ∀ {e e' : Env} {w : World} {Q Q' : QT}, (∀ x e e' w, Q x e w → Rl e' e → Q' x e' w) → Rl e' e → vcCode P noH c p e w Q → vcCode P noH c p e' w Q' := by
  intro c
  induction c with
  | skip => intro p _ e e' w Q Q' hq r h; exact hq _ _ _ _ h r
  | region id ops d =>
    intro p ha e e' w Q Q' hq r h
    cases d
    · exact vcOps_monoR L hq _ ha _ _ _ r h
    · simp only [vcCode, hk, noH] at h ⊢
      cases hn : Region.noSelect ops <;> simp only [hn, cond] at h ⊢
      exact vcDraw_monoR L ha hq _ _ _ _ _ _ r h
  | seq a b iha ihb =>
    intro p ha e e' w Q Q' hq r h
    simp only [okW, Bool.and_eq_true] at ha
    refine iha _ ha.1 (Q := seqQ (fun e w => vcCode P noH b (2 * p + 1) e w Q) Q) (fun x e e' w hx r' => ?_) r h
    cases x <;> first | exact ihb _ ha.2 hq r' hx | exact hq _ _ _ _ hx r'
  | cond c a b iha ihb =>
    intro p ha e e' w Q Q' hq r h
    simp only [okW, Bool.and_eq_true] at ha
    simp only [vcCode, hk, noH] at h ⊢
    split at h
    · rename_i t ht
      rw [(L.ref r).ev_ ht]
      simp only
      split at h
      · rename_i hb; rw [if_pos hb]; exact iha _ ha.1 hq r h
      · rename_i hb; rw [if_neg hb]; exact ihb _ ha.2 hq r h
    · exact h.elim
  | block id b ih =>
    intro p ha e e' w Q Q' hq r h
    refine ih _ ha (Q := blockQ id Q) (fun x e e' w hx r' => ?_) r h
    cases x <;> simp only [blockQ] at hx ⊢ <;> try exact hq _ _ _ _ hx r'
    rename_i i
    cases hb : Nat.beq i id <;> simp only [hb, cond] at hx ⊢ <;> exact hq _ _ _ _ hx r'
  | loop b ih =>
    intro p ha e e' w Q Q' hq r h
    intro X' hX'
    have key := h (fun e w => ∀ e', Rl e' e → X' e' w) (fun e w hb e' r' => hX' e' w (ih _ ha (Q := seqQ (fun e w => ∀ e', Rl e' e → X' e' w) Q) (fun x e1 e1' w1 hx r1 => by
      cases x <;> first | exact hx e1' r1 | exact hq _ _ _ _ hx r1) r' hb))
    exact key e' r
  | exit id => intro p _ e e' w Q Q' hq r h; exact hq _ _ _ _ h r
  | goto l => intro p _ e e' w Q Q' hq r h; exact hq _ _ _ _ h r
  | ret => intro p _ e e' w Q Q' hq r h; exact hq _ _ _ _ h r
  | _ => intro p _ e e' w Q Q' hq r h; exact h.elim
end

/-! ### what is not written stays -/

structure RefF (ks : Nat → Bool) (base : Env) (e' e : Env) : Prop where
  ref : Ref e' e
  n : e'.n = base.n
  ds : e'.ds = base.ds
  stay : ∀ t v, ks t = true → find base.l t = some v → find e'.l t = some v
def notIn (ks : Nat → Bool) (d : Option Tmp) : Bool := match d with | some d => !ks d | none => true
theorem RefF.lasts (ks : Nat → Bool) (base : Env) : Lasts (RefF ks base) (notIn ks) where
  ref := fun r => r.ref.toL
  put_ := fun {e' e d} v r hd => ⟨r.ref.put_ d v, by cases d <;> exact r.n, by cases d <;> exact r.ds, fun t u hk hb => by
    cases d with
    | none => exact r.stay t u hk hb
    | some d =>
      simp only [put, find_cons]
      rw [if_neg (fun he => by subst he; simp [notIn, hk] at hd)]
      exact r.stay t u hk hb⟩
  know := fun {e' e t b} r hb => ⟨r.ref.put_ _ _, r.n, r.ds, fun s u hk hs => by
    simp only [put, find_cons]
    split
    · rename_i he
      subst he
      have h1 := r.stay _ _ hk hs
      rw [r.ref.at_ _ _ hb] at h1
      exact h1
    · exact r.stay s u hk hs⟩

def strip (ks : Nat → Bool) : List (Nat × Value) → List (Nat × Value)
  | [] => []
  | p :: r => cond (ks p.1) (p :: strip ks r) (strip ks r)
theorem find_strip (ks : Nat → Bool) : ∀ (l : List (Nat × Value)) (t : Nat) (v : Value), find (strip ks l) t = some v → ks t = true ∧ find l t = some v
  | [], _, _, h => by cases h
  | (d, u) :: r, t, v, h => by
    unfold strip at h
    cases hk : ks d <;> simp only [hk, cond] at h
    · obtain ⟨h1, h2⟩ := find_strip ks r t v h
      refine ⟨h1, ?_⟩
      rw [find_cons, if_neg (fun he => by subst he; rw [hk] at h1; cases h1)]
      exact h2
    · rw [find_cons] at h ⊢
      split at h
      · rename_i he; subst he; rw [if_pos rfl]; exact ⟨hk, h⟩
      · rename_i he
        rw [if_neg he]
        exact find_strip ks r t v h

theorem Ref.nil_ {e' : Env} {n : Nat} {ds : List Deferred} (hn : e'.n = n) (hd : e'.ds = ds) : Ref e' ⟨[], n, ds⟩ := ⟨hn, hd, fun _ _ h => by cases h⟩
theorem Ref.cons_ {e' : Env} {l : List (Nat × Value)} {n : Nat} {ds : List Deferred} {d : Nat} {v : Value} (h : find e'.l d = some v) (r : Ref e' ⟨l, n, ds⟩) : Ref e' ⟨(d, v) :: l, n, ds⟩ :=
  ⟨r.n, r.ds, fun t u hu => by
    rw [find_cons] at hu
    split at hu
    · rename_i he; subst he; rw [h]; exact hu
    · exact r.at_ t u hu⟩

/-! ### slots that come in, slots that go out -/

/-- v is of z's kind. -/
def kindOk (z v : Value) : Bool :=
  match z, v with
  | .int k _, .int k' _ => decide (k = k')
  | .bool _, .bool _ => true
  | .string _, .string _ => true
  | .float k _, .float k' _ => decide (k = k')
  | .pointer none, .pointer _ => true
  | .pointer (some _), .pointer (some _) => true
  | .slice _ _ _, .slice _ _ _ => true
  | .func _ _ _, .func (.func _) _ _ => true
  | .map _, .map _ => true
  | .nilFunc, _ => true
  | _, _ => false
def takeAll (e : Env) : List (Nat × Value) → (List Value → Prop) → Prop
  | [], K => K []
  | p :: r, K =>
    match find e.l p.1 with
    | some v => cond (kindOk p.2 v) (takeAll e r fun l => K (v :: l)) False
    | none => False
/-- The values stand in their slots, each of its kind. -/
def Stand (e : Env) : List (Nat × Value) → List Value → Prop
  | [], [] => True
  | p :: r, v :: l => find e.l p.1 = some v ∧ kindOk p.2 v = true ∧ Stand e r l
  | _, _ => False
theorem takeAll_stand {e : Env} : ∀ {ins : List (Nat × Value)} {K : List Value → Prop}, takeAll e ins K → ∃ l, Stand e ins l ∧ K l
  | [], _, h => ⟨[], trivial, h⟩
  | p :: r, K, h => by
    unfold takeAll at h
    split at h
    · rename_i v hv
      cases hk : kindOk p.2 v <;> simp only [hk, cond] at h
      obtain ⟨l, hl, hK⟩ := takeAll_stand h
      exact ⟨v :: l, ⟨hv, hk, hl⟩, hK⟩
    · exact h.elim
theorem takeAll_mono {e e' : Env} (r : Ref e' e) : ∀ {ins : List (Nat × Value)} {K : List Value → Prop}, takeAll e ins K → takeAll e' ins K
  | [], _, h => h
  | p :: rs, K, h => by
    unfold takeAll at h ⊢
    split at h
    · rename_i v hv
      rw [r.at_ _ _ hv]
      cases hk : kindOk p.2 v <;> simp only [hk, cond] at h ⊢
      exact takeAll_mono r h
    · exact h.elim
def zipE : List (Nat × Value) → List Value → List (Nat × Value)
  | p :: r, v :: l => (p.1, v) :: zipE r l
  | _, _ => []
theorem Stand.ref {e : Env} {n : Nat} {ds : List Deferred} (hn : e.n = n) (hd : e.ds = ds) : ∀ {ins : List (Nat × Value)} {l : List Value}, Stand e ins l → Ref e ⟨zipE ins l, n, ds⟩
  | [], [], _ => .nil_ hn hd
  | _ :: _, _ :: _, h => .cons_ h.1 (Stand.ref hn hd h.2.2)
/-- Each value is of its kind. -/
def Kinds : List (Nat × Value) → List Value → Prop
  | [], [] => True
  | p :: r, v :: l => kindOk p.2 v = true ∧ Kinds r l
  | _, _ => False
theorem Stand.kinds {e : Env} : ∀ {ins : List (Nat × Value)} {l : List Value}, Stand e ins l → Kinds ins l
  | [], [], _ => trivial
  | _ :: _, _ :: _, h => ⟨h.2.1, h.2.2.kinds⟩

theorem kind_int {k : IntKind} {n : Int} {v : Value} (h : kindOk (.int k n) v = true) : ∃ x, v = .int k x := by
  cases v <;> simp [kindOk] at h
  subst h; exact ⟨_, rfl⟩
theorem kind_float {k : FloatKind} {n : Nat} {v : Value} (h : kindOk (.float k n) v = true) : ∃ x, v = .float k x := by
  cases v <;> simp [kindOk] at h
  subst h; exact ⟨_, rfl⟩
theorem kind_bool {b : Bool} {v : Value} (h : kindOk (.bool b) v = true) : ∃ x, v = .bool x := by cases v <;> simp [kindOk] at h; exact ⟨_, rfl⟩
theorem kind_string {b : ByteArray} {v : Value} (h : kindOk (.string b) v = true) : ∃ x, v = .string x := by cases v <;> simp [kindOk] at h; exact ⟨_, rfl⟩
theorem kind_pointer {v : Value} (h : kindOk (.pointer none) v = true) : ∃ x, v = .pointer x := by cases v <;> simp [kindOk] at h; exact ⟨_, rfl⟩
theorem kind_addr {a : Addr} {v : Value} (h : kindOk (.pointer (some a)) v = true) : ∃ x, v = .pointer (some x) := by
  cases v <;> simp [kindOk] at h
  rename_i p
  cases p with
  | none => simp at h
  | some x => exact ⟨x, rfl⟩
theorem kind_func {fn : Fn} {a b : Array Value} {v : Value} (h : kindOk (.func fn a b) v = true) : ∃ g fi ca, v = .func (.func g) fi ca := by
  cases v <;> simp [kindOk] at h
  rename_i f fi ca
  cases f <;> simp at h
  exact ⟨_, _, _, rfl⟩
theorem kind_any {v : Value} (_h : kindOk .nilFunc v = true) : ∃ x, v = x := ⟨_, rfl⟩
theorem kind_slice {a : Option Addr} {l c : Nat} {v : Value} (h : kindOk (.slice a l c) v = true) : ∃ a l c, v = .slice a l c := by cases v <;> simp [kindOk] at h; exact ⟨_, _, _, rfl⟩
theorem kind_map {r : Option Nat} {v : Value} (h : kindOk (.map r) v = true) : ∃ x, v = .map x := by cases v <;> simp [kindOk] at h; exact ⟨_, rfl⟩

abbrev Conts := Exit → List Value → World → Prop
/-- What a part's ways out want: the slots, and what is then to hold. -/
def unitQ (outs : Exit → Option (List (Nat × Value))) (C : Conts) : QT := fun x e w =>
  match outs x with
  | some o => takeAll e o fun l => C x l w
  | none => False
theorem MonoQ.unit_ {outs : Exit → Option (List (Nat × Value))} {C : Conts} : MonoQ (unitQ outs C) := by
  intro x e e' w h r
  unfold unitQ at *
  split at h
  · exact takeAll_mono r h
  · exact h.elim

/-- A part, told of by F. -/
def unitHook (N : Nat) (ks : Nat → Bool) (ins : List (Nat × Value)) (outs : Exit → Option (List (Nat × Value))) (F : List Value → World → Conts → Prop) : Env → World → QT → Prop := fun e w Q =>
  cond (Nat.beq e.n N && e.ds.isEmpty) (takeAll e ins fun l => F l w fun x vs w => match outs x with | some o => Q x ⟨zipE o vs ++ strip ks e.l, e.n, e.ds⟩ w | none => False) False

theorem find_append (l m : List (Nat × Value)) (t : Nat) : find (l ++ m) t = match find l t with | some v => some v | none => find m t := by
  induction l with
  | nil => rfl
  | cons p l ih =>
    rw [List.cons_append, show p = (p.1, p.2) from rfl, find_cons, find_cons]
    split
    · rfl
    · exact ih

/-- Hooks aside: what holds of more holds where that is asked. -/
theorem vcCode_hmono {P : Program} {H : Hook} : ∀ (c : Code) (p : Nat) {e : Env} {w : World} {Q Q' : QT}, (∀ x e w, Q x e w → Q' x e w) → HOk P H c p → vcCode P H c p e w Q → vcCode P H c p e w Q' := by
  have LE : Lasts (fun a b => a = b) (fun _ => true) := ⟨fun r => by subst r; exact (Ref.refl _).toL, fun _ r _ => by subst r; rfl, fun r _ => by subst r; rfl⟩
  intro c
  induction c with
  | seq a b iha ihb =>
    intro p e w Q Q' hq ho h
    simp only [vcCode, HOk] at h ho ⊢
    cases hp : H p with
    | some f => rw [hp] at h ho; exact ho.mono _ _ _ _ hq h
    | none =>
      rw [hp] at h ho
      exact iha _ (fun x e w hx => by cases x <;> first | exact ihb _ hq ho.2 hx | exact hq _ _ _ hx) ho.1 h
  | cond c a b iha ihb =>
    intro p e w Q Q' hq ho h
    simp only [vcCode, HOk] at h ho ⊢
    cases hp : H p with
    | some f => rw [hp] at h ho; exact ho.mono _ _ _ _ hq h
    | none =>
      rw [hp] at h ho
      simp only [hk] at h ⊢
      split at h
      · split at h
        · rename_i ht; rw [if_pos ht]; exact iha _ hq ho.1 h
        · rename_i ht; rw [if_neg ht]; exact ihb _ hq ho.2 h
      · exact h
  | block id b ih =>
    intro p e w Q Q' hq ho h
    simp only [vcCode, HOk] at h ho ⊢
    cases hp : H p with
    | some f => rw [hp] at h ho; exact ho.mono _ _ _ _ hq h
    | none =>
      rw [hp] at h ho
      refine ih _ (Q := blockQ id Q) (fun x e w hx => ?_) ho h
      cases x <;> simp only [blockQ] at hx ⊢ <;> try exact hq _ _ _ hx
      rename_i i
      cases hb : Nat.beq i id <;> simp only [hb, cond] at hx ⊢ <;> exact hq _ _ _ hx
  | loop b ih =>
    intro p e w Q Q' hq ho h
    simp only [vcCode, HOk] at h ho ⊢
    cases hp : H p with
    | some f => rw [hp] at h ho; exact ho.mono _ _ _ _ hq h
    | none =>
      rw [hp] at h ho
      simp only [hk] at h ⊢
      intro X hX
      exact h X fun e w hb => hX e w (ih _ (fun x e w hx => by cases x <;> first | exact hx | exact hq _ _ _ hx) ho hb)
  | region id ops d =>
    intro p e w Q Q' hq ho h
    simp only [HOk] at ho
    cases hp : H p with
    | some f => cases d <;> (simp only [vcCode] at h ⊢; rw [hp] at h ho ⊢; exact ho.mono _ _ _ _ hq h)
    | none =>
      cases d
      · simp only [vcCode, hp, hk] at h ⊢
        exact vcOps_monoR LE (Q := Q) (Q' := Q') (fun x e e' w hx r => by subst r; exact hq _ _ _ hx) _ (List.all_eq_true.2 fun _ _ => rfl) _ _ _ rfl h
      · simp only [vcCode, hp, hk] at h ⊢
        cases hn : Region.noSelect ops <;> simp only [hn, cond] at h ⊢
        exact vcDraw_monoR LE (List.all_eq_true.2 fun _ _ => rfl) (Q := Q) (Q' := Q') (fun x e e' w hx r => by subst r; exact hq _ _ _ hx) _ _ _ _ _ _ rfl h
  | _ =>
    intro p e w Q Q' hq ho h
    simp only [vcCode, HOk] at h ho ⊢
    cases hp : H p with
    | some f => rw [hp] at h ho; exact ho.mono _ _ _ _ hq h
    | none => rw [hp] at h; first | exact hq _ _ _ h | exact h.elim

theorem unitHook_mono {N : Nat} {ks : Nat → Bool} {ins : List (Nat × Value)} {outs : Exit → Option (List (Nat × Value))} {F : List Value → World → Conts → Prop}
    (hF : ∀ l w C C', Kinds ins l → (∀ x l w, C x l w → C' x l w) → F l w C → F l w C') : ∀ e w Q Q', (∀ x e w, Q x e w → Q' x e w) → unitHook N ks ins outs F e w Q → unitHook N ks ins outs F e w Q' := by
  intro e w Q Q' hq h
  unfold unitHook at h ⊢
  cases hc : (Nat.beq e.n N && e.ds.isEmpty) <;> simp only [hc, cond] at h ⊢
  have key : ∀ (ins : List (Nat × Value)) (G G' : List Value → Prop), (∀ l, Kinds ins l → G l → G' l) → takeAll e ins G → takeAll e ins G' := by
    intro ins
    induction ins with
    | nil => intro G G' hg h; exact hg [] trivial h
    | cons p r ih =>
      intro G G' hg h
      unfold takeAll at h ⊢
      split at h
      · rename_i v hv
        cases hk : kindOk p.2 v <;> simp only [hk, cond] at h ⊢
        exact ih _ _ (fun l hl hG => hg (v :: l) ⟨hk, hl⟩ hG) h
      · exact h
  refine key _ _ _ (fun l hl hf => hF l w _ _ hl (fun x vs w hx => ?_) hf) h
  split at hx
  · exact hq _ _ _ hx
  · exact hx

theorem unitHook_ok {P : Program} {c : Code} {p N : Nat} {ks : Nat → Bool} {ins : List (Nat × Value)} {outs : Exit → Option (List (Nat × Value))} {F : List Value → World → Conts → Prop}
    (hw : okW (notIn ks) c = true) (hF : ∀ l w C, Kinds ins l → F l w C → vcCode P noH c p ⟨zipE ins l, N, []⟩ w (unitQ outs C)) :
    ∀ e w Q, MonoQ Q → unitHook N ks ins outs F e w Q → vcCode P noH c p e w Q := by
  intro e w Q hm h
  unfold unitHook at h
  cases hc : (Nat.beq e.n N && e.ds.isEmpty) <;> simp only [hc, cond] at h
  simp only [Bool.and_eq_true] at hc
  have hn : e.n = N := Nat.eq_of_beq_eq_true hc.1
  have hd : e.ds = [] := List.isEmpty_iff.1 hc.2
  obtain ⟨l, hs, hf⟩ := takeAll_stand h
  have hv := hF l w _ hs.kinds hf
  refine vcCode_monoR (RefF.lasts ks e) c p hw (fun x e1 e1' w1 hu r => ?_) ⟨hs.ref hn hd, rfl, rfl, fun _ _ _ ht => ht⟩ hv
  unfold unitQ at hu
  split at hu
  · rename_i o ho
    obtain ⟨vs, hvs, hq⟩ := takeAll_stand hu
    simp only [ho] at hq
    refine hm _ _ _ _ hq ⟨r.n, r.ds, fun t v ht => ?_⟩
    rw [find_append] at ht
    split at ht
    · rename_i v' hv'
      injection ht with ht
      subst ht
      exact r.ref.at_ _ _ ((hvs.ref (n := e1.n) (ds := e1.ds) rfl rfl).at_ _ _ hv')
    · obtain ⟨h1, h2⟩ := find_strip ks _ _ _ ht
      exact r.stay t v h1 h2
  · exact hu.elim

/-- A part without a loop at its head. -/
theorem unit_ok {P : Program} {H : Hook} {c : Code} {p N : Nat} {ks : Nat → Bool} {ins : List (Nat × Value)} {outs : Exit → Option (List (Nat × Value))} {F : List Value → World → Conts → Prop}
    (hw : okW (notIn ks) c = true) (hH : HOk P H c p) (hF : ∀ l w C, Kinds ins l → vcCode P H c p ⟨zipE ins l, N, []⟩ w (unitQ outs C) = F l w C) : UnitOk P (unitHook N ks ins outs F) c p where
  sound := unitHook_ok hw fun l w C hk h => by
    rw [← hF l w C hk] at h
    exact vcCode_hook c p MonoQ.unit_ (fun _ _ _ h => h) hH h
  mono := unitHook_mono fun l w C C' hk hc h => by
    rw [← hF _ _ _ hk] at h ⊢
    refine vcCode_hmono c p (fun x e w hx => ?_) hH h
    unfold unitQ at hx ⊢
    split at hx
    · obtain ⟨vs, hs, hC⟩ := takeAll_stand hx
      have : ∀ (o : List (Nat × Value)) (K K' : List Value → Prop), (∀ l, K l → K' l) → takeAll e o K → takeAll e o K' := by
        intro o
        induction o with
        | nil => intro K K' hk h; exact hk _ h
        | cons q o ih =>
          intro K K' hk h
          unfold takeAll at h ⊢
          split at h
          · cases hkk : kindOk q.2 _ <;> simp only [hkk, cond] at h ⊢
            exact ih _ _ (fun l hl => hk _ hl) h
          · exact h
      exact this _ _ _ (fun l hl => hc _ _ _ hl) hx
    · exact hx

/-! ### a loop -/

/-- A loop, told of by B: carr: the slots that a round may turn; fix: those that it reads and leaves. -/
theorem loop_ok {P : Program} {id p N : Nat} {b : Code} {ks : Nat → Bool} {carr fix : List (Nat × Value)} {fv : List Value} {outs : Exit → Option (List (Nat × Value))} {C : Conts} {H : Hook}
    {B : (List Value → World → Prop) → List Value → World → Prop}
    (hw : okW (notIn ks) b = true) (hks : (fix.all fun q => ks q.1) = true)
    (hH : HOk P H b (2 * (2 * p)))
    (hB : ∀ X l w, Kinds carr l → B X l w → vcCode P H b (2 * (2 * p)) ⟨zipE carr l ++ zipE fix fv, N, []⟩ w (seqQ (fun e w => takeAll e carr fun l => X l w) (blockQ id (unitQ outs C))))
    (l0 : List Value) (w : World) (hk : Kinds carr l0) (hL : ∀ X : List Value → World → Prop, (∀ l w, Kinds carr l → B X l w → X l w) → X l0 w) :
    vcCode P noH (.block id (.loop b)) p ⟨zipE carr l0 ++ zipE fix fv, N, []⟩ w (unitQ outs C) := by
  intro X hX
  have key := hL (fun l w => Kinds carr l → ∀ e', Ref e' ⟨zipE carr l ++ zipE fix fv, N, []⟩ → X e' w) (fun l w hkl hb _ e' r => ?_) hk _ (Ref.refl _)
  · exact key
  · refine hX e' w ?_
    have h1 := hB _ l w hkl hb
    have hmq : MonoQ (seqQ (fun e w => takeAll e carr fun l => Kinds carr l → ∀ e', Ref e' ⟨zipE carr l ++ zipE fix fv, N, []⟩ → X e' w) (blockQ id (unitQ outs C))) :=
      seqQ_mono (fun _ _ _ hx r => takeAll_mono r hx) (blockQ_mono MonoQ.unit_)
    have h2 := vcCode_hook (H := H) b _ hmq (fun _ _ _ h => h) hH h1
    refine vcCode_monoR (RefF.lasts ks ⟨zipE carr l ++ zipE fix fv, N, []⟩) b _ hw (fun x e1 e1' w1 hu r1 => ?_) ⟨r, r.n, r.ds, fun t v _ ht => r.at_ t v ht⟩ h2
    cases x <;> simp only [seqQ] at hu ⊢
    case normal =>
      obtain ⟨l', hl', hx⟩ := takeAll_stand hu
      have hst : Ref e1' ⟨zipE carr l', N, []⟩ := ⟨r1.n, r1.ds, fun t v ht => r1.ref.at_ _ _ ((hl'.ref (n := e1.n) (ds := e1.ds) rfl rfl).at_ _ _ ht)⟩
      refine hx hl'.kinds e1' ⟨r1.n, r1.ds, fun t v ht => ?_⟩
      rw [find_append] at ht
      split at ht
      · rename_i v' hv'
        injection ht with ht
        subst ht
        exact hst.at_ _ _ hv'
      · -- a slot of 'fix'
        rename_i hnone
        have hfx : ks t = true := by
          have : ∀ (f : List (Nat × Value)) (u : List Value), (f.all fun q => ks q.1) = true → find (zipE f u) t = some v → ks t = true := by
            intro f
            induction f with
            | nil => intro u _ h; cases u <;> cases h
            | cons q f ih =>
              intro u ha h
              simp only [List.all_cons, Bool.and_eq_true] at ha
              cases u with
              | nil => cases h
              | cons z u =>
                simp only [zipE, find_cons] at h
                split at h
                · rename_i he; rw [← he]; exact ha.1
                · exact ih u ha.2 h
          exact this fix fv hks ht
        refine r1.stay t v hfx ?_
        rw [find_append]
        have hz : find (zipE carr l) t = none := by
          have hsame : ∀ (c : List (Nat × Value)) (u u' : List Value), Kinds c u → Kinds c u' → find (zipE c u') t = none → find (zipE c u) t = none := by
            intro c
            induction c with
            | nil => intro u u' _ _ _; cases u <;> rfl
            | cons q c ih =>
              intro u u' hu hu' h
              cases u with
              | nil => exact hu.elim
              | cons z u =>
                cases u' with
                | nil => exact hu'.elim
                | cons z' u' =>
                  simp only [zipE, find_cons] at h ⊢
                  split at h
                  · cases h
                  · rename_i he; rw [if_neg he]; exact ih u u' hu.2 hu'.2 h
          exact hsame carr l l' hkl hl'.kinds hnone
        rw [hz]
        exact ht
    all_goals exact blockQ_mono MonoQ.unit_ _ _ _ _ hu r1.ref

theorem Kinds.split_ : ∀ {a b : List (Nat × Value)} {l : List Value}, Kinds (a ++ b) l → ∃ l1 l2, l = l1 ++ l2 ∧ Kinds a l1 ∧ Kinds b l2
  | [], _, l, h => ⟨[], l, rfl, trivial, h⟩
  | _ :: a, b, [], h => h.elim
  | _ :: a, b, v :: l, h => by
    obtain ⟨l1, l2, rfl, h1, h2⟩ := Kinds.split_ h.2
    exact ⟨v :: l1, l2, rfl, ⟨h.1, h1⟩, h2⟩
theorem zipE_append : ∀ {a b : List (Nat × Value)} {l u : List Value}, Kinds a l → zipE (a ++ b) (l ++ u) = zipE a l ++ zipE b u
  | [], _, [], _, _ => rfl
  | _ :: _, _, _ :: _, _, h => by simp [zipE, zipE_append h.2]
theorem Kinds.cons_ {q : Nat × Value} {r : List (Nat × Value)} {l : List Value} (h : Kinds (q :: r) l) : ∃ v l', l = v :: l' ∧ kindOk q.2 v = true ∧ Kinds r l' := by
  cases l with
  | nil => exact h.elim
  | cons v l => exact ⟨v, l, rfl, h.1, h.2⟩
theorem Kinds.nil_ {l : List Value} (h : Kinds [] l) : l = [] := by
  cases l with
  | nil => rfl
  | cons v l => exact h.elim

/-- A loop. -/
theorem loop_unit_ok {P : Program} {id p N : Nat} {b : Code} {ks : Nat → Bool} {carr fix : List (Nat × Value)} {outs : Exit → Option (List (Nat × Value))} {H : Hook}
    {B : Conts → (List Value → World → Prop) → List Value → List Value → World → Prop} {F : List Value → World → Conts → Prop}
    (hw : okW (notIn ks) b = true) (hks : (fix.all fun q => ks q.1) = true) (hH : HOk P H b (2 * (2 * p)))
    (hB : ∀ C X l u w, Kinds carr l → Kinds fix u → vcCode P H b (2 * (2 * p)) ⟨zipE carr l ++ zipE fix u, N, []⟩ w (seqQ (fun e w => takeAll e carr fun l => X l w) (blockQ id (unitQ outs C))) = B C X l u w)
    (hF : ∀ l u w C, Kinds carr l → Kinds fix u → (F (l ++ u) w C ↔ ∀ X : List Value → World → Prop, (∀ l w, Kinds carr l → B C X l u w → X l w) → X l w)) :
    UnitOk P (unitHook N ks (carr ++ fix) outs F) (.block id (.loop b)) p where
  sound := unitHook_ok hw fun l w C hk h => by
    obtain ⟨l1, l2, rfl, h1, h2⟩ := Kinds.split_ hk
    rw [zipE_append h1]
    exact loop_ok hw hks hH (B := fun X l w => B C X l l2 w) (fun X l w hl hb => by rw [hB C X l l2 w hl h2]; exact hb) l1 w h1 ((hF l1 l2 w C h1 h2).1 h)
  mono := unitHook_mono fun l w C C' hk hc h => by
    obtain ⟨l1, l2, rfl, h1, h2⟩ := Kinds.split_ hk
    rw [hF _ _ _ _ h1 h2] at h ⊢
    intro X hX
    refine h X fun l w hl hb => hX l w hl ?_
    rw [← hB _ _ _ _ _ hl h2] at hb ⊢
    refine vcCode_hmono b _ (fun x e w hx => ?_) hH hb
    have hu : ∀ x e w, unitQ outs C x e w → unitQ outs C' x e w := fun x e w hx => by
      unfold unitQ at hx ⊢
      split at hx
      · have : ∀ (o : List (Nat × Value)) (K K' : List Value → Prop), (∀ l, K l → K' l) → takeAll e o K → takeAll e o K' := by
          intro o
          induction o with
          | nil => intro K K' hk h; exact hk _ h
          | cons q o ih =>
            intro K K' hk h
            unfold takeAll at h ⊢
            split at h
            · cases hkk : kindOk q.2 _ <;> simp only [hkk, cond] at h ⊢
              exact ih _ _ (fun l hl => hk _ hl) h
            · exact h
        exact this _ _ _ (fun l hl => hc _ _ _ hl) hx
      · exact hx
    cases x <;> simp only [seqQ] at hx ⊢
    case normal => exact hx
    all_goals
      simp only [blockQ] at hx ⊢
      first
        | exact hu _ _ _ hx
        | (rename_i i
           cases hb : Nat.beq i id <;> simp only [hb, cond] at hx ⊢ <;> exact hu _ _ _ hx)

/-! ### the hooks of a function, as a list -/

def hookAt : List (Nat × (Env → World → QT → Prop)) → Hook
  | [], _ => none
  | q :: r, p => cond (Nat.beq q.1 p) (some q.2) (hookAt r p)
def hokO (P : Program) (c : Code) (p : Nat) (h : Option (Env → World → QT → Prop)) (d : List Prop) : List Prop :=
  match h with
  | some h => [UnitOk P h c p]
  | none => d
def hokL (P : Program) (H : Hook) : Code → Nat → List Prop
  | .seq a b, p => hokO P (.seq a b) p (H p) (hokL P H a (2 * p) ++ hokL P H b (2 * p + 1))
  | .cond c a b, p => hokO P (.cond c a b) p (H p) (hokL P H a (2 * p) ++ hokL P H b (2 * p + 1))
  | .block id b, p => hokO P (.block id b) p (H p) (hokL P H b (2 * p))
  | .loop b, p => hokO P (.loop b) p (H p) (hokL P H b (2 * p))
  | c, p => hokO P c p (H p) []
def allP : List Prop → Prop
  | [] => True
  | a :: r => a ∧ allP r
theorem allP_append : ∀ {a b : List Prop}, allP (a ++ b) → allP a ∧ allP b
  | [], _, h => ⟨trivial, h⟩
  | _ :: _, _, h => ⟨⟨h.1, (allP_append h.2).1⟩, (allP_append h.2).2⟩
theorem HOk_of {P : Program} {H : Hook} : ∀ (c : Code) (p : Nat), allP (hokL P H c p) → HOk P H c p := by
  have leaf : ∀ (c : Code) (p : Nat) (d : List Prop) (D : Prop), (allP d → D) → allP (hokO P c p (H p) d) → hOk P c p (H p) D := by
    intro c p d D hd h
    unfold hokO at h
    unfold hOk
    cases hp : H p with
    | some f => rw [hp] at h; exact h.1
    | none => rw [hp] at h; exact hd h
  intro c
  induction c with
  | seq a b iha ihb => intro p h; exact leaf _ _ _ _ (fun hd => ⟨iha _ (allP_append hd).1, ihb _ (allP_append hd).2⟩) h
  | cond c a b iha ihb => intro p h; exact leaf _ _ _ _ (fun hd => ⟨iha _ (allP_append hd).1, ihb _ (allP_append hd).2⟩) h
  | block id b ih => intro p h; exact leaf _ _ _ _ (ih _) h
  | loop b ih => intro p h; exact leaf _ _ _ _ (ih _) h
  | _ => intro p h; exact leaf _ _ _ _ (fun _ => trivial) h

def memN (t : Nat) : List Nat → Bool
  | [] => false
  | d :: r => cond (Nat.beq d t) true (memN t r)
def at_ : Code → List Nat → Code
  | c, [] => c
  | .seq a b, q :: r => cond (Nat.beq q 0) (at_ a r) (at_ b r)
  | .cond _ a b, q :: r => cond (Nat.beq q 0) (at_ a r) (at_ b r)
  | .block _ b, _ :: r => at_ b r
  | .loop b, _ :: r => at_ b r
  | c, _ => c
def bodyOf (f : Func) : Code := f.body.getD .skip

theorem calls_of_text {P : Program} {f : FuncId} {fn : Func} {args : List Value} {w : World} {R : Ending → World → Prop} {H : Hook} (hm : P.follows .mixedOrders = true) (hf : P.funcs[f]? = some fn) (hb : fn.body = some (bodyOf fn))
    (hs : (quietSel (bodyOf fn) && Nat.ble args.length fn.ntmps) = true) (hH : HOk P H (bodyOf fn) 1) (h : vcCode P H (bodyOf fn) 1 ⟨argEnv args 0, fn.ntmps, []⟩ w (finQ P fn.results.toList R)) : Calls P f ⟨args⟩ w R :=
  calls_of_vc hm hf hb hs (vcCode_hook _ _ MonoQ.fin (fun _ _ _ h => h) hH h)

def pInt : Value → Int | .int _ n => n | _ => 0
def pBool : Value → Bool | .bool b => b | _ => false
def pStr : Value → ByteArray | .string s => s | _ => default
def pFlt : Value → Nat | .float _ b => b | _ => 0
def pPtr : Value → Option Addr | .pointer p => p | _ => none
def pAddr : Value → Addr | .pointer (some a) => a | _ => default
def pFn : Value → FuncId | .func (.func g) _ _ => g | _ => 0
def pFi : Value → Array Value | .func _ fi _ => fi | _ => #[]
def pCa : Value → Array Value | .func _ _ ca => ca | _ => #[]
def zc (P : Program) (t : TypeId) : Array Value := ((tmpl P t).getD undef).cells
def pan (R : Ending → World → Prop) : List PanicEntry → World → Prop := fun ch w => R (.panicked ch) w
def ksOf (l : List Nat) : Nat → Bool := fun t => !(memN t l)
def pMap : Value → Option Nat | .map r => r | _ => none
def pA : Value → Option Addr | .slice a _ _ => a | _ => none
def pL : Value → Nat | .slice _ l _ => l | _ => 0
def pC : Value → Nat | .slice _ _ c => c | _ => 0
end Go.Vc

/-
  A scope whose run jumps back to one label, told of as a loop.
-/
namespace Go.Vc
open Go

/-- A jump to l, as a way out of block m. -/
def sub (l m : Nat) : Code → Code
  | .seq a b => .seq (sub l m a) (sub l m b)
  | .cond c a b => .cond c (sub l m a) (sub l m b)
  | .block id b => .block id (sub l m b)
  | .loop b => .loop (sub l m b)
  | .goto l' => cond (Nat.beq l' l) (.exit m) (.goto l')
  | c => c
/-- No block m within. -/
def freshC (m : Nat) : Code → Bool
  | .seq a b => freshC m a && freshC m b
  | .cond _ a b => freshC m a && freshC m b
  | .block id b => !Nat.beq id m && freshC m b
  | .loop b => freshC m b
  | _ => true
def orQ (l m : Nat) (Q : QT) : QT := fun x e w => match x with
  | .goto l' => cond (Nat.beq l' l) (Q (.exit m) e w ∨ Q (.goto l') e w) (Q (.goto l') e w)
  | x => Q x e w
theorem orQ_in {l m : Nat} {Q : QT} {x : Exit} {e : Env} {w : World} (h : Q x e w) : orQ l m Q x e w := by
  cases x <;> simp only [orQ] <;> first | exact h | (cases Nat.beq _ l <;> simp only [cond]; exact h; exact .inr h)
theorem orQ_mono {l m : Nat} {Q Q' : QT} (h : ∀ x e e' w, Q x e w → Ref e' e → Q' x e' w) : ∀ x e e' w, orQ l m Q x e w → Ref e' e → orQ l m Q' x e' w := by
  intro x e e' w hx r
  cases x <;> simp only [orQ] at hx ⊢ <;> try exact h _ _ _ _ hx r
  rename_i l'
  cases hb : Nat.beq l' l <;> simp only [hb, cond] at hx ⊢
  · exact h _ _ _ _ hx r
  · exact hx.imp (fun a => h _ _ _ _ a r) (fun a => h _ _ _ _ a r)

variable {P : Program}
theorem sub_ok {l m : Nat} : ∀ (c : Code) (p p' : Nat) {e : Env} {w : World} {Q : QT}, freshC m c = true → MonoQ Q → vcCode P noH (sub l m c) p e w Q → vcCode P noH c p' e w (orQ l m Q) := by
  intro c
  induction c with
  | skip => intro p p' e w Q _ hm h; exact orQ_in (l := l) (m := m) (x := .normal) h
  | region id ops d =>
    intro p p' e w Q _ hm h
    have h' : vcCode P noH (.region id ops d) p e w Q := h
    cases d
    · exact vcCode_mono (Q := Q) (Q' := orQ l m Q) (.region id ops false) p' (fun x e e' w hx r => orQ_in (hm _ _ _ _ hx r)) (Ref.refl _) h'
    · exact vcCode_mono (Q := Q) (Q' := orQ l m Q) (.region id ops true) p' (fun x e e' w hx r => orQ_in (hm _ _ _ _ hx r)) (Ref.refl _) h'
  | seq a b iha ihb =>
    intro p p' e w Q hf hm h
    simp only [freshC, Bool.and_eq_true] at hf
    have h' : vcCode P noH (sub l m a) (2 * p) e w (seqQ (fun e w => vcCode P noH (sub l m b) (2 * p + 1) e w Q) Q) := h
    have hmq : MonoQ (seqQ (fun e w => vcCode P noH (sub l m b) (2 * p + 1) e w Q) Q) := seqQ_mono (fun _ _ _ hk r => vcCode_mono _ _ hm r hk) hm
    have h1 := iha (2 * p) (2 * p') hf.1 hmq h'
    refine vcCode_mono a (2 * p') (fun x e e' w hx r => ?_) (Ref.refl _) h1
    cases x <;> simp only [orQ, seqQ] at hx ⊢
    case normal => exact ihb _ _ hf.2 hm (vcCode_mono _ _ hm r hx)
    case goto l' =>
      cases hb : Nat.beq l' l <;> simp only [hb, cond] at hx ⊢
      · exact hm _ _ _ _ hx r
      · exact hx.imp (fun a => hm _ _ _ _ a r) (fun a => hm _ _ _ _ a r)
    all_goals exact hm _ _ _ _ hx r
  | cond c a b iha ihb =>
    intro p p' e w Q hf hm h
    simp only [freshC, Bool.and_eq_true] at hf
    simp only [sub, vcCode, hk, noH] at h ⊢
    split at h
    · rename_i t ht
      split at h
      · rename_i htt; rw [if_pos htt]; exact iha _ _ hf.1 hm h
      · rename_i htt; rw [if_neg htt]; exact ihb _ _ hf.2 hm h
    · exact h.elim
  | block id b ih =>
    intro p p' e w Q hf hm h
    simp only [freshC, Bool.and_eq_true, Bool.not_eq_true'] at hf
    have h1 := ih (2 * p) (2 * p') hf.2 (blockQ_mono hm) h
    refine vcCode_mono b (2 * p') (fun x e e' w hx r => ?_) (Ref.refl _) h1
    cases x <;> simp only [orQ, blockQ] at hx ⊢
    case exit i =>
      cases hb : Nat.beq i id <;> simp only [hb, cond] at hx ⊢ <;> exact hm _ _ _ _ hx r
    case goto l' =>
      have hmid : Nat.beq m id = false := by
        cases hb : Nat.beq m id
        · rfl
        · rw [Nat.eq_of_beq_eq_true hb, Nat.beq_refl] at hf; cases hf.1
      cases hb : Nat.beq l' l <;> simp only [hb, hmid, cond] at hx ⊢
      · exact hm _ _ _ _ hx r
      · exact hx.imp (fun a => hm _ _ _ _ a r) (fun a => hm _ _ _ _ a r)
    all_goals exact hm _ _ _ _ hx r
  | loop b ih =>
    intro p p' e w Q hf hm h X hX
    refine h (fun e w => ∀ e', Ref e' e → X e' w) (fun e w hb e' r => hX e' w ?_) e (Ref.refl _)
    have hmq : MonoQ (seqQ (fun e w => ∀ e', Ref e' e → X e' w) Q) := seqQ_mono (fun _ _ _ hx r e'' r' => hx e'' (r'.trans r)) hm
    have h1 := ih (2 * p) (2 * p') hf hmq hb
    refine vcCode_mono b (2 * p') (fun x e e' w hx r => ?_) r h1
    cases x <;> simp only [orQ, seqQ] at hx ⊢
    case normal => exact hx _ r
    case goto l' =>
      cases hb : Nat.beq l' l <;> simp only [hb, cond] at hx ⊢
      · exact hm _ _ _ _ hx r
      · exact hx.imp (fun a => hm _ _ _ _ a r) (fun a => hm _ _ _ _ a r)
    all_goals exact hm _ _ _ _ hx r
  | exit id => intro p p' e w Q _ hm h; exact h
  | goto l' =>
    intro p p' e w Q _ hm h
    simp only [sub] at h
    show orQ l m Q (.goto l') e w
    cases hb : Nat.beq l' l <;> simp only [hb, cond, orQ] at h ⊢
    · exact h
    · exact .inl h
  | ret => intro p p' e w Q _ hm h; exact h
  | _ => intro p p' e w Q _ hm h; exact h.elim

/-! ### a region uses no other ways out than two -/
section
variable {ops : Array Oper} {o : Oper} {e e' : Env} {w : World} {Rl : Env → Env → Prop} {ok : Option Tmp → Bool}
theorem vcOps_npR (L : Lasts Rl ok) {Q Q' : QT} (hn : ∀ e e' w, Q .normal e w → Rl e' e → Q' .normal e' w) (hpq : ∀ c e e' w, Q (.panic c) e w → Rl e' e → Q' (.panic c) e' w) : ∀ (l : List Oper), (l.all fun (o : Oper) => ok o.dst) = true → ∀ (e e' : Env) (w : World), Rl e' e → vcOps P ops l e w Q → vcOps P ops l e' w Q'
  | [], _, _, _, _, r, h => hn _ _ _ h r
  | _ :: rest, ha, _, _, _, r, h => by
    simp only [List.all_cons, Bool.and_eq_true] at ha
    exact vcOper_monoR L ha.1 r (fun _ _ _ hk r' => vcOps_npR L hn hpq rest ha.2 _ _ _ r' hk) (fun _ _ hp => hpq _ _ _ _ hp r) h


theorem vcDraw_npR (L : Lasts Rl ok) (ha : (ops.toList.all fun (o : Oper) => ok o.dst) = true) {Q Q' : QT} (hn : ∀ e e' w, Q .normal e w → Rl e' e → Q' .normal e' w) (hpq : ∀ c e e' w, Q (.panic c) e w → Rl e' e → Q' (.panic c) e' w) : ∀ (fuel : Nat) (listed : Array Bool) (S : Held) (e e' : Env) (w : World), Rl e' e → vcDraw P ops fuel listed S e w Q → vcDraw P ops fuel listed S e' w Q' := by
  have hok : ∀ (i : Nat) (o : Oper), ops[i]? = some o → ok o.dst = true := fun i o ho => List.all_eq_true.1 ha o (Array.mem_toList_iff.2 (Array.mem_of_getElem? ho))
  intro fuel
  induction fuel with
  | zero =>
    intro listed S e e' w r h
    unfold vcDraw at h ⊢
    cases hr : (Region.ready .any ops listed).isEmpty <;> simp only [hr, cond] at h ⊢
    exact hn _ _ _ h r
  | succ fuel ih =>
    intro listed S e e' w r h
    unfold vcDraw at h ⊢
    split at h
    · rename_i i hi
      split at h
      · rename_i o ho
        exact vcTakeG_monoR L (hok _ _ ho) r (fun _ _ _ hk r' => ih _ _ _ _ _ r' hk) h
      · exact h
    · cases hr : (Region.ready .any ops listed).isEmpty <;> simp only [hr, cond] at h ⊢
      · refine forAll_mono (fun i hi => ?_) h
        split at hi
        · rename_i o ho
          exact vcOper_monoR L (hok _ _ ho) r (fun _ _ _ hk r' => ⟨hk.1, ih _ _ _ _ _ r' hk.2⟩) (fun _ _ hp => hpq _ _ _ _ hp r) hi
        · exact hi
      · exact hn _ _ _ h r
end
theorem lasts_eq : Lasts (fun a b => a = b) (fun _ => true) := ⟨fun r => by subst r; exact (Ref.refl _).toL, fun _ r _ => by subst r; rfl, fun r _ => by subst r; rfl⟩
/-- The way out number i does not stand in it. -/
def noExit (i : Nat) : Code → Bool
  | .seq a b => noExit i a && noExit i b
  | .cond _ a b => noExit i a && noExit i b
  | .block _ b => noExit i b
  | .loop b => noExit i b
  | .exit j => !Nat.beq j i
  | _ => true
def dropQ (i : Nat) (Q : QT) : QT := fun x e w => match x with
  | .exit j => cond (Nat.beq j i) False (Q (.exit j) e w)
  | x => Q x e w
theorem dropQ_mono {i : Nat} {Q Q' : QT} (h : ∀ x e e' w, Q x e w → Ref e' e → Q' x e' w) : ∀ x e e' w, dropQ i Q x e w → Ref e' e → dropQ i Q' x e' w := by
  intro x e e' w hx r
  cases x <;> simp only [dropQ] at hx ⊢ <;> try exact h _ _ _ _ hx r
  cases hb : Nat.beq _ i <;> simp only [hb, cond] at hx ⊢
  exact h _ _ _ _ hx r
theorem drop_ok {i : Nat} : ∀ (c : Code) (p : Nat) {e : Env} {w : World} {Q : QT}, noExit i c = true → MonoQ Q → vcCode P noH c p e w Q → vcCode P noH c p e w (dropQ i Q) := by
  intro c
  induction c with
  | skip => intro p e w Q _ hm h; exact h
  | region id ops d =>
    intro p e w Q _ hm h
    cases d
    · exact vcOps_npR lasts_eq (Q := Q) (Q' := dropQ i Q) (fun e e' w h r => by subst r; exact h) (fun c e e' w h r => by subst r; exact h) _ (List.all_eq_true.2 fun _ _ => rfl) _ _ _ rfl h
    · simp only [vcCode, hk, noH] at h ⊢
      cases hn : Region.noSelect ops <;> simp only [hn, cond] at h ⊢
      exact vcDraw_npR lasts_eq (List.all_eq_true.2 fun _ _ => rfl) (Q := Q) (Q' := dropQ i Q) (fun e e' w h r => by subst r; exact h) (fun c e e' w h r => by subst r; exact h) _ _ _ _ _ _ rfl h
  | seq a b iha ihb =>
    intro p e w Q hf hm h
    simp only [noExit, Bool.and_eq_true] at hf
    have hmq : MonoQ (seqQ (fun e w => vcCode P noH b (2 * p + 1) e w Q) Q) := seqQ_mono (fun _ _ _ hk r => vcCode_mono _ _ hm r hk) hm
    have h1 := iha (2 * p) hf.1 hmq h
    refine vcCode_mono a (2 * p) (fun x e e' w hx r => ?_) (Ref.refl _) h1
    cases x <;> simp only [dropQ, seqQ] at hx ⊢
    case normal => exact ihb _ hf.2 hm (vcCode_mono _ _ hm r hx)
    case exit j =>
      cases hb : Nat.beq j i <;> simp only [hb, cond] at hx ⊢
      exact hm _ _ _ _ hx r
    all_goals exact hm _ _ _ _ hx r
  | cond c a b iha ihb =>
    intro p e w Q hf hm h
    simp only [noExit, Bool.and_eq_true] at hf
    simp only [vcCode, hk, noH] at h ⊢
    split at h
    · rename_i t ht
      split at h
      · rename_i htt; rw [if_pos htt]; exact iha _ hf.1 hm h
      · rename_i htt; rw [if_neg htt]; exact ihb _ hf.2 hm h
    · exact h.elim
  | block id b ih =>
    intro p e w Q hf hm h
    have h1 := ih (2 * p) hf (blockQ_mono hm) h
    refine vcCode_mono b (2 * p) (fun x e e' w hx r => ?_) (Ref.refl _) h1
    cases x <;> simp only [dropQ, blockQ] at hx ⊢
    case exit j =>
      cases hj : Nat.beq j i <;> simp only [hj, cond] at hx ⊢
      cases hb : Nat.beq j id <;> simp only [hb] at hx ⊢ <;> exact hm _ _ _ _ hx r
    all_goals exact hm _ _ _ _ hx r
  | loop b ih =>
    intro p e w Q hf hm h X hX
    refine h (fun e w => ∀ e', Ref e' e → X e' w) (fun e w hb e' r => hX e' w ?_) e (Ref.refl _)
    have hmq : MonoQ (seqQ (fun e w => ∀ e', Ref e' e → X e' w) Q) := seqQ_mono (fun _ _ _ hx r e'' r' => hx e'' (r'.trans r)) hm
    have h1 := ih (2 * p) hf hmq hb
    refine vcCode_mono b (2 * p) (fun x e e' w hx r => ?_) r h1
    cases x <;> simp only [dropQ, seqQ] at hx ⊢
    case normal => exact hx _ r
    case exit j =>
      cases hb : Nat.beq j i <;> simp only [hb, cond] at hx ⊢
      exact hm _ _ _ _ hx r
    all_goals exact hm _ _ _ _ hx r
  | exit j =>
    intro p e w Q hf hm h
    simp only [noExit, Bool.not_eq_true'] at hf
    show dropQ i Q (.exit j) e w
    simp only [dropQ, hf, cond]
    exact h
  | goto l => intro p e w Q _ hm h; exact h
  | ret => intro p e w Q _ hm h; exact h
  | _ => intro p e w Q _ hm h; exact h.elim

/-! ### the scope -/
def ScopeFrom (P : Program) (c B : Code) (Q : Exit → Act → World → Prop) (a : Act) (w : World) : Prop :=
  ∀ (b : Frame) (k : List Item) (cs : List Frame), ∃ e a' w', Q e a' w' ∧ Arrives P (lone (b.at a (.code (.seq .skip B) :: .inScope c :: k)) cs w) b k cs e a' w'
def scopeQ (P : Program) (c B : Code) (l : Nat) (Q : Exit → Act → World → Prop) : Exit → Act → World → Prop
  | .goto l', a, w => l' = l ∧ ScopeFrom P c B Q a w
  | e, a, w => Q e a w
theorem scope_arrives {c B : Code} {l : Nat} {Q : Exit → Act → World → Prop} (hf : findLabel c l = some (.seq .skip B)) {x : Code} {a : Act} {w : World} (h : x.wp P (scopeQ P c B l Q) a w) (b : Frame) (k : List Item) (cs : List Frame) :
    ∃ e a' w', Q e a' w' ∧ Arrives P (lone (b.at a (.code x :: .inScope c :: k)) cs w) b k cs e a' w' := by
  have hg : gotoIn l (.inScope c :: k) = some (.code (.seq .skip B) :: .inScope c :: k) := by simp [gotoIn, hf]
  obtain ⟨e, a₁, w₁, hq, harr⟩ := h b (.inScope c :: k) cs
  cases e with
  | normal => exact ⟨.normal, a₁, w₁, hq, Steps.trans harr (.one step_inScope)⟩
  | exit id => exact ⟨.exit id, a₁, w₁, hq, fun k' hk => harr k' (by simp [exitTo, hk])⟩
  | goto l' =>
    obtain ⟨rfl, hS⟩ := hq
    obtain ⟨e₂, a₂, w₂, hq₂, harr₂⟩ := hS b k cs
    exact ⟨e₂, a₂, w₂, hq₂, .of_steps (harr _ hg) harr₂⟩
  | ret => exact ⟨_, a₁, w₁, hq, harr⟩
  | panic ch => exact ⟨_, a₁, w₁, hq, harr⟩
  | outgrown => exact ⟨_, a₁, w₁, hq, harr⟩
theorem ScopeFrom.step {c B : Code} {l : Nat} {Q : Exit → Act → World → Prop} (hf : findLabel c l = some (.seq .skip B)) {a : Act} {w : World} (h : B.wp P (scopeQ P c B l Q) a w) : ScopeFrom P c B Q a w :=
  fun b k cs => scope_arrives hf (wp_seq (wp_skip h)) b k cs
theorem wp_scope_from {c B : Code} {l : Nat} {Q : Exit → Act → World → Prop} (hf : findLabel c l = some (.seq .skip B)) {a : Act} {w : World} (h : c.wp P (scopeQ P c B l Q) a w) : (Code.scope c).wp P Q a w := by
  intro b k cs
  obtain ⟨e, a', w', hq, harr⟩ := scope_arrives hf h b k cs
  exact ⟨e, a', w', hq, .of_steps (.one step_scope) harr⟩

/-- What follows the label, as a loop. -/
def lapC (l M N : Nat) (B : Code) : Code := .block N (.loop (.block M (.seq (sub l M B) (.refuse ""))))
theorem lap_sound (hm : P.follows .mixedOrders = true) {c B : Code} {l M N p : Nat} {Q : QT} {Qd : Exit → Act → World → Prop} (hf : findLabel c l = some (.seq .skip B)) (hs : quietSel B = true) (hfr : freshC M B = true) (hM : noExit M B = true) (hN : noExit N B = true)
    (hst : Still Qd) (hmq : MonoQ Q) (hng : ∀ l' e w, ¬ Q (.goto l') e w) (hq : ∀ x e w a, Q x e w → Fr a e → Qd x a w) {e : Env} {w : World} {a : Act} (fr : Fr a e)
    (h : vcCode P noH (lapC l M N B) p e w Q) : B.wp P (scopeQ P c B l Qd) a w := by
  refine h (fun e w => ∀ a, Fr a e → B.wp P (scopeQ P c B l Qd) a w) (fun e w hb a fr' => ?_) a fr
  have hX : ∀ (e e' : Env) (w : World), (∀ a, Fr a e → B.wp P (scopeQ P c B l Qd) a w) → Ref e' e → ∀ a, Fr a e' → B.wp P (scopeQ P c B l Qd) a w := fun e e' w hx r a fr => hx a (fr.ref r)
  have hm1 : MonoQ (seqQ (fun e w => ∀ a, Fr a e → B.wp P (scopeQ P c B l Qd) a w) (blockQ N Q)) := seqQ_mono (fun e e' w hx r => hX e e' w hx r) (blockQ_mono hmq)
  have hm2 : MonoQ (blockQ M (seqQ (fun e w => ∀ a, Fr a e → B.wp P (scopeQ P c B l Qd) a w) (blockQ N Q))) := blockQ_mono hm1
  have hm3 : MonoQ (seqQ (fun e w => vcCode P noH (.refuse "") 0 e w (blockQ M (seqQ (fun e w => ∀ a, Fr a e → B.wp P (scopeQ P c B l Qd) a w) (blockQ N Q)))) (blockQ M (seqQ (fun e w => ∀ a, Fr a e → B.wp P (scopeQ P c B l Qd) a w) (blockQ N Q)))) := seqQ_mono (fun _ _ _ hx _ => hx) hm2
  have h1 := sub_ok B (2 * (2 * (2 * (2 * p)))) 1 hfr hm3 hb
  have h2 := drop_ok (i := M) B 1 hM (orQ_mono hm3) h1
  have h3 := drop_ok (i := N) B 1 hN (dropQ_mono (orQ_mono hm3)) h2
  refine vcCode_sound hm B 1 hs (Qd := scopeQ P c B l Qd) (fun ch a d v w hx => hst ch a d v w hx) (fun x e w a hx fr => ?_) fr' h3
  cases x with
  | normal => exact hx.elim
  | exit j =>
    simp only [dropQ] at hx
    cases hjN : Nat.beq j N <;> simp only [hjN, cond] at hx
    cases hjM : Nat.beq j M <;> simp only [hjM] at hx
    simp only [orQ, seqQ, blockQ, hjM, hjN, cond] at hx
    exact hq _ _ _ _ hx fr
  | goto l' =>
    simp only [dropQ, orQ] at hx
    cases hl : Nat.beq l' l <;> simp only [hl, cond] at hx
    · exact absurd hx (hng l' e w)
    · rcases hx with hx | hx
      · refine ⟨Nat.eq_of_beq_eq_true hl, ScopeFrom.step hf ?_⟩
        simp only [seqQ, blockQ, Nat.beq_refl, cond] at hx
        exact hx a fr
      · exact absurd hx (hng l' e w)
  | ret => exact hq _ _ _ _ hx fr
  | panic ch => exact hq _ _ _ _ hx fr
  | outgrown => exact hq _ _ _ _ hx fr

/-! ### the chain ahead of the label -/
/-- A scope's inside, turned: from the label on it is a loop. -/
def turnT (l M N : Nat) : Code → Code
  | .seq (.label l') b => cond (Nat.beq l' l) (lapC l M N b) (.seq (.label l') b)
  | .seq a b => .seq a (turnT l M N b)
  | c => c
/-- What stands behind the label. -/
def lapOf (l : Nat) : Code → Option Code
  | .seq (.label l') b => cond (Nat.beq l' l) (some b) none
  | .seq _ b => lapOf l b
  | _ => none
theorem chain_sound (hm : P.follows .mixedOrders = true) {c B : Code} {l M N : Nat} {Q : QT} {Qd : Exit → Act → World → Prop} (hf : findLabel c l = some (.seq .skip B)) (hfr : freshC M B = true) (hM : noExit M B = true) (hN : noExit N B = true) (hsB : quietSel B = true)
    (hst : Still Qd) (hmq : MonoQ Q) (hng : ∀ l' e w, ¬ Q (.goto l') e w) (hq : ∀ x e w a, Q x e w → Fr a e → Qd x a w) :
    ∀ (d : Code) (p : Nat), lapOf l d = some B → quietSel d = true → ∀ {e : Env} {w : World} {a : Act}, Fr a e → vcCode P noH (turnT l M N d) p e w Q → d.wp P (scopeQ P c B l Qd) a w := by
  have hst' : Still (scopeQ P c B l Qd) := fun ch a d v w hx => hst ch a d v w hx
  have hq' : ∀ x e w a, Q x e w → Fr a e → scopeQ P c B l Qd x a w := fun x e w a hx fr => by
    cases x <;> first | exact hq _ _ _ _ hx fr | exact absurd hx (hng _ _ _)
  intro d
  induction d with
  | seq x y _ ihy =>
    intro p hl hs e w a fr h
    simp only [quietSel, Bool.and_eq_true] at hs
    have plain : lapOf l y = some B → vcCode P noH (.seq x (turnT l M N y)) p e w Q → (Code.seq x y).wp P (scopeQ P c B l Qd) a w := fun hl h => by
      have hmq' : MonoQ (seqQ (fun e w => vcCode P noH (turnT l M N y) (2 * p + 1) e w Q) Q) := seqQ_mono (fun _ _ _ hk r => vcCode_mono _ _ hmq r hk) hmq
      refine wp_seq (vcCode_sound hm x (2 * p) hs.1 (Q := seqQ (fun e w => vcCode P noH (turnT l M N y) (2 * p + 1) e w Q) Q) hst'.then_ (fun z e w a hz fr' => ?_) fr h)
      cases z <;> first | exact ihy _ hl hs.2 fr' hz | exact hq' _ _ _ _ hz fr'
    cases x with
    | label l' =>
      simp only [lapOf, turnT] at hl h
      cases hb : Nat.beq l' l <;> simp only [hb, cond] at hl h
      · cases hl
      · injection hl with hl
        subst hl
        exact wp_seq (wp_label (lap_sound hm hf hsB hfr hM hN hst hmq hng hq fr h))
    | _ => exact plain hl h
  | _ => intro p hl; cases hl
theorem scope_turned (hm : P.follows .mixedOrders = true) {c B : Code} {l M N p : Nat} {Q : QT} {Qd : Exit → Act → World → Prop} (hf : findLabel c l = some (.seq .skip B)) (hl : lapOf l c = some B) (hs : quietSel c = true) (hsB : quietSel B = true) (hfr : freshC M B = true) (hM : noExit M B = true) (hN : noExit N B = true)
    (hst : Still Qd) (hmq : MonoQ Q) (hng : ∀ l' e w, ¬ Q (.goto l') e w) (hq : ∀ x e w a, Q x e w → Fr a e → Qd x a w) {e : Env} {w : World} {a : Act} (fr : Fr a e) (h : vcCode P noH (turnT l M N c) p e w Q) : (Code.scope c).wp P Qd a w :=
  wp_scope_from hf (chain_sound hm hf hfr hM hN hsB hst hmq hng hq c p hl hs fr h)

/-- A function whose body is 'r; scope c', by its turned text. -/
theorem calls_of_scope {f : FuncId} {fn : Func} {r c B : Code} {l M N : Nat} {args : List Value} {w : World} {R : Ending → World → Prop} {H : Hook} (hm : P.follows .mixedOrders = true) (hf : P.funcs[f]? = some fn) (hb : fn.body = some (.seq r (.scope c)))
    (hfl : findLabel c l = some (.seq .skip B)) (hl : lapOf l c = some B)
    (hs : ((quietSel r && quietSel c && quietSel B) && (freshC M B && noExit M B && noExit N B) && Nat.ble args.length fn.ntmps) = true)
    (hH : HOk P H (.seq r (turnT l M N c)) 1) (hh : vcCode P H (.seq r (turnT l M N c)) 1 ⟨argEnv args 0, fn.ntmps, []⟩ w (finQ P fn.results.toList R)) : Calls P f ⟨args⟩ w R := by
  simp only [Bool.and_eq_true] at hs
  obtain ⟨⟨⟨⟨s1, s2⟩, s3⟩, ⟨⟨s4, s5⟩, s6⟩⟩, s7⟩ := hs
  have hle : args.length ≤ fn.ntmps := Nat.le_of_ble_eq_true s7
  have h := vcCode_hook (Q := finQ P fn.results.toList R) (Q' := finQ P fn.results.toList R) _ _ MonoQ.fin (fun _ _ _ h => h) hH hh
  have hst : Still (bodyPost P fn R) := fun c a d v w hh => by
    obtain ⟨hd, hR⟩ := hh
    refine ⟨?_, hR⟩
    cases d <;> exact hd
  have hq : ∀ x e w a, finQ P fn.results.toList R x e w → Fr a e → bodyPost P fn R x a w := fun x e w a hx fr => by
    have hds : a.defers = e.ds := fr.ds
    cases x <;> simp only [finQ] at hx <;> try exact hx.elim
    all_goals
      cases he : e.ds.isEmpty <;> simp only [he, cond] at hx
      have hnil : a.defers = [] := by rw [hds]; exact List.isEmpty_iff.1 he
      first
        | (obtain ⟨v, hv, hR⟩ := results_run (R := fun v => R (.returned v) w) fr hx; exact ⟨hnil, v, hv, hR⟩)
        | exact ⟨hnil, hx⟩
  have hm2 : MonoQ (seqQ (fun e w => vcCode P noH (turnT l M N c) 3 e w (finQ P fn.results.toList R)) (finQ P fn.results.toList R)) := seqQ_mono (fun _ _ _ hk r => vcCode_mono _ _ MonoQ.fin r hk) MonoQ.fin
  refine calls_of_wp hf hb (wp_seq (vcCode_sound hm r 2 s1 (Q := seqQ (fun e w => vcCode P noH (turnT l M N c) 3 e w (finQ P fn.results.toList R)) (finQ P fn.results.toList R)) hst.then_ (fun z e w a hz fr => ?_) ⟨by simp; omega, rfl, fun t v hv => ?_⟩ h))
  · cases z with
    | normal => exact scope_turned hm hfl hl s2 s3 s4 s5 s6 hst MonoQ.fin (fun _ _ _ hx => hx) hq fr hz
    | exit i => exact hq (.exit i) e w a hz fr
    | goto i => exact hq (.goto i) e w a hz fr
    | ret => exact hq .ret e w a hz fr
    | panic ch => exact hq (.panic ch) e w a hz fr
    | outgrown => exact hq .outgrown e w a hz fr
  · obtain ⟨_, h2⟩ := find_argEnv _ _ _ _ hv
    have hlt : t < args.length := (List.getElem?_eq_some_iff.1 h2).1
    simp only [Nat.sub_zero] at h2
    rw [List.getElem?_eq_getElem hlt] at h2
    injection h2 with h2
    simp [Array.getElem?_append, hlt, h2]
def rOf : Code → Code
  | .seq r _ => r
  | c => c
def cOf : Code → Code
  | .seq _ (.scope c) => c
  | c => c
def turnB (l M N : Nat) (b : Code) : Code := .seq (rOf b) (turnT l M N (cOf b))
end Go.Vc

/-
  Shorter words for what is printed: parts and functions whose equations close by themselves.
-/
namespace Go.Vc
open Go
abbrev ERP := Ending → World → Prop
abbrev WP := World → Prop
abbrev KP := List PanicEntry → World → Prop
def nv : List Value → Nat → Value
  | [], _ => .nilFunc
  | v :: _, 0 => v
  | _ :: r, i + 1 => nv r i
def exF : List (Nat × List (Nat × Value)) → Nat → Option (List (Nat × Value))
  | [], _ => none
  | q :: r, i => cond (Nat.beq i q.1) (some q.2) (exF r i)
def oF (n r : Option (List (Nat × Value))) (es : List (Nat × List (Nat × Value))) : Exit → Option (List (Nat × Value))
  | .normal => n
  | .ret => r
  | .panic _ => some []
  | .exit i => exF es i
  | _ => none
/-- A value of a template's kind, out of what it is made of. -/
def rb1 (z v : Value) : Value := match z with
  | .int k _ => .int k (pInt v)
  | .bool _ => .bool (pBool v)
  | .string _ => .string (pStr v)
  | .float k _ => .float k (pFlt v)
  | .pointer none => .pointer (pPtr v)
  | .pointer (some _) => .pointer (some (pAddr v))
  | .slice _ _ _ => .slice (pA v) (pL v) (pC v)
  | .map _ => .map (pMap v)
  | .func _ _ _ => .func (.func (pFn v)) (pFi v) (pCa v)
  | _ => v
def rbi : List (Nat × Value) → List Value → Nat → List Value
  | [], _, _ => []
  | q :: r, l, i => rb1 q.2 (nv l i) :: rbi r l (i + 1)
def rb (zs : List (Nat × Value)) (l : List Value) : List Value := rbi zs l 0
/-- Is it one of the printed templates? -/
def tplOk : Value → Bool
  | .int _ _ | .bool _ | .string _ | .float _ _ | .pointer _ | .slice _ _ _ | .map _ | .func _ _ _ | .nilFunc => true
  | _ => false
def tplsOk : List (Nat × Value) → Bool
  | [] => true
  | q :: r => tplOk q.2 && tplsOk r
theorem rb1_eq {z v : Value} (h : kindOk z v = true) (ht : tplOk z = true) : rb1 z v = v := by
  cases z with
  | int k n => obtain ⟨x, rfl⟩ := kind_int h; rfl
  | bool b => obtain ⟨x, rfl⟩ := kind_bool h; rfl
  | string b => obtain ⟨x, rfl⟩ := kind_string h; rfl
  | float k b => obtain ⟨x, rfl⟩ := kind_float h; rfl
  | pointer p =>
    cases p with
    | none => obtain ⟨x, rfl⟩ := kind_pointer h; rfl
    | some a => obtain ⟨x, rfl⟩ := kind_addr h; rfl
  | slice a l c => obtain ⟨x, y, z, rfl⟩ := kind_slice h; rfl
  | map r => obtain ⟨x, rfl⟩ := kind_map h; rfl
  | func f a b => obtain ⟨x, y, z, rfl⟩ := kind_func h; rfl
  | nilFunc => rfl
  | _ => cases ht
theorem kind_rb1 {z v : Value} (ht : tplOk z = true) : kindOk z (rb1 z v) = true := by
  cases z with
  | int k n => simp [rb1, kindOk]
  | float k n => simp [rb1, kindOk]
  | pointer p => cases p <;> simp [rb1, kindOk]
  | func f a b => simp [rb1, kindOk]
  | nilFunc => simp [kindOk]
  | bool b => simp [rb1, kindOk]
  | string b => simp [rb1, kindOk]
  | slice a l c => simp [rb1, kindOk]
  | map r => simp [rb1, kindOk]
  | _ => cases ht
theorem rbi_eq : ∀ {zs : List (Nat × Value)} {l m : List Value} {i : Nat}, Kinds zs m → tplsOk zs = true → (∀ j, nv l (i + j) = nv m j) → rbi zs l i = m
  | [], _, [], _, _, _, _ => rfl
  | q :: r, l, v :: m, i, h, ht, hj => by
    simp only [tplsOk, Bool.and_eq_true] at ht
    have e : nv l i = v := hj 0
    show rb1 q.2 (nv l i) :: rbi r l (i + 1) = _
    rw [e, rb1_eq h.1 ht.1, rbi_eq h.2 ht.2 fun j => by rw [Nat.add_assoc, Nat.add_comm 1 j]; exact hj (j + 1)]
theorem rb_eq {zs : List (Nat × Value)} {l : List Value} (h : Kinds zs l) (ht : tplsOk zs = true) : rb zs l = l := rbi_eq h ht fun j => by rw [Nat.zero_add]
theorem kinds_rbi : ∀ {zs : List (Nat × Value)} {l : List Value} {i : Nat}, tplsOk zs = true → Kinds zs (rbi zs l i)
  | [], _, _, _ => trivial
  | q :: r, l, i, ht => by
    simp only [tplsOk, Bool.and_eq_true] at ht
    exact ⟨kind_rb1 ht.1, kinds_rbi ht.2⟩
theorem kinds_rb {zs : List (Nat × Value)} {l : List Value} (ht : tplsOk zs = true) : Kinds zs (rb zs l) := kinds_rbi ht
theorem hokL_nil {P : Program} (c : Code) : ∀ p, hokL P (hookAt []) c p = [] := by
  induction c with
  | seq a b iha ihb => intro p; show hokL P (hookAt []) a _ ++ hokL P (hookAt []) b _ = []; rw [iha, ihb]; rfl
  | cond c a b iha ihb => intro p; show hokL P (hookAt []) a _ ++ hokL P (hookAt []) b _ = []; rw [iha, ihb]; rfl
  | block id b ih => intro p; exact ih _
  | loop b ih => intro p; exact ih _
  | _ => intro p; rfl
theorem hz {P : Program} {c : Code} {p : Nat} : HOk P (hookAt []) c p := HOk_of c p (by rw [hokL_nil]; exact trivial)
theorem hA {P : Program} {H : Hook} {c : Code} {p : Nat} {L : List Prop} (h : allP L) (e : hokL P H c p = L := by kernel_rfl) : HOk P H c p := HOk_of c p (by rw [e]; exact h)
theorem hn : allP [] := trivial
theorem hc {A : Prop} {r : List Prop} (a : A) (b : allP r) : allP (A :: r) := ⟨a, b⟩
section
variable {P : Program} {H : Hook} {c : Code} {p N : Nat} {ks : Nat → Bool} {ins : List (Nat × Value)} {outs : Exit → Option (List (Nat × Value))} {F : List Value → World → Conts → Prop}
theorem uk (hH : HOk P H c p) (hw : okW (notIn ks) c = true := by kernel_rfl) (ht : tplsOk ins = true := by kernel_rfl)
    (hF : ∀ l w C, vcCode P H c p ⟨zipE ins (rb ins l), N, []⟩ w (unitQ outs C) = F (rb ins l) w C := by intros; kernel_rfl) : UnitOk P (unitHook N ks ins outs F) c p :=
  unit_ok hw hH fun l w C hk => by rw [← rb_eq hk ht]; exact hF l w C
def lpB : Code → Code
  | .block _ (.loop b) => b
  | c => c
variable {B : Conts → (List Value → World → Prop) → List Value → List Value → World → Prop} {carr fix : List (Nat × Value)}
theorem lk (id : Nat) (hH : HOk P H (lpB c) (2 * (2 * p)))
    (hF : ∀ l u w C, (F (rb carr l ++ rb fix u) w C ↔ ∀ X : List Value → World → Prop, (∀ l w, B C X (rb carr l) (rb fix u) w → X (rb carr l) w) → X (rb carr l) w))
    (e : c = .block id (.loop (lpB c)) := by kernel_rfl) (hw : okW (notIn ks) (lpB c) = true := by kernel_rfl) (hks : (fix.all fun q => ks q.1) = true := by kernel_rfl) (hc : tplsOk carr = true := by kernel_rfl) (hf : tplsOk fix = true := by kernel_rfl)
    (hB : ∀ C X l u w, vcCode P H (lpB c) (2 * (2 * p)) ⟨zipE carr (rb carr l) ++ zipE fix (rb fix u), N, []⟩ w (seqQ (fun e w => takeAll e carr fun l => X l w) (blockQ id (unitQ outs C))) = B C X (rb carr l) (rb fix u) w := by intros; kernel_rfl) :
    UnitOk P (unitHook N ks (carr ++ fix) outs F) c p := by
  have := loop_unit_ok (P := P) (id := id) (p := p) (N := N) (b := lpB c) (ks := ks) (carr := carr) (fix := fix) (outs := outs) (H := H) (B := B) (F := F) hw hks hH
    (fun C X l u w hl hu => by have := hB C X l u w; rwa [rb_eq hl hc, rb_eq hu hf] at this)
    (fun l u w C hl hu => by
      have := hF l u w C
      rw [rb_eq hl hc, rb_eq hu hf] at this
      rw [this]
      constructor
      · intro h X hX
        exact h X fun l w hb => hX _ w (kinds_rb hc) hb
      · intro h X hX
        refine h X fun l w hl hb => ?_
        have := hX l w
        rw [rb_eq hl hc] at this
        exact this hb)
  rwa [← e] at this
end
section
variable {P : Program} {H : Hook} {f : FuncId} {fn : Func} {args : List Value} {w : World} {R : ERP} {T : Prop}
theorem cc (hm : P.follows .mixedOrders = true) (hf : P.funcs[f]? = some fn) (hH : HOk P H (bodyOf fn) 1) (h : T)
    (hb : fn.body = some (bodyOf fn) := by kernel_rfl) (hs : (quietSel (bodyOf fn) && Nat.ble args.length fn.ntmps) = true := by kernel_rfl)
    (he : vcCode P H (bodyOf fn) 1 ⟨argEnv args 0, fn.ntmps, []⟩ w (finQ P fn.results.toList R) = T := by kernel_rfl) : Calls P f ⟨args⟩ w R :=
  calls_of_text hm hf hb hs hH (by rw [he]; exact h)
/-- A body that jumps to one label. -/
theorem cg (l M N : Nat) (hm : P.follows .mixedOrders = true) (hf : P.funcs[f]? = some fn) (hH : HOk P H (turnB l M N (bodyOf fn)) 1) (h : T)
    (hb : fn.body = some (.seq (rOf (bodyOf fn)) (.scope (cOf (bodyOf fn)))) := by kernel_rfl) (hfl : findLabel (cOf (bodyOf fn)) l = some (.seq .skip ((lapOf l (cOf (bodyOf fn))).getD .skip)) := by kernel_rfl)
    (hl : lapOf l (cOf (bodyOf fn)) = some ((lapOf l (cOf (bodyOf fn))).getD .skip) := by kernel_rfl)
    (hs : ((quietSel (rOf (bodyOf fn)) && quietSel (cOf (bodyOf fn)) && quietSel ((lapOf l (cOf (bodyOf fn))).getD .skip)) && (freshC M ((lapOf l (cOf (bodyOf fn))).getD .skip) && noExit M ((lapOf l (cOf (bodyOf fn))).getD .skip) && noExit N ((lapOf l (cOf (bodyOf fn))).getD .skip)) && Nat.ble args.length fn.ntmps) = true := by kernel_rfl)
    (he : vcCode P H (turnB l M N (bodyOf fn)) 1 ⟨argEnv args 0, fn.ntmps, []⟩ w (finQ P fn.results.toList R) = T := by kernel_rfl) : Calls P f ⟨args⟩ w R :=
  calls_of_scope hm hf hb hfl hl hs hH (show vcCode P H (turnB l M N (bodyOf fn)) 1 ⟨argEnv args 0, fn.ntmps, []⟩ w (finQ P fn.results.toList R) from by rw [he]; exact h)
end
end Go.Vc

/-
  A function that defers one call, and the call that catches: told by the code ahead of and behind the deferral.
-/
namespace Go.Vc
open Go
section
variable {P : Program} {ops : Array Oper}
/-! ### sound, where a panic leaves some slots as they are -/
def StillOn (keep : Nat → Bool) (Qd : Exit → Act → World → Prop) : Prop := ∀ c a d v w, (∀ t, d = some t → keep t = false) → Qd (.panic c) (Act.put a d v) w → Qd (.panic c) a w
/-- No drawn region of it writes what is kept. -/
def drawFree (keep : Nat → Bool) : Code → Bool
  | .region _ ops d => cond d (ops.toList.all fun o => match o.dst with | some t => !keep t | none => true) true
  | .seq a b => drawFree keep a && drawFree keep b
  | .cond _ a b => drawFree keep a && drawFree keep b
  | .block _ b => drawFree keep b
  | .loop b => drawFree keep b
  | _ => true
theorem vcDraw_soundK {Q : QT} {Qd : Exit → Act → World → Prop} (hsel : Region.noSelect ops = true) (hst : ∀ o ∈ ops, ∀ c a v w, Qd (.panic c) (Act.put a o.dst v) w → Qd (.panic c) a w) (hq : ∀ x e w a, Q x e w → Fr a e → Qd x a w) :
    ∀ (fuel : Nat) (listed : Array Bool) (S : Held) (e : Env) (w : World) (a : Act), Fr a e → Down .any ops listed → allS S w → vcDraw P ops fuel listed S e w Q → wpAnyT P .any ops Qd fuel listed S a w := by
  intro fuel
  induction fuel with
  | zero =>
    intro listed S e w a fr _ _ h
    unfold vcDraw at h
    cases hr : (Region.ready .any ops listed).isEmpty <;> simp only [hr, cond] at h
    exact ⟨List.isEmpty_iff.1 hr, hq _ _ _ _ h fr⟩
  | succ fuel ih =>
    intro listed S e w a fr hd hA h
    unfold vcDraw at h
    split at h
    · rename_i i hi
      obtain ⟨hmem, o, ho, hfree⟩ := pickFirst_some hi
      rw [ho] at h
      simp only at h
      obtain ⟨v, e', fr', hK⟩ := vcTakeG_sound fr (Region.noSelect_spec hsel i o · · ho) h
      have hQ : ∀ c a' w', Qd (.panic c) (a'.put o.dst v) w' → Qd (.panic c) a' w' := fun c a' w' hh => hst o (Array.mem_of_getElem? ho) c a' v w' hh
      rcases hK with ⟨hK, hy⟩ | ⟨s, hs, hK, hy⟩
      · exact wpAnyT_first ho (Region.noSelect_spec hsel) hQ fuel listed S a w hd (Region.free_spec ho hfree) hmem hy trivial hA
          (wpAnyT_triv i _ _ _ _ _ (ih _ _ _ _ _ fr' (hd.set hmem) hA hK))
      · exact wpAnyT_first ho (Region.noSelect_spec hsel) hQ fuel listed S a w hd (Region.free_spec ho hfree) hmem hy hs hA
          (ih _ _ _ _ _ fr' (hd.set hmem) ⟨hs, hA⟩ hK)
    · cases hr : (Region.ready .any ops listed).isEmpty <;> simp only [hr, cond] at h
      · refine ⟨fun h0 => (by rw [h0] at hr; cases hr), fun i hi => ?_⟩
        have hf := forAll_mem h i hi
        split at hf
        · rename_i o ho
          unfold wpOp
          simp only [ho]
          have := vcOper_sound (Qd := Qd) (next := fun a' w' => allS (keep .any ops i S) w' ∧ wpAnyT P .any ops Qd fuel (listed.setIfInBounds i true) (keep .any ops i S) a' w') fr (Region.noSelect_spec hsel i o · · ho)
            (fun e' a' w' hk fr' => ⟨hk.1, ih _ _ _ _ _ fr' (hd.set hi) hk.1 hk.2⟩) (fun c w' hx => hq _ _ _ _ hx fr) hf
          split
          · rename_i hw; rw [if_pos hw] at this; exact .inl this
          · rename_i hw; rw [if_neg hw] at this; exact this
        · exact hf.elim
      · have h0 := List.isEmpty_iff.1 hr
        exact ⟨fun _ => hq _ _ _ _ h fr, fun i hi => by rw [h0] at hi; cases hi⟩
theorem vcCode_soundK (hm : P.follows .mixedOrders = true) {kp : Nat → Bool} : ∀ (c : Code) (p : Nat), quietSel c = true → drawFree kp c = true → ∀ {e : Env} {w : World} {a : Act} {Q : QT} {Qd : Exit → Act → World → Prop}, StillOn kp Qd → (∀ x e w a, Q x e w → Fr a e → Qd x a w) → Fr a e →
    vcCode P noH c p e w Q → c.wp P Qd a w := by
  intro c
  induction c with
  | skip => intro p _ _ e w a Q Qd hst hq fr h; exact wp_skip (hq _ _ _ _ h fr)
  | region id ops d =>
    intro p hs hkp e w a Q Qd hst hq fr h
    have hsel : ∀ o ∈ ops, ∀ cs b, o.op ≠ .select cs b := fun o ho cs b heq => by
      have := List.all_eq_true.1 hs o (Array.mem_toList_iff.2 ho)
      rw [heq] at this
      cases this
    cases d
    · exact wp_region_list (wpList_of_vcOps hsel hq ops.toList (fun o ho => Array.mem_toList_iff.1 ho) e w a fr h)
    · simp only [vcCode, hk, noH] at h
      cases hn : Region.noSelect ops <;> simp only [hn, cond] at h
      refine wp_region_any hm (wpAny_of_T _ _ _ _ _ (vcDraw_soundK hn (fun o ho c a v w hh => hst c a o.dst v w (fun t ht => ?_) hh) hq _ _ [] _ _ _ fr (Down.start _) trivial h))
      have := List.all_eq_true.1 (show (ops.toList.all fun o => match o.dst with | some t => !kp t | none => true) = true from hkp) o (Array.mem_toList_iff.2 ho)
      rw [ht] at this
      simpa using this
  | seq x y ihx ihy =>
    intro p hs hkp e w a Q Qd hst hq fr h
    simp only [quietSel, Bool.and_eq_true] at hs
    simp only [drawFree, Bool.and_eq_true] at hkp
    refine wp_seq (ihx _ hs.1 hkp.1 (Q := seqQ (fun e w => vcCode P noH y (2 * p + 1) e w Q) Q) (Qd := Exit.then (y.wp P Qd) Qd) (fun c a d v w hd hh => hst c a d v w hd hh) (fun z e w a hz fr' => ?_) fr h)
    cases z <;> first | exact ihy _ hs.2 hkp.2 hst hq fr' hz | exact hq _ _ _ _ hz fr'
  | cond c x y ihx ihy =>
    intro p hs hkp e w a Q Qd hst hq fr h
    simp only [quietSel, Bool.and_eq_true] at hs
    simp only [drawFree, Bool.and_eq_true] at hkp
    simp only [vcCode, hk, noH] at h
    split at h
    · rename_i t ht
      refine wp_cond_split (fr.ev_ ht) (fun ht' => ?_) (fun ht' => ?_)
      · rw [if_pos ht'] at h; exact ihx _ hs.1 hkp.1 hst hq fr h
      · rw [if_neg (by simp [ht'])] at h; exact ihy _ hs.2 hkp.2 hst hq fr h
    · exact h.elim
  | block id b ih =>
    intro p hs hkp e w a Q Qd hst hq fr h
    refine wp_block (ih _ hs hkp (Q := blockQ id Q) (Qd := Exit.inBlock id Qd) (fun c a d v w hd hh => hst c a d v w hd hh) (fun z e w a hz fr' => ?_) fr h)
    cases z <;> simp only [blockQ, Exit.inBlock] at hz ⊢ <;> try exact hq _ _ _ _ hz fr'
    rename_i i
    cases hb : Nat.beq i id <;> simp only [hb, cond] at hz
    · rw [if_neg (fun e => by subst e; rw [Nat.beq_refl] at hb; cases hb)]
      exact hq _ _ _ _ hz fr'
    · rw [if_pos (Nat.eq_of_beq_eq_true hb)]
      exact hq _ _ _ _ hz fr'
  | loop b ih =>
    intro p hs hkp e w a Q Qd hst hq fr h
    refine wp_of_LoopFrom (h (fun e w => ∀ a, Fr a e → LoopFrom P b Qd a w) (fun e w hb a fr' => LoopFrom.step (ih _ hs hkp (Q := seqQ _ Q) (Qd := Exit.then (LoopFrom P b Qd) Qd) (fun c a d v w hd hh => hst c a d v w hd hh) (fun z e w a hz fr' => ?_) fr' hb)) a fr)
    cases z <;> first | exact hz _ fr' | exact hq _ _ _ _ hz fr'
  | exit id => intro p _ _ e w a Q Qd hst hq fr h; exact wp_exit (hq _ _ _ _ h fr)
  | goto l => intro p _ _ e w a Q Qd hst hq fr h; exact wp_goto (hq _ _ _ _ h fr)
  | ret => intro p _ _ e w a Q Qd hst hq fr h; exact wp_ret (hq _ _ _ _ h fr)
  | _ => intro p _ _ e w a Q Qd hst hq fr h; exact h.elim

/-! ### one deferral -/
def look (l : List (Nat × Value)) : List Nat → (List Value → Prop) → Prop
  | [], K => K []
  | t :: ts, K => match find l t with
    | some v => look l ts fun vs => K (v :: vs)
    | none => False
abbrev DefR := Option (List PanicEntry) → List Value → World → Prop
def finD (slots : List Nat) (R : DefR) : QT := fun x e w => match x with
  | .normal => look e.l slots fun vs => R none vs w
  | .ret => look e.l slots fun vs => R none vs w
  | .panic ch => look e.l slots fun vs => R (some ch) vs w
  | _ => False
def agree (tmps : Array Value) : List Nat → List Value → Prop
  | t :: ts, v :: vs => tmps[t]? = some v ∧ agree tmps ts vs
  | _, _ => True
def modeOf : Option (List PanicEntry) → FrameMode
  | none => .returning
  | some ch => .panicking ch
def leaveR (P : Program) (fn : Func) (slots : List Nat) (R : Ending → World → Prop) (ds : List Deferred) : DefR := fun o vs w => ∀ tmps, agree tmps slots vs → Leaves P fn tmps R ds (modeOf o) w
theorem look_agree {a : Act} {e : Env} (fr : Fr a e) : ∀ (ts : List Nat) {K : List Value → Prop}, look e.l ts K → ∃ vs, agree a.tmps ts vs ∧ K vs
  | [], _, h => ⟨[], trivial, h⟩
  | t :: ts, K, h => by
    unfold look at h
    split at h
    · rename_i v hv
      obtain ⟨vs, h1, h2⟩ := look_agree fr ts h
      exact ⟨v :: vs, ⟨fr.at_ _ _ hv, h1⟩, h2⟩
    · exact h.elim
theorem look_mono {e e' : Env} (r : Ref e' e) : ∀ (ts : List Nat) {K : List Value → Prop}, look e.l ts K → look e'.l ts K
  | [], _, h => h
  | t :: ts, K, h => by
    unfold look at h ⊢
    split at h
    · rename_i v hv
      rw [r.at_ _ _ hv]
      exact look_mono r ts h
    · exact h.elim
theorem finD_mono {slots : List Nat} {R : DefR} : MonoQ (finD slots R) := fun x e e' w h r => by
  cases x <;> simp only [finD] at h ⊢ <;> try exact h.elim
  all_goals exact look_mono r _ h
def keepOf (slots : List Nat) : Nat → Bool := fun t => slots.any fun s => Nat.beq s t
theorem agree_put {a : Act} {d : Option Tmp} {v : Value} : ∀ (ts : List Nat) (vs : List Value), (∀ t, d = some t → keepOf ts t = false) → agree (a.put d v).tmps ts vs → agree a.tmps ts vs
  | [], _, _, _ => trivial
  | _ :: _, [], _, _ => trivial
  | t :: ts, u :: vs, hd, h => by
    refine ⟨?_, agree_put ts vs (fun s hs => ?_) h.2⟩
    · have h1 := h.1
      cases d with
      | none => exact h1
      | some s =>
        have hne := hd s rfl
        have : ¬ s = t := fun e => by subst e; simp [keepOf] at hne
        simp only [Act.put] at h1
        rwa [Array.getElem?_setIfInBounds_ne this] at h1
    · have := hd s hs
      simp only [keepOf, List.any_cons, Bool.or_eq_false_iff] at this ⊢
      exact this.2
theorem put_defers {a : Act} {d : Option Tmp} {v : Value} : (a.put d v).defers = a.defers := by cases d <;> rfl
theorem lasts_ds : Lasts (fun a b => a.l = b.l ∧ a.n = b.n) (fun _ => true) where
  ref := fun ⟨h1, h2⟩ => ⟨h2, fun _ _ h => by rw [h1]; exact h⟩
  put_ := fun {a b d} v ⟨h1, h2⟩ _ => by cases d <;> simp [put, h1, h2]
  know := fun {a b t v} ⟨h1, h2⟩ _ => by simp [put, h1, h2]
theorem okW_all (c : Code) : okW (fun _ => true) c = true := by
  induction c <;> simp_all [okW]
theorem lasts_same {D : List Deferred} : Lasts (fun a b => a = b ∧ a.ds = D) (fun _ => true) where
  ref := fun ⟨h, _⟩ => by subst h; exact (Ref.refl _).toL
  put_ := fun {a b d} v ⟨h, h2⟩ _ => by subst h; cases d <;> exact ⟨rfl, h2⟩
  know := fun ⟨h, h2⟩ _ => by subst h; exact ⟨rfl, h2⟩
/-- No code that is told of defers more. -/
theorem dsKept {D : List Deferred} (c : Code) (p : Nat) {e : Env} {w : World} {Q : QT} (he : e.ds = D) (h : vcCode P noH c p e w Q) : vcCode P noH c p e w fun x e w => e.ds = D ∧ Q x e w :=
  vcCode_monoR lasts_same c p (okW_all _) (fun _ e e' _ hx ⟨r, h2⟩ => by subst r; exact ⟨h2, hx⟩) ⟨rfl, he⟩ h
/-- What is told of the code ahead of the deferral. -/
def defQ (P : Program) (H : Hook) (g : FuncId) (x : Operand) (c' : Code) (slots : List Nat) (R : List Deferred → DefR) : QT := fun q e w => match q with
  | .normal => (match ev e x with
    | some vx => vcCode P H c' 7 { e with ds := [] } w (finD slots (R ({ target := .fn (.func g) #[], args := #[vx] } :: e.ds)))
    | none => False)
  | _ => False
theorem Fr.start {args : List Value} {n : Nat} (hle : args.length ≤ n) : Fr { tmps := (⟨args⟩ : Array Value) ++ Array.replicate (n - (⟨args⟩ : Array Value).size) undef, defers := [] } ⟨argEnv args 0, n, []⟩ := ⟨by simp; omega, rfl, fun t v hv => by
    obtain ⟨_, h2⟩ := find_argEnv _ _ _ _ hv
    have hlt : t < args.length := (List.getElem?_eq_some_iff.1 h2).1
    simp only [Nat.sub_zero] at h2
    rw [List.getElem?_eq_getElem hlt] at h2
    injection h2 with h2
    simp [Array.getElem?_append, hlt, h2]⟩
theorem calls_of_defer {f : FuncId} {fn : Func} {r c' : Code} {id : Nat} {o : Oper} {g : FuncId} {x : Operand} {ts : Array TypeId} {slots : List Nat} {args : List Value} {w : World} {R : Ending → World → Prop} {H : Hook} (hm : P.follows .mixedOrders = true) (hf : P.funcs[f]? = some fn) (hb : fn.body = some (.seq r (.seq (.region id ⟨[o]⟩ false) c')))
    (ho : o.op = .defer ⟨.value (.func g), #[x], ts⟩) (hgd : o.guard = none) (hds : o.dst = none)
    (hs : (quietSel r && quietSel c' && drawFree (keepOf slots) c' && Nat.ble args.length fn.ntmps) = true)
    (hH : HOk P H c' 7) (h : vcCode P noH r 2 ⟨argEnv args 0, fn.ntmps, []⟩ w (defQ P H g x c' slots (leaveR P fn slots R))) : Calls P f ⟨args⟩ w R := by
  simp only [Bool.and_eq_true] at hs
  obtain ⟨⟨⟨s1, s2⟩, s3⟩, s4⟩ := hs
  have hle : args.length ≤ fn.ntmps := Nat.le_of_ble_eq_true s4
  have hr : r.wp P (fun z a w => match z with | .normal => (Code.seq (.region id ⟨[o]⟩ false) c').wp P (bodyPostD P fn R) a w | _ => False) { tmps := (⟨args⟩ : Array Value) ++ Array.replicate (fn.ntmps - (⟨args⟩ : Array Value).size) undef, defers := [] } w := by
    refine vcCode_sound hm r 2 s1 (fun ch a d v w hh => hh) (fun z e w a hz fr => ?_) (.start hle) h
    cases z <;> simp only [defQ] at hz ⊢ <;> try exact hz.elim
    split at hz
    · rename_i vx hvx
      let D := leaveR P fn slots R ({ target := .fn (.func g) #[], args := #[vx] } :: e.ds)
      have h1 := vcCode_hook (Q := finD slots D) (Q' := finD slots D) _ _ finD_mono (fun _ _ _ h => h) hH hz
      have h2 : vcCode P noH c' 7 { e with ds := { target := .fn (.func g) #[], args := #[vx] } :: e.ds } w (finD slots D) := vcCode_monoR lasts_ds c' 7 (okW_all _) (e := { e with ds := [] }) (Q := finD slots D) (fun x e e' w hx ⟨r, _⟩ => by
        cases x <;> simp only [finD] at hx ⊢ <;> try exact hx.elim
        all_goals rw [r]; exact hx) ⟨rfl, rfl⟩ h1
      refine wp_seq (wp_region_list ?_)
      show wpList P ⟨[o]⟩ _ [o] a w
      have hx : a.eval x = vx := by
        cases x with
        | tmp t => simp only [ev] at hvx; simp [Act.eval, fr.at_ _ _ hvx]
        | const v => cases hvx; rfl
        | global g => cases hvx; rfl
        | func f => cases hvx; rfl
      have hex : (execOp a.eval o).run P w = .ok (.defer { target := .fn (.func g) #[], args := #[] ++ #[x].map a.eval }) w := by
        simp [execOp, ho, resolve, Act.eval, Deferred.ofValue]
      unfold wpList
      rw [if_pos (by simp [Region.wanted, hgd])]
      refine .inl ?_
      unfold Oper.wp
      rw [hex, Oper.upon_defer, hds]
      have fr2 : Fr ({ a with defers := { target := .fn (.func g) #[], args := #[] ++ #[x].map a.eval } :: a.defers } : Act) ({ e with ds := { target := .fn (.func g) #[], args := #[vx] } :: e.ds } : Env) := ⟨fr.size, by
        show _ :: a.defers = _ :: e.ds
        rw [fr.ds]
        simp [hx], fr.at_⟩
      have hw := vcCode_soundK hm (kp := keepOf slots) c' 7 s2 s3 (Q := fun x e' w => e'.ds = { target := .fn (.func g) #[], args := #[vx] } :: e.ds ∧ finD slots D x e' w) (Qd := fun x a w => a.defers = { target := .fn (.func g) #[], args := #[vx] } :: e.ds ∧ match x with
        | .normal => ∃ vs, agree a.tmps slots vs ∧ D none vs w
        | .ret => ∃ vs, agree a.tmps slots vs ∧ D none vs w
        | .panic ch => ∃ vs, agree a.tmps slots vs ∧ D (some ch) vs w
        | _ => False) (fun ch a d v w hd ⟨h0, hh⟩ => by
          obtain ⟨vs, h1, h2⟩ := hh
          rw [put_defers] at h0
          exact ⟨h0, vs, agree_put _ _ hd h1, h2⟩) (fun x e w a ⟨h0, hx⟩ fr => ⟨fr.ds.trans h0, by
          cases x <;> simp only [finD] at hx ⊢ <;> try exact hx.elim
          all_goals exact look_agree fr _ hx⟩) fr2 (dsKept c' 7 rfl h2)
      refine wp_mono hw fun x a w ⟨h0, hx⟩ => ?_
      cases x <;> first | exact hx.elim | skip
      all_goals
        obtain ⟨vs, h1, h2⟩ := hx
        simp only [bodyPostD]
        rw [h0]
        exact h2 _ h1
    · exact hz.elim
  refine calls_of_wp_defers hf hb (wp_seq (wp_mono hr fun x a w hx => ?_))
  cases x <;> first | exact hx | exact hx.elim

def dIdOf : Code → Nat
  | .seq _ (.seq (.region i _ _) _) => i
  | _ => 0
def noOp : Oper := ⟨none, .move (.func 0), 0, default, #[], none⟩
def dOpOf : Code → Oper
  | .seq _ (.seq (.region _ ⟨[o]⟩ _) _) => o
  | _ => noOp
def dTsOf (o : Oper) : Array TypeId := match o.op with
  | .defer ⟨_, _, ts⟩ => ts
  | _ => #[]
def rIdOf : Code → Nat
  | .seq (.region i _ _) _ => i
  | _ => 0
def rOpOf : Code → Oper
  | .seq (.region _ ⟨[o]⟩ _) _ => o
  | _ => noOp
def rTsOf (o : Oper) : Array TypeId := match o.op with
  | .call ⟨_, _, ts⟩ => ts
  | _ => #[]
def rXsOf (o : Oper) : Array Operand := match o.op with
  | .call ⟨_, xs, _⟩ => xs
  | _ => #[]

/-! ### the call that catches -/
theorem callsD_of_rec {cg : FuncId} {fn : Func} {o : Oper} {id d : Nat} {xs : Array Operand} {ts : Array TypeId} {rest : Code} {args : List Value} {w : World} {v : Value} {older : List PanicEntry} {R : Ending → FrameMode → World → Prop} {H : Hook} (hm : P.follows .mixedOrders = true) (hf : P.funcs[cg]? = some fn) (hb : fn.body = some (.seq (.region id ⟨[o]⟩ false) rest))
    (hop : o.op = .call ⟨.builtin .recover, xs, ts⟩) (hgd : o.guard = none) (hds : o.dst = some d)
    (hs : (quietSel rest && Nat.blt d fn.ntmps && Nat.ble args.length fn.ntmps) = true) (hH : HOk P H rest 3)
    (h : vcCode P H rest 3 ⟨(d, v) :: argEnv args 0, fn.ntmps, []⟩ w (finQ P fn.results.toList fun e w => R e (.panicking ({ v, recovered := true } :: older)) w)) :
    CallsD P cg ⟨args⟩ (.panicking ({ v, recovered := false, goexit := false } :: older)) w R := by
  simp only [Bool.and_eq_true] at hs
  obtain ⟨⟨s1, s2⟩, s3⟩ := hs
  have hle : args.length ≤ fn.ntmps := Nat.le_of_ble_eq_true s3
  have h2 := vcCode_hook (Q := finQ P fn.results.toList fun e w => R e (.panicking ({ v, recovered := true } :: older)) w) (Q' := finQ P fn.results.toList fun e w => R e (.panicking ({ v, recovered := true } :: older)) w) _ _ MonoQ.fin (fun _ _ _ h => h) hH h
  refine callsD_of_wpS hf hb fun c₀ cs hmode => ?_
  refine wpS_seq (wpS_region ?_)
  have hl : List.range (⟨[o]⟩ : Array Oper).size = [0] := rfl
  rw [hl]
  have ho : (⟨[o]⟩ : Array Oper)[0]? = some o := rfl
  unfold wpOpsS
  rw [ho]
  simp only
  rw [if_pos (by simp [Region.wanted, hgd])]
  have hex : ∀ ρ, (execOp ρ o).run P w = .ok .recover w := fun ρ => by simp [execOp, hop, resolve, invoke, builtin]
  rw [hex]
  simp only
  have hrd : recoverD (c₀ :: cs) = some (v, { c₀ with mode := .panicking ({ v, recovered := true } :: older) } :: cs) := by simp [recoverD, hmode]
  rw [hrd]
  simp only
  unfold wpOpsS
  rw [hds]
  show rest.wpS P _ _ _ w
  refine wpS_of_wp ?_
  refine wp_mono (vcCode_sound hm rest 3 s1 (Q := finQ P fn.results.toList fun e w => R e (.panicking ({ v, recovered := true } :: older)) w) (Qd := bodyPost P fn fun e w => R e (.panicking ({ v, recovered := true } :: older)) w) (fun c a d v w hh => ?_) (fun x e w a hx fr => ?_) (e := ⟨(d, v) :: argEnv args 0, fn.ntmps, []⟩) ((Fr.start hle).put_ (d := some d) s2 v) h2) fun x a' w' hx => ?_
  · obtain ⟨hd, hR⟩ := hh
    refine ⟨?_, hR⟩
    cases d <;> exact hd
  · have hds : a.defers = e.ds := fr.ds
    cases x <;> simp only [finQ] at hx <;> try exact hx.elim
    all_goals
      cases he : e.ds.isEmpty <;> simp only [he, cond] at hx
      have hnil : a.defers = [] := by rw [hds]; exact List.isEmpty_iff.1 he
      first
        | (obtain ⟨v, hv, hR⟩ := results_run (R := fun v => R (.returned v) _ w) fr hx; exact ⟨hnil, v, hv, hR⟩)
        | exact ⟨hnil, hx⟩
  · cases x <;> first | exact hx.elim | skip
    · obtain ⟨hd, v', hv, hR⟩ := hx
      exact ⟨hd, _, rfl, v', hv, hR⟩
    · obtain ⟨hd, v', hv, hR⟩ := hx
      exact ⟨hd, _, rfl, v', hv, hR⟩
    · obtain ⟨hd, hR⟩ := hx
      exact ⟨hd, _, rfl, hR⟩
    · exact ⟨_, hx⟩
end
end Go.Vc

/-
  What the functions' code comes to; printed by a program of this claim's own.
-/
namespace Go.Proofs.YtaocnfjhfmapkaaGreatDoor
open Go Go.Vc
set_option maxRecDepth 100000
set_option linter.unusedVariables false
variable {w : World} {R : ERP}
theorem mixed : Tryz.prog.follows .mixedOrders = true := by kernel_rfl

/-! (*tollgate/raft.Core).Fork -/
def T_raft_Core_Fork_1_body (X : WP) (f32 a33 : Addr) (w : World) (Kn : WP) (Kp : KP) : Prop :=
  runV Tryz.prog (Instr.next (.pointer (some a33)) false 0) w (fun r34 w35 => ∃ (b36 : Bool) (l37 : List Value), r34 = .tuple ⟨.bool b36 :: l37⟩ ∧ if b36 = true then (runV Tryz.prog (Instr.entry (.pointer (some a33))) w35 (fun r38 w39 => ∃ k40 u41, r38 = .tuple #[k40, u41] ∧ ∃ x42 : Int, k40 = .int .i64 x42 ∧ ∃ (x43 x44 x45 : Int), u41 = .agg #[.int .i64 x43, .int .i64 x44, .int .i64 x45] ∧ let w46 := w39.alloc (.cells #[.int .i64 0, .int .i64 0, .int .i64 0] 387)
  (.agg #[.int .i64 x43, .int .i64 x44, .int .i64 x45] : Value).cells.size = 3 ∧ wrOk w46 (⟨w39.heap.size, 0, none⟩ : Addr) (.agg #[.int .i64 x43, .int .i64 x44, .int .i64 x45]) ∧ let w47 := wr w46 (⟨w39.heap.size, 0, none⟩ : Addr) (.agg #[.int .i64 x43, .int .i64 x44, .int .i64 x45])
  ∃ m48 : Option Nat, rd w47 (f32.add 16) (.map m48) ∧ ∃ (x49 x50 x51 : Int), rd w47 (⟨w39.heap.size, 0, none⟩ : Addr) (.agg #[.int .i64 x49, .int .i64 x50, .int .i64 x51]) ∧ runV Tryz.prog (Instr.mapUpdate 215 (.map m48) (.int .i64 x42) (.agg #[.int .i64 x49, .int .i64 x50, .int .i64 x51])) w47 (fun _ w52 => X  w52) Kp) Kp) else (Kn  w35)) Kp

def T_raft_Core_Fork_1 (f32 a33 : Addr) (w : World) (Kn : WP) (Kp : KP) : Prop :=
  ∀ X : WP, (∀  (w : World), T_raft_Core_Fork_1_body X f32 a33 w Kn Kp → X  w) → X  w

def H_raft_Core_Fork_1 : Env → World → QT → Prop := unitHook 50 (ksOf [4, 5, 40, 41, 42, 43, 44, 45, 46, 47, 48, 49]) ([] ++ [(3, .pointer (some ⟨0, 0, none⟩)), (39, .pointer (some ⟨0, 0, none⟩))]) (oF (some []) none []) fun l w C => T_raft_Core_Fork_1 (pAddr (nv l 0)) (pAddr (nv l 1)) w (C .normal []) (fun ch => C (.panic ch) [])

theorem T_raft_Core_Fork_1_ok : UnitOk Tryz.prog H_raft_Core_Fork_1 (at_ (bodyOf Tryz.f185) [1, 1, 1, 1, 1, 0, 1]) 253 := lk 0 (B := fun C X l u w => T_raft_Core_Fork_1_body (X [])  (pAddr (nv u 0)) (pAddr (nv u 1)) w (C .normal []) (fun ch => C (.panic ch) [])) hz (fun l u w C => ⟨fun h X hX => h (X []) fun  w hb => hX [] w hb, fun h X hX => h (fun l w => X  w) fun l w hb => hX  w hb⟩)

def T_raft_Core_Fork (c1 : Option Addr) (w : World) (R : ERP) : Prop :=
  if c1.isNone = true then (R (.returned (.pointer none)) w) else (∃ a2, c1 = some a2 ∧ ∃ xs3 : Array Value, xs3.size = 21 ∧ rd w a2 (.agg xs3) ∧ let w4 := w.alloc (.cells (zc Tryz.prog 221) 221)
  (.agg xs3 : Value).cells.size = 21 ∧ wrOk w4 (⟨w.heap.size, 0, none⟩ : Addr) (.agg xs3) ∧ let w5 := wr w4 (⟨w.heap.size, 0, none⟩ : Addr) (.agg xs3)
  let w6 := w5.drew
  ∃ a7, c1 = some a7 ∧ ∃ (s8a : Option Addr) (s8l s8c : Nat), rd w6 (a7.add 8) (.slice s8a s8l s8c) ∧ ∃ a9, c1 = some a9 ∧ ∃ (s10a : Option Addr) (s10l s10c : Nat), rd w6 (a9.add 15) (.slice s10a s10l s10c) ∧ ∃ a11, c1 = some a11 ∧ ∃ (s12a : Option Addr) (s12l s12c : Nat), rd w6 ((a11.add 16).add 3) (.slice s12a s12l s12c) ∧ Calls Tryz.prog 158 #[.slice s8a s8l s8c] w6 (ret (fun r13 w14 => ∃ (s15a : Option Addr) (s15l s15c : Nat), r13 = .slice s15a s15l s15c ∧ (rd w14 ((a11.add 16).add 3) (.slice s12a s12l s12c) ∧ rd w14 (a9.add 15) (.slice s10a s10l s10c) ∧ True) ∧ Calls Tryz.prog 37 #[.slice s10a s10l s10c] w14 (ret (fun r16 w17 => ∃ (s18a : Option Addr) (s18l s18c : Nat), r16 = .slice s18a s18l s18c ∧ (rd w17 ((a11.add 16).add 3) (.slice s12a s12l s12c) ∧ True) ∧ Calls Tryz.prog 236 #[.slice s12a s12l s12c] w17 (ret (fun r19 w20 => ∃ (s21a : Option Addr) (s21l s21c : Nat), r19 = .slice s21a s21l s21c ∧ (True) ∧ (.slice s15a s15l s15c : Value).cells.size = 1 ∧ wrOk w20 ((⟨w.heap.size, 0, none⟩ : Addr).add 8) (.slice s15a s15l s15c) ∧ let w22 := wr w20 ((⟨w.heap.size, 0, none⟩ : Addr).add 8) (.slice s15a s15l s15c)
  (True) ∧ (.slice s18a s18l s18c : Value).cells.size = 1 ∧ wrOk w22 ((⟨w.heap.size, 0, none⟩ : Addr).add 15) (.slice s18a s18l s18c) ∧ let w23 := wr w22 ((⟨w.heap.size, 0, none⟩ : Addr).add 15) (.slice s18a s18l s18c)
  (True) ∧ (.slice s21a s21l s21c : Value).cells.size = 1 ∧ wrOk w23 (((⟨w.heap.size, 0, none⟩ : Addr).add 16).add 3) (.slice s21a s21l s21c) ∧ let w24 := wr w23 (((⟨w.heap.size, 0, none⟩ : Addr).add 16).add 3) (.slice s21a s21l s21c)
  (True) ∧ let w25 := w24.alloc (.map #[] 0)
  (.map (some w24.heap.size) : Value).cells.size = 1 ∧ wrOk w25 ((⟨w.heap.size, 0, none⟩ : Addr).add 16) (.map (some w24.heap.size)) ∧ let w26 := wr w25 ((⟨w.heap.size, 0, none⟩ : Addr).add 16) (.map (some w24.heap.size))
  ∃ a27, c1 = some a27 ∧ ∃ m28 : Option Nat, rd w26 (a27.add 16) (.map m28) ∧ runV Tryz.prog (Instr.range 215 (.map m28)) w26 (fun r29 w30 => ∃ a31, r29 = .pointer (some a31) ∧ T_raft_Core_Fork_1 (⟨w.heap.size, 0, none⟩ : Addr) a31 w30 (fun w53 => R (.returned (.pointer (some ⟨w.heap.size, 0, none⟩))) w53) (pan R)) (pan R)) (pan R))) (pan R))) (pan R)))

theorem C_raft_Core_Fork {c1 : Option Addr} (h : T_raft_Core_Fork c1 w R) : Calls Tryz.prog 185 #[.pointer c1] w R := cc mixed Tryz.func185 (hA (H := hookAt [(253, H_raft_Core_Fork_1)]) (hc T_raft_Core_Fork_1_ok hn)) h

/-! (*tollgate/raft.Core).look -/
def T_raft_Core_look_1_body (X : Option Addr → Nat → Nat → WP) (l14a : Option Addr) (l14l l14c : Nat) (c15 : Option Addr) (a16 : Addr) (w : World) (Kn : Option Addr → Nat → Nat → WP) (Kp : KP) : Prop :=
  runV Tryz.prog (Instr.next (.pointer (some a16)) false 0) w (fun r17 w18 => ∃ (b19 : Bool) (l20 : List Value), r17 = .tuple ⟨.bool b19 :: l20⟩ ∧ if b19 = true then (runV Tryz.prog (Instr.entry (.pointer (some a16))) w18 (fun r21 w22 => ∃ k23 u24, r21 = .tuple #[k23, u24] ∧ ∃ x25 : Int, k23 = .int .i64 x25 ∧ ∃ (x26 x27 x28 : Int), u24 = .agg #[.int .i64 x26, .int .i64 x27, .int .i64 x28] ∧ let w29 := w22.alloc (.cells #[.int .i64 0, .int .i64 0, .int .i64 0] 387)
  (.agg #[.int .i64 x26, .int .i64 x27, .int .i64 x28] : Value).cells.size = 3 ∧ wrOk w29 (⟨w22.heap.size, 0, none⟩ : Addr) (.agg #[.int .i64 x26, .int .i64 x27, .int .i64 x28]) ∧ let w30 := wr w29 (⟨w22.heap.size, 0, none⟩ : Addr) (.agg #[.int .i64 x26, .int .i64 x27, .int .i64 x28])
  ∃ a31, c15 = some a31 ∧ ∃ x32 : Int, rd w30 a31 (.int .i64 x32) ∧ if ((x25 : Int) != x32) = true then (∃ x33 : Int, rd w30 ((⟨w22.heap.size, 0, none⟩ : Addr).add 1) (.int .i64 x33) ∧ let w34 := w30.alloc (.cells #[.int .i64 x25, .int .i64 x33] 522)
  runV Tryz.prog (Builtin.append_ #[523, 523] 523 #[.slice l14a l14l l14c, .slice (some ⟨w30.heap.size, 0, none⟩) 1 1]) w34 (fun r35 w36 => ∃ (s37a : Option Addr) (s37l s37c : Nat), r35 = .slice s37a s37l s37c ∧ X s37a s37l s37c w36) Kp) else (X l14a l14l l14c w30)) Kp) else (Kn l14a l14l l14c w18)) Kp

def T_raft_Core_look_1 (l14a : Option Addr) (l14l l14c : Nat) (c15 : Option Addr) (a16 : Addr) (w : World) (Kn : Option Addr → Nat → Nat → WP) (Kp : KP) : Prop :=
  ∀ X : Option Addr → Nat → Nat → WP, (∀ (l14a : Option Addr) (l14l l14c : Nat) (w : World), T_raft_Core_look_1_body X l14a l14l l14c c15 a16 w Kn Kp → X l14a l14l l14c w) → X l14a l14l l14c w

def H_raft_Core_look_1 : Env → World → QT → Prop := unitHook 83 (ksOf [2, 3, 4, 20, 21, 22, 23, 24, 25, 26, 27, 28, 29, 30, 31, 32, 33, 34, 35, 36, 37]) ([(2, .slice none 0 0)] ++ [(0, .pointer none), (19, .pointer (some ⟨0, 0, none⟩))]) (oF (some [(2, .slice none 0 0)]) none []) fun l w C => T_raft_Core_look_1 (pA (nv l 0)) (pL (nv l 0)) (pC (nv l 0)) (pPtr (nv l 1)) (pAddr (nv l 2)) w (fun l39a l39l l39c => C .normal [.slice l39a l39l l39c]) (fun ch => C (.panic ch) [])

theorem T_raft_Core_look_1_ok : UnitOk Tryz.prog H_raft_Core_look_1 (at_ (bodyOf Tryz.f424) [1, 0, 1]) 13 := lk 0 (B := fun C X l u w => T_raft_Core_look_1_body (fun l14a l14l l14c => X [.slice l14a l14l l14c]) (pA (nv l 0)) (pL (nv l 0)) (pC (nv l 0)) (pPtr (nv u 0)) (pAddr (nv u 1)) w (fun l40a l40l l40c => C .normal [.slice l40a l40l l40c]) (fun ch => C (.panic ch) [])) hz (fun l u w C => ⟨fun h X hX => h (fun l14a l14l l14c => X [.slice l14a l14l l14c]) fun l14a l14l l14c w hb => hX [.slice l14a l14l l14c] w hb, fun h X hX => h (fun l w => X (pA (nv l 0)) (pL (nv l 0)) (pC (nv l 0)) w) fun l w hb => hX (pA (nv l 0)) (pL (nv l 0)) (pC (nv l 0)) w hb⟩)

def T_raft_Core_look_2 (c50 : Option Addr) (n51 : Int) (w : World) (Kn : Bool → WP) (Kp : KP) : Prop :=
  let w52 := w.drew
  ∃ a53, c50 = some a53 ∧ ∃ x54 : Int, rd w52 (a53.add 9) (.int .i64 x54) ∧ if (decide ((n51 : Int) > x54)) = true then (∃ a55, c50 = some a55 ∧ ∃ x56 : Int, rd w52 (a55.add 1) (.int .i64 x56) ∧ Calls Tryz.prog 307 #[.pointer c50, .int .i64 n51] w52 (ret (fun r57 w58 => ∃ x59 : Int, r57 = .int .i64 x59 ∧ (rd w58 (a55.add 1) (.int .i64 x56) ∧ True) ∧ Kn ((x59 : Int) == x56) w58) Kp)) else ((True) ∧ Kn false w52)

def H_raft_Core_look_2 : Env → World → QT → Prop := unitHook 83 (ksOf [42, 43, 44, 45, 46, 47, 48, 49, 50, 51, 52, 53, 54, 55, 56, 57, 58]) [(0, .pointer none), (5, .int .i64 0)] (oF (some [(58, .bool false)]) none []) fun l w C => T_raft_Core_look_2 (pPtr (nv l 0)) (pInt (nv l 1)) w (fun b61 => C .normal [.bool b61]) (fun ch => C (.panic ch) [])

theorem T_raft_Core_look_2_ok : UnitOk Tryz.prog H_raft_Core_look_2 (at_ (bodyOf Tryz.f424) [1, 1, 0, 1, 0]) 58 := uk hz

def T_raft_Core_look_3 (c64 : Option Addr) (n65 : Int) (b66 : Bool) (w : World) (Kn : WP) (Kp : KP) : Prop :=
  if b66 = true then (∃ a67, c64 = some a67 ∧ (.int .i64 n65 : Value).cells.size = 1 ∧ wrOk w (a67.add 9) (.int .i64 n65) ∧ let w68 := wr w (a67.add 9) (.int .i64 n65)
  Kn  w68) else (Kn  w)

def H_raft_Core_look_3 : Env → World → QT → Prop := unitHook 83 (ksOf [59, 60, 61, 62]) [(0, .pointer none), (5, .int .i64 0), (58, .bool false)] (oF (some []) none []) fun l w C => T_raft_Core_look_3 (pPtr (nv l 0)) (pInt (nv l 1)) (pBool (nv l 2)) w (C .normal []) (fun ch => C (.panic ch) [])

theorem T_raft_Core_look_3_ok : UnitOk Tryz.prog H_raft_Core_look_3 (at_ (bodyOf Tryz.f424) [1, 1, 0, 1, 1]) 59 := uk hz

def T_raft_Core_look (c1 : Option Addr) (w : World) (R : ERP) : Prop :=
  let w2 := w.drew
  ∃ a3, c1 = some a3 ∧ ∃ x4 : Int, rd w2 a3 (.int .i64 x4) ∧ Calls Tryz.prog 128 #[.pointer c1] w2 (ret (fun r5 w6 => ∃ x7 : Int, r5 = .int .i64 x7 ∧ (rd w6 a3 (.int .i64 x4) ∧ True) ∧ let w8 := w6.alloc (.cells #[.int .i64 x4, .int .i64 x7] 522)
  (True) ∧ ∃ a9, c1 = some a9 ∧ ∃ m10 : Option Nat, rd w8 (a9.add 16) (.map m10) ∧ runV Tryz.prog (Instr.range 215 (.map m10)) w8 (fun r11 w12 => ∃ a13, r11 = .pointer (some a13) ∧ T_raft_Core_look_1 (some ⟨w6.heap.size, 0, none⟩) 1 1 c1 a13 w12 (fun l41a l41l l41c w42 => Calls Tryz.prog 299 #[.pointer c1] w42 (ret (fun r43 w44 => ∃ (s45a : Option Addr) (s45l s45c : Nat) (s46a : Option Addr) (s46l s46c : Nat), r43 = .agg #[.slice s45a s45l s45c, .slice s46a s46l s46c] ∧ Calls Tryz.prog 426 #[.agg #[.slice s45a s45l s45c, .slice s46a s46l s46c], .slice l41a l41l l41c] w44 (ret (fun r47 w48 => ∃ x49 : Int, r47 = .int .i64 x49 ∧ T_raft_Core_look_2 c1 x49 w48 (fun b62 w63 => T_raft_Core_look_3 c1 x49 b62 w63 (fun w69 => let w70 := w69.drew
  ∃ a71, c1 = some a71 ∧ ∃ x72 : Int, rd w70 a71 (.int .i64 x72) ∧ Calls Tryz.prog 299 #[.pointer c1] w70 (ret (fun r73 w74 => ∃ (s75a : Option Addr) (s75l s75c : Nat) (s76a : Option Addr) (s76l s76c : Nat), r73 = .agg #[.slice s75a s75l s75c, .slice s76a s76l s76c] ∧ (rd w74 a71 (.int .i64 x72) ∧ True) ∧ Calls Tryz.prog 411 #[.agg #[.slice s75a s75l s75c, .slice s76a s76l s76c], .int .i64 x72] w74 (ret (fun r77 w78 => ∃ b79 : Bool, r77 = .bool b79 ∧ (True) ∧ if (!b79) = true then (Calls Tryz.prog 427 #[.pointer c1] w78 (ret (fun r80 w81 => ∃ b82 : Bool, r80 = .bool b82 ∧ (True) ∧ if (!b82) = true then (∃ a83, c1 = some a83 ∧ ∃ x84 : Int, rd w81 (a83.add 1) (.int .i64 x84) ∧ Calls Tryz.prog 428 #[.pointer c1, .int .i64 x84, .int .i64 0] w81 (ret (fun r85 w86 => r85 = .tuple #[] ∧ R (.returned (.tuple #[])) w86) (pan R))) else (R (.returned (.tuple #[])) w81)) (pan R))) else ((True) ∧ R (.returned (.tuple #[])) w78)) (pan R))) (pan R))) (pan R)) (pan R)) (pan R))) (pan R))) (pan R)) (pan R)) (pan R))

theorem C_raft_Core_look {c1 : Option Addr} (h : T_raft_Core_look c1 w R) : Calls Tryz.prog 424 #[.pointer c1] w R := cc mixed Tryz.func424 (hA (H := hookAt [(13, H_raft_Core_look_1), (58, H_raft_Core_look_2), (59, H_raft_Core_look_3)]) (hc T_raft_Core_look_1_ok (hc T_raft_Core_look_2_ok (hc T_raft_Core_look_3_ok hn)))) h

/-! slices.Collect[string] -/
def T_slices_Collect_string (seq1g : FuncId) (seq1i seq1c : Array Value) (w : World) (R : ERP) : Prop :=
  Calls Tryz.prog 291 #[.slice none 0 0, .func (.func seq1g) seq1i seq1c] w (ret (fun r2 w3 => ∃ (s4a : Option Addr) (s4l s4c : Nat), r2 = .slice s4a s4l s4c ∧ R (.returned (.slice s4a s4l s4c)) w3) (pan R))

theorem C_slices_Collect_string {seq1g : FuncId} {seq1i seq1c : Array Value} (h : T_slices_Collect_string seq1g seq1i seq1c w R) : Calls Tryz.prog 216 #[.func (.func seq1g) seq1i seq1c] w R := cc mixed Tryz.func216 hz h

/-! slices.Collect[tollgate/conf.place] -/
def T_slices_Collect_conf_place (seq1g : FuncId) (seq1i seq1c : Array Value) (w : World) (R : ERP) : Prop :=
  Calls Tryz.prog 338 #[.slice none 0 0, .func (.func seq1g) seq1i seq1c] w (ret (fun r2 w3 => ∃ (s4a : Option Addr) (s4l s4c : Nat), r2 = .slice s4a s4l s4c ∧ R (.returned (.slice s4a s4l s4c)) w3) (pan R))

theorem C_slices_Collect_conf_place {seq1g : FuncId} {seq1i seq1c : Array Value} (h : T_slices_Collect_conf_place seq1g seq1i seq1c w R) : Calls Tryz.prog 294 #[.func (.func seq1g) seq1i seq1c] w R := cc mixed Tryz.func294 hz h

/-! slices.Collect[int] -/
def T_slices_Collect_int (seq1g : FuncId) (seq1i seq1c : Array Value) (w : World) (R : ERP) : Prop :=
  Calls Tryz.prog 367 #[.slice none 0 0, .func (.func seq1g) seq1i seq1c] w (ret (fun r2 w3 => ∃ (s4a : Option Addr) (s4l s4c : Nat), r2 = .slice s4a s4l s4c ∧ R (.returned (.slice s4a s4l s4c)) w3) (pan R))

theorem C_slices_Collect_int {seq1g : FuncId} {seq1i seq1c : Array Value} (h : T_slices_Collect_int seq1g seq1i seq1c w R) : Calls Tryz.prog 343 #[.func (.func seq1g) seq1i seq1c] w R := cc mixed Tryz.func343 hz h

end Go.Proofs.YtaocnfjhfmapkaaGreatDoor

/-
  What the evaluator does while it runs: each step by one bare recursor, so that the kernel goes through it at once.
-/
namespace Go.Ev
open Go Go.Vc
noncomputable section

inductive Tr (α : Type) where
  | nil
  | node (l : Tr α) (v : Option α) (r : Tr α)
/-- What a map's keys are. -/
inductive Kd where
  | int (k : IntKind)
  | str
  | int2 (k : IntKind)
  | str2
inductive AO where
  | cells (id : Nat) (t : TypeId) (sz : Nat) (cs : List Value)
  | map (id : Nat) (kd : Kd) (es : List (Value × Value))
  | walk (id it : Nat) (kd : Kd) (es rest : List (Value × Value)) (cur : Option (Value × Value))
  | iter (id mid : Nat)
  | frm (id : Nat)
structure M where
  t : Tr AO
  nx : Nat
inductive En where
  | nil
  | put (t : Nat) (v : Value) (r : En)
abbrev Res := Option (List (Value × M))
abbrev K := En → M → Res
abbrev CallT := FuncId → List Value → M → Res

section
variable {α R : Type}
def bc {R : Type} (b : Bool) (x y : R) : R := Bool.rec y x b
def zN (n : Nat) (x : R) (k : Nat → R) : R :=
  Nat.rec (motive := fun _ => R) x (fun n _ => k n) n
def oK (x : Option α) (d : R) (k : α → R) : R :=
  Option.rec (motive := fun _ => R) d k x
def iN (i : Int) (d : R) (k : Nat → R) : R :=
  Int.rec (motive := fun _ => R) k (fun _ => d) i
end
def fail (s : String) : Res :=
  none
def isK (a : IntKind) : IntKind → Bool :=
  IntKind.rec (motive := fun _ => IntKind → Bool)
    (fun b => IntKind.rec (motive := fun _ => Bool) true false false false false false false false b)
    (fun b => IntKind.rec (motive := fun _ => Bool) false true false false false false false false b)
    (fun b => IntKind.rec (motive := fun _ => Bool) false false true false false false false false b)
    (fun b => IntKind.rec (motive := fun _ => Bool) false false false true false false false false b)
    (fun b => IntKind.rec (motive := fun _ => Bool) false false false false true false false false b)
    (fun b => IntKind.rec (motive := fun _ => Bool) false false false false false true false false b)
    (fun b => IntKind.rec (motive := fun _ => Bool) false false false false false false true false b)
    (fun b => IntKind.rec (motive := fun _ => Bool) false false false false false false false true b) a

/-! ### values -/
section
variable {R : Type}
def vBool (v : Value) (d : R) (k : Bool → R) : R := Value.casesOn (motive_1 := fun _ => R) v k (fun _ _ => d) (fun _ _ => d) (fun _ _ _ => d) (fun _ => d) (fun _ => d) (fun _ _ _ => d) (fun _ => d) (fun _ => d) (fun _ _ _ => d) d (fun _ _ => d) d (fun _ => d) (fun _ => d)
def vInt (v : Value) (d : R) (k : IntKind → Int → R) : R := Value.casesOn (motive_1 := fun _ => R) v (fun _ => d) k (fun _ _ => d) (fun _ _ _ => d) (fun _ => d) (fun _ => d) (fun _ _ _ => d) (fun _ => d) (fun _ => d) (fun _ _ _ => d) d (fun _ _ => d) d (fun _ => d) (fun _ => d)
def vStr (v : Value) (d : R) (k : ByteArray → R) : R := Value.casesOn (motive_1 := fun _ => R) v (fun _ => d) (fun _ _ => d) (fun _ _ => d) (fun _ _ _ => d) k (fun _ => d) (fun _ _ _ => d) (fun _ => d) (fun _ => d) (fun _ _ _ => d) d (fun _ _ => d) d (fun _ => d) (fun _ => d)
def vPtr (v : Value) (d : R) (k : Option Addr → R) : R := Value.casesOn (motive_1 := fun _ => R) v (fun _ => d) (fun _ _ => d) (fun _ _ => d) (fun _ _ _ => d) (fun _ => d) k (fun _ _ _ => d) (fun _ => d) (fun _ => d) (fun _ _ _ => d) d (fun _ _ => d) d (fun _ => d) (fun _ => d)
def vSl (v : Value) (d : R) (k : Option Addr → Nat → Nat → R) : R := Value.casesOn (motive_1 := fun _ => R) v (fun _ => d) (fun _ _ => d) (fun _ _ => d) (fun _ _ _ => d) (fun _ => d) (fun _ => d) k (fun _ => d) (fun _ => d) (fun _ _ _ => d) d (fun _ _ => d) d (fun _ => d) (fun _ => d)
def vMap (v : Value) (d : R) (k : Option Nat → R) : R := Value.casesOn (motive_1 := fun _ => R) v (fun _ => d) (fun _ _ => d) (fun _ _ => d) (fun _ _ _ => d) (fun _ => d) (fun _ => d) (fun _ _ _ => d) k (fun _ => d) (fun _ _ _ => d) d (fun _ _ => d) d (fun _ => d) (fun _ => d)
def vFunc (v : Value) (d : R) (k : FuncId → List Value → List Value → R) : R := Value.casesOn (motive_1 := fun _ => R) v (fun _ => d) (fun _ _ => d) (fun _ _ => d) (fun _ _ _ => d) (fun _ => d) (fun _ => d) (fun _ _ _ => d) (fun _ => d) (fun _ => d)
  (fun f a b => Fn.casesOn (motive := fun _ => R) f (fun g => k g a.toList b.toList) (fun _ => d) (fun _ _ => d) (fun _ _ _ _ => d) (fun _ => d)) d (fun _ _ => d) d (fun _ => d) (fun _ => d)
def vIf (v : Value) (d : R) (k : TypeId → Value → R) : R := Value.casesOn (motive_1 := fun _ => R) v (fun _ => d) (fun _ _ => d) (fun _ _ => d) (fun _ _ _ => d) (fun _ => d) (fun _ => d) (fun _ _ _ => d) (fun _ => d) (fun _ => d) (fun _ _ _ => d) d k d (fun _ => d) (fun _ => d)
def vNil (v : Value) (d x : R) : R := Value.casesOn (motive_1 := fun _ => R) v (fun _ => d) (fun _ _ => d) (fun _ _ => d) (fun _ _ _ => d) (fun _ => d) (fun _ => d) (fun _ _ _ => d) (fun _ => d) (fun _ => d) (fun _ _ _ => d) d (fun _ _ => d) x (fun _ => d) (fun _ => d)
def vAgg (v : Value) (d : R) (k : List Value → R) : R := Value.casesOn (motive_1 := fun _ => R) v (fun _ => d) (fun _ _ => d) (fun _ _ => d) (fun _ _ _ => d) (fun _ => d) (fun _ => d) (fun _ _ _ => d) (fun _ => d) (fun _ => d) (fun _ _ _ => d) d (fun _ _ => d) d (fun a => k a.toList) (fun _ => d)
def vTup (v : Value) (d : R) (k : List Value → R) : R := Value.casesOn (motive_1 := fun _ => R) v (fun _ => d) (fun _ _ => d) (fun _ _ => d) (fun _ _ _ => d) (fun _ => d) (fun _ => d) (fun _ _ _ => d) (fun _ => d) (fun _ => d) (fun _ _ _ => d) d (fun _ _ => d) d (fun _ => d) (fun a => k a.toList)
end

/-! ### lists -/
section
variable {α R : Type}
/-- The n-th. -/
def nthK (l : List α) (n : Nat) (d : R) (k : α → R) : R :=
  List.rec (motive := fun _ => Nat → R) (fun _ => d) (fun a _ ih n => Nat.rec (motive := fun _ => R) (k a) (fun n _ => ih n) n) l n
/-- Without the first n. -/
def dropK (l : List α) (n : Nat) (d : R) (k : List α → R) : R :=
  List.rec (motive := fun _ => Nat → R) (fun n => Nat.rec (motive := fun _ => R) (k []) (fun _ _ => d) n) (fun a r ih n => Nat.rec (motive := fun _ => R) (k (a :: r)) (fun n _ => ih n) n) l n
/-- The first n. -/
def takeK (l : List α) (n : Nat) (d : R) (k : List α → R) : R :=
  List.rec (motive := fun _ => Nat → (List α → R) → R) (fun n k => Nat.rec (motive := fun _ => R) (k []) (fun _ _ => d) n) (fun a _ ih n k => Nat.rec (motive := fun _ => R) (k []) (fun n _ => ih n (fun l => k (a :: l))) n) l n k
/-- vs over the first ones. -/
def overK (l vs : List α) (d : R) (k : List α → R) : R :=
  List.rec (motive := fun _ => List α → (List α → R) → R) (fun l k => k l) (fun v _ ih l k => List.rec (motive := fun _ => R) d (fun _ r _ => ih r (fun l => k (v :: l))) l) vs l k
/-- vs over those from n on. -/
def putK (l : List α) (n : Nat) (vs : List α) (d : R) (k : List α → R) : R :=
  List.rec (motive := fun _ => Nat → (List α → R) → R) (fun n k => Nat.rec (motive := fun _ => R) (overK [] vs d k) (fun _ _ => d) n)
    (fun a r ih n k => Nat.rec (motive := fun _ => R) (overK (a :: r) vs d k) (fun n _ => ih n (fun l => k (a :: l))) n) l n k
def app (a b : List α) : List α :=
  List.rec (motive := fun _ => List α) b (fun x _ ih => x :: ih) a
/-- As many copies. -/
def rep (z : List α) (n : Nat) : List α :=
  Nat.rec (motive := fun _ => List α) [] (fun _ ih => app z ih) n
def lenL (l : List α) : Nat :=
  List.rec (motive := fun _ => Nat) 0 (fun _ _ ih => Nat.succ ih) l
def nullK (l : List α) (x : R) (k : α → List α → R) : R :=
  List.rec (motive := fun _ => R) x (fun a r _ => k a r) l
end

/-! ### environments, tables -/
def En.find {R : Type} (e : En) (t : Nat) (d : R) (k : Value → R) : R :=
  En.rec (motive := fun _ => R) d (fun u v _ ih => Bool.rec ih (k v) (Nat.beq u t)) e
section
variable {α R : Type}
def Tr.get (t : Tr α) (n : Nat) (d : R) (k : α → R) : R :=
  Tr.rec (motive := fun _ => Nat → R) (fun _ => d) (fun _ v _ gl gr n => Nat.rec (motive := fun _ => R) (Option.rec (motive := fun _ => R) d k v) (fun m _ => Bool.rec (gr (Nat.div m 2)) (gl (Nat.div m 2)) (Nat.beq (Nat.mod m 2) 0)) n) t n
def Tr.sing (a : α) (f n : Nat) : Tr α :=
  Nat.rec (motive := fun _ => Nat → Tr α) (fun _ => .nil) (fun _ s n => Nat.rec (motive := fun _ => Tr α) (.node .nil (some a) .nil) (fun m _ => Bool.rec (.node .nil none (s (Nat.div m 2))) (.node (s (Nat.div m 2)) none .nil) (Nat.beq (Nat.mod m 2) 0)) n) f n
/-- a, or nothing, at n. -/
def Tr.set (t : Tr α) (n : Nat) (a : α) : Tr α :=
  Tr.rec (motive := fun _ => Nat → Tr α) (fun n => Tr.sing a (Nat.succ n) n) (fun l v r sl sr n => Nat.rec (motive := fun _ => Tr α) (.node l (some a) r) (fun m _ => Bool.rec (.node l v (sr (Nat.div m 2))) (.node (sl (Nat.div m 2)) v r) (Nat.beq (Nat.mod m 2) 0)) n) t n
def Tr.del (t : Tr α) (n : Nat) : Tr α :=
  Tr.rec (motive := fun _ => Nat → Tr α) (fun _ => .nil) (fun l v r sl sr n => Nat.rec (motive := fun _ => Tr α) (.node l none r) (fun m _ => Bool.rec (.node l v (sr (Nat.div m 2))) (.node (sl (Nat.div m 2)) v r) (Nat.beq (Nat.mod m 2) 0)) n) t n
end

/-! ### objects -/
section
variable {R : Type}
def AO.id (o : AO) : Nat :=
  AO.rec (motive := fun _ => Nat) (fun i _ _ _ => i) (fun i _ _ => i) (fun i _ _ _ _ _ => i) (fun i _ => i) (fun i => i) o
def AO.asCells (o : AO) (d : R) (k : TypeId → Nat → List Value → R) : R :=
  AO.rec (motive := fun _ => R) (fun _ t z cs => k t z cs) (fun _ _ _ => d) (fun _ _ _ _ _ _ => d) (fun _ _ => d) (fun _ => d) o
/-- A map's entries. -/
def AO.asMap (o : AO) (d : R) (k : Kd → List (Value × Value) → R) : R :=
  AO.rec (motive := fun _ => R) (fun _ _ _ _ => d) (fun _ kd es => k kd es) (fun _ _ kd es _ _ => k kd es) (fun _ _ => d) (fun _ => d) o
def M.get (m : M) (i : Nat) (d : R) (k : AO → R) : R := Tr.get m.t i d fun o => bc (Nat.beq o.id i) (k o) d
end
def M.put (m : M) (o : AO) : M := ⟨m.t.set o.id o, m.nx⟩
def M.new (m : M) (o : AO) : M := ⟨m.t.set m.nx o, Nat.succ m.nx⟩
def M.del (m : M) (i : Nat) : M := ⟨m.t.del i, m.nx⟩

/-! ### outcomes -/
def app2 (x y : Res) : Res := oK x none fun a => oK y none fun b => some (app a b)
def bindL (k : Value → M → Res) (l : List (Value × M)) : Res :=
  List.rec (motive := fun _ => Res) (some []) (fun p r ih => List.rec (motive := fun _ => Res) (k p.1 p.2) (fun _ _ _ => app2 (k p.1 p.2) ih) r) l
def bindR (x : Res) (k : Value → M → Res) : Res := oK x none (bindL k)
end
end Go.Ev
