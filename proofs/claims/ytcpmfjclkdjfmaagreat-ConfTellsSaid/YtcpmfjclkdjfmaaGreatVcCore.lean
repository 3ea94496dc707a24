/-
  A calculus of weakest conditions for the loaded functions, run by the kernel: what a function's code comes to is computed as one Prop; that it is sound is proved here once.
-/
import Derived.OrdersHeld
import Derived.Tactics
import Derived.Laws.World
namespace Go.Vc
open Go

/-! ### environments -/

structure Env where
  l : List (Nat × Value)
  n : Nat
  ds : List Deferred

def find : List (Nat × Value) → Nat → Option Value
  | [], _ => none
  | p :: r, t => cond (Nat.beq p.1 t) (some p.2) (find r t)

def ev (e : Env) : Operand → Option Value
  | .tmp t => find e.l t
  | .const v => some v
  | .global g => some (.pointer (some ⟨g, 0, none⟩))
  | .func f => some (.func (.func f) #[] #[])

def evd (e : Env) (x : Operand) : Value := (ev e x).getD undef
def knows (e : Env) (o : Op) : Bool := o.operands.toList.all fun x => (ev e x).isSome
def put (e : Env) (d : Option Tmp) (v : Value) : Env :=
  match d with
  | some d => { e with l := (d, v) :: e.l }
  | none => e
def dstOk (e : Env) (d : Option Tmp) : Bool :=
  match d with
  | some d => Nat.blt d e.n
  | none => true

structure Fr (a : Act) (e : Env) : Prop where
  size : a.tmps.size = e.n
  ds : a.defers = e.ds
  at_ : ∀ t v, find e.l t = some v → a.tmps[t]? = some v

/-- e' knows all that e knows. -/
structure Ref (e' e : Env) : Prop where
  n : e'.n = e.n
  ds : e'.ds = e.ds
  at_ : ∀ t v, find e.l t = some v → find e'.l t = some v

theorem Ref.refl (e : Env) : Ref e e := ⟨rfl, rfl, fun _ _ h => h⟩
theorem Ref.trans {a b c : Env} (h : Ref a b) (h' : Ref b c) : Ref a c := ⟨h.n.trans h'.n, h.ds.trans h'.ds, fun t v x => h.at_ t v (h'.at_ t v x)⟩
theorem Fr.ref {a : Act} {e e' : Env} (h : Fr a e') (r : Ref e' e) : Fr a e := ⟨h.size.trans r.n, h.ds.trans r.ds, fun t v x => h.at_ t v (r.at_ t v x)⟩

theorem find_cons (d : Nat) (v : Value) (l : List (Nat × Value)) (t : Nat) : find ((d, v) :: l) t = if d = t then some v else find l t := by
  show cond (Nat.beq d t) (some v) (find l t) = _
  by_cases h : d = t
  · subst h; simp [Nat.beq_refl]
  · rw [if_neg h]
    have : Nat.beq d t = false := by
      cases hb : Nat.beq d t
      · rfl
      · exact absurd (Nat.eq_of_beq_eq_true hb) h
    rw [this]; rfl

theorem Ref.put_ {e e' : Env} (h : Ref e' e) (d : Option Tmp) (v : Value) : Ref (put e' d v) (put e d v) := by
  cases d with
  | none => exact h
  | some d =>
    refine ⟨h.n, h.ds, fun t u hu => ?_⟩
    simp only [put, find_cons] at hu ⊢
    split at hu
    · rename_i e; rw [if_pos e]; exact hu
    · rename_i e; rw [if_neg e]; exact h.at_ t u hu

theorem Ref.ev_ {e e' : Env} (h : Ref e' e) {x : Operand} {v : Value} (hx : ev e x = some v) : ev e' x = some v := by
  cases x with
  | tmp t => exact h.at_ t v hx
  | const u => exact hx
  | global g => exact hx
  | func f => exact hx

theorem Fr.ev_ {a : Act} {e : Env} (h : Fr a e) {x : Operand} {v : Value} (hx : ev e x = some v) : a.eval x = v := by
  cases x with
  | tmp t =>
    have := h.at_ t v hx
    simp [Act.eval, this]
  | const u => simpa [ev, Act.eval] using hx
  | global g => simpa [ev, Act.eval] using hx
  | func f => simpa [ev, Act.eval] using hx

theorem Fr.put_ {a : Act} {e : Env} (h : Fr a e) {d : Option Tmp} (hd : dstOk e d = true) (v : Value) : Fr (a.put d v) (put e d v) := by
  cases d with
  | none => exact h
  | some d =>
    have hlt : d < a.tmps.size := by rw [h.size]; simpa [dstOk, Nat.blt_eq] using hd
    refine ⟨by simp [Act.put, put, h.size], h.ds, fun t u hu => ?_⟩
    simp only [put, find_cons] at hu
    simp only [Act.put]
    split at hu
    · rename_i e; subst e; simpa [hlt] using hu
    · rename_i e; rw [Array.getElem?_setIfInBounds_ne e]; exact h.at_ t u hu

theorem knows_iff {e : Env} {o : Op} (h : knows e o = true) {x : Operand} (hx : x ∈ o.operands) : ev e x = some (evd e x) := by
  have := List.all_eq_true.1 h x (Array.mem_toList_iff.2 hx)
  unfold evd
  cases he : ev e x with
  | none => simp [he] at this
  | some v => rfl

theorem Ref.knows_ {e e' : Env} (h : Ref e' e) {o : Op} (hk : knows e o = true) : knows e' o = true := by
  refine List.all_eq_true.2 fun x hx => ?_
  have := h.ev_ (knows_iff hk (Array.mem_toList_iff.1 hx))
  simp [this]

theorem Ref.evd_ {e e' : Env} (h : Ref e' e) {o : Op} (hk : knows e o = true) {x : Operand} (hx : x ∈ o.operands) : evd e' x = evd e x := by
  have := h.ev_ (knows_iff hk hx)
  simp [evd, this]

theorem Fr.evd_ {a : Act} {e : Env} (h : Fr a e) {o : Op} (hk : knows e o = true) {x : Operand} (hx : x ∈ o.operands) : a.eval x = evd e x :=
  h.ev_ (knows_iff hk hx)

/-! ### the shapes of values -/

def one : Value → Bool
  | .agg _ => false
  | .tuple _ => false
  | _ => true

/-- For some value of the shape of z. -/
def mkL (f : Value → (Value → Prop) → Prop) : List Value → (List Value → Prop) → Prop
  | [], K => K []
  | z :: r, K => f z fun v => mkL f r fun l => K (v :: l)
def mk : Nat → Value → (Value → Prop) → Prop
  | 0, _, K => ∃ u, K u
  | n + 1, z, K =>
    match z with
    | .int k _ => ∃ x : Int, K (.int k x)
    | .bool _ => ∃ b : Bool, K (.bool b)
    | .string _ => ∃ s : ByteArray, K (.string s)
    | .float k _ => ∃ b : Nat, K (.float k b)
    | .pointer _ => ∃ p : Option Addr, K (.pointer p)
    | .slice _ _ _ => ∃ (a : Option Addr) (l c : Nat), K (.slice a l c)
    | .map _ => ∃ r : Option Nat, K (.map r)
    | .agg cs => cond (Nat.ble cs.size 9) (mkL (mk n) cs.toList fun l => K (.agg ⟨l⟩)) (∃ xs : Array Value, xs.size = cs.size ∧ K (.agg xs))
    | .tuple cs => mkL (mk n) cs.toList fun l => K (.tuple ⟨l⟩)
    | _ => ∃ u, one u = true ∧ K u

theorem mkL_mono {f : Value → (Value → Prop) → Prop} (hf : ∀ z K K', (∀ v, K v → K' v) → f z K → f z K') :
    ∀ (l : List Value) (K K' : List Value → Prop), (∀ v, K v → K' v) → mkL f l K → mkL f l K'
  | [], _, _, h, hk => h _ hk
  | _ :: r, _, _, h, hk => hf _ _ _ (fun _ hv => mkL_mono hf r _ _ (fun _ hl => h _ hl) hv) hk
theorem mk_mono : ∀ (n : Nat) (z : Value) (K K' : Value → Prop), (∀ v, K v → K' v) → mk n z K → mk n z K' := by
  intro n
  induction n with
  | zero => intro z K K' h ⟨u, hu⟩; exact ⟨u, h _ hu⟩
  | succ n ih =>
    intro z K K' h hk
    cases z <;> simp only [mk] at hk ⊢
    case agg cs =>
      cases hb : Nat.ble cs.size 9 <;> simp only [hb, cond] at hk ⊢
      · obtain ⟨xs, hx, hK⟩ := hk; exact ⟨xs, hx, h _ hK⟩
      · exact mkL_mono ih _ _ _ (fun _ hl => h _ hl) hk
    case tuple cs => exact mkL_mono ih _ _ _ (fun _ hl => h _ hl) hk
    case slice a l c => obtain ⟨a, l, c, hK⟩ := hk; exact ⟨a, l, c, h _ hK⟩
    all_goals first
      | (obtain ⟨x, ho, hK⟩ := hk; exact ⟨x, ho, h _ hK⟩)
      | (obtain ⟨x, hK⟩ := hk; exact ⟨x, h _ hK⟩)
theorem mkL_some {f : Value → (Value → Prop) → Prop} (hf : ∀ z K, f z K → ∃ v, K v) : ∀ (l : List Value) (K : List Value → Prop), mkL f l K → ∃ v, v.length = l.length ∧ K v
  | [], _, hk => ⟨_, rfl, hk⟩
  | _ :: r, _, hk => by
    obtain ⟨v, hv⟩ := hf _ _ hk
    obtain ⟨l, hl, hK⟩ := mkL_some hf r _ hv
    exact ⟨_, by simp [hl], hK⟩
/-- u is a whole where z is one, of as many cells. -/
def alike (z u : Value) : Prop :=
  match z with
  | .agg cs => ∃ xs : Array Value, u = .agg xs ∧ xs.size = cs.size
  | .tuple _ => True
  | _ => one u = true
theorem mk_some : ∀ (n : Nat) (z : Value) (K : Value → Prop), mk (n + 1) z K → ∃ v, alike z v ∧ K v := by
  have some_ : ∀ (n : Nat) (z : Value) (K : Value → Prop), mk n z K → ∃ v, K v := by
    intro n
    induction n with
    | zero => intro z K h; exact h
    | succ n ih =>
      intro z K hk
      cases z <;> simp only [mk] at hk
      case agg cs =>
        cases hb : Nat.ble cs.size 9 <;> simp only [hb, cond] at hk
        · obtain ⟨xs, hx, hK⟩ := hk; exact ⟨_, hK⟩
        · obtain ⟨l, _, hl⟩ := mkL_some ih _ _ hk; exact ⟨_, hl⟩
      case tuple cs => obtain ⟨l, _, hl⟩ := mkL_some ih _ _ hk; exact ⟨_, hl⟩
      case slice a l c => obtain ⟨a, l, c, hK⟩ := hk; exact ⟨_, hK⟩
      all_goals first
        | (obtain ⟨x, ho, hK⟩ := hk; exact ⟨_, hK⟩)
        | (obtain ⟨x, hK⟩ := hk; exact ⟨_, hK⟩)
  intro n z K hk
  cases z <;> simp only [mk] at hk <;> simp only [alike]
  case agg cs =>
    cases hb : Nat.ble cs.size 9 <;> simp only [hb, cond] at hk
    · obtain ⟨xs, hx, hK⟩ := hk; exact ⟨_, ⟨_, rfl, hx⟩, hK⟩
    · obtain ⟨l, hn, hl⟩ := mkL_some (some_ n) _ _ hk; exact ⟨_, ⟨_, rfl, by simpa using hn⟩, hl⟩
  case tuple cs => obtain ⟨l, _, hl⟩ := mkL_some (some_ n) _ _ hk; exact ⟨_, trivial, hl⟩
  case slice a l c => obtain ⟨a, l, c, hK⟩ := hk; exact ⟨_, rfl, hK⟩
  all_goals first
    | (obtain ⟨x, ho, hK⟩ := hk; exact ⟨_, ho, hK⟩)
    | (obtain ⟨x, hK⟩ := hk; exact ⟨_, rfl, hK⟩)

def tmpl (P : Program) (t : TypeId) : Option Value := (P.info? t).bind (·.zero)
/-- v is of t's shape. -/
def shaped (P : Program) (t : TypeId) (v : Value) (K : Value → Prop) : Prop :=
  match tmpl P t with
  | some z => mk 4 z fun u => v = u ∧ K u
  | none => K v
theorem shaped_mono {P : Program} {t : TypeId} {v : Value} {K K' : Value → Prop} (h : ∀ v, K v → K' v) (hk : shaped P t v K) : shaped P t v K' := by
  unfold shaped at *
  split at hk
  · exact mk_mono _ _ _ _ (fun _ hu => ⟨hu.1, h _ hu.2⟩) hk
  · exact h _ hk
theorem shaped_at {P : Program} {t : TypeId} {v : Value} {K : Value → Prop} (hk : shaped P t v K) : K v := by
  unfold shaped at hk
  split at hk
  · obtain ⟨u, _, rfl, hu⟩ := mk_some _ _ _ hk; exact hu
  · exact hk

/-! ### runs -/

def pureRun {α : Type} (P : Program) : Sem α → Option α
  | .pure a => some a
  | .program k => pureRun P (k P)
  | .mark _ k => pureRun P k
  | _ => none
theorem pureRun_run {α : Type} {P : Program} {s : Sem α} {a : α} (h : pureRun P s = some a) (w : World) : s.run P w = .ok a w := by
  induction s with
  | pure x => simp [pureRun] at h; subst h; rfl
  | program k ih => exact ih P h
  | mark m k ih => exact ih h
  | _ => simp [pureRun] at h
def pureK (P : Program) (s : Sem Value) (K : Value → Prop) : Prop :=
  match pureRun P s with
  | some v => K v
  | none => False
theorem pureK_mono {P : Program} {s : Sem Value} {K K' : Value → Prop} (h : ∀ v, K v → K' v) (hk : pureK P s K) : pureK P s K' := by
  unfold pureK at *
  cases hp : pureRun P s <;> simp only [hp] at hk ⊢
  exact h _ hk
theorem pureK_run {P : Program} {s : Sem Value} {K : Value → Prop} (hk : pureK P s K) : ∃ v, K v ∧ ∀ w, s.run P w = .ok v w := by
  unfold pureK at hk
  cases hp : pureRun P s <;> simp only [hp] at hk
  exact ⟨_, hk, fun w => pureRun_run hp w⟩

def chain (v : Value) : List PanicEntry := [{ v, recovered := false }]
def runV {α : Type} (P : Program) (s : Sem α) (w : World) (K : α → World → Prop) (X : List PanicEntry → World → Prop) : Prop :=
  match s.run P w with
  | .ok v w' => K v w'
  | .halt (.panic v) w' => X (chain v) w'
  | _ => False
theorem runV_mono {α : Type} {P : Program} {s : Sem α} {w : World} {K K' : α → World → Prop} {X X' : List PanicEntry → World → Prop} (h : ∀ v w, K v w → K' v w) (hx : ∀ v w, X v w → X' v w)
    (hk : runV P s w K X) : runV P s w K' X' := by
  unfold runV at *
  generalize s.run P w = r at *
  cases r with
  | ok v w' => exact h _ _ hk
  | halt x w' => cases x <;> first | exact hx _ _ hk | exact hk
theorem runV_ok {α : Type} {P : Program} {s : Sem α} {w w' : World} {v : α} {K : α → World → Prop} {X : List PanicEntry → World → Prop} (hr : s.run P w = .ok v w') (hk : K v w') : runV P s w K X := by
  unfold runV; rw [hr]; exact hk

/-! ### memory -/

/-- The cells of u lie from a on. -/
def rd (w : World) (a : Addr) (u : Value) : Prop := ∀ i v, u.cells[i]? = some v → w.cell? (a.add i) = some v
def wrOk (w : World) (a : Addr) (u : Value) : Prop := ∀ i v, u.cells[i]? = some v → one v = true ∧ (∃ old, w.cell? (a.add i) = some old) ∧ w.frozen? (a.add i) = false
def wrL (w : World) (a : Addr) : List Value → Nat → World
  | [], _ => w
  | v :: r, i => wrL (w.setCell (a.add i) v) a r (i + 1)
def wr (w : World) (a : Addr) (u : Value) : World := wrL w a u.cells.toList 0

end Go.Vc
