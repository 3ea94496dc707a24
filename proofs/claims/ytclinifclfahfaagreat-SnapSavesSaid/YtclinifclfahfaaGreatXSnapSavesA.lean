/- Texts of this claim's own, laid into one. -/
import Derived.OrdersHeld
import Derived.Tactics
import Derived.Laws.World
import Derived.Scope
import Derived.Test.YtclinifclfahfaaGreatProg
import Derived.KernelRfl
import Derived.Laws.AppendOwn
import Derived.Maps.AppendAt
set_option linter.all false
namespace Go.Vc
open Go
abbrev RT := Ending → World → Prop
abbrev XT := List PanicEntry → World → Prop
structure Env where
  l : List (Nat × Value)
  n : Nat
  ds : List Deferred
def find : List (Nat × Value) → Nat → Option Value
  | [], _ => none
  | p :: r, t => cond (Nat.beq p.1 t) (some p.2) (find r t)
def ev (e : Env) : Operand → Option Value
  | .tmp t => find e.l t
  | .const v => some v
  | .global g => some (.pointer (some ⟨g, 0, none⟩))
  | .func f => some (.func (.func f) #[] #[])
def evd (e : Env) (x : Operand) : Value := (ev e x).getD undef
def knows (e : Env) (o : Op) : Bool := o.operands.toList.all fun x => (ev e x).isSome
def put (e : Env) (d : Option Tmp) (v : Value) : Env :=
  match d with
  | some d => { e with l := (d, v) :: e.l }
  | none => e
def dstOk (e : Env) (d : Option Tmp) : Bool :=
  match d with
  | some d => Nat.blt d e.n
  | none => true
structure Fr (a : Act) (e : Env) : Prop where
  size : a.tmps.size = e.n
  ds : a.defers = e.ds
  at_ : ∀ t v, find e.l t = some v → a.tmps[t]? = some v
structure Ref (e' e : Env) : Prop where
  n : e'.n = e.n
  ds : e'.ds = e.ds
  at_ : ∀ t v, find e.l t = some v → find e'.l t = some v
theorem Ref.refl (e : Env) : Ref e e := ⟨rfl, rfl, fun _ _ h => h⟩
theorem Ref.trans {a b c : Env} (h : Ref a b) (h' : Ref b c) : Ref a c := ⟨h.n.trans h'.n, h.ds.trans h'.ds, fun t v x => h.at_ t v (h'.at_ t v x)⟩
theorem Fr.ref {a : Act} {e e' : Env} (h : Fr a e') (r : Ref e' e) : Fr a e := ⟨h.size.trans r.n, h.ds.trans r.ds, fun t v x => h.at_ t v (r.at_ t v x)⟩
theorem find_cons (d : Nat) (v : Value) (l : List (Nat × Value)) (t : Nat) : find ((d, v) :: l) t = if d = t then some v else find l t := by
  show cond (Nat.beq d t) (some v) (find l t) = _
  by_cases h : d = t
  · subst h; simp [Nat.beq_refl]
  · rw [if_neg h]
    have : Nat.beq d t = false := by
      cases hb : Nat.beq d t
      · rfl
      · exact absurd (Nat.eq_of_beq_eq_true hb) h
    rw [this]; rfl
theorem Ref.put_ {e e' : Env} (h : Ref e' e) (d : Option Tmp) (v : Value) : Ref (put e' d v) (put e d v) := by
  cases d with
  | none => exact h
  | some d =>
    refine ⟨h.n, h.ds, fun t u hu => ?_⟩
    simp only [put, find_cons] at hu ⊢
    split at hu
    · rename_i e; rw [if_pos e]; exact hu
    · rename_i e; rw [if_neg e]; exact h.at_ t u hu
theorem Ref.ev_ {e e' : Env} (h : Ref e' e) {x : Operand} {v : Value} (hx : ev e x = some v) : ev e' x = some v := by
  cases x with
  | tmp t => exact h.at_ t v hx
  | const u => exact hx
  | global g => exact hx
  | func f => exact hx
theorem Fr.ev_ {a : Act} {e : Env} (h : Fr a e) {x : Operand} {v : Value} (hx : ev e x = some v) : a.eval x = v := by
  cases x with
  | tmp t =>
    have := h.at_ t v hx
    simp [Act.eval, this]
  | const u => simpa [ev, Act.eval] using hx
  | global g => simpa [ev, Act.eval] using hx
  | func f => simpa [ev, Act.eval] using hx
theorem Fr.put_ {a : Act} {e : Env} (h : Fr a e) {d : Option Tmp} (hd : dstOk e d = true) (v : Value) : Fr (a.put d v) (put e d v) := by
  cases d with
  | none => exact h
  | some d =>
    have hlt : d < a.tmps.size := by rw [h.size]; simpa [dstOk, Nat.blt_eq] using hd
    refine ⟨by simp [Act.put, put, h.size], h.ds, fun t u hu => ?_⟩
    simp only [put, find_cons] at hu
    simp only [Act.put]
    split at hu
    · rename_i e; subst e; simpa [hlt] using hu
    · rename_i e; rw [Array.getElem?_setIfInBounds_ne e]; exact h.at_ t u hu
theorem knows_iff {e : Env} {o : Op} (h : knows e o = true) {x : Operand} (hx : x ∈ o.operands) : ev e x = some (evd e x) := by
  have := List.all_eq_true.1 h x (Array.mem_toList_iff.2 hx)
  unfold evd
  cases he : ev e x with
  | none => simp [he] at this
  | some v => rfl
theorem Ref.knows_ {e e' : Env} (h : Ref e' e) {o : Op} (hk : knows e o = true) : knows e' o = true := by
  refine List.all_eq_true.2 fun x hx => ?_
  have := h.ev_ (knows_iff hk (Array.mem_toList_iff.1 hx))
  simp [this]
theorem Ref.evd_ {e e' : Env} (h : Ref e' e) {o : Op} (hk : knows e o = true) {x : Operand} (hx : x ∈ o.operands) : evd e' x = evd e x := by
  have := h.ev_ (knows_iff hk hx)
  simp [evd, this]
theorem Fr.evd_ {a : Act} {e : Env} (h : Fr a e) {o : Op} (hk : knows e o = true) {x : Operand} (hx : x ∈ o.operands) : a.eval x = evd e x :=
  h.ev_ (knows_iff hk hx)
def one : Value → Bool
  | .agg _ => false
  | .tuple _ => false
  | _ => true
def mkL (f : Value → (Value → Prop) → Prop) : List Value → (List Value → Prop) → Prop
  | [], K => K []
  | z :: r, K => f z fun v => mkL f r fun l => K (v :: l)
def mk : Nat → Value → (Value → Prop) → Prop
  | 0, _, K => ∃ u, K u
  | n + 1, z, K =>
    match z with
    | .int k _ => ∃ x : Int, K (.int k x)
    | .bool _ => ∃ b : Bool, K (.bool b)
    | .string _ => ∃ s : ByteArray, K (.string s)
    | .float k _ => ∃ b : Nat, K (.float k b)
    | .pointer _ => ∃ p : Option Addr, K (.pointer p)
    | .slice _ _ _ => ∃ (a : Option Addr) (l c : Nat), K (.slice a l c)
    | .map _ => ∃ r : Option Nat, K (.map r)
    | .agg cs => cond (Nat.ble cs.size 9) (mkL (mk n) cs.toList fun l => K (.agg ⟨l⟩)) (∃ xs : Array Value, xs.size = cs.size ∧ K (.agg xs))
    | .tuple cs => mkL (mk n) cs.toList fun l => K (.tuple ⟨l⟩)
    | _ => ∃ u, one u = true ∧ K u
theorem mkL_mono {f : Value → (Value → Prop) → Prop} (hf : ∀ z K K', (∀ v, K v → K' v) → f z K → f z K') :
    ∀ (l : List Value) (K K' : List Value → Prop), (∀ v, K v → K' v) → mkL f l K → mkL f l K'
  | [], _, _, h, hk => h _ hk
  | _ :: r, _, _, h, hk => hf _ _ _ (fun _ hv => mkL_mono hf r _ _ (fun _ hl => h _ hl) hv) hk
theorem mk_mono : ∀ (n : Nat) (z : Value) (K K' : Value → Prop), (∀ v, K v → K' v) → mk n z K → mk n z K' := by
  intro n
  induction n with
  | zero => intro z K K' h ⟨u, hu⟩; exact ⟨u, h _ hu⟩
  | succ n ih =>
    intro z K K' h hk
    cases z <;> simp only [mk] at hk ⊢
    case agg cs =>
      cases hb : Nat.ble cs.size 9 <;> simp only [hb, cond] at hk ⊢
      · obtain ⟨xs, hx, hK⟩ := hk; exact ⟨xs, hx, h _ hK⟩
      · exact mkL_mono ih _ _ _ (fun _ hl => h _ hl) hk
    case tuple cs => exact mkL_mono ih _ _ _ (fun _ hl => h _ hl) hk
    case slice a l c => obtain ⟨a, l, c, hK⟩ := hk; exact ⟨a, l, c, h _ hK⟩
    all_goals first
      | (obtain ⟨x, ho, hK⟩ := hk; exact ⟨x, ho, h _ hK⟩)
      | (obtain ⟨x, hK⟩ := hk; exact ⟨x, h _ hK⟩)
theorem mkL_some {f : Value → (Value → Prop) → Prop} (hf : ∀ z K, f z K → ∃ v, K v) : ∀ (l : List Value) (K : List Value → Prop), mkL f l K → ∃ v, v.length = l.length ∧ K v
  | [], _, hk => ⟨_, rfl, hk⟩
  | _ :: r, _, hk => by
    obtain ⟨v, hv⟩ := hf _ _ hk
    obtain ⟨l, hl, hK⟩ := mkL_some hf r _ hv
    exact ⟨_, by simp [hl], hK⟩
def alike (z u : Value) : Prop :=
  match z with
  | .agg cs => ∃ xs : Array Value, u = .agg xs ∧ xs.size = cs.size
  | .tuple _ => True
  | _ => one u = true
theorem mk_some : ∀ (n : Nat) (z : Value) (K : Value → Prop), mk (n + 1) z K → ∃ v, alike z v ∧ K v := by
  have some_ : ∀ (n : Nat) (z : Value) (K : Value → Prop), mk n z K → ∃ v, K v := by
    intro n
    induction n with
    | zero => intro z K h; exact h
    | succ n ih =>
      intro z K hk
      cases z <;> simp only [mk] at hk
      case agg cs =>
        cases hb : Nat.ble cs.size 9 <;> simp only [hb, cond] at hk
        · obtain ⟨xs, hx, hK⟩ := hk; exact ⟨_, hK⟩
        · obtain ⟨l, _, hl⟩ := mkL_some ih _ _ hk; exact ⟨_, hl⟩
      case tuple cs => obtain ⟨l, _, hl⟩ := mkL_some ih _ _ hk; exact ⟨_, hl⟩
      case slice a l c => obtain ⟨a, l, c, hK⟩ := hk; exact ⟨_, hK⟩
      all_goals first
        | (obtain ⟨x, ho, hK⟩ := hk; exact ⟨_, hK⟩)
        | (obtain ⟨x, hK⟩ := hk; exact ⟨_, hK⟩)
  intro n z K hk
  cases z <;> simp only [mk] at hk <;> simp only [alike]
  case agg cs =>
    cases hb : Nat.ble cs.size 9 <;> simp only [hb, cond] at hk
    · obtain ⟨xs, hx, hK⟩ := hk; exact ⟨_, ⟨_, rfl, hx⟩, hK⟩
    · obtain ⟨l, hn, hl⟩ := mkL_some (some_ n) _ _ hk; exact ⟨_, ⟨_, rfl, by simpa using hn⟩, hl⟩
  case tuple cs => obtain ⟨l, _, hl⟩ := mkL_some (some_ n) _ _ hk; exact ⟨_, trivial, hl⟩
  case slice a l c => obtain ⟨a, l, c, hK⟩ := hk; exact ⟨_, rfl, hK⟩
  all_goals first
    | (obtain ⟨x, ho, hK⟩ := hk; exact ⟨_, ho, hK⟩)
    | (obtain ⟨x, hK⟩ := hk; exact ⟨_, rfl, hK⟩)
def tmpl (P : Program) (t : TypeId) : Option Value := (P.info? t).bind (·.zero)
def shaped (P : Program) (t : TypeId) (v : Value) (K : Value → Prop) : Prop :=
  match tmpl P t with
  | some z => mk 4 z fun u => v = u ∧ K u
  | none => K v
theorem shaped_mono {P : Program} {t : TypeId} {v : Value} {K K' : Value → Prop} (h : ∀ v, K v → K' v) (hk : shaped P t v K) : shaped P t v K' := by
  unfold shaped at *
  split at hk
  · exact mk_mono _ _ _ _ (fun _ hu => ⟨hu.1, h _ hu.2⟩) hk
  · exact h _ hk
theorem shaped_at {P : Program} {t : TypeId} {v : Value} {K : Value → Prop} (hk : shaped P t v K) : K v := by
  unfold shaped at hk
  split at hk
  · obtain ⟨u, _, rfl, hu⟩ := mk_some _ _ _ hk; exact hu
  · exact hk
def pureRun {α : Type} (P : Program) : Sem α → Option α
  | .pure a => some a
  | .program k => pureRun P (k P)
  | .mark _ k => pureRun P k
  | _ => none
theorem pureRun_run {α : Type} {P : Program} {s : Sem α} {a : α} (h : pureRun P s = some a) (w : World) : s.run P w = .ok a w := by
  induction s with
  | pure x => simp [pureRun] at h; subst h; rfl
  | program k ih => exact ih P h
  | mark m k ih => exact ih h
  | _ => simp [pureRun] at h
def pureK (P : Program) (s : Sem Value) (K : Value → Prop) : Prop :=
  match pureRun P s with
  | some v => K v
  | none => False
theorem pureK_mono {P : Program} {s : Sem Value} {K K' : Value → Prop} (h : ∀ v, K v → K' v) (hk : pureK P s K) : pureK P s K' := by
  unfold pureK at *
  cases hp : pureRun P s <;> simp only [hp] at hk ⊢
  exact h _ hk
theorem pureK_run {P : Program} {s : Sem Value} {K : Value → Prop} (hk : pureK P s K) : ∃ v, K v ∧ ∀ w, s.run P w = .ok v w := by
  unfold pureK at hk
  cases hp : pureRun P s <;> simp only [hp] at hk
  exact ⟨_, hk, fun w => pureRun_run hp w⟩
def chain (v : Value) : List PanicEntry := [{ v, recovered := false }]
def runV {α : Type} (P : Program) (s : Sem α) (w : World) (K : α → World → Prop) (X : XT) : Prop :=
  match s.run P w with
  | .ok v w' => K v w'
  | .halt (.panic v) w' => X (chain v) w'
  | _ => False
theorem runV_mono {α : Type} {P : Program} {s : Sem α} {w : World} {K K' : α → World → Prop} {X X' : XT} (h : ∀ v w, K v w → K' v w) (hx : ∀ v w, X v w → X' v w)
    (hk : runV P s w K X) : runV P s w K' X' := by
  unfold runV at *
  generalize s.run P w = r at *
  cases r with
  | ok v w' => exact h _ _ hk
  | halt x w' => cases x <;> first | exact hx _ _ hk | exact hk
theorem runV_ok {α : Type} {P : Program} {s : Sem α} {w w' : World} {v : α} {K : α → World → Prop} {X : XT} (hr : s.run P w = .ok v w') (hk : K v w') : runV P s w K X := by
  unfold runV; rw [hr]; exact hk
def rd (w : World) (a : Addr) (u : Value) : Prop := ∀ i v, u.cells[i]? = some v → w.cell? (a.add i) = some v
def wrOk (w : World) (a : Addr) (u : Value) : Prop := ∀ i v, u.cells[i]? = some v → one v = true ∧ (∃ old, w.cell? (a.add i) = some old) ∧ w.frozen? (a.add i) = false
def wrL (w : World) (a : Addr) : List Value → Nat → World
  | [], _ => w
  | v :: r, i => wrL (w.setCell (a.add i) v) a r (i + 1)
def wr (w : World) (a : Addr) (u : Value) : World := wrL w a u.cells.toList 0
end Go.Vc
namespace Go.Vc
open Go
def isConst : Operand → Bool
  | .const _ => true
  | _ => false
def intT (P : Program) (t : TypeId) : Bool := match P.underlying t with | some (.int _) => true | _ => false
def strT (P : Program) (t : TypeId) : Bool := match P.underlying t with | some .string => true | _ => false
def pureBin (P : Program) (op : BinOp) (t : TypeId) (y : Operand) : Bool :=
  match op with
  | .quo | .rem | .shl | .shr => isConst y && intT P t
  | .add => intT P t
  | _ =>
    match P.underlying t with
    | some (.int _) | some .bool | some .string | some (.pointer _) | some (.slice _) | some (.map _ _) | some (.func _ _ _) => true
    | _ => false
def pureCall (P : Program) (c : Call) : Bool :=
  match c.callee with
  | .builtin .len | .builtin .cap => (match c.argTypes.toList with | t :: _ => (match P.underlying t with | some .string | some (.slice _) | some (.array _ _) => true | _ => false) | [] => false)
  | .builtin .min | .builtin .max => (match c.argTypes.toList with | t :: _ => intT P t | [] => false)
  | _ => false
def isPure (P : Program) (o : Op) : Bool :=
  match o with
  | .move _ | .assign _ | .pick _ _ _ | .nilCheck _ | .unOp _ _ _ | .makeInterface _ _ | .makeFunc _ _ _ | .fieldAddr _ _ _ | .field _ _ _ | .indexAddr _ _ _ | .extract _ _ | .build _ _ => true
  | .slice t _ _ _ _ => (match P.underlying t with | some (.slice _) | some .string | some (.array _ _) => true | _ => false)
  | .index t _ _ => strT P t
  | .binOp op t _ y _ => pureBin P op t y
  | .convert s d _ => (intT P s && intT P d) || (strT P s && strT P d)
  | .call c => pureCall P c
  | _ => false
def eqb (op : BinOp) (b : Bool) : Bool := match op with | .eql => b | _ => !b
def isEq (op : BinOp) : Bool := match op with | .eql | .neq => true | _ => false
def vcBin (P : Program) (op : BinOp) (t : TypeId) (x y : Operand) (vx vy : Value) (K : Value → Prop) : Prop :=
  match isEq op, P.underlying t, vx, vy with
  | true, some (.pointer _), .pointer p, .pointer none => K (.bool (eqb op p.isNone))
  | true, some (.slice _), .slice a _ _, .slice none _ _ => K (.bool (eqb op a.isNone))
  | true, some (.map _ _), .map r, .map none => K (.bool (eqb op r.isNone))
  | _, _, _, _ => pureK P (do eqGuard op t x y vx vy; binOp op t vx vy) K
def fieldOff (P : Program) (s : TypeId) (f : Nat) : Option Nat :=
  match P.underlying s with
  | some (.struct fs) =>
    match fs[f]? with
    | some fd => (match P.info? fd.type with | some i => cond (Nat.beq i.size 0) none (some fd.offset) | none => none)
    | none => none
  | _ => none
def szOf (P : Program) (t : TypeId) : Option Nat := (P.info? t).map (·.size)
def bound (v : Option Value) (dflt m : Nat) (K : Nat → Prop) : Prop :=
  match v with
  | none => K dflt
  | some (.int _ i) => 0 ≤ i ∧ i ≤ (m : Int) ∧ K i.toNat
  | some _ => False
def gap (hi mx : Option Value) : Bool := match hi, mx with | none, some _ => false | _, _ => true
def vcSlice (P : Program) (t : TypeId) (x : Value) (lo hi mx : Option Value) (K : Value → Prop) : Prop :=
  match P.underlying t, x with
  | some .string, .string s => cond mx.isNone (bound hi s.size s.size fun h => bound lo 0 h fun l => K (.string (s.extract l h))) False
  | some (.slice e), .slice a len cap =>
    (match szOf P e with
     | none => False
     | some z => cond (gap hi mx) (bound mx cap cap fun m => bound hi len m fun h => bound lo 0 h fun l => K (.slice (if m = l then a else a.map (·.add (l * z))) (h - l) (m - l))) False)
  | some (.array n e), .pointer (some a) =>
    (match szOf P e with
     | none => False
     | some z => cond (gap hi mx) (bound mx n n fun m => bound hi n m fun h => bound lo 0 h fun l => K (.slice (some (if m = l then a else a.add (l * z))) (h - l) (m - l))) False)
  | _, _ => False
def vcIndexAddr (P : Program) (t : TypeId) (x i : Value) (K : Value → Prop) : Prop :=
  match P.underlying t, x, i with
  | some (.slice e), .slice a len _, .int _ i =>
    (match szOf P e with
     | none => False
     | some z => 0 ≤ i ∧ i < (len : Int) ∧ ∃ b, a = some b ∧ K (.pointer (some (b.add (i.toNat * z)))))
  | some (.array n e), .pointer (some b), .int _ i =>
    (match szOf P e with
     | none => False
     | some z => 0 ≤ i ∧ i < (n : Int) ∧ K (.pointer (some (b.add (i.toNat * z)))))
  | _, _, _ => False
def vcIndex (x i : Value) (K : Value → Prop) : Prop :=
  match x, i with
  | .string s, .int _ i => 0 ≤ i ∧ ∃ b, s[i.toNat]? = some b ∧ K (.int .u8 b.toNat)
  | _, _ => False
def vcPure (P : Program) (ρ : Operand → Value) (o : Oper) (K : Value → Prop) : Prop :=
  match o.op with
  | .move x | .assign x => K (ρ x)
  | .pick c a b => (match ρ c with | .bool t => if t = true then K (ρ a) else K (ρ b) | _ => False)
  | .nilCheck x => (match ρ x with | .pointer p => ∃ a, p = some a ∧ K (.pointer (some a)) | .func (.func f) fi ca => K (.func (.func f) fi ca) | _ => False)
  | .binOp op t x y _ => vcBin P op t x y (ρ x) (ρ y) K
  | .unOp op _ x => pureK P (Op.unary op (ρ x)) K
  | .convert s d x => pureK P (convert s d (ρ x)) K
  | .makeInterface t x => pureK P (Instr.makeInterface t (ρ x)) K
  | .makeFunc fn first captured => K (.func fn (first.map ρ) (captured.map ρ))
  | .fieldAddr s x f => (match ρ x, fieldOff P s f with | .pointer (some a), some off => K (.pointer (some (a.add off))) | _, _ => False)
  | .field t x f => pureK P (Instr.field t (ρ x) f) K
  | .indexAddr t x i => vcIndexAddr P t (ρ x) (ρ i) K
  | .index t x i => cond (strT P t) (vcIndex (ρ x) (ρ i) K) False
  | .extract t i => pureK P (Instr.extract (ρ t) i) K
  | .build t parts => pureK P (Instr.build t (parts.map fun (i, x) => (i, ρ x))) K
  | .slice t x lo hi mx => vcSlice P t (ρ x) (lo.map ρ) (hi.map ρ) (mx.map ρ) K
  | .call c =>
    (match c.callee with
     | .builtin .len => pureK P (Builtin.len_ c.argTypes o.type (c.args.map ρ)) K
     | .builtin .cap => pureK P (Builtin.cap_ c.argTypes o.type (c.args.map ρ)) K
     | .builtin .min => pureK P (Builtin.min_ c.argTypes o.type (c.args.map ρ)) K
     | .builtin .max => pureK P (Builtin.max_ c.argTypes o.type (c.args.map ρ)) K
     | _ => False)
  | _ => False
def PureOut (P : Program) (s : Sem Next) (K : Value → Prop) : Prop := ∃ v, K v ∧ ∀ w, s.run P w = .ok (.value v) w
theorem PureOut.of_pureK {P : Program} {s : Sem Value} {K : Value → Prop} (h : pureK P s K) : PureOut P (do pure (.value (← s))) K := by
  obtain ⟨v, hv, hr⟩ := pureK_run h
  exact ⟨v, hv, fun w => by simp [hr w]⟩
theorem run_underlying_ {P : Program} {t : TypeId} {d : TypeDesc} (h : P.underlying t = some d) (w : World) : (underlying t).run P w = .ok d w := by
  simp [underlying, program, Sem.run, h]
theorem run_sizeOf_ {P : Program} {t : TypeId} {n : Nat} (h : szOf P t = some n) (w : World) : (sizeOf t).run P w = .ok n w := by
  unfold szOf at h
  cases hi : P.info? t with
  | none => simp [hi] at h
  | some i => simp [hi] at h; subst h; simp [sizeOf, typeInfo, program, Sem.run, hi]
theorem run_sliceBound {P : Program} {k : IntKind} {i : Int} {y : Nat} {c : BoundsCode} (h0 : 0 ≤ i) (h1 : i ≤ (y : Int)) (w : World) : (Instr.sliceBound (.int k i) y c).run P w = .ok i.toNat w := by
  simp [Instr.sliceBound, asIntOf, h0, h1]
theorem sliceBounds_ok {P : Program} {isS : Bool} {len cap : Nat} {lo hi mx : Option Value} {Q : Nat → Nat → Nat → Prop} (hm : hi = none → mx = none)
    (h : bound mx cap cap fun m => bound hi len m fun h => bound lo 0 h fun l => Q l h m) : ∃ l h m, Q l h m ∧ ∀ w, (Instr.sliceBounds isS len cap lo hi mx).run P w = .ok (l, h, m) w := by
  unfold bound at h
  cases mx with
  | none =>
    simp only at h
    cases hi with
    | none =>
      simp only at h
      cases lo with
      | none => exact ⟨_, _, _, h, fun w => by simp [Instr.sliceBounds]⟩
      | some v =>
        cases v with
        | int k i => exact ⟨_, _, _, h.2.2, fun w => by simp [Instr.sliceBounds, run_sliceBound h.1 h.2.1]⟩
        | _ => exact absurd h (by simp)
    | some u =>
      cases u with
      | int k j =>
        obtain ⟨h1, h2, h⟩ := h
        cases lo with
        | none => exact ⟨_, _, _, h, fun w => by simp [Instr.sliceBounds, run_sliceBound h1 h2]⟩
        | some v =>
          cases v with
          | int k i => exact ⟨_, _, _, h.2.2, fun w => by simp [Instr.sliceBounds, run_sliceBound h1 h2, run_sliceBound h.1 h.2.1]⟩
          | _ => exact absurd h (by simp)
      | _ => exact absurd h (by simp)
  | some m =>
    cases m with
    | int k q =>
      obtain ⟨h1, h2, h⟩ := h
      cases hi with
      | none => exact absurd (hm rfl) (by simp)
      | some u =>
        cases u with
        | int k j =>
          obtain ⟨h3, h4, h⟩ := h
          cases lo with
          | none => exact ⟨_, _, _, h, fun w => by simp [Instr.sliceBounds, run_sliceBound h1 h2, run_sliceBound h3 h4]⟩
          | some v =>
            cases v with
            | int k i => exact ⟨_, _, _, h.2.2, fun w => by simp [Instr.sliceBounds, run_sliceBound h1 h2, run_sliceBound h3 h4, run_sliceBound h.1 h.2.1]⟩
            | _ => exact absurd h (by simp)
        | _ => exact absurd h (by simp)
    | _ => exact absurd h (by simp)
theorem run_eq_ptr_nil {P : Program} {t e : TypeId} (hu : P.underlying t = some (.pointer e)) (p : Option Addr) (d : Nat) (w : World) : (Op.equalIn (d + 1) t (.pointer p) (.pointer none)).run P w = .ok p.isNone w := by
  cases p <;> simp [Op.equalIn, run_underlying_ hu]
theorem run_eq_slice_nil {P : Program} {t e : TypeId} (hu : P.underlying t = some (.slice e)) (a : Option Addr) (l c l' c' d : Nat) (w : World) : (Op.equalIn (d + 1) t (.slice a l c) (.slice none l' c')).run P w = .ok a.isNone w := by
  cases a <;> simp [Op.equalIn, run_underlying_ hu]
theorem run_eq_map_nil {P : Program} {t k e : TypeId} (hu : P.underlying t = some (.map k e)) (r : Option Nat) (d : Nat) (w : World) : (Op.equalIn (d + 1) t (.map r) (.map none)).run P w = .ok r.isNone w := by
  cases r <;> simp [Op.equalIn, run_underlying_ hu]
theorem binOp_eq_run {P : Program} {op : BinOp} {t : TypeId} {x y : Operand} {vx vy : Value} (hg : ∀ w, (eqGuard op t x y vx vy).run P w = .ok () w)
    (hb : binOp op t vx vy = (do pure (.bool (eqb op (← Op.equal t vx vy)))) ) {b : Bool} (hr : ∀ w, (Op.equalIn (9999 + 1) t vx vy).run P w = .ok b w) (w : World) :
    (do pure (.value (← (do eqGuard op t x y vx vy; binOp op t vx vy))) : Sem Next).run P w = .ok (.value (.bool (eqb op b))) w := by
  have hr' : (Op.equal t vx vy).run P w = .ok b w := hr w
  simp only [Sem.run_bind, hg, hb, Result.andThen_ok, hr', Sem.run_pure]
theorem vcBin_sound {P : Program} {op : BinOp} {t : TypeId} {x y : Operand} {vx vy : Value} {K : Value → Prop} (h : vcBin P op t x y vx vy K) :
    PureOut P (do pure (.value (← (do eqGuard op t x y vx vy; binOp op t vx vy)))) K := by
  unfold vcBin at h
  split at h
  · rename_i he hu
    exact ⟨_, h, binOp_eq_run (fun w => by cases op <;> first | rfl | simp [isEq] at he) (by cases op <;> first | rfl | simp [isEq] at he) (run_eq_ptr_nil hu _ 9999)⟩
  · rename_i he hu
    exact ⟨_, h, binOp_eq_run (fun w => by cases op <;> first | rfl | simp [isEq] at he) (by cases op <;> first | rfl | simp [isEq] at he) (run_eq_slice_nil hu _ _ _ _ _ 9999)⟩
  · rename_i he hu
    exact ⟨_, h, binOp_eq_run (fun w => by cases op <;> first | rfl | simp [isEq] at he) (by cases op <;> first | rfl | simp [isEq] at he) (run_eq_map_nil hu _ 9999)⟩
  · exact PureOut.of_pureK h
theorem gap_imp {hi mx : Option Value} (h : gap hi mx = true) : hi = none → mx = none := by
  intro e; subst e; cases mx with
  | none => rfl
  | some v => cases h
theorem vcSlice_sound {P : Program} {t : TypeId} {x : Value} {lo hi mx : Option Value} {K : Value → Prop} (h : vcSlice P t x lo hi mx K) :
    PureOut P (do pure (.value (← Instr.sliceAt t x lo hi mx))) K := by
  unfold vcSlice at h
  split at h
  · rename_i s hu
    cases mx with
    | some v => exact h.elim
    | none =>
      simp only [Option.isNone_none, cond] at h
      obtain ⟨l, hh, m, hK, hr⟩ := sliceBounds_ok (P := P) (isS := false) (len := s.size) (cap := s.size) (lo := lo) (hi := hi) (mx := none) (Q := fun l h _ => K (.string (s.extract l h))) (fun _ => rfl) (by simpa [bound] using h)
      exact ⟨_, hK, fun w => by simp [Instr.sliceAt, Instr.slice, run_underlying_ hu, hr w]⟩
  · rename_i hu
    split at h
    · exact h.elim
    · rename_i a len cap _ _ z hz
      cases hg : gap hi mx <;> simp only [hg, cond] at h
      obtain ⟨l, hh, m, hK, hr⟩ := sliceBounds_ok (P := P) (isS := true) (gap_imp hg) h
      exact ⟨_, hK, fun w => by simp [Instr.sliceAt, Instr.slice, run_underlying_ hu, hr w, run_sizeOf_ hz]⟩
  · rename_i hu
    split at h
    · exact h.elim
    · rename_i n e a _ _ z hz
      cases hg : gap hi mx <;> simp only [hg, cond] at h
      obtain ⟨l, hh, m, hK, hr⟩ := sliceBounds_ok (P := P) (isS := false) (gap_imp hg) h
      exact ⟨_, hK, fun w => by simp [Instr.sliceAt, Instr.sureAddr, run_underlying_ hu, hr w, run_sizeOf_ hz]⟩
  · exact h.elim
theorem vcIndexAddr_sound {P : Program} {t : TypeId} {x i : Value} {K : Value → Prop} (h : vcIndexAddr P t x i K) :
    PureOut P (do pure (.value (← Instr.indexAt t x i))) K := by
  unfold vcIndexAddr at h
  split at h
  · rename_i hu
    split at h
    · exact h.elim
    · rename_i z hz
      obtain ⟨h0, h1, b, rfl, hK⟩ := h
      exact ⟨_, hK, fun w => by simp [Instr.indexAt, asIntOf, run_underlying_ hu, h0, h1, run_sizeOf_ hz]⟩
  · rename_i hu
    split at h
    · exact h.elim
    · rename_i z hz
      obtain ⟨h0, h1, hK⟩ := h
      exact ⟨_, hK, fun w => by simp [Instr.indexAt, asIntOf, Instr.sureAddr, run_underlying_ hu, h0, h1, run_sizeOf_ hz]⟩
  · exact h.elim
theorem vcIndex_sound {P : Program} {t : TypeId} {x i : Value} {K : Value → Prop} (ht : strT P t = true) (h : vcIndex x i K) :
    PureOut P (do pure (.value (← Instr.index t x i))) K := by
  have hu : P.underlying t = some .string := by
    unfold strT at ht
    split at ht
    · assumption
    · cases ht
  unfold vcIndex at h
  split at h
  · obtain ⟨h0, b, hb, hK⟩ := h
    exact ⟨_, hK, fun w => by simp [Instr.index, asIntOf, run_underlying_ hu, h0, hb]⟩
  · exact h.elim
theorem vcPure_sound {P : Program} {ρ : Operand → Value} {o : Oper} {K : Value → Prop} (h : vcPure P ρ o K) : PureOut P (execOp ρ o) K := by
  obtain ⟨dst, op, type, pos, after, guard⟩ := o
  cases op <;> simp only [vcPure] at h <;> simp only [execOp]
  case move x => exact ⟨_, h, fun w => rfl⟩
  case assign x => exact ⟨_, h, fun w => rfl⟩
  case pick c a b =>
    split at h
    · rename_i t ht
      rw [ht]
      cases t
      · exact ⟨_, by simpa using h, fun w => by simp [asBool]⟩
      · exact ⟨_, by simpa using h, fun w => by simp [asBool]⟩
    · exact h.elim
  case nilCheck x =>
    split at h
    · rename_i p hp
      obtain ⟨a, rfl, hK⟩ := h
      rw [hp]
      exact ⟨_, hK, fun w => rfl⟩
    · rename_i hp
      rw [hp]
      exact ⟨_, h, fun w => rfl⟩
    · exact h.elim
  case binOp => exact vcBin_sound h
  case unOp => exact PureOut.of_pureK h
  case convert => exact PureOut.of_pureK h
  case makeInterface => exact PureOut.of_pureK h
  case makeFunc => exact ⟨_, h, fun w => by simp [Instr.makeFunc]⟩
  case fieldAddr s x f =>
    split at h
    · rename_i a off ha ho
      rw [ha]
      refine ⟨_, h, fun w => ?_⟩
      unfold fieldOff at ho
      split at ho
      · rename_i fs hu
        split at ho
        · rename_i fd hf
          split at ho
          · rename_i i hi
            cases hb : Nat.beq i.size 0 <;> simp only [hb, cond] at ho
            · injection ho with ho
              subst ho
              have hne : i.size ≠ 0 := fun e => by rw [e] at hb; cases hb
              have hsz : szOf P fd.type = some i.size := by simp [szOf, hi]
              simp [Instr.fieldAt, run_underlying_ hu, hf, Instr.sureAddr, fieldPlace, run_sizeOf_ hsz, hne]
            · cases ho
          · cases ho
        · cases ho
      · cases ho
    · exact h.elim
  case field => exact PureOut.of_pureK h
  case indexAddr => exact vcIndexAddr_sound h
  case index t x i =>
    cases hs : strT P t <;> simp only [hs, cond] at h
    exact vcIndex_sound hs h
  case extract => exact PureOut.of_pureK h
  case build => exact PureOut.of_pureK h
  case slice => exact vcSlice_sound h
  case call c =>
    split at h <;> rename_i hc <;> first
      | exact h.elim
      | (obtain ⟨v, hv, hr⟩ := pureK_run h
         refine ⟨v, hv, fun w => ?_⟩
         simp [resolve, hc, invoke, builtin, hr w])
  all_goals exact h.elim
theorem bound_mono {v : Option Value} {d m : Nat} {K K' : Nat → Prop} (h : ∀ n, K n → K' n) (hk : bound v d m K) : bound v d m K' := by
  unfold bound at *
  split at hk
  · exact h _ hk
  · exact ⟨hk.1, hk.2.1, h _ hk.2.2⟩
  · exact hk
theorem vcPure_mono {P : Program} {ρ : Operand → Value} {o : Oper} {K K' : Value → Prop} (hm : ∀ v, K v → K' v) (h : vcPure P ρ o K) : vcPure P ρ o K' := by
  obtain ⟨dst, op, type, pos, after, guard⟩ := o
  cases op <;> simp only [vcPure] at h ⊢
  case move => exact hm _ h
  case assign => exact hm _ h
  case pick =>
    split at h
    · split at h
      · rename_i ht; rw [if_pos ht]; exact hm _ h
      · rename_i ht; rw [if_neg ht]; exact hm _ h
    · exact h
  case nilCheck =>
    split at h
    · obtain ⟨a, e, hK⟩ := h; exact ⟨a, e, hm _ hK⟩
    · exact hm _ h
    · exact h
  case binOp =>
    unfold vcBin at *
    split at h
    · exact hm _ h
    · exact hm _ h
    · exact hm _ h
    · exact pureK_mono hm h
  case makeFunc => exact hm _ h
  case fieldAddr =>
    split at h
    · exact hm _ h
    · exact h
  case indexAddr =>
    unfold vcIndexAddr at *
    split at h
    · split at h
      · exact h
      · obtain ⟨h0, h1, b, e, hK⟩ := h; exact ⟨h0, h1, b, e, hm _ hK⟩
    · split at h
      · exact h
      · exact ⟨h.1, h.2.1, hm _ h.2.2⟩
    · exact h
  case index t x i =>
    cases hs : strT P t <;> simp only [hs, cond] at h ⊢
    unfold vcIndex at *
    split at h
    · obtain ⟨h0, b, e, hK⟩ := h; exact ⟨h0, b, e, hm _ hK⟩
    · exact h
  case slice =>
    rename_i t x lo hi mx
    unfold vcSlice at *
    split at h
    · cases hg : (mx.map ρ).isNone <;> simp only [hg, cond] at h ⊢
      exact bound_mono (fun _ h1 => bound_mono (fun _ h2 => hm _ h2) h1) h
    · split at h
      · exact h
      · cases hg : gap (hi.map ρ) (mx.map ρ) <;> simp only [hg, cond] at h ⊢
        exact bound_mono (fun _ h1 => bound_mono (fun _ h2 => bound_mono (fun _ h3 => hm _ h3) h2) h1) h
    · split at h
      · exact h
      · cases hg : gap (hi.map ρ) (mx.map ρ) <;> simp only [hg, cond] at h ⊢
        exact bound_mono (fun _ h1 => bound_mono (fun _ h2 => bound_mono (fun _ h3 => hm _ h3) h2) h1) h
    · exact h
  case call =>
    split at h <;> first | exact pureK_mono hm h | exact h
  all_goals first | exact pureK_mono hm h | exact h
theorem vcPure_congr {P : Program} {ρ ρ' : Operand → Value} (o : Oper) (h : ∀ x ∈ o.op.operands, ρ x = ρ' x) (K : Value → Prop) : vcPure P ρ o K = vcPure P ρ' o K := by
  obtain ⟨dst, op, type, pos, after, guard⟩ := o
  have pairs : ∀ ps : Array (Nat × Operand), (∀ x ∈ ps.map (·.2), ρ x = ρ' x) →
      (ps.map fun (i, x) => (i, ρ x)) = (ps.map fun (i, x) => (i, ρ' x)) := fun ps hp =>
    Array.map_congr_left fun p hm => by
      obtain ⟨i, x⟩ := p
      simp only [hp x (Array.mem_map.2 ⟨(i, x), hm, rfl⟩)]
  cases op <;> simp only [Op.operands] at h <;> simp only [vcPure]
  case build t ps => rw [pairs ps fun x hx => h x (by simpa using hx)]
  case makeFunc fn first captured =>
    rw [Array.map_congr_left (xs := first) fun x hx => h x (by simp [hx]), Array.map_congr_left (xs := captured) fun x hx => h x (by simp [hx])]
  case call c =>
    have hargs : c.args.map ρ = c.args.map ρ' := Array.map_congr_left fun x hx => h x (by simp [Call.operands, hx])
    rw [hargs]
  case slice t x lo hi mx => cases lo <;> cases hi <;> cases mx <;> simp_all
  all_goals (first | rfl | (simp_all; done))
end Go.Vc
namespace Go.Vc
open Go
def hasBody (P : Program) (g : FuncId) : Bool :=
  match P.funcs[g]? with
  | some fn => fn.body.isSome && !(fn.name == "runtime.NumGoroutine")
  | none => false
def aggT (P : Program) (t : TypeId) : Bool := match P.underlying t with | some (.struct _) | some (.array _ _) => true | _ => false
def ldOk (P : Program) (t : TypeId) (z : Value) : Bool :=
  match z with
  | .agg cs => aggT P t && (match szOf P t with | some n => Nat.beq cs.size n | none => false)
  | z => one z && !aggT P t && (P.underlying t).isSome
def shp (P : Program) (o : Oper) (v : Value) (K : Value → Prop) : Prop :=
  match o.dst with
  | none => K v
  | some _ => shaped P o.type v K
def ret (K : Value → World → Prop) (X : XT) : RT
  | .returned v, w => K v w
  | .panicked ch, w => X ch w
  | .outgrown, _ => False
def retK (P : Program) (o : Oper) (K : Value → World → Prop) (X : XT) : RT :=
  ret (fun v w => shp P o v fun v => K v w) X
def bsCells (P : Program) (e : TypeId) (len : Nat) (parts : Array (Nat × Value)) : Option (Array Value) :=
  match szOf P e, tmpl P e with
  | some size, some z => cond (Nat.ble (len * size) 16777216) (Instr.fill (fun i => some (i * size, size)) ((Array.range (len * size)).map ((if len * size = 0 then #[] else z.cells)[· % (if len * size = 0 then #[] else z.cells : Array Value).size]!)) parts.toList) none
  | _, _ => none
def runS (P : Program) (o : Oper) (s : Sem Value) (w : World) (K : Value → World → Prop) (X : XT) : Prop :=
  runV P s w (fun v w' => shp P o v fun v => K v w') X
def runU (P : Program) (s : Sem Unit) (w : World) (K : Value → World → Prop) (X : XT) : Prop :=
  runV P s w (fun _ w' => K undef w') X
def nxv (K : Value → World → Prop) : Next → World → Prop := fun nx w => match nx with | .value v => K v w | _ => False
def isFn : Operand → Bool
  | .func _ => true
  | _ => false
def vcCall (P : Program) (o : Oper) (d : Bool) (f : Value) (args : List Value) (w : World) (K : Value → World → Prop) (X : XT) : Prop :=
  match f with
  | .func (.func g) fi ca =>
    cond d (cond (hasBody P g) (Calls P g ⟨fi.toList ++ (args ++ ca.toList)⟩ w (retK P o K X))
      (runV P (callFunc g ⟨fi.toList ++ (args ++ ca.toList)⟩) w (nxv fun v w' => shp P o v (fun v => K v w')) X))
      (hasBody P g = true ∧ Calls P g ⟨fi.toList ++ (args ++ ca.toList)⟩ w (retK P o K X))
  | _ => False
def vcMem (P : Program) (ρ : Operand → Value) (o : Oper) (w : World) (K : Value → World → Prop) (X : XT) : Prop :=
  match o.op with
  | .alloc t => (match tmpl P t with | some z => K (.pointer (some ⟨w.heap.size, 0, none⟩)) (w.alloc (.cells z.cells t)) | none => False)
  | .box t x => K (.pointer (some ⟨w.heap.size, 0, none⟩)) (w.alloc (.cells (ρ x).cells t))
  | .load t x => (match ρ x, tmpl P t with | .pointer (some a), some z => cond (ldOk P t z) (mk 4 z fun u => rd w a u ∧ K u w) False | _, _ => False)
  | .store t x y => (match ρ x, szOf P t with | .pointer (some a), some n => (ρ y).cells.size = n ∧ wrOk w a (ρ y) ∧ K undef (wr w a (ρ y)) | _, _ => False)
  | .buildSlice t len parts => (match P.underlying t with
    | some (.slice e) => (match bsCells P e len (parts.map fun (i, x) => (i, ρ x)) with | some cs => K (.slice (some ⟨w.heap.size, 0, none⟩) len len) (w.alloc (.cells cs e)) | none => False)
    | _ => False)
  | .makeMap _ none => K (.map (some w.heap.size)) (w.alloc (.map #[] 0))
  | .binOp op t x y _ => runS P o (do eqGuard op t x y (ρ x) (ρ y); binOp op t (ρ x) (ρ y)) w K X
  | .convert s d x => runS P o (convert s d (ρ x)) w K X
  | .lookup t x i ok => runS P o (Instr.lookup t (ρ x) (ρ i) ok) w K X
  | .makeSlice t l c => runS P o (Instr.makeSlice t (ρ l) (ρ c)) w K X
  | .typeAssert x t u ok => runS P o (Instr.typeAssert (ρ x) t u ok) w K X
  | .range t x => runV P (Instr.range t (ρ x)) w (fun v w' => ∃ a, v = .pointer (some a) ∧ K (.pointer (some a)) w') X
  | .next it s => cond s (runS P o (Instr.next (ρ it) s o.type) w K X) (runV P (Instr.next (ρ it) s o.type) w (fun v w' => ∃ b l, v = .tuple ⟨.bool b :: l⟩ ∧ K (.tuple ⟨.bool b :: l⟩) w') X)
  | .entry it => runV P (Instr.entry (ρ it)) w (fun v w' => ∃ k u, v = .tuple #[k, u] ∧ K (.tuple #[k, u]) w') X
  | .index t x i => runS P o (Instr.index t (ρ x) (ρ i)) w K X
  | .mapUpdate t m k x | .insert t m k x => runU P (Instr.mapUpdate t (ρ m) (ρ k) (ρ x)) w K X
  | .panic x => runS P o (Instr.panic (ρ x)) w K X
  | .call c =>
    (match c.callee with
     | .builtin .append => runS P o (Builtin.append_ c.argTypes o.type (c.args.map ρ)) w K X
     | .builtin .copy => runS P o (Builtin.copy_ c.argTypes o.type (c.args.map ρ)) w K X
     | .builtin .delete => runS P o (Builtin.delete_ c.argTypes o.type (c.args.map ρ)) w K X
     | .builtin .clear => runS P o (Builtin.clear_ c.argTypes o.type (c.args.map ρ)) w K X
     | .builtin .len => runS P o (Builtin.len_ c.argTypes o.type (c.args.map ρ)) w K X
     | .builtin .max => runS P o (Builtin.max_ c.argTypes o.type (c.args.map ρ)) w K X
     | .builtin .min => runS P o (Builtin.min_ c.argTypes o.type (c.args.map ρ)) w K X
     | .builtin .panic => runS P o (Instr.panic ((c.args.map ρ).getD 0 .nilIface)) w K X
     | .value f => vcCall P o (isFn f) (ρ f) (c.args.map ρ).toList w K X
     | _ => False)
  | _ => False
def Out (P : Program) (s : Sem Next) (w : World) (K : Value → World → Prop) (X : XT) : Prop :=
  match s.run P w with
  | .ok (.value v) w' => K v w'
  | .ok .skip w' => K undef w'
  | .ok (.enter f args) w' => Calls P f args w' fun
      | .returned v, w'' => K v w''
      | .panicked ch, w'' => X ch w''
      | .outgrown, _ => False
  | .halt (.panic v) w' => X (chain v) w'
  | _ => False
section
variable {P : Program} {ρ : Operand → Value} {o : Oper} {w : World} {K : Value → World → Prop} {X : XT}
theorem shp_at {v : Value} {K : Value → Prop} (h : shp P o v K) : K v := by
  unfold shp at h
  split at h
  · exact h
  · exact shaped_at h
theorem shp_mono {v : Value} {K K' : Value → Prop} (hm : ∀ v, K v → K' v) (h : shp P o v K) : shp P o v K' := by
  unfold shp at *
  split at h
  · exact hm _ h
  · exact shaped_mono hm h
theorem Out.of_runS {s : Sem Value} (h : runS P o s w K X) : Out P (do pure (.value (← s))) w K X := by
  unfold runS runV at h
  unfold Out
  simp only [Sem.run_bind, Sem.run_pure]
  generalize s.run P w = r at *
  cases r with
  | ok v w' => exact shp_at h
  | halt x w' => cases x <;> first | exact h | exact h.elim
theorem Out.of_runV {s : Sem Value} (h : runV P s w K X) : Out P (do pure (.value (← s))) w K X := by
  unfold runV at h
  unfold Out
  simp only [Sem.run_bind, Sem.run_pure]
  generalize s.run P w = r at *
  cases r with
  | ok v w' => exact h
  | halt x w' => cases x <;> first | exact h | exact h.elim
theorem Out.of_runU {s : Sem Unit} (h : runU P s w K X) : Out P (do s; pure .skip) w K X := by
  unfold runU runV at h
  unfold Out
  simp only [Sem.run_bind, Sem.run_pure]
  generalize s.run P w = r at *
  cases r with
  | ok v w' => exact h
  | halt x w' => cases x <;> first | exact h | exact h.elim
theorem Out.of_run {s : Sem Value} {v : Value} {w' : World} (h : s.run P w = .ok v w') (hk : K v w') : Out P (do pure (.value (← s))) w K X := by
  unfold Out
  simp only [Sem.run_bind, Sem.run_pure, h, Result.andThen_ok]
  exact hk
theorem run_zeroValue_ {t : TypeId} {z : Value} (h : tmpl P t = some z) (w : World) : (zeroValue t).run P w = .ok z w := by
  unfold tmpl at h
  cases hi : P.info? t with
  | none => simp [hi] at h
  | some i =>
    simp only [hi, Option.bind_some] at h
    simp [zeroValue, typeInfo, program, Sem.run, hi, h]
theorem run_newVar_ (t : TypeId) (v : Value) (w : World) : (newVar t v).run P w = .ok ⟨w.heap.size, 0, none⟩ (w.alloc (.cells v.cells t)) := by
  rfl
theorem run_loadCellsFrom (a : Addr) : ∀ (l : List Value) (i : Nat) (acc : Array Value), (∀ j v, l[j]? = some v → w.cell? (a.add (i + j)) = some v) →
    (loadCellsFrom a i l.length acc).run P w = .ok (acc ++ l.toArray) w
  | [], i, acc, _ => by simp [loadCellsFrom]
  | v :: r, i, acc, h => by
    have h0 : w.cell? (a.add i) = some v := by simpa using h 0 v (by simp)
    have ih := run_loadCellsFrom a r (i + 1) (acc.push v) fun j u hu => by
      have := h (j + 1) u (by simpa using hu)
      rwa [show i + 1 + j = i + (j + 1) from by omega]
    simp [loadCellsFrom, load, Sem.run, h0, ih]
theorem run_isAgg {t : TypeId} {d : TypeDesc} (h : P.underlying t = some d) (w : World) : (isAgg t).run P w = .ok (aggT P t) w := by
  unfold isAgg aggT
  simp only [Sem.run_bind, run_underlying_ h, Result.andThen_ok, h]
  cases d <;> rfl
theorem under_some_of_agg {t : TypeId} (h : aggT P t = true) : ∃ d, P.underlying t = some d := by
  unfold aggT at h
  cases hu : P.underlying t with
  | none => simp [hu] at h
  | some d => exact ⟨d, rfl⟩
theorem run_loadAt {t : TypeId} {z : Value} {a : Addr} {u : Value} (hz : ldOk P t z = true) (hu : alike z u) (hr : rd w a u) : (Instr.loadAt t (.pointer (some a))).run P w = .ok u w := by
  unfold ldOk at hz
  split at hz
  · rename_i cs
    simp only [Bool.and_eq_true] at hz
    obtain ⟨hag, hs⟩ := hz
    obtain ⟨d, hd⟩ := under_some_of_agg hag
    obtain ⟨xs, rfl, hxs⟩ := hu
    cases hn : szOf P t with
    | none => simp [hn] at hs
    | some n =>
      simp only [hn] at hs
      have hcs : cs.size = n := Nat.eq_of_beq_eq_true hs
      have hl := run_loadCellsFrom (P := P) (w := w) a xs.toList 0 #[] fun j v hv => by
        rw [Nat.zero_add]
        exact hr j v (by simpa [Value.cells] using hv)
      have hlen : xs.toList.length = n := by simp [hxs, hcs]
      rw [hlen] at hl
      simp [Instr.loadAt, Instr.sureAddr, loadVar, run_isAgg hd, hag, run_sizeOf_ hn, loadCells, hl]
  · rename_i hnagg
    simp only [Bool.and_eq_true, Bool.not_eq_true'] at hz
    obtain ⟨⟨ho, hag⟩, hd⟩ := hz
    obtain ⟨d, hd⟩ := Option.isSome_iff_exists.1 hd
    have hou : one u = true := by
      unfold alike at hu
      split at hu
      · rename_i cs; cases ho
      · cases ho
      · exact hu
    have hcells : u.cells = #[u] := by cases u <;> first | rfl | cases hou
    have hc : w.cell? a = some u := by
      have := hr 0 u (by rw [hcells]; rfl)
      simpa [Addr.add] using this
    simp [Instr.loadAt, Instr.sureAddr, loadVar, run_isAgg hd, hag, hc]
theorem cell_setCell_some {w : World} {p : Addr} {v : Value} (q : Addr) (u : Value) (h : w.cell? q = some u) : ∃ u', (w.setCell p v).cell? q = some u' := by
  unfold World.cell? World.setCell at *
  simp only [Array.getElem?_modify]
  by_cases hb : p.block = q.block
  · simp only [hb, if_true]
    cases ho : w.heap[q.block]? with
    | none => simp [ho] at h
    | some o =>
      cases o <;> simp only [ho, Option.map_some] at h ⊢ <;> try cases h
      rename_i c e fz
      split at h
      · cases h
      · rename_i hs
        rw [if_neg hs]
        have hlt : q.off < c.size := (Array.getElem?_eq_some_iff.1 h).1
        refine ⟨(if p.spot.isSome then c else c.setIfInBounds p.off v)[q.off]'(by split <;> simp [hlt]), Array.getElem?_eq_getElem _⟩
  · simp only [hb, if_false]
    exact ⟨u, h⟩
theorem frozen_setCell {w : World} {p : Addr} {v : Value} (q : Addr) : (w.setCell p v).frozen? q = w.frozen? q := by
  unfold World.frozen? World.setCell
  simp only [Array.getElem?_modify]
  by_cases hb : p.block = q.block
  · simp only [hb, if_true]
    cases ho : w.heap[q.block]? with
    | none => simp
    | some o => cases o <;> simp
  · simp only [hb, if_false]
theorem run_storeCells (a : Addr) : ∀ (l : List Value) (i : Nat) (w : World), (∀ j v, l[j]? = some v → one v = true ∧ (∃ old, w.cell? (a.add (i + j)) = some old) ∧ w.frozen? (a.add (i + j)) = false) →
    (storeCells a l i).run P w = .ok () (wrL w a l i)
  | [], i, w, _ => by simp [storeCells, wrL]
  | v :: r, i, w, h => by
    obtain ⟨ho, ⟨old, hc⟩, hf⟩ := h 0 v (by simp)
    rw [Nat.add_zero] at hc hf
    have ih := run_storeCells a r (i + 1) (w.setCell (a.add i) v) fun j u hu => by
      obtain ⟨h1, ⟨old', h2⟩, h3⟩ := h (j + 1) u (by simpa using hu)
      rw [show i + (j + 1) = i + 1 + j from by omega] at h2 h3
      exact ⟨h1, cell_setCell_some _ _ h2, by rw [frozen_setCell]; exact h3⟩
    have hs : (store (a.add i) v).run P w = .ok () (w.setCell (a.add i) v) := by
      cases v <;> first | (simp only [one] at ho; cases ho; done) | simp [store, Sem.run, hc, hf]
    rw [storeCells, Sem.run_bind, hs, Result.andThen_ok, ih]
    rfl
theorem run_storeAt {t : TypeId} {a : Addr} {u : Value} {n : Nat} (hn : szOf P t = some n) (hs : u.cells.size = n) (h : wrOk w a u) : (Instr.storeAt t (.pointer (some a)) u).run P w = .ok () (wr w a u) := by
  have hr := run_storeCells (P := P) a u.cells.toList 0 w fun j v hv => by
    rw [Nat.zero_add]
    exact h j v (by simpa using hv)
  simp [Instr.storeAt, Instr.sureAddr, storeVar, run_sizeOf_ hn, hs, hr, wr]
theorem run_callFunc {g : FuncId} (h : hasBody P g = true) (args : Array Value) (w : World) : (callFunc g args).run P w = .ok (.enter g args) w := by
  unfold hasBody at h
  cases hg : P.funcs[g]? with
  | none => simp [hg] at h
  | some fn =>
    simp only [hg, Bool.and_eq_true, Bool.not_eq_true'] at h
    obtain ⟨hb, hn⟩ := h
    have hb' : ¬ fn.body = none := by cases hbb : fn.body <;> simp [hbb] at hb ⊢
    have hn' : ¬ fn.name = "runtime.NumGoroutine" := by simpa using hn
    simp [callFunc, program, Sem.run, hg, hn', hb']
theorem vcCall_sound {d : Bool} {f : Value} {args : Array Value} (h : vcCall P o d f args.toList w K X) : Out P (do let d ← Deferred.ofValue f args; invoke d.target d.args) w K X := by
  unfold vcCall at h
  split at h
  · rename_i g fi ca
    have hargs : fi ++ args ++ ca = (⟨fi.toList ++ (args.toList ++ ca.toList)⟩ : Array Value) := by
      apply Array.ext'
      simp
    have body : hasBody P g = true → Calls P g ⟨fi.toList ++ (args.toList ++ ca.toList)⟩ w (retK P o K X) → Out P (do let d ← Deferred.ofValue (.func (.func g) fi ca) args; invoke d.target d.args) w K X := by
      intro hb h
      unfold Out
      simp only [Deferred.ofValue, Sem.run_bind, Sem.run_pure, Result.andThen_ok, invoke, hargs, run_callFunc hb]
      refine h.mono fun e w' he => ?_
      cases e <;> first | exact shp_at (K := fun v => K v w') he | exact he
    cases d <;> simp only [cond] at h
    · exact body h.1 h.2
    · cases hb : hasBody P g <;> simp only [hb] at h
      · unfold runV at h
        unfold Out
        simp only [Deferred.ofValue, Sem.run_bind, Sem.run_pure, Result.andThen_ok, invoke, hargs]
        generalize (callFunc g _).run P w = r at *
        cases r with
        | ok nx w' => cases nx <;> first | exact shp_at (K := fun v => K v w') h | exact h.elim
        | halt x w' => cases x <;> first | exact h | exact h.elim
      · exact body hb h
  · exact h.elim
theorem bsCells_sound {t e : TypeId} {len : Nat} {parts : Array (Nat × Value)} {cs : Array Value} (hu : P.underlying t = some (.slice e)) (h : bsCells P e len parts = some cs) (w : World) :
    (Instr.buildSlice t len parts).run P w = .ok (.slice (some ⟨w.heap.size, 0, none⟩) len len) (w.alloc (.cells cs e)) := by
  unfold bsCells at h
  split at h
  · rename_i size z hs hz
    cases hb : Nat.ble (len * size) 16777216 <;> simp only [hb, cond] at h
    · cases h
    have hle : ¬ (len * size > 2 ^ 24) := by have := Nat.le_of_ble_eq_true hb; omega
    have hnr : (newRow e cs).run P w = .ok ⟨w.heap.size, 0, none⟩ (w.alloc (.cells cs e)) := rfl
    by_cases h0 : len * size = 0
    · rw [if_pos h0, h0] at h
      have e0 : Array.range 0 = #[] := rfl
      simp only [e0, List.map_toArray, List.map_nil] at h
      simp [Instr.buildSlice, run_underlying_ hu, run_sizeOf_ hs, h0, e0, h, hnr]
    · rw [if_neg h0] at h
      simp [Instr.buildSlice, run_underlying_ hu, run_sizeOf_ hs, hle, h0, run_zeroValue_ hz, h, hnr]
  · cases h
theorem vcMem_sound (h : vcMem P ρ o w K X) : Out P (execOp ρ o) w K X := by
  obtain ⟨dst, op, type, pos, after, guard⟩ := o
  cases op <;> simp only [vcMem] at h <;> simp only [execOp]
  case alloc t =>
    split at h
    · rename_i z hz
      exact Out.of_run (by simp [Instr.alloc, run_zeroValue_ hz, run_newVar_]) h
    · exact h.elim
  case box t x => exact Out.of_run (by simp [Instr.box, run_newVar_]) h
  case load t x =>
    split at h
    · rename_i a z ha hz
      cases hl : ldOk P t z <;> simp only [hl, cond] at h
      obtain ⟨u, hu, hr, hK⟩ := mk_some _ _ _ h
      rw [ha]
      exact Out.of_run (run_loadAt hl hu hr) hK
    · exact h.elim
  case store t x y =>
    split at h
    · rename_i a n ha hn
      obtain ⟨hs, hw, hK⟩ := h
      rw [ha]
      unfold Out
      simp only [Sem.run_bind, run_storeAt hn hs hw, Result.andThen_ok, Sem.run_pure]
      exact hK
    · exact h.elim
  case buildSlice t len parts =>
    split at h
    · rename_i e hu
      split at h
      · rename_i cs hc
        exact Out.of_run (bsCells_sound hu hc w) h
      · exact h.elim
    · exact h.elim
  case makeMap t r =>
    cases r with
    | none =>
      simp only at h
      exact Out.of_run (s := Instr.makeMap t (none.map ρ)) (v := .map (some w.heap.size)) (w' := w.alloc (.map #[] 0)) rfl h
    | some r => simp only at h
  case call c =>
    split at h <;> rename_i hc <;> first
      | exact h.elim
      | (have := vcCall_sound h
         simpa [resolve, hc] using this)
      | (have := Out.of_runS h
         simpa [resolve, hc, invoke, builtin] using this)
  case range => exact Out.of_runV (runV_mono (fun v w' ⟨a, e, hk⟩ => by rw [e]; exact hk) (fun _ _ hx => hx) h)
  case next it s =>
    cases s <;> simp only [cond] at h
    · exact Out.of_runV (runV_mono (fun v w' ⟨b, l, e, hk⟩ => by rw [e]; exact hk) (fun _ _ hx => hx) h)
    · exact Out.of_runS h
  case entry => exact Out.of_runV (runV_mono (fun v w' ⟨k, u, e, hk⟩ => by rw [e]; exact hk) (fun _ _ hx => hx) h)
  all_goals first | exact Out.of_runS h | exact Out.of_runU h | exact h.elim
end
end Go.Vc
namespace Go.Vc
open Go
section
variable {P : Program} {ρ ρ' : Operand → Value} {o : Oper} {w : World} {K K' : Value → World → Prop} {X X' : XT}
theorem vcCall_mono {d : Bool} {f : Value} {args : List Value} (hm : ∀ v w, K v w → K' v w) (hx : ∀ c w, X c w → X' c w) (h : vcCall P o d f args w K X) : vcCall P o d f args w K' X' := by
  unfold vcCall at *
  split at h
  · rename_i g fi ca
    have cm : ∀ {a : Array Value}, Calls P g a w (retK P o K X) → Calls P g a w (retK P o K' X') := fun h => h.mono fun e w' he => by
      cases e <;> first | exact shp_mono (K := fun v => K v w') (K' := fun v => K' v w') (fun _ hv => hm _ _ hv) he | exact hx _ _ he | exact he
    cases d <;> simp only [cond] at h ⊢
    · exact ⟨h.1, cm h.2⟩
    · cases hb : hasBody P g <;> simp only [hb] at h ⊢
      · refine runV_mono (fun nx w' hn => ?_) hx h
        cases nx <;> first | exact shp_mono (K := fun v => K v w') (K' := fun v => K' v w') (fun _ hv => hm _ _ hv) hn | exact hn
      · exact cm h
  · exact h
theorem runS_mono {s : Sem Value} (hm : ∀ v w, K v w → K' v w) (hx : ∀ c w, X c w → X' c w) (h : runS P o s w K X) : runS P o s w K' X' :=
  runV_mono (fun _ _ hv => shp_mono (fun _ hu => hm _ _ hu) hv) hx h
theorem runU_mono {s : Sem Unit} (hm : ∀ v w, K v w → K' v w) (hx : ∀ c w, X c w → X' c w) (h : runU P s w K X) : runU P s w K' X' :=
  runV_mono (fun _ _ hv => hm _ _ hv) hx h
theorem vcMem_mono (hm : ∀ v w, K v w → K' v w) (hx : ∀ c w, X c w → X' c w) (h : vcMem P ρ o w K X) : vcMem P ρ o w K' X' := by
  obtain ⟨dst, op, type, pos, after, guard⟩ := o
  cases op <;> simp only [vcMem] at h ⊢
  case alloc =>
    split at h
    · exact hm _ _ h
    · exact h
  case box => exact hm _ _ h
  case load t x =>
    split at h
    · rename_i a z ha hz
      cases hl : ldOk P t z <;> simp only [hl, cond] at h ⊢
      exact mk_mono _ _ _ _ (fun _ hu => ⟨hu.1, hm _ _ hu.2⟩) h
    · exact h
  case store =>
    split at h
    · exact ⟨h.1, h.2.1, hm _ _ h.2.2⟩
    · exact h
  case buildSlice =>
    split at h
    · split at h
      · exact hm _ _ h
      · exact h
    · exact h
  case makeMap t r =>
    cases r with
    | none => simp only at h ⊢; exact hm _ _ h
    | some r => simp only at h
  case call =>
    split at h <;> first
      | exact h.elim
      | exact vcCall_mono hm hx h
      | exact runS_mono hm hx h
  case range => exact runV_mono (fun _ _ ⟨a, e, hk⟩ => ⟨a, e, hm _ _ hk⟩) hx h
  case next it s =>
    cases s <;> simp only [cond] at h ⊢
    · exact runV_mono (fun _ _ ⟨b, l, e, hk⟩ => ⟨b, l, e, hm _ _ hk⟩) hx h
    · exact runS_mono hm hx h
  case entry => exact runV_mono (fun _ _ ⟨k, u, e, hk⟩ => ⟨k, u, e, hm _ _ hk⟩) hx h
  all_goals first | exact runS_mono hm hx h | exact runU_mono hm hx h | exact h
theorem vcMem_congr (o : Oper) (h : ∀ x ∈ o.op.operands, ρ x = ρ' x) : vcMem P ρ o w K X = vcMem P ρ' o w K X := by
  obtain ⟨dst, op, type, pos, after, guard⟩ := o
  have pairs : ∀ ps : Array (Nat × Operand), (∀ x ∈ ps.map (·.2), ρ x = ρ' x) →
      (ps.map fun (i, x) => (i, ρ x)) = (ps.map fun (i, x) => (i, ρ' x)) := fun ps hp =>
    Array.map_congr_left fun p hm => by
      obtain ⟨i, x⟩ := p
      simp only [hp x (Array.mem_map.2 ⟨(i, x), hm, rfl⟩)]
  cases op <;> simp only [Op.operands] at h <;> simp only [vcMem]
  case buildSlice t n ps => rw [pairs ps fun x hx => h x (by simpa using hx)]
  case makeMap t r => cases r <;> rfl
  case call c =>
    have hargs : c.args.map ρ = c.args.map ρ' := Array.map_congr_left fun x hx => h x (by simp [Call.operands, hx])
    rw [hargs]
    cases hc : c.callee with
    | value f => have hf : ρ f = ρ' f := h f (by simp [Call.operands, hc]); simp only [hf]
    | builtin b => cases b <;> rfl
    | invoke r m => rfl
  all_goals (first | rfl | (simp_all; done))
end
abbrev QT := Exit → Env → World → Prop
def vcStep (P : Program) (e : Env) (o : Oper) (w : World) (K : Env → World → Prop) (X : XT) : Prop :=
  cond (knows e o.op && dstOk e o.dst)
    (cond (isPure P o.op) (vcPure P (evd e) o fun v => K (put e o.dst v) w) (vcMem P (evd e) o w (fun v w' => K (put e o.dst v) w') X)) False
def hint (ops : Array Oper) (d i : Nat) : Option TypeId :=
  ops.toList.findSome? fun o => match o.op with
    | .extract (.tmp s) j => cond (Nat.beq s d && Nat.beq j i) (some o.type) none
    | _ => none
def shapeBy (P : Program) (t : Option TypeId) (v : Value) (K : Value → Prop) : Prop :=
  match t with
  | some t => shaped P t v K
  | none => K v
def hintK (P : Program) (ops : Array Oper) (o : Oper) (K : Env → World → Prop) (e : Env) (w : World) : Prop :=
  match o.op with
  | .entry _ => (match o.dst with
    | some d => (match find e.l d with
      | some (.tuple ⟨[k, u]⟩) => shapeBy P (hint ops d 0) k fun k => shapeBy P (hint ops d 1) u fun u => K (put e o.dst (.tuple ⟨[k, u]⟩)) w
      | _ => False)
    | none => False)
  | _ => K e w
def vcSkip (e : Env) (o : Oper) (w : World) (K : Env → World → Prop) : Prop := cond (dstOk e o.dst) (K (put e o.dst undef) w) False
def vcOper (P : Program) (ops : Array Oper) (e : Env) (o : Oper) (w : World) (K : Env → World → Prop) (X : XT) : Prop :=
  match o.guard with
  | none => vcStep P e o w (hintK P ops o K) X
  | some (j, want) =>
    match (ops[j]?).bind (·.dst) with
    | none => False
    | some t =>
      match find e.l t with
      | some (.bool b) =>
        if b = true then cond want (vcStep P (put e (some t) (.bool true)) o w K X) (vcSkip (put e (some t) (.bool true)) o w K)
        else cond want (vcSkip (put e (some t) (.bool false)) o w K) (vcStep P (put e (some t) (.bool false)) o w K X)
      | some (.tuple _) => vcSkip e o w K
      | _ => False
def vcOps (P : Program) (ops : Array Oper) : List Oper → Env → World → QT → Prop
  | [], e, w, Q => Q .normal e w
  | o :: rest, e, w, Q => vcOper P ops e o w (fun e w => vcOps P ops rest e w Q) (fun ch w => Q (.panic ch) e w)
theorem Ref.know {e : Env} {t : Nat} {v : Value} (h : find e.l t = some v) : Ref e (put e (some t) v) := by
  refine ⟨rfl, rfl, fun s u hu => ?_⟩
  simp only [put, find_cons] at hu
  split at hu
  · rename_i e; subst e; rw [h]; exact hu
  · exact hu
section
variable {P : Program} {ops : Array Oper} {o : Oper} {e e' : Env} {w : World}
theorem Ref.dstOk_ (h : Ref e' e) {d : Option Tmp} : dstOk e' d = dstOk e d := by unfold dstOk; rw [h.n]
theorem vcStep_mono {K K' : Env → World → Prop} {X X' : XT} (r : Ref e' e) (hm : ∀ e e' w, K e w → Ref e' e → K' e' w) (hx : ∀ c w, X c w → X' c w)
    (h : vcStep P e o w K X) : vcStep P e' o w K' X' := by
  unfold vcStep at *
  cases hk : (knows e o.op && dstOk e o.dst) <;> simp only [hk, cond] at h
  simp only [Bool.and_eq_true] at hk
  have hk' : (knows e' o.op && dstOk e' o.dst) = true := by rw [r.knows_ hk.1, r.dstOk_, hk.2]; rfl
  rw [hk']
  simp only [cond]
  have hc : ∀ x ∈ o.op.operands, evd e' x = evd e x := fun x hx => r.evd_ hk.1 hx
  cases hp : isPure P o.op <;> simp only [hp] at h ⊢
  · rw [vcMem_congr o hc]
    exact vcMem_mono (fun v w' hv => hm _ _ _ hv (r.put_ _ _)) hx h
  · rw [vcPure_congr o hc]
    exact vcPure_mono (fun v hv => hm _ _ _ hv (r.put_ _ _)) h
theorem vcSkip_mono {K K' : Env → World → Prop} (r : Ref e' e) (hm : ∀ e e' w, K e w → Ref e' e → K' e' w) (h : vcSkip e o w K) : vcSkip e' o w K' := by
  unfold vcSkip at *
  rw [r.dstOk_]
  cases hd : dstOk e o.dst <;> simp only [hd, cond] at h ⊢
  exact hm _ _ _ h (r.put_ _ _)
theorem shapeBy_mono {t : Option TypeId} {v : Value} {K K' : Value → Prop} (h : ∀ v, K v → K' v) (hk : shapeBy P t v K) : shapeBy P t v K' := by
  cases t with
  | none => exact h _ hk
  | some t => exact shaped_mono h hk
theorem shapeBy_at {t : Option TypeId} {v : Value} {K : Value → Prop} (hk : shapeBy P t v K) : K v := by
  cases t with
  | none => exact hk
  | some t => exact shaped_at hk
theorem hintK_mono {K K' : Env → World → Prop} (r : Ref e' e) (hp : ∀ v, K (put e o.dst v) w → K' (put e' o.dst v) w) (hm : K e w → K' e' w) (h : hintK P ops o K e w) : hintK P ops o K' e' w := by
  unfold hintK at *
  split at h
  · rename_i it hit
    split at h
    · rename_i d hd
      split at h
      · rename_i k u hf
        rw [r.at_ _ _ hf]
        exact shapeBy_mono (fun k hk => shapeBy_mono (fun u hu => hp _ hu) hk) h
      · exact h.elim
    · exact h.elim
  · exact hm h
theorem hintK_at {K : Env → World → Prop} (h : hintK P ops o K e w) : K e w ∨ ∃ d v, o.dst = some d ∧ find e.l d = some v ∧ K (put e (some d) v) w := by
  unfold hintK at h
  split at h
  · rename_i it hit
    split at h
    · rename_i d hd
      split at h
      · rename_i k u hf
        refine .inr ⟨d, _, hd, hf, ?_⟩
        have := shapeBy_at (shapeBy_at h)
        rw [hd] at this
        exact this
      · exact h.elim
    · exact h.elim
  · exact .inl h
theorem vcOper_mono {K K' : Env → World → Prop} {X X' : XT} (r : Ref e' e) (hm : ∀ e e' w, K e w → Ref e' e → K' e' w) (hx : ∀ c w, X c w → X' c w)
    (h : vcOper P ops e o w K X) : vcOper P ops e' o w K' X' := by
  unfold vcOper at *
  split at h
  · exact vcStep_mono r (fun e e' w hk r' => hintK_mono r' (fun v hv => hm _ _ _ hv (r'.put_ _ _)) (fun hk => hm _ _ _ hk r') hk) hx h
  · rename_i j want hg
    split at h
    · exact h.elim
    · rename_i t ht
      split at h
      · rename_i b hb
        rw [r.at_ _ _ hb]
        simp only
        split at h
        · rename_i hbt
          rw [if_pos hbt]
          cases want <;> simp only [cond] at h ⊢
          · exact vcSkip_mono (r.put_ _ _) hm h
          · exact vcStep_mono (r.put_ _ _) hm hx h
        · rename_i hbt
          rw [if_neg hbt]
          cases want <;> simp only [cond] at h ⊢
          · exact vcStep_mono (r.put_ _ _) hm hx h
          · exact vcSkip_mono (r.put_ _ _) hm h
      · rename_i vs hb
        rw [r.at_ _ _ hb]
        exact vcSkip_mono r hm h
      · exact h.elim
theorem vcOps_mono {Q Q' : QT} (hq : ∀ x e e' w, Q x e w → Ref e' e → Q' x e' w) : ∀ (l : List Oper) (e e' : Env) (w : World), Ref e' e → vcOps P ops l e w Q → vcOps P ops l e' w Q'
  | [], _, _, _, r, h => hq _ _ _ _ h r
  | _ :: rest, _, _, _, r, h => vcOper_mono r (fun _ _ _ hk r' => vcOps_mono hq rest _ _ _ r' hk) (fun _ _ hp => hq _ _ _ _ hp r) h
theorem wp_of_out {a : Act} {next : Act → World → Prop} {Qd : Exit → Act → World → Prop} {K : Value → World → Prop} {X : XT}
    (h : Out P (execOp a.eval o) w K X) (hn : ∀ v w', K v w' → next (a.put o.dst v) w') (hx : ∀ c w', X c w' → Qd (.panic c) a w') : o.wp P a w next Qd := by
  unfold Oper.wp
  unfold Out at h
  generalize (execOp a.eval o).run P w = r at *
  cases r with
  | ok nx w' =>
    cases nx <;> first
      | exact hn _ _ h
      | (refine Calls.mono h fun e w'' he => ?_
         cases e <;> first | exact hn _ _ he | exact hx _ _ he | exact he.elim)
      | exact h.elim
  | halt x w' => cases x <;> first | exact hx _ _ h | exact h.elim
theorem vcStep_sound {a : Act} {next : Act → World → Prop} {Qd : Exit → Act → World → Prop} {K : Env → World → Prop} {X : XT} (fr : Fr a e) (hs : ∀ cs b, o.op ≠ .select cs b)
    (hn : ∀ e' a' w', K e' w' → Fr a' e' → next a' w') (hx : ∀ c w', X c w' → Qd (.panic c) a w') (h : vcStep P e o w K X) : o.wp P a w next Qd := by
  unfold vcStep at h
  cases hk : (knows e o.op && dstOk e o.dst) <;> simp only [hk, cond] at h
  simp only [Bool.and_eq_true] at hk
  have hex : execOp a.eval o = execOp (evd e) o := execOp_congr o hs fun x hx => fr.evd_ hk.1 hx
  cases hp : isPure P o.op <;> simp only [hp] at h
  · refine wp_of_out (K := fun v w' => K (put e o.dst v) w') (X := X) ?_ (fun v w' hv => hn _ _ _ hv (fr.put_ hk.2 v)) hx
    rw [hex]
    exact vcMem_sound h
  · obtain ⟨v, hv, hr⟩ := vcPure_sound h
    unfold Oper.wp
    rw [hex, hr w]
    exact hn _ _ _ hv (fr.put_ hk.2 v)
theorem yielded_of {a : Act} {t : Tmp} {j : Nat} {b : Bool} (fr : Fr a e) (ht : (ops[j]?).bind (·.dst) = some t) (hb : find e.l t = some (.bool b)) : yielded ops a.tmps j = some b := by
  unfold yielded
  rw [ht]
  simp [fr.at_ _ _ hb]
theorem yielded_none {a : Act} {t : Tmp} {j : Nat} {vs : Array Value} (fr : Fr a e) (ht : (ops[j]?).bind (·.dst) = some t) (hb : find e.l t = some (.tuple vs)) : yielded ops a.tmps j = none := by
  unfold yielded
  rw [ht]
  simp [fr.at_ _ _ hb]
theorem vcSkip_sound {a : Act} {next : Act → World → Prop} {K : Env → World → Prop} (fr : Fr a e) (hn : ∀ e' a' w', K e' w' → Fr a' e' → next a' w') (h : vcSkip e o w K) : next (a.put o.dst undef) w := by
  unfold vcSkip at h
  cases hd : dstOk e o.dst <;> simp only [hd, cond] at h
  exact hn _ _ _ h (fr.put_ hd _)
theorem vcOper_sound {a : Act} {next : Act → World → Prop} {Qd : Exit → Act → World → Prop} {K : Env → World → Prop} {X : XT} (fr : Fr a e) (hs : ∀ cs b, o.op ≠ .select cs b)
    (hn : ∀ e' a' w', K e' w' → Fr a' e' → next a' w') (hx : ∀ c w', X c w' → Qd (.panic c) a w') (h : vcOper P ops e o w K X) :
    if Region.wanted o (yielded ops a.tmps) then o.wp P a w next Qd else next (a.put o.dst undef) w := by
  unfold vcOper at h
  split at h
  · rename_i hg
    rw [if_pos (by simp [Region.wanted, hg])]
    exact vcStep_sound fr hs (fun e' a' w' hk fr' => by
      rcases hintK_at hk with h1 | ⟨d, v, _, hf, h1⟩
      · exact hn _ _ _ h1 fr'
      · exact hn _ _ _ h1 (fr'.ref (Ref.know hf))) hx h
  · rename_i j want hg
    split at h
    · exact h.elim
    · rename_i t ht
      split at h
      · rename_i b hb
        have hy := yielded_of fr ht hb
        split at h
        · rename_i hbt
          subst hbt
          have fr' : Fr a (put e (some t) (.bool true)) := fr.ref (Ref.know hb)
          cases want <;> simp only [cond] at h
          · rw [if_neg (by simp [Region.wanted, hg, hy])]; exact vcSkip_sound fr' hn h
          · rw [if_pos (by simp [Region.wanted, hg, hy])]; exact vcStep_sound fr' hs hn hx h
        · rename_i hbt
          have hbf : b = false := by simpa using hbt
          subst hbf
          have fr' : Fr a (put e (some t) (.bool false)) := fr.ref (Ref.know hb)
          cases want <;> simp only [cond] at h
          · rw [if_pos (by simp [Region.wanted, hg, hy])]; exact vcStep_sound fr' hs hn hx h
          · rw [if_neg (by simp [Region.wanted, hg, hy])]; exact vcSkip_sound fr' hn h
      · rename_i vs hb
        rw [if_neg (by simp [Region.wanted, hg, yielded_none fr ht hb])]
        exact vcSkip_sound fr hn h
      · exact h.elim
end
end Go.Vc
namespace Go.Vc
open Go
def anc (md : Region.Mode) (ops : Array Oper) : Nat → Nat → Nat → Bool
  | 0, _, _ => false
  | n + 1, j, i =>
    match ops[j]? with
    | some o => o.after.toList.any fun e => Region.binds md e && (Nat.beq e.on i || anc md ops n e.on i)
    | none => false
abbrev Held := List (Nat × (World → Prop))
def keep (md : Region.Mode) (ops : Array Oper) (j : Nat) : Held → Held
  | [] => []
  | p :: S => cond (anc md ops 3 j p.1) (keep md ops j S) (p :: keep md ops j S)
def allS : Held → World → Prop
  | [], _ => True
  | p :: S, w => p.2 w ∧ allS S w
def Down (md : Region.Mode) (ops : Array Oper) (listed : Array Bool) : Prop :=
  ∀ j o, ops[j]? = some o → listed.getD j false = true → ∀ e ∈ o.after, Region.binds md e = true → listed.getD e.on false = true
section
variable {P : Program} {ops : Array Oper} {Q : Exit → Act → World → Prop} {md : Region.Mode}
theorem anc_listed {listed : Array Bool} (hd : Down md ops listed) : ∀ (n j i : Nat), (∀ o, ops[j]? = some o → ∀ e ∈ o.after, Region.binds md e = true → listed.getD e.on false = true) →
    anc md ops n j i = true → listed.getD i false = true
  | 0, _, _, _, h => by simp [anc] at h
  | n + 1, j, i, hj, h => by
    unfold anc at h
    split at h
    · rename_i o ho
      obtain ⟨e, he, hb⟩ := List.any_eq_true.1 h
      simp only [Bool.and_eq_true, Bool.or_eq_true] at hb
      have hl := hj o ho e (Array.mem_toList_iff.1 he) hb.1
      rcases hb.2 with hb | hb
      · rw [← Nat.eq_of_beq_eq_true hb]; exact hl
      · exact anc_listed hd n e.on i (fun o' ho' e' he' hb' => hd e.on o' ho' hl e' he' hb') hb
    · cases h
theorem Down.start (n : Nat) : Down md ops (Array.replicate n false) := by
  intro j o _ h
  simp only [Array.getD_eq_getD_getElem?] at h
  by_cases hj : j < n
  · simp [hj] at h
  · rw [Array.getElem?_eq_none (by simpa using hj)] at h; cases h
theorem Down.set {listed : Array Bool} (hd : Down md ops listed) {i : Nat} (hr : i ∈ Region.ready md ops listed) : Down md ops (listed.setIfInBounds i true) := by
  intro j o ho hl e he hb
  by_cases hij : i = j
  · subst hij
    obtain ⟨_, o', ho', hall⟩ := mem_ready.1 hr
    rw [ho] at ho'
    injection ho' with ho'
    subst ho'
    exact getD_set_true (hall e he hb)
  · rw [getD_set_ne false hij] at hl
    exact getD_set_true (hd j o ho hl e he hb)
def wpAnyT (P : Program) (md : Region.Mode) (ops : Array Oper) (Q : Exit → Act → World → Prop) : Nat → Array Bool → Held → Act → World → Prop
  | 0, listed, _, a, w => Region.ready md ops listed = [] ∧ Q .normal a w
  | fuel + 1, listed, S, a, w =>
    (Region.ready md ops listed = [] → Q .normal a w) ∧
    ∀ i ∈ Region.ready md ops listed, wpOp P ops Q i (fun a' w' => allS (keep md ops i S) w' ∧ wpAnyT P md ops Q fuel (listed.setIfInBounds i true) (keep md ops i S) a' w') a w
theorem keep_cons (j : Nat) (p : Nat × (World → Prop)) (S : Held) : keep md ops j (p :: S) = cond (anc md ops 3 j p.1) (keep md ops j S) (p :: keep md ops j S) := rfl
theorem keep_sub {S S' : Held} (h : S'.Sublist S) (j : Nat) : (keep md ops j S').Sublist (keep md ops j S) := by
  induction h with
  | slnil => exact .slnil
  | cons p _ ih =>
    rw [keep_cons]
    cases anc md ops 3 j p.1 <;> simp only [cond]
    · exact .cons _ ih
    · exact ih
  | cons_cons p _ ih =>
    rw [keep_cons, keep_cons]
    cases anc md ops 3 j p.1 <;> simp only [cond]
    · exact .cons_cons _ ih
    · exact ih
theorem allS_sub {S S' : Held} (h : S'.Sublist S) {w : World} (ha : allS S w) : allS S' w := by
  induction h with
  | slnil => exact ha
  | cons p _ ih => exact ih ha.2
  | cons_cons p _ ih => exact ⟨ha.1, ih ha.2⟩
theorem wpAnyT_sub : ∀ (fuel : Nat) (listed : Array Bool) {S S' : Held} (a : Act) (w : World), S'.Sublist S → wpAnyT P md ops Q fuel listed S a w → wpAnyT P md ops Q fuel listed S' a w
  | 0, _, _, _, _, _, _, h => h
  | fuel + 1, _, _, _, _, _, hs, h => ⟨h.1, fun i hi => wpOp_mono (fun a' w' h' => ⟨allS_sub (keep_sub hs i) h'.1, wpAnyT_sub fuel _ a' w' (keep_sub hs i) h'.2⟩) (h.2 i hi)⟩
theorem wpAny_of_T : ∀ (fuel : Nat) (listed : Array Bool) (S : Held) (a : Act) (w : World), wpAnyT P md ops Q fuel listed S a w → wpAny P md ops Q fuel listed a w
  | 0, _, _, _, _, h => h
  | fuel + 1, _, _, _, _, h => ⟨h.1, fun i hi => wpOp_mono (fun a' w' h' => wpAny_of_T fuel _ _ a' w' h'.2) (h.2 i hi)⟩
theorem wpAnyT_first {i : Nat} {oi : Oper} {v : Value} {s : World → Prop} (hi : ops[i]? = some oi) (hsel : ∀ (j : Nat) (o : Oper) cs b, ops[j]? = some o → o.op ≠ .select cs b)
    (hQ : ∀ c a w, Q (.panic c) (a.put oi.dst v) w → Q (.panic c) a w) :
    ∀ (fuel : Nat) (listed : Array Bool) (S : Held) (a : Act) (w : World), Down md ops listed →
      (∀ j oj, ops[j]? = some oj → j ≠ i → listed.getD j true = false → (∀ e ∈ oj.after, Region.binds md e = true → e.on ≠ i) → oi.apart ops oj = true) →
      i ∈ Region.ready md ops listed → YieldsIf P ops s oi v a → s w → allS S w →
      wpAnyT P md ops Q fuel (listed.setIfInBounds i true) ((i, s) :: S) (a.put oi.dst v) w → wpAnyT P md ops Q (fuel + 1) listed S a w := by
  have sub : ∀ (j : Nat) (S : Held), (keep md ops j S).Sublist S := by
    intro j S
    induction S with
    | nil => exact .slnil
    | cons p S ih =>
      rw [keep_cons]
      cases anc md ops 3 j p.1 <;> simp only [cond]
      · exact .cons_cons _ ih
      · exact .cons _ ih
  intro fuel
  induction fuel with
  | zero =>
    intro listed S a w hd _ hr hy hS hA H
    refine ⟨fun h => (by rw [h] at hr; cases hr), fun j hj => ?_⟩
    by_cases hji : j = i
    · subst hji
      exact hy.wpOp hi hS ⟨allS_sub (sub _ _) hA, H⟩
    · have := ready_mono hj hji
      rw [H.1] at this
      cases this
  | succ fuel ih =>
    intro listed S a w hd hfree hr hy hS hA H
    refine ⟨fun h => (by rw [h] at hr; cases hr), fun j hj => ?_⟩
    by_cases hji : j = i
    · subst hji; exact hy.wpOp hi hS ⟨allS_sub (sub _ _) hA, wpAnyT_sub _ _ _ _ (.cons _ (sub _ _)) H⟩
    · have h1 := H.2 j (ready_mono hj hji)
      obtain ⟨hjun, oj, hoj, hall⟩ := mem_ready.1 hj
      have hiun := (mem_ready.1 hr).1
      have hinot : listed.getD i false = false := by
        rcases Nat.lt_or_ge i listed.size with h' | h'
        · simpa [h'] using hiun
        · simp [Array.getElem?_eq_none h']
      have hnot : ∀ e ∈ oj.after, Region.binds md e = true → e.on ≠ i := fun e he hb heq => by
        have h1 := hall e he hb
        rw [heq, hinot] at h1
        cases h1
      have hanc : anc md ops 3 j i = false := by
        cases hc : anc md ops 3 j i
        · rfl
        · have := anc_listed hd 3 j i (fun o ho e he hb => by rw [hoj] at ho; injection ho with ho; subst ho; exact hall e he hb) hc
          rw [hinot] at this
          cases this
      have hkeep : keep md ops j ((i, s) :: S) = (i, s) :: keep md ops j S := by
        show cond (anc md ops 3 j i) _ _ = _
        rw [hanc]; rfl
      rw [hkeep] at h1
      have h2 := wpOp_putIf hoj (hfree j oj hoj hji hjun hnot) (fun cs b => hsel i oi cs b hi) (fun cs b => hsel j oj cs b hoj) hQ hy h1
      have hfree' : ∀ k ok, ops[k]? = some ok → k ≠ i → (listed.setIfInBounds j true).getD k true = false →
          (∀ e ∈ ok.after, Region.binds md e = true → e.on ≠ i) → oi.apart ops ok = true := fun k ok hk hki hun hno => by
        refine hfree k ok hk hki ?_ hno
        by_cases hjk : j = k
        · subst hjk; exact hjun
        · rw [getD_set_ne true hjk] at hun; exact hun
      refine wpOp_mono (fun a' w' h3 => ⟨h3.2.1.2, ih (listed.setIfInBounds j true) (keep md ops j S) a' w' (hd.set hj) hfree' (ready_mono hr (Ne.symm hji)) h3.1 h3.2.1.1 h3.2.1.2 ?_⟩) h2
      rw [Array.setIfInBounds_comm _ _ hji]
      exact h3.2.2
theorem wpAnyT_triv (i : Nat) : ∀ (fuel : Nat) (listed : Array Bool) (S : Held) (a : Act) (w : World), wpAnyT P md ops Q fuel listed S a w → wpAnyT P md ops Q fuel listed ((i, fun _ => True) :: S) a w
  | 0, _, _, _, _, h => h
  | fuel + 1, _, S, _, _, h => ⟨h.1, fun j hj => wpOp_mono (fun a' w' h' => by
      rw [keep_cons]
      cases anc md ops 3 j i <;> simp only [cond]
      · exact ⟨⟨trivial, h'.1⟩, wpAnyT_triv i fuel _ _ a' w' h'.2⟩
      · exact h') (h.2 j hj)⟩
end
def isLoad (o : Op) : Bool := match o with | .load _ _ => true | _ => false
def pickFirst (P : Program) (ops : Array Oper) (listed : Array Bool) : List Nat → Option Nat
  | [] => none
  | i :: r =>
    match ops[i]? with
    | some o => cond ((isPure P o.op || isLoad o.op) && Region.free .any ops listed i) (some i) (pickFirst P ops listed r)
    | none => pickFirst P ops listed r
def forAll (f : Nat → Prop) : List Nat → Prop
  | [] => True
  | i :: r => match r with | [] => f i | _ => f i ∧ forAll f r
def vcTake (P : Program) (e : Env) (o : Oper) (w : World) (K : Env → Option (World → Prop) → Prop) : Prop :=
  cond (knows e o.op && dstOk e o.dst)
    (cond (isPure P o.op) (vcPure P (evd e) o fun v => K (put e o.dst v) none)
      (match o.op with
       | .load t x => (match evd e x, tmpl P t with | .pointer (some a), some z => cond (ldOk P t z) (mk 4 z fun u => rd w a u ∧ K (put e o.dst u) (some fun w => rd w a u)) False | _, _ => False)
       | _ => False)) False
def vcTakeG (P : Program) (ops : Array Oper) (e : Env) (o : Oper) (w : World) (K : Env → Option (World → Prop) → Prop) : Prop :=
  match o.guard with
  | none => vcTake P e o w K
  | some (j, want) =>
    match (ops[j]?).bind (·.dst) with
    | none => False
    | some t =>
      match find e.l t with
      | some (.bool b) =>
        if b = true then cond want (vcTake P (put e (some t) (.bool true)) o w K) (vcSkip (put e (some t) (.bool true)) o w fun e _ => K e none)
        else cond want (vcSkip (put e (some t) (.bool false)) o w fun e _ => K e none) (vcTake P (put e (some t) (.bool false)) o w K)
      | some (.tuple _) => vcSkip e o w fun e _ => K e none
      | _ => False
def hold (i : Nat) (s : Option (World → Prop)) (S : Held) : Held :=
  match s with
  | some s => (i, s) :: S
  | none => S
def vcDraw (P : Program) (ops : Array Oper) : Nat → Array Bool → Held → Env → World → QT → Prop
  | 0, listed, _, e, w, Q => cond (Region.ready .any ops listed).isEmpty (Q .normal e w) False
  | fuel + 1, listed, S, e, w, Q =>
    match pickFirst P ops listed (Region.ready .any ops listed) with
    | some i =>
      (match ops[i]? with
       | some o => vcTakeG P ops e o w fun e s => vcDraw P ops fuel (listed.setIfInBounds i true) (hold i s S) e w Q
       | none => False)
    | none =>
      cond (Region.ready .any ops listed).isEmpty (Q .normal e w)
        (forAll (fun i => match ops[i]? with
          | some o => vcOper P ops e o w (fun e w => allS (keep .any ops i S) w ∧ vcDraw P ops fuel (listed.setIfInBounds i true) (keep .any ops i S) e w Q) (fun ch w => Q (.panic ch) e w)
          | none => False) (Region.ready .any ops listed))
theorem forAll_mem {f : Nat → Prop} : ∀ {l : List Nat}, forAll f l → ∀ i ∈ l, f i
  | [], _, i, hi => by cases hi
  | [_], h, j, hj => by simp at hj; subst hj; exact h
  | i :: _ :: _, h, j, hj => by
    rcases List.mem_cons.1 hj with e | hj
    · subst e; exact h.1
    · exact forAll_mem h.2 j hj
theorem forAll_mono {f g : Nat → Prop} (hm : ∀ i, f i → g i) : ∀ {l : List Nat}, forAll f l → forAll g l
  | [], _ => trivial
  | [_], h => hm _ h
  | _ :: _ :: _, h => ⟨hm _ h.1, forAll_mono hm h.2⟩
section
variable {P : Program} {ops : Array Oper}
theorem pickFirst_some {listed : Array Bool} : ∀ {l : List Nat} {i : Nat}, pickFirst P ops listed l = some i → i ∈ l ∧ ∃ o, ops[i]? = some o ∧ Region.free .any ops listed i = true
  | [], _, h => by cases h
  | j :: r, _, h => by
    unfold pickFirst at h
    split at h
    · rename_i o ho
      cases hc : ((isPure P o.op || isLoad o.op) && Region.free .any ops listed j) <;> simp only [hc, cond] at h
      · obtain ⟨hm, hx⟩ := pickFirst_some h
        exact ⟨List.mem_cons_of_mem _ hm, hx⟩
      · injection h with h
        subst h
        simp only [Bool.and_eq_true] at hc
        exact ⟨List.mem_cons_self .., o, ho, hc.2⟩
    · obtain ⟨hm, hx⟩ := pickFirst_some h
      exact ⟨List.mem_cons_of_mem _ hm, hx⟩
theorem vcTake_mono {e e' : Env} {o : Oper} {w : World} {K K' : Env → Option (World → Prop) → Prop} (r : Ref e' e) (hm : ∀ e e' s, K e s → Ref e' e → K' e' s) (h : vcTake P e o w K) : vcTake P e' o w K' := by
  unfold vcTake at *
  cases hk : (knows e o.op && dstOk e o.dst) <;> simp only [hk, cond] at h
  simp only [Bool.and_eq_true] at hk
  have hk' : (knows e' o.op && dstOk e' o.dst) = true := by rw [r.knows_ hk.1, r.dstOk_, hk.2]; rfl
  rw [hk']
  simp only [cond]
  have hc : ∀ x ∈ o.op.operands, evd e' x = evd e x := fun x hx => r.evd_ hk.1 hx
  cases hp : isPure P o.op <;> simp only [hp] at h ⊢
  · split at h
    · rename_i t x hop
      have hx : evd e' x = evd e x := hc x (by rw [hop]; simp [Op.operands])
      rw [hx]
      split at h
      · rename_i a z ha hz
        cases hl : ldOk P t z <;> simp only [hl] at h ⊢
        exact mk_mono _ _ _ _ (fun _ hu => ⟨hu.1, hm _ _ _ hu.2 (r.put_ _ _)⟩) h
      · exact h
    · exact h
  · rw [vcPure_congr o hc]
    exact vcPure_mono (fun v hv => hm _ _ _ hv (r.put_ _ _)) h
theorem vcTakeG_mono {e e' : Env} {o : Oper} {w : World} {K K' : Env → Option (World → Prop) → Prop} (r : Ref e' e) (hm : ∀ e e' s, K e s → Ref e' e → K' e' s) (h : vcTakeG P ops e o w K) : vcTakeG P ops e' o w K' := by
  unfold vcTakeG at *
  split at h
  · exact vcTake_mono r hm h
  · rename_i j want hg
    split at h
    · exact h.elim
    · rename_i t ht
      split at h
      · rename_i b hb
        rw [r.at_ _ _ hb]
        simp only
        split at h
        · rename_i hbt
          rw [if_pos hbt]
          cases want <;> simp only [cond] at h ⊢
          · exact vcSkip_mono (r.put_ _ _) (fun _ _ _ hk r' => hm _ _ _ hk r') h
          · exact vcTake_mono (r.put_ _ _) hm h
        · rename_i hbt
          rw [if_neg hbt]
          cases want <;> simp only [cond] at h ⊢
          · exact vcTake_mono (r.put_ _ _) hm h
          · exact vcSkip_mono (r.put_ _ _) (fun _ _ _ hk r' => hm _ _ _ hk r') h
      · rename_i vs hb
        rw [r.at_ _ _ hb]
        exact vcSkip_mono r (fun _ _ _ hk r' => hm _ _ _ hk r') h
      · exact h.elim
theorem vcDraw_mono {Q Q' : QT} (hq : ∀ x e e' w, Q x e w → Ref e' e → Q' x e' w) : ∀ (fuel : Nat) (listed : Array Bool) (S : Held) (e e' : Env) (w : World), Ref e' e → vcDraw P ops fuel listed S e w Q → vcDraw P ops fuel listed S e' w Q' := by
  intro fuel
  induction fuel with
  | zero =>
    intro listed S e e' w r h
    unfold vcDraw at h ⊢
    cases hr : (Region.ready .any ops listed).isEmpty <;> simp only [hr, cond] at h ⊢
    exact hq _ _ _ _ h r
  | succ fuel ih =>
    intro listed S e e' w r h
    unfold vcDraw at h ⊢
    split at h
    · split at h
      · exact vcTakeG_mono r (fun _ _ _ hk r' => ih _ _ _ _ _ r' hk) h
      · exact h
    · cases hr : (Region.ready .any ops listed).isEmpty <;> simp only [hr, cond] at h ⊢
      · refine forAll_mono (fun i hi => ?_) h
        split at hi
        · exact vcOper_mono r (fun _ _ _ hk r' => ⟨hk.1, ih _ _ _ _ _ r' hk.2⟩) (fun _ _ hp => hq _ _ _ _ hp r) hi
        · exact hi
      · exact hq _ _ _ _ h r
def Still (Qd : Exit → Act → World → Prop) : Prop := ∀ c a d v w, Qd (.panic c) (Act.put a d v) w → Qd (.panic c) a w
theorem vcTake_sound {e : Env} {o : Oper} {w : World} {a : Act} {K : Env → Option (World → Prop) → Prop} (fr : Fr a e) (hs : ∀ cs b, o.op ≠ .select cs b) (hw : Region.wanted o (yielded ops a.tmps) = true)
    (h : vcTake P e o w K) : ∃ v e', Fr (a.put o.dst v) e' ∧ ((K e' none ∧ YieldsIf P ops (fun _ => True) o v a) ∨ ∃ s : World → Prop, s w ∧ K e' (some s) ∧ YieldsIf P ops s o v a) := by
  unfold vcTake at h
  cases hk : (knows e o.op && dstOk e o.dst) <;> simp only [hk, cond] at h
  simp only [Bool.and_eq_true] at hk
  have hex : execOp a.eval o = execOp (evd e) o := execOp_congr o hs fun x hx => fr.evd_ hk.1 hx
  cases hp : isPure P o.op <;> simp only [hp] at h
  · split at h
    · rename_i t x hop
      split at h
      · rename_i b z hb hz
        cases hl : ldOk P t z <;> simp only [hl] at h
        obtain ⟨u, hu, hr, hK⟩ := mk_some _ _ _ h
        refine ⟨u, _, fr.put_ hk.2 u, .inr ⟨fun w => rd w b u, hr, hK, .inl ⟨hw, fun w' hr' => ?_⟩⟩⟩
        rw [hex]
        have := run_loadAt (P := P) (w := w') hl hu hr'
        simp [execOp, hop, hb, this]
      · exact h.elim
    · exact h.elim
  · obtain ⟨v, hv, hr⟩ := vcPure_sound h
    exact ⟨v, _, fr.put_ hk.2 v, .inl ⟨hv, .inl ⟨hw, fun w' _ => by rw [hex]; exact hr w'⟩⟩⟩
theorem vcSkipT_sound {e : Env} {o : Oper} {w : World} {a : Act} {K : Env → Option (World → Prop) → Prop} (fr : Fr a e) (hw : Region.wanted o (yielded ops a.tmps) = false)
    (h : vcSkip e o w fun e _ => K e none) : ∃ v e', Fr (a.put o.dst v) e' ∧ ((K e' none ∧ YieldsIf P ops (fun _ => True) o v a) ∨ ∃ s : World → Prop, s w ∧ K e' (some s) ∧ YieldsIf P ops s o v a) := by
  unfold vcSkip at h
  cases hd : dstOk e o.dst <;> simp only [hd, cond] at h
  exact ⟨undef, _, fr.put_ hd _, .inl ⟨h, .inr ⟨hw, rfl⟩⟩⟩
theorem vcTakeG_sound {e : Env} {o : Oper} {w : World} {a : Act} {K : Env → Option (World → Prop) → Prop} (fr : Fr a e) (hs : ∀ cs b, o.op ≠ .select cs b)
    (h : vcTakeG P ops e o w K) : ∃ v e', Fr (a.put o.dst v) e' ∧ ((K e' none ∧ YieldsIf P ops (fun _ => True) o v a) ∨ ∃ s : World → Prop, s w ∧ K e' (some s) ∧ YieldsIf P ops s o v a) := by
  unfold vcTakeG at h
  split at h
  · rename_i hg
    exact vcTake_sound fr hs (by simp [Region.wanted, hg]) h
  · rename_i j want hg
    split at h
    · exact h.elim
    · rename_i t ht
      split at h
      · rename_i b hb
        have hy := yielded_of fr ht hb
        split at h
        · rename_i hbt
          subst hbt
          have fr' : Fr a (put e (some t) (.bool true)) := fr.ref (Ref.know hb)
          cases want <;> simp only [cond] at h
          · exact vcSkipT_sound fr' (by simp [Region.wanted, hg, hy]) h
          · exact vcTake_sound fr' hs (by simp [Region.wanted, hg, hy]) h
        · rename_i hbt
          have hbf : b = false := by simpa using hbt
          subst hbf
          have fr' : Fr a (put e (some t) (.bool false)) := fr.ref (Ref.know hb)
          cases want <;> simp only [cond] at h
          · exact vcTake_sound fr' hs (by simp [Region.wanted, hg, hy]) h
          · exact vcSkipT_sound fr' (by simp [Region.wanted, hg, hy]) h
      · rename_i vs hb
        exact vcSkipT_sound fr (by simp [Region.wanted, hg, yielded_none fr ht hb]) h
      · exact h.elim
theorem vcDraw_sound {Q : QT} {Qd : Exit → Act → World → Prop} (hsel : Region.noSelect ops = true) (hst : Still Qd) (hq : ∀ x e w a, Q x e w → Fr a e → Qd x a w) :
    ∀ (fuel : Nat) (listed : Array Bool) (S : Held) (e : Env) (w : World) (a : Act), Fr a e → Down .any ops listed → allS S w → vcDraw P ops fuel listed S e w Q → wpAnyT P .any ops Qd fuel listed S a w := by
  intro fuel
  induction fuel with
  | zero =>
    intro listed S e w a fr _ _ h
    unfold vcDraw at h
    cases hr : (Region.ready .any ops listed).isEmpty <;> simp only [hr, cond] at h
    exact ⟨List.isEmpty_iff.1 hr, hq _ _ _ _ h fr⟩
  | succ fuel ih =>
    intro listed S e w a fr hd hA h
    unfold vcDraw at h
    split at h
    · rename_i i hi
      obtain ⟨hmem, o, ho, hfree⟩ := pickFirst_some hi
      rw [ho] at h
      simp only at h
      obtain ⟨v, e', fr', hK⟩ := vcTakeG_sound fr (Region.noSelect_spec hsel i o · · ho) h
      have hQ : ∀ c a' w', Qd (.panic c) (a'.put o.dst v) w' → Qd (.panic c) a' w' := fun c a' w' hh => hst c a' o.dst v w' hh
      rcases hK with ⟨hK, hy⟩ | ⟨s, hs, hK, hy⟩
      · exact wpAnyT_first ho (Region.noSelect_spec hsel) hQ fuel listed S a w hd (Region.free_spec ho hfree) hmem hy trivial hA
          (wpAnyT_triv i _ _ _ _ _ (ih _ _ _ _ _ fr' (hd.set hmem) hA hK))
      · exact wpAnyT_first ho (Region.noSelect_spec hsel) hQ fuel listed S a w hd (Region.free_spec ho hfree) hmem hy hs hA
          (ih _ _ _ _ _ fr' (hd.set hmem) ⟨hs, hA⟩ hK)
    · cases hr : (Region.ready .any ops listed).isEmpty <;> simp only [hr, cond] at h
      · refine ⟨fun h0 => (by rw [h0] at hr; cases hr), fun i hi => ?_⟩
        have hf := forAll_mem h i hi
        split at hf
        · rename_i o ho
          unfold wpOp
          simp only [ho]
          have := vcOper_sound (Qd := Qd) (next := fun a' w' => allS (keep .any ops i S) w' ∧ wpAnyT P .any ops Qd fuel (listed.setIfInBounds i true) (keep .any ops i S) a' w') fr (Region.noSelect_spec hsel i o · · ho)
            (fun e' a' w' hk fr' => ⟨hk.1, ih _ _ _ _ _ fr' (hd.set hi) hk.1 hk.2⟩) (fun c w' hx => hq _ _ _ _ hx fr) hf
          split
          · rename_i hw; rw [if_pos hw] at this; exact .inl this
          · rename_i hw; rw [if_neg hw] at this; exact this
        · exact hf.elim
      · have h0 := List.isEmpty_iff.1 hr
        exact ⟨fun _ => hq _ _ _ _ h fr, fun i hi => by rw [h0] at hi; cases hi⟩
end
end Go.Vc
namespace Go.Vc
open Go
def seqQ (K : Env → World → Prop) (Q : QT) : QT := fun x e w => match x with | .normal => K e w | x => Q x e w
def blockQ (id : Nat) (Q : QT) : QT := fun x e w => match x with | .exit i => cond (Nat.beq i id) (Q .normal e w) (Q (.exit i) e w) | x => Q x e w
abbrev Hook := Nat → Option (Env → World → QT → Prop)
def hk (h : Option (Env → World → QT → Prop)) (d : Env → World → QT → Prop) : Env → World → QT → Prop :=
  match h with
  | some h => h
  | none => d
def vcCode (P : Program) (H : Hook) : Code → Nat → Env → World → QT → Prop
  | .skip, p => hk (H p) fun e w Q => Q .normal e w
  | .region _ ops false, p => hk (H p) fun e w Q => vcOps P ops ops.toList e w Q
  | .region _ ops true, p => hk (H p) fun e w Q => cond (Region.noSelect ops) (vcDraw P ops ops.size (Array.replicate ops.size false) [] e w.drew Q) False
  | .seq a b, p => hk (H p) fun e w Q => vcCode P H a (2 * p) e w (seqQ (fun e w => vcCode P H b (2 * p + 1) e w Q) Q)
  | .cond c a b, p => hk (H p) fun e w Q => match ev e c with | some (.bool t) => if t = true then vcCode P H a (2 * p) e w Q else vcCode P H b (2 * p + 1) e w Q | _ => False
  | .block id b, p => hk (H p) fun e w Q => vcCode P H b (2 * p) e w (blockQ id Q)
  | .loop b, p => hk (H p) fun e w Q => ∀ X : Env → World → Prop, (∀ e w, vcCode P H b (2 * p) e w (seqQ X Q) → X e w) → X e w
  | .exit id, p => hk (H p) fun e w Q => Q (.exit id) e w
  | .goto l, p => hk (H p) fun e w Q => Q (.goto l) e w
  | .ret, p => hk (H p) fun e w Q => Q .ret e w
  | _, p => hk (H p) fun _ _ _ => False
def noH : Hook := fun _ => none
section
variable {P : Program}
theorem seqQ_mono {K K' : Env → World → Prop} {Q Q' : QT} (hk : ∀ e e' w, K e w → Ref e' e → K' e' w) (hq : ∀ x e e' w, Q x e w → Ref e' e → Q' x e' w) : ∀ x e e' w, seqQ K Q x e w → Ref e' e → seqQ K' Q' x e' w := by
  intro x e e' w h r
  cases x <;> first | exact hk _ _ _ h r | exact hq _ _ _ _ h r
theorem blockQ_mono {id : Nat} {Q Q' : QT} (hq : ∀ x e e' w, Q x e w → Ref e' e → Q' x e' w) : ∀ x e e' w, blockQ id Q x e w → Ref e' e → blockQ id Q' x e' w := by
  intro x e e' w h r
  cases x <;> simp only [blockQ] at h ⊢ <;> try exact hq _ _ _ _ h r
  rename_i i
  cases hb : Nat.beq i id <;> simp only [hb, cond] at h ⊢ <;> exact hq _ _ _ _ h r
theorem vcCode_mono : ∀ (c : Code) (p : Nat) {e e' : Env} {w : World} {Q Q' : QT}, (∀ x e e' w, Q x e w → Ref e' e → Q' x e' w) → Ref e' e → vcCode P noH c p e w Q → vcCode P noH c p e' w Q' := by
  intro c
  induction c with
  | skip => intro p e e' w Q Q' hq r h; exact hq _ _ _ _ h r
  | region id ops d =>
    intro p e e' w Q Q' hq r h
    cases d
    · exact vcOps_mono hq _ _ _ _ r h
    · simp only [vcCode, hk, noH] at h ⊢
      cases hn : Region.noSelect ops <;> simp only [hn, cond] at h ⊢
      exact vcDraw_mono hq _ _ _ _ _ _ r h
  | seq a b iha ihb =>
    intro p e e' w Q Q' hq r h
    exact iha _ (seqQ_mono (fun _ _ _ hk r' => ihb _ hq r' hk) hq) r h
  | cond c a b iha ihb =>
    intro p e e' w Q Q' hq r h
    simp only [vcCode, hk, noH] at h ⊢
    split at h
    · rename_i t ht
      rw [r.ev_ ht]
      simp only
      split at h
      · rename_i hb; rw [if_pos hb]; exact iha _ hq r h
      · rename_i hb; rw [if_neg hb]; exact ihb _ hq r h
    · exact h.elim
  | block id b ih =>
    intro p e e' w Q Q' hq r h
    exact ih _ (blockQ_mono hq) r h
  | loop b ih =>
    intro p e e' w Q Q' hq r h
    intro X' hX'
    have key := h (fun e w => ∀ e', Ref e' e → X' e' w) (fun e w hb e' r' => hX' e' w (ih _ (seqQ_mono (fun e e' w hx r' => hx e' r') hq) r' hb))
    exact key e' r
  | exit id => intro p e e' w Q Q' hq r h; exact hq _ _ _ _ h r
  | goto l => intro p e e' w Q Q' hq r h; exact hq _ _ _ _ h r
  | ret => intro p e e' w Q Q' hq r h; exact hq _ _ _ _ h r
  | _ => intro p e e' w Q Q' hq r h; exact h.elim
def LoopFrom (P : Program) (body : Code) (Q : Exit → Act → World → Prop) (a : Act) (w : World) : Prop :=
  ∀ (b : Frame) (k : List Item) (cs : List Frame), ∃ e a' w', Q e a' w' ∧ Arrives P (lone (b.at a (.code body :: .inLoop body :: k)) cs w) b k cs e a' w'
theorem wp_of_LoopFrom {body : Code} {Q : Exit → Act → World → Prop} {a : Act} {w : World} (h : LoopFrom P body Q a w) : (Code.loop body).wp P Q a w := by
  intro b k cs
  obtain ⟨e, a', w', hq, harr⟩ := h b k cs
  exact ⟨e, a', w', hq, .of_steps (.one step_loop) harr⟩
theorem LoopFrom.step {body : Code} {Q : Exit → Act → World → Prop} {a : Act} {w : World} (h : body.wp P (Exit.then (LoopFrom P body Q) Q) a w) : LoopFrom P body Q a w := by
  intro b k cs
  obtain ⟨e, a₁, w₁, hq, harr⟩ := h b (.inLoop body :: k) cs
  cases e with
  | normal =>
    obtain ⟨e₂, a₂, w₂, hq₂, harr₂⟩ := hq b k cs
    exact ⟨e₂, a₂, w₂, hq₂, .of_steps (Steps.trans harr (.one step_inLoop)) harr₂⟩
  | exit id => exact ⟨_, a₁, w₁, hq, .pass (x := .inLoop body) rfl (fun _ _ => .inl (by simp)) harr⟩
  | goto l => exact ⟨_, a₁, w₁, hq, .pass (x := .inLoop body) rfl (fun _ _ => .inl (by simp)) harr⟩
  | ret => exact ⟨_, a₁, w₁, hq, .pass (x := .inLoop body) rfl (fun _ _ => .inl (by simp)) harr⟩
  | panic ch => exact ⟨_, a₁, w₁, hq, .pass (x := .inLoop body) rfl (fun _ _ => .inl (by simp)) harr⟩
  | outgrown => exact ⟨_, a₁, w₁, hq, .pass (x := .inLoop body) rfl (fun _ _ => .inl (by simp)) harr⟩
theorem wpList_of_vcOps {ops : Array Oper} {Q : QT} {Qd : Exit → Act → World → Prop} (hsel : ∀ o ∈ ops, ∀ cs b, o.op ≠ .select cs b) (hq : ∀ x e w a, Q x e w → Fr a e → Qd x a w) :
    ∀ (l : List Oper), (∀ o ∈ l, o ∈ ops) → ∀ (e : Env) (w : World) (a : Act), Fr a e → vcOps P ops l e w Q → wpList P ops Qd l a w
  | [], _, _, _, _, fr, h => hq _ _ _ _ h fr
  | o :: rest, hm, e, w, a, fr, h => by
    have := vcOper_sound (Qd := Qd) (next := wpList P ops Qd rest) fr (hsel o (hm o (List.mem_cons_self ..)))
      (fun e' a' w' hk fr' => wpList_of_vcOps hsel hq rest (fun o ho => hm o (List.mem_cons_of_mem _ ho)) e' w' a' fr' hk) (fun c w' hx => hq _ _ _ _ hx fr) h
    unfold wpList
    split
    · rename_i hw; rw [if_pos hw] at this; exact .inl this
    · rename_i hw; rw [if_neg hw] at this; exact this
theorem Still.then_ {K : Act → World → Prop} {Q : Exit → Act → World → Prop} (h : Still Q) : Still (Exit.then K Q) := h
theorem Still.inBlock_ {id : Nat} {Q : Exit → Act → World → Prop} (h : Still Q) : Still (Exit.inBlock id Q) := h
def quietSel : Code → Bool
  | .region _ ops _ => ops.toList.all fun o => match o.op with | .select _ _ => false | _ => true
  | .seq a b => quietSel a && quietSel b
  | .cond _ a b => quietSel a && quietSel b
  | .block _ b => quietSel b
  | .loop b => quietSel b
  | _ => true
theorem vcCode_sound (hm : P.follows .mixedOrders = true) : ∀ (c : Code) (p : Nat), quietSel c = true → ∀ {e : Env} {w : World} {a : Act} {Q : QT} {Qd : Exit → Act → World → Prop}, Still Qd → (∀ x e w a, Q x e w → Fr a e → Qd x a w) → Fr a e →
    vcCode P noH c p e w Q → c.wp P Qd a w := by
  intro c
  induction c with
  | skip => intro p _ e w a Q Qd hst hq fr h; exact wp_skip (hq _ _ _ _ h fr)
  | region id ops d =>
    intro p hs e w a Q Qd hst hq fr h
    have hsel : ∀ o ∈ ops, ∀ cs b, o.op ≠ .select cs b := fun o ho cs b heq => by
      have := List.all_eq_true.1 hs o (Array.mem_toList_iff.2 ho)
      rw [heq] at this
      cases this
    cases d
    · exact wp_region_list (wpList_of_vcOps hsel hq ops.toList (fun o ho => Array.mem_toList_iff.1 ho) e w a fr h)
    · simp only [vcCode, hk, noH] at h
      cases hn : Region.noSelect ops <;> simp only [hn, cond] at h
      exact wp_region_any hm (wpAny_of_T _ _ _ _ _ (vcDraw_sound hn hst hq _ _ [] _ _ _ fr (Down.start _) trivial h))
  | seq x y ihx ihy =>
    intro p hs e w a Q Qd hst hq fr h
    simp only [quietSel, Bool.and_eq_true] at hs
    refine wp_seq (ihx _ hs.1 (Q := seqQ (fun e w => vcCode P noH y (2 * p + 1) e w Q) Q) hst.then_ (fun z e w a hz fr' => ?_) fr h)
    cases z <;> first | exact ihy _ hs.2 hst hq fr' hz | exact hq _ _ _ _ hz fr'
  | cond c x y ihx ihy =>
    intro p hs e w a Q Qd hst hq fr h
    simp only [quietSel, Bool.and_eq_true] at hs
    simp only [vcCode, hk, noH] at h
    split at h
    · rename_i t ht
      refine wp_cond_split (fr.ev_ ht) (fun ht' => ?_) (fun ht' => ?_)
      · rw [if_pos ht'] at h; exact ihx _ hs.1 hst hq fr h
      · rw [if_neg (by simp [ht'])] at h; exact ihy _ hs.2 hst hq fr h
    · exact h.elim
  | block id b ih =>
    intro p hs e w a Q Qd hst hq fr h
    refine wp_block (ih _ hs (Q := blockQ id Q) hst.inBlock_ (fun z e w a hz fr' => ?_) fr h)
    cases z <;> simp only [blockQ, Exit.inBlock] at hz ⊢ <;> try exact hq _ _ _ _ hz fr'
    rename_i i
    cases hb : Nat.beq i id <;> simp only [hb, cond] at hz
    · rw [if_neg (fun e => by subst e; rw [Nat.beq_refl] at hb; cases hb)]
      exact hq _ _ _ _ hz fr'
    · rw [if_pos (Nat.eq_of_beq_eq_true hb)]
      exact hq _ _ _ _ hz fr'
  | loop b ih =>
    intro p hs e w a Q Qd hst hq fr h
    refine wp_of_LoopFrom (h (fun e w => ∀ a, Fr a e → LoopFrom P b Qd a w) (fun e w hb a fr' => LoopFrom.step (ih _ hs (Q := seqQ _ Q) hst.then_ (fun z e w a hz fr' => ?_) fr' hb)) a fr)
    cases z <;> first | exact hz _ fr' | exact hq _ _ _ _ hz fr'
  | exit id => intro p _ e w a Q Qd hst hq fr h; exact wp_exit (hq _ _ _ _ h fr)
  | goto l => intro p _ e w a Q Qd hst hq fr h; exact wp_goto (hq _ _ _ _ h fr)
  | ret => intro p _ e w a Q Qd hst hq fr h; exact wp_ret (hq _ _ _ _ h fr)
  | _ => intro p _ e w a Q Qd hst hq fr h; exact h.elim
def MonoQ (Q : QT) : Prop := ∀ x e e' w, Q x e w → Ref e' e → Q x e' w
structure UnitOk (P : Program) (h : Env → World → QT → Prop) (c : Code) (p : Nat) : Prop where
  sound : ∀ e w Q, MonoQ Q → h e w Q → vcCode P noH c p e w Q
  mono : ∀ e w Q Q', (∀ x e w, Q x e w → Q' x e w) → h e w Q → h e w Q'
def hOk (P : Program) (c : Code) (p : Nat) (h : Option (Env → World → QT → Prop)) (d : Prop) : Prop :=
  match h with
  | some h => UnitOk P h c p
  | none => d
def HOk (P : Program) (H : Hook) : Code → Nat → Prop
  | .seq a b, p => hOk P (.seq a b) p (H p) (HOk P H a (2 * p) ∧ HOk P H b (2 * p + 1))
  | .cond c a b, p => hOk P (.cond c a b) p (H p) (HOk P H a (2 * p) ∧ HOk P H b (2 * p + 1))
  | .block id b, p => hOk P (.block id b) p (H p) (HOk P H b (2 * p))
  | .loop b, p => hOk P (.loop b) p (H p) (HOk P H b (2 * p))
  | c, p => hOk P c p (H p) True
theorem MonoQ.seq_ {p : Nat} {c : Code} {Q : QT} (h : MonoQ Q) : MonoQ (seqQ (fun e w => vcCode P noH c p e w Q) Q) :=
  seqQ_mono (fun _ _ _ hk r => vcCode_mono _ _ h r hk) h
theorem MonoQ.block_ {id : Nat} {Q : QT} (h : MonoQ Q) : MonoQ (blockQ id Q) := blockQ_mono h
theorem vcCode_hook {H : Hook} : ∀ (c : Code) (p : Nat) {e : Env} {w : World} {Q Q' : QT}, MonoQ Q' → (∀ x e w, Q x e w → Q' x e w) → HOk P H c p →
    vcCode P H c p e w Q → vcCode P noH c p e w Q' := by
  intro c
  induction c with
  | seq a b iha ihb =>
    intro p e w Q Q' hm hq ho h
    simp only [vcCode, HOk] at h ho
    cases hp : H p with
    | some f => rw [hp] at h ho; exact ho.sound _ _ _ hm (ho.mono _ _ _ _ hq h)
    | none =>
      rw [hp] at h ho
      refine iha (2 * p) (Q := seqQ (fun e w => vcCode P H b (2 * p + 1) e w Q) Q) hm.seq_ (fun x e w hx => ?_) ho.1 h
      cases x <;> first | exact ihb (2 * p + 1) hm hq ho.2 hx | exact hq _ _ _ hx
  | cond c a b iha ihb =>
    intro p e w Q Q' hm hq ho h
    simp only [vcCode, HOk] at h ho
    cases hp : H p with
    | some f => rw [hp] at h ho; exact ho.sound _ _ _ hm (ho.mono _ _ _ _ hq h)
    | none =>
      rw [hp] at h ho
      simp only [hk] at h
      simp only [vcCode, hk, noH]
      split at h
      · split at h
        · rename_i ht; rw [if_pos ht]; exact iha (2 * p) hm hq ho.1 h
        · rename_i ht; rw [if_neg ht]; exact ihb (2 * p + 1) hm hq ho.2 h
      · exact h
  | block id b ih =>
    intro p e w Q Q' hm hq ho h
    simp only [vcCode, HOk] at h ho
    cases hp : H p with
    | some f => rw [hp] at h ho; exact ho.sound _ _ _ hm (ho.mono _ _ _ _ hq h)
    | none =>
      rw [hp] at h ho
      refine ih (2 * p) (Q := blockQ id Q) hm.block_ (fun x e w hx => ?_) ho h
      cases x <;> simp only [blockQ] at hx ⊢ <;> try exact hq _ _ _ hx
      rename_i i
      cases hb : Nat.beq i id <;> simp only [hb, cond] at hx ⊢ <;> exact hq _ _ _ hx
  | loop b ih =>
    intro p e w Q Q' hm hq ho h
    simp only [vcCode, HOk] at h ho
    cases hp : H p with
    | some f => rw [hp] at h ho; exact ho.sound _ _ _ hm (ho.mono _ _ _ _ hq h)
    | none =>
      rw [hp] at h ho
      simp only [hk] at h
      intro X hX
      have key := h (fun e w => ∀ e', Ref e' e → X e' w) (fun e w hb e' r => hX e' w ?_)
      · exact key e (Ref.refl _)
      · have hm2 : MonoQ (seqQ (fun e w => ∀ e', Ref e' e → X e' w) Q') := seqQ_mono (fun _ _ _ hx r' => fun e'' r'' => hx e'' (r''.trans r')) hm
        have h1 := ih (2 * p) (Q := seqQ (fun e w => ∀ e', Ref e' e → X e' w) Q) (Q' := seqQ (fun e w => ∀ e', Ref e' e → X e' w) Q') hm2 (fun x e w hx => by cases x <;> first | exact hx | exact hq _ _ _ hx) ho hb
        exact vcCode_mono _ _ (seqQ_mono (fun _ e' _ hx r' => hx e' r') hm) r h1
  | skip =>
    intro p e w Q Q' hm hq ho h
    simp only [vcCode, HOk] at h ho
    cases hp : H p with
    | some f => rw [hp] at h ho; exact ho.sound _ _ _ hm (ho.mono _ _ _ _ hq h)
    | none => rw [hp] at h; exact hq _ _ _ h
  | exit id =>
    intro p e w Q Q' hm hq ho h
    simp only [vcCode, HOk] at h ho
    cases hp : H p with
    | some f => rw [hp] at h ho; exact ho.sound _ _ _ hm (ho.mono _ _ _ _ hq h)
    | none => rw [hp] at h; exact hq _ _ _ h
  | goto l =>
    intro p e w Q Q' hm hq ho h
    simp only [vcCode, HOk] at h ho
    cases hp : H p with
    | some f => rw [hp] at h ho; exact ho.sound _ _ _ hm (ho.mono _ _ _ _ hq h)
    | none => rw [hp] at h; exact hq _ _ _ h
  | ret =>
    intro p e w Q Q' hm hq ho h
    simp only [vcCode, HOk] at h ho
    cases hp : H p with
    | some f => rw [hp] at h ho; exact ho.sound _ _ _ hm (ho.mono _ _ _ _ hq h)
    | none => rw [hp] at h; exact hq _ _ _ h
  | region id ops d =>
    intro p e w Q Q' hm hq ho h
    simp only [HOk] at ho
    cases hp : H p with
    | some f => cases d <;> (simp only [vcCode] at h; rw [hp] at h ho; exact ho.sound _ _ _ hm (ho.mono _ _ _ _ hq h))
    | none =>
      cases d
      · simp only [vcCode, hp, hk] at h
        exact vcOps_mono (Q := Q) (Q' := Q') (fun x e e' w hx r => hm x _ _ w (hq _ _ _ hx) r) _ _ _ _ (Ref.refl _) h
      · simp only [vcCode, hp, hk, noH] at h ⊢
        cases hn : Region.noSelect ops <;> simp only [hn, cond] at h ⊢
        exact vcDraw_mono (Q := Q) (Q' := Q') (fun x e e' w hx r => hm x _ _ w (hq _ _ _ hx) r) _ _ _ _ _ _ (Ref.refl _) h
  | _ =>
    intro p e w Q Q' hm hq ho h
    simp only [vcCode, HOk] at h ho
    cases hp : H p with
    | some f => rw [hp] at h ho; exact ho.sound _ _ _ hm (ho.mono _ _ _ _ hq h)
    | none => rw [hp] at h; exact h.elim
def argEnv : List Value → Nat → List (Nat × Value)
  | [], _ => []
  | v :: r, i => (i, v) :: argEnv r (i + 1)
def resL (P : Program) (e : Env) (w : World) : List ResultVar → (List Value → Prop) → Prop
  | [], K => K []
  | .tmp t :: r, K => (match find e.l t with | some v => resL P e w r fun l => K (v :: l) | none => False)
  | .cell t ty :: r, K => (match find e.l t, tmpl P ty with | some (.pointer (some a)), some z => cond (ldOk P ty z) (mk 4 z fun u => rd w a u ∧ resL P e w r fun l => K (u :: l)) False | _, _ => False)
def oneOf : List Value → Value
  | [v] => v
  | l => .tuple ⟨l⟩
def finQ (P : Program) (rs : List ResultVar) (R : RT) : QT := fun x e w =>
  match x with
  | .normal => cond e.ds.isEmpty (resL P e w rs fun l => R (.returned (oneOf l)) w) False
  | .ret => cond e.ds.isEmpty (resL P e w rs fun l => R (.returned (oneOf l)) w) False
  | .panic ch => cond e.ds.isEmpty (R (.panicked ch) w) False
  | _ => False
theorem find_argEnv : ∀ (l : List Value) (i t : Nat) (v : Value), find (argEnv l i) t = some v → i ≤ t ∧ l[t - i]? = some v
  | [], _, _, _, h => by cases h
  | u :: r, i, t, v, h => by
    simp only [argEnv, find_cons] at h
    split at h
    · rename_i e; subst e; exact ⟨Nat.le_refl _, by simpa using h⟩
    · rename_i hne
      obtain ⟨h1, h2⟩ := find_argEnv r (i + 1) t v h
      refine ⟨by omega, ?_⟩
      rw [show t - i = (t - (i + 1)) + 1 from by omega]
      simpa using h2
theorem resL_mono {e e' : Env} (r : Ref e' e) {w : World} : ∀ (l : List ResultVar) {K : List Value → Prop}, resL P e w l K → resL P e' w l K
  | [], _, h => h
  | .tmp t :: l, K, h => by
    unfold resL at h ⊢
    split at h
    · rename_i v hv; rw [r.at_ _ _ hv]; exact resL_mono r l h
    · exact h.elim
  | .cell t ty :: l, K, h => by
    unfold resL at h ⊢
    split at h
    · rename_i a z hv hz
      rw [r.at_ _ _ hv, hz]
      cases hl : ldOk P ty z <;> simp only [hl, cond] at h ⊢
      exact mk_mono _ _ _ _ (fun _ hu => ⟨hu.1, resL_mono r l hu.2⟩) h
    · exact h.elim
theorem MonoQ.fin {rs : List ResultVar} {R : RT} : MonoQ (finQ P rs R) := by
  intro x e e' w h r
  have hd : e'.ds.isEmpty = e.ds.isEmpty := by rw [r.ds]
  cases x <;> simp only [finQ] at h ⊢ <;> try exact h
  all_goals
    rw [hd]
    cases he : e.ds.isEmpty <;> simp only [he, cond] at h ⊢
    first | exact resL_mono r _ h | exact h
def resOne (a : Act) : ResultVar → Sem Value
  | .tmp t => pure (a.tmps.getD t undef)
  | .cell b t => do loadVar t (← asAddr (a.tmps.getD b undef))
theorem resL_run {e : Env} {a : Act} (fr : Fr a e) {w : World} : ∀ (l : List ResultVar) {K : List Value → Prop}, resL P e w l K →
    ∃ vs, K vs ∧ (l.mapM (resOne a)).run P w = .ok vs w
  | [], K, h => ⟨[], h, rfl⟩
  | .tmp t :: l, K, h => by
    unfold resL at h
    split at h
    · rename_i v hv
      obtain ⟨vs, hK, hr⟩ := resL_run fr l h
      have hg : a.tmps.getD t undef = v := by simp [fr.at_ _ _ hv]
      have h1 : (resOne a (.tmp t)).run P w = .ok v w := by simp only [resOne, hg, Sem.run_pure]
      exact ⟨_, hK, by simp only [List.mapM_cons, Sem.run_bind, Sem.run_pure, h1, Result.andThen_ok, hr]⟩
    · exact h.elim
  | .cell t ty :: l, K, h => by
    unfold resL at h
    split at h
    · rename_i b z hv hz
      cases hl : ldOk P ty z <;> simp only [hl, cond] at h
      obtain ⟨u, hu, hrd, h⟩ := mk_some _ _ _ h
      obtain ⟨vs, hK, hr⟩ := resL_run fr l h
      have hg : a.tmps.getD t undef = .pointer (some b) := by simp [fr.at_ _ _ hv]
      have hld := run_loadAt (P := P) hl hu hrd
      simp only [Instr.loadAt, Instr.sureAddr, Sem.run_bind, Sem.run_pure, Result.andThen_ok] at hld
      have h1 : (resOne a (.cell t ty)).run P w = .ok u w := by simp only [resOne, hg, asAddr, Sem.run_bind, Sem.run_pure, Result.andThen_ok, hld]
      exact ⟨_, hK, by simp only [List.mapM_cons, Sem.run_bind, Sem.run_pure, h1, Result.andThen_ok, hr]⟩
    · exact h.elim
theorem results_run {fn : Func} {e : Env} {a : Act} (fr : Fr a e) {w : World} {R : Value → Prop} (h : resL P e w fn.results.toList fun l => R (oneOf l)) : ∃ v, (results fn a.tmps).run P w = .ok v w ∧ R v := by
  obtain ⟨vs, hK, hr⟩ := resL_run fr _ h
  refine ⟨_, ?_, hK⟩
  have hm : (fn.results.mapM (resOne a)).run P w = .ok vs.toArray w := by
    have : fn.results = fn.results.toList.toArray := by simp
    rw [this, List.mapM_toArray]
    simp only [Sem.run_map, hr, Result.andThen_ok]
  have e1 : results fn a.tmps = (do let vs ← fn.results.mapM (resOne a); pure (if h : vs.size = 1 then vs[0] else .tuple vs)) := by
    unfold results
    congr 2
  rw [e1]
  simp only [Sem.run_bind, hm, Result.andThen_ok, Sem.run_pure]
  match vs with
  | [] => rfl
  | [v] => rfl
  | _ :: _ :: _ => simp [oneOf]
theorem calls_of_vc {f : FuncId} {fn : Func} {c : Code} {args : List Value} {w : World} {R : RT} (hm : P.follows .mixedOrders = true) (hf : P.funcs[f]? = some fn) (hb : fn.body = some c)
    (hs : (quietSel c && Nat.ble args.length fn.ntmps) = true) (h : vcCode P noH c 1 ⟨argEnv args 0, fn.ntmps, []⟩ w (finQ P fn.results.toList R)) : Calls P f ⟨args⟩ w R := by
  simp only [Bool.and_eq_true] at hs
  have hle : args.length ≤ fn.ntmps := Nat.le_of_ble_eq_true hs.2
  refine calls_of_wp hf hb (vcCode_sound hm c 1 hs.1 (Q := finQ P fn.results.toList R) (fun c a d v w hh => ?_) (fun x e w a hx fr => ?_) ⟨by simp; omega, rfl, fun t v hv => ?_⟩ h)
  · obtain ⟨hd, hR⟩ := hh
    refine ⟨?_, hR⟩
    cases d <;> exact hd
  · have hds : a.defers = e.ds := fr.ds
    cases x <;> simp only [finQ] at hx <;> try exact hx.elim
    all_goals
      cases he : e.ds.isEmpty <;> simp only [he, cond] at hx
      have hnil : a.defers = [] := by rw [hds]; exact List.isEmpty_iff.1 he
      first
        | (obtain ⟨v, hv, hR⟩ := results_run (R := fun v => R (.returned v) w) fr hx; exact ⟨hnil, v, hv, hR⟩)
        | exact ⟨hnil, hx⟩
  · obtain ⟨_, h2⟩ := find_argEnv _ _ _ _ hv
    have hlt : t < args.length := (List.getElem?_eq_some_iff.1 h2).1
    simp only [Nat.sub_zero] at h2
    rw [List.getElem?_eq_getElem hlt] at h2
    injection h2 with h2
    simp [Array.getElem?_append, hlt, h2]
end
end Go.Vc
namespace Go.Vc
open Go
structure Lasts (Rl : Env → Env → Prop) (ok : Option Tmp → Bool) : Prop where
  ref : ∀ {e' e}, Rl e' e → Ref e' e
  put_ : ∀ {e' e} {d : Option Tmp} (v : Value), Rl e' e → ok d = true → Rl (put e' d v) (put e d v)
  know : ∀ {e' e} {t : Nat} {b : Bool}, Rl e' e → find e.l t = some (.bool b) → Rl (put e' (some t) (.bool b)) (put e (some t) (.bool b))
section
variable {P : Program} {ops : Array Oper} {o : Oper} {e e' : Env} {w : World} {Rl : Env → Env → Prop} {ok : Option Tmp → Bool}
theorem vcStep_monoR (L : Lasts Rl ok) {K K' : Env → World → Prop} {X X' : XT} (hd : ok o.dst = true) (r : Rl e' e) (hm : ∀ e e' w, K e w → Rl e' e → K' e' w) (hx : ∀ c w, X c w → X' c w)
    (h : vcStep P e o w K X) : vcStep P e' o w K' X' := by
  unfold vcStep at *
  cases hk : (knows e o.op && dstOk e o.dst) <;> simp only [hk, cond] at h
  simp only [Bool.and_eq_true] at hk
  have hk' : (knows e' o.op && dstOk e' o.dst) = true := by rw [(L.ref r).knows_ hk.1, (L.ref r).dstOk_, hk.2]; rfl
  rw [hk']
  simp only [cond]
  have hc : ∀ x ∈ o.op.operands, evd e' x = evd e x := fun x hx => (L.ref r).evd_ hk.1 hx
  cases hp : isPure P o.op <;> simp only [hp] at h ⊢
  · rw [vcMem_congr o hc]
    exact vcMem_mono (fun v w' hv => hm _ _ _ hv (L.put_ _ r hd)) hx h
  · rw [vcPure_congr o hc]
    exact vcPure_mono (fun v hv => hm _ _ _ hv (L.put_ _ r hd)) h
theorem vcSkip_monoR (L : Lasts Rl ok) {K K' : Env → World → Prop} (hd : ok o.dst = true) (r : Rl e' e) (hm : ∀ e e' w, K e w → Rl e' e → K' e' w) (h : vcSkip e o w K) : vcSkip e' o w K' := by
  unfold vcSkip at *
  rw [(L.ref r).dstOk_]
  cases hdd : dstOk e o.dst <;> simp only [hdd, cond] at h ⊢
  exact hm _ _ _ h (L.put_ _ r hd)
theorem vcOper_monoR (L : Lasts Rl ok) {K K' : Env → World → Prop} {X X' : XT} (hd : ok o.dst = true) (r : Rl e' e) (hm : ∀ e e' w, K e w → Rl e' e → K' e' w) (hx : ∀ c w, X c w → X' c w)
    (h : vcOper P ops e o w K X) : vcOper P ops e' o w K' X' := by
  unfold vcOper at *
  split at h
  · exact vcStep_monoR L hd r (fun e e' w hk r' => hintK_mono (L.ref r') (fun v hv => hm _ _ _ hv (L.put_ _ r' hd)) (fun hk => hm _ _ _ hk r') hk) hx h
  · rename_i j want hg
    split at h
    · exact h.elim
    · rename_i t ht
      split at h
      · rename_i b hb
        rw [(L.ref r).at_ _ _ hb]
        simp only
        split at h
        · rename_i hbt
          subst hbt
          rw [if_pos rfl]
          cases want <;> simp only [cond] at h ⊢
          · exact vcSkip_monoR L hd (L.know r hb) hm h
          · exact vcStep_monoR L hd (L.know r hb) hm hx h
        · rename_i hbt
          have hbf : b = false := by simpa using hbt
          subst hbf
          rw [if_neg (by simp)]
          cases want <;> simp only [cond] at h ⊢
          · exact vcStep_monoR L hd (L.know r hb) hm hx h
          · exact vcSkip_monoR L hd (L.know r hb) hm h
      · rename_i vs hb
        rw [(L.ref r).at_ _ _ hb]
        exact vcSkip_monoR L hd r hm h
      · exact h.elim
theorem vcOps_monoR (L : Lasts Rl ok) {Q Q' : QT} (hq : ∀ x e e' w, Q x e w → Rl e' e → Q' x e' w) : ∀ (l : List Oper), (l.all fun (o : Oper) => ok o.dst) = true → ∀ (e e' : Env) (w : World), Rl e' e → vcOps P ops l e w Q → vcOps P ops l e' w Q'
  | [], _, _, _, _, r, h => hq _ _ _ _ h r
  | _ :: rest, ha, _, _, _, r, h => by
    simp only [List.all_cons, Bool.and_eq_true] at ha
    exact vcOper_monoR L ha.1 r (fun _ _ _ hk r' => vcOps_monoR L hq rest ha.2 _ _ _ r' hk) (fun _ _ hp => hq _ _ _ _ hp r) h
theorem vcTake_monoR (L : Lasts Rl ok) {K K' : Env → Option (World → Prop) → Prop} (hd : ok o.dst = true) (r : Rl e' e) (hm : ∀ e e' s, K e s → Rl e' e → K' e' s) (h : vcTake P e o w K) : vcTake P e' o w K' := by
  unfold vcTake at *
  cases hk : (knows e o.op && dstOk e o.dst) <;> simp only [hk, cond] at h
  simp only [Bool.and_eq_true] at hk
  have hk' : (knows e' o.op && dstOk e' o.dst) = true := by rw [(L.ref r).knows_ hk.1, (L.ref r).dstOk_, hk.2]; rfl
  rw [hk']
  simp only [cond]
  have hc : ∀ x ∈ o.op.operands, evd e' x = evd e x := fun x hx => (L.ref r).evd_ hk.1 hx
  cases hp : isPure P o.op <;> simp only [hp] at h ⊢
  · split at h
    · rename_i t x hop
      have hx : evd e' x = evd e x := hc x (by rw [hop]; simp [Op.operands])
      rw [hx]
      split at h
      · rename_i a z ha hz
        cases hl : ldOk P t z <;> simp only [hl] at h ⊢
        exact mk_mono _ _ _ _ (fun _ hu => ⟨hu.1, hm _ _ _ hu.2 (L.put_ _ r hd)⟩) h
      · exact h
    · exact h
  · rw [vcPure_congr o hc]
    exact vcPure_mono (fun v hv => hm _ _ _ hv (L.put_ _ r hd)) h
theorem vcTakeG_monoR (L : Lasts Rl ok) {K K' : Env → Option (World → Prop) → Prop} (hd : ok o.dst = true) (r : Rl e' e) (hm : ∀ e e' s, K e s → Rl e' e → K' e' s) (h : vcTakeG P ops e o w K) : vcTakeG P ops e' o w K' := by
  unfold vcTakeG at *
  split at h
  · exact vcTake_monoR L hd r hm h
  · rename_i j want hg
    split at h
    · exact h.elim
    · rename_i t ht
      split at h
      · rename_i b hb
        rw [(L.ref r).at_ _ _ hb]
        simp only
        split at h
        · rename_i hbt
          subst hbt
          rw [if_pos rfl]
          cases want <;> simp only [cond] at h ⊢
          · exact vcSkip_monoR L hd (L.know r hb) (fun _ _ _ hk r' => hm _ _ _ hk r') h
          · exact vcTake_monoR L hd (L.know r hb) hm h
        · rename_i hbt
          have hbf : b = false := by simpa using hbt
          subst hbf
          rw [if_neg (by simp)]
          cases want <;> simp only [cond] at h ⊢
          · exact vcTake_monoR L hd (L.know r hb) hm h
          · exact vcSkip_monoR L hd (L.know r hb) (fun _ _ _ hk r' => hm _ _ _ hk r') h
      · rename_i vs hb
        rw [(L.ref r).at_ _ _ hb]
        exact vcSkip_monoR L hd r (fun _ _ _ hk r' => hm _ _ _ hk r') h
      · exact h.elim
theorem vcDraw_monoR (L : Lasts Rl ok) (ha : (ops.toList.all fun (o : Oper) => ok o.dst) = true) {Q Q' : QT} (hq : ∀ x e e' w, Q x e w → Rl e' e → Q' x e' w) : ∀ (fuel : Nat) (listed : Array Bool) (S : Held) (e e' : Env) (w : World), Rl e' e → vcDraw P ops fuel listed S e w Q → vcDraw P ops fuel listed S e' w Q' := by
  have hok : ∀ (i : Nat) (o : Oper), ops[i]? = some o → ok o.dst = true := fun i o ho => List.all_eq_true.1 ha o (Array.mem_toList_iff.2 (Array.mem_of_getElem? ho))
  intro fuel
  induction fuel with
  | zero =>
    intro listed S e e' w r h
    unfold vcDraw at h ⊢
    cases hr : (Region.ready .any ops listed).isEmpty <;> simp only [hr, cond] at h ⊢
    exact hq _ _ _ _ h r
  | succ fuel ih =>
    intro listed S e e' w r h
    unfold vcDraw at h ⊢
    split at h
    · rename_i i hi
      split at h
      · rename_i o ho
        exact vcTakeG_monoR L (hok _ _ ho) r (fun _ _ _ hk r' => ih _ _ _ _ _ r' hk) h
      · exact h
    · cases hr : (Region.ready .any ops listed).isEmpty <;> simp only [hr, cond] at h ⊢
      · refine forAll_mono (fun i hi => ?_) h
        split at hi
        · rename_i o ho
          exact vcOper_monoR L (hok _ _ ho) r (fun _ _ _ hk r' => ⟨hk.1, ih _ _ _ _ _ r' hk.2⟩) (fun _ _ hp => hq _ _ _ _ hp r) hi
        · exact hi
      · exact hq _ _ _ _ h r
def okW (ok : Option Tmp → Bool) : Code → Bool
  | .region _ ops _ => ops.toList.all fun (o : Oper) => ok o.dst
  | .seq a b => okW ok a && okW ok b
  | .cond _ a b => okW ok a && okW ok b
  | .block _ b => okW ok b
  | .loop b => okW ok b
  | _ => true
theorem vcCode_monoR (L : Lasts Rl ok) : ∀ (c : Code) (p : Nat), okW ok c = true → ∀ {e e' : Env} {w : World} {Q Q' : QT}, (∀ x e e' w, Q x e w → Rl e' e → Q' x e' w) → Rl e' e → vcCode P noH c p e w Q → vcCode P noH c p e' w Q' := by
  intro c
  induction c with
  | skip => intro p _ e e' w Q Q' hq r h; exact hq _ _ _ _ h r
  | region id ops d =>
    intro p ha e e' w Q Q' hq r h
    cases d
    · exact vcOps_monoR L hq _ ha _ _ _ r h
    · simp only [vcCode, hk, noH] at h ⊢
      cases hn : Region.noSelect ops <;> simp only [hn, cond] at h ⊢
      exact vcDraw_monoR L ha hq _ _ _ _ _ _ r h
  | seq a b iha ihb =>
    intro p ha e e' w Q Q' hq r h
    simp only [okW, Bool.and_eq_true] at ha
    refine iha _ ha.1 (Q := seqQ (fun e w => vcCode P noH b (2 * p + 1) e w Q) Q) (fun x e e' w hx r' => ?_) r h
    cases x <;> first | exact ihb _ ha.2 hq r' hx | exact hq _ _ _ _ hx r'
  | cond c a b iha ihb =>
    intro p ha e e' w Q Q' hq r h
    simp only [okW, Bool.and_eq_true] at ha
    simp only [vcCode, hk, noH] at h ⊢
    split at h
    · rename_i t ht
      rw [(L.ref r).ev_ ht]
      simp only
      split at h
      · rename_i hb; rw [if_pos hb]; exact iha _ ha.1 hq r h
      · rename_i hb; rw [if_neg hb]; exact ihb _ ha.2 hq r h
    · exact h.elim
  | block id b ih =>
    intro p ha e e' w Q Q' hq r h
    refine ih _ ha (Q := blockQ id Q) (fun x e e' w hx r' => ?_) r h
    cases x <;> simp only [blockQ] at hx ⊢ <;> try exact hq _ _ _ _ hx r'
    rename_i i
    cases hb : Nat.beq i id <;> simp only [hb, cond] at hx ⊢ <;> exact hq _ _ _ _ hx r'
  | loop b ih =>
    intro p ha e e' w Q Q' hq r h
    intro X' hX'
    have key := h (fun e w => ∀ e', Rl e' e → X' e' w) (fun e w hb e' r' => hX' e' w (ih _ ha (Q := seqQ (fun e w => ∀ e', Rl e' e → X' e' w) Q) (fun x e1 e1' w1 hx r1 => by
      cases x <;> first | exact hx e1' r1 | exact hq _ _ _ _ hx r1) r' hb))
    exact key e' r
  | exit id => intro p _ e e' w Q Q' hq r h; exact hq _ _ _ _ h r
  | goto l => intro p _ e e' w Q Q' hq r h; exact hq _ _ _ _ h r
  | ret => intro p _ e e' w Q Q' hq r h; exact hq _ _ _ _ h r
  | _ => intro p _ e e' w Q Q' hq r h; exact h.elim
end
structure RefF (ks : Nat → Bool) (base : Env) (e' e : Env) : Prop where
  ref : Ref e' e
  n : e'.n = base.n
  ds : e'.ds = base.ds
  stay : ∀ t v, ks t = true → find base.l t = some v → find e'.l t = some v
def notIn (ks : Nat → Bool) (d : Option Tmp) : Bool := match d with | some d => !ks d | none => true
theorem RefF.lasts (ks : Nat → Bool) (base : Env) : Lasts (RefF ks base) (notIn ks) where
  ref := fun r => r.ref
  put_ := fun {e' e d} v r hd => ⟨r.ref.put_ d v, by cases d <;> exact r.n, by cases d <;> exact r.ds, fun t u hk hb => by
    cases d with
    | none => exact r.stay t u hk hb
    | some d =>
      simp only [put, find_cons]
      rw [if_neg (fun he => by subst he; simp [notIn, hk] at hd)]
      exact r.stay t u hk hb⟩
  know := fun {e' e t b} r hb => ⟨r.ref.put_ _ _, r.n, r.ds, fun s u hk hs => by
    simp only [put, find_cons]
    split
    · rename_i he
      subst he
      have h1 := r.stay _ _ hk hs
      rw [r.ref.at_ _ _ hb] at h1
      exact h1
    · exact r.stay s u hk hs⟩
def strip (ks : Nat → Bool) : List (Nat × Value) → List (Nat × Value)
  | [] => []
  | p :: r => cond (ks p.1) (p :: strip ks r) (strip ks r)
theorem find_strip (ks : Nat → Bool) : ∀ (l : List (Nat × Value)) (t : Nat) (v : Value), find (strip ks l) t = some v → ks t = true ∧ find l t = some v
  | [], _, _, h => by cases h
  | (d, u) :: r, t, v, h => by
    unfold strip at h
    cases hk : ks d <;> simp only [hk, cond] at h
    · obtain ⟨h1, h2⟩ := find_strip ks r t v h
      refine ⟨h1, ?_⟩
      rw [find_cons, if_neg (fun he => by subst he; rw [hk] at h1; cases h1)]
      exact h2
    · rw [find_cons] at h ⊢
      split at h
      · rename_i he; subst he; rw [if_pos rfl]; exact ⟨hk, h⟩
      · rename_i he
        rw [if_neg he]
        exact find_strip ks r t v h
theorem Ref.nil_ {e' : Env} {n : Nat} {ds : List Deferred} (hn : e'.n = n) (hd : e'.ds = ds) : Ref e' ⟨[], n, ds⟩ := ⟨hn, hd, fun _ _ h => by cases h⟩
theorem Ref.cons_ {e' : Env} {l : List (Nat × Value)} {n : Nat} {ds : List Deferred} {d : Nat} {v : Value} (h : find e'.l d = some v) (r : Ref e' ⟨l, n, ds⟩) : Ref e' ⟨(d, v) :: l, n, ds⟩ :=
  ⟨r.n, r.ds, fun t u hu => by
    rw [find_cons] at hu
    split at hu
    · rename_i he; subst he; rw [h]; exact hu
    · exact r.at_ t u hu⟩
def kindOk (z v : Value) : Bool :=
  match z, v with
  | .int k _, .int k' _ => decide (k = k')
  | .bool _, .bool _ => true
  | .string _, .string _ => true
  | .float k _, .float k' _ => decide (k = k')
  | .pointer none, .pointer _ => true
  | .pointer (some _), .pointer (some _) => true
  | .slice _ _ _, .slice _ _ _ => true
  | .func _ _ _, .func (.func _) _ _ => true
  | .map _, .map _ => true
  | .nilFunc, _ => true
  | _, _ => false
def takeAll (e : Env) : List (Nat × Value) → (List Value → Prop) → Prop
  | [], K => K []
  | p :: r, K =>
    match find e.l p.1 with
    | some v => cond (kindOk p.2 v) (takeAll e r fun l => K (v :: l)) False
    | none => False
def Stand (e : Env) : List (Nat × Value) → List Value → Prop
  | [], [] => True
  | p :: r, v :: l => find e.l p.1 = some v ∧ kindOk p.2 v = true ∧ Stand e r l
  | _, _ => False
theorem takeAll_stand {e : Env} : ∀ {ins : List (Nat × Value)} {K : List Value → Prop}, takeAll e ins K → ∃ l, Stand e ins l ∧ K l
  | [], _, h => ⟨[], trivial, h⟩
  | p :: r, K, h => by
    unfold takeAll at h
    split at h
    · rename_i v hv
      cases hk : kindOk p.2 v <;> simp only [hk, cond] at h
      obtain ⟨l, hl, hK⟩ := takeAll_stand h
      exact ⟨v :: l, ⟨hv, hk, hl⟩, hK⟩
    · exact h.elim
theorem takeAll_mono {e e' : Env} (r : Ref e' e) : ∀ {ins : List (Nat × Value)} {K : List Value → Prop}, takeAll e ins K → takeAll e' ins K
  | [], _, h => h
  | p :: rs, K, h => by
    unfold takeAll at h ⊢
    split at h
    · rename_i v hv
      rw [r.at_ _ _ hv]
      cases hk : kindOk p.2 v <;> simp only [hk, cond] at h ⊢
      exact takeAll_mono r h
    · exact h.elim
def zipE : List (Nat × Value) → List Value → List (Nat × Value)
  | p :: r, v :: l => (p.1, v) :: zipE r l
  | _, _ => []
theorem Stand.ref {e : Env} {n : Nat} {ds : List Deferred} (hn : e.n = n) (hd : e.ds = ds) : ∀ {ins : List (Nat × Value)} {l : List Value}, Stand e ins l → Ref e ⟨zipE ins l, n, ds⟩
  | [], [], _ => .nil_ hn hd
  | _ :: _, _ :: _, h => .cons_ h.1 (Stand.ref hn hd h.2.2)
def Kinds : List (Nat × Value) → List Value → Prop
  | [], [] => True
  | p :: r, v :: l => kindOk p.2 v = true ∧ Kinds r l
  | _, _ => False
theorem Stand.kinds {e : Env} : ∀ {ins : List (Nat × Value)} {l : List Value}, Stand e ins l → Kinds ins l
  | [], [], _ => trivial
  | _ :: _, _ :: _, h => ⟨h.2.1, h.2.2.kinds⟩
theorem kind_int {k : IntKind} {n : Int} {v : Value} (h : kindOk (.int k n) v = true) : ∃ x, v = .int k x := by
  cases v <;> simp [kindOk] at h
  subst h; exact ⟨_, rfl⟩
theorem kind_bool {b : Bool} {v : Value} (h : kindOk (.bool b) v = true) : ∃ x, v = .bool x := by cases v <;> simp [kindOk] at h; exact ⟨_, rfl⟩
theorem kind_string {b : ByteArray} {v : Value} (h : kindOk (.string b) v = true) : ∃ x, v = .string x := by cases v <;> simp [kindOk] at h; exact ⟨_, rfl⟩
theorem kind_pointer {v : Value} (h : kindOk (.pointer none) v = true) : ∃ x, v = .pointer x := by cases v <;> simp [kindOk] at h; exact ⟨_, rfl⟩
theorem kind_addr {a : Addr} {v : Value} (h : kindOk (.pointer (some a)) v = true) : ∃ x, v = .pointer (some x) := by
  cases v <;> simp [kindOk] at h
  rename_i p
  cases p with
  | none => simp at h
  | some x => exact ⟨x, rfl⟩
theorem kind_func {fn : Fn} {a b : Array Value} {v : Value} (h : kindOk (.func fn a b) v = true) : ∃ g fi ca, v = .func (.func g) fi ca := by
  cases v <;> simp [kindOk] at h
  rename_i f fi ca
  cases f <;> simp at h
  exact ⟨_, _, _, rfl⟩
theorem kind_slice {a : Option Addr} {l c : Nat} {v : Value} (h : kindOk (.slice a l c) v = true) : ∃ a l c, v = .slice a l c := by cases v <;> simp [kindOk] at h; exact ⟨_, _, _, rfl⟩
abbrev Conts := Exit → List Value → World → Prop
def unitQ (outs : Exit → Option (List (Nat × Value))) (C : Conts) : QT := fun x e w =>
  match outs x with
  | some o => takeAll e o fun l => C x l w
  | none => False
theorem MonoQ.unit_ {outs : Exit → Option (List (Nat × Value))} {C : Conts} : MonoQ (unitQ outs C) := by
  intro x e e' w h r
  unfold unitQ at *
  split at h
  · exact takeAll_mono r h
  · exact h.elim
def unitHook (N : Nat) (ks : Nat → Bool) (ins : List (Nat × Value)) (outs : Exit → Option (List (Nat × Value))) (F : List Value → World → Conts → Prop) : Env → World → QT → Prop := fun e w Q =>
  cond (Nat.beq e.n N && e.ds.isEmpty) (takeAll e ins fun l => F l w fun x vs w => match outs x with | some o => Q x ⟨zipE o vs ++ strip ks e.l, e.n, e.ds⟩ w | none => False) False
theorem find_append (l m : List (Nat × Value)) (t : Nat) : find (l ++ m) t = match find l t with | some v => some v | none => find m t := by
  induction l with
  | nil => rfl
  | cons p l ih =>
    rw [List.cons_append, show p = (p.1, p.2) from rfl, find_cons, find_cons]
    split
    · rfl
    · exact ih
theorem vcCode_hmono {P : Program} {H : Hook} : ∀ (c : Code) (p : Nat) {e : Env} {w : World} {Q Q' : QT}, (∀ x e w, Q x e w → Q' x e w) → HOk P H c p → vcCode P H c p e w Q → vcCode P H c p e w Q' := by
  have LE : Lasts (fun a b => a = b) (fun _ => true) := ⟨fun r => by subst r; exact Ref.refl _, fun _ r _ => by subst r; rfl, fun r _ => by subst r; rfl⟩
  intro c
  induction c with
  | seq a b iha ihb =>
    intro p e w Q Q' hq ho h
    simp only [vcCode, HOk] at h ho ⊢
    cases hp : H p with
    | some f => rw [hp] at h ho; exact ho.mono _ _ _ _ hq h
    | none =>
      rw [hp] at h ho
      exact iha _ (fun x e w hx => by cases x <;> first | exact ihb _ hq ho.2 hx | exact hq _ _ _ hx) ho.1 h
  | cond c a b iha ihb =>
    intro p e w Q Q' hq ho h
    simp only [vcCode, HOk] at h ho ⊢
    cases hp : H p with
    | some f => rw [hp] at h ho; exact ho.mono _ _ _ _ hq h
    | none =>
      rw [hp] at h ho
      simp only [hk] at h ⊢
      split at h
      · split at h
        · rename_i ht; rw [if_pos ht]; exact iha _ hq ho.1 h
        · rename_i ht; rw [if_neg ht]; exact ihb _ hq ho.2 h
      · exact h
  | block id b ih =>
    intro p e w Q Q' hq ho h
    simp only [vcCode, HOk] at h ho ⊢
    cases hp : H p with
    | some f => rw [hp] at h ho; exact ho.mono _ _ _ _ hq h
    | none =>
      rw [hp] at h ho
      refine ih _ (Q := blockQ id Q) (fun x e w hx => ?_) ho h
      cases x <;> simp only [blockQ] at hx ⊢ <;> try exact hq _ _ _ hx
      rename_i i
      cases hb : Nat.beq i id <;> simp only [hb, cond] at hx ⊢ <;> exact hq _ _ _ hx
  | loop b ih =>
    intro p e w Q Q' hq ho h
    simp only [vcCode, HOk] at h ho ⊢
    cases hp : H p with
    | some f => rw [hp] at h ho; exact ho.mono _ _ _ _ hq h
    | none =>
      rw [hp] at h ho
      simp only [hk] at h ⊢
      intro X hX
      exact h X fun e w hb => hX e w (ih _ (fun x e w hx => by cases x <;> first | exact hx | exact hq _ _ _ hx) ho hb)
  | region id ops d =>
    intro p e w Q Q' hq ho h
    simp only [HOk] at ho
    cases hp : H p with
    | some f => cases d <;> (simp only [vcCode] at h ⊢; rw [hp] at h ho ⊢; exact ho.mono _ _ _ _ hq h)
    | none =>
      cases d
      · simp only [vcCode, hp, hk] at h ⊢
        exact vcOps_monoR LE (Q := Q) (Q' := Q') (fun x e e' w hx r => by subst r; exact hq _ _ _ hx) _ (List.all_eq_true.2 fun _ _ => rfl) _ _ _ rfl h
      · simp only [vcCode, hp, hk] at h ⊢
        cases hn : Region.noSelect ops <;> simp only [hn, cond] at h ⊢
        exact vcDraw_monoR LE (List.all_eq_true.2 fun _ _ => rfl) (Q := Q) (Q' := Q') (fun x e e' w hx r => by subst r; exact hq _ _ _ hx) _ _ _ _ _ _ rfl h
  | _ =>
    intro p e w Q Q' hq ho h
    simp only [vcCode, HOk] at h ho ⊢
    cases hp : H p with
    | some f => rw [hp] at h ho; exact ho.mono _ _ _ _ hq h
    | none => rw [hp] at h; first | exact hq _ _ _ h | exact h.elim
theorem unitHook_mono {N : Nat} {ks : Nat → Bool} {ins : List (Nat × Value)} {outs : Exit → Option (List (Nat × Value))} {F : List Value → World → Conts → Prop}
    (hF : ∀ l w C C', Kinds ins l → (∀ x l w, C x l w → C' x l w) → F l w C → F l w C') : ∀ e w Q Q', (∀ x e w, Q x e w → Q' x e w) → unitHook N ks ins outs F e w Q → unitHook N ks ins outs F e w Q' := by
  intro e w Q Q' hq h
  unfold unitHook at h ⊢
  cases hc : (Nat.beq e.n N && e.ds.isEmpty) <;> simp only [hc, cond] at h ⊢
  have key : ∀ (ins : List (Nat × Value)) (G G' : List Value → Prop), (∀ l, Kinds ins l → G l → G' l) → takeAll e ins G → takeAll e ins G' := by
    intro ins
    induction ins with
    | nil => intro G G' hg h; exact hg [] trivial h
    | cons p r ih =>
      intro G G' hg h
      unfold takeAll at h ⊢
      split at h
      · rename_i v hv
        cases hk : kindOk p.2 v <;> simp only [hk, cond] at h ⊢
        exact ih _ _ (fun l hl hG => hg (v :: l) ⟨hk, hl⟩ hG) h
      · exact h
  refine key _ _ _ (fun l hl hf => hF l w _ _ hl (fun x vs w hx => ?_) hf) h
  split at hx
  · exact hq _ _ _ hx
  · exact hx
theorem unitHook_ok {P : Program} {c : Code} {p N : Nat} {ks : Nat → Bool} {ins : List (Nat × Value)} {outs : Exit → Option (List (Nat × Value))} {F : List Value → World → Conts → Prop}
    (hw : okW (notIn ks) c = true) (hF : ∀ l w C, Kinds ins l → F l w C → vcCode P noH c p ⟨zipE ins l, N, []⟩ w (unitQ outs C)) :
    ∀ e w Q, MonoQ Q → unitHook N ks ins outs F e w Q → vcCode P noH c p e w Q := by
  intro e w Q hm h
  unfold unitHook at h
  cases hc : (Nat.beq e.n N && e.ds.isEmpty) <;> simp only [hc, cond] at h
  simp only [Bool.and_eq_true] at hc
  have hn : e.n = N := Nat.eq_of_beq_eq_true hc.1
  have hd : e.ds = [] := List.isEmpty_iff.1 hc.2
  obtain ⟨l, hs, hf⟩ := takeAll_stand h
  have hv := hF l w _ hs.kinds hf
  refine vcCode_monoR (RefF.lasts ks e) c p hw (fun x e1 e1' w1 hu r => ?_) ⟨hs.ref hn hd, rfl, rfl, fun _ _ _ ht => ht⟩ hv
  unfold unitQ at hu
  split at hu
  · rename_i o ho
    obtain ⟨vs, hvs, hq⟩ := takeAll_stand hu
    simp only [ho] at hq
    refine hm _ _ _ _ hq ⟨r.n, r.ds, fun t v ht => ?_⟩
    rw [find_append] at ht
    split at ht
    · rename_i v' hv'
      injection ht with ht
      subst ht
      exact r.ref.at_ _ _ ((hvs.ref (n := e1.n) (ds := e1.ds) rfl rfl).at_ _ _ hv')
    · obtain ⟨h1, h2⟩ := find_strip ks _ _ _ ht
      exact r.stay t v h1 h2
  · exact hu.elim
theorem unit_ok {P : Program} {H : Hook} {c : Code} {p N : Nat} {ks : Nat → Bool} {ins : List (Nat × Value)} {outs : Exit → Option (List (Nat × Value))} {F : List Value → World → Conts → Prop}
    (hw : okW (notIn ks) c = true) (hH : HOk P H c p) (hF : ∀ l w C, Kinds ins l → vcCode P H c p ⟨zipE ins l, N, []⟩ w (unitQ outs C) = F l w C) : UnitOk P (unitHook N ks ins outs F) c p where
  sound := unitHook_ok hw fun l w C hk h => by
    rw [← hF l w C hk] at h
    exact vcCode_hook c p MonoQ.unit_ (fun _ _ _ h => h) hH h
  mono := unitHook_mono fun l w C C' hk hc h => by
    rw [← hF _ _ _ hk] at h ⊢
    refine vcCode_hmono c p (fun x e w hx => ?_) hH h
    unfold unitQ at hx ⊢
    split at hx
    · obtain ⟨vs, hs, hC⟩ := takeAll_stand hx
      have : ∀ (o : List (Nat × Value)) (K K' : List Value → Prop), (∀ l, K l → K' l) → takeAll e o K → takeAll e o K' := by
        intro o
        induction o with
        | nil => intro K K' hk h; exact hk _ h
        | cons q o ih =>
          intro K K' hk h
          unfold takeAll at h ⊢
          split at h
          · cases hkk : kindOk q.2 _ <;> simp only [hkk, cond] at h ⊢
            exact ih _ _ (fun l hl => hk _ hl) h
          · exact h
      exact this _ _ _ (fun l hl => hc _ _ _ hl) hx
    · exact hx
theorem loop_ok {P : Program} {id p N : Nat} {b : Code} {ks : Nat → Bool} {carr fix : List (Nat × Value)} {fv : List Value} {outs : Exit → Option (List (Nat × Value))} {C : Conts} {H : Hook}
    {B : (List Value → World → Prop) → List Value → World → Prop}
    (hw : okW (notIn ks) b = true) (hks : (fix.all fun q => ks q.1) = true)
    (hH : HOk P H b (2 * (2 * p)))
    (hB : ∀ X l w, Kinds carr l → B X l w → vcCode P H b (2 * (2 * p)) ⟨zipE carr l ++ zipE fix fv, N, []⟩ w (seqQ (fun e w => takeAll e carr fun l => X l w) (blockQ id (unitQ outs C))))
    (l0 : List Value) (w : World) (hk : Kinds carr l0) (hL : ∀ X : List Value → World → Prop, (∀ l w, Kinds carr l → B X l w → X l w) → X l0 w) :
    vcCode P noH (.block id (.loop b)) p ⟨zipE carr l0 ++ zipE fix fv, N, []⟩ w (unitQ outs C) := by
  intro X hX
  have key := hL (fun l w => Kinds carr l → ∀ e', Ref e' ⟨zipE carr l ++ zipE fix fv, N, []⟩ → X e' w) (fun l w hkl hb _ e' r => ?_) hk _ (Ref.refl _)
  · exact key
  · refine hX e' w ?_
    have h1 := hB _ l w hkl hb
    have hmq : MonoQ (seqQ (fun e w => takeAll e carr fun l => Kinds carr l → ∀ e', Ref e' ⟨zipE carr l ++ zipE fix fv, N, []⟩ → X e' w) (blockQ id (unitQ outs C))) :=
      seqQ_mono (fun _ _ _ hx r => takeAll_mono r hx) (blockQ_mono MonoQ.unit_)
    have h2 := vcCode_hook (H := H) b _ hmq (fun _ _ _ h => h) hH h1
    refine vcCode_monoR (RefF.lasts ks ⟨zipE carr l ++ zipE fix fv, N, []⟩) b _ hw (fun x e1 e1' w1 hu r1 => ?_) ⟨r, r.n, r.ds, fun t v _ ht => r.at_ t v ht⟩ h2
    cases x <;> simp only [seqQ] at hu ⊢
    case normal =>
      obtain ⟨l', hl', hx⟩ := takeAll_stand hu
      have hst : Ref e1' ⟨zipE carr l', N, []⟩ := ⟨r1.n, r1.ds, fun t v ht => r1.ref.at_ _ _ ((hl'.ref (n := e1.n) (ds := e1.ds) rfl rfl).at_ _ _ ht)⟩
      refine hx hl'.kinds e1' ⟨r1.n, r1.ds, fun t v ht => ?_⟩
      rw [find_append] at ht
      split at ht
      · rename_i v' hv'
        injection ht with ht
        subst ht
        exact hst.at_ _ _ hv'
      · -- a slot of 'fix'
        rename_i hnone
        have hfx : ks t = true := by
          have : ∀ (f : List (Nat × Value)) (u : List Value), (f.all fun q => ks q.1) = true → find (zipE f u) t = some v → ks t = true := by
            intro f
            induction f with
            | nil => intro u _ h; cases u <;> cases h
            | cons q f ih =>
              intro u ha h
              simp only [List.all_cons, Bool.and_eq_true] at ha
              cases u with
              | nil => cases h
              | cons z u =>
                simp only [zipE, find_cons] at h
                split at h
                · rename_i he; rw [← he]; exact ha.1
                · exact ih u ha.2 h
          exact this fix fv hks ht
        refine r1.stay t v hfx ?_
        rw [find_append]
        have hz : find (zipE carr l) t = none := by
          have hsame : ∀ (c : List (Nat × Value)) (u u' : List Value), Kinds c u → Kinds c u' → find (zipE c u') t = none → find (zipE c u) t = none := by
            intro c
            induction c with
            | nil => intro u u' _ _ _; cases u <;> rfl
            | cons q c ih =>
              intro u u' hu hu' h
              cases u with
              | nil => exact hu.elim
              | cons z u =>
                cases u' with
                | nil => exact hu'.elim
                | cons z' u' =>
                  simp only [zipE, find_cons] at h ⊢
                  split at h
                  · cases h
                  · rename_i he; rw [if_neg he]; exact ih u u' hu.2 hu'.2 h
          exact hsame carr l l' hkl hl'.kinds hnone
        rw [hz]
        exact ht
    all_goals exact blockQ_mono MonoQ.unit_ _ _ _ _ hu r1.ref
theorem Kinds.split_ : ∀ {a b : List (Nat × Value)} {l : List Value}, Kinds (a ++ b) l → ∃ l1 l2, l = l1 ++ l2 ∧ Kinds a l1 ∧ Kinds b l2
  | [], _, l, h => ⟨[], l, rfl, trivial, h⟩
  | _ :: a, b, [], h => h.elim
  | _ :: a, b, v :: l, h => by
    obtain ⟨l1, l2, rfl, h1, h2⟩ := Kinds.split_ h.2
    exact ⟨v :: l1, l2, rfl, ⟨h.1, h1⟩, h2⟩
theorem zipE_append : ∀ {a b : List (Nat × Value)} {l u : List Value}, Kinds a l → zipE (a ++ b) (l ++ u) = zipE a l ++ zipE b u
  | [], _, [], _, _ => rfl
  | _ :: _, _, _ :: _, _, h => by simp [zipE, zipE_append h.2]
theorem Kinds.cons_ {q : Nat × Value} {r : List (Nat × Value)} {l : List Value} (h : Kinds (q :: r) l) : ∃ v l', l = v :: l' ∧ kindOk q.2 v = true ∧ Kinds r l' := by
  cases l with
  | nil => exact h.elim
  | cons v l => exact ⟨v, l, rfl, h.1, h.2⟩
theorem Kinds.nil_ {l : List Value} (h : Kinds [] l) : l = [] := by
  cases l with
  | nil => rfl
  | cons v l => exact h.elim
theorem kC {q : Nat × Value} {r : List (Nat × Value)} {l : List Value} (h : Kinds (q :: r) l) : ∃ v l', l = v :: l' ∧ kindOk q.2 v = true ∧ Kinds r l' := Kinds.cons_ h
theorem kN {l : List Value} (h : Kinds [] l) : l = [] := Kinds.nil_ h
theorem loop_unit_ok {P : Program} {id p N : Nat} {b : Code} {ks : Nat → Bool} {carr fix : List (Nat × Value)} {outs : Exit → Option (List (Nat × Value))} {H : Hook}
    {B : Conts → (List Value → World → Prop) → List Value → List Value → World → Prop} {F : List Value → World → Conts → Prop}
    (hw : okW (notIn ks) b = true) (hks : (fix.all fun q => ks q.1) = true) (hH : HOk P H b (2 * (2 * p)))
    (hB : ∀ C X l u w, Kinds carr l → Kinds fix u → vcCode P H b (2 * (2 * p)) ⟨zipE carr l ++ zipE fix u, N, []⟩ w (seqQ (fun e w => takeAll e carr fun l => X l w) (blockQ id (unitQ outs C))) = B C X l u w)
    (hF : ∀ l u w C, Kinds carr l → Kinds fix u → (F (l ++ u) w C ↔ ∀ X : List Value → World → Prop, (∀ l w, Kinds carr l → B C X l u w → X l w) → X l w)) :
    UnitOk P (unitHook N ks (carr ++ fix) outs F) (.block id (.loop b)) p where
  sound := unitHook_ok hw fun l w C hk h => by
    obtain ⟨l1, l2, rfl, h1, h2⟩ := Kinds.split_ hk
    rw [zipE_append h1]
    exact loop_ok hw hks hH (B := fun X l w => B C X l l2 w) (fun X l w hl hb => by rw [hB C X l l2 w hl h2]; exact hb) l1 w h1 ((hF l1 l2 w C h1 h2).1 h)
  mono := unitHook_mono fun l w C C' hk hc h => by
    obtain ⟨l1, l2, rfl, h1, h2⟩ := Kinds.split_ hk
    rw [hF _ _ _ _ h1 h2] at h ⊢
    intro X hX
    refine h X fun l w hl hb => hX l w hl ?_
    rw [← hB _ _ _ _ _ hl h2] at hb ⊢
    refine vcCode_hmono b _ (fun x e w hx => ?_) hH hb
    have hu : ∀ x e w, unitQ outs C x e w → unitQ outs C' x e w := fun x e w hx => by
      unfold unitQ at hx ⊢
      split at hx
      · have : ∀ (o : List (Nat × Value)) (K K' : List Value → Prop), (∀ l, K l → K' l) → takeAll e o K → takeAll e o K' := by
          intro o
          induction o with
          | nil => intro K K' hk h; exact hk _ h
          | cons q o ih =>
            intro K K' hk h
            unfold takeAll at h ⊢
            split at h
            · cases hkk : kindOk q.2 _ <;> simp only [hkk, cond] at h ⊢
              exact ih _ _ (fun l hl => hk _ hl) h
            · exact h
        exact this _ _ _ (fun l hl => hc _ _ _ hl) hx
      · exact hx
    cases x <;> simp only [seqQ] at hx ⊢
    case normal => exact hx
    all_goals
      simp only [blockQ] at hx ⊢
      first
        | exact hu _ _ _ hx
        | (rename_i i
           cases hb : Nat.beq i id <;> simp only [hb, cond] at hx ⊢ <;> exact hu _ _ _ hx)
def hookAt : List (Nat × (Env → World → QT → Prop)) → Hook
  | [], _ => none
  | q :: r, p => cond (Nat.beq q.1 p) (some q.2) (hookAt r p)
def hokO (P : Program) (c : Code) (p : Nat) (h : Option (Env → World → QT → Prop)) (d : List Prop) : List Prop :=
  match h with
  | some h => [UnitOk P h c p]
  | none => d
def hokL (P : Program) (H : Hook) : Code → Nat → List Prop
  | .seq a b, p => hokO P (.seq a b) p (H p) (hokL P H a (2 * p) ++ hokL P H b (2 * p + 1))
  | .cond c a b, p => hokO P (.cond c a b) p (H p) (hokL P H a (2 * p) ++ hokL P H b (2 * p + 1))
  | .block id b, p => hokO P (.block id b) p (H p) (hokL P H b (2 * p))
  | .loop b, p => hokO P (.loop b) p (H p) (hokL P H b (2 * p))
  | c, p => hokO P c p (H p) []
def allP : List Prop → Prop
  | [] => True
  | a :: r => a ∧ allP r
theorem allP_append : ∀ {a b : List Prop}, allP (a ++ b) → allP a ∧ allP b
  | [], _, h => ⟨trivial, h⟩
  | _ :: _, _, h => ⟨⟨h.1, (allP_append h.2).1⟩, (allP_append h.2).2⟩
theorem HOk_of {P : Program} {H : Hook} : ∀ (c : Code) (p : Nat), allP (hokL P H c p) → HOk P H c p := by
  have leaf : ∀ (c : Code) (p : Nat) (d : List Prop) (D : Prop), (allP d → D) → allP (hokO P c p (H p) d) → hOk P c p (H p) D := by
    intro c p d D hd h
    unfold hokO at h
    unfold hOk
    cases hp : H p with
    | some f => rw [hp] at h; exact h.1
    | none => rw [hp] at h; exact hd h
  intro c
  induction c with
  | seq a b iha ihb => intro p h; exact leaf _ _ _ _ (fun hd => ⟨iha _ (allP_append hd).1, ihb _ (allP_append hd).2⟩) h
  | cond c a b iha ihb => intro p h; exact leaf _ _ _ _ (fun hd => ⟨iha _ (allP_append hd).1, ihb _ (allP_append hd).2⟩) h
  | block id b ih => intro p h; exact leaf _ _ _ _ (ih _) h
  | loop b ih => intro p h; exact leaf _ _ _ _ (ih _) h
  | _ => intro p h; exact leaf _ _ _ _ (fun _ => trivial) h
def memN (t : Nat) : List Nat → Bool
  | [] => false
  | d :: r => cond (Nat.beq d t) true (memN t r)
def at_ : Code → List Nat → Code
  | c, [] => c
  | .seq a b, q :: r => cond (Nat.beq q 0) (at_ a r) (at_ b r)
  | .cond _ a b, q :: r => cond (Nat.beq q 0) (at_ a r) (at_ b r)
  | .block _ b, _ :: r => at_ b r
  | .loop b, _ :: r => at_ b r
  | c, _ => c
def bodyOf (f : Func) : Code := f.body.getD .skip
theorem calls_of_text {P : Program} {f : FuncId} {fn : Func} {args : List Value} {w : World} {R : RT} {H : Hook} (hm : P.follows .mixedOrders = true) (hf : P.funcs[f]? = some fn) (hb : fn.body = some (bodyOf fn))
    (hs : (quietSel (bodyOf fn) && Nat.ble args.length fn.ntmps) = true) (hH : HOk P H (bodyOf fn) 1) (h : vcCode P H (bodyOf fn) 1 ⟨argEnv args 0, fn.ntmps, []⟩ w (finQ P fn.results.toList R)) : Calls P f ⟨args⟩ w R :=
  calls_of_vc hm hf hb hs (vcCode_hook _ _ MonoQ.fin (fun _ _ _ h => h) hH h)
def pInt : Value → Int | .int _ n => n | _ => 0
def pBool : Value → Bool | .bool b => b | _ => false
def pStr : Value → ByteArray | .string s => s | _ => default
def pPtr : Value → Option Addr | .pointer p => p | _ => none
def pAddr : Value → Addr | .pointer (some a) => a | _ => default
def pFn : Value → FuncId | .func (.func g) _ _ => g | _ => 0
def pFi : Value → Array Value | .func _ fi _ => fi | _ => #[]
def pCa : Value → Array Value | .func _ _ ca => ca | _ => #[]
def pan (R : RT) : XT := fun ch w => R (.panicked ch) w
def ksOf (l : List Nat) : Nat → Bool := fun t => !(memN t l)
def pA : Value → Option Addr | .slice a _ _ => a | _ => none
def pL : Value → Nat | .slice _ l _ => l | _ => 0
def pC : Value → Nat | .slice _ _ c => c | _ => 0
end Go.Vc
namespace Go.Vc
open Go
def sub (l m : Nat) : Code → Code
  | .seq a b => .seq (sub l m a) (sub l m b)
  | .cond c a b => .cond c (sub l m a) (sub l m b)
  | .block id b => .block id (sub l m b)
  | .loop b => .loop (sub l m b)
  | .goto l' => cond (Nat.beq l' l) (.exit m) (.goto l')
  | c => c
def freshC (m : Nat) : Code → Bool
  | .seq a b => freshC m a && freshC m b
  | .cond _ a b => freshC m a && freshC m b
  | .block id b => !Nat.beq id m && freshC m b
  | .loop b => freshC m b
  | _ => true
def orQ (l m : Nat) (Q : QT) : QT := fun x e w => match x with
  | .goto l' => cond (Nat.beq l' l) (Q (.exit m) e w ∨ Q (.goto l') e w) (Q (.goto l') e w)
  | x => Q x e w
theorem orQ_in {l m : Nat} {Q : QT} {x : Exit} {e : Env} {w : World} (h : Q x e w) : orQ l m Q x e w := by
  cases x <;> simp only [orQ] <;> first | exact h | (cases Nat.beq _ l <;> simp only [cond]; exact h; exact .inr h)
theorem orQ_mono {l m : Nat} {Q Q' : QT} (h : ∀ x e e' w, Q x e w → Ref e' e → Q' x e' w) : ∀ x e e' w, orQ l m Q x e w → Ref e' e → orQ l m Q' x e' w := by
  intro x e e' w hx r
  cases x <;> simp only [orQ] at hx ⊢ <;> try exact h _ _ _ _ hx r
  rename_i l'
  cases hb : Nat.beq l' l <;> simp only [hb, cond] at hx ⊢
  · exact h _ _ _ _ hx r
  · exact hx.imp (fun a => h _ _ _ _ a r) (fun a => h _ _ _ _ a r)
variable {P : Program}
theorem sub_ok {l m : Nat} : ∀ (c : Code) (p p' : Nat) {e : Env} {w : World} {Q : QT}, freshC m c = true → MonoQ Q → vcCode P noH (sub l m c) p e w Q → vcCode P noH c p' e w (orQ l m Q) := by
  intro c
  induction c with
  | skip => intro p p' e w Q _ hm h; exact orQ_in (l := l) (m := m) (x := .normal) h
  | region id ops d =>
    intro p p' e w Q _ hm h
    have h' : vcCode P noH (.region id ops d) p e w Q := h
    cases d
    · exact vcCode_mono (Q := Q) (Q' := orQ l m Q) (.region id ops false) p' (fun x e e' w hx r => orQ_in (hm _ _ _ _ hx r)) (Ref.refl _) h'
    · exact vcCode_mono (Q := Q) (Q' := orQ l m Q) (.region id ops true) p' (fun x e e' w hx r => orQ_in (hm _ _ _ _ hx r)) (Ref.refl _) h'
  | seq a b iha ihb =>
    intro p p' e w Q hf hm h
    simp only [freshC, Bool.and_eq_true] at hf
    have h' : vcCode P noH (sub l m a) (2 * p) e w (seqQ (fun e w => vcCode P noH (sub l m b) (2 * p + 1) e w Q) Q) := h
    have hmq : MonoQ (seqQ (fun e w => vcCode P noH (sub l m b) (2 * p + 1) e w Q) Q) := seqQ_mono (fun _ _ _ hk r => vcCode_mono _ _ hm r hk) hm
    have h1 := iha (2 * p) (2 * p') hf.1 hmq h'
    refine vcCode_mono a (2 * p') (fun x e e' w hx r => ?_) (Ref.refl _) h1
    cases x <;> simp only [orQ, seqQ] at hx ⊢
    case normal => exact ihb _ _ hf.2 hm (vcCode_mono _ _ hm r hx)
    case goto l' =>
      cases hb : Nat.beq l' l <;> simp only [hb, cond] at hx ⊢
      · exact hm _ _ _ _ hx r
      · exact hx.imp (fun a => hm _ _ _ _ a r) (fun a => hm _ _ _ _ a r)
    all_goals exact hm _ _ _ _ hx r
  | cond c a b iha ihb =>
    intro p p' e w Q hf hm h
    simp only [freshC, Bool.and_eq_true] at hf
    simp only [sub, vcCode, hk, noH] at h ⊢
    split at h
    · rename_i t ht
      split at h
      · rename_i htt; rw [if_pos htt]; exact iha _ _ hf.1 hm h
      · rename_i htt; rw [if_neg htt]; exact ihb _ _ hf.2 hm h
    · exact h.elim
  | block id b ih =>
    intro p p' e w Q hf hm h
    simp only [freshC, Bool.and_eq_true, Bool.not_eq_true'] at hf
    have h1 := ih (2 * p) (2 * p') hf.2 (blockQ_mono hm) h
    refine vcCode_mono b (2 * p') (fun x e e' w hx r => ?_) (Ref.refl _) h1
    cases x <;> simp only [orQ, blockQ] at hx ⊢
    case exit i =>
      cases hb : Nat.beq i id <;> simp only [hb, cond] at hx ⊢ <;> exact hm _ _ _ _ hx r
    case goto l' =>
      have hmid : Nat.beq m id = false := by
        cases hb : Nat.beq m id
        · rfl
        · rw [Nat.eq_of_beq_eq_true hb, Nat.beq_refl] at hf; cases hf.1
      cases hb : Nat.beq l' l <;> simp only [hb, hmid, cond] at hx ⊢
      · exact hm _ _ _ _ hx r
      · exact hx.imp (fun a => hm _ _ _ _ a r) (fun a => hm _ _ _ _ a r)
    all_goals exact hm _ _ _ _ hx r
  | loop b ih =>
    intro p p' e w Q hf hm h X hX
    refine h (fun e w => ∀ e', Ref e' e → X e' w) (fun e w hb e' r => hX e' w ?_) e (Ref.refl _)
    have hmq : MonoQ (seqQ (fun e w => ∀ e', Ref e' e → X e' w) Q) := seqQ_mono (fun _ _ _ hx r e'' r' => hx e'' (r'.trans r)) hm
    have h1 := ih (2 * p) (2 * p') hf hmq hb
    refine vcCode_mono b (2 * p') (fun x e e' w hx r => ?_) r h1
    cases x <;> simp only [orQ, seqQ] at hx ⊢
    case normal => exact hx _ r
    case goto l' =>
      cases hb : Nat.beq l' l <;> simp only [hb, cond] at hx ⊢
      · exact hm _ _ _ _ hx r
      · exact hx.imp (fun a => hm _ _ _ _ a r) (fun a => hm _ _ _ _ a r)
    all_goals exact hm _ _ _ _ hx r
  | exit id => intro p p' e w Q _ hm h; exact h
  | goto l' =>
    intro p p' e w Q _ hm h
    simp only [sub] at h
    show orQ l m Q (.goto l') e w
    cases hb : Nat.beq l' l <;> simp only [hb, cond, orQ] at h ⊢
    · exact h
    · exact .inl h
  | ret => intro p p' e w Q _ hm h; exact h
  | _ => intro p p' e w Q _ hm h; exact h.elim
section
variable {ops : Array Oper} {o : Oper} {e e' : Env} {w : World} {Rl : Env → Env → Prop} {ok : Option Tmp → Bool}
theorem vcOps_npR (L : Lasts Rl ok) {Q Q' : QT} (hn : ∀ e e' w, Q .normal e w → Rl e' e → Q' .normal e' w) (hpq : ∀ c e e' w, Q (.panic c) e w → Rl e' e → Q' (.panic c) e' w) : ∀ (l : List Oper), (l.all fun (o : Oper) => ok o.dst) = true → ∀ (e e' : Env) (w : World), Rl e' e → vcOps P ops l e w Q → vcOps P ops l e' w Q'
  | [], _, _, _, _, r, h => hn _ _ _ h r
  | _ :: rest, ha, _, _, _, r, h => by
    simp only [List.all_cons, Bool.and_eq_true] at ha
    exact vcOper_monoR L ha.1 r (fun _ _ _ hk r' => vcOps_npR L hn hpq rest ha.2 _ _ _ r' hk) (fun _ _ hp => hpq _ _ _ _ hp r) h
theorem vcDraw_npR (L : Lasts Rl ok) (ha : (ops.toList.all fun (o : Oper) => ok o.dst) = true) {Q Q' : QT} (hn : ∀ e e' w, Q .normal e w → Rl e' e → Q' .normal e' w) (hpq : ∀ c e e' w, Q (.panic c) e w → Rl e' e → Q' (.panic c) e' w) : ∀ (fuel : Nat) (listed : Array Bool) (S : Held) (e e' : Env) (w : World), Rl e' e → vcDraw P ops fuel listed S e w Q → vcDraw P ops fuel listed S e' w Q' := by
  have hok : ∀ (i : Nat) (o : Oper), ops[i]? = some o → ok o.dst = true := fun i o ho => List.all_eq_true.1 ha o (Array.mem_toList_iff.2 (Array.mem_of_getElem? ho))
  intro fuel
  induction fuel with
  | zero =>
    intro listed S e e' w r h
    unfold vcDraw at h ⊢
    cases hr : (Region.ready .any ops listed).isEmpty <;> simp only [hr, cond] at h ⊢
    exact hn _ _ _ h r
  | succ fuel ih =>
    intro listed S e e' w r h
    unfold vcDraw at h ⊢
    split at h
    · rename_i i hi
      split at h
      · rename_i o ho
        exact vcTakeG_monoR L (hok _ _ ho) r (fun _ _ _ hk r' => ih _ _ _ _ _ r' hk) h
      · exact h
    · cases hr : (Region.ready .any ops listed).isEmpty <;> simp only [hr, cond] at h ⊢
      · refine forAll_mono (fun i hi => ?_) h
        split at hi
        · rename_i o ho
          exact vcOper_monoR L (hok _ _ ho) r (fun _ _ _ hk r' => ⟨hk.1, ih _ _ _ _ _ r' hk.2⟩) (fun _ _ hp => hpq _ _ _ _ hp r) hi
        · exact hi
      · exact hn _ _ _ h r
end
theorem lasts_eq : Lasts (fun a b => a = b) (fun _ => true) := ⟨fun r => by subst r; exact Ref.refl _, fun _ r _ => by subst r; rfl, fun r _ => by subst r; rfl⟩
def noExit (i : Nat) : Code → Bool
  | .seq a b => noExit i a && noExit i b
  | .cond _ a b => noExit i a && noExit i b
  | .block _ b => noExit i b
  | .loop b => noExit i b
  | .exit j => !Nat.beq j i
  | _ => true
def dropQ (i : Nat) (Q : QT) : QT := fun x e w => match x with
  | .exit j => cond (Nat.beq j i) False (Q (.exit j) e w)
  | x => Q x e w
theorem dropQ_mono {i : Nat} {Q Q' : QT} (h : ∀ x e e' w, Q x e w → Ref e' e → Q' x e' w) : ∀ x e e' w, dropQ i Q x e w → Ref e' e → dropQ i Q' x e' w := by
  intro x e e' w hx r
  cases x <;> simp only [dropQ] at hx ⊢ <;> try exact h _ _ _ _ hx r
  cases hb : Nat.beq _ i <;> simp only [hb, cond] at hx ⊢
  exact h _ _ _ _ hx r
theorem drop_ok {i : Nat} : ∀ (c : Code) (p : Nat) {e : Env} {w : World} {Q : QT}, noExit i c = true → MonoQ Q → vcCode P noH c p e w Q → vcCode P noH c p e w (dropQ i Q) := by
  intro c
  induction c with
  | skip => intro p e w Q _ hm h; exact h
  | region id ops d =>
    intro p e w Q _ hm h
    cases d
    · exact vcOps_npR lasts_eq (Q := Q) (Q' := dropQ i Q) (fun e e' w h r => by subst r; exact h) (fun c e e' w h r => by subst r; exact h) _ (List.all_eq_true.2 fun _ _ => rfl) _ _ _ rfl h
    · simp only [vcCode, hk, noH] at h ⊢
      cases hn : Region.noSelect ops <;> simp only [hn, cond] at h ⊢
      exact vcDraw_npR lasts_eq (List.all_eq_true.2 fun _ _ => rfl) (Q := Q) (Q' := dropQ i Q) (fun e e' w h r => by subst r; exact h) (fun c e e' w h r => by subst r; exact h) _ _ _ _ _ _ rfl h
  | seq a b iha ihb =>
    intro p e w Q hf hm h
    simp only [noExit, Bool.and_eq_true] at hf
    have hmq : MonoQ (seqQ (fun e w => vcCode P noH b (2 * p + 1) e w Q) Q) := seqQ_mono (fun _ _ _ hk r => vcCode_mono _ _ hm r hk) hm
    have h1 := iha (2 * p) hf.1 hmq h
    refine vcCode_mono a (2 * p) (fun x e e' w hx r => ?_) (Ref.refl _) h1
    cases x <;> simp only [dropQ, seqQ] at hx ⊢
    case normal => exact ihb _ hf.2 hm (vcCode_mono _ _ hm r hx)
    case exit j =>
      cases hb : Nat.beq j i <;> simp only [hb, cond] at hx ⊢
      exact hm _ _ _ _ hx r
    all_goals exact hm _ _ _ _ hx r
  | cond c a b iha ihb =>
    intro p e w Q hf hm h
    simp only [noExit, Bool.and_eq_true] at hf
    simp only [vcCode, hk, noH] at h ⊢
    split at h
    · rename_i t ht
      split at h
      · rename_i htt; rw [if_pos htt]; exact iha _ hf.1 hm h
      · rename_i htt; rw [if_neg htt]; exact ihb _ hf.2 hm h
    · exact h.elim
  | block id b ih =>
    intro p e w Q hf hm h
    have h1 := ih (2 * p) hf (blockQ_mono hm) h
    refine vcCode_mono b (2 * p) (fun x e e' w hx r => ?_) (Ref.refl _) h1
    cases x <;> simp only [dropQ, blockQ] at hx ⊢
    case exit j =>
      cases hj : Nat.beq j i <;> simp only [hj, cond] at hx ⊢
      cases hb : Nat.beq j id <;> simp only [hb] at hx ⊢ <;> exact hm _ _ _ _ hx r
    all_goals exact hm _ _ _ _ hx r
  | loop b ih =>
    intro p e w Q hf hm h X hX
    refine h (fun e w => ∀ e', Ref e' e → X e' w) (fun e w hb e' r => hX e' w ?_) e (Ref.refl _)
    have hmq : MonoQ (seqQ (fun e w => ∀ e', Ref e' e → X e' w) Q) := seqQ_mono (fun _ _ _ hx r e'' r' => hx e'' (r'.trans r)) hm
    have h1 := ih (2 * p) hf hmq hb
    refine vcCode_mono b (2 * p) (fun x e e' w hx r => ?_) r h1
    cases x <;> simp only [dropQ, seqQ] at hx ⊢
    case normal => exact hx _ r
    case exit j =>
      cases hb : Nat.beq j i <;> simp only [hb, cond] at hx ⊢
      exact hm _ _ _ _ hx r
    all_goals exact hm _ _ _ _ hx r
  | exit j =>
    intro p e w Q hf hm h
    simp only [noExit, Bool.not_eq_true'] at hf
    show dropQ i Q (.exit j) e w
    simp only [dropQ, hf, cond]
    exact h
  | goto l => intro p e w Q _ hm h; exact h
  | ret => intro p e w Q _ hm h; exact h
  | _ => intro p e w Q _ hm h; exact h.elim
def ScopeFrom (P : Program) (c B : Code) (Q : Exit → Act → World → Prop) (a : Act) (w : World) : Prop :=
  ∀ (b : Frame) (k : List Item) (cs : List Frame), ∃ e a' w', Q e a' w' ∧ Arrives P (lone (b.at a (.code (.seq .skip B) :: .inScope c :: k)) cs w) b k cs e a' w'
def scopeQ (P : Program) (c B : Code) (l : Nat) (Q : Exit → Act → World → Prop) : Exit → Act → World → Prop
  | .goto l', a, w => l' = l ∧ ScopeFrom P c B Q a w
  | e, a, w => Q e a w
theorem scope_arrives {c B : Code} {l : Nat} {Q : Exit → Act → World → Prop} (hf : findLabel c l = some (.seq .skip B)) {x : Code} {a : Act} {w : World} (h : x.wp P (scopeQ P c B l Q) a w) (b : Frame) (k : List Item) (cs : List Frame) :
    ∃ e a' w', Q e a' w' ∧ Arrives P (lone (b.at a (.code x :: .inScope c :: k)) cs w) b k cs e a' w' := by
  have hg : gotoIn l (.inScope c :: k) = some (.code (.seq .skip B) :: .inScope c :: k) := by simp [gotoIn, hf]
  obtain ⟨e, a₁, w₁, hq, harr⟩ := h b (.inScope c :: k) cs
  cases e with
  | normal => exact ⟨.normal, a₁, w₁, hq, Steps.trans harr (.one step_inScope)⟩
  | exit id => exact ⟨.exit id, a₁, w₁, hq, fun k' hk => harr k' (by simp [exitTo, hk])⟩
  | goto l' =>
    obtain ⟨rfl, hS⟩ := hq
    obtain ⟨e₂, a₂, w₂, hq₂, harr₂⟩ := hS b k cs
    exact ⟨e₂, a₂, w₂, hq₂, .of_steps (harr _ hg) harr₂⟩
  | ret => exact ⟨_, a₁, w₁, hq, harr⟩
  | panic ch => exact ⟨_, a₁, w₁, hq, harr⟩
  | outgrown => exact ⟨_, a₁, w₁, hq, harr⟩
theorem ScopeFrom.step {c B : Code} {l : Nat} {Q : Exit → Act → World → Prop} (hf : findLabel c l = some (.seq .skip B)) {a : Act} {w : World} (h : B.wp P (scopeQ P c B l Q) a w) : ScopeFrom P c B Q a w :=
  fun b k cs => scope_arrives hf (wp_seq (wp_skip h)) b k cs
theorem wp_scope_from {c B : Code} {l : Nat} {Q : Exit → Act → World → Prop} (hf : findLabel c l = some (.seq .skip B)) {a : Act} {w : World} (h : c.wp P (scopeQ P c B l Q) a w) : (Code.scope c).wp P Q a w := by
  intro b k cs
  obtain ⟨e, a', w', hq, harr⟩ := scope_arrives hf h b k cs
  exact ⟨e, a', w', hq, .of_steps (.one step_scope) harr⟩
def lapC (l M N : Nat) (B : Code) : Code := .block N (.loop (.block M (.seq (sub l M B) (.refuse ""))))
theorem lap_sound (hm : P.follows .mixedOrders = true) {c B : Code} {l M N p : Nat} {Q : QT} {Qd : Exit → Act → World → Prop} (hf : findLabel c l = some (.seq .skip B)) (hs : quietSel B = true) (hfr : freshC M B = true) (hM : noExit M B = true) (hN : noExit N B = true)
    (hst : Still Qd) (hmq : MonoQ Q) (hng : ∀ l' e w, ¬ Q (.goto l') e w) (hq : ∀ x e w a, Q x e w → Fr a e → Qd x a w) {e : Env} {w : World} {a : Act} (fr : Fr a e)
    (h : vcCode P noH (lapC l M N B) p e w Q) : B.wp P (scopeQ P c B l Qd) a w := by
  refine h (fun e w => ∀ a, Fr a e → B.wp P (scopeQ P c B l Qd) a w) (fun e w hb a fr' => ?_) a fr
  have hX : ∀ (e e' : Env) (w : World), (∀ a, Fr a e → B.wp P (scopeQ P c B l Qd) a w) → Ref e' e → ∀ a, Fr a e' → B.wp P (scopeQ P c B l Qd) a w := fun e e' w hx r a fr => hx a (fr.ref r)
  have hm1 : MonoQ (seqQ (fun e w => ∀ a, Fr a e → B.wp P (scopeQ P c B l Qd) a w) (blockQ N Q)) := seqQ_mono (fun e e' w hx r => hX e e' w hx r) (blockQ_mono hmq)
  have hm2 : MonoQ (blockQ M (seqQ (fun e w => ∀ a, Fr a e → B.wp P (scopeQ P c B l Qd) a w) (blockQ N Q))) := blockQ_mono hm1
  have hm3 : MonoQ (seqQ (fun e w => vcCode P noH (.refuse "") 0 e w (blockQ M (seqQ (fun e w => ∀ a, Fr a e → B.wp P (scopeQ P c B l Qd) a w) (blockQ N Q)))) (blockQ M (seqQ (fun e w => ∀ a, Fr a e → B.wp P (scopeQ P c B l Qd) a w) (blockQ N Q)))) := seqQ_mono (fun _ _ _ hx _ => hx) hm2
  have h1 := sub_ok B (2 * (2 * (2 * (2 * p)))) 1 hfr hm3 hb
  have h2 := drop_ok (i := M) B 1 hM (orQ_mono hm3) h1
  have h3 := drop_ok (i := N) B 1 hN (dropQ_mono (orQ_mono hm3)) h2
  refine vcCode_sound hm B 1 hs (Qd := scopeQ P c B l Qd) (fun ch a d v w hx => hst ch a d v w hx) (fun x e w a hx fr => ?_) fr' h3
  cases x with
  | normal => exact hx.elim
  | exit j =>
    simp only [dropQ] at hx
    cases hjN : Nat.beq j N <;> simp only [hjN, cond] at hx
    cases hjM : Nat.beq j M <;> simp only [hjM] at hx
    simp only [orQ, seqQ, blockQ, hjM, hjN, cond] at hx
    exact hq _ _ _ _ hx fr
  | goto l' =>
    simp only [dropQ, orQ] at hx
    cases hl : Nat.beq l' l <;> simp only [hl, cond] at hx
    · exact absurd hx (hng l' e w)
    · rcases hx with hx | hx
      · refine ⟨Nat.eq_of_beq_eq_true hl, ScopeFrom.step hf ?_⟩
        simp only [seqQ, blockQ, Nat.beq_refl, cond] at hx
        exact hx a fr
      · exact absurd hx (hng l' e w)
  | ret => exact hq _ _ _ _ hx fr
  | panic ch => exact hq _ _ _ _ hx fr
  | outgrown => exact hq _ _ _ _ hx fr
def turnT (l M N : Nat) : Code → Code
  | .seq (.label l') b => cond (Nat.beq l' l) (lapC l M N b) (.seq (.label l') b)
  | .seq a b => .seq a (turnT l M N b)
  | c => c
def lapOf (l : Nat) : Code → Option Code
  | .seq (.label l') b => cond (Nat.beq l' l) (some b) none
  | .seq _ b => lapOf l b
  | _ => none
theorem chain_sound (hm : P.follows .mixedOrders = true) {c B : Code} {l M N : Nat} {Q : QT} {Qd : Exit → Act → World → Prop} (hf : findLabel c l = some (.seq .skip B)) (hfr : freshC M B = true) (hM : noExit M B = true) (hN : noExit N B = true) (hsB : quietSel B = true)
    (hst : Still Qd) (hmq : MonoQ Q) (hng : ∀ l' e w, ¬ Q (.goto l') e w) (hq : ∀ x e w a, Q x e w → Fr a e → Qd x a w) :
    ∀ (d : Code) (p : Nat), lapOf l d = some B → quietSel d = true → ∀ {e : Env} {w : World} {a : Act}, Fr a e → vcCode P noH (turnT l M N d) p e w Q → d.wp P (scopeQ P c B l Qd) a w := by
  have hst' : Still (scopeQ P c B l Qd) := fun ch a d v w hx => hst ch a d v w hx
  have hq' : ∀ x e w a, Q x e w → Fr a e → scopeQ P c B l Qd x a w := fun x e w a hx fr => by
    cases x <;> first | exact hq _ _ _ _ hx fr | exact absurd hx (hng _ _ _)
  intro d
  induction d with
  | seq x y _ ihy =>
    intro p hl hs e w a fr h
    simp only [quietSel, Bool.and_eq_true] at hs
    have plain : lapOf l y = some B → vcCode P noH (.seq x (turnT l M N y)) p e w Q → (Code.seq x y).wp P (scopeQ P c B l Qd) a w := fun hl h => by
      have hmq' : MonoQ (seqQ (fun e w => vcCode P noH (turnT l M N y) (2 * p + 1) e w Q) Q) := seqQ_mono (fun _ _ _ hk r => vcCode_mono _ _ hmq r hk) hmq
      refine wp_seq (vcCode_sound hm x (2 * p) hs.1 (Q := seqQ (fun e w => vcCode P noH (turnT l M N y) (2 * p + 1) e w Q) Q) hst'.then_ (fun z e w a hz fr' => ?_) fr h)
      cases z <;> first | exact ihy _ hl hs.2 fr' hz | exact hq' _ _ _ _ hz fr'
    cases x with
    | label l' =>
      simp only [lapOf, turnT] at hl h
      cases hb : Nat.beq l' l <;> simp only [hb, cond] at hl h
      · cases hl
      · injection hl with hl
        subst hl
        exact wp_seq (wp_label (lap_sound hm hf hsB hfr hM hN hst hmq hng hq fr h))
    | _ => exact plain hl h
  | _ => intro p hl; cases hl
theorem scope_turned (hm : P.follows .mixedOrders = true) {c B : Code} {l M N p : Nat} {Q : QT} {Qd : Exit → Act → World → Prop} (hf : findLabel c l = some (.seq .skip B)) (hl : lapOf l c = some B) (hs : quietSel c = true) (hsB : quietSel B = true) (hfr : freshC M B = true) (hM : noExit M B = true) (hN : noExit N B = true)
    (hst : Still Qd) (hmq : MonoQ Q) (hng : ∀ l' e w, ¬ Q (.goto l') e w) (hq : ∀ x e w a, Q x e w → Fr a e → Qd x a w) {e : Env} {w : World} {a : Act} (fr : Fr a e) (h : vcCode P noH (turnT l M N c) p e w Q) : (Code.scope c).wp P Qd a w :=
  wp_scope_from hf (chain_sound hm hf hfr hM hN hsB hst hmq hng hq c p hl hs fr h)
theorem calls_of_scope {f : FuncId} {fn : Func} {r c B : Code} {l M N : Nat} {args : List Value} {w : World} {R : RT} {H : Hook} (hm : P.follows .mixedOrders = true) (hf : P.funcs[f]? = some fn) (hb : fn.body = some (.seq r (.scope c)))
    (hfl : findLabel c l = some (.seq .skip B)) (hl : lapOf l c = some B)
    (hs : ((quietSel r && quietSel c && quietSel B) && (freshC M B && noExit M B && noExit N B) && Nat.ble args.length fn.ntmps) = true)
    (hH : HOk P H (.seq r (turnT l M N c)) 1) (hh : vcCode P H (.seq r (turnT l M N c)) 1 ⟨argEnv args 0, fn.ntmps, []⟩ w (finQ P fn.results.toList R)) : Calls P f ⟨args⟩ w R := by
  simp only [Bool.and_eq_true] at hs
  obtain ⟨⟨⟨⟨s1, s2⟩, s3⟩, ⟨⟨s4, s5⟩, s6⟩⟩, s7⟩ := hs
  have hle : args.length ≤ fn.ntmps := Nat.le_of_ble_eq_true s7
  have h := vcCode_hook (Q := finQ P fn.results.toList R) (Q' := finQ P fn.results.toList R) _ _ MonoQ.fin (fun _ _ _ h => h) hH hh
  have hst : Still (bodyPost P fn R) := fun c a d v w hh => by
    obtain ⟨hd, hR⟩ := hh
    refine ⟨?_, hR⟩
    cases d <;> exact hd
  have hq : ∀ x e w a, finQ P fn.results.toList R x e w → Fr a e → bodyPost P fn R x a w := fun x e w a hx fr => by
    have hds : a.defers = e.ds := fr.ds
    cases x <;> simp only [finQ] at hx <;> try exact hx.elim
    all_goals
      cases he : e.ds.isEmpty <;> simp only [he, cond] at hx
      have hnil : a.defers = [] := by rw [hds]; exact List.isEmpty_iff.1 he
      first
        | (obtain ⟨v, hv, hR⟩ := results_run (R := fun v => R (.returned v) w) fr hx; exact ⟨hnil, v, hv, hR⟩)
        | exact ⟨hnil, hx⟩
  have hm2 : MonoQ (seqQ (fun e w => vcCode P noH (turnT l M N c) 3 e w (finQ P fn.results.toList R)) (finQ P fn.results.toList R)) := seqQ_mono (fun _ _ _ hk r => vcCode_mono _ _ MonoQ.fin r hk) MonoQ.fin
  refine calls_of_wp hf hb (wp_seq (vcCode_sound hm r 2 s1 (Q := seqQ (fun e w => vcCode P noH (turnT l M N c) 3 e w (finQ P fn.results.toList R)) (finQ P fn.results.toList R)) hst.then_ (fun z e w a hz fr => ?_) ⟨by simp; omega, rfl, fun t v hv => ?_⟩ h))
  · cases z with
    | normal => exact scope_turned hm hfl hl s2 s3 s4 s5 s6 hst MonoQ.fin (fun _ _ _ hx => hx) hq fr hz
    | exit i => exact hq (.exit i) e w a hz fr
    | goto i => exact hq (.goto i) e w a hz fr
    | ret => exact hq .ret e w a hz fr
    | panic ch => exact hq (.panic ch) e w a hz fr
    | outgrown => exact hq .outgrown e w a hz fr
  · obtain ⟨_, h2⟩ := find_argEnv _ _ _ _ hv
    have hlt : t < args.length := (List.getElem?_eq_some_iff.1 h2).1
    simp only [Nat.sub_zero] at h2
    rw [List.getElem?_eq_getElem hlt] at h2
    injection h2 with h2
    simp [Array.getElem?_append, hlt, h2]
def rOf : Code → Code
  | .seq r _ => r
  | c => c
def cOf : Code → Code
  | .seq _ (.scope c) => c
  | c => c
def turnB (l M N : Nat) (b : Code) : Code := .seq (rOf b) (turnT l M N (cOf b))
end Go.Vc
namespace Go.Proofs.YtclinifclfahfaaGreat
open Go Go.Vc
set_option maxRecDepth 100000
set_option linter.unusedVariables false
theorem mixed : Tryz.prog.follows .mixedOrders = true := by kernel_rfl
def T_q99_1_body (X : Option Addr → Nat → Nat → Int → World → Prop) (b3a : Option Addr) (b3l b3c : Nat) (n4 : Int) (w : World) (Kn : Option Addr → Nat → Nat → Int → World → Prop) (Kp : XT)  : Prop :=
 if (decide (n4 ≥ 128)) = true then (let w5 : World := w.alloc (.cells #[.int .u8 (IntKind.wrap .u8 (IntKind.wrap .i64 ((BitVec.ofInt (IntKind.bits .i64) (IntKind.wrap .i64 ((BitVec.ofInt (IntKind.bits .i64) n4) &&& (BitVec.ofInt (IntKind.bits .i64) 127)).toNat)) ||| (BitVec.ofInt (IntKind.bits .i64) 128)).toNat))] 5)
 runV Tryz.prog (Builtin.append_ #[27, 27] 27 #[.slice b3a b3l b3c, .slice (some (⟨w.heap.size, 0, none⟩ : Addr)) 1 1]) w5 (fun r6 w7 => ∃ (s8a : Option Addr) (s8l s8c : Nat), r6 = .slice s8a s8l s8c ∧ X s8a s8l s8c (Int.fdiv n4 (2 ^ 7)) w7) Kp) else (Kn b3a b3l b3c n4 w)
def T_q80 (b3a : Option Addr) (b3l b3c : Nat) (n4 : Int) (w : World) (Kn : Option Addr → Nat → Nat → Int → World → Prop) (Kp : XT) : Prop :=
 ∀ X : Option Addr → Nat → Nat → Int → World → Prop, (∀ (b3a : Option Addr) (b3l b3c : Nat) (n4 : Int) (w : World), T_q99_1_body X b3a b3l b3c n4 w Kn Kp → X b3a b3l b3c n4 w) → X b3a b3l b3c n4 w
def T_q3j : Exit → Option (List (Nat × Value)) := fun x => match x with | .normal => some [(0, .slice none 0 0), (1, .int .i64 0)] | .panic _ => some [] | _ => none
def T_q5x : Nat → Bool := ksOf [0, 1, 5, 6, 7, 8, 9, 10, 11, 12, 13, 14, 15]
def H_q80 : Env → World → QT → Prop := unitHook 21 T_q5x [(0, .slice none 0 0), (1, .int .i64 0)] T_q3j fun l w C => match l with | [v0, v1] => T_q80 (pA v0) (pL v0) (pC v0) (pInt v1) w (fun b11a b11l b11c n12 w => C .normal [.slice b11a b11l b11c, .int .i64 n12] w) (fun ch w => C (.panic ch) [] w) | _ => False
theorem T_q80_hl : allP (hokL Tryz.prog (hookAt []) (at_ (bodyOf Tryz.f108) [1, 0, 0, 0]) 24) = (True) := by kernel_rfl
theorem T_q80_hok : HOk Tryz.prog (hookAt []) (at_ (bodyOf Tryz.f108) [1, 0, 0, 0]) 24 := HOk_of _ _ (by rw [T_q80_hl]; exact trivial)
theorem T_q80_eq (C : Conts) (X : List Value → World → Prop) (b3a : Option Addr) (b3l b3c : Nat) (n4 : Int) (w : World) : vcCode Tryz.prog (hookAt []) (at_ (bodyOf Tryz.f108) [1, 0, 0, 0]) 24 ⟨[(0, .slice b3a b3l b3c), (1, .int .i64 n4)] ++ [], 21, []⟩ w (seqQ (fun e w => takeAll e [(0, .slice none 0 0), (1, .int .i64 0)] fun l => X l w) (blockQ 0 (unitQ T_q3j C))) = T_q99_1_body (fun b3a b3l b3c n4 w => X [.slice b3a b3l b3c, .int .i64 n4] w) b3a b3l b3c n4 w (fun b13a b13l b13c n14 w => C .normal [.slice b13a b13l b13c, .int .i64 n14] w) (fun ch w => C (.panic ch) [] w) := by kernel_rfl
theorem T_q99_1_ok : UnitOk Tryz.prog H_q80 (at_ (bodyOf Tryz.f108) [1, 0]) 6 := by
 have hc : at_ (bodyOf Tryz.f108) [1, 0] = .block 0 (.loop (at_ (bodyOf Tryz.f108) [1, 0, 0, 0])) := by kernel_rfl
 rw [hc]
 refine loop_unit_ok (carr := [(0, .slice none 0 0), (1, .int .i64 0)]) (fix := []) (ks := T_q5x) (H := (hookAt [])) (B := fun C X l u w => match l, u with | [v0, v1], [] => T_q99_1_body (fun b3a b3l b3c n4 w => X [.slice b3a b3l b3c, .int .i64 n4] w) (pA v0) (pL v0) (pC v0) (pInt v1) w (fun b15a b15l b15c n16 w => C .normal [.slice b15a b15l b15c, .int .i64 n16] w) (fun ch w => C (.panic ch) [] w) | _, _ => False) (by kernel_rfl) (by kernel_rfl) T_q80_hok ?_ ?_
 ·intro C X l u w hl hu
  obtain ⟨v0, _, rfl, k_v0, hl_v0⟩ := kC hl
  obtain ⟨b3a, b3l, b3c, rfl⟩ := kind_slice k_v0
  obtain ⟨v1, _, rfl, k_v1, hl_v1⟩ := kC hl_v0
  obtain ⟨n4, rfl⟩ := kind_int k_v1
  obtain rfl := kN hl_v1
  obtain rfl := kN hu
  exact T_q80_eq C X b3a b3l b3c n4 w
 ·intro l u w C hl hu
  obtain ⟨v0, _, rfl, k_v0, hl_v0⟩ := kC hl
  obtain ⟨b3a, b3l, b3c, rfl⟩ := kind_slice k_v0
  obtain ⟨v1, _, rfl, k_v1, hl_v1⟩ := kC hl_v0
  obtain ⟨n4, rfl⟩ := kind_int k_v1
  obtain rfl := kN hl_v1
  obtain rfl := kN hu
  constructor
  ·intro h X hX
   exact h (fun b3a b3l b3c n4 w => X [.slice b3a b3l b3c, .int .i64 n4] w) (fun b3a b3l b3c n4 w hb => hX [.slice b3a b3l b3c, .int .i64 n4] w ⟨rfl, rfl, trivial⟩ hb)
  ·intro h X hX
   exact h (fun l w => match l with | [v0, v1] => X (pA v0) (pL v0) (pC v0) (pInt v1) w | _ => True) (fun l w hl hb => by
    obtain ⟨v0, _, rfl, k_v0, hl_v0⟩ := kC hl
    obtain ⟨b3a, b3l, b3c, rfl⟩ := kind_slice k_v0
    obtain ⟨v1, _, rfl, k_v1, hl_v1⟩ := kC hl_v0
    obtain ⟨n4, rfl⟩ := kind_int k_v1
    obtain rfl := kN hl_v1
    exact hX b3a b3l b3c n4 w hb)
def T_q99 (b1a : Option Addr) (b1l b1c : Nat) (n2 : Int) (w : World) (R : RT) : Prop :=
 T_q80 b1a b1l b1c n2 w (fun b17a b17l b17c n18 w19 => let w20 : World := w19.alloc (.cells #[.int .u8 (IntKind.wrap .u8 n18)] 5)
 runV Tryz.prog (Builtin.append_ #[27, 27] 27 #[.slice b17a b17l b17c, .slice (some (⟨w19.heap.size, 0, none⟩ : Addr)) 1 1]) w20 (fun r21 w22 => ∃ (s23a : Option Addr) (s23l s23c : Nat), r21 = .slice s23a s23l s23c ∧ R (.returned (.slice s23a s23l s23c)) w22) (pan R)) (pan R)
theorem T_q99_hl : allP (hokL Tryz.prog (hookAt [(6, H_q80)]) (bodyOf Tryz.f108) 1) = (UnitOk Tryz.prog H_q80 (at_ (bodyOf Tryz.f108) [1, 0]) 6 ∧ True) := by kernel_rfl
theorem T_q99_eq (b1a : Option Addr) (b1l b1c : Nat) (n2 : Int) (w : World) (R : RT) : vcCode Tryz.prog (hookAt [(6, H_q80)]) (bodyOf Tryz.f108) 1 ⟨argEnv [.slice b1a b1l b1c, .int .i64 n2] 0, Tryz.f108.ntmps, []⟩ w (finQ Tryz.prog Tryz.f108.results.toList R) = T_q99 b1a b1l b1c n2 w R := by kernel_rfl
theorem T_q99_b : Tryz.f108.body = some (bodyOf Tryz.f108) := by kernel_rfl
theorem T_q99_s : (quietSel (bodyOf Tryz.f108) && Nat.ble 2 Tryz.f108.ntmps) = true := by kernel_rfl
theorem C_q99 {b1a : Option Addr} {b1l b1c : Nat} {n2 : Int} {w : World} {R : RT} (h : T_q99 b1a b1l b1c n2 w R) : Calls Tryz.prog 108 #[.slice b1a b1l b1c, .int .i64 n2] w R :=
 calls_of_text (args := [.slice b1a b1l b1c, .int .i64 n2]) mixed Tryz.func108 T_q99_b T_q99_s (HOk_of _ _ (by rw [T_q99_hl]; exact ⟨T_q99_1_ok, trivial⟩)) (by rw [T_q99_eq]; exact h)
def T_q98 (n1 : Int) (w : World) (R : RT) : Prop :=
 if (decide (n1 < 0)) = true then (R (.returned (.tuple #[.slice none 0 0, .int .i64 2])) w) else (if (decide (n1 > 1099511627776)) = true then (R (.returned (.tuple #[.slice none 0 0, .int .i64 2])) w) else (Calls Tryz.prog 108 #[.slice none 0 0, .int .i64 n1] w (ret (fun r2 w3 => ∃ (s4a : Option Addr) (s4l s4c : Nat), r2 = .slice s4a s4l s4c ∧ R (.returned (.tuple #[.slice s4a s4l s4c, .int .i64 0])) w3) (pan R))))
theorem T_q98_hl : allP (hokL Tryz.prog (hookAt []) (bodyOf Tryz.f82) 1) = (True) := by kernel_rfl
theorem T_q98_eq (n1 : Int) (w : World) (R : RT) : vcCode Tryz.prog (hookAt []) (bodyOf Tryz.f82) 1 ⟨argEnv [.int .i64 n1] 0, Tryz.f82.ntmps, []⟩ w (finQ Tryz.prog Tryz.f82.results.toList R) = T_q98 n1 w R := by kernel_rfl
theorem T_q98_b : Tryz.f82.body = some (bodyOf Tryz.f82) := by kernel_rfl
theorem T_q98_s : (quietSel (bodyOf Tryz.f82) && Nat.ble 1 Tryz.f82.ntmps) = true := by kernel_rfl
theorem C_q98 {n1 : Int} {w : World} {R : RT} (h : T_q98 n1 w R) : Calls Tryz.prog 82 #[.int .i64 n1] w R :=
 calls_of_text (args := [.int .i64 n1]) mixed Tryz.func82 T_q98_b T_q98_s (HOk_of _ _ (by rw [T_q98_hl]; exact trivial)) (by rw [T_q98_eq]; exact h)
def T_q75 (n2 : Int) (w : World) (Kn : Bool → World → Prop) (Kp : XT) : Prop :=
 if (decide (n2 < 0)) = true then (Kn true w) else (Kn (decide (n2 > 1099511627776)) w)
def T_q2n : Exit → Option (List (Nat × Value)) := fun x => match x with | .normal => some [(11, .bool false)] | .panic _ => some [] | _ => none
def T_q4b : Nat → Bool := ksOf [6, 7, 8, 9, 10, 11]
def H_q75 : Env → World → QT → Prop := unitHook 30 T_q4b [(0, .int .i64 0)] T_q2n fun l w C => match l with | [v0] => T_q75 (pInt v0) w (fun b4 w => C .normal [.bool b4] w) (fun ch w => C (.panic ch) [] w) | _ => False
theorem T_q75_hl : allP (hokL Tryz.prog (hookAt []) (at_ (bodyOf Tryz.f88) [1, 0, 0]) 12) = (True) := by kernel_rfl
theorem T_q75_hok : HOk Tryz.prog (hookAt []) (at_ (bodyOf Tryz.f88) [1, 0, 0]) 12 := HOk_of _ _ (by rw [T_q75_hl]; exact trivial)
theorem T_q75_eq (C : Conts) (n2 : Int) (w : World) : vcCode Tryz.prog (hookAt []) (at_ (bodyOf Tryz.f88) [1, 0, 0]) 12 ⟨[(0, .int .i64 n2)], 30, []⟩ w (unitQ T_q2n C) = T_q75 n2 w (fun b5 w => C .normal [.bool b5] w) (fun ch w => C (.panic ch) [] w) := by kernel_rfl
theorem T_q8b_1_ok : UnitOk Tryz.prog H_q75 (at_ (bodyOf Tryz.f88) [1, 0, 0]) 12 := unit_ok (H := (hookAt [])) (by kernel_rfl) T_q75_hok fun l w C hk => by
  obtain ⟨v0, _, rfl, k_v0, hk_v0⟩ := kC hk
  obtain ⟨n2, rfl⟩ := kind_int k_v0
  obtain rfl := kN hk_v0
  exact T_q75_eq C n2 w
def T_q8b_2_body (X : Int → Option Addr → Nat → Nat → World → Prop) (n9 : Int) (out10a : Option Addr) (out10l out10c : Nat) (w : World) (Kr : Option Addr → Nat → Nat → Int → World → Prop) (Kp : XT)  : Prop :=
 if ((IntKind.wrap .i64 (Int.tdiv n9 128) : Int) == 0) = true then (let w11 : World := w.alloc (.cells #[.int .u8 (IntKind.wrap .u8 (Int.tmod n9 128))] 5)
 runV Tryz.prog (Builtin.append_ #[27, 27] 27 #[.slice out10a out10l out10c, .slice (some (⟨w.heap.size, 0, none⟩ : Addr)) 1 1]) w11 (fun r12 w13 => ∃ (s14a : Option Addr) (s14l s14c : Nat), r12 = .slice s14a s14l s14c ∧ Kr s14a s14l s14c 0 w13) Kp) else (let w15 : World := w.alloc (.cells #[.int .u8 (IntKind.wrap .u8 (IntKind.wrap .i64 ((Int.tmod n9 128 : Int) + 128)))] 5)
 runV Tryz.prog (Builtin.append_ #[27, 27] 27 #[.slice out10a out10l out10c, .slice (some (⟨w.heap.size, 0, none⟩ : Addr)) 1 1]) w15 (fun r16 w17 => ∃ (s18a : Option Addr) (s18l s18c : Nat), r16 = .slice s18a s18l s18c ∧ X (IntKind.wrap .i64 (Int.tdiv n9 128)) s18a s18l s18c w17) Kp)
def T_q76 (n9 : Int) (out10a : Option Addr) (out10l out10c : Nat) (w : World) (Kr : Option Addr → Nat → Nat → Int → World → Prop) (Kp : XT) : Prop :=
 ∀ X : Int → Option Addr → Nat → Nat → World → Prop, (∀ (n9 : Int) (out10a : Option Addr) (out10l out10c : Nat) (w : World), T_q8b_2_body X n9 out10a out10l out10c w Kr Kp → X n9 out10a out10l out10c w) → X n9 out10a out10l out10c w
def T_q2o : Exit → Option (List (Nat × Value)) := fun x => match x with | .ret => some [(2, .slice none 0 0), (3, .int .i64 0)] | .panic _ => some [] | _ => none
def T_q4c : Nat → Bool := ksOf [0, 2, 3, 4, 5, 13, 14, 15, 16, 17, 18, 19, 20, 21, 22, 23, 24, 25, 26, 27, 28, 29]
def H_q76 : Env → World → QT → Prop := unitHook 30 T_q4c [(0, .int .i64 0), (4, .slice none 0 0)] T_q2o fun l w C => match l with | [v0, v1] => T_q76 (pInt v0) (pA v1) (pL v1) (pC v1) w (fun s21a s21l s21c x22 w => C .ret [.slice s21a s21l s21c, .int .i64 x22] w) (fun ch w => C (.panic ch) [] w) | _ => False
theorem T_q76_hl : allP (hokL Tryz.prog (hookAt []) (at_ (bodyOf Tryz.f88) [1, 1, 1, 0, 0]) 60) = (True) := by kernel_rfl
theorem T_q76_hok : HOk Tryz.prog (hookAt []) (at_ (bodyOf Tryz.f88) [1, 1, 1, 0, 0]) 60 := HOk_of _ _ (by rw [T_q76_hl]; exact trivial)
theorem T_q76_eq (C : Conts) (X : List Value → World → Prop) (n9 : Int) (out10a : Option Addr) (out10l out10c : Nat) (w : World) : vcCode Tryz.prog (hookAt []) (at_ (bodyOf Tryz.f88) [1, 1, 1, 0, 0]) 60 ⟨[(0, .int .i64 n9), (4, .slice out10a out10l out10c)] ++ [], 30, []⟩ w (seqQ (fun e w => takeAll e [(0, .int .i64 0), (4, .slice none 0 0)] fun l => X l w) (blockQ 0 (unitQ T_q2o C))) = T_q8b_2_body (fun n9 out10a out10l out10c w => X [.int .i64 n9, .slice out10a out10l out10c] w) n9 out10a out10l out10c w (fun s23a s23l s23c x24 w => C .ret [.slice s23a s23l s23c, .int .i64 x24] w) (fun ch w => C (.panic ch) [] w) := by kernel_rfl
theorem T_q8b_2_ok : UnitOk Tryz.prog H_q76 (at_ (bodyOf Tryz.f88) [1, 1, 1]) 15 := by
 have hc : at_ (bodyOf Tryz.f88) [1, 1, 1] = .block 0 (.loop (at_ (bodyOf Tryz.f88) [1, 1, 1, 0, 0])) := by kernel_rfl
 rw [hc]
 refine loop_unit_ok (carr := [(0, .int .i64 0), (4, .slice none 0 0)]) (fix := []) (ks := T_q4c) (H := (hookAt [])) (B := fun C X l u w => match l, u with | [v0, v1], [] => T_q8b_2_body (fun n9 out10a out10l out10c w => X [.int .i64 n9, .slice out10a out10l out10c] w) (pInt v0) (pA v1) (pL v1) (pC v1) w (fun s25a s25l s25c x26 w => C .ret [.slice s25a s25l s25c, .int .i64 x26] w) (fun ch w => C (.panic ch) [] w) | _, _ => False) (by kernel_rfl) (by kernel_rfl) T_q76_hok ?_ ?_
 ·intro C X l u w hl hu
  obtain ⟨v0, _, rfl, k_v0, hl_v0⟩ := kC hl
  obtain ⟨n9, rfl⟩ := kind_int k_v0
  obtain ⟨v1, _, rfl, k_v1, hl_v1⟩ := kC hl_v0
  obtain ⟨out10a, out10l, out10c, rfl⟩ := kind_slice k_v1
  obtain rfl := kN hl_v1
  obtain rfl := kN hu
  exact T_q76_eq C X n9 out10a out10l out10c w
 ·intro l u w C hl hu
  obtain ⟨v0, _, rfl, k_v0, hl_v0⟩ := kC hl
  obtain ⟨n9, rfl⟩ := kind_int k_v0
  obtain ⟨v1, _, rfl, k_v1, hl_v1⟩ := kC hl_v0
  obtain ⟨out10a, out10l, out10c, rfl⟩ := kind_slice k_v1
  obtain rfl := kN hl_v1
  obtain rfl := kN hu
  constructor
  ·intro h X hX
   exact h (fun n9 out10a out10l out10c w => X [.int .i64 n9, .slice out10a out10l out10c] w) (fun n9 out10a out10l out10c w hb => hX [.int .i64 n9, .slice out10a out10l out10c] w ⟨rfl, rfl, trivial⟩ hb)
  ·intro h X hX
   exact h (fun l w => match l with | [v0, v1] => X (pInt v0) (pA v1) (pL v1) (pC v1) w | _ => True) (fun l w hl hb => by
    obtain ⟨v0, _, rfl, k_v0, hl_v0⟩ := kC hl
    obtain ⟨n9, rfl⟩ := kind_int k_v0
    obtain ⟨v1, _, rfl, k_v1, hl_v1⟩ := kC hl_v0
    obtain ⟨out10a, out10l, out10c, rfl⟩ := kind_slice k_v1
    obtain rfl := kN hl_v1
    exact hX n9 out10a out10l out10c w hb)
def T_q8b (n1 : Int) (w : World) (R : RT) : Prop :=
 T_q75 n1 w (fun b6 w7 => if b6 = true then (R (.returned (.tuple #[.slice none 0 0, .int .i64 2])) w7) else (let w8 : World := w7.alloc (.cells #[] 5)
 T_q76 n1 (some (⟨w7.heap.size, 0, none⟩ : Addr)) 0 0 w8 (fun s27a s27l s27c x28 w29 => R (.returned (.tuple #[.slice s27a s27l s27c, .int .i64 x28])) w29) (pan R))) (pan R)
theorem T_q8b_hl : allP (hokL Tryz.prog (hookAt [(12, H_q75), (15, H_q76)]) (bodyOf Tryz.f88) 1) = (UnitOk Tryz.prog H_q75 (at_ (bodyOf Tryz.f88) [1, 0, 0]) 12 ∧ UnitOk Tryz.prog H_q76 (at_ (bodyOf Tryz.f88) [1, 1, 1]) 15 ∧ True) := by kernel_rfl
theorem T_q8b_eq (n1 : Int) (w : World) (R : RT) : vcCode Tryz.prog (hookAt [(12, H_q75), (15, H_q76)]) (bodyOf Tryz.f88) 1 ⟨argEnv [.int .i64 n1] 0, Tryz.f88.ntmps, []⟩ w (finQ Tryz.prog Tryz.f88.results.toList R) = T_q8b n1 w R := by kernel_rfl
theorem T_q8b_b : Tryz.f88.body = some (bodyOf Tryz.f88) := by kernel_rfl
theorem T_q8b_s : (quietSel (bodyOf Tryz.f88) && Nat.ble 1 Tryz.f88.ntmps) = true := by kernel_rfl
theorem C_q8b {n1 : Int} {w : World} {R : RT} (h : T_q8b n1 w R) : Calls Tryz.prog 88 #[.int .i64 n1] w R :=
 calls_of_text (args := [.int .i64 n1]) mixed Tryz.func88 T_q8b_b T_q8b_s (HOk_of _ _ (by rw [T_q8b_hl]; exact ⟨T_q8b_1_ok, T_q8b_2_ok, trivial⟩)) (by rw [T_q8b_eq]; exact h)
def T_q9t_1_body (X : Int → World → Prop) (x3 : Int) (b4a : Option Addr) (b4l b4c : Nat) (n5 : Int) (w : World) (Kn : World → Prop) (Kp : XT)  : Prop :=
 if (decide (x3 < 4)) = true then (runV Tryz.prog (do eqGuard .shr 82 (.tmp 10) (.tmp 13) (.int .u32 n5) (.int .i64 (IntKind.wrap .i64 ((24 : Int) - (IntKind.wrap .i64 ((8 : Int) * x3))))); binOp .shr 82 (.int .u32 n5) (.int .i64 (IntKind.wrap .i64 ((24 : Int) - (IntKind.wrap .i64 ((8 : Int) * x3)))))) w (fun r6 w7 => ∃ x8 : Int, r6 = .int .u32 x8 ∧ 0 ≤ x3 ∧ x3 < ((b4l : Nat) : Int) ∧ ∃ b9, b4a = some b9 ∧ (.int .u8 (IntKind.wrap .u8 x8) : Value).cells.size = 1 ∧ wrOk w7 (b9.add (x3.toNat * 1)) (.int .u8 (IntKind.wrap .u8 x8)) ∧ let w10 : World := wr w7 (b9.add (x3.toNat * 1)) (.int .u8 (IntKind.wrap .u8 x8))
 X (IntKind.wrap .i64 (x3 + 1)) w10) Kp) else (Kn  w)
def T_q8p (x3 : Int) (b4a : Option Addr) (b4l b4c : Nat) (n5 : Int) (w : World) (Kn : World → Prop) (Kp : XT) : Prop :=
 ∀ X : Int → World → Prop, (∀ (x3 : Int) (w : World), T_q9t_1_body X x3 b4a b4l b4c n5 w Kn Kp → X x3 w) → X x3 w
def T_q51 : Exit → Option (List (Nat × Value)) := fun x => match x with | .normal => some [] | .panic _ => some [] | _ => none
def T_q70 : Nat → Bool := ksOf [4, 5, 6, 7, 8, 9, 10, 11, 12, 13, 14, 15, 16, 17]
def H_q8p : Env → World → QT → Prop := unitHook 18 T_q70 [(5, .int .i64 0), (0, .slice none 0 0), (1, .int .u32 0)] T_q51 fun l w C => match l with | [v0, v1, v2] => T_q8p (pInt v0) (pA v1) (pL v1) (pC v1) (pInt v2) w (fun w => C .normal [] w) (fun ch w => C (.panic ch) [] w) | _ => False
theorem T_q8p_hl : allP (hokL Tryz.prog (hookAt []) (at_ (bodyOf Tryz.f83) [1, 0, 0]) 12) = (True) := by kernel_rfl
theorem T_q8p_hok : HOk Tryz.prog (hookAt []) (at_ (bodyOf Tryz.f83) [1, 0, 0]) 12 := HOk_of _ _ (by rw [T_q8p_hl]; exact trivial)
theorem T_q8p_eq (C : Conts) (X : List Value → World → Prop) (x3 : Int) (b4a : Option Addr) (b4l b4c : Nat) (n5 : Int) (w : World) : vcCode Tryz.prog (hookAt []) (at_ (bodyOf Tryz.f83) [1, 0, 0]) 12 ⟨[(5, .int .i64 x3)] ++ [(0, .slice b4a b4l b4c), (1, .int .u32 n5)], 18, []⟩ w (seqQ (fun e w => takeAll e [(5, .int .i64 0)] fun l => X l w) (blockQ 0 (unitQ T_q51 C))) = T_q9t_1_body (fun x3 w => X [.int .i64 x3] w) x3 b4a b4l b4c n5 w (fun w => C .normal [] w) (fun ch w => C (.panic ch) [] w) := by kernel_rfl
theorem T_q9t_1_ok : UnitOk Tryz.prog H_q8p (at_ (bodyOf Tryz.f83) [1]) 3 := by
 have hc : at_ (bodyOf Tryz.f83) [1] = .block 0 (.loop (at_ (bodyOf Tryz.f83) [1, 0, 0])) := by kernel_rfl
 rw [hc]
 refine loop_unit_ok (carr := [(5, .int .i64 0)]) (fix := [(0, .slice none 0 0), (1, .int .u32 0)]) (ks := T_q70) (H := (hookAt [])) (B := fun C X l u w => match l, u with | [v0], [v1, v2] => T_q9t_1_body (fun x3 w => X [.int .i64 x3] w) (pInt v0) (pA v1) (pL v1) (pC v1) (pInt v2) w (fun w => C .normal [] w) (fun ch w => C (.panic ch) [] w) | _, _ => False) (by kernel_rfl) (by kernel_rfl) T_q8p_hok ?_ ?_
 ·intro C X l u w hl hu
  obtain ⟨v0, _, rfl, k_v0, hl_v0⟩ := kC hl
  obtain ⟨x3, rfl⟩ := kind_int k_v0
  obtain rfl := kN hl_v0
  obtain ⟨v1, _, rfl, k_v1, hu_v1⟩ := kC hu
  obtain ⟨b4a, b4l, b4c, rfl⟩ := kind_slice k_v1
  obtain ⟨v2, _, rfl, k_v2, hu_v2⟩ := kC hu_v1
  obtain ⟨n5, rfl⟩ := kind_int k_v2
  obtain rfl := kN hu_v2
  exact T_q8p_eq C X x3 b4a b4l b4c n5 w
 ·intro l u w C hl hu
  obtain ⟨v0, _, rfl, k_v0, hl_v0⟩ := kC hl
  obtain ⟨x3, rfl⟩ := kind_int k_v0
  obtain rfl := kN hl_v0
  obtain ⟨v1, _, rfl, k_v1, hu_v1⟩ := kC hu
  obtain ⟨b4a, b4l, b4c, rfl⟩ := kind_slice k_v1
  obtain ⟨v2, _, rfl, k_v2, hu_v2⟩ := kC hu_v1
  obtain ⟨n5, rfl⟩ := kind_int k_v2
  obtain rfl := kN hu_v2
  constructor
  ·intro h X hX
   exact h (fun x3 w => X [.int .i64 x3] w) (fun x3 w hb => hX [.int .i64 x3] w ⟨rfl, trivial⟩ hb)
  ·intro h X hX
   exact h (fun l w => match l with | [v0] => X (pInt v0) w | _ => True) (fun l w hl hb => by
    obtain ⟨v0, _, rfl, k_v0, hl_v0⟩ := kC hl
    obtain ⟨x3, rfl⟩ := kind_int k_v0
    obtain rfl := kN hl_v0
    exact hX x3 w hb)
def T_q9t (b1a : Option Addr) (b1l b1c : Nat) (n2 : Int) (w : World) (R : RT) : Prop :=
 T_q8p 0 b1a b1l b1c n2 w (fun w11 => R (.returned (.tuple #[])) w11) (pan R)
theorem T_q9t_hl : allP (hokL Tryz.prog (hookAt [(3, H_q8p)]) (bodyOf Tryz.f83) 1) = (UnitOk Tryz.prog H_q8p (at_ (bodyOf Tryz.f83) [1]) 3 ∧ True) := by kernel_rfl
theorem T_q9t_eq (b1a : Option Addr) (b1l b1c : Nat) (n2 : Int) (w : World) (R : RT) : vcCode Tryz.prog (hookAt [(3, H_q8p)]) (bodyOf Tryz.f83) 1 ⟨argEnv [.slice b1a b1l b1c, .int .u32 n2] 0, Tryz.f83.ntmps, []⟩ w (finQ Tryz.prog Tryz.f83.results.toList R) = T_q9t b1a b1l b1c n2 w R := by kernel_rfl
theorem T_q9t_b : Tryz.f83.body = some (bodyOf Tryz.f83) := by kernel_rfl
theorem T_q9t_s : (quietSel (bodyOf Tryz.f83) && Nat.ble 2 Tryz.f83.ntmps) = true := by kernel_rfl
theorem C_q9t {b1a : Option Addr} {b1l b1c : Nat} {n2 : Int} {w : World} {R : RT} (h : T_q9t b1a b1l b1c n2 w R) : Calls Tryz.prog 83 #[.slice b1a b1l b1c, .int .u32 n2] w R :=
 calls_of_text (args := [.slice b1a b1l b1c, .int .u32 n2]) mixed Tryz.func83 T_q9t_b T_q9t_s (HOk_of _ _ (by rw [T_q9t_hl]; exact ⟨T_q9t_1_ok, trivial⟩)) (by rw [T_q9t_eq]; exact h)
def T_q9s_1_body (X : Int → Int → World → Prop) (n2 x3 : Int) (s4a : Option Addr) (s4l s4c : Nat) (x5 : Int) (w : World) (Kn : Int → World → Prop) (Kp : XT)  : Prop :=
 if (decide (x3 < x5)) = true then (0 ≤ x3 ∧ x3 < ((s4l : Nat) : Int) ∧ ∃ b6, s4a = some b6 ∧ ∃ x7 : Int, rd w (b6.add (x3.toNat * 1)) (.int .u8 x7) ∧ X (IntKind.wrap .u32 ((BitVec.ofInt (IntKind.bits .u32) (IntKind.wrap .u32 (n2 * 2 ^ 8))) ||| (BitVec.ofInt (IntKind.bits .u32) (IntKind.wrap .u32 x7))).toNat) (IntKind.wrap .i64 (x3 + 1)) w) else (Kn n2 w)
def T_q8o (n2 x3 : Int) (s4a : Option Addr) (s4l s4c : Nat) (x5 : Int) (w : World) (Kn : Int → World → Prop) (Kp : XT) : Prop :=
 ∀ X : Int → Int → World → Prop, (∀ (n2 x3 : Int) (w : World), T_q9s_1_body X n2 x3 s4a s4l s4c x5 w Kn Kp → X n2 x3 w) → X n2 x3 w
def T_q50 : Exit → Option (List (Nat × Value)) := fun x => match x with | .normal => some [(3, .int .u32 0)] | .panic _ => some [] | _ => none
def T_q6z : Nat → Bool := ksOf [3, 5, 9, 10, 11, 12, 13, 14, 15, 16, 17, 18]
def H_q8o : Env → World → QT → Prop := unitHook 20 T_q6z [(3, .int .u32 0), (9, .int .i64 0), (7, .slice none 0 0), (8, .int .i64 0)] T_q50 fun l w C => match l with | [v0, v1, v2, v3] => T_q8o (pInt v0) (pInt v1) (pA v2) (pL v2) (pC v2) (pInt v3) w (fun n9 w => C .normal [.int .u32 n9] w) (fun ch w => C (.panic ch) [] w) | _ => False
theorem T_q8o_hl : allP (hokL Tryz.prog (hookAt []) (at_ (bodyOf Tryz.f90) [1, 1, 0, 1, 0, 0]) 116) = (True) := by kernel_rfl
theorem T_q8o_hok : HOk Tryz.prog (hookAt []) (at_ (bodyOf Tryz.f90) [1, 1, 0, 1, 0, 0]) 116 := HOk_of _ _ (by rw [T_q8o_hl]; exact trivial)
theorem T_q8o_eq (C : Conts) (X : List Value → World → Prop) (n2 x3 : Int) (s4a : Option Addr) (s4l s4c : Nat) (x5 : Int) (w : World) : vcCode Tryz.prog (hookAt []) (at_ (bodyOf Tryz.f90) [1, 1, 0, 1, 0, 0]) 116 ⟨[(3, .int .u32 n2), (9, .int .i64 x3)] ++ [(7, .slice s4a s4l s4c), (8, .int .i64 x5)], 20, []⟩ w (seqQ (fun e w => takeAll e [(3, .int .u32 0), (9, .int .i64 0)] fun l => X l w) (blockQ 0 (unitQ T_q50 C))) = T_q9s_1_body (fun n2 x3 w => X [.int .u32 n2, .int .i64 x3] w) n2 x3 s4a s4l s4c x5 w (fun n10 w => C .normal [.int .u32 n10] w) (fun ch w => C (.panic ch) [] w) := by kernel_rfl
theorem T_q9s_1_ok : UnitOk Tryz.prog H_q8o (at_ (bodyOf Tryz.f90) [1, 1, 0, 1]) 29 := by
 have hc : at_ (bodyOf Tryz.f90) [1, 1, 0, 1] = .block 0 (.loop (at_ (bodyOf Tryz.f90) [1, 1, 0, 1, 0, 0])) := by kernel_rfl
 rw [hc]
 refine loop_unit_ok (carr := [(3, .int .u32 0), (9, .int .i64 0)]) (fix := [(7, .slice none 0 0), (8, .int .i64 0)]) (ks := T_q6z) (H := (hookAt [])) (B := fun C X l u w => match l, u with | [v0, v1], [v2, v3] => T_q9s_1_body (fun n2 x3 w => X [.int .u32 n2, .int .i64 x3] w) (pInt v0) (pInt v1) (pA v2) (pL v2) (pC v2) (pInt v3) w (fun n11 w => C .normal [.int .u32 n11] w) (fun ch w => C (.panic ch) [] w) | _, _ => False) (by kernel_rfl) (by kernel_rfl) T_q8o_hok ?_ ?_
 ·intro C X l u w hl hu
  obtain ⟨v0, _, rfl, k_v0, hl_v0⟩ := kC hl
  obtain ⟨n2, rfl⟩ := kind_int k_v0
  obtain ⟨v1, _, rfl, k_v1, hl_v1⟩ := kC hl_v0
  obtain ⟨x3, rfl⟩ := kind_int k_v1
  obtain rfl := kN hl_v1
  obtain ⟨v2, _, rfl, k_v2, hu_v2⟩ := kC hu
  obtain ⟨s4a, s4l, s4c, rfl⟩ := kind_slice k_v2
  obtain ⟨v3, _, rfl, k_v3, hu_v3⟩ := kC hu_v2
  obtain ⟨x5, rfl⟩ := kind_int k_v3
  obtain rfl := kN hu_v3
  exact T_q8o_eq C X n2 x3 s4a s4l s4c x5 w
 ·intro l u w C hl hu
  obtain ⟨v0, _, rfl, k_v0, hl_v0⟩ := kC hl
  obtain ⟨n2, rfl⟩ := kind_int k_v0
  obtain ⟨v1, _, rfl, k_v1, hl_v1⟩ := kC hl_v0
  obtain ⟨x3, rfl⟩ := kind_int k_v1
  obtain rfl := kN hl_v1
  obtain ⟨v2, _, rfl, k_v2, hu_v2⟩ := kC hu
  obtain ⟨s4a, s4l, s4c, rfl⟩ := kind_slice k_v2
  obtain ⟨v3, _, rfl, k_v3, hu_v3⟩ := kC hu_v2
  obtain ⟨x5, rfl⟩ := kind_int k_v3
  obtain rfl := kN hu_v3
  constructor
  ·intro h X hX
   exact h (fun n2 x3 w => X [.int .u32 n2, .int .i64 x3] w) (fun n2 x3 w hb => hX [.int .u32 n2, .int .i64 x3] w ⟨rfl, rfl, trivial⟩ hb)
  ·intro h X hX
   exact h (fun l w => match l with | [v0, v1] => X (pInt v0) (pInt v1) w | _ => True) (fun l w hl hb => by
    obtain ⟨v0, _, rfl, k_v0, hl_v0⟩ := kC hl
    obtain ⟨n2, rfl⟩ := kind_int k_v0
    obtain ⟨v1, _, rfl, k_v1, hl_v1⟩ := kC hl_v0
    obtain ⟨x3, rfl⟩ := kind_int k_v1
    obtain rfl := kN hl_v1
    exact hX n2 x3 w hb)
def T_q9s (b1a : Option Addr) (b1l b1c : Nat) (w : World) (R : RT) : Prop :=
 0 ≤ (4 : Int) ∧ (4 : Int) ≤ ((b1c : Nat) : Int) ∧ T_q8o 0 0 (if b1c = 0 then b1a else b1a.map (fun x => x.add (0 * 1))) (((4 : Int).toNat) - 0) (b1c - 0) ((((4 : Int).toNat) - 0 : Nat) : Int) w (fun n12 w13 => R (.returned (.int .u32 n12)) w13) (pan R)
theorem T_q9s_hl : allP (hokL Tryz.prog (hookAt [(29, H_q8o)]) (bodyOf Tryz.f90) 1) = (UnitOk Tryz.prog H_q8o (at_ (bodyOf Tryz.f90) [1, 1, 0, 1]) 29 ∧ True) := by kernel_rfl
theorem T_q9s_eq (b1a : Option Addr) (b1l b1c : Nat) (w : World) (R : RT) : vcCode Tryz.prog (hookAt [(29, H_q8o)]) (bodyOf Tryz.f90) 1 ⟨argEnv [.slice b1a b1l b1c] 0, Tryz.f90.ntmps, []⟩ w (finQ Tryz.prog Tryz.f90.results.toList R) = T_q9s b1a b1l b1c w R := by kernel_rfl
theorem T_q9s_b : Tryz.f90.body = some (bodyOf Tryz.f90) := by kernel_rfl
theorem T_q9s_s : (quietSel (bodyOf Tryz.f90) && Nat.ble 1 Tryz.f90.ntmps) = true := by kernel_rfl
theorem C_q9s {b1a : Option Addr} {b1l b1c : Nat} {w : World} {R : RT} (h : T_q9s b1a b1l b1c w R) : Calls Tryz.prog 90 #[.slice b1a b1l b1c] w R :=
 calls_of_text (args := [.slice b1a b1l b1c]) mixed Tryz.func90 T_q9s_b T_q9s_s (HOk_of _ _ (by rw [T_q9s_hl]; exact ⟨T_q9s_1_ok, trivial⟩)) (by rw [T_q9s_eq]; exact h)
def T_q83_2_body (X : Int → Int → World → Prop) (r9 x10 : Int) (w : World) (Kn : Int → World → Prop) (Kp : XT)  : Prop :=
 if (decide (x10 < 8)) = true then (if ((IntKind.wrap .u32 ((BitVec.ofInt (IntKind.bits .u32) r9) &&& (BitVec.ofInt (IntKind.bits .u32) 1)).toNat : Int) == 1) = true then (X (IntKind.wrap .u32 ((BitVec.ofInt (IntKind.bits .u32) (Int.fdiv r9 (2 ^ 1))) ^^^ (BitVec.ofInt (IntKind.bits .u32) 3988292384)).toNat) (IntKind.wrap .i64 (x10 + 1)) w) else (X (Int.fdiv r9 (2 ^ 1)) (IntKind.wrap .i64 (x10 + 1)) w)) else (Kn r9 w)
def T_q6y (r9 x10 : Int) (w : World) (Kn : Int → World → Prop) (Kp : XT) : Prop :=
 ∀ X : Int → Int → World → Prop, (∀ (r9 x10 : Int) (w : World), T_q83_2_body X r9 x10 w Kn Kp → X r9 x10 w) → X r9 x10 w
def T_q2i : Exit → Option (List (Nat × Value)) := fun x => match x with | .normal => some [(5, .int .u32 0)] | .panic _ => some [] | _ => none
def T_q3z : Nat → Bool := ksOf [5, 8, 21, 22, 23, 24, 25, 26, 27, 28, 29, 30, 31]
def H_q6y : Env → World → QT → Prop := unitHook 35 T_q3z [(5, .int .u32 0), (21, .int .i64 0)] T_q2i fun l w C => match l with | [v0, v1] => T_q6y (pInt v0) (pInt v1) w (fun r12 w => C .normal [.int .u32 r12] w) (fun ch w => C (.panic ch) [] w) | _ => False
theorem T_q6y_hl : allP (hokL Tryz.prog (hookAt []) (at_ (bodyOf Tryz.f84) [1, 1, 0, 1, 0, 0, 1, 1, 0, 0, 1, 1, 1, 0, 0]) 59804) = (True) := by kernel_rfl
theorem T_q6y_hok : HOk Tryz.prog (hookAt []) (at_ (bodyOf Tryz.f84) [1, 1, 0, 1, 0, 0, 1, 1, 0, 0, 1, 1, 1, 0, 0]) 59804 := HOk_of _ _ (by rw [T_q6y_hl]; exact trivial)
theorem T_q6y_eq (C : Conts) (X : List Value → World → Prop) (r9 x10 : Int) (w : World) : vcCode Tryz.prog (hookAt []) (at_ (bodyOf Tryz.f84) [1, 1, 0, 1, 0, 0, 1, 1, 0, 0, 1, 1, 1, 0, 0]) 59804 ⟨[(5, .int .u32 r9), (21, .int .i64 x10)] ++ [], 35, []⟩ w (seqQ (fun e w => takeAll e [(5, .int .u32 0), (21, .int .i64 0)] fun l => X l w) (blockQ 2 (unitQ T_q2i C))) = T_q83_2_body (fun r9 x10 w => X [.int .u32 r9, .int .i64 x10] w) r9 x10 w (fun r13 w => C .normal [.int .u32 r13] w) (fun ch w => C (.panic ch) [] w) := by kernel_rfl
theorem T_q83_2_ok : UnitOk Tryz.prog H_q6y (at_ (bodyOf Tryz.f84) [1, 1, 0, 1, 0, 0, 1, 1, 0, 0, 1, 1, 1]) 14951 := by
 have hc : at_ (bodyOf Tryz.f84) [1, 1, 0, 1, 0, 0, 1, 1, 0, 0, 1, 1, 1] = .block 2 (.loop (at_ (bodyOf Tryz.f84) [1, 1, 0, 1, 0, 0, 1, 1, 0, 0, 1, 1, 1, 0, 0])) := by kernel_rfl
 rw [hc]
 refine loop_unit_ok (carr := [(5, .int .u32 0), (21, .int .i64 0)]) (fix := []) (ks := T_q3z) (H := (hookAt [])) (B := fun C X l u w => match l, u with | [v0, v1], [] => T_q83_2_body (fun r9 x10 w => X [.int .u32 r9, .int .i64 x10] w) (pInt v0) (pInt v1) w (fun r14 w => C .normal [.int .u32 r14] w) (fun ch w => C (.panic ch) [] w) | _, _ => False) (by kernel_rfl) (by kernel_rfl) T_q6y_hok ?_ ?_
 ·intro C X l u w hl hu
  obtain ⟨v0, _, rfl, k_v0, hl_v0⟩ := kC hl
  obtain ⟨r9, rfl⟩ := kind_int k_v0
  obtain ⟨v1, _, rfl, k_v1, hl_v1⟩ := kC hl_v0
  obtain ⟨x10, rfl⟩ := kind_int k_v1
  obtain rfl := kN hl_v1
  obtain rfl := kN hu
  exact T_q6y_eq C X r9 x10 w
 ·intro l u w C hl hu
  obtain ⟨v0, _, rfl, k_v0, hl_v0⟩ := kC hl
  obtain ⟨r9, rfl⟩ := kind_int k_v0
  obtain ⟨v1, _, rfl, k_v1, hl_v1⟩ := kC hl_v0
  obtain ⟨x10, rfl⟩ := kind_int k_v1
  obtain rfl := kN hl_v1
  obtain rfl := kN hu
  constructor
  ·intro h X hX
   exact h (fun r9 x10 w => X [.int .u32 r9, .int .i64 x10] w) (fun r9 x10 w hb => hX [.int .u32 r9, .int .i64 x10] w ⟨rfl, rfl, trivial⟩ hb)
  ·intro h X hX
   exact h (fun l w => match l with | [v0, v1] => X (pInt v0) (pInt v1) w | _ => True) (fun l w hl hb => by
    obtain ⟨v0, _, rfl, k_v0, hl_v0⟩ := kC hl
    obtain ⟨r9, rfl⟩ := kind_int k_v0
    obtain ⟨v1, _, rfl, k_v1, hl_v1⟩ := kC hl_v0
    obtain ⟨x10, rfl⟩ := kind_int k_v1
    obtain rfl := kN hl_v1
    exact hX r9 x10 w hb)
def T_q83_1_body (X : Int → Int → World → Prop) (r3 x4 : Int) (s5a : Option Addr) (s5l s5c : Nat) (x6 : Int) (w : World) (Kn : Int → World → Prop) (Kp : XT)  : Prop :=
 if (decide (x4 < x6)) = true then (0 ≤ x4 ∧ x4 < ((s5l : Nat) : Int) ∧ ∃ b7, s5a = some b7 ∧ ∃ x8 : Int, rd w (b7.add (x4.toNat * 1)) (.int .u8 x8) ∧ T_q6y (IntKind.wrap .u32 ((BitVec.ofInt (IntKind.bits .u32) r3) ^^^ (BitVec.ofInt (IntKind.bits .u32) (IntKind.wrap .u32 x8))).toNat) 0 w (fun r15 w16 => X r15 (IntKind.wrap .i64 (x4 + 1)) w16) Kp) else (Kn r3 w)
def T_q6x (r3 x4 : Int) (s5a : Option Addr) (s5l s5c : Nat) (x6 : Int) (w : World) (Kn : Int → World → Prop) (Kp : XT) : Prop :=
 ∀ X : Int → Int → World → Prop, (∀ (r3 x4 : Int) (w : World), T_q83_1_body X r3 x4 s5a s5l s5c x6 w Kn Kp → X r3 x4 w) → X r3 x4 w
def T_q2h : Exit → Option (List (Nat × Value)) := fun x => match x with | .normal => some [(5, .int .u32 0)] | .panic _ => some [] | _ => none
def T_q3y : Nat → Bool := ksOf [5, 7, 8, 13, 14, 15, 16, 17, 18, 19, 20, 21, 22, 23, 24, 25, 26, 27, 28, 29, 30, 31, 32]
def H_q6x : Env → World → QT → Prop := unitHook 35 T_q3y [(5, .int .u32 0), (13, .int .i64 0), (11, .slice none 0 0), (12, .int .i64 0)] T_q2h fun l w C => match l with | [v0, v1, v2, v3] => T_q6x (pInt v0) (pInt v1) (pA v2) (pL v2) (pC v2) (pInt v3) w (fun r18 w => C .normal [.int .u32 r18] w) (fun ch w => C (.panic ch) [] w) | _ => False
theorem T_q6x_hl : allP (hokL Tryz.prog (hookAt [(14951, H_q6y)]) (at_ (bodyOf Tryz.f84) [1, 1, 0, 1, 0, 0]) 116) = (UnitOk Tryz.prog H_q6y (at_ (bodyOf Tryz.f84) [1, 1, 0, 1, 0, 0, 1, 1, 0, 0, 1, 1, 1]) 14951 ∧ True) := by kernel_rfl
theorem T_q6x_hok : HOk Tryz.prog (hookAt [(14951, H_q6y)]) (at_ (bodyOf Tryz.f84) [1, 1, 0, 1, 0, 0]) 116 := HOk_of _ _ (by rw [T_q6x_hl]; exact ⟨T_q83_2_ok, trivial⟩)
theorem T_q6x_eq (C : Conts) (X : List Value → World → Prop) (r3 x4 : Int) (s5a : Option Addr) (s5l s5c : Nat) (x6 : Int) (w : World) : vcCode Tryz.prog (hookAt [(14951, H_q6y)]) (at_ (bodyOf Tryz.f84) [1, 1, 0, 1, 0, 0]) 116 ⟨[(5, .int .u32 r3), (13, .int .i64 x4)] ++ [(11, .slice s5a s5l s5c), (12, .int .i64 x6)], 35, []⟩ w (seqQ (fun e w => takeAll e [(5, .int .u32 0), (13, .int .i64 0)] fun l => X l w) (blockQ 0 (unitQ T_q2h C))) = T_q83_1_body (fun r3 x4 w => X [.int .u32 r3, .int .i64 x4] w) r3 x4 s5a s5l s5c x6 w (fun r19 w => C .normal [.int .u32 r19] w) (fun ch w => C (.panic ch) [] w) := by kernel_rfl
theorem T_q83_1_ok : UnitOk Tryz.prog H_q6x (at_ (bodyOf Tryz.f84) [1, 1, 0, 1]) 29 := by
 have hc : at_ (bodyOf Tryz.f84) [1, 1, 0, 1] = .block 0 (.loop (at_ (bodyOf Tryz.f84) [1, 1, 0, 1, 0, 0])) := by kernel_rfl
 rw [hc]
 refine loop_unit_ok (carr := [(5, .int .u32 0), (13, .int .i64 0)]) (fix := [(11, .slice none 0 0), (12, .int .i64 0)]) (ks := T_q3y) (H := (hookAt [(14951, H_q6y)])) (B := fun C X l u w => match l, u with | [v0, v1], [v2, v3] => T_q83_1_body (fun r3 x4 w => X [.int .u32 r3, .int .i64 x4] w) (pInt v0) (pInt v1) (pA v2) (pL v2) (pC v2) (pInt v3) w (fun r20 w => C .normal [.int .u32 r20] w) (fun ch w => C (.panic ch) [] w) | _, _ => False) (by kernel_rfl) (by kernel_rfl) T_q6x_hok ?_ ?_
 ·intro C X l u w hl hu
  obtain ⟨v0, _, rfl, k_v0, hl_v0⟩ := kC hl
  obtain ⟨r3, rfl⟩ := kind_int k_v0
  obtain ⟨v1, _, rfl, k_v1, hl_v1⟩ := kC hl_v0
  obtain ⟨x4, rfl⟩ := kind_int k_v1
  obtain rfl := kN hl_v1
  obtain ⟨v2, _, rfl, k_v2, hu_v2⟩ := kC hu
  obtain ⟨s5a, s5l, s5c, rfl⟩ := kind_slice k_v2
  obtain ⟨v3, _, rfl, k_v3, hu_v3⟩ := kC hu_v2
  obtain ⟨x6, rfl⟩ := kind_int k_v3
  obtain rfl := kN hu_v3
  exact T_q6x_eq C X r3 x4 s5a s5l s5c x6 w
 ·intro l u w C hl hu
  obtain ⟨v0, _, rfl, k_v0, hl_v0⟩ := kC hl
  obtain ⟨r3, rfl⟩ := kind_int k_v0
  obtain ⟨v1, _, rfl, k_v1, hl_v1⟩ := kC hl_v0
  obtain ⟨x4, rfl⟩ := kind_int k_v1
  obtain rfl := kN hl_v1
  obtain ⟨v2, _, rfl, k_v2, hu_v2⟩ := kC hu
  obtain ⟨s5a, s5l, s5c, rfl⟩ := kind_slice k_v2
  obtain ⟨v3, _, rfl, k_v3, hu_v3⟩ := kC hu_v2
  obtain ⟨x6, rfl⟩ := kind_int k_v3
  obtain rfl := kN hu_v3
  constructor
  ·intro h X hX
   exact h (fun r3 x4 w => X [.int .u32 r3, .int .i64 x4] w) (fun r3 x4 w hb => hX [.int .u32 r3, .int .i64 x4] w ⟨rfl, rfl, trivial⟩ hb)
  ·intro h X hX
   exact h (fun l w => match l with | [v0, v1] => X (pInt v0) (pInt v1) w | _ => True) (fun l w hl hb => by
    obtain ⟨v0, _, rfl, k_v0, hl_v0⟩ := kC hl
    obtain ⟨r3, rfl⟩ := kind_int k_v0
    obtain ⟨v1, _, rfl, k_v1, hl_v1⟩ := kC hl_v0
    obtain ⟨x4, rfl⟩ := kind_int k_v1
    obtain rfl := kN hl_v1
    exact hX r3 x4 w hb)
def T_q83 (sum1 : Int) (b2a : Option Addr) (b2l b2c : Nat) (w : World) (R : RT) : Prop :=
 T_q6x (IntKind.wrap .u32 ((BitVec.ofInt (IntKind.bits .u32) (IntKind.max .u32)) ^^^ (BitVec.ofInt (IntKind.bits .u32) sum1)).toNat) 0 b2a b2l b2c ((b2l : Nat) : Int) w (fun r21 w22 => R (.returned (.int .u32 (IntKind.wrap .u32 ((BitVec.ofInt (IntKind.bits .u32) (IntKind.max .u32)) ^^^ (BitVec.ofInt (IntKind.bits .u32) r21)).toNat))) w22) (pan R)
theorem T_q83_hl : allP (hokL Tryz.prog (hookAt [(29, H_q6x)]) (bodyOf Tryz.f84) 1) = (UnitOk Tryz.prog H_q6x (at_ (bodyOf Tryz.f84) [1, 1, 0, 1]) 29 ∧ True) := by kernel_rfl
theorem T_q83_eq (sum1 : Int) (b2a : Option Addr) (b2l b2c : Nat) (w : World) (R : RT) : vcCode Tryz.prog (hookAt [(29, H_q6x)]) (bodyOf Tryz.f84) 1 ⟨argEnv [.int .u32 sum1, .slice b2a b2l b2c] 0, Tryz.f84.ntmps, []⟩ w (finQ Tryz.prog Tryz.f84.results.toList R) = T_q83 sum1 b2a b2l b2c w R := by kernel_rfl
theorem T_q83_b : Tryz.f84.body = some (bodyOf Tryz.f84) := by kernel_rfl
theorem T_q83_s : (quietSel (bodyOf Tryz.f84) && Nat.ble 2 Tryz.f84.ntmps) = true := by kernel_rfl
theorem C_q83 {sum1 : Int} {b2a : Option Addr} {b2l b2c : Nat} {w : World} {R : RT} (h : T_q83 sum1 b2a b2l b2c w R) : Calls Tryz.prog 84 #[.int .u32 sum1, .slice b2a b2l b2c] w R :=
 calls_of_text (args := [.int .u32 sum1, .slice b2a b2l b2c]) mixed Tryz.func84 T_q83_b T_q83_s (HOk_of _ _ (by rw [T_q83_hl]; exact ⟨T_q83_1_ok, trivial⟩)) (by rw [T_q83_eq]; exact h)
def T_q9r (b1a : Option Addr) (b1l b1c : Nat) (w : World) (R : RT) : Prop :=
 Calls Tryz.prog 84 #[.int .u32 0, .slice b1a b1l b1c] w (ret (fun r2 w3 => ∃ x4 : Int, r2 = .int .u32 x4 ∧ R (.returned (.int .u32 x4)) w3) (pan R))
theorem T_q9r_hl : allP (hokL Tryz.prog (hookAt []) (bodyOf Tryz.f85) 1) = (True) := by kernel_rfl
theorem T_q9r_eq (b1a : Option Addr) (b1l b1c : Nat) (w : World) (R : RT) : vcCode Tryz.prog (hookAt []) (bodyOf Tryz.f85) 1 ⟨argEnv [.slice b1a b1l b1c] 0, Tryz.f85.ntmps, []⟩ w (finQ Tryz.prog Tryz.f85.results.toList R) = T_q9r b1a b1l b1c w R := by kernel_rfl
theorem T_q9r_b : Tryz.f85.body = some (bodyOf Tryz.f85) := by kernel_rfl
theorem T_q9r_s : (quietSel (bodyOf Tryz.f85) && Nat.ble 1 Tryz.f85.ntmps) = true := by kernel_rfl
theorem C_q9r {b1a : Option Addr} {b1l b1c : Nat} {w : World} {R : RT} (h : T_q9r b1a b1l b1c w R) : Calls Tryz.prog 85 #[.slice b1a b1l b1c] w R :=
 calls_of_text (args := [.slice b1a b1l b1c]) mixed Tryz.func85 T_q9r_b T_q9r_s (HOk_of _ _ (by rw [T_q9r_hl]; exact trivial)) (by rw [T_q9r_eq]; exact h)
def T_q88_2_body (X : Int → Int → World → Prop) (r6 k7 : Int) (b8a : Option Addr) (b8l b8c : Nat) (i9 : Int) (w : World) (Kn : Int → World → Prop) (Kp : XT)  : Prop :=
 if (decide (k7 < 8)) = true then (0 ≤ i9 ∧ i9 < ((b8l : Nat) : Int) ∧ ∃ b10, b8a = some b10 ∧ ∃ x11 : Int, rd w (b10.add (i9.toNat * 1)) (.int .u8 x11) ∧ runV Tryz.prog (do eqGuard .shr 5 (.tmp 25) (.tmp 27) (.int .u8 x11) (.int .u64 (IntKind.wrap .u64 k7)); binOp .shr 5 (.int .u8 x11) (.int .u64 (IntKind.wrap .u64 k7))) w (fun r12 w13 => ∃ x14 : Int, r12 = .int .u8 x14 ∧ if ((IntKind.wrap .u32 ((BitVec.ofInt (IntKind.bits .u32) (IntKind.wrap .u32 ((BitVec.ofInt (IntKind.bits .u32) r6) ^^^ (BitVec.ofInt (IntKind.bits .u32) (IntKind.wrap .u32 ((BitVec.ofInt (IntKind.bits .u32) (IntKind.wrap .u32 x14)) &&& (BitVec.ofInt (IntKind.bits .u32) 1)).toNat))).toNat)) &&& (BitVec.ofInt (IntKind.bits .u32) 1)).toNat : Int) == 1) = true then (X (IntKind.wrap .u32 ((BitVec.ofInt (IntKind.bits .u32) (IntKind.wrap .u32 (Int.tdiv r6 2))) ^^^ (BitVec.ofInt (IntKind.bits .u32) 3988292384)).toNat) (IntKind.wrap .i64 (k7 + 1)) w13) else (X (IntKind.wrap .u32 (Int.tdiv r6 2)) (IntKind.wrap .i64 (k7 + 1)) w13)) Kp) else (Kn r6 w)
def T_q73 (r6 k7 : Int) (b8a : Option Addr) (b8l b8c : Nat) (i9 : Int) (w : World) (Kn : Int → World → Prop) (Kp : XT) : Prop :=
 ∀ X : Int → Int → World → Prop, (∀ (r6 k7 : Int) (w : World), T_q88_2_body X r6 k7 b8a b8l b8c i9 w Kn Kp → X r6 k7 w) → X r6 k7 w
def T_q2l : Exit → Option (List (Nat × Value)) := fun x => match x with | .normal => some [(5, .int .u32 0)] | .panic _ => some [] | _ => none
def T_q48 : Nat → Bool := ksOf [5, 7, 8, 9, 18, 19, 20, 21, 22, 23, 24, 25, 26, 27, 28, 29, 30, 31, 32, 33, 34, 35, 36, 37, 38, 39, 40]
def H_q73 : Env → World → QT → Prop := unitHook 43 T_q48 [(5, .int .u32 0), (7, .int .i64 0), (1, .slice none 0 0), (6, .int .i64 0)] T_q2l fun l w C => match l with | [v0, v1, v2, v3] => T_q73 (pInt v0) (pInt v1) (pA v2) (pL v2) (pC v2) (pInt v3) w (fun r16 w => C .normal [.int .u32 r16] w) (fun ch w => C (.panic ch) [] w) | _ => False
theorem T_q73_hl : allP (hokL Tryz.prog (hookAt []) (at_ (bodyOf Tryz.f54) [1, 1, 0, 1, 0, 0, 1, 0, 0, 1, 0, 0]) 7460) = (True) := by kernel_rfl
theorem T_q73_hok : HOk Tryz.prog (hookAt []) (at_ (bodyOf Tryz.f54) [1, 1, 0, 1, 0, 0, 1, 0, 0, 1, 0, 0]) 7460 := HOk_of _ _ (by rw [T_q73_hl]; exact trivial)
theorem T_q73_eq (C : Conts) (X : List Value → World → Prop) (r6 k7 : Int) (b8a : Option Addr) (b8l b8c : Nat) (i9 : Int) (w : World) : vcCode Tryz.prog (hookAt []) (at_ (bodyOf Tryz.f54) [1, 1, 0, 1, 0, 0, 1, 0, 0, 1, 0, 0]) 7460 ⟨[(5, .int .u32 r6), (7, .int .i64 k7)] ++ [(1, .slice b8a b8l b8c), (6, .int .i64 i9)], 43, []⟩ w (seqQ (fun e w => takeAll e [(5, .int .u32 0), (7, .int .i64 0)] fun l => X l w) (blockQ 2 (unitQ T_q2l C))) = T_q88_2_body (fun r6 k7 w => X [.int .u32 r6, .int .i64 k7] w) r6 k7 b8a b8l b8c i9 w (fun r17 w => C .normal [.int .u32 r17] w) (fun ch w => C (.panic ch) [] w) := by kernel_rfl
theorem T_q88_2_ok : UnitOk Tryz.prog H_q73 (at_ (bodyOf Tryz.f54) [1, 1, 0, 1, 0, 0, 1, 0, 0, 1]) 1865 := by
 have hc : at_ (bodyOf Tryz.f54) [1, 1, 0, 1, 0, 0, 1, 0, 0, 1] = .block 2 (.loop (at_ (bodyOf Tryz.f54) [1, 1, 0, 1, 0, 0, 1, 0, 0, 1, 0, 0])) := by kernel_rfl
 rw [hc]
 refine loop_unit_ok (carr := [(5, .int .u32 0), (7, .int .i64 0)]) (fix := [(1, .slice none 0 0), (6, .int .i64 0)]) (ks := T_q48) (H := (hookAt [])) (B := fun C X l u w => match l, u with | [v0, v1], [v2, v3] => T_q88_2_body (fun r6 k7 w => X [.int .u32 r6, .int .i64 k7] w) (pInt v0) (pInt v1) (pA v2) (pL v2) (pC v2) (pInt v3) w (fun r18 w => C .normal [.int .u32 r18] w) (fun ch w => C (.panic ch) [] w) | _, _ => False) (by kernel_rfl) (by kernel_rfl) T_q73_hok ?_ ?_
 ·intro C X l u w hl hu
  obtain ⟨v0, _, rfl, k_v0, hl_v0⟩ := kC hl
  obtain ⟨r6, rfl⟩ := kind_int k_v0
  obtain ⟨v1, _, rfl, k_v1, hl_v1⟩ := kC hl_v0
  obtain ⟨k7, rfl⟩ := kind_int k_v1
  obtain rfl := kN hl_v1
  obtain ⟨v2, _, rfl, k_v2, hu_v2⟩ := kC hu
  obtain ⟨b8a, b8l, b8c, rfl⟩ := kind_slice k_v2
  obtain ⟨v3, _, rfl, k_v3, hu_v3⟩ := kC hu_v2
  obtain ⟨i9, rfl⟩ := kind_int k_v3
  obtain rfl := kN hu_v3
  exact T_q73_eq C X r6 k7 b8a b8l b8c i9 w
 ·intro l u w C hl hu
  obtain ⟨v0, _, rfl, k_v0, hl_v0⟩ := kC hl
  obtain ⟨r6, rfl⟩ := kind_int k_v0
  obtain ⟨v1, _, rfl, k_v1, hl_v1⟩ := kC hl_v0
  obtain ⟨k7, rfl⟩ := kind_int k_v1
  obtain rfl := kN hl_v1
  obtain ⟨v2, _, rfl, k_v2, hu_v2⟩ := kC hu
  obtain ⟨b8a, b8l, b8c, rfl⟩ := kind_slice k_v2
  obtain ⟨v3, _, rfl, k_v3, hu_v3⟩ := kC hu_v2
  obtain ⟨i9, rfl⟩ := kind_int k_v3
  obtain rfl := kN hu_v3
  constructor
  ·intro h X hX
   exact h (fun r6 k7 w => X [.int .u32 r6, .int .i64 k7] w) (fun r6 k7 w hb => hX [.int .u32 r6, .int .i64 k7] w ⟨rfl, rfl, trivial⟩ hb)
  ·intro h X hX
   exact h (fun l w => match l with | [v0, v1] => X (pInt v0) (pInt v1) w | _ => True) (fun l w hl hb => by
    obtain ⟨v0, _, rfl, k_v0, hl_v0⟩ := kC hl
    obtain ⟨r6, rfl⟩ := kind_int k_v0
    obtain ⟨v1, _, rfl, k_v1, hl_v1⟩ := kC hl_v0
    obtain ⟨k7, rfl⟩ := kind_int k_v1
    obtain rfl := kN hl_v1
    exact hX r6 k7 w hb)
def T_q88_1_body (X : Int → Int → World → Prop) (r3 i4 : Int) (b5a : Option Addr) (b5l b5c : Nat) (w : World) (Kn : Int → World → Prop) (Kp : XT)  : Prop :=
 if (decide (i4 < ((b5l : Nat) : Int))) = true then (T_q73 r3 0 b5a b5l b5c i4 w (fun r19 w20 => X r19 (IntKind.wrap .i64 (i4 + 1)) w20) Kp) else (Kn r3 w)
def T_q72 (r3 i4 : Int) (b5a : Option Addr) (b5l b5c : Nat) (w : World) (Kn : Int → World → Prop) (Kp : XT) : Prop :=
 ∀ X : Int → Int → World → Prop, (∀ (r3 i4 : Int) (w : World), T_q88_1_body X r3 i4 b5a b5l b5c w Kn Kp → X r3 i4 w) → X r3 i4 w
def T_q2k : Exit → Option (List (Nat × Value)) := fun x => match x with | .normal => some [(5, .int .u32 0)] | .panic _ => some [] | _ => none
def T_q47 : Nat → Bool := ksOf [5, 6, 7, 8, 9, 12, 13, 14, 15, 16, 17, 18, 19, 20, 21, 22, 23, 24, 25, 26, 27, 28, 29, 30, 31, 32, 33, 34, 35, 36, 37, 38, 39, 40]
def H_q72 : Env → World → QT → Prop := unitHook 43 T_q47 [(5, .int .u32 0), (6, .int .i64 0), (1, .slice none 0 0)] T_q2k fun l w C => match l with | [v0, v1, v2] => T_q72 (pInt v0) (pInt v1) (pA v2) (pL v2) (pC v2) w (fun r22 w => C .normal [.int .u32 r22] w) (fun ch w => C (.panic ch) [] w) | _ => False
theorem T_q72_hl : allP (hokL Tryz.prog (hookAt [(1865, H_q73)]) (at_ (bodyOf Tryz.f54) [1, 1, 0, 1, 0, 0]) 116) = (UnitOk Tryz.prog H_q73 (at_ (bodyOf Tryz.f54) [1, 1, 0, 1, 0, 0, 1, 0, 0, 1]) 1865 ∧ True) := by kernel_rfl
theorem T_q72_hok : HOk Tryz.prog (hookAt [(1865, H_q73)]) (at_ (bodyOf Tryz.f54) [1, 1, 0, 1, 0, 0]) 116 := HOk_of _ _ (by rw [T_q72_hl]; exact ⟨T_q88_2_ok, trivial⟩)
theorem T_q72_eq (C : Conts) (X : List Value → World → Prop) (r3 i4 : Int) (b5a : Option Addr) (b5l b5c : Nat) (w : World) : vcCode Tryz.prog (hookAt [(1865, H_q73)]) (at_ (bodyOf Tryz.f54) [1, 1, 0, 1, 0, 0]) 116 ⟨[(5, .int .u32 r3), (6, .int .i64 i4)] ++ [(1, .slice b5a b5l b5c)], 43, []⟩ w (seqQ (fun e w => takeAll e [(5, .int .u32 0), (6, .int .i64 0)] fun l => X l w) (blockQ 0 (unitQ T_q2k C))) = T_q88_1_body (fun r3 i4 w => X [.int .u32 r3, .int .i64 i4] w) r3 i4 b5a b5l b5c w (fun r23 w => C .normal [.int .u32 r23] w) (fun ch w => C (.panic ch) [] w) := by kernel_rfl
theorem T_q88_1_ok : UnitOk Tryz.prog H_q72 (at_ (bodyOf Tryz.f54) [1, 1, 0, 1]) 29 := by
 have hc : at_ (bodyOf Tryz.f54) [1, 1, 0, 1] = .block 0 (.loop (at_ (bodyOf Tryz.f54) [1, 1, 0, 1, 0, 0])) := by kernel_rfl
 rw [hc]
 refine loop_unit_ok (carr := [(5, .int .u32 0), (6, .int .i64 0)]) (fix := [(1, .slice none 0 0)]) (ks := T_q47) (H := (hookAt [(1865, H_q73)])) (B := fun C X l u w => match l, u with | [v0, v1], [v2] => T_q88_1_body (fun r3 i4 w => X [.int .u32 r3, .int .i64 i4] w) (pInt v0) (pInt v1) (pA v2) (pL v2) (pC v2) w (fun r24 w => C .normal [.int .u32 r24] w) (fun ch w => C (.panic ch) [] w) | _, _ => False) (by kernel_rfl) (by kernel_rfl) T_q72_hok ?_ ?_
 ·intro C X l u w hl hu
  obtain ⟨v0, _, rfl, k_v0, hl_v0⟩ := kC hl
  obtain ⟨r3, rfl⟩ := kind_int k_v0
  obtain ⟨v1, _, rfl, k_v1, hl_v1⟩ := kC hl_v0
  obtain ⟨i4, rfl⟩ := kind_int k_v1
  obtain rfl := kN hl_v1
  obtain ⟨v2, _, rfl, k_v2, hu_v2⟩ := kC hu
  obtain ⟨b5a, b5l, b5c, rfl⟩ := kind_slice k_v2
  obtain rfl := kN hu_v2
  exact T_q72_eq C X r3 i4 b5a b5l b5c w
 ·intro l u w C hl hu
  obtain ⟨v0, _, rfl, k_v0, hl_v0⟩ := kC hl
  obtain ⟨r3, rfl⟩ := kind_int k_v0
  obtain ⟨v1, _, rfl, k_v1, hl_v1⟩ := kC hl_v0
  obtain ⟨i4, rfl⟩ := kind_int k_v1
  obtain rfl := kN hl_v1
  obtain ⟨v2, _, rfl, k_v2, hu_v2⟩ := kC hu
  obtain ⟨b5a, b5l, b5c, rfl⟩ := kind_slice k_v2
  obtain rfl := kN hu_v2
  constructor
  ·intro h X hX
   exact h (fun r3 i4 w => X [.int .u32 r3, .int .i64 i4] w) (fun r3 i4 w hb => hX [.int .u32 r3, .int .i64 i4] w ⟨rfl, rfl, trivial⟩ hb)
  ·intro h X hX
   exact h (fun l w => match l with | [v0, v1] => X (pInt v0) (pInt v1) w | _ => True) (fun l w hl hb => by
    obtain ⟨v0, _, rfl, k_v0, hl_v0⟩ := kC hl
    obtain ⟨r3, rfl⟩ := kind_int k_v0
    obtain ⟨v1, _, rfl, k_v1, hl_v1⟩ := kC hl_v0
    obtain ⟨i4, rfl⟩ := kind_int k_v1
    obtain rfl := kN hl_v1
    exact hX r3 i4 w hb)
def T_q88 (sum1 : Int) (b2a : Option Addr) (b2l b2c : Nat) (w : World) (R : RT) : Prop :=
 T_q72 (IntKind.wrap .u32 ((BitVec.ofInt (IntKind.bits .u32) sum1) ^^^ (BitVec.ofInt (IntKind.bits .u32) 4294967295)).toNat) 0 b2a b2l b2c w (fun r25 w26 => R (.returned (.int .u32 (IntKind.wrap .u32 ((BitVec.ofInt (IntKind.bits .u32) r25) ^^^ (BitVec.ofInt (IntKind.bits .u32) 4294967295)).toNat))) w26) (pan R)
theorem T_q88_hl : allP (hokL Tryz.prog (hookAt [(29, H_q72)]) (bodyOf Tryz.f54) 1) = (UnitOk Tryz.prog H_q72 (at_ (bodyOf Tryz.f54) [1, 1, 0, 1]) 29 ∧ True) := by kernel_rfl
theorem T_q88_eq (sum1 : Int) (b2a : Option Addr) (b2l b2c : Nat) (w : World) (R : RT) : vcCode Tryz.prog (hookAt [(29, H_q72)]) (bodyOf Tryz.f54) 1 ⟨argEnv [.int .u32 sum1, .slice b2a b2l b2c] 0, Tryz.f54.ntmps, []⟩ w (finQ Tryz.prog Tryz.f54.results.toList R) = T_q88 sum1 b2a b2l b2c w R := by kernel_rfl
theorem T_q88_b : Tryz.f54.body = some (bodyOf Tryz.f54) := by kernel_rfl
theorem T_q88_s : (quietSel (bodyOf Tryz.f54) && Nat.ble 2 Tryz.f54.ntmps) = true := by kernel_rfl
theorem C_q88 {sum1 : Int} {b2a : Option Addr} {b2l b2c : Nat} {w : World} {R : RT} (h : T_q88 sum1 b2a b2l b2c w R) : Calls Tryz.prog 54 #[.int .u32 sum1, .slice b2a b2l b2c] w R :=
 calls_of_text (args := [.int .u32 sum1, .slice b2a b2l b2c]) mixed Tryz.func54 T_q88_b T_q88_s (HOk_of _ _ (by rw [T_q88_hl]; exact ⟨T_q88_1_ok, trivial⟩)) (by rw [T_q88_eq]; exact h)
def T_q9u (b1a : Option Addr) (b1l b1c : Nat) (w : World) (R : RT) : Prop :=
 Calls Tryz.prog 54 #[.int .u32 0, .slice b1a b1l b1c] w (ret (fun r2 w3 => ∃ x4 : Int, r2 = .int .u32 x4 ∧ R (.returned (.int .u32 x4)) w3) (pan R))
theorem T_q9u_hl : allP (hokL Tryz.prog (hookAt []) (bodyOf Tryz.f55) 1) = (True) := by kernel_rfl
theorem T_q9u_eq (b1a : Option Addr) (b1l b1c : Nat) (w : World) (R : RT) : vcCode Tryz.prog (hookAt []) (bodyOf Tryz.f55) 1 ⟨argEnv [.slice b1a b1l b1c] 0, Tryz.f55.ntmps, []⟩ w (finQ Tryz.prog Tryz.f55.results.toList R) = T_q9u b1a b1l b1c w R := by kernel_rfl
theorem T_q9u_b : Tryz.f55.body = some (bodyOf Tryz.f55) := by kernel_rfl
theorem T_q9u_s : (quietSel (bodyOf Tryz.f55) && Nat.ble 1 Tryz.f55.ntmps) = true := by kernel_rfl
theorem C_q9u {b1a : Option Addr} {b1l b1c : Nat} {w : World} {R : RT} (h : T_q9u b1a b1l b1c w R) : Calls Tryz.prog 55 #[.slice b1a b1l b1c] w R :=
 calls_of_text (args := [.slice b1a b1l b1c]) mixed Tryz.func55 T_q9u_b T_q9u_s (HOk_of _ _ (by rw [T_q9u_hl]; exact trivial)) (by rw [T_q9u_eq]; exact h)
def T_q9h (n1 : Int) (w : World) (R : RT) : Prop :=
 let w2 : World := w.alloc (.cells #[.int .u8 (IntKind.wrap .u8 (IntKind.wrap .u32 (Int.tdiv n1 16777216))), .int .u8 (IntKind.wrap .u8 (Int.tmod (IntKind.wrap .u32 (Int.tdiv n1 65536)) 256)), .int .u8 (IntKind.wrap .u8 (Int.tmod (IntKind.wrap .u32 (Int.tdiv n1 256)) 256)), .int .u8 (IntKind.wrap .u8 (Int.tmod n1 256))] 5)
 R (.returned (.slice (some (⟨w.heap.size, 0, none⟩ : Addr)) 4 4)) w2
theorem T_q9h_hl : allP (hokL Tryz.prog (hookAt []) (bodyOf Tryz.f53) 1) = (True) := by kernel_rfl
theorem T_q9h_eq (n1 : Int) (w : World) (R : RT) : vcCode Tryz.prog (hookAt []) (bodyOf Tryz.f53) 1 ⟨argEnv [.int .u32 n1] 0, Tryz.f53.ntmps, []⟩ w (finQ Tryz.prog Tryz.f53.results.toList R) = T_q9h n1 w R := by kernel_rfl
theorem T_q9h_b : Tryz.f53.body = some (bodyOf Tryz.f53) := by kernel_rfl
theorem T_q9h_s : (quietSel (bodyOf Tryz.f53) && Nat.ble 1 Tryz.f53.ntmps) = true := by kernel_rfl
theorem C_q9h {n1 : Int} {w : World} {R : RT} (h : T_q9h n1 w R) : Calls Tryz.prog 53 #[.int .u32 n1] w R :=
 calls_of_text (args := [.int .u32 n1]) mixed Tryz.func53 T_q9h_b T_q9h_s (HOk_of _ _ (by rw [T_q9h_hl]; exact trivial)) (by rw [T_q9h_eq]; exact h)
def T_q8a_1_body (X : Int → Int → World → Prop) (n3 i4 : Int) (b5a : Option Addr) (b5l b5c : Nat) (at6 : Int) (w : World) (Kn : Int → World → Prop) (Kp : XT)  : Prop :=
 if (decide (i4 < 4)) = true then (0 ≤ (IntKind.wrap .i64 (at6 + i4) : Int) ∧ (IntKind.wrap .i64 (at6 + i4) : Int) < ((b5l : Nat) : Int) ∧ ∃ b7, b5a = some b7 ∧ ∃ x8 : Int, rd w (b7.add ((IntKind.wrap .i64 (at6 + i4) : Int).toNat * 1)) (.int .u8 x8) ∧ X (IntKind.wrap .i64 ((IntKind.wrap .i64 (n3 * 256) : Int) + (IntKind.wrap .i64 x8))) (IntKind.wrap .i64 (i4 + 1)) w) else (Kn n3 w)
def T_q74 (n3 i4 : Int) (b5a : Option Addr) (b5l b5c : Nat) (at6 : Int) (w : World) (Kn : Int → World → Prop) (Kp : XT) : Prop :=
 ∀ X : Int → Int → World → Prop, (∀ (n3 i4 : Int) (w : World), T_q8a_1_body X n3 i4 b5a b5l b5c at6 w Kn Kp → X n3 i4 w) → X n3 i4 w
def T_q2m : Exit → Option (List (Nat × Value)) := fun x => match x with | .normal => some [(5, .int .i64 0)] | .panic _ => some [] | _ => none
def T_q4a : Nat → Bool := ksOf [5, 6, 7, 8, 9, 10, 11, 12, 13, 14, 15, 16, 17, 18, 19, 20]
def H_q74 : Env → World → QT → Prop := unitHook 22 T_q4a [(5, .int .i64 0), (6, .int .i64 0), (0, .slice none 0 0), (1, .int .i64 0)] T_q2m fun l w C => match l with | [v0, v1, v2, v3] => T_q74 (pInt v0) (pInt v1) (pA v2) (pL v2) (pC v2) (pInt v3) w (fun n10 w => C .normal [.int .i64 n10] w) (fun ch w => C (.panic ch) [] w) | _ => False
theorem T_q74_hl : allP (hokL Tryz.prog (hookAt []) (at_ (bodyOf Tryz.f92) [1, 1, 0, 1, 0, 0]) 116) = (True) := by kernel_rfl
theorem T_q74_hok : HOk Tryz.prog (hookAt []) (at_ (bodyOf Tryz.f92) [1, 1, 0, 1, 0, 0]) 116 := HOk_of _ _ (by rw [T_q74_hl]; exact trivial)
theorem T_q74_eq (C : Conts) (X : List Value → World → Prop) (n3 i4 : Int) (b5a : Option Addr) (b5l b5c : Nat) (at6 : Int) (w : World) : vcCode Tryz.prog (hookAt []) (at_ (bodyOf Tryz.f92) [1, 1, 0, 1, 0, 0]) 116 ⟨[(5, .int .i64 n3), (6, .int .i64 i4)] ++ [(0, .slice b5a b5l b5c), (1, .int .i64 at6)], 22, []⟩ w (seqQ (fun e w => takeAll e [(5, .int .i64 0), (6, .int .i64 0)] fun l => X l w) (blockQ 0 (unitQ T_q2m C))) = T_q8a_1_body (fun n3 i4 w => X [.int .i64 n3, .int .i64 i4] w) n3 i4 b5a b5l b5c at6 w (fun n11 w => C .normal [.int .i64 n11] w) (fun ch w => C (.panic ch) [] w) := by kernel_rfl
theorem T_q8a_1_ok : UnitOk Tryz.prog H_q74 (at_ (bodyOf Tryz.f92) [1, 1, 0, 1]) 29 := by
 have hc : at_ (bodyOf Tryz.f92) [1, 1, 0, 1] = .block 0 (.loop (at_ (bodyOf Tryz.f92) [1, 1, 0, 1, 0, 0])) := by kernel_rfl
 rw [hc]
 refine loop_unit_ok (carr := [(5, .int .i64 0), (6, .int .i64 0)]) (fix := [(0, .slice none 0 0), (1, .int .i64 0)]) (ks := T_q4a) (H := (hookAt [])) (B := fun C X l u w => match l, u with | [v0, v1], [v2, v3] => T_q8a_1_body (fun n3 i4 w => X [.int .i64 n3, .int .i64 i4] w) (pInt v0) (pInt v1) (pA v2) (pL v2) (pC v2) (pInt v3) w (fun n12 w => C .normal [.int .i64 n12] w) (fun ch w => C (.panic ch) [] w) | _, _ => False) (by kernel_rfl) (by kernel_rfl) T_q74_hok ?_ ?_
 ·intro C X l u w hl hu
  obtain ⟨v0, _, rfl, k_v0, hl_v0⟩ := kC hl
  obtain ⟨n3, rfl⟩ := kind_int k_v0
  obtain ⟨v1, _, rfl, k_v1, hl_v1⟩ := kC hl_v0
  obtain ⟨i4, rfl⟩ := kind_int k_v1
  obtain rfl := kN hl_v1
  obtain ⟨v2, _, rfl, k_v2, hu_v2⟩ := kC hu
  obtain ⟨b5a, b5l, b5c, rfl⟩ := kind_slice k_v2
  obtain ⟨v3, _, rfl, k_v3, hu_v3⟩ := kC hu_v2
  obtain ⟨at6, rfl⟩ := kind_int k_v3
  obtain rfl := kN hu_v3
  exact T_q74_eq C X n3 i4 b5a b5l b5c at6 w
 ·intro l u w C hl hu
  obtain ⟨v0, _, rfl, k_v0, hl_v0⟩ := kC hl
  obtain ⟨n3, rfl⟩ := kind_int k_v0
  obtain ⟨v1, _, rfl, k_v1, hl_v1⟩ := kC hl_v0
  obtain ⟨i4, rfl⟩ := kind_int k_v1
  obtain rfl := kN hl_v1
  obtain ⟨v2, _, rfl, k_v2, hu_v2⟩ := kC hu
  obtain ⟨b5a, b5l, b5c, rfl⟩ := kind_slice k_v2
  obtain ⟨v3, _, rfl, k_v3, hu_v3⟩ := kC hu_v2
  obtain ⟨at6, rfl⟩ := kind_int k_v3
  obtain rfl := kN hu_v3
  constructor
  ·intro h X hX
   exact h (fun n3 i4 w => X [.int .i64 n3, .int .i64 i4] w) (fun n3 i4 w hb => hX [.int .i64 n3, .int .i64 i4] w ⟨rfl, rfl, trivial⟩ hb)
  ·intro h X hX
   exact h (fun l w => match l with | [v0, v1] => X (pInt v0) (pInt v1) w | _ => True) (fun l w hl hb => by
    obtain ⟨v0, _, rfl, k_v0, hl_v0⟩ := kC hl
    obtain ⟨n3, rfl⟩ := kind_int k_v0
    obtain ⟨v1, _, rfl, k_v1, hl_v1⟩ := kC hl_v0
    obtain ⟨i4, rfl⟩ := kind_int k_v1
    obtain rfl := kN hl_v1
    exact hX n3 i4 w hb)
def T_q8a (b1a : Option Addr) (b1l b1c : Nat) (at2 : Int) (w : World) (R : RT) : Prop :=
 T_q74 0 0 b1a b1l b1c at2 w (fun n13 w14 => R (.returned (.int .i64 n13)) w14) (pan R)
theorem T_q8a_hl : allP (hokL Tryz.prog (hookAt [(29, H_q74)]) (bodyOf Tryz.f92) 1) = (UnitOk Tryz.prog H_q74 (at_ (bodyOf Tryz.f92) [1, 1, 0, 1]) 29 ∧ True) := by kernel_rfl
theorem T_q8a_eq (b1a : Option Addr) (b1l b1c : Nat) (at2 : Int) (w : World) (R : RT) : vcCode Tryz.prog (hookAt [(29, H_q74)]) (bodyOf Tryz.f92) 1 ⟨argEnv [.slice b1a b1l b1c, .int .i64 at2] 0, Tryz.f92.ntmps, []⟩ w (finQ Tryz.prog Tryz.f92.results.toList R) = T_q8a b1a b1l b1c at2 w R := by kernel_rfl
theorem T_q8a_b : Tryz.f92.body = some (bodyOf Tryz.f92) := by kernel_rfl
theorem T_q8a_s : (quietSel (bodyOf Tryz.f92) && Nat.ble 2 Tryz.f92.ntmps) = true := by kernel_rfl
theorem C_q8a {b1a : Option Addr} {b1l b1c : Nat} {at2 : Int} {w : World} {R : RT} (h : T_q8a b1a b1l b1c at2 w R) : Calls Tryz.prog 92 #[.slice b1a b1l b1c, .int .i64 at2] w R :=
 calls_of_text (args := [.slice b1a b1l b1c, .int .i64 at2]) mixed Tryz.func92 T_q8a_b T_q8a_s (HOk_of _ _ (by rw [T_q8a_hl]; exact ⟨T_q8a_1_ok, trivial⟩)) (by rw [T_q8a_eq]; exact h)
end Go.Proofs.YtclinifclfahfaaGreat
namespace Go.Vc
open Go
abbrev PHeap := Nat → Option (Bool × Obj)
abbrev Asrt := PHeap → Prop
def dj (h1 h2 : PHeap) : Prop := ∀ b, h1 b = none ∨ h2 b = none ∨ ∃ o, h1 b = some (false, o) ∧ h2 b = some (false, o)
def un (h1 h2 : PHeap) : PHeap := fun b => match h1 b with | some x => some x | none => h2 b
def sepL : List Asrt → PHeap → Prop
  | [], _ => True
  | A :: L, h => ∃ h1 h2, dj h1 h2 ∧ h = un h1 h2 ∧ A h1 ∧ sepL L h2
def lies (h : PHeap) (w : World) : Prop := ∀ b f o, h b = some (f, o) → w.heap[b]? = some o
structure SameEnv (E w : World) : Prop where
  os : w.os = E.os
  tape : w.tape = E.tape
  output : w.output = E.output
def St (E : World) (L : List Asrt) (w : World) : Prop := SameEnv E w ∧ ∃ h, sepL L h ∧ lies h w
theorem dj.symm {a b : PHeap} (h : dj a b) : dj b a := fun c => by
  rcases h c with h | h | ⟨o, h1, h2⟩
  · exact .inr (.inl h)
  · exact .inl h
  · exact .inr (.inr ⟨o, h2, h1⟩)
theorem un_comm {a b : PHeap} (h : dj a b) : un a b = un b a := by
  funext c
  unfold un
  rcases h c with h | h | ⟨o, h1, h2⟩
  · rw [h]; cases hb : b c <;> rfl
  · rw [h]; cases ha : a c <;> rfl
  · rw [h1, h2]
theorem un_assoc (a b c : PHeap) : un (un a b) c = un a (un b c) := by
  funext d; unfold un; cases a d <;> rfl
theorem dj_un {a b c : PHeap} (h : dj a (un b c)) (_hb : dj b c) : dj a b ∧ dj a c := by
  refine ⟨fun d => ?_, fun d => ?_⟩
  · rcases h d with h1 | h1 | ⟨o, h1, h2⟩
    · exact .inl h1
    · unfold un at h1; cases hb : b d <;> simp [hb] at h1; exact .inr (.inl rfl)
    · unfold un at h2
      cases hb : b d <;> simp [hb] at h2
      · exact .inr (.inl rfl)
      · exact .inr (.inr ⟨o, h1, by rw [h2]⟩)
  · rcases h d with h1 | h1 | ⟨o, h1, h2⟩
    · exact .inl h1
    · unfold un at h1; cases hb : b d <;> simp [hb] at h1; exact .inr (.inl h1)
    · unfold un at h2
      cases hb : b d <;> simp [hb] at h2
      · exact .inr (.inr ⟨o, h1, h2⟩)
      · rcases _hb d with h3 | h3 | ⟨o', h3, h4⟩
        · rw [h3] at hb; cases hb
        · exact .inr (.inl h3)
        · rw [h3] at hb; injection hb with hb; rw [← hb] at h2; injection h2 with _ h2; subst h2; exact .inr (.inr ⟨_, h1, h4⟩)
theorem dj_un_left {a b c : PHeap} (h1 : dj a c) (h2 : dj b c) : dj (un a b) c := fun d => by
  unfold un
  cases ha : a d with
  | none => exact h2 d
  | some x => have := h1 d; rw [ha] at this; exact this
theorem sepL_swap {A B : Asrt} {L : List Asrt} {h : PHeap} (hs : sepL (A :: B :: L) h) : sepL (B :: A :: L) h := by
  obtain ⟨h1, h23, d1, rfl, hA, h2, h3, d2, rfl, hB, hL⟩ := hs
  obtain ⟨d12, d13⟩ := dj_un d1 d2
  refine ⟨h2, un h1 h3, ?_, ?_, hB, h1, h3, d13, rfl, hA, hL⟩
  · exact (dj_un_left d12 d2.symm).symm
  · rw [← un_assoc, ← un_assoc, un_comm d12]
theorem sepL_perm {L L' : List Asrt} (p : L.Perm L') : ∀ {h : PHeap}, sepL L h → sepL L' h := by
  induction p with
  | nil => exact fun h => h
  | cons A _ ih => rintro h ⟨h1, h2, d, e, hA, hL⟩; exact ⟨h1, h2, d, e, hA, ih hL⟩
  | swap A B L => exact fun h => sepL_swap h
  | trans _ _ ih1 ih2 => exact fun h => ih2 (ih1 h)
section
variable {E w w' : World} {A B : Asrt} {L L' : List Asrt}
theorem St.perm (h : St E L w) (p : L.Perm L') : St E L' w := let ⟨e, x, hs, hl⟩ := h; ⟨e, x, sepL_perm p hs, hl⟩
theorem St.drop (h : St E (A :: L) w) : St E L w := by
  obtain ⟨e, x, ⟨h1, h2, d, rfl, _, hL⟩, hl⟩ := h
  refine ⟨e, h2, hL, fun b f o hb => ?_⟩
  cases h1b : h1 b with
  | none => exact hl b f o (by unfold un; rw [h1b]; exact hb)
  | some x =>
    rcases d b with h' | h' | ⟨o', h', h''⟩
    · rw [h'] at h1b; cases h1b
    · rw [h'] at hb; cases hb
    · rw [h''] at hb; injection hb with hb; injection hb with _ hb; subst hb
      exact hl b false o' (by unfold un; rw [h'])
theorem St.mono (h : St E (A :: L) w) (f : ∀ x, A x → B x) : St E (B :: L) w := by
  obtain ⟨e, x, ⟨h1, h2, d, rfl, hA, hL⟩, hl⟩ := h
  exact ⟨e, _, ⟨h1, h2, d, rfl, f _ hA, hL⟩, hl⟩
theorem St.f1 {A B : Asrt} (h : St E (A :: B :: L) w) : St E (B :: A :: L) w := h.perm (.swap ..)
theorem St.f2 {A B C : Asrt} (h : St E (A :: B :: C :: L) w) : St E (C :: A :: B :: L) w := h.perm ((List.Perm.cons _ (.swap ..)).trans (.swap ..))
theorem St.f3 {A B C D : Asrt} (h : St E (A :: B :: C :: D :: L) w) : St E (D :: A :: B :: C :: L) w :=
  h.perm ((List.Perm.cons _ ((List.Perm.cons _ (.swap ..)).trans (.swap ..))).trans (.swap ..))
theorem St.f4 {A B C D F : Asrt} (h : St E (A :: B :: C :: D :: F :: L) w) : St E (F :: A :: B :: C :: D :: L) w := (h.perm ((List.perm_middle (l₁ := [A, B, C, D]) (l₂ := L) (a := F))) :)
theorem St.b2 {A B C : Asrt} (h : St E (A :: B :: C :: L) w) : St E (B :: C :: A :: L) w := h.perm (List.perm_middle (l₁ := [B, C]) (l₂ := L) (a := A)).symm
theorem St.b3 {A B C D : Asrt} (h : St E (A :: B :: C :: D :: L) w) : St E (B :: C :: D :: A :: L) w := h.perm (List.perm_middle (l₁ := [B, C, D]) (l₂ := L) (a := A)).symm
theorem St.b4 {A B C D F : Asrt} (h : St E (A :: B :: C :: D :: F :: L) w) : St E (B :: C :: D :: F :: A :: L) w := h.perm (List.perm_middle (l₁ := [B, C, D, F]) (l₂ := L) (a := A)).symm
theorem perm_front (L1 : List Asrt) (A : Asrt) (L2 : List Asrt) : (L1 ++ A :: L2).Perm (A :: (L1 ++ L2)) := List.perm_middle
theorem St.front (L1 : List Asrt) {A : Asrt} {L2 : List Asrt} (h : St E (L1 ++ A :: L2) w) : St E (A :: (L1 ++ L2)) w := h.perm (perm_front _ _ _)
def seps (L : List Asrt) : Asrt := sepL L
theorem sepL_append : ∀ {L1 L2 : List Asrt} {h : PHeap}, sepL (L1 ++ L2) h ↔ ∃ h1 h2, dj h1 h2 ∧ h = un h1 h2 ∧ sepL L1 h1 ∧ sepL L2 h2
  | [], L2, h => by
    constructor
    · intro hs; exact ⟨fun _ => none, h, fun _ => .inl rfl, by funext b; rfl, trivial, hs⟩
    · rintro ⟨h1, h2, d, rfl, _, hs⟩
      have : ∀ (L : List Asrt) (x y : PHeap), dj x y → sepL L y → sepL L (un x y) := by
        intro L
        induction L with
        | nil => intros; trivial
        | cons A L ih =>
          rintro x y dxy ⟨y1, y2, d, rfl, hA, hL⟩
          obtain ⟨d1, d2⟩ := dj_un dxy d
          refine ⟨y1, un x y2, (dj_un_left d1 d.symm).symm, ?_, hA, ih _ _ d2 hL⟩
          rw [← un_assoc, ← un_assoc, un_comm d1]
      exact this _ _ _ d hs
  | A :: L1, L2, h => by
    constructor
    · rintro ⟨h1, h2, d, rfl, hA, hs⟩
      obtain ⟨h3, h4, d', rfl, hs1, hs2⟩ := sepL_append.1 hs
      obtain ⟨d3, d4⟩ := dj_un d d'
      exact ⟨un h1 h3, h4, dj_un_left d4 d', (un_assoc _ _ _).symm, ⟨h1, h3, d3, rfl, hA, hs1⟩, hs2⟩
    · rintro ⟨x, h4, d', rfl, ⟨h1, h3, d3, rfl, hA, hs1⟩, hs2⟩
      obtain ⟨e1, e2⟩ := dj_un d'.symm d3
      refine ⟨h1, un h3 h4, ?_, un_assoc _ _ _, hA, sepL_append.2 ⟨h3, h4, e2.symm, rfl, hs1, hs2⟩⟩
      exact (dj_un_left d3.symm e1).symm
theorem St.open_ {L1 L2 : List Asrt} (h : St E (seps L1 :: L2) w) : St E (L1 ++ L2) w := by
  obtain ⟨e, x, ⟨h1, h2, d, rfl, hs, hL⟩, hl⟩ := h
  exact ⟨e, _, sepL_append.2 ⟨h1, h2, d, rfl, hs, hL⟩, hl⟩
theorem St.shut {L1 L2 : List Asrt} (h : St E (L1 ++ L2) w) : St E (seps L1 :: L2) w := by
  obtain ⟨e, x, hs, hl⟩ := h
  obtain ⟨h1, h2, d, rfl, h3, h4⟩ := sepL_append.1 hs
  exact ⟨e, _, ⟨h1, h2, d, rfl, h3, h4⟩, hl⟩
def blk (b : Nat) (o : Obj) : Asrt := fun h => h b = some (true, o)
def ro (b : Nat) (o : Obj) : Asrt := fun h => ∃ f, h b = some (f, o)
def old (W : World) : Asrt := fun h => ∀ b o, W.heap[b]? = some o → ∃ f, h b = some (f, o)
theorem St.at_blk {b : Nat} {o : Obj} (h : St E (blk b o :: L) w) : w.heap[b]? = some o := by
  obtain ⟨_, x, ⟨h1, h2, d, rfl, hA, hL⟩, hl⟩ := h
  exact hl b true o (by unfold un; rw [show h1 b = some (true, o) from hA])
theorem St.at_old {W : World} {b : Nat} {o : Obj} (h : St E (old W :: L) w) (hb : W.heap[b]? = some o) : w.heap[b]? = some o := by
  obtain ⟨_, x, ⟨h1, h2, d, rfl, hA, hL⟩, hl⟩ := h
  obtain ⟨f, hf⟩ := hA b o hb
  exact hl b f o (by unfold un; rw [hf])
theorem St.upd {b : Nat} {o o' : Obj} (h : St E (blk b o :: L) w) (he : SameEnv w w') (hb : w'.heap[b]? = some o') (hk : ∀ c, c ≠ b → c < w.heap.size → w'.heap[c]? = w.heap[c]?) : St E (blk b o' :: L) w' := by
  obtain ⟨e, x, ⟨h1, h2, d, rfl, hA, hL⟩, hl⟩ := h
  have hA' : h1 b = some (true, o) := hA
  have hb2 : h2 b = none := by
    rcases d b with h' | h' | ⟨o2, h', _⟩
    · rw [hA'] at h'; cases h'
    · exact h'
    · rw [hA'] at h'; cases h'
  refine ⟨⟨he.os.trans e.os, he.tape.trans e.tape, he.output.trans e.output⟩, un (fun c => if c = b then some (true, o') else none) h2, ⟨_, h2, fun c => ?_, rfl, by simp [blk], hL⟩, fun c f u hc => ?_⟩
  · by_cases hcb : c = b
    · subst hcb; exact .inr (.inl hb2)
    · exact .inl (by simp [hcb])
  · unfold un at hc
    by_cases hcb : c = b
    · subst hcb; simp at hc; rw [hb, hc.2]
    · simp only [hcb, if_false] at hc
      have hw : w.heap[c]? = some u := by
        cases h1c : h1 c with
        | none => exact hl c f u (by unfold un; rw [h1c]; exact hc)
        | some y =>
          rcases d c with h' | h' | ⟨o2, h', h''⟩
          · rw [h'] at h1c; cases h1c
          · rw [h'] at hc; cases hc
          · rw [h''] at hc; injection hc with hc; injection hc with _ hc; subst hc
            exact hl c false o2 (by unfold un; rw [h'])
      have hlt : c < w.heap.size := (Array.getElem?_eq_some_iff.1 hw).1
      rw [hk c hcb hlt, hw]
theorem St.same (h : St E L w) (he : SameEnv w w') (hk : ∀ c, c < w.heap.size → w'.heap[c]? = w.heap[c]?) : St E L w' := by
  obtain ⟨e, x, hs, hl⟩ := h
  refine ⟨⟨he.os.trans e.os, he.tape.trans e.tape, he.output.trans e.output⟩, x, hs, fun b f o hb => ?_⟩
  have hw := hl b f o hb
  rw [hk b (Array.getElem?_eq_some_iff.1 hw).1, hw]
theorem St.add_new {b : Nat} {o : Obj} (h : St E L w) (he : SameEnv w w') (hlt : w.heap.size ≤ b) (hb : w'.heap[b]? = some o) (hk : ∀ c, c < w.heap.size → w'.heap[c]? = w.heap[c]?) : St E (blk b o :: L) w' := by
  obtain ⟨e, x, hs, hl⟩ := h
  have hxb : x b = none := by
    cases hx : x b with
    | none => rfl
    | some y => have := (Array.getElem?_eq_some_iff.1 (hl b y.1 y.2 hx)).1; omega
  refine ⟨⟨he.os.trans e.os, he.tape.trans e.tape, he.output.trans e.output⟩, un (fun c => if c = b then some (true, o) else none) x, ⟨_, x, fun c => ?_, rfl, by simp [blk], hs⟩, fun c f u hc => ?_⟩
  · by_cases hcb : c = b
    · subst hcb; exact .inr (.inl hxb)
    · exact .inl (by simp [hcb])
  · unfold un at hc
    by_cases hcb : c = b
    · subst hcb; simp at hc; rw [hb, hc.2]
    · simp only [hcb, if_false] at hc
      have hw := hl c f u hc
      rw [hk c (Array.getElem?_eq_some_iff.1 hw).1, hw]
theorem SameEnv.refl (w : World) : SameEnv w w := ⟨rfl, rfl, rfl⟩
theorem St.alloc (h : St E L w) (o : Obj) : St E (blk w.heap.size o :: L) (w.alloc o) :=
  h.add_new ⟨rfl, rfl, rfl⟩ (Nat.le_refl _) (by show (w.heap.push o)[w.heap.size]? = some o; simp) fun c hc => by
    show (w.heap.push o)[c]? = _
    rw [Array.getElem?_push, if_neg (by omega)]
theorem St.drew (h : St E L w) : St E L w.drew := h.same ⟨rfl, rfl, rfl⟩ fun _ _ => rfl
theorem St.drewN (h : St E L w) (n : Nat) : St E L { w with drawn := n } := h.same ⟨rfl, rfl, rfl⟩ fun _ _ => rfl
theorem St.freeze {b : Nat} {o : Obj} (h : St E (blk b o :: L) w) : St E (ro b o :: L) w := h.mono fun _ hx => ⟨true, hx⟩
end
end Go.Vc
namespace Go.Vc
open Go
abbrev blkL (b : Nat) (t : TypeId) (l : List Value) : Asrt := blk b (.cells ⟨l⟩ t (0, 0))
theorem add_mk (b o n : Nat) : (⟨b, o, none⟩ : Addr).add n = ⟨b, o + n, none⟩ := by
  unfold Addr.add
  split
  · rename_i h; subst h; rfl
  · rfl
section
variable {E w : World} {L : List Asrt} {b t off : Nat} {l : List Value} {fr : Nat × Nat}
theorem cell_of (hb : w.heap[b]? = some (.cells ⟨l⟩ t fr)) (off : Nat) : w.cell? ⟨b, off, none⟩ = l[off]? := by
  unfold World.cell?
  rw [hb]
  simp
theorem frozen_of (hb : w.heap[b]? = some (.cells ⟨l⟩ t (0, 0))) (off : Nat) : w.frozen? ⟨b, off, none⟩ = false := by
  unfold World.frozen?
  rw [hb]
  simp
theorem cells_one {v : Value} (h : one v = true) : v.cells = #[v] := by cases v <;> first | rfl | cases h
theorem rd_cell {v : Value} (hb : w.heap[b]? = some (.cells ⟨l⟩ t fr)) (hv : l[off]? = some v) (ho : one v = true) : rd w ⟨b, off, none⟩ v := by
  intro i u hu
  rw [cells_one ho] at hu
  cases i with
  | succ i => simp at hu
  | zero =>
    simp at hu
    subst hu
    rw [add_mk, cell_of hb]
    exact hv
theorem rd_agg {xs : List Value} (hb : w.heap[b]? = some (.cells ⟨l⟩ t fr)) (hv : ∀ i u, xs[i]? = some u → l[off + i]? = some u) : rd w ⟨b, off, none⟩ (.agg ⟨xs⟩) := by
  intro i u hu
  rw [add_mk, cell_of hb]
  exact hv i u (by simpa [Value.cells] using hu)
theorem wrOk_cell {v : Value} (hb : w.heap[b]? = some (.cells ⟨l⟩ t (0, 0))) (hoff : off < l.length) (ho : one v = true) : wrOk w ⟨b, off, none⟩ v := by
  intro i u hu
  rw [cells_one ho] at hu
  cases i with
  | succ i => simp at hu
  | zero =>
    simp at hu
    subst hu
    exact ⟨ho, ⟨l[off], by rw [add_mk, cell_of hb]; exact List.getElem?_eq_getElem hoff⟩, by rw [add_mk]; exact frozen_of hb _⟩
theorem wrOk_agg {xs : List Value} (hb : w.heap[b]? = some (.cells ⟨l⟩ t (0, 0))) (hoff : off + xs.length ≤ l.length) (ho : ∀ u ∈ xs, one u = true) : wrOk w ⟨b, off, none⟩ (.agg ⟨xs⟩) := by
  intro i u hu
  have hu' : xs[i]? = some u := by simpa [Value.cells] using hu
  have hlt : i < xs.length := (List.getElem?_eq_some_iff.1 hu').1
  exact ⟨ho u (List.mem_of_getElem? hu'), ⟨l[off + i]'(by omega), by rw [add_mk, cell_of hb]; exact List.getElem?_eq_getElem _⟩, by rw [add_mk]; exact frozen_of hb _⟩
def setAll (l : List Value) (off : Nat) : List Value → List Value
  | [] => l
  | v :: r => setAll (l.set off v) (off + 1) r
theorem heap_setCell_at (hb : w.heap[b]? = some (.cells ⟨l⟩ t fr)) (v : Value) : (w.setCell ⟨b, off, none⟩ v).heap[b]? = some (.cells ⟨l.set off v⟩ t fr) := by
  simp [World.setCell, Array.getElem?_modify, hb]
theorem heap_setCell_ne {a : Addr} {c : Nat} (h : c ≠ a.block) (v : Value) : (w.setCell a v).heap[c]? = w.heap[c]? := by
  simp only [World.setCell, Array.getElem?_modify]
  rw [if_neg (fun e => h e.symm)]
theorem SameEnv.setCell (w : World) (a : Addr) (v : Value) : SameEnv w (w.setCell a v) := ⟨rfl, rfl, rfl⟩
theorem SameEnv.trans {a b c : World} (h : SameEnv a b) (k : SameEnv b c) : SameEnv a c := ⟨k.os.trans h.os, k.tape.trans h.tape, k.output.trans h.output⟩
theorem wrL_all : ∀ (xs : List Value) (i : Nat) (w : World) (l : List Value), w.heap[b]? = some (.cells ⟨l⟩ t fr) →
    (wrL w ⟨b, off, none⟩ xs i).heap[b]? = some (.cells ⟨setAll l (off + i) xs⟩ t fr) ∧ SameEnv w (wrL w ⟨b, off, none⟩ xs i) ∧ ∀ c, c ≠ b → (wrL w ⟨b, off, none⟩ xs i).heap[c]? = w.heap[c]?
  | [], _, w, _, h => ⟨h, .refl w, fun _ _ => rfl⟩
  | v :: r, i, w, l, h => by
    have h1 := heap_setCell_at (off := off + i) h v
    obtain ⟨h2, h3, h4⟩ := wrL_all r (i + 1) (w.setCell ((⟨b, off, none⟩ : Addr).add i) v) (l.set (off + i) v) (by rw [add_mk]; exact h1)
    refine ⟨?_, .trans (.setCell ..) h3, fun c hc => (h4 c hc).trans ?_⟩
    · exact h2
    · rw [add_mk]; exact heap_setCell_ne hc v
theorem St.wr_any {u : Value} (h : St E (blkL b t l :: L) w) : St E (blkL b t (setAll l off u.cells.toList) :: L) (wr w ⟨b, off, none⟩ u) := by
  obtain ⟨h1, h2, h3⟩ := wrL_all (off := off) u.cells.toList 0 w l h.at_blk
  exact h.upd h2 h1 fun c hc _ => h3 c hc
theorem St.wr_cell {v : Value} (h : St E (blkL b t l :: L) w) (ho : one v = true) : St E (blkL b t (l.set off v) :: L) (wr w ⟨b, off, none⟩ v) := by
  have := h.wr_any (off := off) (u := v)
  rw [cells_one ho] at this
  exact this
theorem setAll_eq : ∀ (xs l : List Value) (off : Nat), off + xs.length ≤ l.length → setAll l off xs = l.take off ++ xs ++ l.drop (off + xs.length)
  | [], l, off, _ => by simp [setAll]
  | v :: r, l, off, h => by
    simp only [List.length_cons] at h
    rw [setAll, setAll_eq r (l.set off v) (off + 1) (by simp; omega)]
    have hlt : off < l.length := by omega
    rw [List.take_set, List.drop_set]
    rw [if_pos (by omega)]
    rw [show (off + 1 + r.length) = off + (r.length + 1) from by omega]
    have : (l.take (off + 1)).set off v = l.take off ++ [v] := by
      rw [List.take_succ_eq_append_getElem hlt, List.set_append]
      simp [Nat.min_eq_left (Nat.le_of_lt hlt)]
    rw [this]
    simp
theorem St.wr_agg {xs : List Value} (h : St E (blkL b t l :: L) w) (hl : off + xs.length ≤ l.length) : St E (blkL b t (l.take off ++ xs ++ l.drop (off + xs.length)) :: L) (wr w ⟨b, off, none⟩ (.agg ⟨xs⟩)) := by
  have := h.wr_any (off := off) (u := .agg ⟨xs⟩)
  rw [show (Value.agg ⟨xs⟩).cells.toList = xs from rfl, setAll_eq _ _ _ hl] at this
  exact this
theorem St.wr_agg0 {xs : List Value} (h : St E (blkL b t l :: L) w) (hl : xs.length = l.length) : St E (blkL b t xs :: L) (wr w ⟨b, 0, none⟩ (.agg ⟨xs⟩)) := by
  have := h.wr_agg (off := 0) (xs := xs) (by omega)
  simpa [hl] using this
end
def ownS (a : Option Addr) (l c : Nat) (e : TypeId) (sz : Nat) (xs : List Value) : Asrt := fun h =>
  xs.length = l * sz ∧ l ≤ c ∧ c ≤ maxLen ∧ ((a = none ∧ c = 0) ∨ ∃ g rest, a = some ⟨g, 0, none⟩ ∧ rest.length = (c - l) * sz ∧ h g = some (true, .cells ⟨xs ++ rest⟩ e (0, 0)))
def roS (a : Option Addr) (l sz : Nat) (xs : List Value) : Asrt := fun h =>
  xs.length = l * sz ∧ (l = 0 ∨ ∃ g off cs t fr f, a = some ⟨g, off, none⟩ ∧ h g = some (f, .cells ⟨cs⟩ t fr) ∧ ∀ i u, xs[i]? = some u → cs[off + i]? = some u)
section
variable {E w : World} {L : List Asrt} {a : Option Addr} {l c sz : Nat} {e : TypeId} {xs : List Value}
theorem St.ownS_facts (h : St E (ownS a l c e sz xs :: L) w) : xs.length = l * sz ∧ l ≤ c ∧ c ≤ maxLen := by
  obtain ⟨_, x, ⟨h1, h2, d, rfl, hA, _⟩, _⟩ := h
  exact ⟨hA.1, hA.2.1, hA.2.2.1⟩
theorem St.roS_facts (h : St E (roS a l sz xs :: L) w) : xs.length = l * sz := by
  obtain ⟨_, x, ⟨h1, h2, d, rfl, hA, _⟩, _⟩ := h
  exact hA.1
theorem St.ownS_open (h : St E (ownS a l c e sz xs :: L) w) : (a = none ∧ l = 0 ∧ c = 0 ∧ xs = []) ∨ ∃ g rest, a = some ⟨g, 0, none⟩ ∧ rest.length = (c - l) * sz ∧ St E (blkL g e (xs ++ rest) :: L) w := by
  obtain ⟨en, x, ⟨h1, h2, d, rfl, ⟨p1, p2, p3, hA⟩, hL⟩, hl⟩ := h
  rcases hA with ⟨ha, hc⟩ | ⟨g, rest, ha, hr, hg⟩
  · have hl0 : l = 0 := by omega
    subst hl0
    exact .inl ⟨ha, rfl, hc, List.eq_nil_of_length_eq_zero (by simpa using p1)⟩
  · exact .inr ⟨g, rest, ha, hr, en, _, ⟨h1, h2, d, rfl, hg, hL⟩, hl⟩
theorem St.ownS_nil (h : St E L w) : St E (ownS none 0 0 e sz [] :: L) w := by
  obtain ⟨en, x, hs, hl⟩ := h
  exact ⟨en, x, ⟨fun _ => none, x, fun _ => .inl rfl, by funext b; rfl, ⟨by simp, Nat.le_refl _, Nat.zero_le _, .inl ⟨rfl, rfl⟩⟩, hs⟩, hl⟩
theorem St.ownS_mk {g : Nat} {rest : List Value} (h : St E (blkL g e (xs ++ rest) :: L) w) (h1 : xs.length = l * sz) (h2 : l ≤ c) (h3 : c ≤ maxLen) (hr : rest.length = (c - l) * sz) : St E (ownS (some ⟨g, 0, none⟩) l c e sz xs :: L) w :=
  h.mono fun _ hx => ⟨h1, h2, h3, .inr ⟨g, rest, rfl, hr, hx⟩⟩
theorem St.ownS_ro (h : St E (ownS a l c e sz xs :: L) w) : St E (roS a l sz xs :: L) w := h.mono fun x ⟨h1, h2, h3, hA⟩ => ⟨h1, by
  rcases hA with ⟨ha, hc⟩ | ⟨g, rest, ha, hr, hg⟩
  · exact .inl (by omega)
  · exact .inr ⟨g, 0, _, _, _, _, ha, hg, fun i u hu => by
      rw [Nat.zero_add, List.getElem?_append_left (List.getElem?_eq_some_iff.1 hu).1]; exact hu⟩⟩
theorem St.roS_at (h : St E (roS a l sz xs :: L) w) (hl : 0 < l) : ∃ g off cs t fr, a = some ⟨g, off, none⟩ ∧ w.heap[g]? = some (.cells ⟨cs⟩ t fr) ∧ ∀ i u, xs[i]? = some u → cs[off + i]? = some u := by
  obtain ⟨_, x, ⟨h1, h2, d, rfl, ⟨_, hA⟩, _⟩, hh⟩ := h
  rcases hA with h0 | ⟨g, off, cs, t, fr, f, ha, hg, hc⟩
  · omega
  · exact ⟨g, off, cs, t, fr, ha, hh g f _ (by unfold un; rw [hg]), hc⟩
theorem one_oneCell {u : Value} (h : one u = true) : u.oneCell' = true := by cases u <;> first | rfl | cases h
end
end Go.Vc
namespace Go.Vc
open Go
theorem ite_d {p : Prop} [Decidable p] {A B : Prop} (h1 : p → A) (h2 : ¬ p → B) : if decide p = true then A else B := by
  by_cases h : p
  · rw [if_pos (by simpa using h)]; exact h1 h
  · rw [if_neg (by simpa using h)]; exact h2 h
theorem ite_b {b : Bool} {A B : Prop} (h1 : b = true → A) (h2 : b = false → B) : if b = true then A else B := by
  cases b
  · exact h2 rfl
  · exact h1 rfl
theorem ite_n {b : Bool} {A B : Prop} (h1 : b = false → A) (h2 : b = true → B) : if (!b) = true then A else B := by
  cases b
  · exact h1 rfl
  · exact h2 rfl
def RdS (w : World) (a : Option Addr) (l sz : Nat) (xs : List Value) : Prop :=
  xs.length = l * sz ∧ (l = 0 ∨ ∃ g off, a = some ⟨g, off, none⟩ ∧ ∀ i u, xs[i]? = some u → w.cell? ⟨g, off + i, none⟩ = some u)
section
variable {E w : World} {L : List Asrt} {a : Option Addr} {l c sz : Nat} {e : TypeId} {xs : List Value}
theorem St.rdS (h : St E (roS a l sz xs :: L) w) : RdS w a l sz xs := by
  refine ⟨h.roS_facts, ?_⟩
  rcases Nat.eq_zero_or_pos l with h0 | h0
  · exact .inl h0
  · obtain ⟨g, off, cs, t, fr, ha, hg, hc⟩ := h.roS_at h0
    exact .inr ⟨g, off, ha, fun i u hu => by rw [cell_of hg]; exact hc i u hu⟩
theorem St.rdS_own (h : St E (ownS a l c e sz xs :: L) w) : RdS w a l sz xs := h.ownS_ro.rdS
theorem RdS.cells (h : RdS w a l sz xs) (hl : 0 < l) : ∃ ad, a = some ad ∧ ad.spot = none ∧ ∀ i u, xs[i]? = some u → w.cell? (ad.add i) = some u := by
  rcases h.2 with h0 | ⟨g, off, ha, hc⟩
  · omega
  · exact ⟨_, ha, rfl, fun i u hu => by rw [add_mk]; exact hc i u hu⟩
theorem RdS.grow {w' : World} (h : RdS w a l sz xs) (hk : ∀ b, b < w.heap.size → w'.heap[b]? = w.heap[b]?) : RdS w' a l sz xs := by
  refine ⟨h.1, h.2.imp id fun ⟨g, off, ha, hc⟩ => ⟨g, off, ha, fun i u hu => ?_⟩⟩
  have := hc i u hu
  have hlt : g < w.heap.size := by
    rcases Nat.lt_or_ge g w.heap.size with h' | h'
    · exact h'
    · simp [World.cell?, Array.getElem?_eq_none h'] at this
  rw [← this]
  unfold World.cell?
  rw [hk g hlt]
theorem RdS.alloc (h : RdS w a l sz xs) (o : Obj) : RdS (w.alloc o) a l sz xs := h.grow fun b hb => by
  show (w.heap.push o)[b]? = _
  rw [Array.getElem?_push, if_neg (by omega)]
theorem RdS.nil (w : World) (a : Option Addr) : RdS w a 0 sz [] := ⟨by simp, .inl rfl⟩
theorem RdS.sub (h : RdS w a l sz xs) {lo hi : Nat} (h1 : lo ≤ hi) (h2 : hi ≤ l) (c0 : Nat) (hc : hi ≤ c0) :
    RdS w (if c0 = lo then a else a.map fun x => x.add (lo * sz)) (hi - lo) sz ((xs.drop (lo * sz)).take ((hi - lo) * sz)) := by
  have hlen := h.1
  refine ⟨?_, ?_⟩
  · rw [List.length_take, List.length_drop, hlen, ← Nat.sub_mul]
    exact Nat.min_eq_left (Nat.mul_le_mul_right _ (by omega))
  · rcases Nat.eq_zero_or_pos (hi - lo) with h0 | h0
    · exact .inl h0
    · rcases h.2 with h0' | ⟨g, off, ha, hcs⟩
      · omega
      · rw [if_neg (by omega), ha]
        refine .inr ⟨g, off + lo * sz, by simp [add_mk], fun i u hu => ?_⟩
        rw [Nat.add_assoc]
        refine hcs _ _ ?_
        rw [List.getElem?_take] at hu
        split at hu
        · rwa [List.getElem?_drop] at hu
        · cases hu
theorem RdS.rd_cell (h : RdS w a l sz xs) {ad : Addr} (ha : a = some ad) (hl : 0 < l) {i : Nat} {v : Value} (hv : xs[i]? = some v) (ho : one v = true) : rd w (ad.add i) v := by
  obtain ⟨ad', ha', _, hc⟩ := h.cells hl
  rw [ha] at ha'; injection ha' with ha'; subst ha'
  intro j u hu
  rw [cells_one ho] at hu
  cases j with
  | succ j => simp at hu
  | zero =>
    simp at hu
    subst hu
    have := hc i v hv
    obtain ⟨g, off, spot⟩ := ad
    unfold Addr.add at this ⊢
    simpa using this
theorem RdS.rd_agg (h : RdS w a l sz xs) {ad : Addr} (ha : a = some ad) (hl : 0 < l) {o : Nat} {vs : List Value} (hv : ∀ i u, vs[i]? = some u → xs[o + i]? = some u) : rd w (ad.add o) (.agg ⟨vs⟩) := by
  rcases h.2 with h0 | ⟨g, off, ha', hc⟩
  · omega
  · rw [ha] at ha'; injection ha' with ha'; subst ha'
    intro i u hu
    rw [add_mk, add_mk, Nat.add_assoc]
    exact hc _ _ (hv i u (by simpa [Value.cells] using hu))
theorem append_own {P : Program} {t ty e : TypeId} {i : TypeInfo} {z : Value} (ht : P.underlying t = some (.slice e)) (hi : P.info? e = some i) (hz : i.zero = some z) (hzs : z.cells.size = i.size) (hsz : 0 < i.size)
    {a a2 : Option Addr} {l c l2 c2 : Nat} {xs ys : List Value} (h : St E (ownS a l c e i.size xs :: L) w) (hro : RdS w a2 l2 i.size ys) (h1 : ∀ u ∈ ys, one u = true) (hb : (l + l2) * i.bytes ≤ 140737488355328) (h63 : l + l2 ≤ maxLen) :
    ∃ a' c' w', (Builtin.append_ #[t, t] ty #[.slice a l c, .slice a2 l2 c2]).run P w = .ok (.slice a' (l + l2) c') w' ∧ St E (ownS a' (l + l2) c' e i.size (xs ++ ys) :: L) w' := by
  have hfact := h.ownS_facts
  have hrol := hro.1
  cases a2 with
  | none =>
    have hl2 : l2 = 0 := by
      rcases Nat.eq_zero_or_pos l2 with h0 | h0
      · exact h0
      · obtain ⟨ad, ha, _⟩ := hro.cells h0; cases ha
    subst hl2
    have hys : ys = [] := List.eq_nil_of_length_eq_zero (by simpa using hrol)
    subst hys
    refine ⟨a, c, w, ?_, by simpa using h⟩
    rcases h.ownS_open with ⟨rfl, rfl, rfl, rfl⟩ | ⟨g, rest, rfl, _, _⟩
    · simp [Builtin.append_, run_underlying_ ht, sizeOf, typeInfo, hi, Builtin.lenOf, Builtin.firstCells, program, Sem.run]
    · simp [Builtin.append_, run_underlying_ ht, sizeOf, typeInfo, hi, Builtin.lenOf, Builtin.firstCells, hfact.2.1, storeCells, program, Sem.run]
  | some ad =>
    have hcells : ∀ j u, ys[j]? = some u → w.cell? (ad.add j) = some u := by
      intro j u hu
      rcases Nat.eq_zero_or_pos l2 with h0 | h0
      · subst h0
        have hys : ys = [] := List.eq_nil_of_length_eq_zero (by simpa using hrol)
        subst hys
        simp at hu
      · obtain ⟨ad', ha, _, hc⟩ := hro.cells h0
        injection ha with ha; subst ha
        exact hc j u hu
    have hown : w.ownsRow 0 e i.size (.slice a l c) l xs := by
      refine ⟨hfact.1, ?_⟩
      rcases h.ownS_open with ⟨rfl, rfl, rfl, rfl⟩ | ⟨g, rest, rfl, hr, hs⟩
      · exact .inl ⟨rfl, rfl⟩
      · refine .inr ⟨g, c, ⟨xs ++ rest⟩, rfl, Nat.zero_le _, hs.at_blk, hfact.2.1, hfact.2.2, ?_, ?_⟩
        · simp only [List.size_toArray, List.length_append, hfact.1, hr, ← Nat.add_mul]
          rw [show l + (c - l) = c from by omega]
        · simp [hfact.1]
    obtain ⟨v', w', hrun, hown', hgrow, _, hat⟩ := run_append_own_at (P := P) w 0 t ty e i z i.size i.bytes ht hi hz rfl rfl hzs hsz (.slice a l c) l xs hown ad l2 c2 ys hrol hcells (fun u hu => one_oneCell (h1 u hu)) h63 hb (Nat.zero_le _)
    have henv : SameEnv w w' := ⟨hgrow.os, hgrow.tape, hgrow.output⟩
    rcases hown'.2 with ⟨rfl, hn0⟩ | ⟨g', cap, cur, rfl, _, hg', hcap, hcapm, hcur, htake⟩
    · -- nothing at all
      have hl0 : l = 0 := by omega
      have hl20 : l2 = 0 := by omega
      subst hl0; subst hl20
      have hys : ys = [] := List.eq_nil_of_length_eq_zero (by simpa using hrol)
      have hxs : xs = [] := List.eq_nil_of_length_eq_zero (by simpa using hfact.1)
      subst hys; subst hxs
      refine ⟨none, 0, w', hrun, St.ownS_nil (h.drop.same henv fun b hb => ?_)⟩
      refine hgrow.block b hb ?_
      rcases hat with e | e
      · rw [← e]; simp [Value.ownBlock]
      · cases e
    · have hsplit : cur = ⟨(xs ++ ys) ++ cur.toList.drop ((l + l2) * i.size)⟩ := by
        apply Array.ext'
        show cur.toList = _
        rw [← htake, List.take_append_drop]
      have hrl : (cur.toList.drop ((l + l2) * i.size)).length = (cap - (l + l2)) * i.size := by
        rw [List.length_drop, Array.length_toList, hcur, Nat.sub_mul]
      have hlen : (xs ++ ys).length = (l + l2) * i.size := hown'.1
      refine ⟨some ⟨g', 0, none⟩, cap, w', hrun, St.ownS_mk (rest := cur.toList.drop ((l + l2) * i.size)) ?_ hlen hcap hcapm hrl⟩
      have hg2 : w'.heap[g']? = some (.cells ⟨(xs ++ ys) ++ cur.toList.drop ((l + l2) * i.size)⟩ e (0, 0)) := by rw [← hsplit]; exact hg'
      rcases hat with e1 | e1
      · -- in its own row
        rcases h.ownS_open with ⟨rfl, rfl, rfl, rfl⟩ | ⟨g, rest, rfl, hr, hs⟩
        · simp [Value.ownBlock] at e1
        · have hgg : g' = g := by simpa [Value.ownBlock] using e1
          subst hgg
          exact hs.upd henv hg2 fun b hb hlt => hgrow.block b hlt (by simpa [Value.ownBlock] using fun e => hb e)
      · -- in a new one
        have hgg : g' = w.heap.size := by simpa [Value.ownBlock] using e1
        subst hgg
        rcases h.ownS_open with ⟨rfl, rfl, rfl, rfl⟩ | ⟨g, rest, rfl, hr, hs⟩
        · exact (h.drop.add_new henv (Nat.le_refl _) hg2 fun b hb => hgrow.block b hb (by simp [Value.ownBlock]))
        · -- what was the old row is let go
          have hk : ∀ b, b < w.heap.size → b ≠ g → w'.heap[b]? = w.heap[b]? := fun b hb hne => hgrow.block b hb (by simpa [Value.ownBlock] using fun e => hne e)
          have hglt : g < w.heap.size := (Array.getElem?_eq_some_iff.1 hs.at_blk).1
          have hglt' : g < w'.heap.size := Nat.lt_of_lt_of_le hglt hgrow.size
          have hs2 : St E (blk g w'.heap[g] :: L) w' := hs.upd henv (Array.getElem?_eq_getElem hglt') fun b hb hlt => hk b hlt hb
          have hs3 := hs2.drop
          obtain ⟨en, x, hsx, hlx⟩ := hs.drop
          have hs4 : St E (blk w.heap.size (.cells ⟨(xs ++ ys) ++ cur.toList.drop ((l + l2) * i.size)⟩ e (0, 0)) :: L) w' := by
            obtain ⟨en', y, ⟨y1, y2, d, rfl, hA, hL⟩, hl⟩ := hs
            have hA' : y1 g = some (true, .cells ⟨xs ++ rest⟩ e (0, 0)) := hA
            have hy2g : y2 g = none := by
              rcases d g with h' | h' | ⟨o, h', _⟩
              · rw [hA'] at h'; cases h'
              · exact h'
              · rw [hA'] at h'; cases h'
            have hl2' : ∀ b f o, y2 b = some (f, o) → w.heap[b]? = some o := by
              intro b f o hb
              cases hy1 : y1 b with
              | none => exact hl b f o (by unfold un; rw [hy1]; exact hb)
              | some q =>
                rcases d b with h' | h' | ⟨o', h', h''⟩
                · rw [h'] at hy1; cases hy1
                · rw [h'] at hb; cases hb
                · rw [h''] at hb; injection hb with hb; injection hb with _ hb; subst hb
                  exact hl b false o' (by unfold un; rw [h'])
            have hnew : y2 w.heap.size = none := by
              cases hc : y2 w.heap.size with
              | none => rfl
              | some q => have := (Array.getElem?_eq_some_iff.1 (hl2' _ q.1 q.2 hc)).1; omega
            refine ⟨⟨henv.os.trans en'.os, henv.tape.trans en'.tape, henv.output.trans en'.output⟩, un (fun b => if b = w.heap.size then some (true, .cells ⟨(xs ++ ys) ++ cur.toList.drop ((l + l2) * i.size)⟩ e (0, 0)) else none) y2, ⟨_, y2, fun b => ?_, rfl, by simp [blk], hL⟩, fun b f o hb => ?_⟩
            · by_cases hbs : b = w.heap.size
              · subst hbs; exact .inr (.inl hnew)
              · exact .inl (by simp [hbs])
            · unfold un at hb
              by_cases hbs : b = w.heap.size
              · subst hbs
                simp only [if_true] at hb
                injection hb with hb
                injection hb with _ hb
                rw [hg2, ← hb]
              · simp only [hbs, if_false] at hb
                have hw := hl2' b f o hb
                have hne : b ≠ g := fun e => by subst e; rw [hy2g] at hb; cases hb
                rw [hk b (Array.getElem?_eq_some_iff.1 hw).1 hne, hw]
          exact hs4
end
def Sees (E : World) (L : List Asrt) (a : Option Addr) (l sz : Nat) (xs : List Value) : Prop := ∀ w, St E L w → RdS w a l sz xs
theorem Sees.more {E : World} {L : List Asrt} {a : Option Addr} {l sz : Nat} {xs : List Value} (h : Sees E L a l sz xs) (A : Asrt) : Sees E (A :: L) a l sz xs := fun w hw => h w hw.drop
section
variable {E w : World} {L : List Asrt} {b t k : Nat} {l : List Value} {fr : Nat × Nat} {v : Value}
theorem rd_fld (hb : w.heap[b]? = some (.cells ⟨l⟩ t fr)) (hv : l[k]? = some v) (ho : one v = true) : rd w ((⟨b, 0, none⟩ : Addr).add k) v := by
  rw [add_mk, Nat.zero_add]; exact Go.Vc.rd_cell hb hv ho
theorem wrOk_fld (hb : w.heap[b]? = some (.cells ⟨l⟩ t (0, 0))) (hk : k < l.length) (ho : one v = true) : wrOk w ((⟨b, 0, none⟩ : Addr).add k) v := by
  rw [add_mk, Nat.zero_add]; exact wrOk_cell hb hk ho
theorem St.wr_fld (h : St E (blkL b t l :: L) w) (ho : one v = true) : St E (blkL b t (l.set k v) :: L) (wr w ((⟨b, 0, none⟩ : Addr).add k) v) := by
  rw [add_mk, Nat.zero_add]; exact h.wr_cell ho
end
section
variable {α : Type} {f : α → List Value} {sz : Nat}
theorem flat_len (hf : ∀ q, (f q).length = sz) : ∀ (qs : List α), (qs.flatMap f).length = qs.length * sz
  | [] => by simp
  | q :: r => by simp only [List.flatMap_cons, List.length_append, List.length_cons, hf, flat_len hf r, Nat.add_mul]; omega
theorem flat_get (hf : ∀ q, (f q).length = sz) : ∀ (qs : List α) (j k : Nat) (q : α), qs[j]? = some q → k < sz → (qs.flatMap f)[j * sz + k]? = (f q)[k]?
  | [], j, k, q, h, _ => by simp at h
  | p :: r, 0, k, q, h, hk => by
    simp at h; subst h
    rw [List.flatMap_cons, Nat.zero_mul, Nat.zero_add, List.getElem?_append_left (by rw [hf]; exact hk)]
  | p :: r, j + 1, k, q, h, hk => by
    rw [List.flatMap_cons, List.getElem?_append_right (by rw [hf, Nat.add_mul]; omega), hf, show (j + 1) * sz + k - sz = j * sz + k from by rw [Nat.add_mul]; omega]
    exact flat_get hf r j k q (by simpa using h) hk
variable {E w : World} {L : List Asrt} {a : Option Addr} {l c : Nat} {e : TypeId} {qs : List α}
theorem RdS.elem (h : RdS w a l sz (qs.flatMap f)) (hf : ∀ q, (f q).length = sz) {j : Nat} {q : α} (hj : qs[j]? = some q) (h0 : 0 < sz) : ∃ ad, a = some ad ∧ rd w (ad.add (j * sz)) (.agg ⟨f q⟩) ∧ ∀ k v, (f q)[k]? = some v → one v = true → rd w ((ad.add (j * sz)).add k) v := by
  have hl : qs.length = l := by have := h.1; rw [flat_len hf] at this; exact Nat.eq_of_mul_eq_mul_right h0 this
  have hjl : j < qs.length := (List.getElem?_eq_some_iff.1 hj).1
  have hk : ∀ k u, (f q)[k]? = some u → (qs.flatMap f)[j * sz + k]? = some u := fun k u hu => by
    rw [flat_get hf qs j k q hj (by have := (List.getElem?_eq_some_iff.1 hu).1; rwa [hf] at this)]; exact hu
  obtain ⟨ad, ha, hs, hc⟩ := h.cells (by omega)
  refine ⟨ad, ha, h.rd_agg ha (by omega) hk, fun k v hv ho => ?_⟩
  have := h.rd_cell ha (by omega) (hk k v hv) ho
  obtain ⟨g, off, spot⟩ := ad
  cases hs
  rw [add_mk, add_mk] at *
  rw [Nat.add_assoc]; exact this
theorem RdS.count (h : RdS w a l sz (qs.flatMap f)) (hf : ∀ q, (f q).length = sz) (h0 : 0 < sz) : qs.length = l := by
  have := h.1; rw [flat_len hf] at this; exact Nat.eq_of_mul_eq_mul_right h0 this
end
section
variable {E w : World} {L : List Asrt} {a : Option Addr} {l c sz : Nat} {e : TypeId} {xs : List Value}
theorem St.ownS_set (h : St E (ownS a l c e sz xs :: L) w) {ad : Addr} (ha : a = some ad) {i : Nat} (hi : i < xs.length) {v : Value} (ho : one v = true) : wrOk w (ad.add i) v ∧ St E (ownS a l c e sz (xs.set i v) :: L) (wr w (ad.add i) v) := by
  have hf := h.ownS_facts
  rcases h.ownS_open with ⟨rfl, _⟩ | ⟨g, rest, rfl, hr, hs⟩
  · cases ha
  · injection ha with ha; subst ha
    rw [add_mk, Nat.zero_add]
    refine ⟨wrOk_cell hs.at_blk (by simp; omega) ho, ?_⟩
    have := hs.wr_cell (off := i) ho
    rw [List.set_append_left _ _ hi] at this
    exact this.ownS_mk (by simp [hf.1]) hf.2.1 hf.2.2 hr
end
section
variable {P : Program} {E w : World} {L : List Asrt} {t ty e : TypeId} {i : TypeInfo} {z : Value}
end
end Go.Vc
