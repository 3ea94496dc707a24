/-
  One operation that looks at memory, or calls: what it comes to, as a Prop; sound for the model's own run.
-/
import Derived.Test.YtcpmfjclkdjfmaaGreatVcOp
namespace Go.Vc
open Go

def hasBody (P : Program) (g : FuncId) : Bool :=
  match P.funcs[g]? with
  | some fn => fn.body.isSome && !(fn.name == "runtime.NumGoroutine")
  | none => false
def aggT (P : Program) (t : TypeId) : Bool := match P.underlying t with | some (.struct _) | some (.array _ _) => true | _ => false
def ldOk (P : Program) (t : TypeId) (z : Value) : Bool :=
  match z with
  | .agg cs => aggT P t && (match szOf P t with | some n => Nat.beq cs.size n | none => false)
  | z => one z && !aggT P t && (P.underlying t).isSome
def shp (P : Program) (o : Oper) (v : Value) (K : Value → Prop) : Prop :=
  match o.dst with
  | none => K v
  | some _ => shaped P o.type v K
def ret (K : Value → World → Prop) (X : List PanicEntry → World → Prop) : Ending → World → Prop
  | .returned v, w => K v w
  | .panicked ch, w => X ch w
  | .outgrown, _ => False
def retK (P : Program) (o : Oper) (K : Value → World → Prop) (X : List PanicEntry → World → Prop) : Ending → World → Prop :=
  ret (fun v w => shp P o v fun v => K v w) X
def bsCells (P : Program) (e : TypeId) (len : Nat) (parts : Array (Nat × Value)) : Option (Array Value) :=
  match szOf P e, tmpl P e with
  | some size, some z => cond (Nat.ble (len * size) 16777216) (Instr.fill (fun i => some (i * size, size)) ((Array.range (len * size)).map ((if len * size = 0 then #[] else z.cells)[· % (if len * size = 0 then #[] else z.cells : Array Value).size]!)) parts.toList) none
  | _, _ => none

def runS (P : Program) (o : Oper) (s : Sem Value) (w : World) (K : Value → World → Prop) (X : List PanicEntry → World → Prop) : Prop :=
  runV P s w (fun v w' => shp P o v fun v => K v w') X
def runU (P : Program) (s : Sem Unit) (w : World) (K : Value → World → Prop) (X : List PanicEntry → World → Prop) : Prop :=
  runV P s w (fun _ w' => K undef w') X

def nxv (K : Value → World → Prop) : Next → World → Prop := fun nx w => match nx with | .value v => K v w | _ => False
def isFn : Operand → Bool
  | .func _ => true
  | _ => false
/-- A call of a function by its name (d); of a function's value. -/
def vcCall (P : Program) (o : Oper) (d : Bool) (f : Value) (args : List Value) (w : World) (K : Value → World → Prop) (X : List PanicEntry → World → Prop) : Prop :=
  match f with
  | .func (.func g) fi ca =>
    cond d (cond (hasBody P g) (Calls P g ⟨fi.toList ++ (args ++ ca.toList)⟩ w (retK P o K X))
      (runV P (callFunc g ⟨fi.toList ++ (args ++ ca.toList)⟩) w (nxv fun v w' => shp P o v (fun v => K v w')) X))
      (hasBody P g = true ∧ Calls P g ⟨fi.toList ++ (args ++ ca.toList)⟩ w (retK P o K X))
  | _ => False

def vcMem (P : Program) (ρ : Operand → Value) (o : Oper) (w : World) (K : Value → World → Prop) (X : List PanicEntry → World → Prop) : Prop :=
  match o.op with
  | .alloc t => (match tmpl P t with | some z => K (.pointer (some ⟨w.heap.size, 0, none⟩)) (w.alloc (.cells z.cells t)) | none => False)
  | .box t x => K (.pointer (some ⟨w.heap.size, 0, none⟩)) (w.alloc (.cells (ρ x).cells t))
  | .load t x => (match ρ x, tmpl P t with | .pointer (some a), some z => cond (ldOk P t z) (mk 4 z fun u => rd w a u ∧ K u w) False | _, _ => False)
  | .store t x y => (match ρ x, szOf P t with | .pointer (some a), some n => (ρ y).cells.size = n ∧ wrOk w a (ρ y) ∧ K undef (wr w a (ρ y)) | _, _ => False)
  | .buildSlice t len parts => (match P.underlying t with
    | some (.slice e) => (match bsCells P e len (parts.map fun (i, x) => (i, ρ x)) with | some cs => K (.slice (some ⟨w.heap.size, 0, none⟩) len len) (w.alloc (.cells cs e)) | none => False)
    | _ => False)
  | .makeMap _ none => K (.map (some w.heap.size)) (w.alloc (.map #[] 0))
  | .binOp op t x y _ => runS P o (do eqGuard op t x y (ρ x) (ρ y); binOp op t (ρ x) (ρ y)) w K X
  | .convert s d x => runS P o (convert s d (ρ x)) w K X
  | .lookup t x i ok => runS P o (Instr.lookup t (ρ x) (ρ i) ok) w K X
  | .makeSlice t l c => runS P o (Instr.makeSlice t (ρ l) (ρ c)) w K X
  | .typeAssert x t u ok => runS P o (Instr.typeAssert (ρ x) t u ok) w K X
  | .range t x => runV P (Instr.range t (ρ x)) w (fun v w' => ∃ a, v = .pointer (some a) ∧ K (.pointer (some a)) w') X
  | .next it s => cond s (runS P o (Instr.next (ρ it) s o.type) w K X) (runV P (Instr.next (ρ it) s o.type) w (fun v w' => ∃ b l, v = .tuple ⟨.bool b :: l⟩ ∧ K (.tuple ⟨.bool b :: l⟩) w') X)
  | .entry it => runV P (Instr.entry (ρ it)) w (fun v w' => ∃ k u, v = .tuple #[k, u] ∧ K (.tuple #[k, u]) w') X
  | .index t x i => runS P o (Instr.index t (ρ x) (ρ i)) w K X
  | .mapUpdate t m k x | .insert t m k x => runU P (Instr.mapUpdate t (ρ m) (ρ k) (ρ x)) w K X
  | .panic x => runS P o (Instr.panic (ρ x)) w K X
  | .call c =>
    (match c.callee with
     | .builtin .append => runS P o (Builtin.append_ c.argTypes o.type (c.args.map ρ)) w K X
     | .builtin .copy => runS P o (Builtin.copy_ c.argTypes o.type (c.args.map ρ)) w K X
     | .builtin .delete => runS P o (Builtin.delete_ c.argTypes o.type (c.args.map ρ)) w K X
     | .builtin .clear => runS P o (Builtin.clear_ c.argTypes o.type (c.args.map ρ)) w K X
     | .builtin .len => runS P o (Builtin.len_ c.argTypes o.type (c.args.map ρ)) w K X
     | .builtin .max => runS P o (Builtin.max_ c.argTypes o.type (c.args.map ρ)) w K X
     | .builtin .min => runS P o (Builtin.min_ c.argTypes o.type (c.args.map ρ)) w K X
     | .builtin .panic => runS P o (Instr.panic ((c.args.map ρ).getD 0 .nilIface)) w K X
     | .value f => vcCall P o (isFn f) (ρ f) (c.args.map ρ).toList w K X
     | _ => False)
  | _ => False

/-! ### it is sound -/

def Out (P : Program) (s : Sem Next) (w : World) (K : Value → World → Prop) (X : List PanicEntry → World → Prop) : Prop :=
  match s.run P w with
  | .ok (.value v) w' => K v w'
  | .ok .skip w' => K undef w'
  | .ok (.enter f args) w' => Calls P f args w' fun
      | .returned v, w'' => K v w''
      | .panicked ch, w'' => X ch w''
      | .outgrown, _ => False
  | .halt (.panic v) w' => X (chain v) w'
  | _ => False

section
variable {P : Program} {ρ : Operand → Value} {o : Oper} {w : World} {K : Value → World → Prop} {X : List PanicEntry → World → Prop}

theorem shp_at {v : Value} {K : Value → Prop} (h : shp P o v K) : K v := by
  unfold shp at h
  split at h
  · exact h
  · exact shaped_at h
theorem shp_mono {v : Value} {K K' : Value → Prop} (hm : ∀ v, K v → K' v) (h : shp P o v K) : shp P o v K' := by
  unfold shp at *
  split at h
  · exact hm _ h
  · exact shaped_mono hm h

theorem Out.of_runS {s : Sem Value} (h : runS P o s w K X) : Out P (do pure (.value (← s))) w K X := by
  unfold runS runV at h
  unfold Out
  simp only [Sem.run_bind, Sem.run_pure]
  generalize s.run P w = r at *
  cases r with
  | ok v w' => exact shp_at h
  | halt x w' => cases x <;> first | exact h | exact h.elim
theorem Out.of_runV {s : Sem Value} (h : runV P s w K X) : Out P (do pure (.value (← s))) w K X := by
  unfold runV at h
  unfold Out
  simp only [Sem.run_bind, Sem.run_pure]
  generalize s.run P w = r at *
  cases r with
  | ok v w' => exact h
  | halt x w' => cases x <;> first | exact h | exact h.elim
theorem Out.of_runU {s : Sem Unit} (h : runU P s w K X) : Out P (do s; pure .skip) w K X := by
  unfold runU runV at h
  unfold Out
  simp only [Sem.run_bind, Sem.run_pure]
  generalize s.run P w = r at *
  cases r with
  | ok v w' => exact h
  | halt x w' => cases x <;> first | exact h | exact h.elim
theorem Out.of_run {s : Sem Value} {v : Value} {w' : World} (h : s.run P w = .ok v w') (hk : K v w') : Out P (do pure (.value (← s))) w K X := by
  unfold Out
  simp only [Sem.run_bind, Sem.run_pure, h, Result.andThen_ok]
  exact hk

theorem run_zeroValue_ {t : TypeId} {z : Value} (h : tmpl P t = some z) (w : World) : (zeroValue t).run P w = .ok z w := by
  unfold tmpl at h
  cases hi : P.info? t with
  | none => simp [hi] at h
  | some i =>
    simp only [hi, Option.bind_some] at h
    simp [zeroValue, typeInfo, program, Sem.run, hi, h]

theorem run_newVar_ (t : TypeId) (v : Value) (w : World) : (newVar t v).run P w = .ok ⟨w.heap.size, 0, none⟩ (w.alloc (.cells v.cells t)) := by
  rfl

theorem run_loadCellsFrom (a : Addr) : ∀ (l : List Value) (i : Nat) (acc : Array Value), (∀ j v, l[j]? = some v → w.cell? (a.add (i + j)) = some v) →
    (loadCellsFrom a i l.length acc).run P w = .ok (acc ++ l.toArray) w
  | [], i, acc, _ => by simp [loadCellsFrom]
  | v :: r, i, acc, h => by
    have h0 : w.cell? (a.add i) = some v := by simpa using h 0 v (by simp)
    have ih := run_loadCellsFrom a r (i + 1) (acc.push v) fun j u hu => by
      have := h (j + 1) u (by simpa using hu)
      rwa [show i + 1 + j = i + (j + 1) from by omega]
    simp [loadCellsFrom, load, Sem.run, h0, ih]

theorem run_isAgg {t : TypeId} {d : TypeDesc} (h : P.underlying t = some d) (w : World) : (isAgg t).run P w = .ok (aggT P t) w := by
  unfold isAgg aggT
  simp only [Sem.run_bind, run_underlying_ h, Result.andThen_ok, h]
  cases d <;> rfl

theorem under_some_of_agg {t : TypeId} (h : aggT P t = true) : ∃ d, P.underlying t = some d := by
  unfold aggT at h
  cases hu : P.underlying t with
  | none => simp [hu] at h
  | some d => exact ⟨d, rfl⟩

theorem run_loadAt {t : TypeId} {z : Value} {a : Addr} {u : Value} (hz : ldOk P t z = true) (hu : alike z u) (hr : rd w a u) : (Instr.loadAt t (.pointer (some a))).run P w = .ok u w := by
  unfold ldOk at hz
  split at hz
  · rename_i cs
    simp only [Bool.and_eq_true] at hz
    obtain ⟨hag, hs⟩ := hz
    obtain ⟨d, hd⟩ := under_some_of_agg hag
    obtain ⟨xs, rfl, hxs⟩ := hu
    cases hn : szOf P t with
    | none => simp [hn] at hs
    | some n =>
      simp only [hn] at hs
      have hcs : cs.size = n := Nat.eq_of_beq_eq_true hs
      have hl := run_loadCellsFrom (P := P) (w := w) a xs.toList 0 #[] fun j v hv => by
        rw [Nat.zero_add]
        exact hr j v (by simpa [Value.cells] using hv)
      have hlen : xs.toList.length = n := by simp [hxs, hcs]
      rw [hlen] at hl
      simp [Instr.loadAt, Instr.sureAddr, loadVar, run_isAgg hd, hag, run_sizeOf_ hn, loadCells, hl]
  · rename_i hnagg
    simp only [Bool.and_eq_true, Bool.not_eq_true'] at hz
    obtain ⟨⟨ho, hag⟩, hd⟩ := hz
    obtain ⟨d, hd⟩ := Option.isSome_iff_exists.1 hd
    have hou : one u = true := by
      unfold alike at hu
      split at hu
      · rename_i cs; cases ho
      · cases ho
      · exact hu
    have hcells : u.cells = #[u] := by cases u <;> first | rfl | cases hou
    have hc : w.cell? a = some u := by
      have := hr 0 u (by rw [hcells]; rfl)
      simpa [Addr.add] using this
    simp [Instr.loadAt, Instr.sureAddr, loadVar, run_isAgg hd, hag, hc]

theorem cell_setCell_some {w : World} {p : Addr} {v : Value} (q : Addr) (u : Value) (h : w.cell? q = some u) : ∃ u', (w.setCell p v).cell? q = some u' := by
  unfold World.cell? World.setCell at *
  simp only [Array.getElem?_modify]
  by_cases hb : p.block = q.block
  · simp only [hb, if_true]
    cases ho : w.heap[q.block]? with
    | none => simp [ho] at h
    | some o =>
      cases o <;> simp only [ho, Option.map_some] at h ⊢ <;> try cases h
      rename_i c e fz
      split at h
      · cases h
      · rename_i hs
        rw [if_neg hs]
        have hlt : q.off < c.size := (Array.getElem?_eq_some_iff.1 h).1
        refine ⟨(if p.spot.isSome then c else c.setIfInBounds p.off v)[q.off]'(by split <;> simp [hlt]), Array.getElem?_eq_getElem _⟩
  · simp only [hb, if_false]
    exact ⟨u, h⟩
theorem frozen_setCell {w : World} {p : Addr} {v : Value} (q : Addr) : (w.setCell p v).frozen? q = w.frozen? q := by
  unfold World.frozen? World.setCell
  simp only [Array.getElem?_modify]
  by_cases hb : p.block = q.block
  · simp only [hb, if_true]
    cases ho : w.heap[q.block]? with
    | none => simp
    | some o => cases o <;> simp
  · simp only [hb, if_false]

theorem run_storeCells (a : Addr) : ∀ (l : List Value) (i : Nat) (w : World), (∀ j v, l[j]? = some v → one v = true ∧ (∃ old, w.cell? (a.add (i + j)) = some old) ∧ w.frozen? (a.add (i + j)) = false) →
    (storeCells a l i).run P w = .ok () (wrL w a l i)
  | [], i, w, _ => by simp [storeCells, wrL]
  | v :: r, i, w, h => by
    obtain ⟨ho, ⟨old, hc⟩, hf⟩ := h 0 v (by simp)
    rw [Nat.add_zero] at hc hf
    have ih := run_storeCells a r (i + 1) (w.setCell (a.add i) v) fun j u hu => by
      obtain ⟨h1, ⟨old', h2⟩, h3⟩ := h (j + 1) u (by simpa using hu)
      rw [show i + (j + 1) = i + 1 + j from by omega] at h2 h3
      exact ⟨h1, cell_setCell_some _ _ h2, by rw [frozen_setCell]; exact h3⟩
    have hs : (store (a.add i) v).run P w = .ok () (w.setCell (a.add i) v) := by
      cases v <;> first | (simp only [one] at ho; cases ho; done) | simp [store, Sem.run, hc, hf]
    rw [storeCells, Sem.run_bind, hs, Result.andThen_ok, ih]
    rfl

theorem run_storeAt {t : TypeId} {a : Addr} {u : Value} {n : Nat} (hn : szOf P t = some n) (hs : u.cells.size = n) (h : wrOk w a u) : (Instr.storeAt t (.pointer (some a)) u).run P w = .ok () (wr w a u) := by
  have hr := run_storeCells (P := P) a u.cells.toList 0 w fun j v hv => by
    rw [Nat.zero_add]
    exact h j v (by simpa using hv)
  simp [Instr.storeAt, Instr.sureAddr, storeVar, run_sizeOf_ hn, hs, hr, wr]

theorem run_callFunc {g : FuncId} (h : hasBody P g = true) (args : Array Value) (w : World) : (callFunc g args).run P w = .ok (.enter g args) w := by
  unfold hasBody at h
  cases hg : P.funcs[g]? with
  | none => simp [hg] at h
  | some fn =>
    simp only [hg, Bool.and_eq_true, Bool.not_eq_true'] at h
    obtain ⟨hb, hn⟩ := h
    have hb' : ¬ fn.body = none := by cases hbb : fn.body <;> simp [hbb] at hb ⊢
    have hn' : ¬ fn.name = "runtime.NumGoroutine" := by simpa using hn
    simp [callFunc, program, Sem.run, hg, hn', hb']

theorem vcCall_sound {d : Bool} {f : Value} {args : Array Value} (h : vcCall P o d f args.toList w K X) : Out P (do let d ← Deferred.ofValue f args; invoke d.target d.args) w K X := by
  unfold vcCall at h
  split at h
  · rename_i g fi ca
    have hargs : fi ++ args ++ ca = (⟨fi.toList ++ (args.toList ++ ca.toList)⟩ : Array Value) := by
      apply Array.ext'
      simp
    have body : hasBody P g = true → Calls P g ⟨fi.toList ++ (args.toList ++ ca.toList)⟩ w (retK P o K X) → Out P (do let d ← Deferred.ofValue (.func (.func g) fi ca) args; invoke d.target d.args) w K X := by
      intro hb h
      unfold Out
      simp only [Deferred.ofValue, Sem.run_bind, Sem.run_pure, Result.andThen_ok, invoke, hargs, run_callFunc hb]
      refine h.mono fun e w' he => ?_
      cases e <;> first | exact shp_at (K := fun v => K v w') he | exact he
    cases d <;> simp only [cond] at h
    · exact body h.1 h.2
    · cases hb : hasBody P g <;> simp only [hb] at h
      · unfold runV at h
        unfold Out
        simp only [Deferred.ofValue, Sem.run_bind, Sem.run_pure, Result.andThen_ok, invoke, hargs]
        generalize (callFunc g _).run P w = r at *
        cases r with
        | ok nx w' => cases nx <;> first | exact shp_at (K := fun v => K v w') h | exact h.elim
        | halt x w' => cases x <;> first | exact h | exact h.elim
      · exact body hb h
  · exact h.elim

theorem bsCells_sound {t e : TypeId} {len : Nat} {parts : Array (Nat × Value)} {cs : Array Value} (hu : P.underlying t = some (.slice e)) (h : bsCells P e len parts = some cs) (w : World) :
    (Instr.buildSlice t len parts).run P w = .ok (.slice (some ⟨w.heap.size, 0, none⟩) len len) (w.alloc (.cells cs e)) := by
  unfold bsCells at h
  split at h
  · rename_i size z hs hz
    cases hb : Nat.ble (len * size) 16777216 <;> simp only [hb, cond] at h
    · cases h
    have hle : ¬ (len * size > 2 ^ 24) := by have := Nat.le_of_ble_eq_true hb; omega
    have hnr : (newRow e cs).run P w = .ok ⟨w.heap.size, 0, none⟩ (w.alloc (.cells cs e)) := rfl
    by_cases h0 : len * size = 0
    · rw [if_pos h0, h0] at h
      have e0 : Array.range 0 = #[] := rfl
      simp only [e0, List.map_toArray, List.map_nil] at h
      simp [Instr.buildSlice, run_underlying_ hu, run_sizeOf_ hs, h0, e0, h, hnr]
    · rw [if_neg h0] at h
      simp [Instr.buildSlice, run_underlying_ hu, run_sizeOf_ hs, hle, h0, run_zeroValue_ hz, h, hnr]
  · cases h

theorem vcMem_sound (h : vcMem P ρ o w K X) : Out P (execOp ρ o) w K X := by
  obtain ⟨dst, op, type, pos, after, guard⟩ := o
  cases op <;> simp only [vcMem] at h <;> simp only [execOp]
  case alloc t =>
    split at h
    · rename_i z hz
      exact Out.of_run (by simp [Instr.alloc, run_zeroValue_ hz, run_newVar_]) h
    · exact h.elim
  case box t x => exact Out.of_run (by simp [Instr.box, run_newVar_]) h
  case load t x =>
    split at h
    · rename_i a z ha hz
      cases hl : ldOk P t z <;> simp only [hl, cond] at h
      obtain ⟨u, hu, hr, hK⟩ := mk_some _ _ _ h
      rw [ha]
      exact Out.of_run (run_loadAt hl hu hr) hK
    · exact h.elim
  case store t x y =>
    split at h
    · rename_i a n ha hn
      obtain ⟨hs, hw, hK⟩ := h
      rw [ha]
      unfold Out
      simp only [Sem.run_bind, run_storeAt hn hs hw, Result.andThen_ok, Sem.run_pure]
      exact hK
    · exact h.elim
  case buildSlice t len parts =>
    split at h
    · rename_i e hu
      split at h
      · rename_i cs hc
        exact Out.of_run (bsCells_sound hu hc w) h
      · exact h.elim
    · exact h.elim
  case makeMap t r =>
    cases r with
    | none =>
      simp only at h
      exact Out.of_run (s := Instr.makeMap t (none.map ρ)) (v := .map (some w.heap.size)) (w' := w.alloc (.map #[] 0)) rfl h
    | some r => simp only at h
  case call c =>
    split at h <;> rename_i hc <;> first
      | exact h.elim
      | (have := vcCall_sound h
         simpa [resolve, hc] using this)
      | (have := Out.of_runS h
         simpa [resolve, hc, invoke, builtin] using this)
  case range => exact Out.of_runV (runV_mono (fun v w' ⟨a, e, hk⟩ => by rw [e]; exact hk) (fun _ _ hx => hx) h)
  case next it s =>
    cases s <;> simp only [cond] at h
    · exact Out.of_runV (runV_mono (fun v w' ⟨b, l, e, hk⟩ => by rw [e]; exact hk) (fun _ _ hx => hx) h)
    · exact Out.of_runS h
  case entry => exact Out.of_runV (runV_mono (fun v w' ⟨k, u, e, hk⟩ => by rw [e]; exact hk) (fun _ _ hx => hx) h)
  all_goals first | exact Out.of_runS h | exact Out.of_runU h | exact h.elim

end
end Go.Vc
