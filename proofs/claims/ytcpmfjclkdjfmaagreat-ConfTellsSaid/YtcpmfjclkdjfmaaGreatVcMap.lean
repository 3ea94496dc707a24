/-
  Maps of ours.
-/
import Derived.Test.YtcpmfjclkdjfmaaGreatVcSlice
namespace Go.Vc
open Go

/-- What is asked of the keys: kv lays a key as a value of the key's type. -/
structure KeyLaw {κ : Type} [DecidableEq κ] (P : Program) (kt : TypeId) (d : TypeDesc) (kv : κ → Value) : Prop where
  und : P.underlying kt = some d
  eq : ∀ a b w, (Op.equal kt (kv a) (kv b)).run P w = .ok (decide (a = b)) w
  chk : ∀ a e w, (Instr.checkKey e 10000 kt (kv a)).run P w = .ok () w
  now : ∀ a b r, Instr.sameNow d (kv a) (kv b) = some r → r = decide (a = b)
  bits : ∀ a, Instr.sameBits 10000 (kv a) (kv a) = true

section
variable {κ ν : Type} [DecidableEq κ] {P : Program} {kt : TypeId} {d : TypeDesc} {kv : κ → Value} {vv : ν → Value}

def ents (kv : κ → Value) (vv : ν → Value) (es : List MapEntry) (m : List (κ × ν)) : Prop := es.map (fun e => (e.key, e.val)) = m.map fun p => (kv p.1, vv p.2)
/-- Each entry's stamp is below the clock, and its own. -/
def goodM (es : Array MapEntry) (clock : Nat) : Prop := (∀ x ∈ es.toList, x.born < clock) ∧ (es.toList.map (·.born)).Nodup
/-- The map at block b holds m. -/
def mapA (b : Nat) (kv : κ → Value) (vv : ν → Value) (m : List (κ × ν)) : Asrt := fun h => ∃ es clock, h b = some (true, .map es clock) ∧ ents kv vv es.toList m ∧ (m.map (·.1)).Nodup ∧ goodM es clock
def mget (m : List (κ × ν)) (a : κ) : Option ν := (m.find? fun p => decide (p.1 = a)).map (·.2)
def mset : List (κ × ν) → κ → ν → List (κ × ν)
  | [], a, v => [(a, v)]
  | p :: r, a, v => if p.1 = a then (a, v) :: r else p :: mset r a v
def mdel : List (κ × ν) → κ → List (κ × ν)
  | [], _ => []
  | p :: r, a => if p.1 = a then r else p :: mdel r a

theorem mget_nil (a : κ) : mget ([] : List (κ × ν)) a = none := rfl
theorem mget_cons (p : κ × ν) (r : List (κ × ν)) (a : κ) : mget (p :: r) a = if p.1 = a then some p.2 else mget r a := by
  unfold mget
  by_cases h : p.1 = a <;> simp [h]
theorem mget_mset : ∀ (m : List (κ × ν)) (a : κ) (v : ν) (b : κ), mget (mset m a v) b = if a = b then some v else mget m b
  | [], a, v, b => by simp [mset, mget_cons]
  | p :: r, a, v, b => by
    unfold mset
    split
    · rename_i h
      rw [mget_cons, mget_cons]
      by_cases hab : a = b
      · simp [hab]
      · simp [hab, h]
    · rename_i h
      rw [mget_cons, mget_cons, mget_mset r a v b]
      by_cases hpb : p.1 = b
      · by_cases hab : a = b
        · exact absurd (hpb.trans hab.symm) h
        · simp [hpb, hab]
      · simp [hpb]
theorem keys_mset : ∀ (m : List (κ × ν)) (a : κ) (v : ν), (mset m a v).map (·.1) = if a ∈ m.map (·.1) then m.map (·.1) else m.map (·.1) ++ [a]
  | [], a, v => by simp [mset]
  | p :: r, a, v => by
    unfold mset
    split
    · rename_i h; simp [h]
    · rename_i h
      have h' : ¬ a = p.1 := fun e => h e.symm
      simp only [List.map_cons, keys_mset r a v, List.mem_cons, h', false_or]
      split <;> simp
theorem nodup_mset {m : List (κ × ν)} (h : (m.map (·.1)).Nodup) (a : κ) (v : ν) : ((mset m a v).map (·.1)).Nodup := by
  rw [keys_mset]
  split
  · exact h
  · rename_i hn
    rw [List.nodup_append]
    exact ⟨h, by simp, fun x hx y hy => by simp at hy; subst hy; rintro rfl; exact hn hx⟩
theorem mdel_sub : ∀ (m : List (κ × ν)) (a : κ), (mdel m a).Sublist m
  | [], _ => .slnil
  | p :: r, a => by
    unfold mdel
    split
    · exact List.sublist_cons_self ..
    · exact (mdel_sub r a).cons_cons _
theorem nodup_mdel {m : List (κ × ν)} (h : (m.map (·.1)).Nodup) (a : κ) : ((mdel m a).map (·.1)).Nodup := h.sublist ((mdel_sub m a).map _)
theorem mget_none_of {m : List (κ × ν)} {a : κ} (h : a ∉ m.map (·.1)) : mget m a = none := by
  induction m with
  | nil => rfl
  | cons p r ih =>
    simp only [List.map_cons, List.mem_cons, not_or] at h
    rw [mget_cons, if_neg (fun e => h.1 e.symm), ih h.2]
theorem mget_mdel : ∀ {m : List (κ × ν)}, (m.map (·.1)).Nodup → ∀ (a b : κ), mget (mdel m a) b = if a = b then none else mget m b
  | [], _, a, b => by simp [mdel, mget_nil]
  | p :: r, h, a, b => by
    simp only [List.map_cons, List.nodup_cons] at h
    unfold mdel
    split
    · rename_i hp
      rw [mget_cons]
      by_cases hab : a = b
      · subst hab
        rw [if_pos rfl]
        exact mget_none_of (by rw [← hp]; exact h.1)
      · rw [if_neg hab, if_neg (fun e => hab (hp.symm.trans e))]
    · rename_i hp
      rw [mget_cons, mget_cons, mget_mdel h.2 a b]
      by_cases hpb : p.1 = b
      · rw [if_pos hpb, if_pos hpb, if_neg (fun e => hp (hpb.trans e.symm))]
      · rw [if_neg hpb, if_neg hpb]

/-! ### the model's search -/

theorem findNow_ok (K : KeyLaw P kt d kv) (a : κ) : ∀ (es : List MapEntry) (m : List (κ × ν)) (i : Nat), ents kv vv es m → ∀ r, Instr.findNow d (kv a) es i = some r →
    (r = none ∧ a ∉ m.map (·.1)) ∨ ∃ j v, r = some (i + j, vv v) ∧ (m[j]?).map (·.1) = some a ∧ mget m a = some v ∧ ∀ k, k < j → (m[k]?).map (·.1) ≠ some a
  | [], m, i, he, r, hr => by
    have : m = [] := by cases m with | nil => rfl | cons p q => simp [ents] at he
    subst this
    simp [Instr.findNow] at hr
    exact .inl ⟨hr.symm, by simp⟩
  | e :: es, m, i, he, r, hr => by
    cases m with
    | nil => simp [ents] at he
    | cons p m =>
      simp only [ents, List.map_cons, List.cons.injEq, Prod.mk.injEq] at he
      obtain ⟨⟨hk, hv⟩, he⟩ := he
      unfold Instr.findNow at hr
      rw [hk] at hr
      split at hr
      · rename_i hs
        have := K.now _ _ _ hs
        have hap : a = p.1 := by simpa using this.symm
        injection hr with hr
        exact .inr ⟨0, p.2, by rw [← hr, hv]; rfl, by simp [hap], by rw [mget_cons, if_pos hap.symm], fun k hk => by omega⟩
      · rename_i hs
        have := K.now _ _ _ hs
        have hap : ¬ a = p.1 := by simpa using this.symm
        rcases findNow_ok K a es m (i + 1) he r hr with ⟨h1, h2⟩ | ⟨j, v, h1, h2, h3, h4⟩
        · exact .inl ⟨h1, by simp [hap, h2]⟩
        · refine .inr ⟨j + 1, v, by rw [h1, Nat.add_assoc, Nat.add_comm 1 j], by simpa using h2, by rw [mget_cons, if_neg (fun e => hap e.symm), h3], fun k hk => ?_⟩
          cases k with
          | zero => simpa using fun e => hap e.symm
          | succ k => simpa using h4 k (by omega)
      · cases hr
theorem findAsking_ok (K : KeyLaw P kt d kv) (a : κ) (w : World) : ∀ (es : List MapEntry) (m : List (κ × ν)) (i : Nat), ents kv vv es m →
    ∃ r, (Instr.findAsking kt (kv a) es i).run P w = .ok r w ∧ ((r = none ∧ a ∉ m.map (·.1)) ∨ ∃ j v, r = some (i + j, vv v) ∧ (m[j]?).map (·.1) = some a ∧ mget m a = some v ∧ ∀ k, k < j → (m[k]?).map (·.1) ≠ some a)
  | [], m, i, he => by
    have : m = [] := by cases m with | nil => rfl | cons p q => simp [ents] at he
    subst this
    exact ⟨none, rfl, .inl ⟨rfl, by simp⟩⟩
  | e :: es, m, i, he => by
    cases m with
    | nil => simp [ents] at he
    | cons p m =>
      simp only [ents, List.map_cons, List.cons.injEq, Prod.mk.injEq] at he
      obtain ⟨⟨hk, hv⟩, he⟩ := he
      by_cases hap : a = p.1
      · refine ⟨some (i, vv p.2), ?_, .inr ⟨0, p.2, rfl, by simp [hap], by rw [mget_cons, if_pos hap.symm], fun k hk => by omega⟩⟩
        simp [Instr.findAsking, hk, K.eq, hap, hv]
      · obtain ⟨r, hr, hcase⟩ := findAsking_ok K a w es m (i + 1) he
        refine ⟨r, ?_, ?_⟩
        · simp [Instr.findAsking, hk, K.eq, hap, hr]
        · rcases hcase with ⟨h1, h2⟩ | ⟨j, v, h1, h2, h3, h4⟩
          · exact .inl ⟨h1, by simp [hap, h2]⟩
          · refine .inr ⟨j + 1, v, by rw [h1, Nat.add_assoc, Nat.add_comm 1 j], by simpa using h2, by rw [mget_cons, if_neg (fun e => hap e.symm), h3], fun k hk => ?_⟩
            cases k with
            | zero => simpa using fun e => hap e.symm
            | succ k => simpa using h4 k (by omega)
theorem findKey_ok (K : KeyLaw P kt d kv) (a : κ) (w : World) (es : List MapEntry) (m : List (κ × ν)) (he : ents kv vv es m) :
    ∃ r, (Instr.findKey kt (kv a) es).run P w = .ok r w ∧ ((r = none ∧ a ∉ m.map (·.1)) ∨ ∃ j v, r = some (j, vv v) ∧ (m[j]?).map (·.1) = some a ∧ mget m a = some v ∧ ∀ k, k < j → (m[k]?).map (·.1) ≠ some a) := by
  unfold Instr.findKey
  cases hf : Instr.findNow d (kv a) es 0 with
  | some r =>
    refine ⟨r, ?_, ?_⟩
    · simp [run_underlying_ K.und, hf]
    · have := findNow_ok K a es m 0 he r hf
      simpa using this
  | none =>
    obtain ⟨r, hr, hcase⟩ := findAsking_ok K a w es m 0 he
    refine ⟨r, ?_, by simpa using hcase⟩
    simp [run_underlying_ K.und, hf, hr]

/-! ### the operations -/
variable {E w : World} {L : List Asrt} {t et b : Nat} {m : List (κ × ν)}

omit [DecidableEq κ] in
theorem St.mapA_open (h : St E (mapA b kv vv m :: L) w) : ∃ es clock, St E (blk b (.map es clock) :: L) w ∧ ents kv vv es.toList m ∧ (m.map (·.1)).Nodup ∧ goodM es clock := by
  obtain ⟨en, x, ⟨h1, h2, dd, rfl, ⟨es, clock, hb, he, hn⟩, hL⟩, hl⟩ := h
  exact ⟨es, clock, ⟨en, _, ⟨h1, h2, dd, rfl, hb, hL⟩, hl⟩, he, hn⟩
omit [DecidableEq κ] in
theorem St.mapA_mk {es : Array MapEntry} {clock : Nat} (h : St E (blk b (.map es clock) :: L) w) (he : ents kv vv es.toList m) (hn : (m.map (·.1)).Nodup ∧ goodM es clock) : St E (mapA b kv vv m :: L) w :=
  h.mono fun _ hx => ⟨es, clock, hx, he, hn⟩
omit [DecidableEq κ] in
theorem St.mapA_new (h : St E L w) (kv : κ → Value) (vv : ν → Value) : St E (mapA w.heap.size kv vv [] :: L) (w.alloc (.map #[] 0)) :=
  (h.alloc _).mapA_mk (by simp [ents]) ⟨by simp, by simp [goodM]⟩

theorem run_getObj_map {es : Array MapEntry} {clock : Nat} (hb : w.heap[b]? = some (.map es clock)) : (getObj b).run P w = .ok (.map es clock) w := by
  simp [getObj, Sem.run, hb]
theorem run_setObj_map {es : Array MapEntry} {clock : Nat} (o : Obj) (hb : w.heap[b]? = some (.map es clock)) : (setObj b o).run P w = .ok () { w with heap := w.heap.setIfInBounds b o } := by
  simp [setObj, Sem.run, hb]
theorem St.setObj_ {es : Array MapEntry} {clock : Nat} (h : St E (blk b (.map es clock) :: L) w) (o : Obj) : St E (blk b o :: L) { w with heap := w.heap.setIfInBounds b o } := by
  have hb := h.at_blk
  have hlt : b < w.heap.size := (Array.getElem?_eq_some_iff.1 hb).1
  refine h.upd ⟨rfl, rfl, rfl⟩ (by simp [hlt]) fun c hc _ => ?_
  simp [Array.getElem?_setIfInBounds_ne (fun e => hc e.symm)]

theorem lookup_run (K : KeyLaw P kt d kv) (ht : P.underlying t = some (.map kt et)) {z : Value} (hz : tmpl P et = some z) (h : St E (mapA b kv vv m :: L) w) (a : κ) :
    (Instr.lookup t (.map (some b)) (kv a) false).run P w = .ok (match mget m a with | some v => vv v | none => z) w := by
  obtain ⟨es, clock, hs, he, hn, hg⟩ := h.mapA_open
  obtain ⟨r, hr, hcase⟩ := findKey_ok K a w es.toList m he
  rcases hcase with ⟨rfl, h2⟩ | ⟨j, v, rfl, _, h3, _⟩
  · rw [mget_none_of h2]
    simp [Instr.lookup, run_underlying_ ht, run_getObj_map hs.at_blk, K.chk, hr, run_zeroValue_ hz]
  · rw [h3]
    simp [Instr.lookup, run_underlying_ ht, run_getObj_map hs.at_blk, K.chk, hr]
theorem lookup_ok_run (K : KeyLaw P kt d kv) (ht : P.underlying t = some (.map kt et)) {z : Value} (hz : tmpl P et = some z) (h : St E (mapA b kv vv m :: L) w) (a : κ) :
    (Instr.lookup t (.map (some b)) (kv a) true).run P w = .ok (.tuple #[match mget m a with | some v => vv v | none => z, .bool (mget m a).isSome]) w := by
  obtain ⟨es, clock, hs, he, hn, hg⟩ := h.mapA_open
  obtain ⟨r, hr, hcase⟩ := findKey_ok K a w es.toList m he
  rcases hcase with ⟨rfl, h2⟩ | ⟨j, v, rfl, _, h3, _⟩
  · rw [mget_none_of h2]
    simp [Instr.lookup, run_underlying_ ht, run_getObj_map hs.at_blk, K.chk, hr, run_zeroValue_ hz]
  · rw [h3]
    simp [Instr.lookup, run_underlying_ ht, run_getObj_map hs.at_blk, K.chk, hr]

theorem mset_at : ∀ (m : List (κ × ν)) (a : κ) (v : ν) (j : Nat), (m[j]?).map (·.1) = some a → (∀ k, k < j → (m[k]?).map (·.1) ≠ some a) → mset m a v = m.modify j fun _ => (a, v)
  | [], _, _, _, h, _ => by simp at h
  | p :: r, a, v, 0, h, _ => by
    simp at h
    simp [mset, h]
  | p :: r, a, v, j + 1, h, hk => by
    have hp : ¬ p.1 = a := by simpa using hk 0 (by omega)
    simp only [mset, hp, if_false, List.modify_succ_cons]
    rw [mset_at r a v j (by simpa using h) fun k hkj => by simpa using hk (k + 1) (by omega)]
theorem mset_new : ∀ (m : List (κ × ν)) (a : κ) (v : ν), a ∉ m.map (·.1) → mset m a v = m ++ [(a, v)]
  | [], _, _, _ => rfl
  | p :: r, a, v, h => by
    simp only [List.map_cons, List.mem_cons, not_or] at h
    have h' : ¬ p.1 = a := fun e => h.1 e.symm
    simp [mset, h', mset_new r a v h.2]
omit [DecidableEq κ] in
theorem map_erase {α β : Type} (f : α → β) : ∀ (l : List α) (j : Nat), (l.map f).eraseIdx j = (l.eraseIdx j).map f
  | [], _ => by simp
  | _ :: _, 0 => by simp
  | a :: l, j + 1 => by simp [map_erase f l j]
theorem mdel_at : ∀ (m : List (κ × ν)) (a : κ) (j : Nat), (m[j]?).map (·.1) = some a → (∀ k, k < j → (m[k]?).map (·.1) ≠ some a) → mdel m a = m.eraseIdx j
  | [], _, _, h, _ => by simp at h
  | p :: r, a, 0, h, _ => by
    simp at h
    simp [mdel, h]
  | p :: r, a, j + 1, h, hk => by
    have hp : ¬ p.1 = a := by simpa using hk 0 (by omega)
    simp only [mdel, hp, if_false, List.eraseIdx_cons_succ]
    rw [mdel_at r a j (by simpa using h) fun k hkj => by simpa using hk (k + 1) (by omega)]
theorem mdel_none : ∀ (m : List (κ × ν)) (a : κ), a ∉ m.map (·.1) → mdel m a = m
  | [], _, _ => rfl
  | p :: r, a, h => by
    simp only [List.map_cons, List.mem_cons, not_or] at h
    have h' : ¬ p.1 = a := fun e => h.1 e.symm
    simp [mdel, h', mdel_none r a h.2]

theorem goodM_push {es : Array MapEntry} {clock : Nat} (h : goodM es clock) (k v : Value) : goodM (es.push { key := k, val := v, born := clock }) (clock + 1) := by
  refine ⟨fun x hx => ?_, ?_⟩
  · simp only [Array.toList_push, List.mem_append, List.mem_singleton] at hx
    rcases hx with hx | rfl
    · have := h.1 x hx; omega
    · exact Nat.lt_succ_self _
  · simp only [Array.toList_push, List.map_append, List.map_cons, List.map_nil]
    rw [List.nodup_append]
    refine ⟨h.2, by simp, fun a ha b hb => ?_⟩
    simp only [List.mem_singleton] at hb
    obtain ⟨x, hx, rfl⟩ := List.mem_map.1 ha
    have := h.1 x hx; omega
theorem goodM_modify {es : Array MapEntry} {clock : Nat} (h : goodM es clock) (j : Nat) (k v : Value) : goodM (es.modify j fun e => { e with key := k, val := v }) clock := by
  have e : (es.modify j fun e => { e with key := k, val := v }).toList.map (·.born) = es.toList.map (·.born) := by
    rw [Array.toList_modify]
    apply List.ext_getElem?
    intro i
    simp only [List.getElem?_map, List.getElem?_modify]
    split
    · cases es.toList[i]? <;> rfl
    · cases es.toList[i]? <;> rfl
  refine ⟨fun x hx => ?_, by rw [e]; exact h.2⟩
  have : x.born ∈ es.toList.map (·.born) := by rw [← e]; exact List.mem_map_of_mem hx
  obtain ⟨y, hy, hxy⟩ := List.mem_map.1 this
  rw [← hxy]; exact h.1 y hy
theorem goodM_erase {es : Array MapEntry} {clock : Nat} (h : goodM es clock) (j : Nat) : goodM (es.eraseIdxIfInBounds j) clock := by
  have e : (es.eraseIdxIfInBounds j).toList.Sublist es.toList := by rw [Array.toList_eraseIdxIfInBounds]; exact List.eraseIdx_sublist _ _
  exact ⟨fun x hx => h.1 x (e.subset hx), h.2.sublist (e.map _)⟩
theorem mapUpdate_run (K : KeyLaw P kt d kv) (ht : P.underlying t = some (.map kt et)) (h : St E (mapA b kv vv m :: L) w) (a : κ) (v : ν) :
    ∃ w', (Instr.mapUpdate t (.map (some b)) (kv a) (vv v)).run P w = .ok () w' ∧ St E (mapA b kv vv (mset m a v) :: L) w' := by
  obtain ⟨es, clock, hs, he, hn, hg⟩ := h.mapA_open
  obtain ⟨r, hr, hcase⟩ := findKey_ok K a w es.toList m he
  rcases hcase with ⟨rfl, h2⟩ | ⟨j, u, rfl, h3, _, h5⟩
  · refine ⟨_, ?_, (hs.setObj_ (.map (es.push { key := kv a, val := vv v, born := clock }) (clock + 1))).mapA_mk ?_ ⟨nodup_mset hn a v, goodM_push hg _ _⟩⟩
    · simp [Instr.mapUpdate, run_underlying_ ht, run_getObj_map hs.at_blk, K.chk, hr, run_setObj_map _ hs.at_blk]
    · rw [mset_new m a v h2]
      simp only [ents] at he
      simp [ents, he]
  · have hje : (es.toList[j]?).map (·.key) = some (kv a) := by
      have := congrArg (fun l => (l[j]?).map (·.1)) he
      simp only [List.getElem?_map, Option.map_map] at this
      rw [show ((fun x : Value × Value => x.1) ∘ fun e : MapEntry => (e.key, e.val)) = (·.key) from rfl] at this
      rw [this]
      have e2 : ((fun x : Value × Value => x.1) ∘ fun p : κ × ν => (kv p.1, vv p.2)) = kv ∘ (·.1) := rfl
      rw [e2, ← Option.map_map, h3]
      rfl
    have hkey : ((es[j]?).map (·.key)).getD (kv a) = kv a := by
      rw [← Array.getElem?_toList, hje]; rfl
    refine ⟨_, ?_, (hs.setObj_ (.map (es.modify j fun e => { e with key := kv a, val := vv v }) clock)).mapA_mk ?_ ⟨nodup_mset hn a v, goodM_modify hg _ _ _⟩⟩
    · simp only [Instr.mapUpdate, Sem.run_bind, run_underlying_ ht, Result.andThen_ok, run_getObj_map hs.at_blk, K.chk, hr, hkey]
      simp [Instr.keyThatStays, K.bits, run_setObj_map _ hs.at_blk]
    · rw [mset_at m a v j h3 h5]
      simp only [ents] at he
      simp only [ents, Array.toList_modify]
      apply List.ext_getElem?
      intro k
      have hk := congrArg (fun l => l[k]?) he
      simp only [List.getElem?_map] at hk
      simp only [List.getElem?_map, List.getElem?_modify]
      by_cases hkj : j = k
      · subst hkj
        simp only [if_true]
        have hl : (es.toList[j]?).isSome = (m[j]?).isSome := by
          have := congrArg Option.isSome hk
          simpa using this
        cases h1 : es.toList[j]? <;> cases h2 : m[j]? <;> simp [h1, h2] at hl ⊢
      · simp only [hkj, if_false]
        simpa using hk
theorem delete_run (K : KeyLaw P kt d kv) (ht : P.underlying t = some (.map kt et)) (h : St E (mapA b kv vv m :: L) w) (a : κ) (ats : Array TypeId) (ty : TypeId) (h0 : ats[0]? = some t) :
    ∃ w', (Builtin.delete_ ats ty #[.map (some b), kv a]).run P w = .ok (.tuple #[]) w' ∧ St E (mapA b kv vv (mdel m a) :: L) w' := by
  obtain ⟨es, clock, hs, he, hn, hg⟩ := h.mapA_open
  obtain ⟨r, hr, hcase⟩ := findKey_ok K a w es.toList m he
  rcases hcase with ⟨rfl, h2⟩ | ⟨j, u, rfl, h3, _, h5⟩
  · refine ⟨_, ?_, (hs.setObj_ (.map es clock)).mapA_mk ?_ ⟨nodup_mdel hn a, hg⟩⟩
    · simp [Builtin.delete_, h0, run_underlying_ ht, run_getObj_map hs.at_blk, K.chk, hr, run_setObj_map _ hs.at_blk]
    · rw [mdel_none m a h2]; exact he
  · refine ⟨_, ?_, (hs.setObj_ (.map (es.eraseIdxIfInBounds j) clock)).mapA_mk ?_ ⟨nodup_mdel hn a, goodM_erase hg _⟩⟩
    · simp [Builtin.delete_, h0, run_underlying_ ht, run_getObj_map hs.at_blk, K.chk, hr, run_setObj_map _ hs.at_blk]
    · rw [mdel_at m a j h3 h5]
      simp only [ents] at he ⊢
      rw [Array.toList_eraseIdxIfInBounds, ← map_erase, ← map_erase, he]
omit [DecidableEq κ] in
theorem lenMap_run (ht : P.underlying t = some (.map kt et)) (h : St E (mapA b kv vv m :: L) w) (ats : Array TypeId) (ty : TypeId) (h0 : ats[0]? = some t) :
    (Builtin.len_ ats ty #[.map (some b)]).run P w = .ok (.int .i64 m.length) w := by
  obtain ⟨es, clock, hs, he, hn, hg⟩ := h.mapA_open
  have : es.size = m.length := by
    have := congrArg List.length he
    simpa using this
  simp [Builtin.len_, h0, run_underlying_ ht, run_getObj_map hs.at_blk, goInt, this]
end

/-! ### keys -/

theorem equalIn_int {P : Program} {t : TypeId} {k : IntKind} (hu : P.underlying t = some (.int k)) (a b : Int) (d : Nat) (w : World) : (Op.equalIn (d + 1) t (.int k a) (.int k b)).run P w = .ok (a == b) w := by
  simp [Op.equalIn, run_underlying_ hu]
theorem equalIn_string {P : Program} {t : TypeId} (hu : P.underlying t = some .string) (a b : ByteArray) (d : Nat) (w : World) : (Op.equalIn (d + 1) t (.string a) (.string b)).run P w = .ok (a == b) w := by
  simp [Op.equalIn, run_underlying_ hu]
theorem checkKey_int {P : Program} {t : TypeId} {k : IntKind} (hu : P.underlying t = some (.int k)) (a : Int) (e : Bool) (d : Nat) (w : World) : (Instr.checkKey e (d + 1) t (.int k a)).run P w = .ok () w := by
  simp [Instr.checkKey, run_underlying_ hu]
theorem checkKey_string {P : Program} {t : TypeId} (hu : P.underlying t = some .string) (a : ByteArray) (e : Bool) (d : Nat) (w : World) : (Instr.checkKey e (d + 1) t (.string a)).run P w = .ok () w := by
  simp [Instr.checkKey, run_underlying_ hu]
theorem keyLaw_int {P : Program} {t : TypeId} {k : IntKind} (hu : P.underlying t = some (.int k)) : KeyLaw P t (.int k) (fun n : Int => Value.int k n) where
  und := hu
  eq a b w := by
    have := equalIn_int hu a b 9999 w
    simp only [Op.equal, Op.maxDepth]
    rw [this]
    simp [BEq.beq]
  chk a e w := checkKey_int hu a e 9999 w
  now a b r h := by simp [Instr.sameNow] at h; rw [← h]; simp [BEq.beq]
  bits a := by simp [Instr.sameBits]
theorem bytes_beq (a b : ByteArray) : (a == b) = decide (a = b) := by
  have h : (a == b) = (a.data == b.data) := rfl
  rw [h, Bool.eq_iff_iff]
  cases a; cases b
  simp
theorem keyLaw_string {P : Program} {t : TypeId} (hu : P.underlying t = some .string) : KeyLaw P t .string (fun s : ByteArray => Value.string s) where
  und := hu
  eq a b w := by
    have := equalIn_string hu a b 9999 w
    simp only [Op.equal, Op.maxDepth]
    rw [this, bytes_beq]
  chk a e w := checkKey_string hu a e 9999 w
  now a b r h := by simp only [Instr.sameNow, Option.some.injEq] at h; rw [← h, bytes_beq]
  bits a := by simp only [Instr.sameBits]; rw [bytes_beq]; simp
/-- A key of two whole numbers. -/
theorem keyLaw_int2 {P : Program} {t : TypeId} {f0 f1 : Field} {k : IntKind} (hu : P.underlying t = some (.struct #[f0, f1])) (h0 : P.underlying f0.type = some (.int k)) (h1 : P.underlying f1.type = some (.int k))
    (hn0 : f0.name ≠ "_") (hn1 : f1.name ≠ "_") (ho0 : f0.offset = 0) (ho1 : f1.offset = 1) (hst : P.stoodInHeld t = false) :
    KeyLaw P t (.struct #[f0, f1]) (fun p : Int × Int => Value.agg #[.int k p.1, .int k p.2]) where
  und := hu
  eq a b w := by
    have e0 : ∀ x y : Int, (Op.equalIn 9999 f0.type (.int k x) (.int k y)).run P w = .ok (x == y) w := fun x y => equalIn_int (P := P) h0 x y 9998 w
    have e1 : ∀ x y : Int, (Op.equalIn 9999 f1.type (.int k x) (.int k y)).run P w = .ok (x == y) w := fun x y => equalIn_int (P := P) h1 x y 9998 w
    have hag : ∀ f : Field, P.underlying f.type = some (.int k) → aggT P f.type = false := fun f hf => by simp [aggT, hf]
    have hp0 : ∀ x y : Value, (part f0.type #[x, y] f0.offset).run P w = .ok x w := fun x y => by
      simp [part, run_isAgg h0, hag f0 h0, ho0]
    have hp1 : ∀ x y : Value, (part f1.type #[x, y] f1.offset).run P w = .ok y w := fun x y => by
      simp [part, run_isAgg h1, hag f1 h1, ho1]
    have key : (Op.equalIn (9999 + 1) t (.agg #[.int k a.1, .int k a.2]) (.agg #[.int k b.1, .int k b.2])).run P w = .ok (decide (a = b)) w := by
      unfold Op.equalIn
      simp only [Sem.run_bind, run_underlying_ hu, Result.andThen_ok, program, Sem.run, hst]
      by_cases ha : a.1 = b.1
      · by_cases hb : a.2 = b.2
        · have : a = b := Prod.ext ha hb
          subst this
          simp [hn0, hn1, hp0, hp1, e0, e1]
        · have : ¬ a = b := fun e => hb (by rw [e])
          have hb' : (a.2 == b.2) = false := by simpa using hb
          simp [hn0, hn1, hp0, hp1, e0, e1, ha, hb', this]
      · have : ¬ a = b := fun e => ha (by rw [e])
        have ha' : (a.1 == b.1) = false := by simpa using ha
        simp [hn0, hp0, e0, ha', this]
    exact key
  chk a e w := by
    have c0 : (Instr.checkKey e 9999 f0.type (.int k a.1)).run P w = .ok () w := checkKey_int (P := P) h0 a.1 e 9998 w
    have c1 : (Instr.checkKey e 9999 f1.type (.int k a.2)).run P w = .ok () w := checkKey_int (P := P) h1 a.2 e 9998 w
    have hag : ∀ f : Field, P.underlying f.type = some (.int k) → aggT P f.type = false := fun f hf => by simp [aggT, hf]
    have hp0 : ∀ x y : Value, (part f0.type #[x, y] f0.offset).run P w = .ok x w := fun x y => by
      simp [part, run_isAgg h0, hag f0 h0, ho0]
    have hp1 : ∀ x y : Value, (part f1.type #[x, y] f1.offset).run P w = .ok y w := fun x y => by
      simp [part, run_isAgg h1, hag f1 h1, ho1]
    have key : (Instr.checkKey e (9999 + 1) t (.agg #[.int k a.1, .int k a.2])).run P w = .ok () w := by
      unfold Instr.checkKey
      simp only [Sem.run_bind, run_underlying_ hu, Result.andThen_ok]
      simp [hn0, hn1, hp0, hp1, c0, c1]
    exact key
  now a b r h := by simp [Instr.sameNow] at h
  bits a := by simp [Instr.sameBits]
/-- A key of two texts. -/
theorem keyLaw_str2 {P : Program} {t : TypeId} {f0 f1 : Field} (hu : P.underlying t = some (.struct #[f0, f1])) (h0 : P.underlying f0.type = some .string) (h1 : P.underlying f1.type = some .string)
    (hn0 : f0.name ≠ "_") (hn1 : f1.name ≠ "_") (ho0 : f0.offset = 0) (ho1 : f1.offset = 1) (hst : P.stoodInHeld t = false) :
    KeyLaw P t (.struct #[f0, f1]) (fun p : ByteArray × ByteArray => Value.agg #[.string p.1, .string p.2]) where
  und := hu
  eq a b w := by
    have e0 : ∀ x y : ByteArray, (Op.equalIn 9999 f0.type (.string x) (.string y)).run P w = .ok (x == y) w := fun x y => equalIn_string (P := P) h0 x y 9998 w
    have e1 : ∀ x y : ByteArray, (Op.equalIn 9999 f1.type (.string x) (.string y)).run P w = .ok (x == y) w := fun x y => equalIn_string (P := P) h1 x y 9998 w
    have hag : ∀ f : Field, P.underlying f.type = some .string → aggT P f.type = false := fun f hf => by simp [aggT, hf]
    have hp0 : ∀ x y : Value, (part f0.type #[x, y] f0.offset).run P w = .ok x w := fun x y => by
      simp [part, run_isAgg h0, hag f0 h0, ho0]
    have hp1 : ∀ x y : Value, (part f1.type #[x, y] f1.offset).run P w = .ok y w := fun x y => by
      simp [part, run_isAgg h1, hag f1 h1, ho1]
    have key : (Op.equalIn (9999 + 1) t (.agg #[.string a.1, .string a.2]) (.agg #[.string b.1, .string b.2])).run P w = .ok (decide (a = b)) w := by
      unfold Op.equalIn
      simp only [Sem.run_bind, run_underlying_ hu, Result.andThen_ok, program, Sem.run, hst]
      by_cases ha : a.1 = b.1
      · by_cases hb : a.2 = b.2
        · have : a = b := Prod.ext ha hb
          subst this
          simp [hn0, hn1, hp0, hp1, e0, e1, bytes_beq]
        · have : ¬ a = b := fun e => hb (by rw [e])
          have hb' : (a.2 == b.2) = false := by rw [bytes_beq]; simpa using hb
          simp [hn0, hn1, hp0, hp1, e0, e1, ha, hb', this]
      · have : ¬ a = b := fun e => ha (by rw [e])
        have ha' : (a.1 == b.1) = false := by rw [bytes_beq]; simpa using ha
        simp [hn0, hp0, e0, ha', this]
    exact key
  chk a e w := by
    have c0 : (Instr.checkKey e 9999 f0.type (.string a.1)).run P w = .ok () w := checkKey_string (P := P) h0 a.1 e 9998 w
    have c1 : (Instr.checkKey e 9999 f1.type (.string a.2)).run P w = .ok () w := checkKey_string (P := P) h1 a.2 e 9998 w
    have hag : ∀ f : Field, P.underlying f.type = some .string → aggT P f.type = false := fun f hf => by simp [aggT, hf]
    have hp0 : ∀ x y : Value, (part f0.type #[x, y] f0.offset).run P w = .ok x w := fun x y => by
      simp [part, run_isAgg h0, hag f0 h0, ho0]
    have hp1 : ∀ x y : Value, (part f1.type #[x, y] f1.offset).run P w = .ok y w := fun x y => by
      simp [part, run_isAgg h1, hag f1 h1, ho1]
    have key : (Instr.checkKey e (9999 + 1) t (.agg #[.string a.1, .string a.2])).run P w = .ok () w := by
      unfold Instr.checkKey
      simp only [Sem.run_bind, run_underlying_ hu, Result.andThen_ok]
      simp [hn0, hn1, hp0, hp1, c0, c1]
    exact key
  now a b r h := by simp [Instr.sameNow] at h
  bits a := by simp [Instr.sameBits, bytes_beq]
end Go.Vc
