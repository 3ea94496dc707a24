/-
  Texts of this claim's own, laid into one: ClusGp, ConfX, ClusOp, ClusWk.
-/
import Derived.Test.YtaocnfjhfmapkaaGreatDoorXClusterNoneA
import Derived.Test.YtaocnfjhfmapkaaGreatDoorXClusterNoneB
import Derived.Test.YtaocnfjhfmapkaaGreatDoorXClusterNoneC
import Derived.Test.YtaocnfjhfmapkaaGreatDoorXClusterNoneD
import Derived.Test.YtaocnfjhfmapkaaGreatDoorXClusterNoneE
import Derived.Test.YtaocnfjhfmapkaaGreatDoorXClusterNoneF
import Derived.Test.YtaocnfjhfmapkaaGreatDoorXClusterNoneG
import Derived.Test.YtaocnfjhfmapkaaGreatDoorXClusterNoneH
import Derived.Test.YtaocnfjhfmapkaaGreatDoorXClusterNoneI
set_option linter.all false
/-
  One step of a new cluster.
-/
namespace Go.Ev
open Go Go.Vc Go.RowKit Go.Proofs.YtaocnfjhfmapkaaGreatDoor Go.Proofs
set_option maxRecDepth 1000000
section
variable {x : StepI} {φ : Phi}
theorem sCells_ok : @VRL (stT x) φ sCells (stepL x) := by
  letI : Tops := stT x
  exact .cons (exT (i := 0) rfl (by decide)) (.cons (exT (i := 1) rfl (by decide)) (.cons (exT (i := 2) rfl (by decide)) (.cons (exT (i := 3) rfl (by decide)) (.cons (exT (i := 4) rfl (by decide)) (.cons (exT (i := 5) rfl (by decide)) (.cons (exT (i := 6) rfl (by decide)) (.cons (exT (i := 7) rfl (by decide)) (.cons (exT (i := 8) rfl (by decide)) (.cons (exT (i := 9) rfl (by decide)) (.cons (exT (i := 10) rfl (by decide)) (.cons (exT (i := 11) rfl (by decide)) (.cons (exT (i := 12) rfl (by decide)) (.cons (exT (i := 13) rfl (by decide)) (.cons (exT (i := 14) rfl (by decide)) (.cons (exT (i := 15) rfl (by decide)) (.cons (exT (i := 16) rfl (by decide)) .nil))))))))))))))))
theorem sCells_one : ∀ u ∈ sCells, one u = true := by
  intro u hu
  have : sCells.all one = true := by kernel_rfl
  exact List.all_eq_true.1 this u hu
theorem exs_eq : ∀ (n k : Nat) (ys : List Value), k + n < 999 → @VRL (stT x) φ ((List.range' k n).map eX) ys → (∀ i, i < n → ((stepL x)[k + i]?).isSome = true) → ys = (stepL x).extract k (k + n)
  | 0, k, ys, _, h, _ => by
    cases h
    simp
  | n + 1, k, ys, hk, h, hs => by
    rw [List.range'_succ, List.map_cons] at h
    cases h with
    | cons h1 h2 =>
    rename_i v ys
    have ih := exs_eq n (k + 1) ys (by omega) h2 fun i hi => by have := hs (i + 1) (by omega); rwa [show k + (i + 1) = k + 1 + i by omega] at this
    have h0 := hs 0 (by omega)
    rw [Nat.add_zero] at h0
    obtain ⟨u, hu⟩ := Option.isSome_iff_exists.1 h0
    have e : v = u := by
      cases h1 with
      | flat h => cases h
      | top ht => exact stT_ok hu (by omega) ht
    rw [e, ih]
    have hlt := (List.getElem?_eq_some_iff.1 hu).1
    have hg := (List.getElem?_eq_some_iff.1 hu).2
    rw [List.extract_eq_take_drop, List.extract_eq_take_drop, show k + (n + 1) - k = (k + 1 + n - (k + 1)) + 1 by omega, List.drop_eq_getElem_cons hlt, List.take_succ_cons, hg]
theorem sCells_eq {ys : List Value} (h : @VRL (stT x) φ sCells ys) : ys = stepL x := by
  have hs : sCells = (List.range' 0 17).map eX := rfl
  rw [hs] at h
  have := exs_eq 17 0 ys (by omega) h fun i hi => by
    have hl : (stepL x).length = 17 := rfl
    rw [Nat.zero_add, List.getElem?_eq_getElem (by omega)]; rfl
  rw [this]
  rfl
end
section
variable {x : StepI} {xs : List Int} {E w : World} {R : Ending → World → Prop} {φ : Phi} {b δ sb : Nat}
theorem sepL_tail {α : Type} {F G : α → Asrt} (h : ∀ o x, F o x → G o x) : ∀ (H : List Asrt) {l : List α} {x : PHeap}, sepL (H ++ l.map F) x → sepL (H ++ l.map G) x
  | [], _, _, hs => sepL_map_mono h hs
  | _ :: H, _, _, ⟨h1, h2, d, e, hA, hL⟩ => ⟨h1, h2, d, e, hA, sepL_tail h H hL⟩
theorem kdo_spec {ab : Nat} (hx : StepOk x) (hc : okC x.cmd) (hr : RdF (fun b => E.heap[b]?) x.cq.1 x.cq.2.1 2 (x.cmd.tg.flatMap tV)) (hk : RdF (fun b => E.heap[b]?) x.keep.1 x.keep.2.1 1 (xs.flatMap fun x => [.int .i64 x]))
    (h1 : φ 1 = some (b, δ)) (hf : ∀ i, (kS 0).length ≤ i → φ i = none) (h : St E (@kL (stT x) E φ ++ [blkL sb 32 (stepL x), blkL ab 35 rCells, old E]) w)
    (k : ∀ (w' : World) (u : Value), ToldV (DoC x) u → St E [blkL sb 32 (stepL x), blkL ab 35 rCells, old E] w' → R (.returned u) w') :
    Calls Tryz.prog 8 #[.pointer (some ⟨b, 0, none⟩), .agg ⟨stepL x⟩] w R := by
  letI : Tops := stT x
  obtain ⟨c, a1, a2, a3, a4, a5, a6, hok, hv, hC⟩ := ran hx
  let φ' : Phi := fun i => if i = kN then some (sb, 0) else if i = kN + 1 then some (ab, 0) else φ i
  have hN : φ' kN = some (sb, 0) := if_pos rfl
  have hN1 : φ' (kN + 1) = some (ab, 0) := by show (if kN + 1 = kN then _ else _) = _; rw [if_neg (by omega), if_pos rfl]
  have hl : Le φ φ' := fun i y hi => by
    by_cases e : kN ≤ i
    · rw [hf i e] at hi; cases hi
    · show (if i = kN then _ else _) = _
      rw [if_neg (by omega), if_neg (by omega)]; exact hi
  have h2 : St E ([blkL sb 32 (stepL x), blkL ab 35 rCells] ++ (kS 0).map (OA E φ)) w := h.perm (by
    rw [kS_eq, List.map_cons]
    show List.Perm (kL E φ ++ [blkL sb 32 (stepL x), blkL ab 35 rCells, old E]) (blkL sb 32 (stepL x) :: blkL ab 35 rCells :: old E :: kL E φ)
    exact List.perm_append_comm)
  have h3 : St E (blkL sb 32 (stepL x) :: blkL ab 35 rCells :: (kS 0).map (OA E φ')) w := by
    obtain ⟨e, y, hs, hy⟩ := h2
    exact ⟨e, y, sepL_tail (OA.mono hl) _ hs, hy⟩
  have h4 : St E (OA E φ' sObj :: blkL ab 35 rCells :: (kS 0).map (OA E φ')) w := OA_cells_mk (rest := []) hN sCells_ok sCells_one rfl (by decide) (by rw [List.append_nil]; exact h3)
  have h5 : St E (OA E φ' aObj :: OA E φ' sObj :: (kS 0).map (OA E φ')) w := OA_cells_mk (rest := []) (ys := rCells) hN1 (VRL.flat_ rfl) (fun u hu => by
    have : rCells.all one = true := by kernel_rfl
    exact List.all_eq_true.1 this u hu) rfl (by decide) (by rw [List.append_nil]; exact h4.f1)
  have hst : St E (kM.t.items.map (OA E φ')) w := laid_st (F := OA E φ') (kS 0 ++ [sObj, aObj]) .nil (by
    rw [List.map_append]
    exact h5.perm (((List.Perm.swap (OA E φ' sObj) (OA E φ' aObj) _)).trans (List.perm_append_comm (l₁ := [_, _]) (l₂ := (kS 0).map (OA E φ')))))
  have hmr : HR φ' E kM w := ⟨hst, fun i hi => by
    have hi : kN + 2 ≤ i := hi
    show (if i = kN then _ else _) = _
    rw [if_neg (by omega), if_neg (by omega)]
    exact hf i (by show kN ≤ i; omega)⟩
  have hΘ : ∀ (i : Nat) (u : Value), (cmdL x.cmd x.cq)[i]? = some u → ∀ v, Tops.ok (i + 8) v → v = u := fun i u hu v hv => by
    have hi := (List.getElem?_eq_some_iff.1 hu).1
    have hi8 : i < 8 := hi
    refine stT_ok (i := i + 7) ?_ (by omega) hv
    unfold stepL
    rw [List.append_assoc, List.getElem?_append_right (by simp), List.getElem?_append_left (by show i + 7 - 7 < 8; omega)]
    simpa using hu
  have hok : okD c (doK (stA a1 a2 a3 a4 a5 a6)) = true := hok
  unfold okD at hok
  split at hok
  · rename_i l hl'
    have hrun := callN_ok (E := E) mixed (fs1_fine hΘ hr hc (fun v hv => stT_ok (i := 6) rfl (by decide) hv) hk) 100 φ' _ _ [.pointer (some ⟨b, 0, none⟩), .agg ⟨stepL x⟩] _ w l hl' (.cons (.ptr (hl _ _ h1)) (.cons (.agg (hv φ')) .nil)) hmr
    unfold Out at hrun
    rw [run_callFunc (by kernel_rfl)] at hrun
    refine Calls.mono hrun fun e w' he => ?_
    cases e with
    | returned u =>
      obtain ⟨p, hp, ψ, hle, hu, hm2⟩ := he
      have ht := List.all_eq_true.1 hok p hp
      simp only [Bool.and_eq_true] at ht
      have a := takes_st (H := []) [.frm 0, sObj, aObj] _ ht.2 hm2.st
      have a : St E [old E, OA E (fun i => ψ i) sObj, OA E (fun i => ψ i) aObj] w' := a
      obtain ⟨b', δ', ys, rest, g1, g2, _, g4, _, a⟩ := OA_cells_open a.f1
      have e2 : (sb, 0) = (b', δ') := by have := (hle _ _ hN).symm.trans g1; injection this
      injection e2 with e3 e4
      subst e3 e4
      rw [Nat.zero_mul] at g4
      have := List.eq_nil_of_length_eq_zero g4
      subst this
      rw [sCells_eq g2, List.append_nil] at a
      have a : St E [blkL sb 32 (stepL x), old E, OA E (fun i => ψ i) aObj] w' := a
      obtain ⟨b', δ', ys, rest, g1, g2, _, g4, _, a⟩ := OA_cells_open a.f2
      have e2 : (ab, 0) = (b', δ') := by have := (hle _ _ hN1).symm.trans g1; injection this
      injection e2 with e3 e4
      subst e3 e4
      rw [Nat.zero_mul] at g4
      have := List.eq_nil_of_length_eq_zero g4
      subst this
      rw [VRL.flat_eq g2 rfl, List.append_nil] at a
      have a : St E [blkL ab 35 rCells, blkL sb 32 (stepL x), old E] w' := a
      exact k w' u (tells_ (fun v n hcv hvv => hC _ v n hcv hvv) ht.1 hu) a.f1
    | panicked ch => exact he.elim
    | outgrown => exact he.elim
  · cases hok
end
end Go.Ev

/-
  Commands that came in: what stands in them.
-/
namespace Go.Vc
open Go Go.Proofs Go.Proofs.YtaocnfjhfmapkaaGreatDoor
set_option maxRecDepth 100000
section
variable {H : Type} {enc : TypeId × Value → H} {W : World}
theorem trod_float0 {t : TypeId} {fk : FloatKind} (ht : Tryz.prog.underlying t = some (.float fk)) {fuel : Nat} {cs : List Value} {x : DataW H × List MemPlace} (h : DataW.trod enc Tryz.prog W 0 (fun _ => true) true fuel t cs = some x) : ∃ b, cs = [.float fk b] ∧ x = (.lit (.float fk b), []) ∧ (Lit.float fk b).wf = true := by
  cases fuel with
  | zero => simp [DataW.trod] at h
  | succ n =>
    unfold DataW.trod at h
    rw [ht] at h
    split at h <;> simp_all
theorem trod_float {t : TypeId} (ht : Tryz.prog.underlying t = some (.float .f64)) {fuel : Nat} {cs : List Value} {x : DataW H × List MemPlace} (h : DataW.trod enc Tryz.prog W 0 (fun _ => true) true fuel t cs = some x) : ∃ b, cs = [.float .f64 b] ∧ b < two64 := by
  obtain ⟨b, h1, _, h2⟩ := trod_float0 ht h
  exact ⟨b, h1, of_decide_eq_true h2⟩
theorem sl_of {t e : TypeId} (ht : Tryz.prog.underlying t = some (.slice e)) {fuel : Nat} {v : Value} {x : DataW H × List MemPlace} (h : DataW.trod enc Tryz.prog W 0 (fun _ => true) true fuel t [v] = some x) : ∃ a l c, v = .slice a l c ∧ l ≤ c := by
  rcases DataW.trod_slice ht h with ⟨hcs, _⟩ | ⟨ad, len, cap, _, _, _, _, hcs, _, _, hl, _⟩
  · simp at hcs; exact ⟨_, _, _, hcs, Nat.le_refl _⟩
  · simp at hcs; exact ⟨_, _, _, hcs, hl⟩
/-- Targets that came in. -/
theorem open_tgs {a : Option Addr} {l c : Nat} {fuel : Nat} {x : DataW H × List MemPlace} (h : DataW.trod enc Tryz.prog W 0 (fun _ => true) true fuel 25 [.slice a l c] = some x) :
    ∃ tg : List Cm.Tgt, RdS W a l 2 (tg.flatMap tV) ∧ okTs tg := by
  obtain ⟨tg, h1, h2, h3⟩ := open_elems (β := Cm.Tgt) (f := tV) okT tV_len (by decide) Tryz.underlying25 (by kernel_rfl) (fun n cs x hx => by
    obtain ⟨xs, m, _, _, hcl, hxl, hfs⟩ := DataW.trod_struct Tryz.underlying268 hx
    rw [show Tryz.prog.cellsOf 268 = 2 by kernel_rfl] at hcl
    have hxl2 : xs.length = 2 := hxl
    have cs_ : Tryz.prog.cellsOf 9 = 1 := by kernel_rfl
    have cf : Tryz.prog.cellsOf 39 = 1 := by kernel_rfl
    match cs, hcl with
    | [v0, v1], _ =>
      have f0 := hfs 0 _ rfl
      have f1 := hfs 1 _ rfl
      simp only [List.getElem_toArray, List.getElem_cons_zero, List.getElem_cons_succ, cs_, cf, List.drop_zero, List.drop_succ_cons, List.take_succ_cons, List.take_zero] at f0 f1
      rw [List.getElem?_eq_getElem (by omega)] at f0 f1
      obtain ⟨s0, e0, _, w0⟩ := DataW.trod_string Tryz.underlying9 f0
      obtain ⟨b1, e1, w1⟩ := trod_float Tryz.underlying39 f1
      simp at e0 e1
      subst e0 e1
      refine ⟨⟨s0.data.toList, b1⟩, by unfold tV; dsimp only; rw [bs_of], ?_, w1⟩
      have : s0.data.toList.length = s0.size := Array.length_toList
      show s0.data.toList.length ≤ huge
      rw [this]; exact w0) h
  refine ⟨tg, h1, ?_, h3⟩
  have := h1.count tV_len (by decide)
  rw [this]; exact h2
/-- A command that came in. -/
theorem open_cmd {fuel : Nat} {cs : List Value} {x : DataW H × List MemPlace} (hx : DataW.trod enc Tryz.prog W 0 (fun _ => true) true fuel 27 cs = some x) :
    ∃ d : Cm.Cmd × Sl, cs = cmdL d.1 d.2 ∧ okC d.1 ∧ RdS W d.2.1 d.2.2.1 2 (d.1.tg.flatMap tV) := by
  obtain ⟨xs, m, _, _, hcl, hxl, hfs⟩ := DataW.trod_struct Tryz.underlying27 hx
  rw [show Tryz.prog.cellsOf 27 = 8 by kernel_rfl] at hcl
  have hxl8 : xs.length = 8 := hxl
  have c1 : Tryz.prog.cellsOf 9 = 1 := by kernel_rfl
  have c2 : Tryz.prog.cellsOf 3 = 1 := by kernel_rfl
  have c3 : Tryz.prog.cellsOf 24 = 1 := by kernel_rfl
  have c4 : Tryz.prog.cellsOf 25 = 1 := by kernel_rfl
  match cs, hcl with
  | [v0, v1, v2, v3, v4, v5, v6, v7], _ =>
    have f0 := hfs 0 _ rfl
    have f1 := hfs 1 _ rfl
    have f2 := hfs 2 _ rfl
    have f3 := hfs 3 _ rfl
    have f4 := hfs 4 _ rfl
    have f5 := hfs 5 _ rfl
    have f6 := hfs 6 _ rfl
    have f7 := hfs 7 _ rfl
    simp only [List.getElem_toArray, List.getElem_cons_zero, List.getElem_cons_succ, c1, c2, c3, c4, List.drop_zero, List.drop_succ_cons, List.take_succ_cons, List.take_zero] at f0 f1 f2 f3 f4 f5 f6 f7
    rw [List.getElem?_eq_getElem (by omega)] at f0 f1 f2 f3 f4 f5 f6 f7
    obtain ⟨k0, e0, _⟩ := DataW.trod_int Tryz.underlying24 f0
    obtain ⟨k1, e1, _⟩ := DataW.trod_int Tryz.underlying3 f1
    obtain ⟨k2, e2, _⟩ := DataW.trod_int Tryz.underlying3 f2
    obtain ⟨k3, e3, _⟩ := DataW.trod_int Tryz.underlying3 f3
    obtain ⟨s4, e4, _, w4⟩ := DataW.trod_string Tryz.underlying9 f4
    obtain ⟨s5, e5, _, w5⟩ := DataW.trod_string Tryz.underlying9 f5
    obtain ⟨s6, e6, _, w6⟩ := DataW.trod_string Tryz.underlying9 f6
    obtain ⟨a7, l7, c7, rfl, _⟩ := sl_of Tryz.underlying25 f7
    obtain ⟨tg, h7, o7⟩ := open_tgs f7
    simp at e0 e1 e2 e3 e4 e5 e6
    subst e0 e1 e2 e3 e4 e5 e6
    have len : ∀ s : ByteArray, s.data.toList.length = s.size := fun s => Array.length_toList
    exact ⟨(⟨k0, k1, k2, k3, s4.data.toList, s5.data.toList, s6.data.toList, tg⟩, (a7, l7, c7)), by unfold cmdL; dsimp only; rw [bs_of, bs_of, bs_of], ⟨by show s4.data.toList.length ≤ huge; rw [len]; exact w4, by show s5.data.toList.length ≤ huge; rw [len]; exact w5, by show s6.data.toList.length ≤ huge; rw [len]; exact w6, o7⟩, h7⟩
theorem cmdL_len (d : Cm.Cmd × Sl) : (cmdL d.1 d.2).length = 8 := rfl
/-- Commands that came in. -/
def CmdsR (F : Fz) (a : Option Addr) (l : Nat) (ds : List (Cm.Cmd × Sl)) : Prop := RdF F a l 8 (ds.flatMap fun d => cmdL d.1 d.2) ∧ ∀ d ∈ ds, okC d.1 ∧ RdF F d.2.1 d.2.2.1 2 (d.1.tg.flatMap tV)
/-- A command that came in by itself. -/
theorem open_one {cs : Array Value} {d : DataW H} {ps : List MemPlace} (h : DataW.Trod enc Tryz.prog W 0 (fun _ => true) true 27 (.agg cs) d ps) : ∃ (c : Cm.Cmd) (q : Sl), (.agg cs : Value) = cmdV c q ∧ okC c ∧ RdF (fun b => W.heap[b]?) q.1 q.2.1 2 (c.tg.flatMap tV) := by
  obtain ⟨fuel, hf⟩ := h
  obtain ⟨d, e, h1, h2⟩ := open_cmd (cs := cs.toList) hf
  refine ⟨d.1, d.2, ?_, h1, RdF.of_world h2⟩
  unfold cmdV
  rw [← e]
end
end Go.Vc

/-
  A step that came in.
-/
namespace Go.Ev
open Go Go.Vc Go.Proofs Go.Proofs.YtaocnfjhfmapkaaGreatDoor
set_option maxRecDepth 100000
section
variable {H : Type} {enc : TypeId × Value → H} {W : World}
theorem int_in {fuel : Nat} {t : TypeId} {v : Value} {x : DataW H × List MemPlace} (ht : Tryz.prog.underlying t = some (.int .i64)) (h : DataW.trod enc Tryz.prog W 0 (fun _ => true) true fuel t [v] = some x) : ∃ n, v = .int .i64 n ∧ in64 n := by
  obtain ⟨n, e, _, hw⟩ := DataW.trod_int ht h
  simp [Lit.wf, IntKind.min, IntKind.max, IntKind.signed, IntKind.bits] at hw
  simp at e
  exact ⟨n, e, by omega, by omega⟩
theorem ints_in {a : Option Addr} {l c : Nat} {fuel : Nat} {x : DataW H × List MemPlace} (hm : DataW.trod enc Tryz.prog W 0 (fun _ => true) true fuel 23 [.slice a l c] = some x) : ∃ b : List Int, RdF (fun b => W.heap[b]?) a l 1 (b.flatMap fun i => [.int .i64 i]) := by
  obtain ⟨b, hr, _, _⟩ := open_elems (β := Int) (f := fun i => [.int .i64 i]) (fun _ => True) (fun _ => rfl) (by decide) Tryz.underlying23 (by kernel_rfl) (fun n cs x hx => by
    obtain ⟨k, rfl, _, _⟩ := DataW.trod_int Tryz.underlying3 hx
    exact ⟨k, rfl, trivial⟩) hm
  exact ⟨b, RdF.of_world hr⟩
theorem open_stepI {cs : Array Value} {d : DataW H} {ps : List MemPlace} (h : DataW.Trod enc Tryz.prog W 0 (fun _ => true) true 32 (.agg cs) d ps) :
    ∃ (x : StepI) (xs : List Int), cs = ⟨stepL x⟩ ∧ StepOk x ∧ okC x.cmd ∧ RdF (fun b => W.heap[b]?) x.cq.1 x.cq.2.1 2 (x.cmd.tg.flatMap tV) ∧ RdF (fun b => W.heap[b]?) x.keep.1 x.keep.2.1 1 (xs.flatMap fun i => [.int .i64 i]) := by
  obtain ⟨fuel, hf⟩ := h
  have hf : DataW.trod enc Tryz.prog W 0 (fun _ => true) true fuel 32 cs.toList = some (d, ps) := hf
  obtain ⟨cs⟩ := cs
  obtain ⟨xs, m, _, _, hcl, hxl, hfs⟩ := DataW.trod_struct Tryz.underlying32 hf
  rw [show Tryz.prog.cellsOf 32 = 17 by kernel_rfl] at hcl
  have hxl8 : xs.length = 9 := hxl
  have c1 : Tryz.prog.cellsOf 3 = 1 := by kernel_rfl
  have c2 : Tryz.prog.cellsOf 27 = 8 := by kernel_rfl
  have c3 : Tryz.prog.cellsOf 23 = 1 := by kernel_rfl
  have c4 : Tryz.prog.cellsOf 30 = 2 := by kernel_rfl
  have c5 : Tryz.prog.cellsOf 22 = 1 := by kernel_rfl
  have c6 : Tryz.prog.cellsOf 28 = 1 := by kernel_rfl
  match cs, hcl, hfs with
  | [v0, v1, v2, v3, v4, v5, v6, v7, v8, v9, v10, v11, v12, v13, v14, v15, v16], _, hfs =>
    have f0 := hfs 0 _ rfl
    have f1 := hfs 1 _ rfl
    have f2 := hfs 2 _ rfl
    have f3 := hfs 3 _ rfl
    have f4 := hfs 4 _ rfl
    have f5 := hfs 5 _ rfl
    have f6 := hfs 6 _ rfl
    have f7 := hfs 7 _ rfl
    have f8 := hfs 8 _ rfl
    simp only [List.getElem_toArray, List.getElem_cons_zero, List.getElem_cons_succ, c1, c2, c3, c4, c5, List.drop_zero, List.drop_succ_cons, List.take_succ_cons, List.take_zero] at f0 f1 f2 f3 f4 f5 f6 f7 f8
    rw [List.getElem?_eq_getElem (by omega)] at f0 f1 f2 f3 f4 f5 f6 f7 f8
    obtain ⟨n0, rfl, b0⟩ := int_in Tryz.underlying22 f0
    obtain ⟨n1, rfl, b1⟩ := int_in Tryz.underlying3 f1
    obtain ⟨n2, rfl, b2⟩ := int_in Tryz.underlying3 f2
    obtain ⟨n3, rfl, b3⟩ := int_in Tryz.underlying3 f3
    obtain ⟨n4, rfl, b4⟩ := int_in Tryz.underlying3 f4
    obtain ⟨n5, rfl, b5⟩ := int_in Tryz.underlying3 f5
    obtain ⟨a6, l6, k6, rfl, _⟩ := sl_of Tryz.underlying23 f6
    obtain ⟨ks, hk⟩ := ints_in f6
    obtain ⟨c, e, hc, hr⟩ := open_cmd f7
    obtain ⟨ys, m4, _, _, _, hyl, hgs⟩ := DataW.trod_struct Tryz.underlying30 f8
    have hyl2 : ys.length = 2 := hyl
    have g0 := hgs 0 _ rfl
    have g1 := hgs 1 _ rfl
    simp only [List.getElem_toArray, List.getElem_cons_zero, List.getElem_cons_succ, c1, c6, List.drop_zero, List.drop_succ_cons, List.take_succ_cons, List.take_zero] at g0 g1
    rw [List.getElem?_eq_getElem (by omega)] at g0 g1
    obtain ⟨n7, rfl, b7⟩ := int_in Tryz.underlying28 g0
    obtain ⟨n8, rfl, b8⟩ := int_in Tryz.underlying3 g1
    refine ⟨⟨n0, n1, n2, n3, n4, n5, (a6, l6, k6), c.1, c.2, n7, n8⟩, ks, ?_, ⟨b0, b1, b2, b3, b4, b5, b7, b8⟩, hc, RdF.of_world hr, hk⟩
    unfold stepL
    dsimp only
    rw [← e]
    rfl
end
end Go.Ev

/-
  A nil cluster answers so: the walk.
-/
namespace Go.Ev
open Go Go.Vc Go.RowKit Go.Proofs Go.Proofs.YtaocnfjhfmapkaaGreatDoor
set_option maxRecDepth 100000
section
variable {E w : World} {L : List Asrt} {R : Ending → World → Prop} {x : StepI} {g gT ty : Nat} {Kn : Bool → World → Prop} {Kp : List PanicEntry → World → Prop}
theorem short_spec (h : St E L w) (k : ∀ w' b, St E L w' → R (.returned (.bool b)) w') : Calls Tryz.prog 6 #[.agg ⟨stepL x⟩] w R := by
  refine C_law13_short ?_
  unfold T_law13_short
  intro w2
  have h2 : St E (blkL w.heap.size 32 (stepL x) :: L) w2 := h.alloc (.cells ⟨stepL x⟩ 32)
  clear_value w2
  generalize w.heap.size = g at *
  refine ⟨_, _, _, rd_fld (k := 6) h2.at_blk rfl rfl, ite_d (fun _ => ?_) fun _ => k _ _ h2.drop⟩
  refine ⟨_, _, _, rd_fld (k := 14) h2.at_blk rfl rfl, ite_d (fun _ => ?_) fun _ => k _ _ h2.drop⟩
  exact ⟨_, rd_fld (k := 11) h2.at_blk rfl rfl, _, rd_fld (k := 12) h2.at_blk rfl rfl, _, rd_fld (k := 13) h2.at_blk rfl rfl, k _ _ h2.drop⟩
theorem step3 {n e : Int} (ht : rd w ⟨gT, 0, none⟩ (.int .i64 e)) (k : ∀ ok : Bool, (ok = true ↔ n = 1 ∨ n = 2 ∨ e ≠ 0) → Kn ok w) : T_law13_ClusterNone_3 n ⟨gT, 0, none⟩ w Kn Kp := by
  unfold T_law13_ClusterNone_3
  refine ite_b (fun h1 => k _ ?_) fun h1 => ite_b (fun h2 => k _ ?_) fun h2 => ⟨e, ht, k _ ?_⟩
  · simp at h1; simp [h1]
  · simp at h2; simp [h2]
  · simp at h1 h2; simp [h1, h2]
theorem step4 {m : Int} (ht : rd w ⟨g, 0, none⟩ (.int .i64 m)) (k : ∀ ok : Bool, (ok = true ↔ m = 2 ∨ m = 3 ∨ m = 4) → Kn ok w) : T_law13_ClusterNone_4 ⟨g, 0, none⟩ w Kn Kp := by
  unfold T_law13_ClusterNone_4
  refine ⟨m, ht, ite_b (fun h1 => k _ ?_) fun h1 => ⟨m, ht, ite_b (fun h2 => k _ ?_) fun h2 => ⟨m, ht, k _ ?_⟩⟩⟩
  · simp at h1; simp [h1]
  · simp at h2; simp [h2]
  · simp at h1 h2; simp [h1, h2]
theorem step5 {e : Int} {ok b : Bool} (ht : rd w ⟨gT, 0, none⟩ (.int .i64 e)) (k : ∀ ok' : Bool, (ok' = true ↔ if b = true then e = 8 else ok = true) → Kn ok' w) : T_law13_ClusterNone_5 ⟨gT, 0, none⟩ ok b w Kn Kp := by
  unfold T_law13_ClusterNone_5
  refine ite_b (fun h1 => ⟨e, ht, k _ ?_⟩) fun h1 => k _ ?_
  · simp [h1]
  · simp [h1]
theorem step6 {m : Int} (ht : rd w ⟨g, 0, none⟩ (.int .i64 m)) (k : ∀ ok : Bool, (ok = true ↔ m = 5 ∨ m = 6) → Kn ok w) : T_law13_ClusterNone_6 ⟨g, 0, none⟩ w Kn Kp := by
  unfold T_law13_ClusterNone_6
  refine ⟨m, ht, ite_b (fun h1 => k _ ?_) fun h1 => ⟨m, ht, k _ ?_⟩⟩
  · simp at h1; simp [h1]
  · simp at h1; simp [h1]
theorem step7 {ok b : Bool} (k : ∀ ok' : Bool, (ok' = true ↔ b = true ∨ ok = true) → Kn ok' w) : T_law13_ClusterNone_7 ok b w Kn Kp := by
  unfold T_law13_ClusterNone_7
  refine ite_b (fun h1 => k _ ?_) fun h1 => k _ ?_
  · simp [h1]
  · simp [h1]
theorem does {x : StepI} {e : Int} {a b c d f : Bool} (hC : DoC x e) (ha : a = true ↔ x.node = 1 ∨ x.node = 2 ∨ e ≠ 0) (hb : b = true ↔ x.kind = 2 ∨ x.kind = 3 ∨ x.kind = 4) (hc : c = true ↔ if b = true then e = 8 else a = true) (hd : d = true ↔ x.kind = 5 ∨ x.kind = 6) (hf : f = true ↔ d = true ∨ c = true) : f = true := by
  unfold DoC at hC
  rw [hf]
  split at hC
  · rename_i hk
    right
    rw [hc, if_pos (hb.2 hk)]
    exact hC
  · rename_i hk
    rcases hC with h | h | h
    · exact .inl (hd.2 (.inl h))
    · exact .inl (hd.2 (.inr h))
    · right
      rw [hc, if_neg fun h => hk (hb.1 h)]
      exact ha.2 h
abbrev replyC : Value := .agg #[.int .i64 0, .int .i64 0, .string (ByteArray.mk #[]), .string (ByteArray.mk #[])]
theorem csame_reply (w : World) : (do eqGuard .eql 35 (.tmp 127) (.tmp 128) replyC replyC; binOp .eql 35 replyC replyC : Sem Value).run Tryz.prog w = .ok (.bool true) w := by kernel_rfl
theorem clus_walk {xs : List Int} {n : Int} (hx : StepOk x) (hn : in64 n) (hc : okC x.cmd) (hr : RdF (fun b => E.heap[b]?) x.cq.1 x.cq.2.1 2 (x.cmd.tg.flatMap tV)) (hk : RdF (fun b => E.heap[b]?) x.keep.1 x.keep.2.1 1 (xs.flatMap fun x => [.int .i64 x]))
    (h : St E [old E] w) (k : ∀ w' L, St E (old E :: L) w' → R (.returned (.bool true)) w') : Calls Tryz.prog 3 #[.agg ⟨stepL x⟩, .int .i64 n] w R := by
  let x' : StepI := { x with node := n }
  have hx' : StepOk x' := ⟨hx.kind, hn, hx.to, hx.at_, hx.draw, hx.tag, hx.chd, hx.chn⟩
  letI : Tops := stT x'
  refine C_law13_ClusterNone ?_
  unfold T_law13_ClusterNone
  intro w3
  have h3 : St E [blkL w.heap.size 32 (stepL x), old E] w3 := h.alloc (.cells ⟨stepL x⟩ 32)
  clear_value w3
  generalize w.heap.size = g at *
  refine same_call (cserve_nil n w3) h3 fun w5 h5 => ⟨_, _, _, _, _, rfl, ?_⟩
  intro w11
  have h11 : St E [blkL w5.heap.size 35 rCells, blkL g 32 (stepL x), old E] w11 := h5.alloc (.cells ⟨rCells⟩ 35)
  clear_value w11
  generalize w5.heap.size = gR at *
  refine ⟨rfl, wrOk_agg h11.at_blk (by decide) (fun u hu => List.all_eq_true.1 (rfl : List.all _ one = true) u hu), ?_⟩
  intro w12
  have h12 : St E [blkL gR 35 rCells, blkL g 32 (stepL x), old E] w12 := h11.wr_agg0 (xs := rCells) rfl
  clear_value w12
  refine knew_spec h12 fun w14 φ b δ h1 hf h14 => ⟨_, _, rfl, ?_⟩
  have h14 : St E (blkL g 32 (stepL x) :: blkL gR 35 rCells :: old E :: kL E φ) w14 := (show St E (blkL gR 35 rCells :: blkL g 32 (stepL x) :: old E :: kL E φ) w14 from h14.perm List.perm_append_comm).f1
  unfold T_law13_ClusterNone_1
  refine ite_b (fun hh => absurd hh (by decide)) fun _ => ite_b (fun hh => by cases hh) fun _ => ⟨⟨stepL x⟩, rfl, rd_agg (xs := stepL x) h14.at_blk (by intro i u hu; rw [Nat.zero_add]; exact hu), ?_⟩
  refine short_spec h14 fun w22 bs h22 => ⟨_, rfl, ?_⟩
  cases bs with
  | false =>
    refine ite_b (fun _ => ?_) fun hh => by cases hh
    unfold T_law13_ClusterNone_2
    refine ite_b (fun _ => ?_) fun hh => absurd hh (by decide)
    exact same_call (clive_true w22) h22 fun w30 h30 => ⟨_, rfl, k _ _ h30.drop.drop⟩
  | true =>
  refine ite_b (fun hh => absurd hh (by decide)) fun _ => ?_
  refine ⟨rfl, wrOk_fld h22.at_blk (show 1 < 17 by decide) rfl, ?_⟩
  intro w36
  have h36 : St E (blkL g 32 (stepL x') :: blkL gR 35 rCells :: old E :: kL E φ) w36 := h22.wr_fld (k := 1) (v := .int .i64 n) rfl
  clear_value w36
  refine ⟨⟨stepL x'⟩, rfl, rd_agg (xs := stepL x') h36.at_blk (by intro i u hu; rw [Nat.zero_add]; exact hu), ?_⟩
  refine kdo_spec (x := x') (sb := g) (ab := gR) hx' hc hr hk h1 hf (h36.perm (List.perm_append_comm (l₁ := [_, _, _]) (l₂ := kL E φ))) fun w39 u ⟨e, nn, i, t, s1, s2, s3, hu, hC⟩ h39 => ?_
  subst hu
  refine ⟨_, _, _, _, _, _, _, _, _, _, _, _, _, rfl, ?_⟩
  intro w47
  have h47 := h39.alloc (.cells ⟨[.int .i64 0, .int .i64 0, .int .i64 0, .int .i64 0, .slice none 0 0, .slice none 0 0, .slice none 0 0]⟩ 48)
  have e47 : w39.alloc (.cells ⟨[.int .i64 0, .int .i64 0, .int .i64 0, .int .i64 0, .slice none 0 0, .slice none 0 0, .slice none 0 0]⟩ 48) = w47 := rfl
  rw [e47] at h47
  clear_value w47
  generalize w39.heap.size = gT at *
  refine ⟨rfl, wrOk_agg h47.at_blk (show 7 ≤ 7 by decide) (fun u hu => List.all_eq_true.1 (rfl : List.all _ one = true) u hu), ?_⟩
  intro w48
  have h48 : St E [blkL gT 48 [.int .i64 e, .int .i64 nn, .int .i64 i, .int .i64 t, .slice s1.1 s1.2.1 s1.2.2, .slice s2.1 s2.2.1 s2.2.2, .slice s3.1 s3.2.1 s3.2.2], blkL g 32 (stepL x'), blkL gR 35 rCells, old E] w48 := St.wr_agg0 h47 rfl
  clear_value w48
  have rT : rd w48 ⟨gT, 0, none⟩ (.int .i64 e) := rd_fld (k := 0) h48.at_blk rfl rfl
  have rS : rd w48 ⟨g, 0, none⟩ (.int .i64 x'.kind) := rd_fld (k := 0) h48.f1.at_blk rfl rfl
  refine step3 rT fun a ha => step4 rS fun b2 hb => step5 rT fun c hc2 => step6 rS fun d hd => step7 fun f hf2 => ?_
  have hf := does (x := x') hC ha hb hc2 hd hf2
  refine same_call (clive_true w48) h48.f1 fun w86 h86 => ⟨_, rfl, ite_b (fun _ => ite_b (fun _ => ?_) fun hh => by rw [hf] at hh; cases hh) fun hh => by cases hh⟩
  refine ⟨⟨stepL x'⟩, rfl, rd_agg (xs := stepL x') h86.at_blk (by intro i u hu; rw [Nat.zero_add]; exact hu), ?_⟩
  refine same_call (cdo_nil rfl (one_stepL x') w86) h86 fun w90 h90 => ⟨_, _, _, _, _, _, _, _, _, _, _, _, _, rfl, ite_b (fun _ => ?_) fun hh => by cases hh⟩
  refine ⟨⟨stepL x'⟩, rfl, rd_agg (xs := stepL x') h90.at_blk (by intro i u hu; rw [Nat.zero_add]; exact hu), ?_⟩
  refine same_call (cdo_nil rfl (one_stepL x') w90) h90 fun w100 h100 => ⟨_, _, _, _, _, _, _, _, _, _, _, _, _, rfl, ?_⟩
  refine same_call (csame_nil w100) h100 fun w109 h109 => ⟨_, rfl, ite_b (fun _ => ?_) fun hh => by cases hh⟩
  refine same_call (cnodes_nil w109) h109 fun w112 h112 => ⟨_, rfl, ite_b (fun _ => ?_) fun hh => by cases hh⟩
  refine same_call (cup_nil n w112) h112 fun w115 h115 => ⟨_, rfl, ite_b (fun _ => ?_) fun hh => by cases hh⟩
  refine same_call (capp_nil n w115) h115 fun w118 h118 => ⟨_, rfl, ite_b (fun _ => ?_) fun hh => by cases hh⟩
  refine same_call (cent_nil n n n w118) h118 fun w121 h121 => ⟨_, _, _, rfl, ite_b (fun _ => ite_b (fun _ => ?_) fun hh => by cases hh) fun hh => by cases hh⟩
  refine ⟨_, _, _, _, rd_agg (xs := rCells) h121.f2.at_blk (by intro i u hu; rw [Nat.zero_add]; exact hu), ?_⟩
  refine runV_ok (csame_reply w121) ⟨_, rfl, ite_b (fun _ => ?_) fun hh => by cases hh⟩
  exact same_call (cund_nil w121) h121 fun w131 h131 => ⟨_, _, _, rfl, k _ _ (h131.drop.drop.drop)⟩
end
theorem clus_law {H : Type} {enc : TypeId × Value → H} {W : World} {cs : Array Value} {d : DataW H} {ps : List MemPlace} {n : Int} (h : DataW.Trod enc Tryz.prog W 0 (fun _ => true) true 32 (.agg cs) d ps) (w1 : (Lit.int .i64 n).wf = true) :
    Calls Tryz.prog 3 #[.agg cs, .int .i64 n] W fun e w' => e = .returned (.bool true) ∧ RowKit.Below W.heap.size W w' := by
  obtain ⟨x, xs, rfl, hx, hc, hr, hk⟩ := open_stepI h
  have hn : in64 n := by
    simp [Lit.wf, IntKind.min, IntKind.max, IntKind.signed, IntKind.bits] at w1
    exact ⟨by omega, by omega⟩
  exact clus_walk hx hn hc hr hk (St.start W) fun w' L h' => ⟨rfl, h'.below⟩
end Go.Ev
