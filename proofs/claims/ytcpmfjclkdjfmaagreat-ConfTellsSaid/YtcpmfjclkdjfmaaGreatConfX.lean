/-
  Commands that came in: what stands in them.
-/
import Derived.Test.YtcpmfjclkdjfmaaGreatConfB
import Derived.Test.YtcpmfjclkdjfmaaGreatVcLaw
namespace Go.Vc
open Go Go.Proofs Go.Proofs.YtcpmfjclkdjfmaaGreat
set_option maxRecDepth 100000
section
variable {H : Type} {enc : TypeId × Value → H} {W : World}
theorem trod_float0 {t : TypeId} {fk : FloatKind} (ht : Tryz.prog.underlying t = some (.float fk)) {fuel : Nat} {cs : List Value} {x : DataW H × List MemPlace} (h : DataW.trod enc Tryz.prog W 0 (fun _ => true) true fuel t cs = some x) : ∃ b, cs = [.float fk b] ∧ x = (.lit (.float fk b), []) ∧ (Lit.float fk b).wf = true := by
  cases fuel with
  | zero => simp [DataW.trod] at h
  | succ n =>
    unfold DataW.trod at h
    rw [ht] at h
    split at h <;> simp_all
theorem trod_float {t : TypeId} (ht : Tryz.prog.underlying t = some (.float .f64)) {fuel : Nat} {cs : List Value} {x : DataW H × List MemPlace} (h : DataW.trod enc Tryz.prog W 0 (fun _ => true) true fuel t cs = some x) : ∃ b, cs = [.float .f64 b] ∧ b < two64 := by
  obtain ⟨b, h1, _, h2⟩ := trod_float0 ht h
  exact ⟨b, h1, of_decide_eq_true h2⟩
theorem sl_of {t e : TypeId} (ht : Tryz.prog.underlying t = some (.slice e)) {fuel : Nat} {v : Value} {x : DataW H × List MemPlace} (h : DataW.trod enc Tryz.prog W 0 (fun _ => true) true fuel t [v] = some x) : ∃ a l c, v = .slice a l c ∧ l ≤ c := by
  rcases DataW.trod_slice ht h with ⟨hcs, _⟩ | ⟨ad, len, cap, _, _, _, _, hcs, _, _, hl, _⟩
  · simp at hcs; exact ⟨_, _, _, hcs, Nat.le_refl _⟩
  · simp at hcs; exact ⟨_, _, _, hcs, hl⟩
/-- Targets that came in. -/
theorem open_tgs {a : Option Addr} {l c : Nat} {fuel : Nat} {x : DataW H × List MemPlace} (h : DataW.trod enc Tryz.prog W 0 (fun _ => true) true fuel 32 [.slice a l c] = some x) :
    ∃ tg : List Cm.Tgt, RdS W a l 2 (tg.flatMap tV) ∧ okTs tg := by
  obtain ⟨tg, h1, h2, h3⟩ := open_elems (β := Cm.Tgt) (f := tV) okT tV_len (by decide) Tryz.underlying32 (by kernel_rfl) (fun n cs x hx => by
    obtain ⟨xs, m, _, _, hcl, hxl, hfs⟩ := DataW.trod_struct Tryz.underlying64 hx
    rw [show Tryz.prog.cellsOf 64 = 2 by kernel_rfl] at hcl
    have hxl2 : xs.length = 2 := hxl
    have cs_ : Tryz.prog.cellsOf 9 = 1 := by kernel_rfl
    have cf : Tryz.prog.cellsOf 62 = 1 := by kernel_rfl
    match cs, hcl with
    | [v0, v1], _ =>
      have f0 := hfs 0 _ rfl
      have f1 := hfs 1 _ rfl
      simp only [List.getElem_toArray, List.getElem_cons_zero, List.getElem_cons_succ, cs_, cf, List.drop_zero, List.drop_succ_cons, List.take_succ_cons, List.take_zero] at f0 f1
      rw [List.getElem?_eq_getElem (by omega)] at f0 f1
      obtain ⟨s0, e0, _, w0⟩ := DataW.trod_string Tryz.underlying9 f0
      obtain ⟨b1, e1, w1⟩ := trod_float Tryz.underlying62 f1
      simp at e0 e1
      subst e0 e1
      refine ⟨⟨s0.data.toList, b1⟩, by unfold tV; dsimp only; rw [bs_of], ?_, w1⟩
      have : s0.data.toList.length = s0.size := Array.length_toList
      show s0.data.toList.length ≤ huge
      rw [this]; exact w0) h
  refine ⟨tg, h1, ?_, h3⟩
  have := h1.count tV_len (by decide)
  rw [this]; exact h2
/-- A command that came in. -/
theorem open_cmd {fuel : Nat} {cs : List Value} {x : DataW H × List MemPlace} (hx : DataW.trod enc Tryz.prog W 0 (fun _ => true) true fuel 42 cs = some x) :
    ∃ d : Cm.Cmd × Sl, cs = cmdL d.1 d.2 ∧ okC d.1 ∧ RdS W d.2.1 d.2.2.1 2 (d.1.tg.flatMap tV) := by
  obtain ⟨xs, m, _, _, hcl, hxl, hfs⟩ := DataW.trod_struct Tryz.underlying42 hx
  rw [show Tryz.prog.cellsOf 42 = 8 by kernel_rfl] at hcl
  have hxl8 : xs.length = 8 := hxl
  have c1 : Tryz.prog.cellsOf 9 = 1 := by kernel_rfl
  have c2 : Tryz.prog.cellsOf 3 = 1 := by kernel_rfl
  have c3 : Tryz.prog.cellsOf 40 = 1 := by kernel_rfl
  have c4 : Tryz.prog.cellsOf 32 = 1 := by kernel_rfl
  match cs, hcl with
  | [v0, v1, v2, v3, v4, v5, v6, v7], _ =>
    have f0 := hfs 0 _ rfl
    have f1 := hfs 1 _ rfl
    have f2 := hfs 2 _ rfl
    have f3 := hfs 3 _ rfl
    have f4 := hfs 4 _ rfl
    have f5 := hfs 5 _ rfl
    have f6 := hfs 6 _ rfl
    have f7 := hfs 7 _ rfl
    simp only [List.getElem_toArray, List.getElem_cons_zero, List.getElem_cons_succ, c1, c2, c3, c4, List.drop_zero, List.drop_succ_cons, List.take_succ_cons, List.take_zero] at f0 f1 f2 f3 f4 f5 f6 f7
    rw [List.getElem?_eq_getElem (by omega)] at f0 f1 f2 f3 f4 f5 f6 f7
    obtain ⟨k0, e0, _⟩ := DataW.trod_int Tryz.underlying40 f0
    obtain ⟨k1, e1, _⟩ := DataW.trod_int Tryz.underlying3 f1
    obtain ⟨k2, e2, _⟩ := DataW.trod_int Tryz.underlying3 f2
    obtain ⟨k3, e3, _⟩ := DataW.trod_int Tryz.underlying3 f3
    obtain ⟨s4, e4, _, w4⟩ := DataW.trod_string Tryz.underlying9 f4
    obtain ⟨s5, e5, _, w5⟩ := DataW.trod_string Tryz.underlying9 f5
    obtain ⟨s6, e6, _, w6⟩ := DataW.trod_string Tryz.underlying9 f6
    obtain ⟨a7, l7, c7, rfl, _⟩ := sl_of Tryz.underlying32 f7
    obtain ⟨tg, h7, o7⟩ := open_tgs f7
    simp at e0 e1 e2 e3 e4 e5 e6
    subst e0 e1 e2 e3 e4 e5 e6
    have len : ∀ s : ByteArray, s.data.toList.length = s.size := fun s => Array.length_toList
    exact ⟨(⟨k0, k1, k2, k3, s4.data.toList, s5.data.toList, s6.data.toList, tg⟩, (a7, l7, c7)), by unfold cmdL; dsimp only; rw [bs_of, bs_of, bs_of], ⟨by show s4.data.toList.length ≤ huge; rw [len]; exact w4, by show s5.data.toList.length ≤ huge; rw [len]; exact w5, by show s6.data.toList.length ≤ huge; rw [len]; exact w6, o7⟩, h7⟩
theorem cmdL_len (d : Cm.Cmd × Sl) : (cmdL d.1 d.2).length = 8 := rfl
/-- Commands that came in. -/
def CmdsR (F : Fz) (a : Option Addr) (l : Nat) (ds : List (Cm.Cmd × Sl)) : Prop := RdF F a l 8 (ds.flatMap fun d => cmdL d.1 d.2) ∧ ∀ d ∈ ds, okC d.1 ∧ RdF F d.2.1 d.2.2.1 2 (d.1.tg.flatMap tV)
theorem open_cmds {a : Option Addr} {l c : Nat} {d : DataW H} {ps : List MemPlace} (h : DataW.Trod enc Tryz.prog W 0 (fun _ => true) true 22 (.slice a l c) d ps) : ∃ ds, CmdsR (fun b => W.heap[b]?) a l ds ∧ l ≤ maxLen := by
  obtain ⟨fuel, hf⟩ := h
  obtain ⟨ds, h1, h2, h3⟩ := open_elems (β := Cm.Cmd × Sl) (f := fun d => cmdL d.1 d.2) (fun d => okC d.1 ∧ RdS W d.2.1 d.2.2.1 2 (d.1.tg.flatMap tV)) cmdL_len (by decide) Tryz.underlying22 (by kernel_rfl) (fun n cs x hx => by
    obtain ⟨d, e, h1, h2⟩ := open_cmd hx
    exact ⟨d, e, h1, h2⟩) hf
  exact ⟨ds, ⟨RdF.of_world h1, fun d hd => ⟨(h3 d hd).1, RdF.of_world (h3 d hd).2⟩⟩, h2⟩
/-- A command that came in by itself. -/
theorem open_one {cs : Array Value} {d : DataW H} {ps : List MemPlace} (h : DataW.Trod enc Tryz.prog W 0 (fun _ => true) true 42 (.agg cs) d ps) : ∃ (c : Cm.Cmd) (q : Sl), (.agg cs : Value) = cmdV c q ∧ okC c ∧ RdF (fun b => W.heap[b]?) q.1 q.2.1 2 (c.tg.flatMap tV) := by
  obtain ⟨fuel, hf⟩ := h
  obtain ⟨d, e, h1, h2⟩ := open_cmd (cs := cs.toList) hf
  refine ⟨d.1, d.2, ?_, h1, RdF.of_world h2⟩
  unfold cmdV
  rw [← e]
end
end Go.Vc
