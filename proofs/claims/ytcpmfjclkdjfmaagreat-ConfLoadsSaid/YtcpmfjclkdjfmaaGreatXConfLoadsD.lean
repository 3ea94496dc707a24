/-
  Texts of this claim's own, laid into one: ConfK, ConfL, ConfM, ConfA, VcSort, ConfS, ConfB, VcStr, ConfC, VcEq, ConfPa, ConfD, ConfE, ConfF, ConfH, ConfI.
-/
import Derived.Test.YtcpmfjclkdjfmaaGreatProg
import Derived.Shelf.SlIter.Collect
import Derived.Shelf.SlLaysM
import Derived.Shelf.SlLaysF0
import Derived.Sort.Grow
import Derived.Sort.EncStr
import Derived.Sort.Walk0
import Derived.Shelf.GgSortFunc.RowK
import Derived.Shelf.GgSortFunc.InsertionK
import Derived.Shelf.SlSortCmp.Insertion
import Derived.Shelf.SortM.Plain
import Derived.Shelf.SortM.SortNone
import Derived.Shelf.SlSortCmp.NoneTotal
import Derived.Laws.Externs
import Derived.Test.YtcpmfjclkdjfmaaGreatXConfLoadsA
import Derived.Test.YtcpmfjclkdjfmaaGreatXConfLoadsB
import Derived.Test.YtcpmfjclkdjfmaaGreatXConfLoadsC
set_option linter.all false
/-
  maps.Keys and slices.Collect at the three kinds of keys: what is collected is the keys, each once, in some order.
-/
namespace Go.Vc
open Go Go.Proofs Go.RowKit Go.Maps Go.Sort Go.Shelf
set_option maxRecDepth 100000
def rfCode (f : Func) : Code × Code := match f.body with
  | some (.seq _ (.seq (.seq _ (.block _ (.rangeFunc _ _ a b))) _)) => (a, b)
  | _ => (.skip, .skip)

/-! ### P -/
def encP (x : (List UInt8 × List UInt8)) : Value := .agg #[.string ⟨x.1.toArray⟩, .string ⟨x.2.toArray⟩]
def celP (x : (List UInt8 × List UInt8)) : List Value := [.string ⟨x.1.toArray⟩, .string ⟨x.2.toArray⟩]
noncomputable def asgP : Code := (rfCode Tryz.f138).1
noncomputable def bodP : Code := (rfCode Tryz.f138).2
section
variable {ν : Type} {vv : ν → Value}
set_option maxHeartbeats 1000000 in
theorem keysP_in (F : Fence) (n : Nat) (hf : F.fn 113) (hro : F.round = none) (hn : 1 ≤ n) (l Bm b : Nat) (m : List ((List UInt8 × List UInt8) × ν)) (J : List ((List UInt8 × List UInt8)) → World → Prop)
    (hY : ∀ pre x W, J pre W → pre.length < m.length → YieldAt F (n - 1) Tryz.prog l #[encP x] W fun e W' => e = .returned (.bool true) ∧ J (pre ++ [x]) W' ∧ KeepsWalks W W')
    (W : World) (hJ : AbidesFrom W.heap.size J) (hm : W.cell? ⟨Bm, 0, none⟩ = some (.map (some b))) (hown : MapW W b encP vv m) (h0 : J [] W) :
    CallsIn F n Tryz.prog 113 #[.func (.yield l) #[] #[], .pointer (some ⟨Bm, 0, none⟩)] W fun e W' => (∃ v, e = .returned v) ∧ ∃ ss : List ((List UInt8 × List UInt8)), ss.Perm (m.map (·.1)) ∧ J ss W' := by
  refine callsIn_of_wp Tryz.func113 rfl hf ?_ hro
  simp only [Tryz.ntmps113, List.size_toArray, List.length_cons, List.length_nil, Nat.reduceAdd, Nat.reduceSub, Array.replicate_succ, Array.replicate_zero, List.push_toArray, List.append_toArray, List.nil_append, List.cons_append]
  gi_wp2_with (first
    | (gi_at_range; refine wpListIn_range_it _ rfl _ 76 rfl Tryz.underlying76 rfl hown ?_; intro w0 hrg0 hg0 hs0)
    | gi_in)
  go_frame
  gi_loopw [3] (fun _ wr => ∃ (rest : List ((List UInt8 × List UInt8) × ν)) (ss : List ((List UInt8 × List UInt8))), IterW wr W.heap.size b encP vv m rest ∧ (ss ++ rest.map (·.1)).Perm (m.map (·.1)) ∧ J ss wr)
    (fun _ wr => wr.rangeLeft b W.heap.size)
  case atStart =>
    exact ⟨_, [], hrg0, by simp, hJ [] W w0 none h0 hg0 (fun r e => by cases e)⟩
  case round =>
    obtain ⟨rest, ss, hrg, hC, hJs⟩ := hrel
    gi_wp2_with (first
      | (gi_at_next; refine wpListIn_next_it _ rfl _ rfl rfl hrg ?_ ?_)
      | gi_in)
    · intro hc0
      gi_wp2
      go_end0
      exact ⟨⟨_, rfl⟩, ss, by subst hc0; simpa using hC, hJs⟩
    · intro r1 kh kp v r2 w2 hrest hrg2 hg2 hs2 hen
      have hlen : ss.length < m.length := by have := hC.length_eq; rw [hrest] at this; simp at this; omega
      have hg3 := hg2.andThen (World.grownBy_alloc w2 (.cells #[Value.string ⟨kh.toArray⟩, Value.string ⟨kp.toArray⟩] 89) none) (fun j e => by cases e)
      have hJ2 : J ss (w2.alloc (.cells #[Value.string ⟨kh.toArray⟩, Value.string ⟨kp.toArray⟩] 89)) := hJ ss wr _ (some W.heap.size) hJs hg3 (fun r e => by cases e; exact ⟨Nat.le_refl _, hrg.walk⟩)
      have hrg2a := hrg2.of_walks (KeepsWalks.alloc w2 (.cells #[Value.string ⟨kh.toArray⟩, Value.string ⟨kp.toArray⟩] 89))
      obtain ⟨fn, tmps, assign, body, hy, hR⟩ := hY ss (kh, kp) _ hJ2 hlen
      simp only [encP] at hen hy ⊢
      clear hs2
      gi_wp2
      refine hR.mono ?_
      rintro e W3 ⟨rfl, hJ3, hk3⟩
      gi_wp2
      have hrg3 := hrg2a.of_walks hk3
      go_roundw
      case rel => exact ⟨_, ss ++ [(kh, kp)], hrg3, by
        rw [hrest] at hC
        refine List.Perm.trans ?_ hC
        simp only [List.map_append, List.map_cons, List.append_assoc]
        refine List.Perm.append_left ss ?_
        simp only [List.singleton_append]
        exact List.perm_middle.symm, hJ3⟩
      case measure => rw [hrg3.left, hrg.left, hrest]; simp
theorem givesP (F : Fence) (n : Nat) (hf : F.fn 113) (hro : F.round = none) (hn : 1 ≤ n) (Bm b : Nat) (m : List ((List UInt8 × List UInt8) × ν)) (w : World) (hBm : Bm < w.heap.size)
    (hm : w.cell? ⟨Bm, 0, none⟩ = some (.map (some b))) (hown : MapW w b encP vv m) : SeqGives F n Tryz.prog 113 #[.pointer (some ⟨Bm, 0, none⟩)] encP (fun ss => ss.Perm (m.map (·.1))) m.length w := fun l J W hW hJ hY h0 =>
  keysP_in F n hf hro hn l Bm b m J hY W hJ ((hW.cell (p := ⟨Bm, 0, none⟩) hBm).trans hm) (hown.later hW) h0
end
noncomputable def recP (fn : FuncId) (sv : Value) (Bs D : Nat) (st : LoopState) (pend : Option Code) : Loop :=
  { state := st, pending := pend, fn, tmps := #[.slice none 0 0, sv, .pointer (some ⟨Bs, 0, none⟩), undef, .slice none 0 0, undef, sv, undef, undef, undef, undef, undef, undef], params := #[7], assign := asgP, body := bodP, defers := D }
structure AtP (w0 : World) (fn : FuncId) (sv : Value) (Bs l D : Nat) (ss : List ((List UInt8 × List UInt8))) (W : World) : Prop where
  box : ∃ v, W.heap[Bs]? = some (.cells #[v] 86 (0, 0)) ∧ W.ownsRow w0.heap.size 89 2 v ss.length (ss.flatMap celP)
  L : W.heap[l]? = some (.loop (recP fn sv Bs D .ready none))
  K : W.heap[D]? = some (.deferred (some []))
  below : Below w0.heap.size w0 W
theorem abidesP (w0 : World) (fn : FuncId) (sv : Value) (Bs l D B : Nat) (hB : w0.heap.size ≤ B) : AbidesFrom B (AtP w0 fn sv Bs l D) := fun s W W' row h hg hrow => by
  have hrow' : ∀ r, row = some r → ∃ o : Obj, W.heap[r]? = some o ∧ o.isWalk = true := fun r e => (hrow r e).2
  obtain ⟨v, hv, hr⟩ := h.box
  exact ⟨⟨v, (grownBy_keeps hg hrow' hv rfl).trans hv, ownsRow_abides_a hr hg hrow'⟩, (grownBy_keeps hg hrow' h.L rfl).trans h.L, (grownBy_keeps hg hrow' h.K rfl).trans h.K,
    h.below.grown hg h.below.size (fun k e => Nat.le_trans hB (hrow k e).1)⟩
theorem cells_newP (w : World) (x : (List UInt8 × List UInt8)) : ∀ j u, (celP x)[j]? = some u → (w.alloc (.cells ⟨celP x⟩ 89)).cell? ((⟨w.heap.size, 0, none⟩ : Addr).add j) = some u := fun j u hj => by
  rw [add_mk, Nat.zero_add, cell_of (World.alloc_heap_new w _)]; exact hj
set_option maxHeartbeats 2000000 in
theorem yieldP (F : Fence) (m : Nat) (w0 : World) (fn : FuncId) (hfn : F.fn fn) (sv : Value) (Bs l D : Nat) (hBl : Bs ≠ l) (hDl : D ≠ l) (_hDB : D ≠ Bs) (h0B : w0.heap.size ≤ Bs) (h0l : w0.heap.size ≤ l)
    (N : Nat) (hN : N ≤ maxLen) (hNb : N * 32 ≤ 140737488355328) (ss : List ((List UInt8 × List UInt8))) (x : (List UInt8 × List UInt8)) (W : World) (h : AtP w0 fn sv Bs l D ss W) (hlen : ss.length < N) :
    YieldAt F m Tryz.prog l #[encP x] W fun e W' => e = .returned (.bool true) ∧ AtP w0 fn sv Bs l D (ss ++ [x]) W' ∧ KeepsWalks W W' := by
  obtain ⟨i0, hi, hz0, hz1, hz2⟩ := info_parts (P := Tryz.prog) (e := 89) (z := .agg #[.string ⟨#[]⟩, .string ⟨#[]⟩]) (size := 2) (bytes := 32) (by kernel_rfl)
  obtain ⟨v, hv, hrow⟩ := h.box
  refine ⟨fn, #[.slice none 0 0, sv, .pointer (some ⟨Bs, 0, none⟩), undef, .slice none 0 0, undef, sv, encP x, undef, undef, undef, undef, undef], asgP, bodP, by simpa [recP] using run_yield (P := Tryz.prog) (args := #[encP x]) h.L rfl, roundIn_of_wpIn hfn ?_⟩
  -- what the assignment lays
  unfold asgP
  simp only [rfCode, Tryz.f138, encP]
  gi_wp2_with (rw [Oper.semAt_eq _ _ _ (fun c h => by cases h)]; go_simp; try go_bits)
  obtain ⟨Wa, hWa⟩ : ∃ Wa, Wa = W.alloc (.cells #[Value.string ⟨x.1.toArray⟩, Value.string ⟨x.2.toArray⟩] 89) := ⟨_, rfl⟩
  have hga : W.grownBy Wa none := by rw [hWa]; exact World.grownBy_alloc _ _ _
  have hka : KeepsWalks W Wa := KeepsWalks.of_grownBy hga (fun j o e => by cases e)
  have olda : ∀ k, k < W.heap.size → Wa.heap[k]? = W.heap[k]? := fun k hk => hga.block k hk (by simp)
  have hva : Wa.heap[Bs]? = some (.cells #[v] 86 (0, 0)) := (olda _ (Array.getElem?_eq_some_iff.1 hv).1).trans hv
  have hKa : Wa.heap[D]? = some (.deferred (some [])) := (olda _ (Array.getElem?_eq_some_iff.1 h.K).1).trans h.K
  have hLa : Wa.heap[l]? = some (.loop (recP fn sv Bs D .ready none)) := (olda _ (Array.getElem?_eq_some_iff.1 h.L).1).trans h.L
  have hrowa : Wa.ownsRow w0.heap.size 89 2 v ss.length (ss.flatMap celP) := hrow.kept hga (by cases hvo : v.ownBlock with | none => exact .inl rfl | some j => exact .inr (by simp))
  have hba : Below w0.heap.size w0 Wa := h.below.grown hga h.below.size (fun k e => by cases e)
  have hl : l < Wa.heap.size := (Array.getElem?_eq_some_iff.1 hLa).1
  have hbr := run_beginRound (P := Tryz.prog) hLa rfl
  obtain ⟨W2, hW2⟩ : ∃ W2, Wa.putObj l (.loop { recP fn sv Bs D .ready none with state := .busy }) = W2 := ⟨_, rfl⟩
  rw [hW2] at hbr
  have hg2 : Wa.grownBy W2 (some l) := by rw [← hW2]; exact grownBy_putObj_a _ _ _
  have hk2 : KeepsWalks W W2 := hka.trans (by rw [← hW2]; exact KeepsWalks.putObj _ hLa rfl)
  have hv2 : W2.heap[Bs]? = some (.cells #[v] 86 (0, 0)) := by rw [← hW2]; exact (World.putObj_heap_other hBl).trans hva
  have hK2 : W2.heap[D]? = some (.deferred (some [])) := by rw [← hW2]; exact (World.putObj_heap_other hDl).trans hKa
  have hL2 : W2.heap[l]? = some (.loop { recP fn sv Bs D .ready none with state := .busy }) := by rw [← hW2]; exact World.putObj_heap_same hl
  have hrow2 : W2.ownsRow w0.heap.size 89 2 v ss.length (ss.flatMap celP) := hrowa.kept hg2 (ownsRow_ne_a hrowa hLa (fun cur e => by cases e))
  have hb2 : Below w0.heap.size w0 W2 := hba.grown hg2 hba.size (fun k e => by cases e; exact h0l)
  have hbx : W2.heap[W.heap.size]? = some (.cells #[Value.string ⟨x.1.toArray⟩, Value.string ⟨x.2.toArray⟩] 89 (0, 0)) := by
    have hne : W.heap.size ≠ l := by have := (Array.getElem?_eq_some_iff.1 h.L).1; omega
    rw [← hW2, World.putObj_heap_other hne, hWa]; exact World.alloc_heap_new W _
  have hbx0 : W2.cell? ⟨W.heap.size, 0, none⟩ = some (.string ⟨x.1.toArray⟩) := by simp [World.cell?, hbx]
  have hbx1 : W2.cell? ⟨W.heap.size, 1, none⟩ = some (.string ⟨x.2.toArray⟩) := by simp [World.cell?, hbx]
  clear hW2
  obtain ⟨hc2, hf2⟩ := cell_of_box_a hv2
  have hBlt : Bs < W2.heap.size := (Array.getElem?_eq_some_iff.1 hv2).1
  have hl2 : l < W2.heap.size := (Array.getElem?_eq_some_iff.1 hL2).1
  have hDlt : D < W2.heap.size := (Array.getElem?_eq_some_iff.1 hK2).1
  have ne_of : ∀ {j : Nat} {o : Obj}, W2.heap[j]? = some o → (∀ cur, o ≠ .cells cur 89 (0, 0)) → some j ≠ v.ownBlock := fun hj hno => by
    rcases ownsRow_ne_a hrow2 hj hno with e | e
    · rw [e]; simp
    · exact fun e' => e e'.symm
  rw [← hWa]
  refine ⟨W2, hbr, ?_⟩
  unfold bodP
  simp only [rfCode, Tryz.f138]
  gi_wp2_with (first
    | (gi_at_builtin; refine wpListIn_append_own _ rfl _ _ 86 rfl w0.heap.size 89 i0 (.agg #[.string ⟨#[]⟩, .string ⟨#[]⟩]) 2 32 Tryz.underlying86 hi hz0 hz1 hz2 rfl (by decide) _ _ _ rfl (hrow2.alloc _) ⟨W2.heap.size, 0, none⟩ 1 1 (celP x) rfl rfl (cells_newP _ _) (by intro u hu; simp [celP] at hu; rcases hu with rfl | rfl <;> rfl) (by omega) (by omega) (by have := hb2.size; simp; omega) ?_; intro v' w3 hown' hg3 _
       have hv3 : w3.heap[Bs]? = some (.cells #[v] 86 (0, 0)) := (hg3.block Bs (by simp; omega) (ne_of hv2 (fun cur e => by cases e))).trans ((Below.heap_alloc _ _ Bs hBlt).trans hv2)
       obtain ⟨hc3, hf3⟩ := cell_of_box_a hv3
       obtain ⟨g', cap', cur', rfl, hbase', hgb', hr1, hr2, hr3, hr4⟩ : ∃ g' cap' cur', v' = .slice (some ⟨g', 0, none⟩) (ss.length + 1) cap' ∧ w0.heap.size ≤ g' ∧ w3.heap[g']? = some (.cells cur' 89 (0, 0)) ∧ ss.length + 1 ≤ cap' ∧ cap' ≤ maxLen ∧ cur'.size = cap' * 2 ∧ cur'.toList.take ((ss.length + 1) * 2) = ss.flatMap celP ++ celP x := by
         rcases hown'.2 with ⟨_, h0⟩ | h'
         · exact absurd h0 (by omega)
         · exact h'
       go_frame)
    | (rw [Oper.semAt_eq _ _ _ (fun c h => by cases h)]; go_simp; try go_bits))
  have hg3' : (W2.alloc (.cells ⟨celP x⟩ 89)).grownBy w3 v.ownBlock := hg3
  have hL3 : w3.heap[l]? = some (.loop { recP fn sv Bs D .ready none with state := .busy }) := (hg3'.block l (by simp; omega) (ne_of hL2 (fun cur e => by cases e))).trans ((Below.heap_alloc _ _ l hl2).trans hL2)
  have hK3 : w3.heap[D]? = some (.deferred (some [])) := (hg3'.block D (by simp; omega) (ne_of hK2 (fun cur e => by cases e))).trans ((Below.heap_alloc _ _ D hDlt).trans hK2)
  obtain ⟨w4, hw4⟩ : ∃ w4, w3.setCell ⟨Bs, 0, none⟩ (.slice (some ⟨g', 0, none⟩) (ss.length + 1) cap') = w4 := ⟨_, rfl⟩
  rw [hw4]
  have hg4 : w3.grownBy w4 (some Bs) := by rw [← hw4]; exact grownBy_setCell0_a _ _ _
  have hv4 : w4.heap[Bs]? = some (.cells #[.slice (some ⟨g', 0, none⟩) (ss.length + 1) cap'] 86 (0, 0)) := by rw [← hw4]; exact heap_setCell_box_a _ hv3
  have hL4 : w4.heap[l]? = some (.loop { recP fn sv Bs D .ready none with state := .busy }) := (hg4.block l (Array.getElem?_eq_some_iff.1 hL3).1 (fun e => hBl (by cases e; rfl))).trans hL3
  have hK4 : w4.heap[D]? = some (.deferred (some [])) := (hg4.block D (Array.getElem?_eq_some_iff.1 hK3).1 (fun e => _hDB (by cases e; rfl))).trans hK3
  have hrow4 := hown'.kept hg4 (ownsRow_ne_a hown' hv3 (fun cur e => by cases e))
  have hb3 : Below w0.heap.size w0 w3 := (hb2.alloc hb2.size _).grown hg3' (by have := hb2.size; simp; omega) (fun k e => (hrow2.lt k e).1)
  have hb4 : Below w0.heap.size w0 w4 := hb3.grown hg4 hb3.size (fun k e => by cases e; exact h0B)
  have hk4 : KeepsWalks W w4 := ((hk2.trans (KeepsWalks.alloc _ _)).trans (KeepsWalks.of_grownBy hg3' (ownsRow_not_walk_a (hrow2.alloc _)))).trans (by rw [← hw4]; exact KeepsWalks.setCell _ _ _)
  clear hw4
  refine ⟨_, _, run_endRound none hL4, rfl, ⟨⟨_, (World.putObj_heap_other hBl).trans hv4, ?_⟩, World.putObj_heap_same (Array.getElem?_eq_some_iff.1 hL4).1, (World.putObj_heap_other hDl).trans hK4, hb4.grown (grownBy_putObj_a _ _ _) hb4.size (fun k e => by cases e; exact h0l)⟩, hk4.trans (KeepsWalks.putObj _ hL4 rfl)⟩
  have := hrow4.kept (grownBy_putObj_a w4 l (.loop { { recP fn sv Bs D .ready none with state := .busy } with state := if (none : Option Code).isNone then .ready else .done, pending := none })) (ownsRow_ne_a hrow4 hL4 (fun cur e => by cases e))
  simpa using this
set_option maxHeartbeats 2000000 in
theorem appendSeqP_in (F : Fence) (n : Nat) (hf : F.fn 138) (hro : F.round = none) (hn : 2 ≤ n) (g : Nat) (lb : Array Value) (hFg : F.fn g) (eg : ∀ args w, (callFunc g args).run Tryz.prog w = .ok (.enter g args) w)
    (S : List ((List UInt8 × List UInt8)) → Prop) (N : Nat) (hN : N ≤ maxLen) (hNb : N * 32 ≤ 140737488355328) (w : World) (hseq : SeqGives F (n - 1) Tryz.prog g lb encP S N w) :
    CallsIn F n Tryz.prog 138 #[.slice none 0 0, .func (.func g) #[] lb] w fun e w' => ∃ (v : Value) (ss : List ((List UInt8 × List UInt8))), e = .returned v ∧ S ss ∧ w'.ownsRow w.heap.size 89 2 v ss.length (ss.flatMap celP) ∧ Below w.heap.size w w' := by
  have h1 : 1 ≤ n := by omega
  refine callsIn_of_wp_marks Tryz.func138 rfl hf ?_ hro
  simp only [Tryz.ntmps138, List.size_toArray, List.length_cons, List.length_nil, Nat.reduceAdd, Nat.reduceSub, Array.replicate_succ, Array.replicate_zero, List.push_toArray, List.append_toArray, List.nil_append, List.cons_append]
  gi_wp2
  refine wpIn_rangeFunc ?_
  intro fn hfn
  rw [hro]
  obtain ⟨W0, hW0⟩ : ∃ W0, w.alloc (.cells #[.slice none 0 0] 86) = W0 := ⟨_, rfl⟩
  have hs0 : W0.heap.size = w.heap.size + 1 := by rw [← hW0]; simp
  have hv0 : W0.heap[w.heap.size]? = some (.cells #[.slice none 0 0] 86 (0, 0)) := by rw [← hW0]; exact World.alloc_heap_new w _
  have hb0 : Below w.heap.size w W0 := by rw [← hW0]; exact (Below.refl _ w).alloc (Nat.le_refl _) _
  rw [hW0]
  obtain ⟨W1, hW1⟩ : ∃ W1, (W0.alloc (.deferred (some []))).alloc (.loop (recP fn (.func (.func g) #[] lb) w.heap.size W0.heap.size .ready none)) = W1 := ⟨_, rfl⟩
  have hold : ∀ k, k < W0.heap.size → W1.heap[k]? = W0.heap[k]? := fun k hk => by
    rw [← hW1]; exact (Below.heap_alloc _ _ k (by simp; omega)).trans (Below.heap_alloc _ _ k hk)
  have hb1 : Below w.heap.size w W1 := by rw [← hW1]; exact (hb0.alloc hb0.size _).alloc (by have := hb0.size; simp; omega) _
  have hs1 : W1.heap.size = W0.heap.size + 2 := by rw [← hW1]; simp
  have hM : AtP w fn (.func (.func g) #[] lb) w.heap.size (W0.heap.size + 1) W0.heap.size [] W1 :=
    ⟨⟨_, (hold w.heap.size (by omega)).trans hv0, ⟨rfl, .inl ⟨rfl, rfl⟩⟩⟩,
     by rw [← hW1]; have := World.alloc_heap_new (W0.alloc (.deferred (some []))) (.loop (recP fn (.func (.func g) #[] lb) w.heap.size W0.heap.size .ready none)); rwa [World.size_alloc] at this,
     by rw [← hW1]; exact (Below.heap_alloc _ _ _ (by simp)).trans (World.alloc_heap_new W0 _), hb1⟩
  refine ⟨W0.heap.size + 1, [{ target := .collected W0.heap.size, args := #[] }], W1, { target := .fn (.func g) lb, args := #[.func (.yield (W0.heap.size + 1)) #[] #[]] }, W1, g,
    #[.func (.yield (W0.heap.size + 1)) #[] #[]] ++ lb, W1, ?_, ?_, ?_, ?_, fun _ => h1, ?_⟩
  · rw [← hW1]; exact run_enterLoop_outer _ _ _ _ _
  · simp [resolve, go_sem]
  · intro f' hf'; simp [Target.leads] at hf'; subst hf'; exact hFg
  · simp [invoke, go_sem, eg]
  · refine (hseq (W0.heap.size + 1) (AtP w fn (.func (.func g) #[] lb) w.heap.size (W0.heap.size + 1) W0.heap.size) W1 hb1 (abidesP _ _ _ _ _ _ _ hb1.size)
      (fun pre x W hJ hl => yieldP F (n - 1 - 1) w fn hfn _ w.heap.size (W0.heap.size + 1) W0.heap.size (by omega) (by omega) (by omega) (Nat.le_refl _) (by omega) N hN hNb pre x W hJ hl) hM).mono ?_
    rintro e W2 ⟨⟨v0, rfl⟩, ss, hS, h2⟩
    obtain ⟨v, hv, hrow⟩ := h2.box
    have hend := run_endLoop (P := Tryz.prog) h2.L (by simp [recP])
    obtain ⟨W3, hW3⟩ : ∃ W3, W2.putObj (W0.heap.size + 1) (.loop { recP fn (.func (.func g) #[] lb) w.heap.size W0.heap.size .ready none with state := .exhausted }) = W3 := ⟨_, rfl⟩
    rw [hW3] at hend
    have hg3 : W2.grownBy W3 (some (W0.heap.size + 1)) := by rw [← hW3]; exact grownBy_putObj_a _ _ _
    have hv3 : W3.heap[w.heap.size]? = some (.cells #[v] 86 (0, 0)) := by rw [← hW3]; exact (World.putObj_heap_other (by omega)).trans hv
    have hK3 : W3.heap[W0.heap.size]? = some (.deferred (some [])) := by rw [← hW3]; exact (World.putObj_heap_other (by omega)).trans h2.K
    have hrow3 := hrow.kept hg3 (ownsRow_ne_a hrow h2.L (fun cur e => by cases e))
    have hb3 : Below w.heap.size w W3 := h2.below.grown hg3 h2.below.size (fun k e => by cases e; omega)
    obtain ⟨hc3, hf3⟩ := cell_of_box_a hv3
    clear hW3
    refine ⟨none, W3, hend, ?_⟩
    gi_wp2
    rw [← hs0]
    refine ⟨by simp, .inl ⟨_, _, rfl, run_takeDeferred hK3, ?_⟩⟩
    exact ⟨_, results_tmp rfl _ _ _, v, ss, rfl, hS, hrow3.kept (grownBy_putObj_a _ _ _) (ownsRow_ne_a hrow3 hK3 (fun cur e => by cases e)), hb3.grown (grownBy_putObj_a _ _ _) hb3.size (fun k e => by cases e; omega)⟩

/-! ### S -/
def encS (x : List UInt8) : Value := .string ⟨x.toArray⟩
def celS (x : List UInt8) : List Value := [.string ⟨x.toArray⟩]
noncomputable def asgS : Code := (rfCode Tryz.f108).1
noncomputable def bodS : Code := (rfCode Tryz.f108).2
section
variable {ν : Type} {vv : ν → Value}
set_option maxHeartbeats 1000000 in
theorem keysS_in (F : Fence) (n : Nat) (hf : F.fn 75) (hro : F.round = none) (hn : 1 ≤ n) (l Bm b : Nat) (m : List (List UInt8 × ν)) (J : List (List UInt8) → World → Prop)
    (hY : ∀ pre x W, J pre W → pre.length < m.length → YieldAt F (n - 1) Tryz.prog l #[encS x] W fun e W' => e = .returned (.bool true) ∧ J (pre ++ [x]) W' ∧ KeepsWalks W W')
    (W : World) (hJ : AbidesFrom W.heap.size J) (hm : W.cell? ⟨Bm, 0, none⟩ = some (.map (some b))) (hown : MapW W b encS vv m) (h0 : J [] W) :
    CallsIn F n Tryz.prog 75 #[.func (.yield l) #[] #[], .pointer (some ⟨Bm, 0, none⟩)] W fun e W' => (∃ v, e = .returned v) ∧ ∃ ss : List (List UInt8), ss.Perm (m.map (·.1)) ∧ J ss W' := by
  refine callsIn_of_wp Tryz.func75 rfl hf ?_ hro
  simp only [Tryz.ntmps75, List.size_toArray, List.length_cons, List.length_nil, Nat.reduceAdd, Nat.reduceSub, Array.replicate_succ, Array.replicate_zero, List.push_toArray, List.append_toArray, List.nil_append, List.cons_append]
  gi_wp2_with (first
    | (gi_at_range; refine wpListIn_range_it _ rfl _ 75 rfl Tryz.underlying75 rfl hown ?_; intro w0 hrg0 hg0 hs0)
    | gi_in)
  go_frame
  gi_loopw [3] (fun _ wr => ∃ (rest : List (List UInt8 × ν)) (ss : List (List UInt8)), IterW wr W.heap.size b encS vv m rest ∧ (ss ++ rest.map (·.1)).Perm (m.map (·.1)) ∧ J ss wr)
    (fun _ wr => wr.rangeLeft b W.heap.size)
  case atStart =>
    exact ⟨_, [], hrg0, by simp, hJ [] W w0 none h0 hg0 (fun r e => by cases e)⟩
  case round =>
    obtain ⟨rest, ss, hrg, hC, hJs⟩ := hrel
    gi_wp2_with (first
      | (gi_at_next; refine wpListIn_next_it _ rfl _ rfl rfl hrg ?_ ?_)
      | gi_in)
    · intro hc0
      gi_wp2
      go_end0
      exact ⟨⟨_, rfl⟩, ss, by subst hc0; simpa using hC, hJs⟩
    · intro r1 kh v r2 w2 hrest hrg2 hg2 hs2 hen
      have hlen : ss.length < m.length := by have := hC.length_eq; rw [hrest] at this; simp at this; omega
      have hJ2 : J ss w2 := hJ ss wr w2 (some W.heap.size) hJs hg2 (fun r e => by cases e; exact ⟨Nat.le_refl _, hrg.walk⟩)
      have hrg2a := hrg2
      obtain ⟨fn, tmps, assign, body, hy, hR⟩ := hY ss kh _ hJ2 hlen
      simp only [encS] at hen hy ⊢
      clear hs2
      gi_wp2
      refine hR.mono ?_
      rintro e W3 ⟨rfl, hJ3, hk3⟩
      gi_wp2
      have hrg3 := hrg2a.of_walks hk3
      go_roundw
      case rel => exact ⟨_, ss ++ [kh], hrg3, by
        rw [hrest] at hC
        refine List.Perm.trans ?_ hC
        simp only [List.map_append, List.map_cons, List.append_assoc]
        refine List.Perm.append_left ss ?_
        simp only [List.singleton_append]
        exact List.perm_middle.symm, hJ3⟩
      case measure => rw [hrg3.left, hrg.left, hrest]; simp
theorem givesS (F : Fence) (n : Nat) (hf : F.fn 75) (hro : F.round = none) (hn : 1 ≤ n) (Bm b : Nat) (m : List (List UInt8 × ν)) (w : World) (hBm : Bm < w.heap.size)
    (hm : w.cell? ⟨Bm, 0, none⟩ = some (.map (some b))) (hown : MapW w b encS vv m) : SeqGives F n Tryz.prog 75 #[.pointer (some ⟨Bm, 0, none⟩)] encS (fun ss => ss.Perm (m.map (·.1))) m.length w := fun l J W hW hJ hY h0 =>
  keysS_in F n hf hro hn l Bm b m J hY W hJ ((hW.cell (p := ⟨Bm, 0, none⟩) hBm).trans hm) (hown.later hW) h0
end
noncomputable def recS (fn : FuncId) (sv : Value) (Bs D : Nat) (st : LoopState) (pend : Option Code) : Loop :=
  { state := st, pending := pend, fn, tmps := #[.slice none 0 0, sv, .pointer (some ⟨Bs, 0, none⟩), undef, .slice none 0 0, undef, sv, undef, undef, undef, undef, undef, undef], params := #[7], assign := asgS, body := bodS, defers := D }
structure AtS (w0 : World) (fn : FuncId) (sv : Value) (Bs l D : Nat) (ss : List (List UInt8)) (W : World) : Prop where
  box : ∃ v, W.heap[Bs]? = some (.cells #[v] 80 (0, 0)) ∧ W.ownsRow w0.heap.size 9 1 v ss.length (ss.flatMap celS)
  L : W.heap[l]? = some (.loop (recS fn sv Bs D .ready none))
  K : W.heap[D]? = some (.deferred (some []))
  below : Below w0.heap.size w0 W
theorem abidesS (w0 : World) (fn : FuncId) (sv : Value) (Bs l D B : Nat) (hB : w0.heap.size ≤ B) : AbidesFrom B (AtS w0 fn sv Bs l D) := fun s W W' row h hg hrow => by
  have hrow' : ∀ r, row = some r → ∃ o : Obj, W.heap[r]? = some o ∧ o.isWalk = true := fun r e => (hrow r e).2
  obtain ⟨v, hv, hr⟩ := h.box
  exact ⟨⟨v, (grownBy_keeps hg hrow' hv rfl).trans hv, ownsRow_abides_a hr hg hrow'⟩, (grownBy_keeps hg hrow' h.L rfl).trans h.L, (grownBy_keeps hg hrow' h.K rfl).trans h.K,
    h.below.grown hg h.below.size (fun k e => Nat.le_trans hB (hrow k e).1)⟩
theorem cells_newS (w : World) (x : List UInt8) : ∀ j u, (celS x)[j]? = some u → (w.alloc (.cells ⟨celS x⟩ 9)).cell? ((⟨w.heap.size, 0, none⟩ : Addr).add j) = some u := fun j u hj => by
  rw [add_mk, Nat.zero_add, cell_of (World.alloc_heap_new w _)]; exact hj
set_option maxHeartbeats 2000000 in
theorem yieldS (F : Fence) (m : Nat) (w0 : World) (fn : FuncId) (hfn : F.fn fn) (sv : Value) (Bs l D : Nat) (hBl : Bs ≠ l) (hDl : D ≠ l) (_hDB : D ≠ Bs) (h0B : w0.heap.size ≤ Bs) (h0l : w0.heap.size ≤ l)
    (N : Nat) (hN : N ≤ maxLen) (hNb : N * 16 ≤ 140737488355328) (ss : List (List UInt8)) (x : List UInt8) (W : World) (h : AtS w0 fn sv Bs l D ss W) (hlen : ss.length < N) :
    YieldAt F m Tryz.prog l #[encS x] W fun e W' => e = .returned (.bool true) ∧ AtS w0 fn sv Bs l D (ss ++ [x]) W' ∧ KeepsWalks W W' := by
  obtain ⟨i0, hi, hz0, hz1, hz2⟩ := info_parts (P := Tryz.prog) (e := 9) (z := .string ⟨#[]⟩) (size := 1) (bytes := 16) (by kernel_rfl)
  obtain ⟨v, hv, hrow⟩ := h.box
  refine ⟨fn, #[.slice none 0 0, sv, .pointer (some ⟨Bs, 0, none⟩), undef, .slice none 0 0, undef, sv, encS x, undef, undef, undef, undef, undef], asgS, bodS, by simpa [recS] using run_yield (P := Tryz.prog) (args := #[encS x]) h.L rfl, roundIn_of_wpIn hfn ?_⟩
  -- what the assignment lays
  unfold asgS
  simp only [rfCode, Tryz.f108, encS]
  gi_wp2_with (rw [Oper.semAt_eq _ _ _ (fun c h => by cases h)]; go_simp; try go_bits)
  obtain ⟨Wa, hWa⟩ : ∃ Wa, Wa = W := ⟨_, rfl⟩
  have hga : W.grownBy Wa none := by rw [hWa]; exact ⟨rfl, rfl, rfl, Nat.le_refl _, fun _ _ _ => rfl⟩
  have hka : KeepsWalks W Wa := KeepsWalks.of_grownBy hga (fun j o e => by cases e)
  have olda : ∀ k, k < W.heap.size → Wa.heap[k]? = W.heap[k]? := fun k hk => hga.block k hk (by simp)
  have hva : Wa.heap[Bs]? = some (.cells #[v] 80 (0, 0)) := (olda _ (Array.getElem?_eq_some_iff.1 hv).1).trans hv
  have hKa : Wa.heap[D]? = some (.deferred (some [])) := (olda _ (Array.getElem?_eq_some_iff.1 h.K).1).trans h.K
  have hLa : Wa.heap[l]? = some (.loop (recS fn sv Bs D .ready none)) := (olda _ (Array.getElem?_eq_some_iff.1 h.L).1).trans h.L
  have hrowa : Wa.ownsRow w0.heap.size 9 1 v ss.length (ss.flatMap celS) := hrow.kept hga (by cases hvo : v.ownBlock with | none => exact .inl rfl | some j => exact .inr (by simp))
  have hba : Below w0.heap.size w0 Wa := h.below.grown hga h.below.size (fun k e => by cases e)
  have hl : l < Wa.heap.size := (Array.getElem?_eq_some_iff.1 hLa).1
  have hbr := run_beginRound (P := Tryz.prog) hLa rfl
  obtain ⟨W2, hW2⟩ : ∃ W2, Wa.putObj l (.loop { recS fn sv Bs D .ready none with state := .busy }) = W2 := ⟨_, rfl⟩
  rw [hW2] at hbr
  have hg2 : Wa.grownBy W2 (some l) := by rw [← hW2]; exact grownBy_putObj_a _ _ _
  have hk2 : KeepsWalks W W2 := hka.trans (by rw [← hW2]; exact KeepsWalks.putObj _ hLa rfl)
  have hv2 : W2.heap[Bs]? = some (.cells #[v] 80 (0, 0)) := by rw [← hW2]; exact (World.putObj_heap_other hBl).trans hva
  have hK2 : W2.heap[D]? = some (.deferred (some [])) := by rw [← hW2]; exact (World.putObj_heap_other hDl).trans hKa
  have hL2 : W2.heap[l]? = some (.loop { recS fn sv Bs D .ready none with state := .busy }) := by rw [← hW2]; exact World.putObj_heap_same hl
  have hrow2 : W2.ownsRow w0.heap.size 9 1 v ss.length (ss.flatMap celS) := hrowa.kept hg2 (ownsRow_ne_a hrowa hLa (fun cur e => by cases e))
  have hb2 : Below w0.heap.size w0 W2 := hba.grown hg2 hba.size (fun k e => by cases e; exact h0l)
  clear hW2
  obtain ⟨hc2, hf2⟩ := cell_of_box_a hv2
  have hBlt : Bs < W2.heap.size := (Array.getElem?_eq_some_iff.1 hv2).1
  have hl2 : l < W2.heap.size := (Array.getElem?_eq_some_iff.1 hL2).1
  have hDlt : D < W2.heap.size := (Array.getElem?_eq_some_iff.1 hK2).1
  have ne_of : ∀ {j : Nat} {o : Obj}, W2.heap[j]? = some o → (∀ cur, o ≠ .cells cur 9 (0, 0)) → some j ≠ v.ownBlock := fun hj hno => by
    rcases ownsRow_ne_a hrow2 hj hno with e | e
    · rw [e]; simp
    · exact fun e' => e e'.symm
  rw [hWa] at hbr
  refine ⟨W2, hbr, ?_⟩
  unfold bodS
  simp only [rfCode, Tryz.f108]
  gi_wp2_with (first
    | (gi_at_builtin; refine wpListIn_append_own _ rfl _ _ 80 rfl w0.heap.size 9 i0 (.string ⟨#[]⟩) 1 16 Tryz.underlying80 hi hz0 hz1 hz2 rfl (by decide) _ _ _ rfl (hrow2.alloc _) ⟨W2.heap.size, 0, none⟩ 1 1 (celS x) rfl rfl (cells_newS _ _) (by intro u hu; simp [celS] at hu; rcases hu with rfl <;> rfl) (by omega) (by omega) (by have := hb2.size; simp; omega) ?_; intro v' w3 hown' hg3 _
       have hv3 : w3.heap[Bs]? = some (.cells #[v] 80 (0, 0)) := (hg3.block Bs (by simp; omega) (ne_of hv2 (fun cur e => by cases e))).trans ((Below.heap_alloc _ _ Bs hBlt).trans hv2)
       obtain ⟨hc3, hf3⟩ := cell_of_box_a hv3
       obtain ⟨g', cap', cur', rfl, hbase', hgb', hr1, hr2, hr3, hr4⟩ : ∃ g' cap' cur', v' = .slice (some ⟨g', 0, none⟩) (ss.length + 1) cap' ∧ w0.heap.size ≤ g' ∧ w3.heap[g']? = some (.cells cur' 9 (0, 0)) ∧ ss.length + 1 ≤ cap' ∧ cap' ≤ maxLen ∧ cur'.size = cap' * 1 ∧ cur'.toList.take ((ss.length + 1) * 1) = ss.flatMap celS ++ celS x := by
         rcases hown'.2 with ⟨_, h0⟩ | h'
         · exact absurd h0 (by omega)
         · exact h'
       go_frame)
    | (rw [Oper.semAt_eq _ _ _ (fun c h => by cases h)]; go_simp; try go_bits))
  have hg3' : (W2.alloc (.cells ⟨celS x⟩ 9)).grownBy w3 v.ownBlock := hg3
  have hL3 : w3.heap[l]? = some (.loop { recS fn sv Bs D .ready none with state := .busy }) := (hg3'.block l (by simp; omega) (ne_of hL2 (fun cur e => by cases e))).trans ((Below.heap_alloc _ _ l hl2).trans hL2)
  have hK3 : w3.heap[D]? = some (.deferred (some [])) := (hg3'.block D (by simp; omega) (ne_of hK2 (fun cur e => by cases e))).trans ((Below.heap_alloc _ _ D hDlt).trans hK2)
  obtain ⟨w4, hw4⟩ : ∃ w4, w3.setCell ⟨Bs, 0, none⟩ (.slice (some ⟨g', 0, none⟩) (ss.length + 1) cap') = w4 := ⟨_, rfl⟩
  rw [hw4]
  have hg4 : w3.grownBy w4 (some Bs) := by rw [← hw4]; exact grownBy_setCell0_a _ _ _
  have hv4 : w4.heap[Bs]? = some (.cells #[.slice (some ⟨g', 0, none⟩) (ss.length + 1) cap'] 80 (0, 0)) := by rw [← hw4]; exact heap_setCell_box_a _ hv3
  have hL4 : w4.heap[l]? = some (.loop { recS fn sv Bs D .ready none with state := .busy }) := (hg4.block l (Array.getElem?_eq_some_iff.1 hL3).1 (fun e => hBl (by cases e; rfl))).trans hL3
  have hK4 : w4.heap[D]? = some (.deferred (some [])) := (hg4.block D (Array.getElem?_eq_some_iff.1 hK3).1 (fun e => _hDB (by cases e; rfl))).trans hK3
  have hrow4 := hown'.kept hg4 (ownsRow_ne_a hown' hv3 (fun cur e => by cases e))
  have hb3 : Below w0.heap.size w0 w3 := (hb2.alloc hb2.size _).grown hg3' (by have := hb2.size; simp; omega) (fun k e => (hrow2.lt k e).1)
  have hb4 : Below w0.heap.size w0 w4 := hb3.grown hg4 hb3.size (fun k e => by cases e; exact h0B)
  have hk4 : KeepsWalks W w4 := ((hk2.trans (KeepsWalks.alloc _ _)).trans (KeepsWalks.of_grownBy hg3' (ownsRow_not_walk_a (hrow2.alloc _)))).trans (by rw [← hw4]; exact KeepsWalks.setCell _ _ _)
  clear hw4
  refine ⟨_, _, run_endRound none hL4, rfl, ⟨⟨_, (World.putObj_heap_other hBl).trans hv4, ?_⟩, World.putObj_heap_same (Array.getElem?_eq_some_iff.1 hL4).1, (World.putObj_heap_other hDl).trans hK4, hb4.grown (grownBy_putObj_a _ _ _) hb4.size (fun k e => by cases e; exact h0l)⟩, hk4.trans (KeepsWalks.putObj _ hL4 rfl)⟩
  have := hrow4.kept (grownBy_putObj_a w4 l (.loop { { recS fn sv Bs D .ready none with state := .busy } with state := if (none : Option Code).isNone then .ready else .done, pending := none })) (ownsRow_ne_a hrow4 hL4 (fun cur e => by cases e))
  simpa using this
set_option maxHeartbeats 2000000 in
theorem appendSeqS_in (F : Fence) (n : Nat) (hf : F.fn 108) (hro : F.round = none) (hn : 2 ≤ n) (g : Nat) (lb : Array Value) (hFg : F.fn g) (eg : ∀ args w, (callFunc g args).run Tryz.prog w = .ok (.enter g args) w)
    (S : List (List UInt8) → Prop) (N : Nat) (hN : N ≤ maxLen) (hNb : N * 16 ≤ 140737488355328) (w : World) (hseq : SeqGives F (n - 1) Tryz.prog g lb encS S N w) :
    CallsIn F n Tryz.prog 108 #[.slice none 0 0, .func (.func g) #[] lb] w fun e w' => ∃ (v : Value) (ss : List (List UInt8)), e = .returned v ∧ S ss ∧ w'.ownsRow w.heap.size 9 1 v ss.length (ss.flatMap celS) ∧ Below w.heap.size w w' := by
  have h1 : 1 ≤ n := by omega
  refine callsIn_of_wp_marks Tryz.func108 rfl hf ?_ hro
  simp only [Tryz.ntmps108, List.size_toArray, List.length_cons, List.length_nil, Nat.reduceAdd, Nat.reduceSub, Array.replicate_succ, Array.replicate_zero, List.push_toArray, List.append_toArray, List.nil_append, List.cons_append]
  gi_wp2
  refine wpIn_rangeFunc ?_
  intro fn hfn
  rw [hro]
  obtain ⟨W0, hW0⟩ : ∃ W0, w.alloc (.cells #[.slice none 0 0] 80) = W0 := ⟨_, rfl⟩
  have hs0 : W0.heap.size = w.heap.size + 1 := by rw [← hW0]; simp
  have hv0 : W0.heap[w.heap.size]? = some (.cells #[.slice none 0 0] 80 (0, 0)) := by rw [← hW0]; exact World.alloc_heap_new w _
  have hb0 : Below w.heap.size w W0 := by rw [← hW0]; exact (Below.refl _ w).alloc (Nat.le_refl _) _
  rw [hW0]
  obtain ⟨W1, hW1⟩ : ∃ W1, (W0.alloc (.deferred (some []))).alloc (.loop (recS fn (.func (.func g) #[] lb) w.heap.size W0.heap.size .ready none)) = W1 := ⟨_, rfl⟩
  have hold : ∀ k, k < W0.heap.size → W1.heap[k]? = W0.heap[k]? := fun k hk => by
    rw [← hW1]; exact (Below.heap_alloc _ _ k (by simp; omega)).trans (Below.heap_alloc _ _ k hk)
  have hb1 : Below w.heap.size w W1 := by rw [← hW1]; exact (hb0.alloc hb0.size _).alloc (by have := hb0.size; simp; omega) _
  have hs1 : W1.heap.size = W0.heap.size + 2 := by rw [← hW1]; simp
  have hM : AtS w fn (.func (.func g) #[] lb) w.heap.size (W0.heap.size + 1) W0.heap.size [] W1 :=
    ⟨⟨_, (hold w.heap.size (by omega)).trans hv0, ⟨rfl, .inl ⟨rfl, rfl⟩⟩⟩,
     by rw [← hW1]; have := World.alloc_heap_new (W0.alloc (.deferred (some []))) (.loop (recS fn (.func (.func g) #[] lb) w.heap.size W0.heap.size .ready none)); rwa [World.size_alloc] at this,
     by rw [← hW1]; exact (Below.heap_alloc _ _ _ (by simp)).trans (World.alloc_heap_new W0 _), hb1⟩
  refine ⟨W0.heap.size + 1, [{ target := .collected W0.heap.size, args := #[] }], W1, { target := .fn (.func g) lb, args := #[.func (.yield (W0.heap.size + 1)) #[] #[]] }, W1, g,
    #[.func (.yield (W0.heap.size + 1)) #[] #[]] ++ lb, W1, ?_, ?_, ?_, ?_, fun _ => h1, ?_⟩
  · rw [← hW1]; exact run_enterLoop_outer _ _ _ _ _
  · simp [resolve, go_sem]
  · intro f' hf'; simp [Target.leads] at hf'; subst hf'; exact hFg
  · simp [invoke, go_sem, eg]
  · refine (hseq (W0.heap.size + 1) (AtS w fn (.func (.func g) #[] lb) w.heap.size (W0.heap.size + 1) W0.heap.size) W1 hb1 (abidesS _ _ _ _ _ _ _ hb1.size)
      (fun pre x W hJ hl => yieldS F (n - 1 - 1) w fn hfn _ w.heap.size (W0.heap.size + 1) W0.heap.size (by omega) (by omega) (by omega) (Nat.le_refl _) (by omega) N hN hNb pre x W hJ hl) hM).mono ?_
    rintro e W2 ⟨⟨v0, rfl⟩, ss, hS, h2⟩
    obtain ⟨v, hv, hrow⟩ := h2.box
    have hend := run_endLoop (P := Tryz.prog) h2.L (by simp [recS])
    obtain ⟨W3, hW3⟩ : ∃ W3, W2.putObj (W0.heap.size + 1) (.loop { recS fn (.func (.func g) #[] lb) w.heap.size W0.heap.size .ready none with state := .exhausted }) = W3 := ⟨_, rfl⟩
    rw [hW3] at hend
    have hg3 : W2.grownBy W3 (some (W0.heap.size + 1)) := by rw [← hW3]; exact grownBy_putObj_a _ _ _
    have hv3 : W3.heap[w.heap.size]? = some (.cells #[v] 80 (0, 0)) := by rw [← hW3]; exact (World.putObj_heap_other (by omega)).trans hv
    have hK3 : W3.heap[W0.heap.size]? = some (.deferred (some [])) := by rw [← hW3]; exact (World.putObj_heap_other (by omega)).trans h2.K
    have hrow3 := hrow.kept hg3 (ownsRow_ne_a hrow h2.L (fun cur e => by cases e))
    have hb3 : Below w.heap.size w W3 := h2.below.grown hg3 h2.below.size (fun k e => by cases e; omega)
    obtain ⟨hc3, hf3⟩ := cell_of_box_a hv3
    clear hW3
    refine ⟨none, W3, hend, ?_⟩
    gi_wp2
    rw [← hs0]
    refine ⟨by simp, .inl ⟨_, _, rfl, run_takeDeferred hK3, ?_⟩⟩
    exact ⟨_, results_tmp rfl _ _ _, v, ss, rfl, hS, hrow3.kept (grownBy_putObj_a _ _ _) (ownsRow_ne_a hrow3 hK3 (fun cur e => by cases e)), hb3.grown (grownBy_putObj_a _ _ _) hb3.size (fun k e => by cases e; omega)⟩

/-! ### I -/
def encI (x : Int) : Value := .int .i64 x
def celI (x : Int) : List Value := [.int .i64 x]
noncomputable def asgI : Code := (rfCode Tryz.f120).1
noncomputable def bodI : Code := (rfCode Tryz.f120).2
section
variable {ν : Type} {vv : ν → Value}
set_option maxHeartbeats 1000000 in
theorem keysI_in (F : Fence) (n : Nat) (hf : F.fn 93) (hro : F.round = none) (hn : 1 ≤ n) (l Bm b : Nat) (m : List (Int × ν)) (J : List (Int) → World → Prop)
    (hY : ∀ pre x W, J pre W → pre.length < m.length → YieldAt F (n - 1) Tryz.prog l #[encI x] W fun e W' => e = .returned (.bool true) ∧ J (pre ++ [x]) W' ∧ KeepsWalks W W')
    (W : World) (hJ : AbidesFrom W.heap.size J) (hm : W.cell? ⟨Bm, 0, none⟩ = some (.map (some b))) (hown : MapW W b encI vv m) (h0 : J [] W) :
    CallsIn F n Tryz.prog 93 #[.func (.yield l) #[] #[], .pointer (some ⟨Bm, 0, none⟩)] W fun e W' => (∃ v, e = .returned v) ∧ ∃ ss : List (Int), ss.Perm (m.map (·.1)) ∧ J ss W' := by
  refine callsIn_of_wp Tryz.func93 rfl hf ?_ hro
  simp only [Tryz.ntmps93, List.size_toArray, List.length_cons, List.length_nil, Nat.reduceAdd, Nat.reduceSub, Array.replicate_succ, Array.replicate_zero, List.push_toArray, List.append_toArray, List.nil_append, List.cons_append]
  gi_wp2_with (first
    | (gi_at_range; refine wpListIn_range_it _ rfl _ 77 rfl Tryz.underlying77 rfl hown ?_; intro w0 hrg0 hg0 hs0)
    | gi_in)
  go_frame
  gi_loopw [3] (fun _ wr => ∃ (rest : List (Int × ν)) (ss : List (Int)), IterW wr W.heap.size b encI vv m rest ∧ (ss ++ rest.map (·.1)).Perm (m.map (·.1)) ∧ J ss wr)
    (fun _ wr => wr.rangeLeft b W.heap.size)
  case atStart =>
    exact ⟨_, [], hrg0, by simp, hJ [] W w0 none h0 hg0 (fun r e => by cases e)⟩
  case round =>
    obtain ⟨rest, ss, hrg, hC, hJs⟩ := hrel
    gi_wp2_with (first
      | (gi_at_next; refine wpListIn_next_it _ rfl _ rfl rfl hrg ?_ ?_)
      | gi_in)
    · intro hc0
      gi_wp2
      go_end0
      exact ⟨⟨_, rfl⟩, ss, by subst hc0; simpa using hC, hJs⟩
    · intro r1 kh v r2 w2 hrest hrg2 hg2 hs2 hen
      have hlen : ss.length < m.length := by have := hC.length_eq; rw [hrest] at this; simp at this; omega
      have hJ2 : J ss w2 := hJ ss wr w2 (some W.heap.size) hJs hg2 (fun r e => by cases e; exact ⟨Nat.le_refl _, hrg.walk⟩)
      have hrg2a := hrg2
      obtain ⟨fn, tmps, assign, body, hy, hR⟩ := hY ss kh _ hJ2 hlen
      simp only [encI] at hen hy ⊢
      clear hs2
      gi_wp2
      refine hR.mono ?_
      rintro e W3 ⟨rfl, hJ3, hk3⟩
      gi_wp2
      have hrg3 := hrg2a.of_walks hk3
      go_roundw
      case rel => exact ⟨_, ss ++ [kh], hrg3, by
        rw [hrest] at hC
        refine List.Perm.trans ?_ hC
        simp only [List.map_append, List.map_cons, List.append_assoc]
        refine List.Perm.append_left ss ?_
        simp only [List.singleton_append]
        exact List.perm_middle.symm, hJ3⟩
      case measure => rw [hrg3.left, hrg.left, hrest]; simp
theorem givesI (F : Fence) (n : Nat) (hf : F.fn 93) (hro : F.round = none) (hn : 1 ≤ n) (Bm b : Nat) (m : List (Int × ν)) (w : World) (hBm : Bm < w.heap.size)
    (hm : w.cell? ⟨Bm, 0, none⟩ = some (.map (some b))) (hown : MapW w b encI vv m) : SeqGives F n Tryz.prog 93 #[.pointer (some ⟨Bm, 0, none⟩)] encI (fun ss => ss.Perm (m.map (·.1))) m.length w := fun l J W hW hJ hY h0 =>
  keysI_in F n hf hro hn l Bm b m J hY W hJ ((hW.cell (p := ⟨Bm, 0, none⟩) hBm).trans hm) (hown.later hW) h0
end
noncomputable def recI (fn : FuncId) (sv : Value) (Bs D : Nat) (st : LoopState) (pend : Option Code) : Loop :=
  { state := st, pending := pend, fn, tmps := #[.slice none 0 0, sv, .pointer (some ⟨Bs, 0, none⟩), undef, .slice none 0 0, undef, sv, undef, undef, undef, undef, undef, undef], params := #[7], assign := asgI, body := bodI, defers := D }
structure AtI (w0 : World) (fn : FuncId) (sv : Value) (Bs l D : Nat) (ss : List (Int)) (W : World) : Prop where
  box : ∃ v, W.heap[Bs]? = some (.cells #[v] 97 (0, 0)) ∧ W.ownsRow w0.heap.size 3 1 v ss.length (ss.flatMap celI)
  L : W.heap[l]? = some (.loop (recI fn sv Bs D .ready none))
  K : W.heap[D]? = some (.deferred (some []))
  below : Below w0.heap.size w0 W
theorem abidesI (w0 : World) (fn : FuncId) (sv : Value) (Bs l D B : Nat) (hB : w0.heap.size ≤ B) : AbidesFrom B (AtI w0 fn sv Bs l D) := fun s W W' row h hg hrow => by
  have hrow' : ∀ r, row = some r → ∃ o : Obj, W.heap[r]? = some o ∧ o.isWalk = true := fun r e => (hrow r e).2
  obtain ⟨v, hv, hr⟩ := h.box
  exact ⟨⟨v, (grownBy_keeps hg hrow' hv rfl).trans hv, ownsRow_abides_a hr hg hrow'⟩, (grownBy_keeps hg hrow' h.L rfl).trans h.L, (grownBy_keeps hg hrow' h.K rfl).trans h.K,
    h.below.grown hg h.below.size (fun k e => Nat.le_trans hB (hrow k e).1)⟩
theorem cells_newI (w : World) (x : Int) : ∀ j u, (celI x)[j]? = some u → (w.alloc (.cells ⟨celI x⟩ 3)).cell? ((⟨w.heap.size, 0, none⟩ : Addr).add j) = some u := fun j u hj => by
  rw [add_mk, Nat.zero_add, cell_of (World.alloc_heap_new w _)]; exact hj
set_option maxHeartbeats 2000000 in
theorem yieldI (F : Fence) (m : Nat) (w0 : World) (fn : FuncId) (hfn : F.fn fn) (sv : Value) (Bs l D : Nat) (hBl : Bs ≠ l) (hDl : D ≠ l) (_hDB : D ≠ Bs) (h0B : w0.heap.size ≤ Bs) (h0l : w0.heap.size ≤ l)
    (N : Nat) (hN : N ≤ maxLen) (hNb : N * 8 ≤ 140737488355328) (ss : List (Int)) (x : Int) (W : World) (h : AtI w0 fn sv Bs l D ss W) (hlen : ss.length < N) :
    YieldAt F m Tryz.prog l #[encI x] W fun e W' => e = .returned (.bool true) ∧ AtI w0 fn sv Bs l D (ss ++ [x]) W' ∧ KeepsWalks W W' := by
  obtain ⟨i0, hi, hz0, hz1, hz2⟩ := info_parts (P := Tryz.prog) (e := 3) (z := .int .i64 0) (size := 1) (bytes := 8) (by kernel_rfl)
  obtain ⟨v, hv, hrow⟩ := h.box
  refine ⟨fn, #[.slice none 0 0, sv, .pointer (some ⟨Bs, 0, none⟩), undef, .slice none 0 0, undef, sv, encI x, undef, undef, undef, undef, undef], asgI, bodI, by simpa [recI] using run_yield (P := Tryz.prog) (args := #[encI x]) h.L rfl, roundIn_of_wpIn hfn ?_⟩
  -- what the assignment lays
  unfold asgI
  simp only [rfCode, Tryz.f120, encI]
  gi_wp2_with (rw [Oper.semAt_eq _ _ _ (fun c h => by cases h)]; go_simp; try go_bits)
  obtain ⟨Wa, hWa⟩ : ∃ Wa, Wa = W := ⟨_, rfl⟩
  have hga : W.grownBy Wa none := by rw [hWa]; exact ⟨rfl, rfl, rfl, Nat.le_refl _, fun _ _ _ => rfl⟩
  have hka : KeepsWalks W Wa := KeepsWalks.of_grownBy hga (fun j o e => by cases e)
  have olda : ∀ k, k < W.heap.size → Wa.heap[k]? = W.heap[k]? := fun k hk => hga.block k hk (by simp)
  have hva : Wa.heap[Bs]? = some (.cells #[v] 97 (0, 0)) := (olda _ (Array.getElem?_eq_some_iff.1 hv).1).trans hv
  have hKa : Wa.heap[D]? = some (.deferred (some [])) := (olda _ (Array.getElem?_eq_some_iff.1 h.K).1).trans h.K
  have hLa : Wa.heap[l]? = some (.loop (recI fn sv Bs D .ready none)) := (olda _ (Array.getElem?_eq_some_iff.1 h.L).1).trans h.L
  have hrowa : Wa.ownsRow w0.heap.size 3 1 v ss.length (ss.flatMap celI) := hrow.kept hga (by cases hvo : v.ownBlock with | none => exact .inl rfl | some j => exact .inr (by simp))
  have hba : Below w0.heap.size w0 Wa := h.below.grown hga h.below.size (fun k e => by cases e)
  have hl : l < Wa.heap.size := (Array.getElem?_eq_some_iff.1 hLa).1
  have hbr := run_beginRound (P := Tryz.prog) hLa rfl
  obtain ⟨W2, hW2⟩ : ∃ W2, Wa.putObj l (.loop { recI fn sv Bs D .ready none with state := .busy }) = W2 := ⟨_, rfl⟩
  rw [hW2] at hbr
  have hg2 : Wa.grownBy W2 (some l) := by rw [← hW2]; exact grownBy_putObj_a _ _ _
  have hk2 : KeepsWalks W W2 := hka.trans (by rw [← hW2]; exact KeepsWalks.putObj _ hLa rfl)
  have hv2 : W2.heap[Bs]? = some (.cells #[v] 97 (0, 0)) := by rw [← hW2]; exact (World.putObj_heap_other hBl).trans hva
  have hK2 : W2.heap[D]? = some (.deferred (some [])) := by rw [← hW2]; exact (World.putObj_heap_other hDl).trans hKa
  have hL2 : W2.heap[l]? = some (.loop { recI fn sv Bs D .ready none with state := .busy }) := by rw [← hW2]; exact World.putObj_heap_same hl
  have hrow2 : W2.ownsRow w0.heap.size 3 1 v ss.length (ss.flatMap celI) := hrowa.kept hg2 (ownsRow_ne_a hrowa hLa (fun cur e => by cases e))
  have hb2 : Below w0.heap.size w0 W2 := hba.grown hg2 hba.size (fun k e => by cases e; exact h0l)
  clear hW2
  obtain ⟨hc2, hf2⟩ := cell_of_box_a hv2
  have hBlt : Bs < W2.heap.size := (Array.getElem?_eq_some_iff.1 hv2).1
  have hl2 : l < W2.heap.size := (Array.getElem?_eq_some_iff.1 hL2).1
  have hDlt : D < W2.heap.size := (Array.getElem?_eq_some_iff.1 hK2).1
  have ne_of : ∀ {j : Nat} {o : Obj}, W2.heap[j]? = some o → (∀ cur, o ≠ .cells cur 3 (0, 0)) → some j ≠ v.ownBlock := fun hj hno => by
    rcases ownsRow_ne_a hrow2 hj hno with e | e
    · rw [e]; simp
    · exact fun e' => e e'.symm
  rw [hWa] at hbr
  refine ⟨W2, hbr, ?_⟩
  unfold bodI
  simp only [rfCode, Tryz.f120]
  gi_wp2_with (first
    | (gi_at_builtin; refine wpListIn_append_own _ rfl _ _ 97 rfl w0.heap.size 3 i0 (.int .i64 0) 1 8 Tryz.underlying97 hi hz0 hz1 hz2 rfl (by decide) _ _ _ rfl (hrow2.alloc _) ⟨W2.heap.size, 0, none⟩ 1 1 (celI x) rfl rfl (cells_newI _ _) (by intro u hu; simp [celI] at hu; rcases hu with rfl <;> rfl) (by omega) (by omega) (by have := hb2.size; simp; omega) ?_; intro v' w3 hown' hg3 _
       have hv3 : w3.heap[Bs]? = some (.cells #[v] 97 (0, 0)) := (hg3.block Bs (by simp; omega) (ne_of hv2 (fun cur e => by cases e))).trans ((Below.heap_alloc _ _ Bs hBlt).trans hv2)
       obtain ⟨hc3, hf3⟩ := cell_of_box_a hv3
       obtain ⟨g', cap', cur', rfl, hbase', hgb', hr1, hr2, hr3, hr4⟩ : ∃ g' cap' cur', v' = .slice (some ⟨g', 0, none⟩) (ss.length + 1) cap' ∧ w0.heap.size ≤ g' ∧ w3.heap[g']? = some (.cells cur' 3 (0, 0)) ∧ ss.length + 1 ≤ cap' ∧ cap' ≤ maxLen ∧ cur'.size = cap' * 1 ∧ cur'.toList.take ((ss.length + 1) * 1) = ss.flatMap celI ++ celI x := by
         rcases hown'.2 with ⟨_, h0⟩ | h'
         · exact absurd h0 (by omega)
         · exact h'
       go_frame)
    | (rw [Oper.semAt_eq _ _ _ (fun c h => by cases h)]; go_simp; try go_bits))
  have hg3' : (W2.alloc (.cells ⟨celI x⟩ 3)).grownBy w3 v.ownBlock := hg3
  have hL3 : w3.heap[l]? = some (.loop { recI fn sv Bs D .ready none with state := .busy }) := (hg3'.block l (by simp; omega) (ne_of hL2 (fun cur e => by cases e))).trans ((Below.heap_alloc _ _ l hl2).trans hL2)
  have hK3 : w3.heap[D]? = some (.deferred (some [])) := (hg3'.block D (by simp; omega) (ne_of hK2 (fun cur e => by cases e))).trans ((Below.heap_alloc _ _ D hDlt).trans hK2)
  obtain ⟨w4, hw4⟩ : ∃ w4, w3.setCell ⟨Bs, 0, none⟩ (.slice (some ⟨g', 0, none⟩) (ss.length + 1) cap') = w4 := ⟨_, rfl⟩
  rw [hw4]
  have hg4 : w3.grownBy w4 (some Bs) := by rw [← hw4]; exact grownBy_setCell0_a _ _ _
  have hv4 : w4.heap[Bs]? = some (.cells #[.slice (some ⟨g', 0, none⟩) (ss.length + 1) cap'] 97 (0, 0)) := by rw [← hw4]; exact heap_setCell_box_a _ hv3
  have hL4 : w4.heap[l]? = some (.loop { recI fn sv Bs D .ready none with state := .busy }) := (hg4.block l (Array.getElem?_eq_some_iff.1 hL3).1 (fun e => hBl (by cases e; rfl))).trans hL3
  have hK4 : w4.heap[D]? = some (.deferred (some [])) := (hg4.block D (Array.getElem?_eq_some_iff.1 hK3).1 (fun e => _hDB (by cases e; rfl))).trans hK3
  have hrow4 := hown'.kept hg4 (ownsRow_ne_a hown' hv3 (fun cur e => by cases e))
  have hb3 : Below w0.heap.size w0 w3 := (hb2.alloc hb2.size _).grown hg3' (by have := hb2.size; simp; omega) (fun k e => (hrow2.lt k e).1)
  have hb4 : Below w0.heap.size w0 w4 := hb3.grown hg4 hb3.size (fun k e => by cases e; exact h0B)
  have hk4 : KeepsWalks W w4 := ((hk2.trans (KeepsWalks.alloc _ _)).trans (KeepsWalks.of_grownBy hg3' (ownsRow_not_walk_a (hrow2.alloc _)))).trans (by rw [← hw4]; exact KeepsWalks.setCell _ _ _)
  clear hw4
  refine ⟨_, _, run_endRound none hL4, rfl, ⟨⟨_, (World.putObj_heap_other hBl).trans hv4, ?_⟩, World.putObj_heap_same (Array.getElem?_eq_some_iff.1 hL4).1, (World.putObj_heap_other hDl).trans hK4, hb4.grown (grownBy_putObj_a _ _ _) hb4.size (fun k e => by cases e; exact h0l)⟩, hk4.trans (KeepsWalks.putObj _ hL4 rfl)⟩
  have := hrow4.kept (grownBy_putObj_a w4 l (.loop { { recI fn sv Bs D .ready none with state := .busy } with state := if (none : Option Code).isNone then .ready else .done, pending := none })) (ownsRow_ne_a hrow4 hL4 (fun cur e => by cases e))
  simpa using this
set_option maxHeartbeats 2000000 in
theorem appendSeqI_in (F : Fence) (n : Nat) (hf : F.fn 120) (hro : F.round = none) (hn : 2 ≤ n) (g : Nat) (lb : Array Value) (hFg : F.fn g) (eg : ∀ args w, (callFunc g args).run Tryz.prog w = .ok (.enter g args) w)
    (S : List (Int) → Prop) (N : Nat) (hN : N ≤ maxLen) (hNb : N * 8 ≤ 140737488355328) (w : World) (hseq : SeqGives F (n - 1) Tryz.prog g lb encI S N w) :
    CallsIn F n Tryz.prog 120 #[.slice none 0 0, .func (.func g) #[] lb] w fun e w' => ∃ (v : Value) (ss : List (Int)), e = .returned v ∧ S ss ∧ w'.ownsRow w.heap.size 3 1 v ss.length (ss.flatMap celI) ∧ Below w.heap.size w w' := by
  have h1 : 1 ≤ n := by omega
  refine callsIn_of_wp_marks Tryz.func120 rfl hf ?_ hro
  simp only [Tryz.ntmps120, List.size_toArray, List.length_cons, List.length_nil, Nat.reduceAdd, Nat.reduceSub, Array.replicate_succ, Array.replicate_zero, List.push_toArray, List.append_toArray, List.nil_append, List.cons_append]
  gi_wp2
  refine wpIn_rangeFunc ?_
  intro fn hfn
  rw [hro]
  obtain ⟨W0, hW0⟩ : ∃ W0, w.alloc (.cells #[.slice none 0 0] 97) = W0 := ⟨_, rfl⟩
  have hs0 : W0.heap.size = w.heap.size + 1 := by rw [← hW0]; simp
  have hv0 : W0.heap[w.heap.size]? = some (.cells #[.slice none 0 0] 97 (0, 0)) := by rw [← hW0]; exact World.alloc_heap_new w _
  have hb0 : Below w.heap.size w W0 := by rw [← hW0]; exact (Below.refl _ w).alloc (Nat.le_refl _) _
  rw [hW0]
  obtain ⟨W1, hW1⟩ : ∃ W1, (W0.alloc (.deferred (some []))).alloc (.loop (recI fn (.func (.func g) #[] lb) w.heap.size W0.heap.size .ready none)) = W1 := ⟨_, rfl⟩
  have hold : ∀ k, k < W0.heap.size → W1.heap[k]? = W0.heap[k]? := fun k hk => by
    rw [← hW1]; exact (Below.heap_alloc _ _ k (by simp; omega)).trans (Below.heap_alloc _ _ k hk)
  have hb1 : Below w.heap.size w W1 := by rw [← hW1]; exact (hb0.alloc hb0.size _).alloc (by have := hb0.size; simp; omega) _
  have hs1 : W1.heap.size = W0.heap.size + 2 := by rw [← hW1]; simp
  have hM : AtI w fn (.func (.func g) #[] lb) w.heap.size (W0.heap.size + 1) W0.heap.size [] W1 :=
    ⟨⟨_, (hold w.heap.size (by omega)).trans hv0, ⟨rfl, .inl ⟨rfl, rfl⟩⟩⟩,
     by rw [← hW1]; have := World.alloc_heap_new (W0.alloc (.deferred (some []))) (.loop (recI fn (.func (.func g) #[] lb) w.heap.size W0.heap.size .ready none)); rwa [World.size_alloc] at this,
     by rw [← hW1]; exact (Below.heap_alloc _ _ _ (by simp)).trans (World.alloc_heap_new W0 _), hb1⟩
  refine ⟨W0.heap.size + 1, [{ target := .collected W0.heap.size, args := #[] }], W1, { target := .fn (.func g) lb, args := #[.func (.yield (W0.heap.size + 1)) #[] #[]] }, W1, g,
    #[.func (.yield (W0.heap.size + 1)) #[] #[]] ++ lb, W1, ?_, ?_, ?_, ?_, fun _ => h1, ?_⟩
  · rw [← hW1]; exact run_enterLoop_outer _ _ _ _ _
  · simp [resolve, go_sem]
  · intro f' hf'; simp [Target.leads] at hf'; subst hf'; exact hFg
  · simp [invoke, go_sem, eg]
  · refine (hseq (W0.heap.size + 1) (AtI w fn (.func (.func g) #[] lb) w.heap.size (W0.heap.size + 1) W0.heap.size) W1 hb1 (abidesI _ _ _ _ _ _ _ hb1.size)
      (fun pre x W hJ hl => yieldI F (n - 1 - 1) w fn hfn _ w.heap.size (W0.heap.size + 1) W0.heap.size (by omega) (by omega) (by omega) (Nat.le_refl _) (by omega) N hN hNb pre x W hJ hl) hM).mono ?_
    rintro e W2 ⟨⟨v0, rfl⟩, ss, hS, h2⟩
    obtain ⟨v, hv, hrow⟩ := h2.box
    have hend := run_endLoop (P := Tryz.prog) h2.L (by simp [recI])
    obtain ⟨W3, hW3⟩ : ∃ W3, W2.putObj (W0.heap.size + 1) (.loop { recI fn (.func (.func g) #[] lb) w.heap.size W0.heap.size .ready none with state := .exhausted }) = W3 := ⟨_, rfl⟩
    rw [hW3] at hend
    have hg3 : W2.grownBy W3 (some (W0.heap.size + 1)) := by rw [← hW3]; exact grownBy_putObj_a _ _ _
    have hv3 : W3.heap[w.heap.size]? = some (.cells #[v] 97 (0, 0)) := by rw [← hW3]; exact (World.putObj_heap_other (by omega)).trans hv
    have hK3 : W3.heap[W0.heap.size]? = some (.deferred (some [])) := by rw [← hW3]; exact (World.putObj_heap_other (by omega)).trans h2.K
    have hrow3 := hrow.kept hg3 (ownsRow_ne_a hrow h2.L (fun cur e => by cases e))
    have hb3 : Below w.heap.size w W3 := h2.below.grown hg3 h2.below.size (fun k e => by cases e; omega)
    obtain ⟨hc3, hf3⟩ := cell_of_box_a hv3
    clear hW3
    refine ⟨none, W3, hend, ?_⟩
    gi_wp2
    rw [← hs0]
    refine ⟨by simp, .inl ⟨_, _, rfl, run_takeDeferred hK3, ?_⟩⟩
    exact ⟨_, results_tmp rfl _ _ _, v, ss, rfl, hS, hrow3.kept (grownBy_putObj_a _ _ _) (ownsRow_ne_a hrow3 hK3 (fun cur e => by cases e)), hb3.grown (grownBy_putObj_a _ _ _) hb3.size (fun k e => by cases e; omega)⟩
end Go.Vc

/-
  What the library's sort is in this program: tables of numbers, and that the functions are those.
-/
namespace Go.Proofs
set_option maxRecDepth 100000
def Tryz.sortS_ren : Go.Shelf.Ren := ⟨fun | 6 => 74 | 8 => 110 | 9 => 109 | 19 => 136 | 20 => 137 | 21 => 127 | 22 => 128 | 23 => 129 | 24 => 130 | 25 => 131 | 26 => 132 | 27 => 133 | 28 => 134 | 29 => 135 | 36 => 150 | 31 => 151 | 32 => 152 | 37 => 153 | 38 => 154 | 39 => 114 | 41 => 167 | n => n, fun | 27 => 80 | 29 => 9 | 3 => 3 | 32 => 159 | 26 => 80 | 0 => 0 | 44 => 177 | 46 => 135 | 4 => 4 | 36 => 169 | 35 => 168 | 41 => 174 | 5 => 5 | 9 => 9 | 53 => 188 | 57 => 192 | 63 => 201 | 64 => 202 | n => n, fun | n => n⟩
theorem Tryz.sortS : Go.Proofs.SlLaysM.n6 Tryz.prog Tryz.sortS_ren where
  mixed := by kernel_rfl
  f6 := ⟨ "slices.Sort[[]string,string]", by decide, Tryz.func74.trans (congrArg some (by kernel_rfl))⟩
  f8 := Tryz.func110.trans (congrArg some (by kernel_rfl))
  f9 := ⟨ "slices.pdqsortOrdered[string]", by decide, Tryz.func109.trans (congrArg some (by kernel_rfl))⟩
  f19 := Tryz.func136.trans (congrArg some (by kernel_rfl))
  f20 := Tryz.func137.trans (congrArg some (by kernel_rfl))
  f21 := ⟨ "slices.insertionSortOrdered[string]", by decide, Tryz.func127.trans (congrArg some (by kernel_rfl))⟩
  f22 := ⟨ "slices.heapSortOrdered[string]", by decide, Tryz.func128.trans (congrArg some (by kernel_rfl))⟩
  f23 := ⟨ "slices.breakPatternsOrdered[string]", by decide, Tryz.func129.trans (congrArg some (by kernel_rfl))⟩
  f24 := ⟨ "slices.choosePivotOrdered[string]", by decide, Tryz.func130.trans (congrArg some (by kernel_rfl))⟩
  f25 := ⟨ "slices.reverseRangeOrdered[string]", by decide, Tryz.func131.trans (congrArg some (by kernel_rfl))⟩
  f26 := ⟨ "slices.partialInsertionSortOrdered[string]", by decide, Tryz.func132.trans (congrArg some (by kernel_rfl))⟩
  f27 := ⟨ "cmp.Less[string]", by decide, Tryz.func133.trans (congrArg some (by kernel_rfl))⟩
  f28 := ⟨ "slices.partitionEqualOrdered[string]", by decide, Tryz.func134.trans (congrArg some (by kernel_rfl))⟩
  f29 := ⟨ "slices.partitionOrdered[string]", by decide, Tryz.func135.trans (congrArg some (by kernel_rfl))⟩
  f31 := Tryz.func151.trans (congrArg some (by kernel_rfl))
  f32 := Tryz.func152.trans (congrArg some (by kernel_rfl))
  f36 := ⟨ "slices.siftDownOrdered[string]", by decide, Tryz.func150.trans (congrArg some (by kernel_rfl))⟩
  f37 := ⟨ "slices.medianAdjacentOrdered[string]", by decide, Tryz.func153.trans (congrArg some (by kernel_rfl))⟩
  f38 := ⟨ "slices.medianOrdered[string]", by decide, Tryz.func154.trans (congrArg some (by kernel_rfl))⟩
  f39 := ⟨ "cmp.isNaN[string]", by decide, Tryz.func114.trans (congrArg some (by kernel_rfl))⟩
  f41 := ⟨ "slices.order2Ordered[string]", by decide, Tryz.func167.trans (congrArg some (by kernel_rfl))⟩
  t0 := Tryz.underlying0
  a0 := Tryz.isAgg0
  z0 := Tryz.sizeOf0
  v0 := Tryz.zeroValue0
  t3 := Tryz.underlying3
  a3 := Tryz.isAgg3
  z3 := Tryz.sizeOf3
  v3 := Tryz.zeroValue3
  t4 := Tryz.underlying4
  a4 := Tryz.isAgg4
  z4 := Tryz.sizeOf4
  v4 := Tryz.zeroValue4
  t5 := Tryz.underlying5
  a5 := Tryz.isAgg5
  z5 := Tryz.sizeOf5
  v5 := Tryz.zeroValue5
  t9 := Tryz.underlying9
  a9 := Tryz.isAgg9
  z9 := Tryz.sizeOf9
  v9 := Tryz.zeroValue9
  t26 := Tryz.underlying80
  a26 := Tryz.isAgg80
  z26 := Tryz.sizeOf80
  v26 := Tryz.zeroValue80
  t27 := Tryz.underlying80
  a27 := Tryz.isAgg80
  z27 := Tryz.sizeOf80
  v27 := Tryz.zeroValue80
  t29 := Tryz.underlying9
  a29 := Tryz.isAgg9
  z29 := Tryz.sizeOf9
  v29 := Tryz.zeroValue9
  t32 := Tryz.underlying159
  a32 := Tryz.isAgg159
  z32 := Tryz.sizeOf159
  v32 := Tryz.zeroValue159
  t35 := Tryz.underlying168
  a35 := Tryz.isAgg168
  z35 := Tryz.sizeOf168
  v35 := Tryz.zeroValue168
  t36 := Tryz.underlying169
  a36 := Tryz.isAgg169
  z36 := Tryz.sizeOf169
  v36 := Tryz.zeroValue169
  t41 := Tryz.underlying174
  a41 := Tryz.isAgg174
  z41 := Tryz.sizeOf174
  v41 := Tryz.zeroValue174
  t44 := Tryz.underlying177
  a44 := Tryz.isAgg177
  z44 := Tryz.sizeOf177
  v44 := Tryz.zeroValue177
  t46 := Tryz.underlying135
  a46 := Tryz.isAgg135
  z46 := Tryz.sizeOf135
  v46 := Tryz.zeroValue135
  t53 := Tryz.underlying188
  a53 := Tryz.isAgg188
  z53 := Tryz.sizeOf188
  v53 := Tryz.zeroValue188
  t57 := Tryz.underlying192
  a57 := Tryz.isAgg192
  z57 := Tryz.sizeOf192
  v57 := Tryz.zeroValue192
  t63 := Tryz.underlying201
  a63 := Tryz.isAgg201
  z63 := Tryz.sizeOf201
  v63 := Tryz.zeroValue201
  t64 := Tryz.underlying202
  a64 := Tryz.isAgg202
  z64 := Tryz.sizeOf202
  v64 := Tryz.zeroValue202
def Tryz.sortI_ren : Go.Shelf.Ren := ⟨fun | 5 => 92 | 8 => 110 | 7 => 121 | 19 => 136 | 20 => 137 | 10 => 141 | 11 => 142 | 12 => 143 | 13 => 144 | 14 => 145 | 15 => 146 | 16 => 147 | 17 => 148 | 18 => 149 | 30 => 163 | 31 => 151 | 32 => 152 | 33 => 164 | 34 => 165 | 35 => 166 | 40 => 171 | n => n, fun | 23 => 97 | 25 => 3 | 3 => 3 | 32 => 159 | 22 => 97 | 0 => 0 | 44 => 177 | 46 => 135 | 4 => 4 | 36 => 169 | 35 => 168 | 41 => 174 | 5 => 5 | 9 => 9 | 53 => 188 | 57 => 192 | 63 => 201 | 64 => 202 | n => n, fun | n => n⟩
theorem Tryz.sortI : Go.Proofs.SlLaysM.n5 Tryz.prog Tryz.sortI_ren where
  mixed := by kernel_rfl
  f5 := ⟨ "slices.Sort[[]int,int]", by decide, Tryz.func92.trans (congrArg some (by kernel_rfl))⟩
  f7 := ⟨ "slices.pdqsortOrdered[int]", by decide, Tryz.func121.trans (congrArg some (by kernel_rfl))⟩
  f8 := Tryz.func110.trans (congrArg some (by kernel_rfl))
  f10 := ⟨ "slices.insertionSortOrdered[int]", by decide, Tryz.func141.trans (congrArg some (by kernel_rfl))⟩
  f11 := ⟨ "slices.heapSortOrdered[int]", by decide, Tryz.func142.trans (congrArg some (by kernel_rfl))⟩
  f12 := ⟨ "slices.breakPatternsOrdered[int]", by decide, Tryz.func143.trans (congrArg some (by kernel_rfl))⟩
  f13 := ⟨ "slices.choosePivotOrdered[int]", by decide, Tryz.func144.trans (congrArg some (by kernel_rfl))⟩
  f14 := ⟨ "slices.reverseRangeOrdered[int]", by decide, Tryz.func145.trans (congrArg some (by kernel_rfl))⟩
  f15 := ⟨ "slices.partialInsertionSortOrdered[int]", by decide, Tryz.func146.trans (congrArg some (by kernel_rfl))⟩
  f16 := ⟨ "cmp.Less[int]", by decide, Tryz.func147.trans (congrArg some (by kernel_rfl))⟩
  f17 := ⟨ "slices.partitionEqualOrdered[int]", by decide, Tryz.func148.trans (congrArg some (by kernel_rfl))⟩
  f18 := ⟨ "slices.partitionOrdered[int]", by decide, Tryz.func149.trans (congrArg some (by kernel_rfl))⟩
  f19 := Tryz.func136.trans (congrArg some (by kernel_rfl))
  f20 := Tryz.func137.trans (congrArg some (by kernel_rfl))
  f30 := ⟨ "slices.siftDownOrdered[int]", by decide, Tryz.func163.trans (congrArg some (by kernel_rfl))⟩
  f31 := Tryz.func151.trans (congrArg some (by kernel_rfl))
  f32 := Tryz.func152.trans (congrArg some (by kernel_rfl))
  f33 := ⟨ "slices.medianAdjacentOrdered[int]", by decide, Tryz.func164.trans (congrArg some (by kernel_rfl))⟩
  f34 := ⟨ "slices.medianOrdered[int]", by decide, Tryz.func165.trans (congrArg some (by kernel_rfl))⟩
  f35 := ⟨ "cmp.isNaN[int]", by decide, Tryz.func166.trans (congrArg some (by kernel_rfl))⟩
  f40 := ⟨ "slices.order2Ordered[int]", by decide, Tryz.func171.trans (congrArg some (by kernel_rfl))⟩
  t0 := Tryz.underlying0
  a0 := Tryz.isAgg0
  z0 := Tryz.sizeOf0
  v0 := Tryz.zeroValue0
  t3 := Tryz.underlying3
  a3 := Tryz.isAgg3
  z3 := Tryz.sizeOf3
  v3 := Tryz.zeroValue3
  t4 := Tryz.underlying4
  a4 := Tryz.isAgg4
  z4 := Tryz.sizeOf4
  v4 := Tryz.zeroValue4
  t5 := Tryz.underlying5
  a5 := Tryz.isAgg5
  z5 := Tryz.sizeOf5
  v5 := Tryz.zeroValue5
  t9 := Tryz.underlying9
  a9 := Tryz.isAgg9
  z9 := Tryz.sizeOf9
  v9 := Tryz.zeroValue9
  t22 := Tryz.underlying97
  a22 := Tryz.isAgg97
  z22 := Tryz.sizeOf97
  v22 := Tryz.zeroValue97
  t23 := Tryz.underlying97
  a23 := Tryz.isAgg97
  z23 := Tryz.sizeOf97
  v23 := Tryz.zeroValue97
  t25 := Tryz.underlying3
  a25 := Tryz.isAgg3
  z25 := Tryz.sizeOf3
  v25 := Tryz.zeroValue3
  t32 := Tryz.underlying159
  a32 := Tryz.isAgg159
  z32 := Tryz.sizeOf159
  v32 := Tryz.zeroValue159
  t35 := Tryz.underlying168
  a35 := Tryz.isAgg168
  z35 := Tryz.sizeOf168
  v35 := Tryz.zeroValue168
  t36 := Tryz.underlying169
  a36 := Tryz.isAgg169
  z36 := Tryz.sizeOf169
  v36 := Tryz.zeroValue169
  t41 := Tryz.underlying174
  a41 := Tryz.isAgg174
  z41 := Tryz.sizeOf174
  v41 := Tryz.zeroValue174
  t44 := Tryz.underlying177
  a44 := Tryz.isAgg177
  z44 := Tryz.sizeOf177
  v44 := Tryz.zeroValue177
  t46 := Tryz.underlying135
  a46 := Tryz.isAgg135
  z46 := Tryz.sizeOf135
  v46 := Tryz.zeroValue135
  t53 := Tryz.underlying188
  a53 := Tryz.isAgg188
  z53 := Tryz.sizeOf188
  v53 := Tryz.zeroValue188
  t57 := Tryz.underlying192
  a57 := Tryz.isAgg192
  z57 := Tryz.sizeOf192
  v57 := Tryz.zeroValue192
  t63 := Tryz.underlying201
  a63 := Tryz.isAgg201
  z63 := Tryz.sizeOf201
  v63 := Tryz.zeroValue201
  t64 := Tryz.underlying202
  a64 := Tryz.isAgg202
  z64 := Tryz.sizeOf202
  v64 := Tryz.zeroValue202
def Tryz.sortP_ren : Go.Shelf.Ren := ⟨fun | 6 => 112 | 15 => 110 | 14 => 139 | 28 => 136 | 29 => 137 | 20 => 155 | 21 => 156 | 22 => 157 | 23 => 158 | 24 => 159 | 25 => 160 | 26 => 161 | 27 => 162 | 46 => 168 | 47 => 151 | 48 => 152 | 49 => 169 | 50 => 170 | 57 => 172 | n => n, fun | 22 => 86 | 24 => 89 | 25 => 133 | 3 => 3 | 39 => 159 | 0 => 0 | 53 => 177 | 55 => 135 | 4 => 4 | 46 => 169 | 45 => 168 | 50 => 174 | 5 => 5 | 9 => 9 | 66 => 188 | 70 => 192 | 76 => 201 | 77 => 202 | n => n, fun | n => n⟩
theorem Tryz.sortP : Go.Proofs.SlLaysF0.n6 Tryz.prog Tryz.sortP_ren where
  mixed := by kernel_rfl
  f6 := ⟨ "slices.SortFunc[[]tollgate/conf.place,tollgate/conf.place]", by decide, Tryz.func112.trans (congrArg some (by kernel_rfl))⟩
  f14 := ⟨ "slices.pdqsortCmpFunc[tollgate/conf.place]", by decide, Tryz.func139.trans (congrArg some (by kernel_rfl))⟩
  f15 := Tryz.func110.trans (congrArg some (by kernel_rfl))
  f20 := ⟨ "slices.insertionSortCmpFunc[tollgate/conf.place]", by decide, Tryz.func155.trans (congrArg some (by kernel_rfl))⟩
  f21 := ⟨ "slices.heapSortCmpFunc[tollgate/conf.place]", by decide, Tryz.func156.trans (congrArg some (by kernel_rfl))⟩
  f22 := ⟨ "slices.breakPatternsCmpFunc[tollgate/conf.place]", by decide, Tryz.func157.trans (congrArg some (by kernel_rfl))⟩
  f23 := ⟨ "slices.choosePivotCmpFunc[tollgate/conf.place]", by decide, Tryz.func158.trans (congrArg some (by kernel_rfl))⟩
  f24 := ⟨ "slices.reverseRangeCmpFunc[tollgate/conf.place]", by decide, Tryz.func159.trans (congrArg some (by kernel_rfl))⟩
  f25 := ⟨ "slices.partialInsertionSortCmpFunc[tollgate/conf.place]", by decide, Tryz.func160.trans (congrArg some (by kernel_rfl))⟩
  f26 := ⟨ "slices.partitionEqualCmpFunc[tollgate/conf.place]", by decide, Tryz.func161.trans (congrArg some (by kernel_rfl))⟩
  f27 := ⟨ "slices.partitionCmpFunc[tollgate/conf.place]", by decide, Tryz.func162.trans (congrArg some (by kernel_rfl))⟩
  f28 := Tryz.func136.trans (congrArg some (by kernel_rfl))
  f29 := Tryz.func137.trans (congrArg some (by kernel_rfl))
  f46 := ⟨ "slices.siftDownCmpFunc[tollgate/conf.place]", by decide, Tryz.func168.trans (congrArg some (by kernel_rfl))⟩
  f47 := Tryz.func151.trans (congrArg some (by kernel_rfl))
  f48 := Tryz.func152.trans (congrArg some (by kernel_rfl))
  f49 := ⟨ "slices.medianAdjacentCmpFunc[tollgate/conf.place]", by decide, Tryz.func169.trans (congrArg some (by kernel_rfl))⟩
  f50 := ⟨ "slices.medianCmpFunc[tollgate/conf.place]", by decide, Tryz.func170.trans (congrArg some (by kernel_rfl))⟩
  f57 := ⟨ "slices.order2CmpFunc[tollgate/conf.place]", by decide, Tryz.func172.trans (congrArg some (by kernel_rfl))⟩
  t0 := Tryz.underlying0
  a0 := Tryz.isAgg0
  z0 := Tryz.sizeOf0
  v0 := Tryz.zeroValue0
  t3 := Tryz.underlying3
  a3 := Tryz.isAgg3
  z3 := Tryz.sizeOf3
  v3 := Tryz.zeroValue3
  t4 := Tryz.underlying4
  a4 := Tryz.isAgg4
  z4 := Tryz.sizeOf4
  v4 := Tryz.zeroValue4
  t5 := Tryz.underlying5
  a5 := Tryz.isAgg5
  z5 := Tryz.sizeOf5
  v5 := Tryz.zeroValue5
  t9 := Tryz.underlying9
  a9 := Tryz.isAgg9
  z9 := Tryz.sizeOf9
  v9 := Tryz.zeroValue9
  t22 := Tryz.underlying86
  a22 := Tryz.isAgg86
  z22 := Tryz.sizeOf86
  v22 := Tryz.zeroValue86
  t25 := Tryz.underlying133
  a25 := Tryz.isAgg133
  z25 := Tryz.sizeOf133
  v25 := Tryz.zeroValue133
  t39 := Tryz.underlying159
  a39 := Tryz.isAgg159
  z39 := Tryz.sizeOf159
  v39 := Tryz.zeroValue159
  t45 := Tryz.underlying168
  a45 := Tryz.isAgg168
  z45 := Tryz.sizeOf168
  v45 := Tryz.zeroValue168
  t46 := Tryz.underlying169
  a46 := Tryz.isAgg169
  z46 := Tryz.sizeOf169
  v46 := Tryz.zeroValue169
  t50 := Tryz.underlying174
  a50 := Tryz.isAgg174
  z50 := Tryz.sizeOf174
  v50 := Tryz.zeroValue174
  t53 := Tryz.underlying177
  a53 := Tryz.isAgg177
  z53 := Tryz.sizeOf177
  v53 := Tryz.zeroValue177
  t55 := Tryz.underlying135
  a55 := Tryz.isAgg135
  z55 := Tryz.sizeOf135
  v55 := Tryz.zeroValue135
  t66 := Tryz.underlying188
  a66 := Tryz.isAgg188
  z66 := Tryz.sizeOf188
  v66 := Tryz.zeroValue188
  t70 := Tryz.underlying192
  a70 := Tryz.isAgg192
  z70 := Tryz.sizeOf192
  v70 := Tryz.zeroValue192
  t76 := Tryz.underlying201
  a76 := Tryz.isAgg201
  z76 := Tryz.sizeOf201
  v76 := Tryz.zeroValue201
  t77 := Tryz.underlying202
  a77 := Tryz.isAgg202
  z77 := Tryz.sizeOf202
  v77 := Tryz.zeroValue202
end Go.Proofs

/-
  Commands and configurations as plain lists: which may be, their bytes, and how bytes are read. No program in sight.
-/
namespace Go.Cm
abbrev Bs := List UInt8
structure Tgt where
  addr : Bs
  w : Nat
deriving DecidableEq
structure Cmd where
  act : Int
  client : Int
  seq : Int
  expect : Int
  host : Bs
  pfx : Bs
  pool : Bs
  tg : List Tgt
deriving DecidableEq
structure Rt where
  host : Bs
  pfx : Bs
  pool : Bs
deriving DecidableEq
structure Pl where
  name : Bs
  tg : List Tgt
deriving DecidableEq
structure Last where
  client : Int
  seq : Int
  e : Int
  ver : Int
deriving DecidableEq
structure Sm where
  ver : Int
  routes : List Rt
  pools : List Pl
  l : List Last
deriving DecidableEq

/-! ### which may be -/
def small (c : UInt8) : Bool := decide (97 ≤ c.toNat ∧ c.toNat ≤ 122) || decide (48 ≤ c.toNat ∧ c.toNat ≤ 57) || decide (c.toNat = 45)
def isName (s : Bs) : Bool := decide (1 ≤ s.length ∧ s.length ≤ 64) && s.all small
/-- point: was the last one a point (or is there none yet)? -/
def hostRun : Bool → Bs → Bool
  | p, [] => !p
  | p, c :: r => (small c || (decide (c.toNat = 46) && !p)) && hostRun (decide (c.toNat = 46)) r
def isHost (s : Bs) : Bool := decide (1 ≤ s.length ∧ s.length ≤ 64) && hostRun true s
def seen (c : UInt8) : Bool := decide (33 ≤ c.toNat ∧ c.toNat ≤ 126)
def pfxB (c : UInt8) : Bool := seen c && !decide (c.toNat = 63) && !decide (c.toNat = 35)
def isPfx (s : Bs) : Bool := decide (1 ≤ s.length ∧ s.length ≤ 128) && s.all pfxB && decide (s.head? = some 47)
def isAddr (s : Bs) : Bool := decide (1 ≤ s.length ∧ s.length ≤ 64) && s.all seen
def isW (w : Nat) : Bool := decide (w < 9218868437227405312)
def chkT (l : List Tgt) : Int :=
  if !l.all (fun t => isAddr t.addr) then 14 else if !l.all (fun t => isW t.w) then 15 else if 16 < l.length then 6 else 0
def usesPool (a : Int) : Bool := decide (a = 1) || decide (a = 2) || decide (a = 3)
def usesRoute (a : Int) : Bool := decide (a = 3) || decide (a = 4)
def seqOk (c : Cmd) : Bool := if c.client = 0 then decide (c.seq = 0) else decide (1 ≤ c.seq ∧ c.seq ≤ 1099511627776)
def argBad (c : Cmd) : Bool :=
  (!usesPool c.act && !usesRoute c.act) || decide (c.client < 0) || decide (32 < c.client) || !seqOk c || decide (c.expect < -1) || decide (1099511627776 ≤ c.expect) ||
  (!usesPool c.act && decide (c.pool ≠ [])) || (!usesRoute c.act && (decide (c.host ≠ []) || decide (c.pfx ≠ []))) || (decide (c.act ≠ 1) && decide (0 < c.tg.length))
def nameBad (c : Cmd) : Bool := (usesPool c.act && !isName c.pool) || (usesRoute c.act && (!isHost c.host || !isPfx c.pfx))
def chk (c : Cmd) : Int := if argBad c then 2 else if nameBad c then 14 else chkT c.tg

/-! ### bytes -/
def encNF : Nat → Nat → Bs
  | 0, n => [UInt8.ofNat n]
  | k + 1, n => if n < 128 then [UInt8.ofNat n] else UInt8.ofNat (n % 128 + 128) :: encNF k (n / 128)
def num (n : Int) : Bs := if n < 0 ∨ 1099511627776 < n then [] else encNF 5 n.toNat
def text (s : Bs) : Bs := num s.length ++ s
def f64 (w : Nat) : Bs := [UInt8.ofNat (w / 2 ^ 56), UInt8.ofNat (w / 2 ^ 48), UInt8.ofNat (w / 2 ^ 40), UInt8.ofNat (w / 2 ^ 32), UInt8.ofNat (w / 2 ^ 24), UInt8.ofNat (w / 2 ^ 16), UInt8.ofNat (w / 2 ^ 8), UInt8.ofNat w]
def tgt (t : Tgt) : Bs := text t.addr ++ f64 t.w
def tgs (l : List Tgt) : Bs := num l.length ++ l.flatMap tgt
def plB (p : Pl) : Bs := text p.name ++ tgs p.tg
def rtB (r : Rt) : Bs := text r.host ++ (text r.pfx ++ text r.pool)
def laB (x : Last) : Bs := num x.client ++ (num x.seq ++ (num x.e ++ num x.ver))
def confB (pools : List Pl) (routes : List Rt) : Bs := num pools.length ++ (pools.flatMap plB ++ (num routes.length ++ routes.flatMap rtB))
def putS (s : Sm) : Bs := num s.ver ++ (confB s.pools s.routes ++ (num s.l.length ++ s.l.flatMap laB))

/-! ### reading -/
abbrev Ps := Except Int Bs
def takeGo (k n : Nat) : Bs → Except Int (Nat × Bs)
  | [] => .error 3
  | c :: r => if 128 ≤ c.toNat then (if k = 5 then .error 6 else takeGo (k + 1) (n + c.toNat % 128 * 128 ^ k) r)
    else if c.toNat = 0 ∧ 0 < k then .error 4 else if 1099511627776 < n + c.toNat % 128 * 128 ^ k then .error 6 else .ok (n + c.toNat % 128 * 128 ^ k, r)
def rNum (most : Nat) : Ps → Nat × Ps
  | .error e => (0, .error e)
  | .ok r => match takeGo 0 0 r with
    | .error e => (0, .error e)
    | .ok (n, r') => if most < n then (0, .error 6) else (n, .ok r')
def rRow (n : Nat) : Ps → Bs × Ps
  | .error e => ([], .error e)
  | .ok r => if r.length < n then ([], .error 3) else (r.take n, .ok (r.drop n))
def rText (s : Ps) : Bs × Ps := rRow (rNum 128 s).1 (rNum 128 s).2
def bits (l : Bs) : Nat := l.foldl (fun n c => n * 256 + c.toNat) 0
def bad : Ps → Bool
  | .error _ => true
  | .ok _ => false
/-- n times, up to the first fault. -/
def rMany {α : Type} (f : Ps → α × Ps) : Nat → Ps → List α × Ps
  | 0, s => ([], s)
  | n + 1, s => if bad s then ([], s) else ((f s).1 :: (rMany f n (f s).2).1, (rMany f n (f s).2).2)
def rTgt (s : Ps) : Tgt × Ps := (⟨(rText s).1, bits (rRow 8 (rText s).2).1⟩, (rRow 8 (rText s).2).2)
def rTgs (s : Ps) : List Tgt × Ps := rMany rTgt (rNum 16 s).1 (rNum 16 s).2
def maxN : Nat := 1099511627776
def rPl (s : Ps) : Pl × Ps := (⟨(rText s).1, (rTgs (rText s).2).1⟩, (rTgs (rText s).2).2)
def rRt (s : Ps) : Rt × Ps := (⟨(rText s).1, (rText (rText s).2).1, (rText (rText (rText s).2).2).1⟩, (rText (rText (rText s).2).2).2)
def rLa (s : Ps) : Last × Ps :=
  let k := rNum maxN s
  let q := rNum maxN k.2
  let e := rNum maxN q.2
  let v := rNum maxN e.2
  (⟨k.1, q.1, e.1, v.1⟩, v.2)
def rSm (b : Bs) : Sm × Ps :=
  let v := rNum maxN (.ok b)
  let n := rNum 32 v.2
  let p := rMany rPl n.1 n.2
  let m := rNum 64 p.2
  let r := rMany rRt m.1 m.2
  let k := rNum 32 r.2
  let l := rMany rLa k.1 k.2
  (⟨v.1, r.1, p.1, l.1⟩, l.2)
def rtLt (a b : Rt) : Bool := decide (a.host < b.host) || (decide (a.host = b.host) && decide (a.pfx < b.pfx))
/-- Each one ahead of the next. -/
def rises {α : Type} (lt : α → α → Bool) : List α → Bool
  | [] => true
  | [_] => true
  | a :: b :: r => lt a b && rises lt (b :: r)
def told (e : Int) : Bool := decide (e = 0) || decide (e = 6) || decide (e = 8) || decide (e = 12) || decide (e = 13)
def rightL (v : Int) (x : Last) : Bool := decide (1 ≤ x.client ∧ x.client ≤ 32) && decide (1 ≤ x.seq) && told x.e && decide (x.ver ≤ v)
def right (s : Sm) : Bool :=
  (s.pools.all (fun p => isName p.name && decide (chkT p.tg = 0)) && rises (fun a b => decide (a.name < b.name)) s.pools) &&
  (s.routes.all (fun r => s.pools.any (fun p => decide (p.name = r.pool)) && isHost r.host && isPfx r.pfx) && rises rtLt s.routes) &&
  (s.l.all (rightL s.ver) && rises (fun a b => decide (a.client < b.client)) s.l) && decide ((confB s.pools s.routes).length ≤ 12000)
def load (b : Bs) : Except Int Sm :=
  match (rSm b).2 with
  | .error e => .error e
  | .ok r => if r ≠ [] ∨ right (rSm b).1 = false then .error 4 else .ok (rSm b).1

/-! ### what is put is got, and the other way round -/
theorem enc_take : ∀ (b : Bs) (k acc n : Nat) (r : Bs), k ≤ 5 → takeGo k acc b = .ok (n, r) → ∃ m, b = encNF (5 - k) m ++ r ∧ n = acc + m * 128 ^ k ∧ m < 128 ^ (6 - k) ∧ (0 < m ∨ k = 0) ∧ n ≤ 1099511627776
  | [], _, _, _, _, _, h => by simp [takeGo] at h
  | c :: b, k, acc, n, r, hk, h => by
    unfold takeGo at h
    split at h
    · rename_i hc
      split at h
      · cases h
      · rename_i hk5
        obtain ⟨m, rfl, rfl, h3, h4, h5⟩ := enc_take b (k + 1) _ n r (by omega) h
        have hlt := c.toNat_lt
        have hm : 0 < m := by omega
        refine ⟨c.toNat % 128 + 128 * m, ?_, ?_, ?_, .inl (by omega), h5⟩
        · rw [show 5 - k = 5 - (k + 1) + 1 from by omega]
          conv => rhs; unfold encNF
          rw [if_neg (by omega), show (c.toNat % 128 + 128 * m) % 128 + 128 = c.toNat from by omega, show (c.toNat % 128 + 128 * m) / 128 = m from by omega]
          simp
        · rw [Nat.add_mul, Nat.pow_succ]
          simp only [Nat.mul_assoc, Nat.mul_comm, Nat.add_assoc]
        · rw [show 6 - k = 6 - (k + 1) + 1 from by omega, Nat.pow_succ]
          have := h3; omega
    · rename_i hc
      split at h
      · cases h
      · rename_i h0
        split at h
        · cases h
        · rename_i hn
          injection h with h
          injection h with h1 h2
          subst h1; subst h2
          have e : c.toNat % 128 = c.toNat := Nat.mod_eq_of_lt (by omega)
          refine ⟨c.toNat, ?_, by rw [e], ?_, by omega, by omega⟩
          · have : encNF (5 - k) c.toNat = [UInt8.ofNat c.toNat] := by
              cases 5 - k with
              | zero => rfl
              | succ j => unfold encNF; rw [if_pos (by omega)]
            rw [this]; simp
          · have : 128 ^ 1 ≤ 128 ^ (6 - k) := Nat.pow_le_pow_right (by decide) (by omega)
            omega
theorem rNum_got {most n : Nat} {s : Ps} {r : Bs} (h : rNum most s = (n, .ok r)) : s = .ok (num n ++ r) ∧ n ≤ most ∧ n ≤ 1099511627776 := by
  cases s with
  | error e => simp [rNum] at h
  | ok b =>
    simp only [rNum] at h
    split at h
    · simp at h
    · rename_i n' r' ht
      split at h
      · simp at h
      · simp only [Prod.mk.injEq, Except.ok.injEq] at h
        obtain ⟨rfl, rfl⟩ := h
        obtain ⟨m, rfl, rfl, h3, h4, h5⟩ := enc_take b 0 0 _ _ (by omega) ht
        simp only [Nat.zero_add, Nat.pow_zero, Nat.mul_one] at *
        exact ⟨by simp only [num]; rw [if_neg (by omega), Int.toNat_natCast], by omega, h5⟩
theorem rRow_got {n : Nat} {s : Ps} {x r : Bs} (h : rRow n s = (x, .ok r)) : s = .ok (x ++ r) ∧ x.length = n := by
  cases s with
  | error e => simp [rRow] at h
  | ok b =>
    simp only [rRow] at h
    split at h
    · simp at h
    · simp only [Prod.mk.injEq, Except.ok.injEq] at h
      obtain ⟨rfl, rfl⟩ := h
      exact ⟨by rw [List.take_append_drop], by rw [List.length_take]; omega⟩
theorem rText_got {s : Ps} {x r : Bs} (h : rText s = (x, .ok r)) : s = .ok (text x ++ r) ∧ x.length ≤ 128 := by
  unfold rText at h
  obtain ⟨h1, h2⟩ := rRow_got h
  obtain ⟨h3, h4, _⟩ := rNum_got (n := (rNum 128 s).1) (r := x ++ r) (Prod.ext rfl h1)
  refine ⟨by rw [h3, text, h2, List.append_assoc], by omega⟩
theorem bits8 (a b c d e f g h : UInt8) : f64 (bits [a, b, c, d, e, f, g, h]) = [a, b, c, d, e, f, g, h] := by
  have ha := a.toNat_lt; have hb := b.toNat_lt; have hc := c.toNat_lt; have hd := d.toNat_lt
  have he := e.toNat_lt; have hf := f.toNat_lt; have hg := g.toNat_lt; have hh := h.toNat_lt
  have q : ∀ (x : UInt8) (n : Nat), n % 256 = x.toNat → UInt8.ofNat n = x := fun x n hn => by
    apply UInt8.toNat_inj.1; simpa using hn
  simp only [bits, List.foldl_cons, List.foldl_nil, f64, List.cons.injEq, and_true]
  refine ⟨q _ _ ?_, q _ _ ?_, q _ _ ?_, q _ _ ?_, q _ _ ?_, q _ _ ?_, q _ _ ?_, q _ _ ?_⟩ <;> omega
theorem f64_bits {l : Bs} (h : l.length = 8) : f64 (bits l) = l := by
  match l, h with
  | [a, b, c, d, e, f, g, i], _ => exact bits8 a b c d e f g i
theorem bits_lt {l : Bs} (h : l.length = 8) : bits l < 2 ^ 64 := by
  match l, h with
  | [a, b, c, d, e, f, g, i], _ =>
    have ha := a.toNat_lt; have hb := b.toNat_lt; have hc := c.toNat_lt; have hd := d.toNat_lt
    have he := e.toNat_lt; have hf := f.toNat_lt; have hg := g.toNat_lt; have hh := i.toNat_lt
    simp only [bits, List.foldl_cons, List.foldl_nil]; omega
theorem f64_len (w : Nat) : (f64 w).length = 8 := rfl
theorem rTgt_got {s : Ps} {t : Tgt} {r : Bs} (h : rTgt s = (t, .ok r)) : s = .ok (tgt t ++ r) ∧ t.addr.length ≤ 128 ∧ t.w < 2 ^ 64 := by
  simp only [rTgt, Prod.mk.injEq] at h
  obtain ⟨rfl, h2⟩ := h
  obtain ⟨h3, h4⟩ := rRow_got (x := (rRow 8 (rText s).2).1) (r := r) (Prod.ext rfl h2)
  obtain ⟨h5, h6⟩ := rText_got (s := s) (x := (rText s).1) (r := (rRow 8 (rText s).2).1 ++ r) (Prod.ext rfl h3)
  exact ⟨h5.trans (by simp only [tgt]; rw [f64_bits h4, List.append_assoc]), h6, bits_lt h4⟩
theorem rMany_got {α : Type} {f : Ps → α × Ps} {g : α → Bs} {good : α → Prop} (hf : ∀ s a r, f s = (a, .ok r) → s = .ok (g a ++ r) ∧ good a) :
    ∀ (n : Nat) (s : Ps) (l : List α) (r : Bs), rMany f n s = (l, .ok r) → s = .ok (l.flatMap g ++ r) ∧ l.length = n ∧ ∀ a ∈ l, good a
  | 0, s, l, r, h => by
    simp only [rMany, Prod.mk.injEq] at h
    obtain ⟨rfl, rfl⟩ := h
    exact ⟨rfl, rfl, fun a ha => by cases ha⟩
  | n + 1, s, l, r, h => by
    unfold rMany at h
    split at h
    · rename_i hb
      simp only [Prod.mk.injEq] at h
      obtain ⟨rfl, rfl⟩ := h
      simp [bad] at hb
    · simp only [Prod.mk.injEq] at h
      obtain ⟨rfl, h2⟩ := h
      obtain ⟨h3, h4, h5⟩ := rMany_got hf n (f s).2 (rMany f n (f s).2).1 r (Prod.ext rfl h2)
      obtain ⟨h6, h7⟩ := hf s (f s).1 _ (Prod.ext rfl h3)
      refine ⟨h6.trans (by simp), by simp [h4], fun a ha => ?_⟩
      rcases List.mem_cons.1 ha with rfl | ha
      · exact h7
      · exact h5 a ha
def goodT (t : Tgt) : Prop := t.addr.length ≤ 128 ∧ t.w < 2 ^ 64
theorem rTgs_got {s : Ps} {l : List Tgt} {r : Bs} (h : rTgs s = (l, .ok r)) : s = .ok (tgs l ++ r) ∧ (∀ t ∈ l, goodT t) ∧ l.length ≤ 16 := by
  obtain ⟨h1, h2, h3⟩ := rMany_got (g := tgt) (good := goodT) (fun s a r h => rTgt_got h) _ _ _ _ h
  obtain ⟨h4, h5, _⟩ := rNum_got (n := (rNum 16 s).1) (Prod.ext rfl h1)
  exact ⟨h4.trans (by rw [tgs, h2, List.append_assoc]), h3, by omega⟩
theorem got_of {α : Type} {p : α × Ps} {r : Bs} (h : p.2 = .ok r) : p = (p.1, .ok r) := Prod.ext rfl h
/-! ### the checks' own bounds -/
theorem chk_zero {c : Cmd} (h : chk c = 0) : argBad c = false ∧ nameBad c = false ∧ chkT c.tg = 0 := by
  unfold chk at h
  cases h1 : argBad c <;> cases h2 : nameBad c <;> simp_all
theorem chkT_zero {l : List Tgt} (h : chkT l = 0) : (∀ t ∈ l, isAddr t.addr = true ∧ isW t.w = true) ∧ l.length ≤ 16 := by
  unfold chkT at h
  cases h1 : l.all (fun t => isAddr t.addr) <;> cases h2 : l.all (fun t => isW t.w) <;> simp [h1, h2] at h
  refine ⟨fun t ht => ⟨?_, ?_⟩, by omega⟩
  · exact List.all_eq_true.1 h1 t ht
  · exact List.all_eq_true.1 h2 t ht
theorem chkT_good {l : List Tgt} (h : chkT l = 0) : ∀ t ∈ l, goodT t := fun t ht => by
  obtain ⟨h1, h2⟩ := (chkT_zero h).1 t ht
  simp only [isAddr, Bool.and_eq_true, decide_eq_true_eq] at h1
  simp only [isW, decide_eq_true_eq] at h2
  exact ⟨by omega, by omega⟩
theorem name_len {s : Bs} (h : isName s = true) : 1 ≤ s.length ∧ s.length ≤ 64 := by
  simp only [isName, Bool.and_eq_true, decide_eq_true_eq] at h; exact h.1
theorem host_len {s : Bs} (h : isHost s = true) : 1 ≤ s.length ∧ s.length ≤ 64 := by
  simp only [isHost, Bool.and_eq_true, decide_eq_true_eq] at h; exact h.1
theorem pfx_len {s : Bs} (h : isPfx s = true) : 1 ≤ s.length ∧ s.length ≤ 128 := by
  simp only [isPfx, Bool.and_eq_true, decide_eq_true_eq] at h; exact h.1.1
structure Fine (c : Cmd) : Prop where
  a : 1 ≤ c.act ∧ c.act ≤ 4
  cl : 0 ≤ c.client ∧ c.client ≤ 32
  sq : 0 ≤ c.seq ∧ c.seq ≤ 1099511627776
  ex : -1 ≤ c.expect ∧ c.expect < 1099511627776
  h : c.host.length ≤ 64
  p : c.pfx.length ≤ 128
  o : c.pool.length ≤ 64
  t : chkT c.tg = 0
theorem chk_fine {c : Cmd} (h : chk c = 0) : Fine c := by
  obtain ⟨h1, h2, h3⟩ := chk_zero h
  simp only [argBad, Bool.or_eq_false_iff] at h1
  obtain ⟨⟨⟨⟨⟨⟨⟨⟨a1, a2⟩, a3⟩, a4⟩, a5⟩, a6⟩, a7⟩, a8⟩, a9⟩ := h1
  simp only [decide_eq_false_iff_not] at a2 a3 a5 a6
  have ha : 1 ≤ c.act ∧ c.act ≤ 4 := by
    simp [usesPool, usesRoute] at a1
    omega
  have hs : 0 ≤ c.seq ∧ c.seq ≤ 1099511627776 := by
    simp only [seqOk, Bool.not_eq_false'] at a4
    split at a4 <;> simp at a4 <;> omega
  simp only [nameBad, Bool.or_eq_false_iff] at h2
  have hp : c.pool.length ≤ 64 := by
    cases hu : usesPool c.act
    · simp [hu] at a7; simp [a7]
    · simp [hu] at h2; have := name_len h2.1; omega
  have hr : c.host.length ≤ 64 ∧ c.pfx.length ≤ 128 := by
    cases hu : usesRoute c.act
    · simp [hu] at a8; simp [a8.1, a8.2]
    · simp [hu] at h2; have := host_len h2.2.1; have := pfx_len h2.2.2; omega
  exact ⟨ha, by omega, hs, by omega, hr.1, hr.2, hp, h3⟩
end Go.Cm

/-
  Which names, hosts, prefixes, addresses, weights may be: the program's functions and the document's.
-/
namespace Go.Vc
open Go Go.Proofs Go.Proofs.YtcpmfjclkdjfmaaGreat
set_option maxRecDepth 100000

abbrev Sl := Option Addr × Nat × Nat
/-- As many bytes as a row can be made of; as many as a string that came in may have. -/
abbrev big : Nat := 140737488355328
abbrev huge : Nat := 9223372036854775807
def bs (s : Cm.Bs) : ByteArray := ⟨s.toArray⟩
theorem bs_toList (s : Cm.Bs) : (bs s).toList = s := toList_mk s
theorem bs_size (s : Cm.Bs) : (bs s).size = s.length := by simp [bs, ByteArray.size]
theorem bs_get (s : Cm.Bs) (i : Nat) : (bs s)[i]? = s[i]? := by
  show (getElem? (bs s) i) = _
  by_cases h : i < s.length
  · rw [getElem?_pos (bs s) i (by rw [bs_size]; exact h), List.getElem?_eq_getElem h]
    rfl
  · rw [getElem?_neg (bs s) i (by rw [bs_size]; exact h), List.getElem?_eq_none (by omega)]
theorem toList_nil : (ByteArray.mk #[]).toList = [] := toList_mk []
theorem bs_inj {a b : Cm.Bs} (h : bs a = bs b) : a = b := by have := congrArg ByteArray.toList h; rwa [bs_toList, bs_toList] at this
theorem cong {α : Type} {K : α → World → Prop} {w : World} {a b : α} (k : K a w) (h : a = b) : K b w := h ▸ k
theorem congB {R : Ending → World → Prop} {w : World} {a b : Bool} (k : R (.returned (.bool a)) w) (h : a = b) : R (.returned (.bool b)) w := h ▸ k
theorem congI {R : Ending → World → Prop} {w : World} {q : IntKind} {a b : Int} (k : R (.returned (.int q a)) w) (h : a = b) : R (.returned (.int q b)) w := h ▸ k
theorem succ_big {j : Nat} (h : j < big) : IntKind.wrap .i64 ((j : Int) + 1) = ((j + 1 : Nat) : Int) := by rw [wrap_id (by omega) (by unfold big at h; omega)]; omega
theorem succ_huge {j : Nat} (h : j < huge) : IntKind.wrap .i64 ((j : Int) + 1) = ((j + 1 : Nat) : Int) := by rw [wrap_id (by omega) (by unfold huge at h; omega)]; omega

section
variable {E w : World} {L : List Asrt} {R : Ending → World → Prop}

/-! ### one byte, and each one -/
theorem small_spec {c : UInt8} (h : St E L w) (k : ∀ w', St E L w' → R (.returned (.bool (Cm.small c))) w') : Calls Tryz.prog 83 #[.int .u8 ((c.toNat : Nat) : Int)] w R := by
  refine C_conf_small ?_
  unfold T_conf_small
  have q := k w h
  have hq : ∀ b : Bool, Cm.small c = b → R (.returned (.bool b)) w := fun b hb => hb ▸ q
  refine ite_d (fun h1 => ite_d (fun h2 => hq _ ?_) fun h2 => ite_d (fun h3 => ite_d (fun h4 => hq _ ?_) fun h4 => hq _ ?_) fun h3 => hq _ ?_) fun h1 => ite_d (fun h3 => ite_d (fun h4 => hq _ ?_) fun h4 => hq _ ?_) fun h3 => hq _ ?_
  all_goals (rw [Bool.eq_iff_iff]; simp [Cm.small]; omega)
def eachRun {σ : Type} (f : σ → UInt8 → Bool) (nx : σ → UInt8 → σ) : σ → Cm.Bs → Bool × σ
  | x, [] => (true, x)
  | x, c :: r => if f x c then eachRun f nx (nx x c) r else (false, nx x c)
theorem each_spec {σ : Type} {f : σ → UInt8 → Bool} {nx : σ → UInt8 → σ} {LL : σ → List Asrt} {g : FuncId} {gi gc : Array Value} {s : Cm.Bs} {most : Int} {x : σ} (hb : hasBody Tryz.prog g = true)
    (hs : ∀ (x : σ) (c : UInt8) (w : World) (R : Ending → World → Prop), St E (LL x) w → (∀ w', St E (LL (nx x c)) w' → R (.returned (.bool (f x c))) w') → Calls Tryz.prog g ⟨gi.toList ++ ([.int .u8 ((c.toNat : Nat) : Int)] ++ gc.toList)⟩ w R)
    (h : St E (LL x) w) (hl : s.length ≤ huge)
    (k : ∀ w', St E (LL (eachRun f nx x s).2) w' → R (.returned (.bool ((eachRun f nx x s).1 && (decide (0 < s.length) && decide ((s.length : Int) ≤ most))))) w') :
    Calls Tryz.prog 82 #[.string (bs s), .int .i64 most, .func (.func g) gi gc] w R := by
  refine C_conf_each ?_
  unfold T_conf_each T_conf_each_1
  intro X hX
  refine up_to s.length (Q := fun j => ∀ (y : σ) (w : World), St E (LL y) w → (eachRun f nx x s = eachRun f nx y (s.drop j)) → X (j : Int) w) ?_ x w h rfl
  intro j hj ih y w h he
  refine hX _ _ ?_
  unfold T_conf_each_1_body
  rw [bs_size]
  refine ite_d (fun hc => ?_) (fun hc => ?_)
  · have hjl : j < s.length := by omega
    have hd : s.drop j = s[j] :: s.drop (j + 1) := List.drop_eq_getElem_cons hjl
    rw [hd] at he
    refine ⟨by omega, s[j], by rw [bs_get, Int.toNat_natCast, List.getElem?_eq_getElem hjl], hb, hs y s[j] w _ h fun w' h' => ⟨_, rfl, ite_n (fun hf => ?_) (fun hf => ?_)⟩⟩
    · simp only [eachRun, hf, Bool.false_eq_true, if_false] at he
      rw [he] at k
      exact k w' h'
    · simp only [eachRun, hf, if_true] at he
      rw [succ_huge (by omega)]
      exact ih hjl _ _ h' he
  · have hd : s.drop j = [] := List.drop_eq_nil_of_le (by omega)
    rw [hd] at he
    simp only [eachRun] at he
    rw [he] at k
    refine ite_d (fun h0 => ?_) (fun h0 => ?_)
    · refine congB (k w h) ?_
      rw [decide_eq_true (by omega : 0 < s.length)]; simp
    · refine congB (k w h) ?_
      rw [decide_eq_false (by omega : ¬ 0 < s.length)]; simp
theorem eachRun_all {p : UInt8 → Bool} : ∀ s : Cm.Bs, (eachRun (fun (_ : Unit) c => p c) (fun x _ => x) () s).1 = s.all p
  | [] => rfl
  | c :: r => by
    unfold eachRun
    cases h : p c <;> simp [h, eachRun_all r]
theorem each_all {p : UInt8 → Bool} {g : FuncId} {s : Cm.Bs} {most : Int} (hb : hasBody Tryz.prog g = true)
    (hs : ∀ (c : UInt8) (w : World) (R : Ending → World → Prop), St E L w → (∀ w', St E L w' → R (.returned (.bool (p c))) w') → Calls Tryz.prog g #[.int .u8 ((c.toNat : Nat) : Int)] w R)
    (h : St E L w) (hl : s.length ≤ huge) (k : ∀ w', St E L w' → R (.returned (.bool (s.all p && (decide (0 < s.length) && decide ((s.length : Int) ≤ most))))) w') :
    Calls Tryz.prog 82 #[.string (bs s), .int .i64 most, .func (.func g) #[] #[]] w R :=
  each_spec (LL := fun _ => L) (x := ()) hb (fun _ c w R h k => hs c w R h k) h hl fun w' h' => by rw [eachRun_all]; exact k w' h'
theorem prefix1_spec {c : UInt8} (h : St E L w) (k : ∀ w', St E L w' → R (.returned (.bool (Cm.pfxB c))) w') : Calls Tryz.prog 85 #[.int .u8 ((c.toNat : Nat) : Int)] w R := by
  refine C_conf_prefix_c1 ?_
  unfold T_conf_prefix_c1
  have hq : ∀ b : Bool, Cm.pfxB c = b → R (.returned (.bool b)) w := fun b hb => hb ▸ k w h
  refine ite_d (fun h1 => ?_) fun h1 => hq _ ?_
  · refine ite_d (fun h2 => ?_) fun h2 => hq _ ?_
    · refine ite_b (fun h3 => hq _ ?_) fun h3 => hq _ ?_
      · rw [Bool.eq_iff_iff]; simp at h3; simp [Cm.pfxB, Cm.seen]; omega
      · rw [Bool.eq_iff_iff]; simp at h3; simp [Cm.pfxB, Cm.seen]; omega
    · rw [Bool.eq_iff_iff]; simp [Cm.pfxB, Cm.seen]; omega
  · rw [Bool.eq_iff_iff]; simp [Cm.pfxB, Cm.seen]; omega
theorem address1_spec {c : UInt8} (h : St E L w) (k : ∀ w', St E L w' → R (.returned (.bool (Cm.seen c))) w') : Calls Tryz.prog 115 #[.int .u8 ((c.toNat : Nat) : Int)] w R := by
  refine C_conf_address_c1 ?_
  unfold T_conf_address_c1
  have hq : ∀ b : Bool, Cm.seen c = b → R (.returned (.bool b)) w := fun b hb => hb ▸ k w h
  refine ite_d (fun h1 => hq _ ?_) fun h1 => hq _ ?_
  all_goals (rw [Bool.eq_iff_iff]; simp [Cm.seen]; omega)
theorem host1_spec {b : Nat} {p : Bool} {c : UInt8} (h : St E (blkL b 4 [.bool p] :: L) w) (k : ∀ w', St E (blkL b 4 [.bool (decide (c.toNat = 46))] :: L) w' → R (.returned (.bool (Cm.small c || (decide (c.toNat = 46) && !p)))) w') :
    Calls Tryz.prog 84 #[.int .u8 ((c.toNat : Nat) : Int), .pointer (some ⟨b, 0, none⟩)] w R := by
  refine C_conf_host_c1 ?_
  unfold T_conf_host_c1
  refine ⟨p, rd_cell h.at_blk rfl rfl, rfl, wrOk_cell h.at_blk (by simp) rfl, ?_⟩
  intro w4
  have e : (((c.toNat : Nat) : Int) == 46) = decide (c.toNat = 46) := by rw [Bool.eq_iff_iff]; simp; omega
  have h4 : St E (blkL b 4 [.bool (decide (c.toNat = 46))] :: L) w4 := by
    have := h.wr_cell (off := 0) (v := .bool (((c.toNat : Nat) : Int) == 46)) rfl
    rw [← e]; exact this
  refine small_spec h4 fun w' h' => ⟨_, rfl, ite_b (fun h1 => ?_) (fun h1 => ⟨_, rd_cell h'.at_blk rfl rfl, ite_b (fun h2 => ?_) (fun h2 => ?_)⟩)⟩
  · exact congB (k w' h') (by simp [h1])
  · exact congB (k w' h') (by simp [h1, h2])
  · exact congB (k w' h') (by simp [h1, h2])
theorem body_small : hasBody Tryz.prog 83 = true := by kernel_rfl
theorem body_host1 : hasBody Tryz.prog 84 = true := by kernel_rfl
theorem body_prefix1 : hasBody Tryz.prog 85 = true := by kernel_rfl
theorem body_address1 : hasBody Tryz.prog 115 = true := by kernel_rfl

variable {s : Cm.Bs}
theorem len_and {n : Nat} (b : Bool) : (b && (decide (0 < s.length) && decide ((s.length : Int) ≤ ((n : Nat) : Int)))) = (decide (1 ≤ s.length ∧ s.length ≤ n) && b) := by
  rw [Bool.and_comm]; congr 1
  rw [Bool.eq_iff_iff]; simp only [Bool.and_eq_true, decide_eq_true_eq]; omega
theorem poolName_spec (h : St E L w) (hl : s.length ≤ huge) (k : ∀ w', St E L w' → R (.returned (.bool (Cm.isName s))) w') : Calls Tryz.prog 45 #[.string (bs s)] w R := by
  refine C_conf_poolName ?_
  unfold T_conf_poolName
  refine each_all body_small (fun c w R h k => small_spec h k) h hl fun w' h' => ⟨_, rfl, congB (k w' h') ?_⟩
  rw [show (64 : Int) = ((64 : Nat) : Int) from rfl, len_and]; rfl
theorem address_spec (h : St E L w) (hl : s.length ≤ huge) (k : ∀ w', St E L w' → R (.returned (.bool (Cm.isAddr s))) w') : Calls Tryz.prog 86 #[.string (bs s)] w R := by
  refine C_conf_address ?_
  unfold T_conf_address
  refine each_all body_address1 (fun c w R h k => address1_spec h k) h hl fun w' h' => ⟨_, rfl, congB (k w' h') ?_⟩
  rw [show (64 : Int) = ((64 : Nat) : Int) from rfl, len_and]; rfl
theorem prefix_spec (h : St E L w) (hl : s.length ≤ huge) (k : ∀ w', St E L w' → R (.returned (.bool (Cm.isPfx s))) w') : Calls Tryz.prog 47 #[.string (bs s)] w R := by
  refine C_conf_prefix ?_
  unfold T_conf_prefix
  refine each_all body_prefix1 (fun c w R h k => prefix1_spec h k) h hl fun w' h' => ⟨_, rfl, ?_⟩
  rw [show (128 : Int) = ((128 : Nat) : Int) from rfl, len_and]
  refine ite_b (fun h1 => ?_) (fun h1 => ?_)
  · have h2 := h1
    simp only [Bool.and_eq_true, decide_eq_true_eq] at h2
    match s, h2 with
    | [], h2 => simp at h2
    | c :: r, h2 =>
      refine ⟨by omega, c, by rw [bs_get]; rfl, congB (k w' h') ?_⟩
      unfold Cm.isPfx
      rw [h1, Bool.true_and, Bool.eq_iff_iff]
      simp
      constructor
      · rintro rfl; rfl
      · intro hc; apply UInt8.toNat_inj.1; simpa using (by omega : c.toNat = 47)
  · refine congB (k w' h') ?_
    unfold Cm.isPfx
    rw [h1]; rfl
theorem eachRun_host : ∀ (s : Cm.Bs) (p : Bool), ((eachRun (fun (p : Bool) (c : UInt8) => Cm.small c || (decide (c.toNat = 46) && !p)) (fun _ c => decide (c.toNat = 46)) p s).1 && !(eachRun (fun (p : Bool) (c : UInt8) => Cm.small c || (decide (c.toNat = 46) && !p)) (fun _ c => decide (c.toNat = 46)) p s).2) = Cm.hostRun p s
  | [], p => by simp [eachRun, Cm.hostRun]
  | c :: r, p => by
    unfold eachRun Cm.hostRun
    cases h : (Cm.small c || (decide (c.toNat = 46) && !p))
    · simp
    · simpa using eachRun_host r (decide (c.toNat = 46))
theorem host_spec (h : St E L w) (hl : s.length ≤ huge) (k : ∀ w', St E L w' → R (.returned (.bool (Cm.isHost s))) w') : Calls Tryz.prog 46 #[.string (bs s)] w R := by
  refine C_conf_host ?_
  unfold T_conf_host
  intro w2
  have h2 := h.alloc (.cells #[.bool false] 4)
  refine ⟨rfl, wrOk_cell h2.at_blk (by simp) rfl, ?_⟩
  intro w3
  have h3 : St E (blkL w.heap.size 4 [.bool true] :: L) w3 := h2.wr_cell (off := 0) (v := .bool true) rfl
  refine each_spec (LL := fun p => blkL w.heap.size 4 [.bool p] :: L) (x := true) body_host1 (fun p c w R h k => host1_spec h k) h3 hl fun w' h' => ⟨_, rfl, ite_b (fun h1 => ?_) (fun h1 => ?_)⟩
  · refine ⟨_, rd_cell h'.at_blk rfl rfl, congB (k w' h'.drop) ?_⟩
    rw [show (64 : Int) = ((64 : Nat) : Int) from rfl, len_and] at h1
    simp only [Bool.and_eq_true] at h1
    unfold Cm.isHost
    rw [h1.1, Bool.true_and, ← eachRun_host s true, h1.2, Bool.true_and]
  · refine congB (k w' h'.drop) ?_
    rw [show (64 : Int) = ((64 : Nat) : Int) from rfl, len_and] at h1
    unfold Cm.isHost
    rw [← eachRun_host s true, ← Bool.and_assoc, h1]; rfl

/-! ### the document's -/
theorem letters_spec {p : Bool} (h : St E L w) (hl : s.length ≤ huge) (k : ∀ w', St E L w' → R (.returned (.bool (s.all fun c => Cm.small c || (p && decide (c.toNat = 46))))) w') : Calls Tryz.prog 43 #[.string (bs s), .bool p] w R := by
  refine C_ref08_letters ?_
  unfold T_ref08_letters T_ref08_letters_1
  intro X hX
  refine up_to s.length (Q := fun j => (s.all (fun c => Cm.small c || (p && decide (c.toNat = 46))) = (s.drop j).all fun c => Cm.small c || (p && decide (c.toNat = 46))) → X (j : Int) w) ?_ rfl
  intro j hj ih he
  refine hX _ _ ?_
  unfold T_ref08_letters_1_body
  rw [bs_size]
  refine ite_d (fun hc => ?_) (fun hc => ?_)
  · have hjl : j < s.length := by omega
    have hd : s.drop j = s[j] :: s.drop (j + 1) := List.drop_eq_getElem_cons hjl
    rw [hd, List.all_cons] at he
    have next : (Cm.small s[j] || (p && decide (s[j].toNat = 46))) = true → X (IntKind.wrap .i64 ((j : Int) + 1)) w := fun ht => by
      rw [succ_huge (by omega)]
      exact ih hjl (by rw [he, ht, Bool.true_and])
    have stop : (Cm.small s[j] || (p && decide (s[j].toNat = 46))) = false → R (.returned (.bool false)) w := fun ht => congB (k w h) (by rw [he, ht]; rfl)
    refine ⟨by omega, s[j], by rw [bs_get, Int.toNat_natCast, List.getElem?_eq_getElem hjl], ?_⟩
    generalize s[j] = c at *
    have fin : (if p = true then (if (!(((c.toNat : Nat) : Int) == 46)) = true then R (.returned (.bool false)) w else X (IntKind.wrap .i64 ((j : Int) + 1)) w) else R (.returned (.bool false)) w) ∨ Cm.small c = true := by
      cases hs : Cm.small c
      · refine .inl (ite_b (fun hp => ite_n (fun h4 => stop ?_) fun h4 => next ?_) fun hp => stop ?_)
        · simp at h4; simp [hs]; omega
        · simp at h4; simp [hp]; omega
        · simp [hs, hp]
      · exact .inr rfl
    have nx2 : Cm.small c = true → X (IntKind.wrap .i64 ((j : Int) + 1)) w := fun hs => next (by simp [hs])
    have fin2 : ¬ Cm.small c = true → (if p = true then (if (!(((c.toNat : Nat) : Int) == 46)) = true then R (.returned (.bool false)) w else X (IntKind.wrap .i64 ((j : Int) + 1)) w) else R (.returned (.bool false)) w) := fun hs => fin.resolve_right hs
    have e45 : (((c.toNat : Nat) : Int) == 45) = decide (c.toNat = 45) := by rw [Bool.eq_iff_iff]; simp; omega
    refine ite_d (fun h1 => ite_d (fun h2 => nx2 ?_) fun h2 => ite_d (fun h3 => ite_d (fun h4 => nx2 ?_) fun h4 => ?_) fun h3 => ?_) fun h1 => ite_d (fun h3 => ite_d (fun h4 => nx2 ?_) fun h4 => ?_) fun h3 => ?_
    · simp [Cm.small]; omega
    · simp [Cm.small]; omega
    · rw [e45]; exact ite_d (fun h5 => nx2 (by simp [Cm.small]; omega)) fun h5 => fin2 (by simp [Cm.small]; omega)
    · rw [e45]; exact ite_d (fun h5 => nx2 (by simp [Cm.small]; omega)) fun h5 => fin2 (by simp [Cm.small]; omega)
    · simp [Cm.small]; omega
    · rw [e45]; exact ite_d (fun h5 => nx2 (by simp [Cm.small]; omega)) fun h5 => fin2 (by simp [Cm.small]; omega)
    · rw [e45]; exact ite_d (fun h5 => nx2 (by simp [Cm.small]; omega)) fun h5 => fin2 (by simp [Cm.small]; omega)
  · rw [List.drop_eq_nil_of_le (by omega)] at he
    exact congB (k w h) he
theorem seen_spec (h : St E L w) (hl : s.length ≤ huge) (k : ∀ w', St E L w' → R (.returned (.bool (s.all Cm.seen))) w') : Calls Tryz.prog 44 #[.string (bs s)] w R := by
  refine C_ref08_seen ?_
  unfold T_ref08_seen T_ref08_seen_1
  intro X hX
  refine up_to s.length (Q := fun j => (s.all Cm.seen = (s.drop j).all Cm.seen) → X (j : Int) w) ?_ rfl
  intro j hj ih he
  refine hX _ _ ?_
  unfold T_ref08_seen_1_body
  rw [bs_size]
  refine ite_d (fun hc => ?_) (fun hc => ?_)
  · have hjl : j < s.length := by omega
    have hd : s.drop j = s[j] :: s.drop (j + 1) := List.drop_eq_getElem_cons hjl
    rw [hd, List.all_cons] at he
    have hg : (bs s)[(j : Int).toNat]? = some s[j] := by rw [bs_get, Int.toNat_natCast, List.getElem?_eq_getElem hjl]
    refine ⟨by omega, _, hg, ite_d (fun h1 => congB (k w h) ?_) fun h1 => ⟨by omega, _, hg, ite_d (fun h2 => congB (k w h) ?_) fun h2 => ?_⟩⟩
    · rw [he]; simp [Cm.seen]; omega
    · rw [he]; simp [Cm.seen]; omega
    · rw [succ_huge (by omega)]
      exact ih hjl (by rw [he]; simp [Cm.seen]; omega)
  · rw [List.drop_eq_nil_of_le (by omega)] at he
    exact congB (k w h) he
theorem PoolName_spec (h : St E L w) (hl : s.length ≤ huge) (k : ∀ w', St E L w' → R (.returned (.bool (Cm.isName s))) w') : Calls Tryz.prog 97 #[.string (bs s)] w R := by
  refine C_ref08_PoolName ?_
  unfold T_ref08_PoolName
  rw [bs_size]
  refine ite_d (fun h1 => ite_d (fun h2 => letters_spec h hl fun w' h' => ⟨_, rfl, congB (k w' h') ?_⟩) fun h2 => congB (k w h) ?_) fun h1 => congB (k w h) ?_
  · simp [Cm.isName]; omega
  · simp [Cm.isName]; omega
  · simp [Cm.isName]; omega
theorem Addr_spec (h : St E L w) (hl : s.length ≤ huge) (k : ∀ w', St E L w' → R (.returned (.bool (Cm.isAddr s))) w') : Calls Tryz.prog 126 #[.string (bs s)] w R := by
  refine C_ref08_Addr ?_
  unfold T_ref08_Addr
  rw [bs_size]
  refine ite_d (fun h1 => ite_d (fun h2 => seen_spec h hl fun w' h' => ⟨_, rfl, congB (k w' h') ?_⟩) fun h2 => congB (k w h) ?_) fun h1 => congB (k w h) ?_
  · simp [Cm.isAddr]; omega
  · simp [Cm.isAddr]; omega
  · simp [Cm.isAddr]; omega
theorem all_pfx : ∀ s : Cm.Bs, s.all Cm.pfxB = ((s.all fun c => !decide (c.toNat = 63) && !decide (c.toNat = 35)) && s.all Cm.seen)
  | [] => rfl
  | c :: r => by
    simp only [List.all_cons, all_pfx r, Cm.pfxB]
    cases Cm.seen c <;> cases decide (c.toNat = 63) <;> cases decide (c.toNat = 35) <;> simp
theorem Prefix_spec (h : St E L w) (hl : s.length ≤ huge) (k : ∀ w', St E L w' → R (.returned (.bool (Cm.isPfx s))) w') : Calls Tryz.prog 22 #[.string (bs s)] w R := by
  refine C_ref08_Prefix ?_
  unfold T_ref08_Prefix T_ref08_Prefix_1
  intro X hX
  refine up_to s.length (Q := fun j => ((s.all fun c => !decide (c.toNat = 63) && !decide (c.toNat = 35)) = (s.drop j).all fun c => !decide (c.toNat = 63) && !decide (c.toNat = 35)) → X (j : Int) w) ?_ rfl
  intro j hj ih he
  refine hX _ _ ?_
  unfold T_ref08_Prefix_1_body
  rw [bs_size]
  refine ite_d (fun hc => ?_) (fun hc => ?_)
  · have hjl : j < s.length := by omega
    have hd : s.drop j = s[j] :: s.drop (j + 1) := List.drop_eq_getElem_cons hjl
    rw [hd, List.all_cons] at he
    have hg : (bs s)[(j : Int).toNat]? = some s[j] := by rw [bs_get, Int.toNat_natCast, List.getElem?_eq_getElem hjl]
    have stop : (!decide (s[j].toNat = 63) && !decide (s[j].toNat = 35)) = false → R (.returned (.bool false)) w := fun ht => congB (k w h) (by unfold Cm.isPfx; rw [all_pfx, he, ht]; simp)
    refine ⟨by omega, _, hg, ite_b (fun h1 => stop ?_) fun h1 => ⟨by omega, _, hg, ite_b (fun h2 => stop ?_) fun h2 => ?_⟩⟩
    · simp at h1; simp; omega
    · simp at h2; simp; omega
    · rw [succ_huge (by omega)]
      refine ih hjl (by
        rw [he]
        have e1 : decide (s[j].toNat = 63) = false := by simp at h1; simp; omega
        have e2 : decide (s[j].toNat = 35) = false := by simp at h2; simp; omega
        rw [e1, e2]; rfl)
  · rw [List.drop_eq_nil_of_le (by omega), List.all_nil] at he
    refine ite_d (fun h1 => ite_d (fun h2 => ?_) fun h2 => congB (k w h) ?_) fun h1 => congB (k w h) ?_
    · match s, h1 with
      | [], h1 => simp at h1
      | c :: r, h1 =>
        have e47 : (((c.toNat : Nat) : Int) == 47) = decide ((c :: r).head? = some 47) := by
          rw [Bool.eq_iff_iff]
          simp
          constructor
          · intro hc; apply UInt8.toNat_inj.1; simpa using (by omega : c.toNat = 47)
          · rintro rfl; rfl
        refine ⟨by omega, c, by rw [bs_get]; rfl, ite_b (fun h3 => seen_spec h hl fun w' h' => ⟨_, rfl, congB (k w' h') ?_⟩) fun h3 => congB (k w h) ?_⟩
        · rw [e47] at h3
          unfold Cm.isPfx
          rw [all_pfx, he, h3, decide_eq_true ⟨by omega, by omega⟩]; simp
        · rw [e47] at h3
          unfold Cm.isPfx
          rw [h3]; simp
    · unfold Cm.isPfx; rw [decide_eq_false (by omega)]; simp
    · unfold Cm.isPfx; rw [decide_eq_false (by omega)]; simp
/-- No two points one behind the other. -/
def noTwo : Cm.Bs → Bool
  | c :: d :: r => !(decide (c.toNat = 46) && decide (d.toNat = 46)) && noTwo (d :: r)
  | _ => true
theorem small_46 {x : UInt8} (hx : x.toNat = 46) : Cm.small x = false := by simp [Cm.small, hx]
/-- What the document asks of points. -/
theorem hostRun_iff : ∀ (s : Cm.Bs) (p : Bool), Cm.hostRun p s = ((s.all fun c => Cm.small c || (true && decide (c.toNat = 46))) && ((if s = [] then !p else !(p && decide (s.head?.map (·.toNat) = some 46)) && !decide (s.getLast?.map (·.toNat) = some 46)) && noTwo s))
  | [], p => by simp [Cm.hostRun, noTwo]
  | [c], p => by
    unfold Cm.hostRun
    by_cases hc : c.toNat = 46
    · cases p <;> simp [Cm.hostRun, hc, noTwo]
    · cases p <;> simp [Cm.hostRun, hc, noTwo]
  | c :: d :: r, p => by
    have ih := hostRun_iff (d :: r) (decide (c.toNat = 46))
    unfold Cm.hostRun
    rw [ih]
    simp only [noTwo, List.all_cons, List.getLast?_cons_cons, List.head?_cons, Option.map_some, Option.some.injEq, if_neg (List.cons_ne_nil _ _), Bool.true_and]
    generalize noTwo (d :: r) = q1
    generalize decide ((List.getLast? (d :: r)).map (·.toNat) = some 46) = q2
    generalize (r.all fun c => Cm.small c || decide (c.toNat = 46)) = q3
    by_cases hc : c.toNat = 46 <;> by_cases hd : d.toNat = 46
    · simp only [hc, hd, small_46 hc, small_46 hd, decide_true]
      cases p <;> cases q1 <;> cases q2 <;> cases q3 <;> rfl
    · simp only [hc, hd, small_46 hc, decide_true, decide_false]
      cases p <;> cases q1 <;> cases q2 <;> cases q3 <;> cases Cm.small d <;> rfl
    · simp only [hc, hd, small_46 hd, decide_true, decide_false]
      cases p <;> cases q1 <;> cases q2 <;> cases q3 <;> cases Cm.small c <;> rfl
    · simp only [hc, hd, decide_false]
      cases p <;> cases q1 <;> cases q2 <;> cases q3 <;> cases Cm.small c <;> cases Cm.small d <;> rfl
theorem noTwo_drop {s : Cm.Bs} {i : Nat} (h : i + 1 < s.length) : noTwo (s.drop i) = (!(decide (s[i].toNat = 46) && decide (s[i + 1].toNat = 46)) && noTwo (s.drop (i + 1))) := by
  rw [List.drop_eq_getElem_cons (by omega : i < s.length), List.drop_eq_getElem_cons h]
  rfl
theorem byte_eq (c : UInt8) (n : Nat) : (((c.toNat : Nat) : Int) == ((n : Nat) : Int)) = decide (c.toNat = n) := by
  rw [Bool.eq_iff_iff]; simp; omega
theorem Host_spec (h : St E L w) (hl : s.length ≤ huge) (k : ∀ w', St E L w' → R (.returned (.bool (Cm.isHost s))) w') : Calls Tryz.prog 21 #[.string (bs s)] w R := by
  refine C_ref08_Host ?_
  unfold T_ref08_Host T_ref08_Host_1
  rw [bs_size]
  have stop : ∀ w', St E L w' → Cm.isHost s = false → R (.returned (.bool false)) w' := fun w' h' e => congB (k w' h') e
  refine ite_d (fun h1 => ite_b (fun _ => stop w h ?_) (fun hh => by cases hh)) fun h1 => ite_d (fun h2 => ite_b (fun _ => stop w h ?_) (fun hh => by cases hh)) fun h2 => letters_spec h hl fun w' h' => ⟨_, rfl, ?_⟩
  · unfold Cm.isHost; rw [decide_eq_false (by omega)]; rfl
  · unfold Cm.isHost; rw [decide_eq_false (by omega)]; rfl
  · have hs : s ≠ [] := by rintro rfl; simp at h1
    have h0 : 0 < s.length := by omega
    have hh : Cm.isHost s = ((s.all fun c => Cm.small c || (true && decide (c.toNat = 46))) && ((!(true && decide (s.head?.map (·.toNat) = some 46)) && !decide (s.getLast?.map (·.toNat) = some 46)) && noTwo s)) := by
      unfold Cm.isHost
      rw [decide_eq_true ⟨by omega, by omega⟩, hostRun_iff, if_neg hs, Bool.true_and]
    refine ite_n (fun h3 => ite_b (fun _ => stop w' h' ?_) (fun hh => by cases hh)) fun h3 => ⟨by omega, s[0], by rw [bs_get]; exact List.getElem?_eq_getElem h0, ?_⟩
    · rw [hh, h3]; rfl
    · rw [h3, Bool.true_and] at hh
      rw [List.head?_eq_getElem?, List.getElem?_eq_getElem h0] at hh
      rw [show (46 : Int) = ((46 : Nat) : Int) from rfl, byte_eq]
      refine ite_d (fun h4 => ite_b (fun _ => stop w' h' ?_) (fun hh => by cases hh)) fun h4 => ?_
      · rw [hh]; simp [h4]
      · rw [List.getLast?_eq_getElem?, List.getElem?_eq_getElem (by omega : s.length - 1 < s.length)] at hh
        have hw : IntKind.wrap .i64 (((s.length : Nat) : Int) - 1) = ((s.length - 1 : Nat) : Int) := by rw [wrap_id (by omega) (by unfold huge at hl; omega)]; omega
        rw [hw]
        refine ⟨by omega, s[s.length - 1], by rw [bs_get, Int.toNat_natCast, List.getElem?_eq_getElem], ?_⟩
        rw [byte_eq]
        refine ite_d (fun h5 => stop w' h' ?_) fun h5 => ?_
        · rw [hh]; simp [h5]
        · have hh2 : Cm.isHost s = noTwo s := by rw [hh]; simp [h4, h5]
          unfold T_ref08_Host_2
          intro X hX
          have hd0 : s.drop 0 = s := List.drop_zero
          refine up_to (s.length - 1) (Q := fun j => noTwo s = noTwo (s.drop j) → X ((j + 1 : Nat) : Int) w') ?_ (by rw [hd0])
          intro j hj ih he
          refine hX _ _ ?_
          unfold T_ref08_Host_2_body
          rw [bs_size]
          refine ite_d (fun hc => ?_) (fun hc => ?_)
          · have hjl : j + 1 < s.length := by omega
            rw [noTwo_drop hjl] at he
            have hn : IntKind.wrap .i64 (((j + 1 : Nat) : Int) + 1) = ((j + 1 + 1 : Nat) : Int) := succ_huge (by omega)
            have next : (!(decide (s[j].toNat = 46) && decide (s[j + 1].toNat = 46))) = true → X (IntKind.wrap .i64 (((j + 1 : Nat) : Int) + 1)) w' := fun ht => by
              rw [hn]; exact ih (by omega) (by rw [he, ht, Bool.true_and])
            refine ⟨by omega, s[j + 1], by rw [bs_get, Int.toNat_natCast, List.getElem?_eq_getElem hjl], ?_⟩
            rw [show (46 : Int) = ((46 : Nat) : Int) from rfl, byte_eq]
            refine ite_d (fun h6 => ?_) fun h6 => next (by simp [h6])
            have hp : IntKind.wrap .i64 (((j + 1 : Nat) : Int) - 1) = (j : Int) := by rw [wrap_id (by omega) (by unfold huge at hl; omega)]; omega
            rw [hp]
            refine ⟨by omega, s[j], by rw [bs_get, Int.toNat_natCast, List.getElem?_eq_getElem (by omega)], ?_⟩
            rw [byte_eq]
            refine ite_d (fun h7 => stop w' h' ?_) fun h7 => next (by simp [h7])
            rw [hh2, he]; simp [h6, h7]
          · have hj2 : j = s.length - 1 := by omega
            have : s.drop j = [s[j]'(by omega)] := by
              rw [List.drop_eq_getElem_cons (by omega : j < s.length), List.drop_eq_nil_of_le (by omega)]
            rw [this] at he
            exact congB (k w' h') (by rw [hh2, he]; rfl)
end
end Go.Vc

/-
  The library's sort at a slice of ours: what its contract's world is in words of separation; one sorted list.
-/
namespace Go.Vc
open Go Go.Proofs Go.RowKit Go.Sort Go.Shelf
section
variable {E w w' : World} {L : List Asrt} {a : Option Addr} {l c sz n : Nat} {e : TypeId} {xs : List Value}
theorem below_env {B : Nat} (h : Below B w w') : SameEnv w w' := ⟨h.os, h.tape, h.output⟩
/-- A row that is new. -/
theorem St.of_row {v : Value} (h : St E L w) (hb : Below w.heap.size w w') (hr : w'.ownsRow w.heap.size e sz v n xs) : ∃ a c, v = .slice a n c ∧ St E (ownS a n c e sz xs :: L) w' := by
  obtain ⟨h1, h2⟩ := hr
  rcases h2 with ⟨rfl, rfl⟩ | ⟨g, cap, cur, rfl, hg, hc, h3, h4, h5, h6⟩
  · have : xs = [] := List.eq_nil_of_length_eq_zero (by simpa using h1)
    subst this
    exact ⟨none, 0, rfl, (h.same (below_env hb) hb.block).ownS_nil⟩
  · refine ⟨_, _, rfl, St.ownS_mk (rest := cur.toList.drop (n * sz)) ?_ h1 h3 h4 ?_⟩
    · have := h.add_new (o := .cells cur e (0, 0)) (below_env hb) hg hc hb.block
      refine this.mono fun x hx => ?_
      show x g = some (true, .cells ⟨xs ++ cur.toList.drop (n * sz)⟩ e (0, 0))
      rw [← h6, List.take_append_drop]; exact hx
    · rw [List.length_drop, Array.length_toList, h5, Nat.sub_mul]
theorem put_cells {α : Type} [Inhabited α] (enc : α → Value) (ts : List α) (xs rest : List Value) (h : xs.length = ts.length) : putCells enc 0 ts.toArray ⟨xs ++ rest⟩ = ⟨ts.map enc ++ rest⟩ := by
  apply Array.ext'
  apply List.ext_getElem?
  intro j
  simp only [putCells, Array.toList_mapIdx, List.getElem?_mapIdx]
  by_cases hj : j < ts.length
  · have h1 : j < (ts.map enc).length := by simpa using hj
    have h2 : j < xs.length := by omega
    rw [List.getElem?_append_left (l₁ := xs) h2, List.getElem?_append_left (l₁ := ts.map enc) h1, List.getElem?_map]
    simp [hj, h2]
  · have h1 : (ts.map enc).length ≤ j := by simpa using hj
    have h2 : xs.length ≤ j := by omega
    rw [List.getElem?_append_right (l₁ := xs) h2, List.getElem?_append_right (l₁ := ts.map enc) h1]
    simp [hj, h]
/-- Behind the sort the slice holds the sorted row. -/
theorem St.sorted_row {α : Type} [Inhabited α] {enc : α → Value} {ts : List α} {g m : Nat} {os : Array Obj} {rest : List Value} (h : St E (blkL g e (xs ++ rest) :: L) w) (hx : xs.length = ts.length) :
    St E (blkL g e (ts.map enc ++ rest) :: L) (grow (putRow enc (Sort.ahead w m) g 0 ts.toArray) os) := by
  have hg : w.heap[g]? = some (.cells ⟨xs ++ rest⟩ e (0, 0)) := h.at_blk
  have hlt : g < w.heap.size := (Array.getElem?_eq_some_iff.1 hg).1
  refine St.upd (o := .cells ⟨xs ++ rest⟩ e (0, 0)) h ⟨rfl, rfl, rfl⟩ ?_ ?_
  · rw [heap_grow_old _ _ (by simpa using hlt)]
    simp [putRow, mapBlock, Sort.ahead, Array.getElem?_modify, hg, onCells, put_cells _ _ _ _ hx]
  · intro k hk hlt2
    rw [heap_grow_old _ _ (by simpa using hlt2)]
    simp [putRow, mapBlock, Sort.ahead, Array.getElem?_modify, Ne.symm hk]
theorem holds_row {α : Type} [Inhabited α] {enc : α → Value} {ss : List α} {g : Nat} {rest : List Value} (h : w.heap[g]? = some (.cells ⟨ss.map enc ++ rest⟩ e (0, 0))) : Holds enc w g 0 ss.toArray := by
  intro j hj
  have hj' : j < ss.length := by simpa using hj
  refine ⟨?_, by simp [World.frozen?, h]⟩
  have h1 : (ss.map enc ++ rest)[j]? = some (enc ss[j]) := by rw [List.getElem?_append_left (by simpa using hj')]; simp [hj']
  simp only [World.cell?, h, Nat.zero_add]
  simp only [Option.isSome_none, Bool.false_eq_true, if_false]
  rw [← Array.getElem?_toList, h1]
  simp [hj']
theorem flatK_eq {α : Type} [Inhabited α] (enc : α → List Value) (k : Nat) (hk : ∀ x, (enc x).length = k) (h0 : 0 < k) (ts : List α) : flatK enc k ts.toArray = (ts.flatMap enc).toArray := by
  apply Array.ext'
  apply List.ext_getElem?
  intro t
  by_cases ht : t < ts.length * k
  · have hq : t / k < ts.length := (Nat.div_lt_iff_lt_mul h0).2 ht
    have hr : t % k < k := Nat.mod_lt _ h0
    have e1 := flat_get (f := enc) hk ts (t / k) (t % k) ts[t / k] (by simp [hq]) hr
    rw [Nat.mul_comm, Nat.div_add_mod] at e1
    rw [show (ts.flatMap enc).toArray.toList = ts.flatMap enc from rfl, e1]
    simp [flatK, ht, hq]
    have : t % k < (enc ts[t / k]).length := by rw [hk]; exact hr
    simp [this]
  · rw [List.getElem?_eq_none (by simp [flatK]; omega), List.getElem?_eq_none (by simp only [flat_len hk]; omega)]
theorem sort_uniq {α : Type} {le : α → α → Bool} (tr : ∀ a b c, le a b = true → le b c = true → le a c = true) (to : ∀ a b, (le a b || le b a) = true) (an : ∀ a b, le a b = true → le b a = true → a = b)
    {ss ks : List α} (hp : ks.Perm ss) (hk : ks.Pairwise fun a b => le a b = true) : ss.mergeSort le = ks :=
  List.Perm.eq_of_pairwise (le := fun a b => le a b = true) (fun a b _ _ h1 h2 => an a b h1 h2) (List.pairwise_mergeSort tr to ss) hk ((List.mergeSort_perm ss le).trans hp.symm)
theorem uniq_str {ss ks : List (List UInt8)} (hp : ks.Perm ss) (hk : ks.Pairwise (· < ·)) : (ss.mergeSort fun x y => decide (x ≤ y)) = ks :=
  sort_uniq (le := fun x y => decide (x ≤ y)) (fun a b c h1 h2 => decide_eq_true (List.le_trans (of_decide_eq_true h1) (of_decide_eq_true h2))) (fun a b => by have := List.le_total a b; simpa using this)
    (fun a b h1 h2 => List.le_antisymm (of_decide_eq_true h1) (of_decide_eq_true h2)) hp (hk.imp fun {a b} h => decide_eq_true (List.le_of_lt h))
theorem uniq_int {ss ks : List Int} (hp : ks.Perm ss) (hk : ks.Pairwise (· < ·)) : (ss.mergeSort fun x y => decide (x ≤ y)) = ks :=
  sort_uniq (le := fun x y => decide (x ≤ y)) (fun a b c h1 h2 => decide_eq_true (Int.le_trans (of_decide_eq_true h1) (of_decide_eq_true h2))) (fun a b => by have := Int.le_total a b; simpa using this)
    (fun a b h1 h2 => Int.le_antisymm (of_decide_eq_true h1) (of_decide_eq_true h2)) hp (hk.imp fun {a b} h => decide_eq_true (Int.le_of_lt h))
abbrev Pr := List UInt8 × List UInt8
def prLt (a b : Pr) : Bool := decide (a.1 < b.1) || (decide (a.1 = b.1) && decide (a.2 < b.2))
/-- Of two texts: which one is ahead? -/
def cmpS (a b : List UInt8) : Int := if a < b then -1 else if b < a then 1 else 0
def cmpP (a b : Pr) : Int := if cmpS a.1 b.1 ≠ 0 then cmpS a.1 b.1 else cmpS a.2 b.2
theorem cmpS_lt (a b : List UInt8) : cmpS a b < 0 ↔ a < b := by
  unfold cmpS
  split
  · simp [*]
  · split <;> simp [*]
theorem cmpS_zero (a b : List UInt8) : cmpS a b = 0 ↔ a = b := by
  unfold cmpS
  constructor
  · intro h
    split at h
    · cases h
    · split at h
      · cases h
      · rename_i h1 h2
        exact List.le_antisymm (List.not_lt.1 h2) (List.not_lt.1 h1)
  · rintro rfl
    simp [List.lt_irrefl]
theorem cmpP_lt (a b : Pr) : ltOf cmpP a b = prLt a b := by
  simp only [ltOf, prLt]
  rw [Bool.eq_iff_iff]
  simp only [decide_eq_true_eq, Bool.or_eq_true, Bool.and_eq_true]
  unfold cmpP
  by_cases h : cmpS a.1 b.1 = 0
  · rw [if_neg (by simpa using h)]
    have e := (cmpS_zero _ _).1 h
    rw [cmpS_lt]
    constructor
    · exact fun hl => .inr ⟨e, hl⟩
    · rintro (hl | ⟨_, hl⟩)
      · rw [e] at hl; exact absurd hl (List.lt_irrefl _)
      · exact hl
  · rw [if_pos (by simpa using h), cmpS_lt]
    constructor
    · exact .inl
    · rintro (hl | ⟨e, _⟩)
      · exact hl
      · exact absurd ((cmpS_zero _ _).2 e) h
theorem prLt_iff (a b : Pr) : prLt a b = true ↔ a.1 < b.1 ∨ a.1 = b.1 ∧ a.2 < b.2 := by simp [prLt]
theorem str_tri (a b : List UInt8) : a < b ∨ a = b ∨ b < a := by
  rcases Decidable.em (a < b) with h | h
  · exact .inl h
  · rcases Decidable.em (b < a) with h2 | h2
    · exact .inr (.inr h2)
    · exact .inr (.inl (List.le_antisymm (List.not_lt.1 h2) (List.not_lt.1 h)))
theorem prLt_irrefl (a : Pr) : prLt a a = false := by
  cases h : prLt a a with
  | false => rfl
  | true => rcases (prLt_iff a a).1 h with h | h
            · exact absurd h (List.lt_irrefl _)
            · exact absurd h.2 (List.lt_irrefl _)
theorem prLt_trans {a b c : Pr} (h : prLt a b = true) (k : prLt b c = true) : prLt a c = true := by
  rw [prLt_iff] at *
  rcases h with h | ⟨h, h'⟩ <;> rcases k with k | ⟨k, k'⟩
  · exact .inl (List.lt_trans h k)
  · exact .inl (k ▸ h)
  · exact .inl (h ▸ k)
  · exact .inr ⟨h.trans k, List.lt_trans h' k'⟩
theorem prLt_tri {a b : Pr} (h : prLt a b = false) (k : prLt b a = false) : a = b := by
  have h1 : ¬ (a.1 < b.1 ∨ a.1 = b.1 ∧ a.2 < b.2) := fun e => by rw [(prLt_iff a b).2 e] at h; cases h
  have k1 : ¬ (b.1 < a.1 ∨ b.1 = a.1 ∧ b.2 < a.2) := fun e => by rw [(prLt_iff b a).2 e] at k; cases k
  rcases str_tri a.1 b.1 with e | e | e
  · exact absurd (.inl e) h1
  · rcases str_tri a.2 b.2 with f | f | f
    · exact absurd (.inr ⟨e, f⟩) h1
    · exact Prod.ext e f
    · exact absurd (.inr ⟨e.symm, f⟩) k1
  · exact absurd (.inl e) k1
theorem swoP : SWO (ltOf cmpP) where
  irrefl x := by rw [cmpP_lt]; exact prLt_irrefl x
  trans x y z h k := by rw [cmpP_lt] at *; exact prLt_trans h k
  ntrans x y z h k := by
    rw [cmpP_lt] at *
    cases hz : prLt x z with
    | false => rfl
    | true =>
      cases hyx : prLt y x with
      | true => rw [prLt_trans hyx hz] at k; cases k
      | false =>
        have := prLt_tri h hyx
        subst this
        rw [k] at hz; cases hz
theorem totP (x y : Pr) (h : ltOf cmpP x y = false) (k : ltOf cmpP y x = false) : x = y := by rw [cmpP_lt] at *; exact prLt_tri h k
theorem uniq_pr {ss ks : List Pr} (hp : ks.Perm ss) (hk : ks.Pairwise fun a b => prLt a b = true) : (ss.mergeSort fun x y => !(ltOf cmpP) y x) = ks :=
  sort_uniq (fun a b c h1 h2 => by
      simp only [Bool.not_eq_true', cmpP_lt] at *
      cases hc : prLt c a with
      | false => rfl
      | true =>
        have := swoP.ntrans c b a (by rw [cmpP_lt]; exact h2) (by rw [cmpP_lt]; exact h1)
        rw [cmpP_lt, hc] at this; cases this)
    (fun a b => by
      simp only [cmpP_lt]
      cases h : prLt b a with
      | false => rfl
      | true => cases k : prLt a b with
        | false => rfl
        | true => have := prLt_trans h k; rw [prLt_irrefl] at this; cases this)
    (fun a b h1 h2 => totP a b (by simpa using h2) (by simpa using h1)) hp
    (hk.imp fun {a b} h => by
      simp only [cmpP_lt, Bool.not_eq_true']
      cases k : prLt b a with
      | false => rfl
      | true => have := prLt_trans h k; rw [prLt_irrefl] at this; cases this)
end
end Go.Vc

/-
  The keys of a map in their order: maps.Keys, slices.Sorted, slices.SortedFunc at the three kinds of keys.
-/
namespace Go.Vc
open Go Go.Proofs Go.Proofs.YtcpmfjclkdjfmaaGreat Go.RowKit Go.Sort Go.Shelf
set_option maxRecDepth 100000

section
variable {E w : World} {L : List Asrt} {R : Ending → World → Prop} {ν : Type} {vv : ν → Value} {b : Nat}
theorem keysFn_S : ∀ args w, (callFunc 75 args).run Tryz.prog w = .ok (.enter 75 args) w := enters_of Tryz.func75 (by kernel_rfl) rfl
theorem keysFn_I : ∀ args w, (callFunc 93 args).run Tryz.prog w = .ok (.enter 93 args) w := enters_of Tryz.func93 (by kernel_rfl) rfl
theorem keysFn_P : ∀ args w, (callFunc 113 args).run Tryz.prog w = .ok (.enter 113 args) w := enters_of Tryz.func113 (by kernel_rfl) rfl

/-! ### what is collected -/
theorem CollectS_spec {m : List (List UInt8 × ν)} {B : Nat} (h : St E (blkL B 75 [.map (some b)] :: mapA b encS vv m :: L) w) (hN : m.length ≤ 1000)
    (k : ∀ a l c w' (ss : List (List UInt8)), ss.Perm (m.map (·.1)) → l = ss.length → St E (ownS a l c 9 1 (ss.flatMap celS) :: blkL B 75 [.map (some b)] :: mapA b encS vv m :: L) w' → R (.returned (.slice a l c)) w') :
    Calls Tryz.prog 73 #[.func (.func 75) #[] #[.pointer (some ⟨B, 0, none⟩)]] w R := by
  have hB := h.at_blk
  have hlt := (Array.getElem?_eq_some_iff.1 hB).1
  refine C_slices_Collect_string ?_
  unfold T_slices_Collect_string
  refine ((callsIn_wide (n := 2)).1 (appendSeqS_in Fence.wide 2 trivial rfl (by decide) _ #[.pointer (some ⟨B, 0, none⟩)] trivial keysFn_S (fun ss => ss.Perm (m.map (·.1))) m.length (by simp only [maxLen]; omega) (by omega) w
    (givesS Fence.wide 1 trivial rfl (by decide) B b m w hlt (by rw [cell_of hB]; rfl) h.f1.mapW))).mono ?_
  rintro e w' ⟨v, ss, rfl, hS, hr, hb⟩
  obtain ⟨a, c, rfl, h2⟩ := h.of_row hb hr
  exact ⟨a, _, c, rfl, k _ _ _ _ ss hS rfl h2⟩
theorem CollectI_spec {m : List (Int × ν)} {B : Nat} (h : St E (blkL B 77 [.map (some b)] :: mapA b encI vv m :: L) w) (hN : m.length ≤ 1000)
    (k : ∀ a l c w' (ss : List Int), ss.Perm (m.map (·.1)) → l = ss.length → St E (ownS a l c 3 1 (ss.flatMap celI) :: blkL B 77 [.map (some b)] :: mapA b encI vv m :: L) w' → R (.returned (.slice a l c)) w') :
    Calls Tryz.prog 91 #[.func (.func 93) #[] #[.pointer (some ⟨B, 0, none⟩)]] w R := by
  have hB := h.at_blk
  have hlt := (Array.getElem?_eq_some_iff.1 hB).1
  refine C_slices_Collect_int ?_
  unfold T_slices_Collect_int
  refine ((callsIn_wide (n := 2)).1 (appendSeqI_in Fence.wide 2 trivial rfl (by decide) _ #[.pointer (some ⟨B, 0, none⟩)] trivial keysFn_I (fun ss => ss.Perm (m.map (·.1))) m.length (by simp only [maxLen]; omega) (by omega) w
    (givesI Fence.wide 1 trivial rfl (by decide) B b m w hlt (by rw [cell_of hB]; rfl) h.f1.mapW))).mono ?_
  rintro e w' ⟨v, ss, rfl, hS, hr, hb⟩
  obtain ⟨a, c, rfl, h2⟩ := h.of_row hb hr
  exact ⟨a, _, c, rfl, k _ _ _ _ ss hS rfl h2⟩
theorem CollectP_spec {m : List (Pr × ν)} {B : Nat} (h : St E (blkL B 76 [.map (some b)] :: mapA b encP vv m :: L) w) (hN : m.length ≤ 1000)
    (k : ∀ a l c w' (ss : List Pr), ss.Perm (m.map (·.1)) → l = ss.length → St E (ownS a l c 89 2 (ss.flatMap celP) :: blkL B 76 [.map (some b)] :: mapA b encP vv m :: L) w' → R (.returned (.slice a l c)) w') :
    Calls Tryz.prog 111 #[.func (.func 113) #[] #[.pointer (some ⟨B, 0, none⟩)]] w R := by
  have hB := h.at_blk
  have hlt := (Array.getElem?_eq_some_iff.1 hB).1
  refine C_slices_Collect_conf_place ?_
  unfold T_slices_Collect_conf_place
  refine ((callsIn_wide (n := 2)).1 (appendSeqP_in Fence.wide 2 trivial rfl (by decide) _ #[.pointer (some ⟨B, 0, none⟩)] trivial keysFn_P (fun ss => ss.Perm (m.map (·.1))) m.length (by simp only [maxLen]; omega) (by omega) w
    (givesP Fence.wide 1 trivial rfl (by decide) B b m w hlt (by rw [cell_of hB]; rfl) h.f1.mapW))).mono ?_
  rintro e w' ⟨v, ss, rfl, hS, hr, hb⟩
  obtain ⟨a, c, rfl, h2⟩ := h.of_row hb hr
  exact ⟨a, _, c, rfl, k _ _ _ _ ss hS rfl h2⟩

/-! ### sorted -/
theorem flat_celS (ss : List (List UInt8)) : ss.flatMap celS = ss.map encStr := by induction ss with
  | nil => rfl
  | cons a r ih => rw [List.flatMap_cons, ih]; rfl
theorem flat_celI (ss : List Int) : ss.flatMap celI = ss.map (Value.int .i64) := by induction ss with
  | nil => rfl
  | cons a r ih => rw [List.flatMap_cons, ih]; rfl
theorem SortS_spec {a : Option Addr} {c : Nat} {ss ks : List (List UInt8)} (h : St E (ownS a ss.length c 9 1 (ss.flatMap celS) :: L) w) (hN : ss.length ≤ 1000) (hp : ks.Perm ss) (hk : ks.Pairwise (· < ·))
    (k : ∀ w', St E (ownS a ks.length c 9 1 (ks.flatMap celS) :: L) w' → R (.returned (.tuple #[])) w') : Calls Tryz.prog 74 #[.slice a ss.length c] w R := by
  have hl := hp.length_eq
  obtain ⟨_, hlc, hcm⟩ := h.ownS_facts
  rcases h.ownS_open with ⟨rfl, h0, rfl, hx⟩ | ⟨g, rest, rfl, hr, h2⟩
  · have hs : ss = [] := List.eq_nil_of_length_eq_zero h0
    subst hs
    have hk0 : ks = [] := List.eq_nil_of_length_eq_zero hl
    subst hk0
    refine (AnyM.slices_Sort_string_none Tryz.sortS none 0 w).mono ?_
    rintro e w' ⟨rfl, rfl⟩
    exact k _ h
  · rw [flat_celS] at h2
    refine (AnyM.slices_Sort_string Tryz.sortS g 0 c ss w (holds_row (enc := encStr) h2.at_blk) (Array.getElem?_eq_some_iff.1 h2.at_blk).1 (by omega)).mono ?_
    rintro e w' ⟨rfl, n, os, rfl⟩
    rw [uniq_str hp hk]
    refine k _ (St.ownS_mk (rest := rest) ?_ (by rw [flat_celS]; simp) (by omega) hcm (by omega))
    rw [flat_celS]
    exact h2.sorted_row (by simp [hl])
theorem SortI_spec {a : Option Addr} {c : Nat} {ss ks : List Int} (h : St E (ownS a ss.length c 3 1 (ss.flatMap celI) :: L) w) (hN : ss.length ≤ 1000) (hp : ks.Perm ss) (hk : ks.Pairwise (· < ·))
    (k : ∀ w', St E (ownS a ks.length c 3 1 (ks.flatMap celI) :: L) w' → R (.returned (.tuple #[])) w') : Calls Tryz.prog 92 #[.slice a ss.length c] w R := by
  have hl := hp.length_eq
  obtain ⟨_, hlc, hcm⟩ := h.ownS_facts
  rcases h.ownS_open with ⟨rfl, h0, rfl, hx⟩ | ⟨g, rest, rfl, hr, h2⟩
  · have hs : ss = [] := List.eq_nil_of_length_eq_zero h0
    subst hs
    have hk0 : ks = [] := List.eq_nil_of_length_eq_zero hl
    subst hk0
    refine (AnyM.slices_Sort_int_none Tryz.sortI none 0 w).mono ?_
    rintro e w' ⟨rfl, rfl⟩
    exact k _ h
  · rw [flat_celI] at h2
    refine (AnyM.slices_Sort_int Tryz.sortI g 0 c ss w (holds_row (enc := Value.int .i64) h2.at_blk) (Array.getElem?_eq_some_iff.1 h2.at_blk).1 (by omega)).mono ?_
    rintro e w' ⟨rfl, n, os, rfl⟩
    rw [uniq_int hp hk]
    refine k _ (St.ownS_mk (rest := rest) ?_ (by rw [flat_celI]; simp) (by omega) hcm (by omega))
    rw [flat_celI]
    exact h2.sorted_row (by simp [hl])

/-! ### the order of places -/
theorem isNaN_spec {s : ByteArray} (k : R (.returned (.bool false)) w) : Calls Tryz.prog 114 #[.string s] w R := by
  refine C_cmp_isNaN_string ?_
  unfold T_cmp_isNaN_string
  simpa using k
theorem Compare_spec {x y : List UInt8} (k : R (.returned (.int .i64 (cmpS x y))) w) : Calls Tryz.prog 80 #[encStr x, encStr y] w R := by
  refine C_cmp_Compare_string ?_
  unfold T_cmp_Compare_string
  refine isNaN_spec ⟨_, rfl, isNaN_spec ⟨_, rfl, ?_⟩⟩
  refine ite_b (fun h => by cases h) fun _ => ite_b (fun h => by cases h) fun _ => ?_
  unfold cmpS at k
  simp only [bytesLess_eq]
  by_cases h1 : x < y
  · rw [if_pos h1] at k
    rw [if_pos (by simpa using h1)]; exact k
  · rw [if_neg h1] at k
    rw [if_neg (by simpa using h1)]
    by_cases h2 : y < x
    · rw [if_pos h2] at k
      have : x ≠ y := fun e => by rw [e] at h2; exact absurd h2 (List.lt_irrefl _)
      rw [if_pos (by simp [h1, this])]; exact k
    · rw [if_neg h2] at k
      have : x = y := List.le_antisymm (List.not_lt.1 h2) (List.not_lt.1 h1)
      rw [if_neg (by simp [this])]; exact k
theorem Or_spec {a : Addr} {x y : Int} (hx : rd w a (.int .i64 x)) (hy : rd w (a.add 1) (.int .i64 y)) (ha : a.add 0 = a) (k : R (.returned (.int .i64 (if x ≠ 0 then x else y))) w) : Calls Tryz.prog 79 #[.slice (some a) 2 2] w R := by
  refine C_cmp_Or_int ?_
  unfold T_cmp_Or_int T_cmp_Or_int_1
  intro X hX
  refine hX _ _ ?_
  unfold T_cmp_Or_int_1_body
  refine ite_d (fun _ => ⟨by decide, by decide, a, rfl, x, by simpa [ha] using hx, ?_⟩) fun h => absurd h (by decide)
  by_cases h0 : x = 0
  · subst h0
    simp only [ne_eq, not_true_eq_false, if_false] at k
    refine ite_b (fun h => by simp at h) fun _ => hX _ _ ?_
    unfold T_cmp_Or_int_1_body
    refine ite_d (fun _ => ⟨by decide, by decide, a, rfl, y, hy, ?_⟩) fun h => absurd h (by decide)
    refine ite_b (fun _ => k) fun hy0 => hX _ _ ?_
    have : y = 0 := by simpa using hy0
    subst this
    unfold T_cmp_Or_int_1_body
    exact ite_d (fun h => absurd h (by decide)) fun _ => k
  · simp only [ne_eq, h0, not_false_eq_true, if_true] at k
    refine ite_b (fun _ => k) fun h => by simp at h; exact absurd h h0

theorem grow_three (W : World) (o1 o2 o3 : Obj) : (((W.alloc o1).alloc o2).drew).alloc o3 = grow (W.drewN 1) #[o1, o2, o3] := by
  rw [alloc_eq_grow, alloc_eq_grow, alloc_eq_grow]
  show grow (grow (grow W.drew #[o1]) #[o2]) #[o3] = grow W.drew #[o1, o2, o3]
  rw [grow_grow, grow_grow]
  rfl
theorem cmpLays (blk off size : Nat) (w : World) : CmpLays Tryz.prog 78 #[] celP 2 cmpP blk off size w := by
  intro m os dk _ x y
  generalize sortWorldK celP 2 w blk off m dk os = W
  have e : (#[.agg (celP x).toArray, .agg (celP y).toArray] ++ #[] : Array Value) = #[.agg #[.string ⟨x.1.toArray⟩, .string ⟨x.2.toArray⟩], .agg #[.string ⟨y.1.toArray⟩, .string ⟨y.2.toArray⟩]] := by simp [celP]
  rw [e]
  refine C_conf_Store_sorted_c1 ?_
  unfold T_conf_Store_sorted_c1
  intro w5 w6 w7
  have h5 := (St.start_kn W).alloc (.cells #[.string ⟨x.1.toArray⟩, .string ⟨x.2.toArray⟩] 89)
  have h6 := h5.alloc (.cells #[.string ⟨y.1.toArray⟩, .string ⟨y.2.toArray⟩] 89)
  have h7 : St W _ w7 := h6.drew
  refine ⟨_, rd_cell h7.f1.at_blk rfl rfl, _, rd_cell h7.at_blk rfl rfl, _, rd_fld h7.f1.at_blk rfl rfl, _, rd_fld h7.at_blk rfl rfl, Compare_spec ⟨_, rfl, ⟨rd_fld h7.at_blk rfl rfl, rd_fld h7.f1.at_blk rfl rfl, trivial⟩, Compare_spec ⟨_, rfl, trivial, ?_⟩⟩⟩
  intro w18
  have h8 := h7.alloc (.cells #[.int .i64 (cmpS x.1 y.1), .int .i64 (cmpS x.2 y.2)] 3)
  refine ⟨trivial, Or_spec (rd_cell h8.at_blk rfl rfl) (rd_fld h8.at_blk rfl rfl) rfl ⟨_, rfl, trivial, rfl, 1, _, grow_three W _ _ _⟩⟩
theorem SortP_spec {a : Option Addr} {c : Nat} {ss ks : List Pr} (h : St E (ownS a ss.length c 89 2 (ss.flatMap celP) :: L) w) (hN : ss.length ≤ 1000) (hp : ks.Perm ss) (hk : ks.Pairwise fun a b => prLt a b = true)
    (k : ∀ w', St E (ownS a ks.length c 89 2 (ks.flatMap celP) :: L) w' → R (.returned (.tuple #[])) w') : Calls Tryz.prog 112 #[.slice a ss.length c, .func (.func 78) #[] #[]] w R := by
  have hl := hp.length_eq
  obtain ⟨_, hlc, hcm⟩ := h.ownS_facts
  rcases h.ownS_open with ⟨rfl, h0, rfl, hx⟩ | ⟨g, rest, rfl, hr, h2⟩
  · have hs : ss = [] := List.eq_nil_of_length_eq_zero h0
    subst hs
    have hk0 : ks = [] := List.eq_nil_of_length_eq_zero hl
    subst hk0
    refine (AnyF.slices_SortFunc_none Tryz.sortP none 0 _ w).mono ?_
    rintro e w' ⟨rfl, rfl⟩
    exact k _ h
  · have hfl : flatK celP 2 ss.toArray = (ss.flatMap celP).toArray := flatK_eq celP 2 (fun _ => rfl) (by decide) ss
    have hH : HoldsK celP 2 w g 0 ss.toArray := by
      unfold HoldsK
      rw [hfl]
      refine holds_row (enc := id) (rest := rest) (e := 89) ?_
      rw [List.map_id]
      exact h2.at_blk
    refine (AnyQ.slices_SortFunc_total Tryz.sortP 2 (run_isAgg (P := Tryz.prog) (t := 89) rfl) (fun w => by kernel_rfl) celP (fun _ => rfl) (fun x v hv => by simp [celP] at hv; rcases hv with rfl | rfl <;> rfl) cmpP swoP 78 #[] g 0 c ss.toArray w
      (enters_of Tryz.func78 (by kernel_rfl) rfl) (cmpLays g 0 _ w) hH (Array.getElem?_eq_some_iff.1 h2.at_blk).1 (by simp; omega) totP).mono ?_
    rintro e w' ⟨rfl, n, os, rfl⟩
    rw [uniq_pr hp hk]
    unfold sortWorldK putRowK
    rw [flatK_eq celP 2 (fun _ => rfl) (by decide) ks]
    refine k _ (St.ownS_mk (rest := rest) ?_ (flat_len (f := celP) (fun _ => rfl) ks) (by omega) hcm (by rw [hl]; exact hr))
    have := h2.sorted_row (enc := id) (ts := ks.flatMap celP) (m := n) (os := os) (by rw [flat_len (sz := 2) (fun _ => rfl), flat_len (sz := 2) (fun _ => rfl), hl])
    rwa [List.map_id] at this

/-! ### the keys in their order, in new memory -/
theorem SortedS_spec {m : List (List UInt8 × ν)} {B : Nat} {ks : List (List UInt8)} (h : St E (blkL B 75 [.map (some b)] :: mapA b encS vv m :: L) w) (hN : m.length ≤ 1000) (hp : ks.Perm (m.map (·.1))) (hk : ks.Pairwise (· < ·))
    (k : ∀ a c w', St E (ownS a ks.length c 9 1 (ks.flatMap celS) :: mapA b encS vv m :: L) w' → R (.returned (.slice a ks.length c)) w') :
    Calls Tryz.prog 37 #[.func (.func 75) #[] #[.pointer (some ⟨B, 0, none⟩)]] w R := by
  refine C_slices_Sorted_string ?_
  unfold T_slices_Sorted_string
  refine CollectS_spec h hN fun a l c w' ss hss hl h2 => ⟨_, _, _, rfl, ?_⟩
  subst hl
  have hlen : ss.length ≤ 1000 := by have := hss.length_eq; simp at this; omega
  refine SortS_spec h2 hlen (hp.trans hss.symm) hk fun w'' h3 => ⟨rfl, ?_⟩
  have e : ss.length = ks.length := (hp.trans hss.symm).length_eq.symm
  rw [e]
  exact k _ _ _ h3.f1.drop
theorem SortedI_spec {m : List (Int × ν)} {B : Nat} {ks : List Int} (h : St E (blkL B 77 [.map (some b)] :: mapA b encI vv m :: L) w) (hN : m.length ≤ 1000) (hp : ks.Perm (m.map (·.1))) (hk : ks.Pairwise (· < ·))
    (k : ∀ a c w', St E (ownS a ks.length c 3 1 (ks.flatMap celI) :: mapA b encI vv m :: L) w' → R (.returned (.slice a ks.length c)) w') :
    Calls Tryz.prog 51 #[.func (.func 93) #[] #[.pointer (some ⟨B, 0, none⟩)]] w R := by
  refine C_slices_Sorted_int ?_
  unfold T_slices_Sorted_int
  refine CollectI_spec h hN fun a l c w' ss hss hl h2 => ⟨_, _, _, rfl, ?_⟩
  subst hl
  have hlen : ss.length ≤ 1000 := by have := hss.length_eq; simp at this; omega
  refine SortI_spec h2 hlen (hp.trans hss.symm) hk fun w'' h3 => ⟨rfl, ?_⟩
  have e : ss.length = ks.length := (hp.trans hss.symm).length_eq.symm
  rw [e]
  exact k _ _ _ h3.f1.drop
theorem SortedP_spec {m : List (Pr × ν)} {B : Nat} {ks : List Pr} (h : St E (blkL B 76 [.map (some b)] :: mapA b encP vv m :: L) w) (hN : m.length ≤ 1000) (hp : ks.Perm (m.map (·.1))) (hk : ks.Pairwise fun a b => prLt a b = true)
    (k : ∀ a c w', St E (ownS a ks.length c 89 2 (ks.flatMap celP) :: mapA b encP vv m :: L) w' → R (.returned (.slice a ks.length c)) w') :
    Calls Tryz.prog 76 #[.func (.func 113) #[] #[.pointer (some ⟨B, 0, none⟩)], .func (.func 78) #[] #[]] w R := by
  refine C_slices_SortedFunc_conf_place ?_
  unfold T_slices_SortedFunc_conf_place
  refine CollectP_spec h hN fun a l c w' ss hss hl h2 => ⟨_, _, _, rfl, ?_⟩
  subst hl
  have hlen : ss.length ≤ 1000 := by have := hss.length_eq; simp at this; omega
  refine SortP_spec h2 hlen (hp.trans hss.symm) hk fun w'' h3 => ⟨rfl, ?_⟩
  have e : ss.length = ks.length := (hp.trans hss.symm).length_eq.symm
  rw [e]
  exact k _ _ _ h3.f1.drop
theorem KeysS_spec (h : St E L w) (k : ∀ B w', St E (blkL B 75 [.map (some b)] :: L) w' → R (.returned (.func (.func 75) #[] #[.pointer (some ⟨B, 0, none⟩)])) w') :
    Calls Tryz.prog 38 #[.map (some b)] w R := by
  refine C_maps_Keys_map_string_api_Target_string_api_Target ?_
  unfold T_maps_Keys_map_string_api_Target_string_api_Target
  exact k _ _ (h.alloc _)
theorem KeysI_spec (h : St E L w) (k : ∀ B w', St E (blkL B 77 [.map (some b)] :: L) w' → R (.returned (.func (.func 93) #[] #[.pointer (some ⟨B, 0, none⟩)])) w') :
    Calls Tryz.prog 52 #[.map (some b)] w R := by
  refine C_maps_Keys_conf_seen ?_
  unfold T_maps_Keys_conf_seen
  exact k _ _ (h.alloc _)
theorem KeysP_spec (h : St E L w) (k : ∀ B w', St E (blkL B 76 [.map (some b)] :: L) w' → R (.returned (.func (.func 113) #[] #[.pointer (some ⟨B, 0, none⟩)])) w') :
    Calls Tryz.prog 77 #[.map (some b)] w R := by
  refine C_maps_Keys_string ?_
  unfold T_maps_Keys_string
  exact k _ _ (h.alloc _)
/-- (*Store).sorted: the places of the routes, in their order. -/
theorem sorted_spec {ver : Int} {mp mc : Nat} {m : List (Pr × ν)} {p : Nat} {ks : List Pr} (h : St E (blkL p 79 [.int .i64 ver, .map (some mp), .map (some b), .map (some mc)] :: mapA b encP vv m :: L) w) (hN : m.length ≤ 1000) (hp : ks.Perm (m.map (·.1))) (hk : ks.Pairwise fun a b => prLt a b = true)
    (k : ∀ a c w', St E (ownS a ks.length c 89 2 (ks.flatMap celP) :: blkL p 79 [.int .i64 ver, .map (some mp), .map (some b), .map (some mc)] :: mapA b encP vv m :: L) w' → R (.returned (.slice a ks.length c)) w') :
    Calls Tryz.prog 40 #[.pointer (some ⟨p, 0, none⟩)] w R := by
  refine C_conf_Store_sorted ?_
  unfold T_conf_Store_sorted
  refine ⟨_, rfl, _, rd_fld h.at_blk rfl rfl, KeysP_spec h fun B w' h2 => ⟨_, rfl, rfl, SortedP_spec (h2.sel 3 [0, 2, 1] : St E (blkL B 76 [.map (some b)] :: mapA b encP vv m :: blkL p 79 [.int .i64 ver, .map (some mp), .map (some b), .map (some mc)] :: L) w') hN hp hk fun a c w'' h3 => ⟨_, _, _, rfl, k _ _ _ (St.sel (L := _ :: _ :: _ :: L) h3 3 [0, 2, 1])⟩⟩⟩
end
end Go.Vc

/-
  Weights, targets, commands: which may be; the program's functions and the document's.
-/
namespace Go.Vc
open Go Go.Proofs Go.Proofs.YtcpmfjclkdjfmaaGreat
set_option maxRecDepth 100000

section
variable {E w : World} {L : List Asrt} {R : Ending → World → Prop}

/-! ### floats -/
theorem run_fgeq (t : TypeId) (x y : Operand) (a b : Nat) : (do eqGuard .geq t x y (.float .f64 a) (.float .f64 b); binOp .geq t (.float .f64 a) (.float .f64 b) : Sem Value).run Tryz.prog w =
    .ok (.bool (Ieee.double.order a b == some .gt || Ieee.double.order a b == some .eq)) w := by
  simp [eqGuard, binOp, Op.floatCmp, FloatKind.format]
theorem run_fgtr (t : TypeId) (x y : Operand) (a b : Nat) : (do eqGuard .gtr t x y (.float .f64 a) (.float .f64 b); binOp .gtr t (.float .f64 a) (.float .f64 b) : Sem Value).run Tryz.prog w =
    .ok (.bool (Ieee.double.order a b == some .gt)) w := by
  simp [eqGuard, binOp, Op.floatCmp, FloatKind.format]
theorem run_fbits {b : Nat} : (callFunc 81 #[.float .f64 b]).run Tryz.prog w = .ok (.value (.int .u64 (b : Int))) w := by
  rw [run_callFunc_extern Tryz.func81 (e := Extern.MathFloatBits.float64bits) (by kernel_rfl) (by kernel_rfl) (by kernel_rfl) (by kernel_rfl)]
  rfl
theorem run_ffrom {n : Int} : (callFunc 106 #[.int .u64 n]).run Tryz.prog w = .ok (.value (.float .f64 n.toNat)) w := by
  rw [run_callFunc_extern Tryz.func106 (e := Extern.MathFloatBits.float64frombits) (by kernel_rfl) (by kernel_rfl) (by kernel_rfl) (by kernel_rfl)]
  rfl
theorem read_num (b : Nat) (h : b < 9218868437227405312) : ∃ (m j : Nat), Ieee.double.read b = .number false m (-1074 + (j : Int)) ∧ m ≤ 9007199254740991 ∧ j ≤ 2045 := by
  unfold Ieee.Format.read
  have e1 : Ieee.double.signWeight = 9223372036854775808 := by decide
  have e2 : Ieee.double.binade = 4503599627370496 := by decide
  have e3 : Ieee.double.infRung = 9218868437227405312 := by decide
  have e4 : Ieee.double.leastPlace = -1074 := by decide
  have e5 : (b / 9223372036854775808 % 2 == 1) = false := by simp; omega
  simp only [e1, e2, e3, e4, e5]
  rw [Nat.mod_eq_of_lt (by omega : b < 9223372036854775808)]
  split
  · exact ⟨b, 0, rfl, by omega, by omega⟩
  · exact ⟨_, b / 4503599627370496 - 1, rfl, by omega, by omega⟩
theorem read_zero : Ieee.double.read 0 = .number false 0 (-1074) := by decide
theorem read_max : Ieee.double.read 9218868437227405311 = .number false 9007199254740991 (-1074 + 2045) := by decide
theorem read_nan {b : Nat} (h1 : 9218868437227405312 < b) (h2 : b < 9223372036854775808) : ∃ n, Ieee.double.read b = .nan false n := by
  unfold Ieee.Format.read
  have e1 : Ieee.double.signWeight = 9223372036854775808 := by decide
  have e2 : Ieee.double.binade = 4503599627370496 := by decide
  have e3 : Ieee.double.infRung = 9218868437227405312 := by decide
  have e5 : (b / 9223372036854775808 % 2 == 1) = false := by simp; omega
  simp only [e1, e2, e3, e5]
  rw [Nat.mod_eq_of_lt h2, if_neg (by omega), if_neg (by omega), if_neg (by omega)]
  exact ⟨_, rfl⟩
theorem cmp_ge {a b : Int} (h : b ≤ a) : (some (compare a b) == some Ordering.gt || some (compare a b) == some Ordering.eq) = true := by
  rcases Int.lt_trichotomy a b with h1 | h1 | h1
  · omega
  · subst h1; simp
  · rw [Int.compare_eq_gt.2 h1]; rfl
theorem cmp_le {a b : Int} (h : a ≤ b) : (some (compare a b) == some Ordering.gt) = false ∧ (some (compare a b) == some Ordering.lt || some (compare a b) == some Ordering.eq) = true := by
  rcases Int.lt_trichotomy a b with h1 | h1 | h1
  · rw [Int.compare_eq_lt.2 h1]; exact ⟨rfl, rfl⟩
  · subst h1; simp
  · omega
theorem num_ge0 {b : Nat} (h : b < 9218868437227405312) : (Ieee.double.order b 0 == some .gt || Ieee.double.order b 0 == some .eq) = true := by
  obtain ⟨m, j, hr, _, _⟩ := read_num b h
  unfold Ieee.Format.order
  rw [hr, read_zero]
  unfold Ieee.Datum.order
  refine cmp_ge ?_
  simp only [Ieee.signed, Bool.false_eq_true, if_false, Nat.zero_shiftLeft]
  exact Int.natCast_nonneg _
theorem num_lemax {b : Nat} (h : b < 9218868437227405312) : (Ieee.double.order b 9218868437227405311 == some .gt) = false ∧ (Ieee.double.order b 9218868437227405311 == some .lt || Ieee.double.order b 9218868437227405311 == some .eq) = true := by
  obtain ⟨m, j, hr, hm, hj⟩ := read_num b h
  unfold Ieee.Format.order
  rw [hr, read_max]
  unfold Ieee.Datum.order
  refine cmp_le ?_
  have e : min (-1074 + (j : Int)) (-1074 + 2045) = -1074 + (j : Int) := by omega
  simp only [e, Ieee.signed, Bool.false_eq_true, if_false, Int.sub_self, Int.toNat_zero, Nat.shiftLeft_zero]
  rw [Nat.shiftLeft_eq]
  have : m * 1 ≤ 9007199254740991 * 2 ^ (-1074 + 2045 - (-1074 + (j : Int))).toNat := Nat.mul_le_mul hm (Nat.one_le_two_pow)
  rw [Nat.mul_one] at this
  exact_mod_cast this
theorem inf_cmp : (Ieee.double.order 9218868437227405312 0 == some .gt) = true ∧ (Ieee.double.order 9218868437227405312 9218868437227405311 == some .gt) = true ∧ (Ieee.double.order 9218868437227405312 9218868437227405311 == some .lt || Ieee.double.order 9218868437227405312 9218868437227405311 == some .eq) = false := by decide
theorem nan_cmp {b c : Nat} (h1 : 9218868437227405312 < b) (h2 : b < 9223372036854775808) : Ieee.double.order b c = none := by
  obtain ⟨n, hn⟩ := read_nan h1 h2
  unfold Ieee.Format.order
  rw [hn]
  cases Ieee.double.read c <;> rfl
theorem wrap_bits {b : Nat} (h : b < 18446744073709551616) : (decide (IntKind.wrap .i64 (b : Int) < 0)) = decide (9223372036854775808 ≤ b) := by
  rw [Bool.eq_iff_iff]
  simp only [decide_eq_true_eq]
  unfold IntKind.wrap
  simp [IntKind.signed, IntKind.bits]
  omega
abbrev two64 : Nat := 18446744073709551616
theorem signbit_spec {b : Nat} (hb : b < two64) (k : R (.returned (.bool (decide (9223372036854775808 ≤ b)))) w) : Calls Tryz.prog 117 #[.float .f64 b] w R := by
  refine C_math_Signbit ?_
  unfold T_math_Signbit
  refine runV_ok run_fbits ⟨_, rfl, ?_⟩
  rw [wrap_bits hb]; exact k
theorem weight_spec {b : Nat} (hb : b < two64) (k : R (.returned (.bool (Cm.isW b))) w) : Calls Tryz.prog 87 #[.float .f64 b] w R := by
  refine C_conf_weight ?_
  unfold T_conf_weight
  have no : Cm.isW b = false → R (.returned (.bool false)) w := fun e => e ▸ k
  refine runV_ok (run_fgeq _ _ _ _ _) ⟨_, rfl, ite_b (fun h1 => ?_) (fun h1 => no ?_)⟩
  · refine C_math_IsInf ?_
    unfold T_math_IsInf
    rw [if_neg (by decide), if_neg (by decide)]
    refine runV_ok (run_fgtr _ _ _ _ _) ⟨_, rfl, _, rfl, ite_n (fun h2 => signbit_spec hb ⟨_, rfl, congB k ?_⟩) (fun h2 => no ?_)⟩
    · unfold Cm.isW
      rw [Bool.eq_iff_iff]
      simp only [Bool.not_eq_true', decide_eq_true_eq, decide_eq_false_iff_not]
      constructor
      · intro h; omega
      · intro h
        rcases Nat.lt_trichotomy b 9218868437227405312 with h3 | h3 | h3
        · exact h3
        · subst h3; rw [inf_cmp.2.1] at h2; cases h2
        · rw [nan_cmp h3 (by omega)] at h1; cases h1
    · unfold Cm.isW
      rw [decide_eq_false_iff_not]
      intro h3
      rw [(num_lemax h3).1] at h2; cases h2
  · unfold Cm.isW
    rw [decide_eq_false_iff_not]
    intro h3
    rw [num_ge0 h3] at h1; cases h1
theorem Weight_spec {b : Nat} (k : R (.returned (.bool (Cm.isW b))) w) : Calls Tryz.prog 125 #[.float .f64 b] w R := by
  refine C_ref08_Weight ?_
  unfold T_ref08_Weight
  refine runV_ok run_fbits ⟨_, rfl, congB k ?_⟩
  unfold Cm.isW
  rw [Bool.eq_iff_iff]; simp only [decide_eq_true_eq]; omega

/-! ### targets -/
def tV (t : Cm.Tgt) : List Value := [.string (bs t.addr), .float .f64 t.w]
theorem tV_len (t : Cm.Tgt) : (tV t).length = 2 := rfl
theorem tV_one (ts : List Cm.Tgt) : ∀ u ∈ ts.flatMap tV, one u = true := by
  intro u hu
  obtain ⟨t, _, ht⟩ := List.mem_flatMap.1 hu
  simp only [tV, List.mem_cons, List.not_mem_nil, or_false] at ht
  rcases ht with rfl | rfl <;> rfl
/-- What may come in: texts and lists of sizes that there are. -/
def okT (t : Cm.Tgt) : Prop := t.addr.length ≤ huge ∧ t.w < two64
def okTs (l : List Cm.Tgt) : Prop := l.length ≤ huge ∧ ∀ t ∈ l, okT t
variable {F : Fz} {s : Sl} {l : List Cm.Tgt}
theorem tgs_len (hm : kn F ∈ L) (h : St E L w) (hr : RdF F s.1 s.2.1 2 (l.flatMap tV)) : l.length = s.2.1 := hr.count tV_len (by decide) h hm
theorem all_step {α : Type} {p : α → Bool} {l : List α} {j : Nat} (hj : j < l.length) : (l.drop j).all p = (p l[j] && (l.drop (j + 1)).all p) := by
  rw [List.drop_eq_getElem_cons hj, List.all_cons]
theorem targets_spec (hm : kn F ∈ L) (h : St E L w) (hr : RdF F s.1 s.2.1 2 (l.flatMap tV)) (hl : okTs l) (k : ∀ w', St E L w' → R (.returned (.int .i64 (Cm.chkT l))) w') :
    Calls Tryz.prog 48 #[.slice s.1 s.2.1 s.2.2] w R := by
  have hn := tgs_len hm h hr
  refine C_conf_targets ?_
  unfold T_conf_targets T_conf_targets_1
  intro X hX
  refine up_to l.length (Q := fun j => ∀ w, St E L w → (l.all (fun t => Cm.isAddr t.addr) = (l.drop j).all fun t => Cm.isAddr t.addr) → X (j : Int) w) ?_ w h rfl
  intro j hj ih w h he
  refine hX _ _ ?_
  unfold T_conf_targets_1_body
  rw [← hn]
  refine ite_d (fun hc => ?_) (fun hc => ?_)
  · have hjl : j < l.length := by omega
    rw [all_step hjl] at he
    obtain ⟨ad, ha, hrd, _⟩ := (hr.at h hm).elem tV_len (List.getElem?_eq_getElem hjl) (by decide)
    refine ⟨by omega, by omega, ad, ha, _, _, by rw [Int.toNat_natCast]; exact hrd, ?_⟩
    intro w8
    have h8 := h.alloc (.cells #[.string (ByteArray.mk #[]), .float .f64 0] 64)
    refine ⟨rfl, wrOk_agg h8.at_blk (xs := tV l[j]) (by simp [tV]) (by intro u hu; simp [tV] at hu; rcases hu with rfl | rfl <;> rfl), ?_⟩
    intro w9
    have h9 : St E (blkL w.heap.size 64 (tV l[j]) :: L) w9 := h8.wr_agg0 (xs := tV l[j]) rfl
    refine ⟨_, rd_cell h9.at_blk (l := tV l[j]) rfl rfl, address_spec h9.drop (hl.2 _ (List.getElem_mem hjl)).1 fun w' h' => ⟨_, rfl, ite_n (fun h1 => ?_) (fun h1 => ?_)⟩⟩
    · refine congI (k w' h') ?_
      unfold Cm.chkT; rw [he, h1]; rfl
    · rw [h1, Bool.true_and] at he
      rw [succ_huge (by have := hl.1; omega)]
      exact ih hjl _ h' he
  · rw [List.drop_eq_nil_of_le (by omega), List.all_nil] at he
    unfold T_conf_targets_2
    intro Y hY
    refine up_to l.length (Q := fun j => ∀ w, St E L w → (l.all (fun t => Cm.isW t.w) = (l.drop j).all fun t => Cm.isW t.w) → Y (j : Int) w) ?_ w h rfl
    intro j hj ih w h hw
    refine hY _ _ ?_
    unfold T_conf_targets_2_body
    refine ite_d (fun hc => ?_) (fun hc => ?_)
    · have hjl : j < l.length := by omega
      rw [all_step hjl] at hw
      obtain ⟨ad, ha, hrd, _⟩ := (hr.at h hm).elem tV_len (List.getElem?_eq_getElem hjl) (by decide)
      refine ⟨by omega, by omega, ad, ha, _, _, by rw [Int.toNat_natCast]; exact hrd, ?_⟩
      intro w8
      have h8 := h.alloc (.cells #[.string (ByteArray.mk #[]), .float .f64 0] 64)
      refine ⟨rfl, wrOk_agg h8.at_blk (xs := tV l[j]) (by simp [tV]) (by intro u hu; simp [tV] at hu; rcases hu with rfl | rfl <;> rfl), ?_⟩
      intro w9
      have h9 : St E (blkL w.heap.size 64 (tV l[j]) :: L) w9 := h8.wr_agg0 (xs := tV l[j]) rfl
      refine ⟨_, rd_fld h9.at_blk (l := tV l[j]) rfl rfl, weight_spec (hl.2 _ (List.getElem_mem hjl)).2 ⟨_, rfl, ite_n (fun h1 => ?_) (fun h1 => ?_)⟩⟩
      · refine congI (k w9 h9.drop) ?_
        unfold Cm.chkT; rw [he, hw, h1]; rfl
      · rw [h1, Bool.true_and] at hw
        rw [succ_huge (by have := hl.1; omega)]
        exact ih hjl _ h9.drop hw
    · rw [List.drop_eq_nil_of_le (by omega), List.all_nil] at hw
      refine ite_d (fun h1 => congI (k w h) ?_) (fun h1 => congI (k w h) ?_)
      · unfold Cm.chkT; rw [he, hw, if_neg (by simp), if_neg (by simp), if_pos (by omega)]
      · unfold Cm.chkT; rw [he, hw, if_neg (by simp), if_neg (by simp), if_neg (by omega)]
theorem rightTargets_spec (hm : kn F ∈ L) (h : St E L w) (hr : RdF F s.1 s.2.1 2 (l.flatMap tV)) (hl : okTs l) (k : ∀ w', St E L w' → R (.returned (.int .i64 (Cm.chkT l))) w') :
    Calls Tryz.prog 98 #[.slice s.1 s.2.1 s.2.2] w R := by
  have hn := tgs_len hm h hr
  refine C_ref08_rightTargets ?_
  unfold T_ref08_rightTargets T_ref08_rightTargets_1
  have main : ∀ e0 : Int, e0 = (if 16 < l.length then 6 else 0) → T_ref08_rightTargets_2 e0 0 s.1 s.2.1 s.2.2 w (fun e21 w22 => T_ref08_rightTargets_3 e21 0 s.1 s.2.1 s.2.2 w22 (fun e35 w36 => R (.returned (.int .i64 e35)) w36) (pan R)) (pan R) := fun e0 he0 => by
    unfold T_ref08_rightTargets_2
    intro X hX
    refine up_to l.length (Q := fun j => ∀ w (e : Int), St E L w → (if l.all (fun t => Cm.isW t.w) then e0 else 15) = (if (l.drop j).all (fun t => Cm.isW t.w) then e else 15) → X e (j : Int) w) ?_ w e0 h rfl
    intro j hj ih w e h he
    refine hX _ _ _ ?_
    unfold T_ref08_rightTargets_2_body
    rw [← hn]
    refine ite_d (fun hc => ?_) (fun hc => ?_)
    · have hjl : j < l.length := by omega
      rw [all_step hjl] at he
      obtain ⟨ad, ha, _, hrd⟩ := (hr.at h hm).elem tV_len (List.getElem?_eq_getElem hjl) (by decide)
      refine ⟨by omega, by omega, ad, ha, _, by rw [Int.toNat_natCast]; exact hrd 1 _ rfl rfl, Weight_spec ⟨_, rfl, ite_n (fun h1 => ?_) (fun h1 => ?_)⟩⟩
      · rw [succ_huge (by have := hl.1; omega)]
        exact ih hjl _ 15 h (by rw [he, h1]; simp)
      · rw [succ_huge (by have := hl.1; omega)]
        exact ih hjl _ e h (by rw [he, h1, Bool.true_and])
    · rw [List.drop_eq_nil_of_le (by omega), List.all_nil, if_pos rfl] at he
      unfold T_ref08_rightTargets_3
      intro Y hY
      have hfin : ∀ q : Int, q = (if l.all (fun t => Cm.isAddr t.addr) then e else 14) → q = Cm.chkT l := fun q hq => by
        rw [hq, ← he, he0]
        unfold Cm.chkT
        cases l.all (fun t => Cm.isAddr t.addr) <;> cases l.all (fun t => Cm.isW t.w) <;> simp
      refine up_to l.length (Q := fun j => ∀ w (q : Int), St E L w → (if l.all (fun t => Cm.isAddr t.addr) then e else 14) = (if (l.drop j).all (fun t => Cm.isAddr t.addr) then q else 14) → Y q (j : Int) w) ?_ w e h rfl
      intro j hj ih w q h hq
      refine hY _ _ _ ?_
      unfold T_ref08_rightTargets_3_body
      refine ite_d (fun hc => ?_) (fun hc => ?_)
      · have hjl : j < l.length := by omega
        rw [all_step hjl] at hq
        obtain ⟨ad, ha, _, hrd⟩ := (hr.at h hm).elem tV_len (List.getElem?_eq_getElem hjl) (by decide)
        refine ⟨by omega, by omega, ad, ha, _, by rw [Int.toNat_natCast]; exact hrd 0 _ rfl rfl, Addr_spec h (hl.2 _ (List.getElem_mem hjl)).1 fun w' h' => ⟨_, rfl, ite_n (fun h1 => ?_) (fun h1 => ?_)⟩⟩
        · rw [succ_huge (by have := hl.1; omega)]
          exact ih hjl _ 14 h' (by rw [hq, h1]; simp)
        · rw [succ_huge (by have := hl.1; omega)]
          exact ih hjl _ q h' (by rw [hq, h1, Bool.true_and])
      · rw [List.drop_eq_nil_of_le (by omega), List.all_nil, if_pos rfl] at hq
        exact congI (k w h) (hfin q hq.symm).symm
  refine ite_d (fun h1 => main 6 ?_) (fun h1 => main 0 ?_)
  · rw [if_pos (by omega)]
  · rw [if_neg (by omega)]

/-! ### commands -/
def cmdL (c : Cm.Cmd) (s : Sl) : List Value := [.int .i64 c.act, .int .i64 c.client, .int .i64 c.seq, .int .i64 c.expect, .string (bs c.host), .string (bs c.pfx), .string (bs c.pool), .slice s.1 s.2.1 s.2.2]
def cmdV (c : Cm.Cmd) (s : Sl) : Value := .agg ⟨cmdL c s⟩
def okC (c : Cm.Cmd) : Prop := c.host.length ≤ huge ∧ c.pfx.length ≤ huge ∧ c.pool.length ≤ huge ∧ okTs c.tg
theorem ne_nil (s : Cm.Bs) : (!((bs s).toList == (ByteArray.mk #[]).toList)) = decide (s ≠ []) := by
  rw [bs_toList, toList_nil]; cases s <;> simp
theorem eq_dec (a b : Int) : (a == b) = decide (a = b) := by rw [Bool.eq_iff_iff]; simp
theorem ne_dec (a b : Int) : (a != b) = decide (a ≠ b) := by rw [Bool.eq_iff_iff]; simp
section
variable {Kn : Bool → World → Prop} {Kp : List PanicEntry → World → Prop} {c : Cm.Cmd} {b : Nat}
theorem u1 (h : St E (blkL b 42 (cmdL c s) :: L) w) (k : Kn (Cm.usesPool c.act) w) : T_conf_Check_1 ⟨b, 0, none⟩ w Kn Kp := by
  unfold T_conf_Check_1
  simp only [eq_dec]
  refine ⟨_, rd_cell h.at_blk rfl rfl, ite_d (fun h1 => cong k ?_) fun h1 => ⟨_, rd_cell h.at_blk rfl rfl, ite_d (fun h2 => cong k ?_) fun h2 => ⟨_, rd_cell h.at_blk rfl rfl, cong k ?_⟩⟩⟩ <;> simp [Cm.usesPool, *]
theorem u2 (h : St E (blkL b 42 (cmdL c s) :: L) w) (k : Kn (Cm.usesRoute c.act) w) : T_conf_Check_2 ⟨b, 0, none⟩ w Kn Kp := by
  unfold T_conf_Check_2
  simp only [eq_dec]
  refine ⟨_, rd_cell h.at_blk rfl rfl, ite_d (fun h1 => cong k ?_) fun h1 => ⟨_, rd_cell h.at_blk rfl rfl, cong k ?_⟩⟩ <;> simp [Cm.usesRoute, *]
theorem u3 (h : St E (blkL b 42 (cmdL c s) :: L) w) (k : Kn (Cm.seqOk c) w) : T_conf_Check_3 ⟨b, 0, none⟩ (c.seq == 0) (c.client != 0) w Kn Kp := by
  unfold T_conf_Check_3
  simp only [eq_dec, ne_dec]
  refine ite_d (fun h1 => ⟨_, rd_fld h.at_blk rfl rfl, ite_d (fun h2 => ⟨_, rd_fld h.at_blk rfl rfl, cong k ?_⟩) fun h2 => cong k ?_⟩) fun h1 => cong k ?_
  · rw [Cm.seqOk, if_neg h1, Bool.eq_iff_iff]; simp; omega
  · rw [Cm.seqOk, if_neg h1]; simp; omega
  · rw [Cm.seqOk, if_pos (by omega)]
theorem u6 (h : St E (blkL b 42 (cmdL c s) :: L) w) (k : Kn (decide (c.client < 0) || decide (32 < c.client)) w) : T_conf_Check_6 ⟨b, 0, none⟩ w Kn Kp := by
  unfold T_conf_Check_6
  refine ⟨_, rd_fld h.at_blk rfl rfl, ite_d (fun h1 => cong k ?_) fun h1 => ⟨_, rd_fld h.at_blk rfl rfl, cong k ?_⟩⟩ <;> simp [*]
theorem u7 (h : St E (blkL b 42 (cmdL c s) :: L) w) (k : Kn (decide (c.expect < -1) || decide (1099511627776 ≤ c.expect)) w) : T_conf_Check_7 ⟨b, 0, none⟩ w Kn Kp := by
  unfold T_conf_Check_7
  refine ⟨_, rd_fld h.at_blk rfl rfl, ite_d (fun h1 => cong k ?_) fun h1 => ⟨_, rd_fld h.at_blk rfl rfl, cong k ?_⟩⟩ <;> simp [*]
theorem u8 {p : Bool} (h : St E (blkL b 42 (cmdL c s) :: L) w) (k : Kn (!p && decide (c.pool ≠ [])) w) : T_conf_Check_8 ⟨b, 0, none⟩ p w Kn Kp := by
  unfold T_conf_Check_8
  refine ite_n (fun h1 => ⟨_, rd_fld h.at_blk rfl rfl, ?_⟩) fun h1 => cong k (by simp [h1])
  rw [ne_nil]; exact cong k (by simp [h1])
theorem u9 {p : Bool} (h : St E (blkL b 42 (cmdL c s) :: L) w) (k : Kn (!p && (decide (c.host ≠ []) || decide (c.pfx ≠ []))) w) : T_conf_Check_9 ⟨b, 0, none⟩ p w Kn Kp := by
  unfold T_conf_Check_9
  refine ite_n (fun h1 => ⟨_, rd_fld h.at_blk rfl rfl, ?_⟩) fun h1 => cong k (by simp [h1])
  rw [ne_nil]
  refine ite_b (fun h2 => cong k (by rw [h1, h2]; rfl)) fun h2 => ⟨_, rd_fld h.at_blk rfl rfl, ?_⟩
  rw [ne_nil]; exact cong k (by rw [h1, h2]; simp)
theorem u5 (h : St E (blkL b 42 (cmdL c s) :: L) w) (hn : c.tg.length = s.2.1) (k : Kn (Cm.argBad c) w) : T_conf_Check_5 ⟨b, 0, none⟩ (Cm.usesPool c.act) (Cm.usesRoute c.act) (Cm.seqOk c) (!Cm.usesPool c.act && !Cm.usesRoute c.act) w Kn Kp := by
  unfold T_conf_Check_5
  have hk : ∀ q, Cm.argBad c = q → Kn q w := fun q e => e ▸ k
  unfold Cm.argBad at hk
  refine ite_b (fun h1 => hk _ ?_) fun h1 => u6 h (ite_b (fun h2 => hk _ ?_) fun h2 => ite_n (fun h3 => hk _ ?_) fun h3 => u7 h (ite_b (fun h4 => hk _ ?_) fun h4 => u8 h (ite_b (fun h5 => hk _ ?_) fun h5 => u9 h (ite_b (fun h6 => hk _ ?_) fun h6 => ⟨_, rd_cell h.at_blk rfl rfl, ?_⟩))))
  · rw [h1]; simp
  · rw [Bool.or_eq_true] at h2; rcases h2 with h2 | h2 <;> rw [h2] <;> simp
  · rw [h3]; simp
  · rw [Bool.or_eq_true] at h4; rcases h4 with h4 | h4 <;> rw [h4] <;> simp
  · rw [h5]; simp
  · rw [h6]; simp
  · have e0 : ((!Cm.usesPool c.act && !Cm.usesRoute c.act) || decide (c.client < 0) || decide (32 < c.client) || !Cm.seqOk c || decide (c.expect < -1) || decide (1099511627776 ≤ c.expect) ||
        (!Cm.usesPool c.act && decide (c.pool ≠ [])) || (!Cm.usesRoute c.act && (decide (c.host ≠ []) || decide (c.pfx ≠ [])))) = false := by
      simp only [Bool.or_eq_false_iff] at h2 h4
      rw [h1, h2.1, h2.2, h3, h4.1, h4.2, h5, h6]; rfl
    rw [e0, Bool.false_or] at hk
    rw [ne_dec]
    refine ite_d (fun h7 => ⟨_, _, _, rd_fld h.at_blk rfl rfl, hk _ ?_⟩) fun h7 => hk _ ?_
    · rw [hn, decide_eq_true h7, Bool.true_and, Bool.eq_iff_iff]; simp
    · rw [decide_eq_false h7]; rfl
theorem u10 (h : St E (blkL b 42 (cmdL c s) :: L) w) (hc : okC c) (k : ∀ w', St E (blkL b 42 (cmdL c s) :: L) w' → Kn (Cm.usesPool c.act && !Cm.isName c.pool) w') : T_conf_Check_10 ⟨b, 0, none⟩ (Cm.usesPool c.act) w Kn Kp := by
  unfold T_conf_Check_10
  refine ite_b (fun h1 => ⟨_, rd_fld h.at_blk rfl rfl, poolName_spec h hc.2.2.1 fun w' h' => ⟨_, rfl, cong (k w' h') ?_⟩⟩) fun h1 => cong (k w h) ?_ <;> simp [h1]
end
theorem Check_spec {c : Cm.Cmd} (hm : kn F ∈ L) (h : St E L w) (hr : RdF F s.1 s.2.1 2 (c.tg.flatMap tV)) (hc : okC c) (k : ∀ w', St E L w' → R (.returned (.int .i64 (Cm.chk c))) w') :
    Calls Tryz.prog 23 #[cmdV c s] w R := by
  have hn := tgs_len hm h hr
  refine C_conf_Check ?_
  unfold T_conf_Check
  intro w9
  have h9 : St E (blkL w.heap.size 42 (cmdL c s) :: L) w9 := h.alloc (.cells ⟨cmdL c s⟩ 42)
  refine u1 h9 (u2 h9 ⟨_, rd_fld h9.at_blk rfl rfl, _, rd_fld h9.at_blk rfl rfl, u3 h9 ?_⟩)
  have fin : ∀ w' (q : Int), St E L w' → Cm.chk c = q → R (.returned (.int .i64 q)) w' := fun w' q h' e => e ▸ k w' h'
  have u4 : T_conf_Check_4 (Cm.usesPool c.act) (Cm.usesRoute c.act) w9 = fun Kn Kp => if (!Cm.usesPool c.act) = true then Kn (!Cm.usesRoute c.act) w9 else Kn false w9 := rfl
  have u4' : ∀ (Kn : Bool → World → Prop) (Kp), Kn (!Cm.usesPool c.act && !Cm.usesRoute c.act) w9 → T_conf_Check_4 (Cm.usesPool c.act) (Cm.usesRoute c.act) w9 Kn Kp := fun Kn Kp hk => by
    rw [u4]; exact ite_n (fun h1 => cong hk (by simp [h1])) fun h1 => cong hk (by simp [h1])
  refine u4' _ _ (u5 h9 hn (ite_b (fun h1 => fin _ _ h9.drop ?_) fun h1 => u10 h9 hc fun w1 hw1 => ?_))
  · unfold Cm.chk; rw [h1]; rfl
  · have tg : ∀ w2, St E (blkL w.heap.size 42 (cmdL c s) :: L) w2 → Cm.nameBad c = false → ∃ (s95a : Option Addr) (s95l s95c : Nat), rd w2 ((⟨w.heap.size, 0, none⟩ : Addr).add 7) (.slice s95a s95l s95c) ∧
        Calls Tryz.prog 48 #[.slice s95a s95l s95c] w2 (ret (fun r96 w97 => ∃ x98 : Int, r96 = .int .i64 x98 ∧ R (.returned (.int .i64 x98)) w97) (pan R)) := fun w2 hw2 e =>
      ⟨_, _, _, rd_fld hw2.at_blk rfl rfl, targets_spec (List.mem_cons_of_mem _ hm) hw2 hr hc.2.2.2 fun w3 hw3 => ⟨_, rfl, fin _ _ hw3.drop (by unfold Cm.chk; rw [h1, e]; rfl)⟩⟩
    refine ite_b (fun h2 => ite_b (fun _ => fin _ _ hw1.drop ?_) fun hh => by rw [h2] at hh; cases hh) fun h2 => ite_b (fun h3 => ⟨_, rd_fld hw1.at_blk rfl rfl, host_spec hw1 hc.1 fun w2 hw2 => ⟨_, rfl, ite_n (fun h4 => fin _ _ hw2.drop ?_) fun h4 => ⟨_, rd_fld hw2.at_blk rfl rfl, prefix_spec hw2 hc.2.1 fun w3 hw3 => ⟨_, rfl, ite_n (fun h5 => fin _ _ hw3.drop ?_) fun h5 => tg w3 hw3 ?_⟩⟩⟩⟩) fun h3 => tg w1 hw1 ?_
    · unfold Cm.chk Cm.nameBad; rw [h1, h2]; rfl
    · unfold Cm.chk Cm.nameBad; rw [h1, h2, h3, h4]; rfl
    · unfold Cm.chk Cm.nameBad; rw [h1, h2, h3, h4, h5]; rfl
    · unfold Cm.nameBad; rw [h2, h3, h4, h5]; rfl
    · unfold Cm.nameBad; rw [h2, h3]; rfl
/-! ### the document's -/
section
variable {Kn : Bool → World → Prop} {Kp : List PanicEntry → World → Prop} {c : Cm.Cmd} {b : Nat}
def bad1 (c : Cm.Cmd) : Bool := decide (c.act < 1) || (decide (4 < c.act) || (decide (c.client < 0) || (decide (32 < c.client) || (decide (c.expect < -1) || decide (1099511627776 ≤ c.expect)))))
theorem r1 (h : St E (blkL b 42 (cmdL c s) :: L) w) (k : Kn (bad1 c) w) : T_ref08_Check_1 ⟨b, 0, none⟩ w Kn Kp := by
  unfold T_ref08_Check_1
  have hk : ∀ q, bad1 c = q → Kn q w := fun q e => e ▸ k
  unfold bad1 at hk
  refine ⟨_, rd_cell h.at_blk rfl rfl, ite_d (fun h1 => hk _ ?_) fun h1 => ⟨_, rd_cell h.at_blk rfl rfl, ite_d (fun h2 => hk _ ?_) fun h2 => ⟨_, rd_fld h.at_blk rfl rfl, ite_d (fun h3 => hk _ ?_) fun h3 =>
    ⟨_, rd_fld h.at_blk rfl rfl, ite_d (fun h4 => hk _ ?_) fun h4 => ⟨_, rd_fld h.at_blk rfl rfl, ite_d (fun h5 => hk _ ?_) fun h5 => ⟨_, rd_fld h.at_blk rfl rfl, hk _ ?_⟩⟩⟩⟩⟩⟩
  · simp [h1]
  · simp [show 4 < c.act from h2]
  · simp [h3]
  · simp [show 32 < c.client from h4]
  · simp [h5]
  · rw [decide_eq_false h1, decide_eq_false (show ¬ 4 < c.act from h2), decide_eq_false h3, decide_eq_false (show ¬ 32 < c.client from h4), decide_eq_false h5, Bool.eq_iff_iff]; simp; omega
theorem r2 (h : St E (blkL b 42 (cmdL c s) :: L) w) (k : bad1 c = false → Kn (!Cm.seqOk c) w) (h0 : bad1 c = false) : T_ref08_Check_2 ⟨b, 0, none⟩ w Kn Kp := by
  unfold T_ref08_Check_2
  have hc : 0 ≤ c.client := by simp [bad1] at h0; omega
  have hk : ∀ q, (!Cm.seqOk c) = q → Kn q w := fun q e => e ▸ k h0
  simp only [eq_dec, ne_dec]
  refine ⟨_, rd_fld h.at_blk rfl rfl, ite_d (fun h1 => ⟨_, rd_fld h.at_blk rfl rfl, ite_d (fun h2 => hk _ ?_) fun h2 => ⟨_, rd_fld h.at_blk rfl rfl, ite_d (fun h3 => absurd h3 (by omega)) fun h3 => hk _ ?_⟩⟩) fun h1 =>
    ⟨_, rd_fld h.at_blk rfl rfl, ite_d (fun h2 => ⟨_, rd_fld h.at_blk rfl rfl, ite_d (fun h3 => hk _ ?_) fun h3 => ⟨_, rd_fld h.at_blk rfl rfl, hk _ ?_⟩⟩) fun h2 => absurd h2 (by omega)⟩⟩
  · simp [Cm.seqOk, h1]; omega
  · simp [Cm.seqOk, h1]; omega
  · simp [Cm.seqOk, h1]; omega
  · rw [Bool.eq_iff_iff]; simp [Cm.seqOk, h1]; omega
theorem r4 (h : St E (blkL b 42 (cmdL c s) :: L) w) (hn : c.tg.length = s.2.1) (k : Kn (decide (c.host ≠ []) || (decide (c.pfx ≠ []) || (decide (c.act = 2) && decide (0 < c.tg.length)))) w) : T_ref08_Check_4 ⟨b, 0, none⟩ w Kn Kp := by
  unfold T_ref08_Check_4
  refine ⟨_, rd_fld h.at_blk rfl rfl, ?_⟩
  rw [ne_nil]
  refine ite_b (fun h1 => cong k (by rw [h1]; rfl)) fun h1 => ⟨_, rd_fld h.at_blk rfl rfl, ?_⟩
  rw [ne_nil]
  refine ite_b (fun h2 => cong k (by rw [h2]; simp)) fun h2 => ⟨_, rd_cell h.at_blk rfl rfl, ?_⟩
  rw [h1, h2, Bool.false_or, Bool.false_or] at k
  rw [eq_dec]
  refine ite_d (fun h3 => ⟨_, _, _, rd_fld h.at_blk rfl rfl, cong k ?_⟩) fun h3 => cong k ?_
  · rw [decide_eq_true h3, hn, Bool.true_and, Bool.eq_iff_iff]; simp
  · rw [decide_eq_false h3]; rfl
theorem r5 (h : St E (blkL b 42 (cmdL c s) :: L) w) (hn : c.tg.length = s.2.1) (k : Kn (decide (0 < c.tg.length) || decide (c.pool ≠ [])) w) : T_ref08_Check_5 ⟨b, 0, none⟩ w Kn Kp := by
  unfold T_ref08_Check_5
  refine ⟨_, _, _, rd_fld h.at_blk rfl rfl, ite_d (fun h1 => cong k ?_) fun h1 => ⟨_, rd_fld h.at_blk rfl rfl, ?_⟩⟩
  · rw [decide_eq_true (by omega)]; rfl
  · rw [ne_nil]; refine cong k ?_
    rw [decide_eq_false (by omega)]; rfl
end
end
end Go.Vc

/-
  A text appended to bytes of ours; byte rows.
-/
namespace Go.Vc
open Go Go.RowKit

def bytesV (l : List UInt8) : List Value := l.map fun b => .int .u8 (b.toNat : Int)
theorem bytesV_len (l : List UInt8) : (bytesV l).length = l.length := by simp [bytesV]
theorem bytesV_one (l : List UInt8) : ∀ u ∈ bytesV l, one u = true := by
  intro u hu
  obtain ⟨b, _, rfl⟩ := List.mem_map.1 hu
  rfl
theorem bytesV_app (a b : List UInt8) : bytesV (a ++ b) = bytesV a ++ bytesV b := List.map_append
section
variable {P : Program} {E w : World} {L : List Asrt} {t u ty e : TypeId} {i : TypeInfo} {z : Value}
theorem str_cells (s : ByteArray) : (s.data.map fun b => Value.int .u8 (b.toNat : Int)) = (bytesV s.data.toList).toArray := by
  apply Array.ext'; simp [bytesV]
theorem run_first_str (s : ByteArray) (n : Nat) (w : World) : (Builtin.firstCells n s.size (.string s)).run P w = .ok (bytesV s.data.toList).toArray w := by
  have hx : (s.extract 0 s.size).data = s.data := by
    simp
  show (Sem.pure ((s.extract 0 s.size).data.map fun b => Value.int .u8 (b.toNat : Int))).run P w = _
  rw [hx, str_cells]; rfl
theorem append_str (ht : P.underlying t = some (.slice e)) (hu : P.underlying u = some .string) (hi : P.info? e = some i) (hz : i.zero = some z) (hzs : z.cells.size = 1) (hs1 : i.size = 1) (hb1 : i.bytes = 1)
    {a : Option Addr} {l c : Nat} {xs : List Value} {s : ByteArray} (h : St E (ownS a l c e 1 xs :: L) w) (hb : l + s.size ≤ 140737488355328) :
    ∃ a' c' w', (Builtin.append_ #[t, u] ty #[.slice a l c, .string s]).run P w = .ok (.slice a' (l + s.size) c') w' ∧ St E (ownS a' (l + s.size) c' e 1 (xs ++ bytesV s.data.toList) :: L) w' := by
  have hf := h.ownS_facts
  have hsz : (bytesV s.data.toList).length = s.size := by rw [bytesV_len]; simp
  rcases Nat.eq_zero_or_pos s.size with h0 | h0
  · have hnil : bytesV s.data.toList = [] := List.eq_nil_of_length_eq_zero (by rw [hsz]; exact h0)
    have hfc := run_first_str (P := P) s i.size w
    rw [hnil] at hfc
    refine ⟨a, c, w, ?_, by rw [hnil, h0]; simpa using h⟩
    rw [h0]
    rw [h0] at hfc
    cases a with
    | none => simp [Builtin.append_, run_underlying_ ht, run_underlying_ hu, sizeOf, typeInfo, hi, Builtin.lenOf, h0, hfc, hf.2.1]
    | some ad => simp [Builtin.append_, run_underlying_ ht, run_underlying_ hu, sizeOf, typeInfo, hi, Builtin.lenOf, h0, hfc, hf.2.1, storeCells]
  · have hm : maxLen = 140737488355328 ∨ 140737488355328 ≤ maxLen := by unfold maxLen; omega
    have fin : ∀ (cap : Nat), l + s.size ≤ cap → cap ≤ maxLen → ∀ (w' : World), w' = w.drew.alloc (.cells ((xs ++ bytesV s.data.toList) ++ (Builtin.zeroCells z.cells (cap - (l + s.size))).toList).toArray e) →
        St E (ownS (some ⟨w.heap.size, 0, none⟩) (l + s.size) cap e 1 (xs ++ bytesV s.data.toList) :: L) w' := fun cap hc hcm w' hw => by
      subst hw
      have h1 := (h.drop.drew).alloc (.cells ((xs ++ bytesV s.data.toList) ++ (Builtin.zeroCells z.cells (cap - (l + s.size))).toList).toArray e)
      exact h1.ownS_mk (by rw [List.length_append, hsz, hf.1]; omega) hc hcm (by simp [Builtin.zeroCells, hzs])
    rcases h.ownS_open with ⟨rfl, rfl, rfl, rfl⟩ | ⟨g, rest, rfl, hr, hs⟩
    · have hrun := run_append_nil_string (P := P) w t u ty e i z ht hu hi hz s h0 (by omega) (by rw [hb1]; omega)
      refine ⟨_, _, _, by rw [Nat.zero_add]; exact hrun, ?_⟩
      have := fin (grownCap w s.size 0 e) (by rw [Nat.zero_add]; exact grownCap_ge w s.size 0 e) (grownCap_le_maxLen w s.size 0 e (by unfold maxLen; omega)) _ rfl
      rw [Nat.zero_add] at this ⊢
      refine Eq.mp ?_ this
      congr 3
      apply Array.ext'
      simp [str_cells]
    · by_cases hroom : l + s.size ≤ c
      · have hst := run_storeCells (P := P) ⟨g, l, none⟩ (bytesV s.data.toList) 0 w fun j v hv => by
          have hj := (List.getElem?_eq_some_iff.1 hv).1
          rw [Nat.zero_add, add_mk]
          exact ⟨bytesV_one _ v (List.mem_of_getElem? hv), ⟨_, (cell_of hs.at_blk _).trans (List.getElem?_eq_getElem (by rw [List.length_append, hf.1, hr]; rw [hsz] at hj; omega))⟩, frozen_of hs.at_blk _⟩
        have hfc := run_first_str (P := P) s i.size w
        rw [hs1] at hfc
        refine ⟨some ⟨g, 0, none⟩, c, wr w ⟨g, l, none⟩ (.agg ⟨bytesV s.data.toList⟩), ?_, ?_⟩
        · rw [wr_agg_of]
          simp [Builtin.append_, run_underlying_ ht, run_underlying_ hu, sizeOf, typeInfo, hi, Builtin.lenOf, hroom, hfc, add_mk, hs1, hst]
        · have := hs.wr_agg (off := l) (xs := bytesV s.data.toList) (by rw [List.length_append, hf.1, hr, hsz]; omega)
          rw [List.take_append_of_le_length (by rw [hf.1]; omega), List.take_of_length_le (by rw [hf.1]; omega), List.drop_append, List.drop_of_length_le (by rw [hf.1]; omega), List.nil_append] at this
          refine this.ownS_mk (by rw [List.length_append, hsz, hf.1]; omega) hroom hf.2.2 ?_
          rw [List.length_drop, hr, hsz, hf.1]; omega
      · have hn : ¬ (l + s.size ≤ c) := hroom
        have h63' : ¬ (9223372036854775807 < ((l : Int) + (s.size : Int))) := by omega
        have hfit := growslice_fits (need := l + s.size) (old := c) (bytes := i.bytes) (by omega) (by rw [hb1]; omega)
        have h48' : ¬ (281474976710656 < Builtin.nextslicecap (l + s.size) c * i.bytes) := by omega
        have hfc := run_first_str (P := P) s i.size w.drew
        have hfo := run_firstCells_some (P := P) w.drew i.size l ⟨g, 0, none⟩ l c xs (by rw [hs1]; exact hf.1) (fun j v hv => by
          rw [add_mk, Nat.zero_add]
          exact (cell_of (w := w.drew) hs.at_blk j).trans (by rw [List.getElem?_append_left (List.getElem?_eq_some_iff.1 hv).1]; exact hv))
        refine ⟨some ⟨w.heap.size, 0, none⟩, grownCap w (l + s.size) c e, w.drew.alloc (.cells (xs.toArray ++ (bytesV s.data.toList).toArray ++ Builtin.zeroCells z.cells (grownCap w (l + s.size) c e - (l + s.size))) e), ?_, ?_⟩
        · simp [Builtin.append_, run_underlying_ ht, run_underlying_ hu, sizeOf, typeInfo, zeroValue, hi, hz, Builtin.lenOf, hn, h63', h48', Question.forced, hfc, hfo, newRow, grownCap]
          congr 2
          apply Array.ext'
          simp [List.append_assoc]
        · refine fin _ (grownCap_ge w (l + s.size) c e) (grownCap_le_maxLen w _ _ e (by unfold maxLen; omega)) _ ?_
          congr 2
          apply Array.ext'
          simp
end
end Go.Vc

/-
  Numbers, texts, weights, targets as bytes: appended and taken; the program's functions and the document's.
-/
namespace Go.Vc
open Go Go.Proofs Go.Proofs.YtcpmfjclkdjfmaaGreat
set_option maxRecDepth 100000

/-! ### arithmetic -/
theorem ofInt_nat (n : Nat) (h : n < 18446744073709551616) : (BitVec.ofInt 64 (n : Int)).toNat = n := by
  rw [BitVec.toNat_ofInt]; omega
theorem and127 (n : Nat) (h : n < 18446744073709551616) : ((BitVec.ofInt (IntKind.bits .i64) (n : Int)) &&& (BitVec.ofInt (IntKind.bits .i64) 127)).toNat = n % 128 := by
  show ((BitVec.ofInt 64 (n : Int)) &&& (BitVec.ofInt 64 127)).toNat = _
  rw [BitVec.toNat_and, ofInt_nat n h, show (BitVec.ofInt 64 127).toNat = 2 ^ 7 - 1 from by decide, Nat.and_two_pow_sub_one_eq_mod]
theorem or128 : ∀ x : Fin 128, x.val ||| 128 = x.val + 128 := by decide
theorem wrap_nat {n : Nat} (h : n < 9223372036854775808) : IntKind.wrap .i64 (n : Int) = n := wrap_id (by omega) (by omega)
theorem wrap_u8_mod (n : Nat) : IntKind.wrap .u8 (n : Int) = ((UInt8.ofNat n).toNat : Int) := by
  unfold IntKind.wrap
  simp [IntKind.signed, IntKind.bits]
theorem low7 (n : Nat) (h : n < 9223372036854775808) : IntKind.wrap .u8 (IntKind.wrap .i64 ((BitVec.ofInt (IntKind.bits .i64) (IntKind.wrap .i64 ((BitVec.ofInt (IntKind.bits .i64) (n : Int)) &&& (BitVec.ofInt (IntKind.bits .i64) 127)).toNat)) ||| (BitVec.ofInt (IntKind.bits .i64) 128)).toNat) = ((UInt8.ofNat (n % 128 + 128)).toNat : Int) := by
  rw [and127 n (by omega), wrap_nat (n := n % 128) (by omega)]
  have e : ((BitVec.ofInt (IntKind.bits .i64) ((n % 128 : Nat) : Int)) ||| (BitVec.ofInt (IntKind.bits .i64) 128)).toNat = n % 128 + 128 := by
    show ((BitVec.ofInt 64 ((n % 128 : Nat) : Int)) ||| (BitVec.ofInt 64 128)).toNat = _
    rw [BitVec.toNat_or, ofInt_nat _ (by omega), show (BitVec.ofInt 64 128).toNat = 128 from by decide]
    exact or128 ⟨n % 128, by omega⟩
  rw [e, wrap_nat (n := n % 128 + 128) (by omega), wrap_u8_mod]
theorem or_add {acc x k : Nat} (h : acc < 2 ^ k) (hb : x * 2 ^ k + acc < 9223372036854775808) : IntKind.wrap .i64 ((BitVec.ofInt (IntKind.bits .i64) (acc : Int)) ||| (BitVec.ofInt (IntKind.bits .i64) ((x * 2 ^ k : Nat) : Int))).toNat = ((acc + x * 2 ^ k : Nat) : Int) := by
  have e : ((BitVec.ofInt (IntKind.bits .i64) (acc : Int)) ||| (BitVec.ofInt (IntKind.bits .i64) ((x * 2 ^ k : Nat) : Int))).toNat = acc + x * 2 ^ k := by
    show ((BitVec.ofInt 64 (acc : Int)) ||| (BitVec.ofInt 64 ((x * 2 ^ k : Nat) : Int))).toNat = _
    rw [BitVec.toNat_or, ofInt_nat _ (by omega), ofInt_nat _ (by omega), Nat.or_comm, Nat.mul_comm x, ← Nat.two_pow_add_eq_or_of_lt h, Nat.add_comm]
  rw [e, wrap_nat (by omega)]

section
variable {E w : World} {L : List Asrt} {R : Ending → World → Prop} {F : Fz}

/-! ### bytes of ours -/
def byA (s : Sl) (xs : Cm.Bs) : Asrt := ownS s.1 s.2.1 s.2.2 5 1 (bytesV xs)
theorem St.by_len {s : Sl} {xs : Cm.Bs} (h : St E (byA s xs :: L) w) : xs.length = s.2.1 := by have := h.ownS_facts.1; rw [bytesV_len] at this; omega
theorem St.by_nil (h : St E L w) : St E (byA (none, 0, 0) [] :: L) w := h.ownS_nil
theorem St.by_new (h : St E L w) (xs : Cm.Bs) (hl : xs.length ≤ big) : St E (byA (some ⟨w.heap.size, 0, none⟩, xs.length, xs.length) xs :: L) (w.alloc (.cells ⟨bytesV xs⟩ 5)) :=
  (St.ownS_mk (xs := bytesV xs) (rest := []) (l := xs.length) (c := xs.length) (sz := 1) (by rw [List.append_nil]; exact h.alloc _) (by rw [bytesV_len]; omega) (Nat.le_refl _) (by unfold big at hl; unfold maxLen; omega) (by simp) :)
theorem app_b {s : Sl} {a2 : Option Addr} {l2 c2 : Nat} {xs ys : Cm.Bs} (h : St E (byA s xs :: L) w) (hro : RdS w a2 l2 1 (bytesV ys)) (hb : xs.length + ys.length ≤ big) :
    ∃ (s' : Sl) (w' : World), (Builtin.append_ #[56, 56] 56 #[.slice s.1 s.2.1 s.2.2, .slice a2 l2 c2]).run Tryz.prog w = .ok (.slice s'.1 s'.2.1 s'.2.2) w' ∧ St E (byA s' (xs ++ ys) :: L) w' := by
  have hl := h.by_len
  have hl2 : ys.length = l2 := by have := hro.1; rw [bytesV_len] at this; omega
  obtain ⟨a', c', w', hr, hs⟩ := append_own (P := Tryz.prog) (t := 56) (ty := 56) (e := 5) (i := Tryz.t5) (z := .int .u8 0) (by kernel_rfl) (by kernel_rfl) (by kernel_rfl) (by kernel_rfl) (by decide) (c2 := c2) h hro (bytesV_one ys)
    (by have : Tryz.t5.bytes = 1 := by kernel_rfl
        rw [this]; unfold big at hb; omega) (by unfold big at hb; unfold maxLen; omega)
  exact ⟨(a', s.2.1 + l2, c'), w', hr, by rw [byA, bytesV_app]; exact hs⟩
theorem app_1 {s : Sl} {xs : Cm.Bs} {x : UInt8} (h : St E (byA s xs :: L) w) (hb : xs.length + 1 ≤ big) :
    ∃ (s' : Sl) (w' : World), (Builtin.append_ #[56, 56] 56 #[.slice s.1 s.2.1 s.2.2, .slice (some ⟨w.heap.size, 0, none⟩) 1 1]).run Tryz.prog (w.alloc (.cells #[.int .u8 (x.toNat : Int)] 5)) = .ok (.slice s'.1 s'.2.1 s'.2.2) w' ∧ St E (byA s' (xs ++ [x]) :: L) w' := by
  have h2 : St E (byA (some ⟨w.heap.size, 0, none⟩, 1, 1) [x] :: byA s xs :: L) (w.alloc (.cells #[.int .u8 (x.toNat : Int)] 5)) := h.by_new [x] (show 1 ≤ big by decide)
  obtain ⟨s', w', hr, hs⟩ := app_b (c2 := 1) h2.f1 (St.rdS_own h2) (by simpa using hb)
  exact ⟨s', w', hr, hs.f1.drop⟩
theorem app_s {s : Sl} {xs ys : Cm.Bs} (h : St E (byA s xs :: L) w) (hb : xs.length + ys.length ≤ big) :
    ∃ (s' : Sl) (w' : World), (Builtin.append_ #[56, 9] 56 #[.slice s.1 s.2.1 s.2.2, .string (bs ys)]).run Tryz.prog w = .ok (.slice s'.1 s'.2.1 s'.2.2) w' ∧ St E (byA s' (xs ++ ys) :: L) w' := by
  have hl := h.by_len
  obtain ⟨a', c', w', hr, hs⟩ := append_str (P := Tryz.prog) (t := 56) (u := 9) (ty := 56) (e := 5) (i := Tryz.t5) (z := .int .u8 0) (by kernel_rfl) (by kernel_rfl) (by kernel_rfl) (by kernel_rfl) (by kernel_rfl) (by kernel_rfl) (by kernel_rfl) (s := bs ys) h
    (by rw [bs_size]; unfold big at hb; omega)
  exact ⟨(a', s.2.1 + (bs ys).size, c'), w', hr, by rw [byA, bytesV_app]; exact hs⟩

/-! ### numbers -/
theorem number_spec {s : Sl} {xs : Cm.Bs} (j : Nat) {n : Nat} (hn : n < 128 ^ (j + 1)) (hj : j ≤ 5) (h : St E (byA s xs :: L) w) (hb : xs.length + 6 ≤ big)
    (k : ∀ (w' : World) (s' : Sl), St E (byA s' (xs ++ Cm.encNF j n) :: L) w' → R (.returned (.slice s'.1 s'.2.1 s'.2.2)) w') : Calls Tryz.prog 118 #[.slice s.1 s.2.1 s.2.2, .int .i64 (n : Int)] w R := by
  refine C_wire_number ?_
  unfold T_wire_number T_wire_number_1
  intro X hX
  have go : ∀ (j : Nat) (n : Nat) (s : Sl) (ys : Cm.Bs) (w : World), n < 128 ^ (j + 1) → j ≤ 5 → ys.length + j + 1 ≤ big → St E (byA s ys :: L) w → (∀ (w' : World) (s' : Sl), St E (byA s' (ys ++ Cm.encNF j n) :: L) w' → R (.returned (.slice s'.1 s'.2.1 s'.2.2)) w') → X s.1 s.2.1 s.2.2 (n : Int) w := by
    intro j
    induction j with
    | zero =>
      intro n s ys w hn hj hb h k
      refine hX _ _ _ _ _ ?_
      unfold T_wire_number_1_body
      refine ite_d (fun hc => absurd hc (by have : n < 128 := by simpa using hn
                                            omega)) (fun hc => ?_)
      dsimp -zeta only
      intro w20
      obtain ⟨s', w', hr, hs⟩ := app_1 (x := UInt8.ofNat n) h (by omega)
      rw [← wrap_u8_mod] at hr
      exact runV_ok hr ⟨_, _, _, rfl, k _ _ hs⟩
    | succ j ih =>
      intro n s ys w hn hj hb h k
      refine hX _ _ _ _ _ ?_
      unfold T_wire_number_1_body
      have hn2 : n < 9223372036854775808 := Nat.lt_of_lt_of_le hn (Nat.le_trans (Nat.pow_le_pow_right (by decide) (by omega : j + 1 + 1 ≤ 6)) (by decide))
      refine ite_d (fun hc => ?_) (fun hc => ?_)
      · intro w5
        obtain ⟨s', w', hr, hs⟩ := app_1 (x := UInt8.ofNat (n % 128 + 128)) h (by omega)
        rw [← low7 n hn2] at hr
        refine runV_ok hr ⟨_, _, _, rfl, ?_⟩
        rw [show Int.fdiv (n : Int) (2 ^ 7) = ((n / 128 : Nat) : Int) from by
          rw [Int.fdiv_eq_ediv_of_nonneg _ (by decide)]; norm_cast]
        refine ih (n / 128) s' _ _ (by rw [Nat.div_lt_iff_lt_mul (by decide)]; rwa [Nat.pow_succ] at hn) (by omega) (by simp; omega) hs fun w2 s2 h2 => k w2 s2 ?_
        rw [Cm.encNF, if_neg (by omega)]
        simpa using h2
      · dsimp -zeta only
        intro w20
        obtain ⟨s', w', hr, hs⟩ := app_1 (x := UInt8.ofNat n) h (by omega)
        rw [← wrap_u8_mod] at hr
        refine runV_ok hr ⟨_, _, _, rfl, k _ _ ?_⟩
        rw [Cm.encNF, if_pos (by omega)]
        exact hs
  exact go j n s xs w hn hj (by omega) h k
theorem num_len (n : Int) : (Cm.num n).length ≤ 6 := by
  unfold Cm.num
  split
  · simp
  · have : ∀ j n, (Cm.encNF j n).length ≤ j + 1 := by
      intro j
      induction j with
      | zero => intro n; simp [Cm.encNF]
      | succ j ih => intro n; rw [Cm.encNF]; split <;> simp [ih]
    exact this 5 _
def numE (n : Int) : Int := if n < 0 ∨ 1099511627776 < n then 2 else 0
theorem Number_spec {n : Int} (h : St E L w) (k : ∀ (w' : World) (s' : Sl), St E (byA s' (Cm.num n) :: L) w' → R (.returned (.tuple #[.slice s'.1 s'.2.1 s'.2.2, .int .i64 (numE n)])) w') : Calls Tryz.prog 88 #[.int .i64 n] w R := by
  refine C_wire_Number ?_
  unfold T_wire_Number
  unfold numE Cm.num at k
  refine ite_d (fun h1 => ?_) fun h1 => ite_d (fun h2 => ?_) fun h2 => ?_
  · rw [if_pos (.inl h1), if_pos (.inl h1)] at k
    exact k w (none, 0, 0) h.by_nil
  · rw [if_pos (.inr (by omega)), if_pos (.inr (by omega))] at k
    exact k w (none, 0, 0) h.by_nil
  · rw [if_neg (by omega), if_neg (by omega)] at k
    obtain ⟨m, rfl⟩ := Int.eq_ofNat_of_zero_le (by omega : 0 ≤ n)
    exact number_spec (s := (none, 0, 0)) (xs := []) 5 (n := m) (by omega) (by omega) h.by_nil (by decide) fun w' s' h' => ⟨_, _, _, rfl, k w' s' (by simpa using h')⟩
theorem RNumber_spec {n : Int} (h : St E L w) (k : ∀ (w' : World) (s' : Sl), St E (byA s' (Cm.num n) :: L) w' → R (.returned (.tuple #[.slice s'.1 s'.2.1 s'.2.2, .int .i64 (numE n)])) w') : Calls Tryz.prog 122 #[.int .i64 n] w R := by
  refine C_ref02_Number ?_
  unfold T_ref02_Number T_ref02_Number_1
  unfold numE Cm.num at k
  have no : n < 0 ∨ 1099511627776 < n → R (.returned (.tuple #[.slice none 0 0, .int .i64 2])) w := fun hh => by
    rw [if_pos hh, if_pos hh] at k
    exact k w (none, 0, 0) h.by_nil
  refine ite_d (fun h1 => ite_b (fun _ => no (.inl h1)) (fun hh => by cases hh)) fun h1 => ite_d (fun h2 => no (.inr (by omega))) fun h2 => ?_
  rw [if_neg (by omega), if_neg (by omega)] at k
  obtain ⟨m, rfl⟩ := Int.eq_ofNat_of_zero_le (by omega : 0 ≤ n)
  intro w8
  have h8 : St E (byA (some ⟨w.heap.size, 0, none⟩, 0, 0) [] :: L) w8 := h.by_new [] (by decide)
  unfold T_ref02_Number_2
  intro X hX
  have go : ∀ (j : Nat) (n : Nat) (s : Sl) (ys : Cm.Bs) (w : World), n < 128 ^ (j + 1) → j ≤ 5 → ys.length + j + 1 ≤ big → St E (byA s ys :: L) w → (∀ (w' : World) (s' : Sl), St E (byA s' (ys ++ Cm.encNF j n) :: L) w' → R (.returned (.tuple #[.slice s'.1 s'.2.1 s'.2.2, .int .i64 0])) w') → X (n : Int) s.1 s.2.1 s.2.2 w := by
    intro j
    induction j with
    | zero =>
      intro n s ys w hn hj hb h k
      refine hX _ _ _ _ _ ?_
      unfold T_ref02_Number_2_body
      have hn1 : n < 128 := by simpa using hn
      have e1 : Int.tdiv (n : Int) 128 = 0 := by rw [Int.tdiv_eq_ediv_of_nonneg (by omega)]; omega
      have e2 : Int.tmod (n : Int) 128 = (n : Int) := by rw [Int.tmod_eq_emod_of_nonneg (by omega)]; omega
      rw [e1, e2, if_pos (by decide)]
      intro w20
      obtain ⟨s', w', hr, hs⟩ := app_1 (x := UInt8.ofNat n) h (by omega)
      rw [← wrap_u8_mod] at hr
      exact runV_ok hr ⟨_, _, _, rfl, k _ _ hs⟩
    | succ j ih =>
      intro n s ys w hn hj hb h k
      refine hX _ _ _ _ _ ?_
      unfold T_ref02_Number_2_body
      have hn2 : n < 9223372036854775808 := Nat.lt_of_lt_of_le hn (Nat.le_trans (Nat.pow_le_pow_right (by decide) (by omega : j + 1 + 1 ≤ 6)) (by decide))
      have e1 : Int.tdiv (n : Int) 128 = ((n / 128 : Nat) : Int) := by rw [Int.tdiv_eq_ediv_of_nonneg (by omega)]; omega
      have e2 : Int.tmod (n : Int) 128 = ((n % 128 : Nat) : Int) := by rw [Int.tmod_eq_emod_of_nonneg (by omega)]; omega
      rw [e1, e2, wrap_nat (n := n / 128) (by omega), eq_dec, show ((n % 128 : Nat) : Int) + 128 = ((n % 128 + 128 : Nat) : Int) from by omega, wrap_nat (n := n % 128 + 128) (by omega)]
      refine ite_d (fun hc => ?_) (fun hc => ?_)
      · intro w20
        obtain ⟨s', w', hr, hs⟩ := app_1 (x := UInt8.ofNat (n % 128)) h (by omega)
        rw [← wrap_u8_mod] at hr
        refine runV_ok hr ⟨_, _, _, rfl, k _ _ ?_⟩
        rw [Cm.encNF, if_pos (by omega)]
        rwa [show n % 128 = n from by omega] at hs
      · intro w5
        obtain ⟨s', w', hr, hs⟩ := app_1 (x := UInt8.ofNat (n % 128 + 128)) h (by omega)
        rw [← wrap_u8_mod] at hr
        refine runV_ok hr ⟨_, _, _, rfl, ?_⟩
        refine ih (n / 128) s' _ _ (by rw [Nat.div_lt_iff_lt_mul (by decide)]; rwa [Nat.pow_succ] at hn) (by omega) (by simp; omega) hs fun w2 s2 h2 => k w2 s2 ?_
        rw [Cm.encNF, if_neg (by omega)]
        simpa using h2
  exact go 5 m (some ⟨w.heap.size, 0, none⟩, 0, 0) [] w8 (by omega) (by omega) (by decide) h8 fun w' s' h' => k w' s' (by simpa using h')
section
variable {s : Sl} {xs : Cm.Bs}
theorem num_spec {n : Int} (h : St E (byA s xs :: L) w) (hb : xs.length + 6 ≤ big) (k : ∀ (w' : World) (s' : Sl), St E (byA s' (xs ++ Cm.num n) :: L) w' → R (.returned (.slice s'.1 s'.2.1 s'.2.2)) w') : Calls Tryz.prog 49 #[.slice s.1 s.2.1 s.2.2, .int .i64 n] w R := by
  refine C_conf_num ?_
  unfold T_conf_num
  refine Number_spec h fun w' s' h' => ⟨_, _, _, _, rfl, ?_⟩
  obtain ⟨s2, w2, hr, hs⟩ := app_b (c2 := s'.2.2) h'.f1 (St.rdS_own h') (by have := num_len n; omega)
  exact runV_ok hr ⟨_, _, _, rfl, k w2 s2 hs.f1.drop⟩
theorem Rnum_spec {n : Int} (h : St E (byA s xs :: L) w) (hb : xs.length + 6 ≤ big) (k : ∀ (w' : World) (s' : Sl), St E (byA s' (xs ++ Cm.num n) :: L) w' → R (.returned (.slice s'.1 s'.2.1 s'.2.2)) w') : Calls Tryz.prog 94 #[.slice s.1 s.2.1 s.2.2, .int .i64 n] w R := by
  refine C_ref08_num ?_
  unfold T_ref08_num
  refine RNumber_spec h fun w' s' h' => ⟨_, _, _, _, rfl, ?_⟩
  obtain ⟨s2, w2, hr, hs⟩ := app_b (c2 := s'.2.2) h'.f1 (St.rdS_own h') (by have := num_len n; omega)
  exact runV_ok hr ⟨_, _, _, rfl, k w2 s2 hs.f1.drop⟩
theorem text_len (x : Cm.Bs) : (Cm.text x).length ≤ 6 + x.length := by have := num_len x.length; simp [Cm.text]; omega
theorem text_spec {x : Cm.Bs} (h : St E (byA s xs :: L) w) (hb : xs.length + 6 + x.length ≤ big) (k : ∀ (w' : World) (s' : Sl), St E (byA s' (xs ++ Cm.text x) :: L) w' → R (.returned (.slice s'.1 s'.2.1 s'.2.2)) w') : Calls Tryz.prog 90 #[.slice s.1 s.2.1 s.2.2, .string (bs x)] w R := by
  refine C_conf_text ?_
  unfold T_conf_text
  rw [bs_size]
  refine num_spec h (by omega) fun w' s' h' => ⟨_, _, _, rfl, ?_⟩
  obtain ⟨s2, w2, hr, hs⟩ := app_s (ys := x) h' (by have := num_len x.length; simp; omega)
  exact runV_ok hr ⟨_, _, _, rfl, k w2 s2 (by simpa [Cm.text] using hs)⟩
theorem Rtext_spec {x : Cm.Bs} (h : St E (byA s xs :: L) w) (hb : xs.length + 6 + x.length ≤ big) (k : ∀ (w' : World) (s' : Sl), St E (byA s' (xs ++ Cm.text x) :: L) w' → R (.returned (.slice s'.1 s'.2.1 s'.2.2)) w') : Calls Tryz.prog 124 #[.slice s.1 s.2.1 s.2.2, .string (bs x)] w R := by
  refine C_ref08_text ?_
  unfold T_ref08_text
  rw [bs_size]
  refine Rnum_spec h (by omega) fun w' s' h' => ⟨_, _, _, rfl, ?_⟩
  obtain ⟨s2, w2, hr, hs⟩ := app_s (ys := x) h' (by have := num_len x.length; simp; omega)
  exact runV_ok hr ⟨_, _, _, rfl, k w2 s2 (by simpa [Cm.text] using hs)⟩

/-! ### weights, targets -/
theorem run_shr (t : TypeId) (x y : Operand) {v n : Nat} {q : IntKind} (hn : n < 64) : (do eqGuard .shr t x y (.int .u64 (v : Int)) (.int q (n : Int)); binOp .shr t (.int .u64 (v : Int)) (.int q (n : Int)) : Sem Value).run Tryz.prog w = .ok (.int .u64 ((v / 2 ^ n : Nat) : Int)) w := by
  have e : min (n : Int).toNat (IntKind.bits .u64) = n := by rw [Int.toNat_natCast]; exact Nat.min_eq_left (by show n ≤ 64; omega)
  have h0 : ¬ ((n : Int) < 0) := by omega
  simp only [eqGuard, binOp, Op.shift]
  rw [if_neg h0, e, Int.fdiv_eq_ediv_of_nonneg _ (by exact_mod_cast Nat.zero_le _)]
  simp
def f64n (v : Nat) (i : Nat) : UInt8 := UInt8.ofNat (v / 2 ^ (56 - 8 * i))
theorem f64_take (v : Nat) : ∀ i, i ≤ 8 → (Cm.f64 v).take i = (List.range i).map (f64n v) := by
  intro i hi
  match i, hi with
  | 0, _ => rfl
  | 1, _ => rfl
  | 2, _ => rfl
  | 3, _ => rfl
  | 4, _ => rfl
  | 5, _ => rfl
  | 6, _ => rfl
  | 7, _ => rfl
  | 8, _ => simp [Cm.f64, List.range_succ, f64n]
theorem float_spec {v : Nat} (h : St E (byA s xs :: L) w) (hb : xs.length + 8 ≤ big) (k : ∀ (w' : World) (s' : Sl), St E (byA s' (xs ++ Cm.f64 v) :: L) w' → R (.returned (.slice s'.1 s'.2.1 s'.2.2)) w') : Calls Tryz.prog 119 #[.slice s.1 s.2.1 s.2.2, .float .f64 v] w R := by
  refine C_conf_float ?_
  unfold T_conf_float T_conf_float_1
  intro X hX
  refine up_to 8 (Q := fun j => ∀ (w : World) (s : Sl), St E (byA s (xs ++ (Cm.f64 v).take j) :: L) w → X s.1 s.2.1 s.2.2 (56 - 8 * (j : Int)) w) ?_ w s (by simpa using h)
  intro j hj ih w s h
  refine hX _ _ _ _ _ ?_
  unfold T_conf_float_1_body
  refine ite_d (fun hc => ?_) (fun hc => ?_)
  · have hj8 : j < 8 := by omega
    refine runV_ok run_fbits ⟨_, rfl, ?_⟩
    rw [show (56 - 8 * (j : Int)) = ((56 - 8 * j : Nat) : Int) from by omega]
    refine runV_ok (run_shr _ _ _ (by omega)) ⟨_, rfl, ?_⟩
    intro w12
    obtain ⟨s', w', hr, hs⟩ := app_1 (x := f64n v j) h (by simp [f64_take v j (by omega)]; omega)
    unfold f64n at hr
    rw [← wrap_u8_mod] at hr
    refine runV_ok hr ⟨_, _, _, rfl, ?_⟩
    rw [wrap_id (by omega) (by omega), show ((56 - 8 * j : Nat) : Int) - 8 = 56 - 8 * ((j + 1 : Nat) : Int) from by omega]
    refine ih hj8 _ _ ?_
    rw [f64_take v (j + 1) (by omega), List.range_succ, List.map_append, ← f64_take v j (by omega)]
    simpa using hs
  · have : j = 8 := by omega
    subst this
    exact k _ _ h
theorem tgt_len (t : Cm.Tgt) : (Cm.tgt t).length ≤ 14 + t.addr.length := by have := text_len t.addr; simp [Cm.tgt, Cm.f64_len]; omega
def tgsMax (l : List Cm.Tgt) : Nat := 6 + (l.map fun t => 14 + t.addr.length).sum
theorem flat_tgt_len (l : List Cm.Tgt) : (l.flatMap Cm.tgt).length ≤ (l.map fun t => 14 + t.addr.length).sum := by
  induction l with
  | nil => simp
  | cons t r ih => have := tgt_len t; simp only [List.flatMap_cons, List.length_append, List.map_cons, List.sum_cons]; omega
theorem sum_take_le (f : Cm.Tgt → Nat) : ∀ (l : List Cm.Tgt) (j : Nat) (h : j < l.length), ((l.take j).map f).sum + f l[j] ≤ (l.map f).sum
  | [], _, h => by simp at h
  | t :: r, 0, _ => by simp
  | t :: r, j + 1, h => by
    have := sum_take_le f r j (by simpa using h)
    simp only [List.take_succ_cons, List.map_cons, List.sum_cons, List.getElem_cons_succ]; omega
theorem row_spec {q : Sl} {l : List Cm.Tgt} (hm : kn F ∈ L) (hr : RdF F q.1 q.2.1 2 (l.flatMap tV)) (hl : okTs l) (h : St E (byA s xs :: L) w) (hb : xs.length + tgsMax l ≤ big)
    (k : ∀ (w' : World) (s' : Sl), St E (byA s' (xs ++ Cm.tgs l) :: L) w' → R (.returned (.slice s'.1 s'.2.1 s'.2.2)) w') : Calls Tryz.prog 89 #[.slice s.1 s.2.1 s.2.2, .slice q.1 q.2.1 q.2.2] w R := by
  have hn := tgs_len hm h.drop hr
  unfold tgsMax at hb
  refine C_conf_row ?_
  unfold T_conf_row
  refine num_spec h (by omega) fun w1 s1 h1 => ⟨_, _, _, rfl, ?_⟩
  unfold T_conf_row_1
  intro X hX
  refine up_to l.length (Q := fun j => ∀ (w : World) (s : Sl), St E (byA s (xs ++ Cm.num l.length ++ (l.take j).flatMap Cm.tgt) :: L) w → X s.1 s.2.1 s.2.2 (j : Int) w) ?_ w1 s1 (by rw [← hn] at h1; simpa using h1)
  intro j hj ih w s h
  refine hX _ _ _ _ _ ?_
  unfold T_conf_row_1_body
  rw [← hn]
  refine ite_d (fun hc => ?_) (fun hc => ?_)
  · have hjl : j < l.length := by omega
    obtain ⟨ad, ha, hrd, _⟩ := (hr.at h (List.mem_cons_of_mem _ hm)).elem tV_len (List.getElem?_eq_getElem hjl) (by decide)
    have hs1 := sum_take_le (fun t => 14 + t.addr.length) l j hjl
    have hs2 := flat_tgt_len (l.take j)
    have hs3 := num_len l.length
    have hs4 := text_len l[j].addr
    refine ⟨by omega, by omega, ad, ha, _, _, by rw [Int.toNat_natCast]; exact hrd, ?_⟩
    intro w8
    have h8 := h.alloc (.cells #[.string (ByteArray.mk #[]), .float .f64 0] 64)
    refine ⟨rfl, wrOk_agg h8.at_blk (xs := tV l[j]) (by simp [tV]) (by intro u hu; simp [tV] at hu; rcases hu with rfl | rfl <;> rfl), ?_⟩
    intro w9 w10
    have h9 : St E (blkL w.heap.size 64 (tV l[j]) :: byA s (xs ++ Cm.num l.length ++ (l.take j).flatMap Cm.tgt) :: L) w10 := (h8.wr_agg0 (xs := tV l[j]) rfl).drew
    refine ⟨_, rd_cell h9.at_blk (l := tV l[j]) rfl rfl, _, rd_fld h9.at_blk (l := tV l[j]) rfl rfl, ?_⟩
    refine text_spec (x := l[j].addr) h9.f1 (by simp only [List.length_append]; omega) fun w2 s2 h2 => ⟨_, _, _, rfl, ⟨rd_fld h2.f1.at_blk (l := tV l[j]) rfl rfl, trivial⟩, ?_⟩
    refine float_spec h2 (by simp only [List.length_append]; omega) fun w3 s3 h3 => ⟨_, _, _, rfl, trivial, ?_⟩
    rw [succ_huge (by have := hl.1; omega)]
    refine ih hjl _ _ ?_
    rw [List.take_succ_eq_append_getElem hjl, List.flatMap_append]
    have := h3.f1.drop
    simpa [Cm.tgt] using this
  · refine k _ _ ?_
    rw [List.take_of_length_le (by omega)] at h
    simpa [Cm.tgs] using h
theorem Rtargets_spec {q : Sl} {l : List Cm.Tgt} (hm : kn F ∈ L) (hr : RdF F q.1 q.2.1 2 (l.flatMap tV)) (hl : okTs l) (h : St E (byA s xs :: L) w) (hb : xs.length + tgsMax l ≤ big)
    (k : ∀ (w' : World) (s' : Sl), St E (byA s' (xs ++ Cm.tgs l) :: L) w' → R (.returned (.slice s'.1 s'.2.1 s'.2.2)) w') : Calls Tryz.prog 123 #[.slice s.1 s.2.1 s.2.2, .slice q.1 q.2.1 q.2.2] w R := by
  have hn := tgs_len hm h.drop hr
  unfold tgsMax at hb
  refine C_ref08_targets ?_
  unfold T_ref08_targets
  refine Rnum_spec h (by omega) fun w1 s1 h1 => ⟨_, _, _, rfl, ?_⟩
  unfold T_ref08_targets_1
  intro X hX
  refine up_to l.length (Q := fun j => ∀ (w : World) (s : Sl), St E (byA s (xs ++ Cm.num l.length ++ (l.take j).flatMap Cm.tgt) :: L) w → X s.1 s.2.1 s.2.2 (j : Int) w) ?_ w1 s1 (by rw [← hn] at h1; simpa using h1)
  intro j hj ih w s h
  refine hX _ _ _ _ _ ?_
  unfold T_ref08_targets_1_body
  rw [← hn]
  refine ite_d (fun hc => ?_) (fun hc => ?_)
  · have hjl : j < l.length := by omega
    have hel := fun (w : World) (s : Sl) (zs : Cm.Bs) (h : St E (byA s zs :: L) w) => (hr.at h (List.mem_cons_of_mem _ hm)).elem tV_len (List.getElem?_eq_getElem hjl) (by decide)
    obtain ⟨ad, ha, _, hrd⟩ := hel _ _ _ h
    have hs1 := sum_take_le (fun t => 14 + t.addr.length) l j hjl
    have hs2 := flat_tgt_len (l.take j)
    have hs3 := num_len l.length
    have hs4 := text_len l[j].addr
    refine ⟨by omega, by omega, ad, ha, _, by rw [Int.toNat_natCast]; exact hrd 0 _ rfl rfl, ?_⟩
    refine Rtext_spec (x := l[j].addr) h (by simp only [List.length_append]; omega) fun w2 s2 h2 => ⟨_, _, _, rfl, ?_⟩
    obtain ⟨ad2, ha2, _, hrd2⟩ := hel _ _ _ h2
    refine ⟨by omega, by omega, ad2, ha2, _, by rw [Int.toNat_natCast]; exact hrd2 1 _ rfl rfl, runV_ok run_fbits ⟨_, rfl, ?_⟩⟩
    unfold T_ref08_targets_2
    intro Y hY
    refine up_to 8 (Q := fun i => ∀ (w : World) (s : Sl), St E (byA s (xs ++ Cm.num l.length ++ (l.take j).flatMap Cm.tgt ++ Cm.text l[j].addr ++ (Cm.f64 l[j].w).take i) :: L) w → Y s.1 s.2.1 s.2.2 (i : Int) w) ?_ w2 s2 (by simpa using h2)
    intro i hi ihi w s h
    refine hY _ _ _ _ _ ?_
    unfold T_ref08_targets_2_body
    refine ite_d (fun hc => ?_) (fun hc => ?_)
    · have hi8 : i < 8 := by omega
      have e1 : IntKind.wrap .u64 (IntKind.wrap .i64 ((56 : Int) - (IntKind.wrap .i64 ((8 : Int) * (i : Int))))) = ((56 - 8 * i : Nat) : Int) := by
        rw [wrap_id (x := (8 : Int) * (i : Int)) (by omega) (by omega), wrap_id (by omega) (by omega)]
        unfold IntKind.wrap
        simp [IntKind.signed, IntKind.bits]
        omega
      rw [e1]
      refine runV_ok (run_shr _ _ _ (by omega)) ⟨_, rfl, ?_⟩
      intro w12
      obtain ⟨s', w', hr', hs'⟩ := app_1 (x := f64n l[j].w i) h (by simp only [List.length_append, f64_take _ i (by omega), List.length_map, List.length_range]; omega)
      unfold f64n at hr'
      rw [← wrap_u8_mod] at hr'
      refine runV_ok hr' ⟨_, _, _, rfl, ?_⟩
      rw [wrap_id (by omega) (by omega)]
      have := ihi hi8 w' s' (by
        rw [f64_take _ (i + 1) (by omega), List.range_succ, List.map_append, ← f64_take _ i (by omega)]
        simpa using hs')
      exact_mod_cast this
    · have hi8 : i = 8 := by omega
      subst hi8
      rw [succ_huge (by have := hl.1; omega)]
      refine ih hjl _ _ ?_
      rw [List.take_succ_eq_append_getElem hjl, List.flatMap_append]
      rw [List.take_of_length_le (l := Cm.f64 l[j].w) (by rw [Cm.f64_len]; omega)] at h
      simpa [Cm.tgt] using h
  · refine k _ _ ?_
    rw [List.take_of_length_le (by omega)] at h
    simpa [Cm.tgs] using h
end
end
end Go.Vc

/-
  Structs held against each other.
-/
namespace Go.Vc
open Go
section
variable {P : Program} {t : TypeId} {w : World} {x y : Operand}
theorem run_ne_agg {a b : Array Value} {r : Bool} (hg : P.eqGuardType P.depth t = false) (he : (Op.equal t (.agg a) (.agg b)).run P w = .ok r w) :
    (do eqGuard .neq t x y (.agg a) (.agg b); binOp .neq t (.agg a) (.agg b) : Sem Value).run P w = .ok (.bool !r) w := by
  simp [eqGuard, program, Sem.run, hg, binOp, he]
theorem run_eq_agg {a b : Array Value} {r : Bool} (hg : P.eqGuardType P.depth t = false) (he : (Op.equal t (.agg a) (.agg b)).run P w = .ok r w) :
    (do eqGuard .eql t x y (.agg a) (.agg b); binOp .eql t (.agg a) (.agg b) : Sem Value).run P w = .ok (.bool r) w := by
  simp [eqGuard, program, Sem.run, hg, binOp, he]
theorem equal_str3 {f0 f1 f2 : Field} (hu : P.underlying t = some (.struct #[f0, f1, f2])) (h0 : P.underlying f0.type = some .string) (h1 : P.underlying f1.type = some .string) (h2 : P.underlying f2.type = some .string)
    (hn0 : f0.name ≠ "_") (hn1 : f1.name ≠ "_") (hn2 : f2.name ≠ "_") (ho0 : f0.offset = 0) (ho1 : f1.offset = 1) (ho2 : f2.offset = 2) (hst : P.stoodInHeld t = false) (a1 a2 a3 b1 b2 b3 : ByteArray) :
    (Op.equal t (.agg #[.string a1, .string a2, .string a3]) (.agg #[.string b1, .string b2, .string b3])).run P w = .ok (decide (a1 = b1) && (decide (a2 = b2) && decide (a3 = b3))) w := by
  have e0 : ∀ x y : ByteArray, (Op.equalIn 9999 f0.type (.string x) (.string y)).run P w = .ok (x == y) w := fun x y => equalIn_string (P := P) h0 x y 9998 w
  have e1 : ∀ x y : ByteArray, (Op.equalIn 9999 f1.type (.string x) (.string y)).run P w = .ok (x == y) w := fun x y => equalIn_string (P := P) h1 x y 9998 w
  have e2 : ∀ x y : ByteArray, (Op.equalIn 9999 f2.type (.string x) (.string y)).run P w = .ok (x == y) w := fun x y => equalIn_string (P := P) h2 x y 9998 w
  have hag : ∀ f : Field, P.underlying f.type = some .string → aggT P f.type = false := fun f hf => by simp [aggT, hf]
  have hp0 : ∀ x y z : Value, (part f0.type #[x, y, z] f0.offset).run P w = .ok x w := fun x y z => by simp [part, run_isAgg h0, hag f0 h0, ho0]
  have hp1 : ∀ x y z : Value, (part f1.type #[x, y, z] f1.offset).run P w = .ok y w := fun x y z => by simp [part, run_isAgg h1, hag f1 h1, ho1]
  have hp2 : ∀ x y z : Value, (part f2.type #[x, y, z] f2.offset).run P w = .ok z w := fun x y z => by simp [part, run_isAgg h2, hag f2 h2, ho2]
  show (Op.equalIn (9999 + 1) t _ _).run P w = _
  unfold Op.equalIn
  simp only [Sem.run_bind, run_underlying_ hu, Result.andThen_ok, program, Sem.run, hst]
  by_cases ha : a1 = b1
  · by_cases hb : a2 = b2
    · by_cases hc : a3 = b3
      · simp [hn0, hn1, hn2, hp0, hp1, hp2, e0, e1, e2, ha, hb, hc, bytes_beq]
      · simp [hn0, hn1, hn2, hp0, hp1, hp2, e0, e1, e2, ha, hb, hc, bytes_beq]
    · simp [hn0, hn1, hp0, hp1, e0, e1, ha, hb, bytes_beq]
  · simp [hn0, hp0, e0, ha, bytes_beq]
end
end Go.Vc

/-
  Rows of targets; targets and commands held against each other.
-/
namespace Go.Vc
open Go Go.Proofs Go.Proofs.YtcpmfjclkdjfmaaGreat
set_option maxRecDepth 100000
section
variable {E w : World} {L : List Asrt} {R : Ending → World → Prop} {F : Fz}
def tgA (s : Sl) (l : List Cm.Tgt) : Asrt := ownS s.1 s.2.1 s.2.2 64 2 (l.flatMap tV)
theorem app_t {s : Sl} {a2 : Option Addr} {l2 c2 : Nat} {xs ys : List Cm.Tgt} (h : St E (tgA s xs :: L) w) (hro : RdS w a2 l2 2 (ys.flatMap tV)) (hb : xs.length + ys.length ≤ 1000000) :
    ∃ (s' : Sl) (w' : World), (Builtin.append_ #[32, 32] 32 #[.slice s.1 s.2.1 s.2.2, .slice a2 l2 c2]).run Tryz.prog w = .ok (.slice s'.1 s'.2.1 s'.2.2) w' ∧ St E (tgA s' (xs ++ ys) :: L) w' := by
  have hl : xs.length = s.2.1 := h.rdS_own.count tV_len (by decide)
  have hl2 : ys.length = l2 := hro.count tV_len (by decide)
  obtain ⟨a', c', w', hr, hs⟩ := append_own (P := Tryz.prog) (t := 32) (ty := 32) (e := 64) (i := Tryz.t64) (z := .agg #[.string (ByteArray.mk #[]), .float .f64 0]) (by kernel_rfl) (by kernel_rfl) (by kernel_rfl) (by kernel_rfl) (by decide) (c2 := c2) h hro (tV_one ys)
    (by have : Tryz.t64.bytes = 24 := by kernel_rfl
        rw [this]; omega) (by unfold maxLen; omega)
  rw [show Tryz.t64.size = 2 from by kernel_rfl, ← List.flatMap_append] at hs
  exact ⟨(a', s.2.1 + l2, c'), w', hr, hs⟩
theorem app_t1 {s : Sl} {xs : List Cm.Tgt} {t : Cm.Tgt} (h : St E (tgA s xs :: L) w) (hb : xs.length + 1 ≤ 1000000) :
    ∃ (s' : Sl) (w' : World), (Builtin.append_ #[32, 32] 32 #[.slice s.1 s.2.1 s.2.2, .slice (some ⟨w.heap.size, 0, none⟩) 1 1]).run Tryz.prog (w.alloc (.cells #[.string (bs t.addr), .float .f64 t.w] 64)) = .ok (.slice s'.1 s'.2.1 s'.2.2) w' ∧ St E (tgA s' (xs ++ [t]) :: L) w' := by
  have h2 : St E (tgA (some ⟨w.heap.size, 0, none⟩, 1, 1) [t] :: tgA s xs :: L) (w.alloc (.cells #[.string (bs t.addr), .float .f64 t.w] 64)) :=
    (St.ownS_mk (xs := [t].flatMap tV) (rest := []) (l := 1) (c := 1) (sz := 2) (h.alloc _) rfl (Nat.le_refl _) (by decide) rfl :)
  obtain ⟨s', w', hr, hs⟩ := app_t (c2 := 1) h2.f1 (St.rdS_own h2) (by simpa using hb)
  exact ⟨s', w', hr, hs.f1.drop⟩
def zeroC : Cm.Cmd := ⟨0, 0, 0, 0, [], [], [], []⟩
def shortTs (l : List Cm.Tgt) : Prop := l.length ≤ 16 ∧ ∀ t ∈ l, t.addr.length ≤ 128 ∧ t.w < two64
theorem shortTs.ok {l : List Cm.Tgt} (h : shortTs l) : okTs l := ⟨by have := h.1; unfold huge; omega, fun t ht => ⟨by have := (h.2 t ht).1; unfold huge; omega, (h.2 t ht).2⟩⟩
theorem one_cmdL (c : Cm.Cmd) (s : Sl) : ∀ u ∈ cmdL c s, one u = true := by
  intro u hu
  simp only [cmdL, List.mem_cons, List.not_mem_nil, or_false] at hu
  rcases hu with rfl | rfl | rfl | rfl | rfl | rfl | rfl | rfl <;> rfl
theorem St.freezeT {s : Sl} {l : List Cm.Tgt} (h : St E (tgA s l :: kn F :: L) w) : ∃ G, Fz.le F G ∧ St E (kn G :: L) w ∧ RdF G s.1 s.2.1 2 (l.flatMap tV) := h.freezeS
/-! ### the same -/
theorem str_beq (a b : Cm.Bs) : ((bs a).toList == (bs b).toList) = decide (a = b) := by
  rw [bs_toList, bs_toList, Bool.eq_iff_iff]; simp
theorem drop_step {α : Type} [DecidableEq α] {l1 l2 : List α} {j : Nat} (h1 : j < l1.length) (h2 : j < l2.length) : decide (l1.drop j = l2.drop j) = (decide (l1[j] = l2[j]) && decide (l1.drop (j + 1) = l2.drop (j + 1))) := by
  rw [List.drop_eq_getElem_cons h1, List.drop_eq_getElem_cons h2, Bool.eq_iff_iff, Bool.and_eq_true, decide_eq_true_eq, decide_eq_true_eq, decide_eq_true_eq, List.cons.injEq]
theorem SameTargets_spec {s1 s2 : Sl} {l1 l2 : List Cm.Tgt} (hm : kn F ∈ L) (h : St E L w) (r1 : RdF F s1.1 s1.2.1 2 (l1.flatMap tV)) (r2 : RdF F s2.1 s2.2.1 2 (l2.flatMap tV)) (hl : l1.length ≤ huge)
    (k : ∀ w', St E L w' → R (.returned (.bool (decide (l1 = l2)))) w') : Calls Tryz.prog 42 #[.slice s1.1 s1.2.1 s1.2.2, .slice s2.1 s2.2.1 s2.2.2] w R := by
  have n1 := tgs_len hm h r1
  have n2 := tgs_len hm h r2
  refine C_ref08_SameTargets ?_
  unfold T_ref08_SameTargets
  rw [← n1, ← n2, ne_dec]
  refine ite_d (fun hh => congB (k w h) ?_) fun hh => ?_
  · rw [decide_eq_false_iff_not]; rintro rfl; exact hh rfl
  have hll : l1.length = l2.length := by simp at hh; omega
  unfold T_ref08_SameTargets_1
  intro X hX
  refine up_to l1.length (Q := fun j => ∀ w, St E L w → decide (l1 = l2) = decide (l1.drop j = l2.drop j) → X (j : Int) w) ?_ w h rfl
  intro j hj ih w h he
  refine hX _ _ ?_
  unfold T_ref08_SameTargets_1_body
  refine ite_d (fun hc => ?_) fun hc => ?_
  · have hj1 : j < l1.length := by omega
    have hj2 : j < l2.length := by omega
    rw [drop_step hj1 hj2] at he
    intro w6
    have h6 := h.drew
    obtain ⟨a1, e1, _, d1⟩ := (r1.at h6 hm).elem tV_len (List.getElem?_eq_getElem hj1) (by decide)
    obtain ⟨a2, e2, _, d2⟩ := (r2.at h6 hm).elem tV_len (List.getElem?_eq_getElem hj2) (by decide)
    refine ⟨by omega, by omega, a1, e1, _, by rw [Int.toNat_natCast]; exact d1 0 _ rfl rfl, by omega, by omega, a2, e2, _, by rw [Int.toNat_natCast]; exact d2 0 _ rfl rfl, ?_⟩
    rw [str_beq]
    refine ite_n (fun h1 => ⟨trivial, trivial, congB (k _ h6) ?_⟩) fun h1 => ⟨by omega, by omega, a1, e1, _, by rw [Int.toNat_natCast]; exact d1 1 _ rfl rfl, by omega, by omega, a2, e2, _, by rw [Int.toNat_natCast]; exact d2 1 _ rfl rfl, runV_ok run_fbits ⟨_, rfl, ⟨by rw [Int.toNat_natCast]; exact d2 1 _ rfl rfl, trivial⟩, runV_ok run_fbits ⟨_, rfl, trivial, ?_⟩⟩⟩
    · rw [he, Bool.and_eq_false_iff]; refine .inl (decide_eq_false fun e => ?_)
      rw [e] at h1; simp at h1
    · rw [ne_dec]
      refine ite_d (fun h2 => congB (k _ h6) ?_) fun h2 => ?_
      · rw [he, Bool.and_eq_false_iff]; refine .inl (decide_eq_false fun e => ?_)
        rw [e] at h2; exact h2 rfl
      · rw [succ_huge (by omega)]
        refine ih hj1 _ h6 ?_
        rw [he]
        have e : l1[j] = l2[j] := by
          have h1' : l1[j].addr = l2[j].addr := by simpa using h1
          have h2' : l1[j].w = l2[j].w := by simp at h2; omega
          cases hh1 : l1[j]; cases hh2 : l2[j]; simp_all
        rw [decide_eq_true e, Bool.true_and]
  · have : j = l1.length := by omega
    subst this
    rw [List.drop_length, List.drop_of_length_le (by omega)] at he
    exact congB (k w h) (by rw [he]; rfl)
end
end Go.Vc

/-
  What commands come to, in lists alone, and what always holds of it. No program in sight.
-/
namespace Go.Cm

def plLt (a b : Pl) : Bool := decide (a.name < b.name)
def laLt (a b : Last) : Bool := decide (a.client < b.client)
/-- A list with one at its place (in the stead of what neither stands ahead of it nor behind). -/
def put {α : Type} (lt : α → α → Bool) (l : List α) (p : α) : List α := l.filter (fun a => lt a p) ++ p :: l.filter (fun a => lt p a)
def there (s : Sm) (n : Bs) : Bool := s.pools.any fun p => decide (p.name = n)
def used (s : Sm) (n : Bs) : Bool := s.routes.any fun r => decide (r.pool = n)
def isAt (h p : Bs) (r : Rt) : Bool := decide (r.host = h) && decide (r.pfx = p)
def known (s : Sm) (h p : Bs) : Bool := s.routes.any (isAt h p)
def butPool (s : Sm) (n : Bs) : List Pl := s.pools.filter fun p => !decide (p.name = n)
def butRoute (s : Sm) (h p : Bs) : List Rt := s.routes.filter fun r => !isAt h p r
def fit (s s' : Sm) : Sm × Int := if 12000 < (confB s'.pools s'.routes).length then (s, 6) else (s', 0)
def act (s : Sm) (x : Cmd) : Sm × Int :=
  if x.act = 1 then
    if !there s x.pool && decide (32 ≤ s.pools.length) then (s, 6)
    else fit s { s with pools := put plLt (butPool s x.pool) ⟨x.pool, x.tg⟩ }
  else if x.act = 2 then
    if !there s x.pool then (s, 8) else if used s x.pool then (s, 13) else fit s { s with pools := butPool s x.pool }
  else if x.act = 3 then
    if !there s x.pool then (s, 8) else if !known s x.host x.pfx && decide (64 ≤ s.routes.length) then (s, 6)
    else fit s { s with routes := put rtLt (butRoute s x.host x.pfx) ⟨x.host, x.pfx, x.pool⟩ }
  else if !known s x.host x.pfx then (s, 8) else fit s { s with routes := butRoute s x.host x.pfx }
def seenC (s : Sm) (k : Int) : Int × Int × Int := match s.l.find? fun x => decide (x.client = k) with
  | some x => (x.seq, x.e, x.ver)
  | none => (0, 0, 0)
def note (s : Sm) (x : Last) : Sm := { s with l := put laLt s.l x }
/-- The step itself: the state, the error. -/
def step (s : Sm) (x : Cmd) : Sm × Int :=
  if 0 ≤ x.expect ∧ x.expect ≠ s.ver then (s, 12) else if s.ver = 1099511627776 then (s, 6) else act s x
def vers (p : Sm × Int) : Int := if p.2 = 0 then p.1.ver + 1 else p.1.ver
def doC (s : Sm) (x : Cmd) : Sm × Int × Int :=
  if chk x ≠ 0 then (s, chk x, s.ver)
  else if 0 < x.client ∧ x.seq = (seenC s x.client).1 then (s, (seenC s x.client).2)
  else if 0 < x.client ∧ x.seq < (seenC s x.client).1 then (s, 12, s.ver)
  else
    let p := step s x
    (if 0 < x.client then note { p.1 with ver := vers p } ⟨x.client, x.seq, p.2, vers p⟩ else { p.1 with ver := vers p }, p.2, vers p)
def new : Sm := ⟨0, [], [], []⟩

/-! ### orders -/
theorem slt_irrefl (a : Bs) : ¬ a < a := List.lt_irrefl a
theorem slt_trans {a b c : Bs} (h : a < b) (k : b < c) : a < c := List.lt_trans h k
theorem slt_tri (a b : Bs) : a < b ∨ a = b ∨ b < a := by
  by_cases h : a < b
  · exact .inl h
  · by_cases k : b < a
    · exact .inr (.inr k)
    · exact .inr (.inl (List.le_antisymm (List.not_lt.1 k) (List.not_lt.1 h)))
/-- A strict order of all, up to 'same place'. -/
structure Ord {α : Type} (lt : α → α → Bool) (same : α → α → Bool) : Prop where
  irr : ∀ a b, same a b = true → lt a b = false
  tr : ∀ a b c, lt a b = true → lt b c = true → lt a c = true
  tri : ∀ a b, same a b = false → lt a b = true ∨ lt b a = true
  cong : ∀ a b c, same a b = true → lt a c = lt b c
  congr : ∀ a b c, same a b = true → lt c a = lt c b
  refl : ∀ a, same a a = true
def plSame (a b : Pl) : Bool := decide (a.name = b.name)
def rtSame (a b : Rt) : Bool := isAt b.host b.pfx a
def laSame (a b : Last) : Bool := decide (a.client = b.client)
theorem plOrd : Ord plLt plSame where
  irr a b h := by simp only [plSame, decide_eq_true_eq] at h; simp [plLt, h, slt_irrefl b.name]
  tr a b c h k := by simp only [plLt, decide_eq_true_eq] at *; exact slt_trans h k
  tri a b h := by
    simp only [plSame, decide_eq_false_iff_not] at h
    simp only [plLt, decide_eq_true_eq]
    rcases slt_tri a.name b.name with h1 | h1 | h1
    · exact .inl h1
    · exact absurd h1 h
    · exact .inr h1
  cong a b c h := by simp only [plSame, decide_eq_true_eq] at h; simp [plLt, h]
  congr a b c h := by simp only [plSame, decide_eq_true_eq] at h; simp [plLt, h]
  refl a := by simp [plSame]
theorem laOrd : Ord laLt laSame where
  irr a b h := by simp only [laSame, decide_eq_true_eq] at h; simp [laLt, h]
  tr a b c h k := by simp only [laLt, decide_eq_true_eq] at *; omega
  tri a b h := by
    simp only [laSame, decide_eq_false_iff_not] at h
    simp only [laLt, decide_eq_true_eq]; omega
  cong a b c h := by simp only [laSame, decide_eq_true_eq] at h; simp [laLt, h]
  congr a b c h := by simp only [laSame, decide_eq_true_eq] at h; simp [laLt, h]
  refl a := by simp [laSame]
theorem rtOrd : Ord rtLt rtSame where
  irr a b h := by
    simp only [rtSame, isAt, Bool.and_eq_true, decide_eq_true_eq] at h
    have h1 := slt_irrefl b.host; have h2 := slt_irrefl b.pfx
    simp [rtLt, h.1, h.2, h1, h2]
  tr a b c h k := by
    simp only [rtLt, Bool.or_eq_true, Bool.and_eq_true, decide_eq_true_eq] at *
    rcases h with h | ⟨h, h'⟩ <;> rcases k with k | ⟨k, k'⟩
    · exact .inl (slt_trans h k)
    · exact .inl (k ▸ h)
    · exact .inl (h ▸ k)
    · exact .inr ⟨h.trans k, slt_trans h' k'⟩
  tri a b h := by
    simp only [rtSame, isAt, Bool.and_eq_false_iff, decide_eq_false_iff_not] at h
    simp only [rtLt, Bool.or_eq_true, Bool.and_eq_true, decide_eq_true_eq]
    rcases slt_tri a.host b.host with h1 | h1 | h1
    · exact .inl (.inl h1)
    · rcases slt_tri a.pfx b.pfx with h2 | h2 | h2
      · exact .inl (.inr ⟨h1, h2⟩)
      · rcases h with h | h
        · exact absurd h1 h
        · exact absurd h2 h
      · exact .inr (.inr ⟨h1.symm, h2⟩)
    · exact .inr (.inl h1)
  cong a b c h := by
    simp only [rtSame, isAt, Bool.and_eq_true, decide_eq_true_eq] at h
    simp [rtLt, h.1, h.2]
  congr a b c h := by
    simp only [rtSame, isAt, Bool.and_eq_true, decide_eq_true_eq] at h
    simp [rtLt, h.1, h.2]
  refl a := by simp [rtSame, isAt]

section
variable {α : Type} {lt same : α → α → Bool}
theorem rises_iff (O : Ord lt same) : ∀ l : List α, rises lt l = true ↔ l.Pairwise fun a b => lt a b = true
  | [] => by simp [rises]
  | [a] => by simp [rises]
  | a :: b :: r => by
    rw [rises, Bool.and_eq_true, rises_iff O (b :: r), List.pairwise_cons (l := b :: r)]
    constructor
    · rintro ⟨h1, h2⟩
      refine ⟨fun c hc => ?_, h2⟩
      rcases List.mem_cons.1 hc with rfl | hc
      · exact h1
      · exact O.tr _ _ _ h1 ((List.pairwise_cons.1 h2).1 c hc)
    · rintro ⟨h1, h2⟩
      exact ⟨h1 b (by simp), h2⟩
theorem put_rises (O : Ord lt same) {l : List α} (h : rises lt l = true) (p : α) : rises lt (put lt l p) = true := by
  rw [rises_iff O] at *
  unfold put
  rw [List.pairwise_append, List.pairwise_cons]
  refine ⟨h.filter _, ⟨fun a ha => (List.mem_filter.1 ha).2, h.filter _⟩, fun a ha b hb => ?_⟩
  have ha := (List.mem_filter.1 ha).2
  rcases List.mem_cons.1 hb with rfl | hb
  · exact ha
  · exact O.tr _ _ _ ha (List.mem_filter.1 hb).2
theorem filter_rises (O : Ord lt same) {l : List α} (h : rises lt l = true) (f : α → Bool) : rises lt (l.filter f) = true := by
  rw [rises_iff O] at *; exact h.filter _
theorem put_perm (O : Ord lt same) (l : List α) (p : α) : (put lt l p).Perm (p :: l.filter fun a => !same a p) := by
  unfold put
  refine List.perm_middle.trans (List.Perm.cons p ?_)
  have hc : ∀ a : α, (!same a p) = (lt a p || lt p a) ∧ ¬ (lt a p = true ∧ lt p a = true) := fun a => by
    cases hs : same a p
    · constructor
      · rcases O.tri a p hs with h | h <;> simp [h]
      · rintro ⟨h1, h2⟩
        have := O.tr _ _ _ h1 h2
        rw [O.irr a a (O.refl a)] at this; cases this
    · rw [O.irr a p hs, show lt p a = false from by rw [O.congr a p p hs]; exact O.irr p p (O.refl p)]
      simp
  induction l with
  | nil => simp
  | cons a l ih =>
    obtain ⟨h1, h2⟩ := hc a
    simp only [List.filter_cons, h1]
    cases ha : lt a p <;> cases hb : lt p a
    · simpa using ih
    · simp only [Bool.false_or, if_true, if_false, Bool.false_eq_true]
      exact List.perm_middle.trans (List.Perm.cons a ih)
    · simp only [Bool.or_false, if_true, if_false, Bool.false_eq_true]
      exact List.Perm.cons a ih
    · exact absurd ⟨ha, hb⟩ h2
theorem rises_same_eq (O : Ord lt same) {l : List α} (h : rises lt l = true) {a b : α} (ha : a ∈ l) (hb : b ∈ l) (hs : same a b = true) : a = b := by
  rw [rises_iff O] at h
  induction l with
  | nil => cases ha
  | cons c r ih =>
    have h := List.pairwise_cons.1 h
    rcases List.mem_cons.1 ha with rfl | ha' <;> rcases List.mem_cons.1 hb with rfl | hb'
    · rfl
    · have := h.1 b hb'; rw [O.irr _ _ hs] at this; cases this
    · have := h.1 a ha'
      have h2 : lt b b = false := O.irr b b (O.refl b)
      rw [O.congr a b b hs, h2] at this; cases this
    · exact ih h.2 ha' hb'
end

/-! ### what always holds -/
structure Inv (s : Sm) : Prop where
  v0 : 0 ≤ s.ver
  v1 : s.ver ≤ 1099511627776
  pl : ∀ p ∈ s.pools, isName p.name = true ∧ chkT p.tg = 0
  pr : rises plLt s.pools = true
  pn : s.pools.length ≤ 32
  rt : ∀ r ∈ s.routes, there s r.pool = true ∧ isHost r.host = true ∧ isPfx r.pfx = true
  rr : rises rtLt s.routes = true
  rn : s.routes.length ≤ 64
  la : ∀ x ∈ s.l, (1 ≤ x.client ∧ x.client ≤ 32) ∧ (1 ≤ x.seq ∧ x.seq ≤ 1099511627776) ∧ told x.e = true ∧ 0 ≤ x.ver ∧ x.ver ≤ s.ver
  lr : rises laLt s.l = true
  sz : (confB s.pools s.routes).length ≤ 12000
theorem Inv.new : Inv new := ⟨by decide, by decide, by simp [Cm.new], rfl, by decide, by simp [Cm.new], rfl, by decide, by simp [Cm.new], rfl, by decide⟩
theorem fit_cases (s s' : Sm) : fit s s' = (s, 6) ∨ (fit s s' = (s', 0) ∧ (confB s'.pools s'.routes).length ≤ 12000) := by
  unfold fit
  split
  · exact .inl rfl
  · exact .inr ⟨rfl, by omega⟩
theorem filter_ne_len {α : Type} {l : List α} {f : α → Bool} {a : α} (ha : a ∈ l) (hf : f a = false) : (l.filter f).length + 1 ≤ l.length := by
  induction l with
  | nil => cases ha
  | cons b r ih =>
    rcases List.mem_cons.1 ha with rfl | ha
    · rw [List.filter_cons, hf]; simp [List.length_filter_le]
    · have := ih ha
      rw [List.filter_cons]; split <;> simp <;> omega
theorem act_keeps {s : Sm} (I : Inv s) {x : Cmd} (hx : chk x = 0) : Inv (act s x).1 ∧ (act s x).1.ver = s.ver ∧ (act s x).1.l = s.l ∧ ((act s x).2 ≠ 0 → (act s x).1 = s) ∧ told (act s x).2 = true := by
  have F := chk_fine hx
  obtain ⟨_, hnb, _⟩ := chk_zero hx
  simp only [nameBad, Bool.or_eq_false_iff] at hnb
  have keep : ∀ e : Int, told e = true → Inv (s, e).1 ∧ (s, e).1.ver = s.ver ∧ (s, e).1.l = s.l ∧ ((s, e).2 ≠ 0 → (s, e).1 = s) ∧ told (s, e).2 = true := fun e he => ⟨I, rfl, rfl, fun _ => rfl, he⟩
  have fits : ∀ s' : Sm, s'.ver = s.ver → s'.l = s.l → ((confB s'.pools s'.routes).length ≤ 12000 → Inv s') →
      Inv (fit s s').1 ∧ (fit s s').1.ver = s.ver ∧ (fit s s').1.l = s.l ∧ ((fit s s').2 ≠ 0 → (fit s s').1 = s) ∧ told (fit s s').2 = true := fun s' h1 h2 h3 => by
    rcases fit_cases s s' with e | ⟨e, hl⟩
    · rw [e]; exact keep 6 rfl
    · rw [e]; exact ⟨h3 hl, h1, h2, fun h => absurd rfl h, rfl⟩
  have plen : ∀ n, there s n = true → (butPool s n).length + 1 ≤ s.pools.length := fun n h => by
    obtain ⟨p, hp, hpn⟩ := List.any_eq_true.1 h
    exact filter_ne_len hp (by simpa using hpn)
  have rlen : ∀ h q, known s h q = true → (butRoute s h q).length + 1 ≤ s.routes.length := fun h q hk => by
    obtain ⟨p, hp, hpn⟩ := List.any_eq_true.1 hk
    exact filter_ne_len hp (by simpa using hpn)
  unfold act
  split
  · rename_i ha
    split
    · exact keep 6 rfl
    · rename_i hn
      refine fits _ rfl rfl fun hl => ?_
      have hname : isName x.pool = true := by have := hnb.1; simp [usesPool, ha] at this; exact this
      have hmem : ∀ p ∈ put plLt (butPool s x.pool) ⟨x.pool, x.tg⟩, p = ⟨x.pool, x.tg⟩ ∨ p ∈ s.pools := fun p hp => by
        rw [(put_perm plOrd _ _).mem_iff] at hp
        rcases List.mem_cons.1 hp with h | h
        · exact .inl h
        · exact .inr (List.mem_filter.1 (List.mem_filter.1 h).1).1
      refine { I with pl := fun p hp => ?_, pr := put_rises plOrd (filter_rises plOrd I.pr _) _, pn := ?_, rt := fun r hr => ?_, sz := hl }
      · rcases hmem p hp with rfl | h
        · exact ⟨hname, F.t⟩
        · exact I.pl p h
      · have hp := (put_perm plOrd (butPool s x.pool) ⟨x.pool, x.tg⟩).length_eq
        simp only [List.length_cons] at hp
        have h1 : (((butPool s x.pool).filter fun a => !plSame a ⟨x.pool, x.tg⟩)).length ≤ (butPool s x.pool).length := List.length_filter_le ..
        show (put plLt (butPool s x.pool) ⟨x.pool, x.tg⟩).length ≤ 32
        cases ht : there s x.pool
        · have h2 : (butPool s x.pool).length ≤ s.pools.length := List.length_filter_le ..
          have : s.pools.length < 32 := by simpa [ht] using hn
          omega
        · have := plen _ ht; have := I.pn; omega
      · obtain ⟨h1, h2⟩ := I.rt r hr
        refine ⟨?_, h2⟩
        obtain ⟨p, hp, hpn⟩ := List.any_eq_true.1 h1
        have hpn' : p.name = r.pool := by simpa using hpn
        refine List.any_eq_true.2 ?_
        by_cases hx : p.name = x.pool
        · exact ⟨⟨x.pool, x.tg⟩, (put_perm plOrd _ _).mem_iff.2 List.mem_cons_self, by simp [← hx, hpn']⟩
        · refine ⟨p, (put_perm plOrd _ _).mem_iff.2 (List.mem_cons_of_mem _ (List.mem_filter.2 ⟨List.mem_filter.2 ⟨hp, by simp [hx]⟩, by simp [plSame, hx]⟩)), hpn⟩
  · rename_i ha1
    split
    · rename_i ha
      split
      · exact keep 8 rfl
      · split
        · exact keep 13 rfl
        · rename_i hu
          refine fits _ rfl rfl fun hl => ?_
          refine { I with pl := fun p hp => I.pl p (List.mem_filter.1 hp).1, pr := filter_rises plOrd I.pr _, pn := ?_, rt := fun r hr => ?_, sz := hl }
          · exact Nat.le_trans (List.length_filter_le ..) I.pn
          · obtain ⟨h1, h2⟩ := I.rt r hr
            refine ⟨?_, h2⟩
            obtain ⟨p, hp, hpn⟩ := List.any_eq_true.1 h1
            have hpn' : p.name = r.pool := by simpa using hpn
            refine List.any_eq_true.2 ⟨p, List.mem_filter.2 ⟨hp, ?_⟩, hpn⟩
            have : ¬ r.pool = x.pool := fun e => hu (List.any_eq_true.2 ⟨r, hr, by simpa using e⟩)
            simpa [hpn'] using this
    · split
      · rename_i ha
        split
        · exact keep 8 rfl
        · rename_i hth
          split
          · exact keep 6 rfl
          · rename_i hn
            refine fits _ rfl rfl fun hl => ?_
            have hrt : isHost x.host = true ∧ isPfx x.pfx = true := by have := hnb.2; simp [usesRoute, ha] at this; exact this
            have hmem : ∀ r ∈ put rtLt (butRoute s x.host x.pfx) ⟨x.host, x.pfx, x.pool⟩, r = ⟨x.host, x.pfx, x.pool⟩ ∨ r ∈ s.routes := fun p hp => by
              rw [(put_perm rtOrd _ _).mem_iff] at hp
              rcases List.mem_cons.1 hp with h | h
              · exact .inl h
              · exact .inr (List.mem_filter.1 (List.mem_filter.1 h).1).1
            refine { I with rt := fun r hr => ?_, rr := put_rises rtOrd (filter_rises rtOrd I.rr _) _, rn := ?_, sz := hl }
            · rcases hmem r hr with rfl | h
              · exact ⟨(by simpa using hth : there s x.pool = true), hrt⟩
              · exact I.rt r h
            · have hp := (put_perm rtOrd (butRoute s x.host x.pfx) ⟨x.host, x.pfx, x.pool⟩).length_eq
              simp only [List.length_cons] at hp
              have h1 : (((butRoute s x.host x.pfx).filter fun a => !rtSame a ⟨x.host, x.pfx, x.pool⟩)).length ≤ (butRoute s x.host x.pfx).length := List.length_filter_le ..
              show (put rtLt (butRoute s x.host x.pfx) ⟨x.host, x.pfx, x.pool⟩).length ≤ 64
              cases ht : known s x.host x.pfx
              · have h2 : (butRoute s x.host x.pfx).length ≤ s.routes.length := List.length_filter_le ..
                have : s.routes.length < 64 := by simpa [ht] using hn
                omega
              · have := rlen _ _ ht; have := I.rn; omega
      · split
        · exact keep 8 rfl
        · refine fits _ rfl rfl fun hl => ?_
          exact { I with rt := fun r hr => I.rt r (List.mem_filter.1 hr).1, rr := filter_rises rtOrd I.rr _, rn := Nat.le_trans (List.length_filter_le ..) I.rn, sz := hl }
theorem step_keeps {s : Sm} (I : Inv s) {x : Cmd} (hx : chk x = 0) : Inv (step s x).1 ∧ (step s x).1.ver = s.ver ∧ (step s x).1.l = s.l ∧ ((step s x).2 ≠ 0 → (step s x).1 = s) ∧ told (step s x).2 = true ∧ ((step s x).2 = 0 → s.ver < 1099511627776) := by
  unfold step
  split
  · exact ⟨I, rfl, rfl, fun _ => rfl, rfl, fun h => by cases h⟩
  · split
    · exact ⟨I, rfl, rfl, fun _ => rfl, rfl, fun h => by cases h⟩
    · rename_i hv
      obtain ⟨h1, h2, h3, h4, h5⟩ := act_keeps I hx
      exact ⟨h1, h2, h3, h4, h5, fun _ => by have := I.v1; omega⟩
theorem Inv.up {s : Sm} (I : Inv s) {v : Int} (h1 : s.ver ≤ v) (h2 : v ≤ 1099511627776) : Inv { s with ver := v } :=
  { I with v0 := by have := I.v0; simp; omega, v1 := h2, la := fun x hx => (I.la x hx).imp id fun h => h.imp id fun h => h.imp id fun h => h.imp id fun h => by simp; omega }
theorem Inv.note {s : Sm} (I : Inv s) {x : Last} (h1 : 1 ≤ x.client ∧ x.client ≤ 32) (h2 : 1 ≤ x.seq ∧ x.seq ≤ 1099511627776) (h3 : told x.e = true) (h4 : 0 ≤ x.ver ∧ x.ver ≤ s.ver) : Inv (Cm.note s x) :=
  { I with lr := put_rises laOrd I.lr _, la := fun y hy => (List.mem_cons.1 ((put_perm laOrd _ _).mem_iff.1 hy)).elim (fun e => by subst e; exact ⟨h1, h2, h3, h4⟩) (fun h => I.la y (List.mem_filter.1 h).1) }
theorem vers_ok {s : Sm} (I : Inv s) {x : Cmd} (hx : chk x = 0) : s.ver ≤ vers (step s x) ∧ vers (step s x) ≤ 1099511627776 ∧ vers (step s x) = if (step s x).2 = 0 then s.ver + 1 else s.ver := by
  obtain ⟨h1, h2, h3, h4, h5, h6⟩ := step_keeps I hx
  have := I.v1
  unfold vers
  split
  · rename_i h; have := h6 h; omega
  · omega
theorem doC_keeps {s : Sm} (I : Inv s) (x : Cmd) : Inv (doC s x).1 := by
  unfold doC
  split
  · exact I
  · rename_i hx
    have hx : chk x = 0 := by simpa using hx
    split
    · exact I
    · split
      · exact I
      · obtain ⟨h1, h2, h3, h4, h5, h6⟩ := step_keeps I hx
        obtain ⟨v1, v2, _⟩ := vers_ok I hx
        have I2 := h1.up (v := vers (step s x)) (by omega) v2
        have F := chk_fine hx
        show Inv (if 0 < x.client then _ else _)
        split
        · rename_i hc
          have hs : 1 ≤ x.seq := by
            obtain ⟨ha, _, _⟩ := chk_zero hx
            simp only [argBad, Bool.or_eq_false_iff] at ha
            have := ha.1.1.1.1.1.2
            simp only [Bool.not_eq_false', seqOk] at this
            rw [if_neg (by omega)] at this
            simp at this; omega
          exact I2.note ⟨by simp; omega, F.cl.2⟩ ⟨hs, F.sq.2⟩ h5 ⟨by have := I.v0; simp; omega, by simp⟩
        · exact I2
/-! ### a store's bytes -/
theorem Inv.right {s : Sm} (I : Inv s) : right s = true := by
  simp only [Cm.right, Bool.and_eq_true, decide_eq_true_eq]
  refine ⟨⟨⟨⟨?_, I.pr⟩, ?_, I.rr⟩, ?_, I.lr⟩, I.sz⟩
  · exact List.all_eq_true.2 fun p hp => by simp [I.pl p hp]
  · refine List.all_eq_true.2 fun r hr => ?_
    obtain ⟨h1, h2, h3⟩ := I.rt r hr
    have h1 : (s.pools.any fun p => decide (p.name = r.pool)) = true := h1
    rw [h1, h2, h3]; rfl
  · refine List.all_eq_true.2 fun x hx => ?_
    obtain ⟨h1, h2, h3, h4, h5⟩ := I.la x hx
    simp [rightL, h1, h2.1, h3, h5]
theorem rising_ints : ∀ (l : List Last) (a : Int), (∀ x ∈ l, a ≤ x.client ∧ x.client ≤ 32) → rises laLt l = true → (l.length : Int) ≤ if l = [] then 0 else 33 - a
  | [], _, _, _ => by simp
  | x :: r, a, h, hr => by
    have h0 := h x List.mem_cons_self
    have hp := (rises_iff laOrd (x :: r)).1 hr
    rw [List.pairwise_cons] at hp
    have ih := rising_ints r (x.client + 1) (fun y hy => ⟨by have := hp.1 y hy; simp [laLt] at this; omega, (h y (List.mem_cons_of_mem _ hy)).2⟩) ((rises_iff laOrd r).2 hp.2)
    rw [if_neg (by simp)]
    simp only [List.length_cons]
    split at ih <;> push_cast <;> omega
theorem Inv.ln {s : Sm} (I : Inv s) : s.l.length ≤ 32 := by
  have := rising_ints s.l 1 (fun x hx => (I.la x hx).1) I.lr
  split at this <;> omega
theorem rLa_got {s : Ps} {x : Last} {r : Bs} (h : rLa s = (x, .ok r)) : s = .ok (laB x ++ r) ∧ (0 ≤ x.seq ∧ x.seq ≤ 1099511627776 ∧ 0 ≤ x.ver) := by
  simp only [rLa, Prod.mk.injEq] at h
  obtain ⟨rfl, h⟩ := h
  obtain ⟨v1, _⟩ := rNum_got (got_of h)
  obtain ⟨e1, _⟩ := rNum_got (got_of v1)
  obtain ⟨q1, q2, q3⟩ := rNum_got (got_of e1)
  obtain ⟨c1, _⟩ := rNum_got (got_of q1)
  refine ⟨c1.trans ?_, by simp; omega⟩
  simp [laB]
theorem rPl_got {s : Ps} {p : Pl} {r : Bs} (h : rPl s = (p, .ok r)) : s = .ok (plB p ++ r) ∧ True := by
  simp only [rPl, Prod.mk.injEq] at h
  obtain ⟨rfl, h⟩ := h
  obtain ⟨v1, _⟩ := rTgs_got (got_of h)
  obtain ⟨e1, _⟩ := rText_got (got_of v1)
  refine ⟨e1.trans ?_, trivial⟩
  simp [plB]
theorem rRt_got {s : Ps} {p : Rt} {r : Bs} (h : rRt s = (p, .ok r)) : s = .ok (rtB p ++ r) ∧ True := by
  simp only [rRt, Prod.mk.injEq] at h
  obtain ⟨rfl, h⟩ := h
  obtain ⟨v1, _⟩ := rText_got (got_of h)
  obtain ⟨e1, _⟩ := rText_got (got_of v1)
  obtain ⟨q1, _⟩ := rText_got (got_of e1)
  refine ⟨q1.trans ?_, trivial⟩
  simp [rtB]
theorem load_got {b : Bs} {s : Sm} (h : load b = .ok s) : putS s = b ∧ Inv s := by
  unfold load at h
  split at h
  · cases h
  · rename_i r hr
    split at h
    · cases h
    · rename_i hn
      injection h with h
      rw [not_or] at hn
      obtain ⟨h1, h2⟩ := hn
      have h1 : r = [] := by cases r with
        | nil => rfl
        | cons _ _ => simp at h1
      subst h1
      have h2 : right (rSm b).1 = true := by simpa using h2
      subst h
      simp only [rSm] at hr h2 ⊢
      obtain ⟨l1, l2, l3⟩ := rMany_got (f := rLa) (fun s a r h => rLa_got h) _ _ _ _ (got_of hr)
      obtain ⟨k1, k2, _⟩ := rNum_got (got_of l1)
      obtain ⟨r1, r2, _⟩ := rMany_got (f := rRt) (fun s a r h => rRt_got h) _ _ _ _ (got_of k1)
      obtain ⟨m1, m2, _⟩ := rNum_got (got_of r1)
      obtain ⟨p1, p2, _⟩ := rMany_got (f := rPl) (fun s a r h => rPl_got h) _ _ _ _ (got_of m1)
      obtain ⟨n1, n2, _⟩ := rNum_got (got_of p1)
      obtain ⟨v1, v2, _⟩ := rNum_got (got_of n1)
      injection v1 with v1
      constructor
      · refine Eq.trans ?_ v1.symm
        simp only [putS, confB, p2, r2, l2, List.append_assoc, List.append_nil]
      · simp only [Cm.right, Bool.and_eq_true, decide_eq_true_eq] at h2
        obtain ⟨⟨⟨⟨a1, a2⟩, b1, b2⟩, c1, c2⟩, d⟩ := h2
        refine ⟨by simp, by simp only [maxN] at v2; simp only [maxN]; omega, fun p hp => ?_, a2, by simp only [p2]; omega, fun r hr => ?_, b2, by simp only [r2]; omega, fun x hx => ?_, c2, d⟩
        · have := List.all_eq_true.1 a1 p hp
          simpa using this
        · have := List.all_eq_true.1 b1 r hr
          simp only [Bool.and_eq_true] at this
          exact ⟨this.1.1, this.1.2, this.2⟩
        · have := List.all_eq_true.1 c1 x hx
          simp only [rightL, Bool.and_eq_true, decide_eq_true_eq] at this
          have h3 := l3 x hx
          exact ⟨this.1.1.1, ⟨this.1.1.2, h3.2.1⟩, this.1.2, h3.2.2, this.2⟩
end Go.Cm

/-
  What is taken away makes no bytes more; what maps come to is what lists come to.
-/
namespace Go.Cm
theorem num_one {n : Nat} (h : n < 128) : (num n).length = 1 := by
  unfold num
  rw [if_neg (by omega), Int.toNat_natCast]
  unfold encNF
  rw [if_pos h]; rfl
theorem flat_sub {α : Type} {f : α → Bs} {l l' : List α} (h : l.Sublist l') : (l.flatMap f).length ≤ (l'.flatMap f).length := by
  induction h with
  | slnil => simp
  | cons a _ ih => simp only [List.flatMap_cons, List.length_append]; omega
  | cons_cons a _ ih => simp only [List.flatMap_cons, List.length_append]; omega
theorem confB_sub {p p' : List Pl} {r r' : List Rt} (hp : p.Sublist p') (hr : r.Sublist r') (h1 : p'.length ≤ 32) (h2 : r'.length ≤ 64) : (confB p r).length ≤ (confB p' r').length := by
  have a1 := hp.length_le; have a2 := hr.length_le
  have b1 := flat_sub (f := plB) hp; have b2 := flat_sub (f := rtB) hr
  simp only [confB, List.length_append]
  rw [num_one (n := p.length) (by omega), num_one (n := p'.length) (by omega), num_one (n := r.length) (by omega), num_one (n := r'.length) (by omega)]
  omega
theorem fit_butPool {s : Sm} (I : Inv s) (n : Bs) : fit s { s with pools := butPool s n } = ({ s with pools := butPool s n }, 0) := by
  unfold fit
  have := confB_sub (p := butPool s n) (r := s.routes) List.filter_sublist (List.Sublist.refl _) I.pn I.rn
  rw [if_neg (by have := I.sz; simp only; omega)]
theorem fit_butRoute {s : Sm} (I : Inv s) (h p : Bs) : fit s { s with routes := butRoute s h p } = ({ s with routes := butRoute s h p }, 0) := by
  unfold fit
  have := confB_sub (p := s.pools) (r := butRoute s h p) (List.Sublist.refl _) List.filter_sublist I.pn I.rn
  rw [if_neg (by have := I.sz; simp only; omega)]
theorem put_but_perm {s : Sm} (x : Pl) : (put plLt (butPool s x.name) x).Perm (x :: butPool s x.name) := by
  refine (put_perm plOrd _ _).trans (List.Perm.cons _ ?_)
  rw [List.filter_eq_self.2 fun a ha => ?_]
  have := (List.mem_filter.1 ha).2
  simpa [plSame] using this
theorem put_butR_perm {s : Sm} (x : Rt) : (put rtLt (butRoute s x.host x.pfx) x).Perm (x :: butRoute s x.host x.pfx) := by
  refine (put_perm rtOrd _ _).trans (List.Perm.cons _ ?_)
  rw [List.filter_eq_self.2 fun a ha => ?_]
  have := (List.mem_filter.1 ha).2
  simpa [rtSame] using this
end Go.Cm

/-
  The program's store: three maps that hold what the lists hold; New, the configuration's bytes.
-/
namespace Go.Vc
open Go Go.Proofs Go.Proofs.YtcpmfjclkdjfmaaGreat
set_option maxRecDepth 100000

theorem KeyLaw.comap {κ κ' : Type} [DecidableEq κ] [DecidableEq κ'] {P : Program} {t : TypeId} {d : TypeDesc} {kv : κ → Value} (K : KeyLaw P t d kv) (f : κ' → κ) (hf : ∀ a b, f a = f b → a = b) : KeyLaw P t d (fun a => kv (f a)) where
  und := K.und
  eq a b w := by rw [K.eq]; congr 1; exact decide_eq_decide.2 ⟨hf a b, congrArg f⟩
  chk a e w := K.chk (f a) e w
  now a b r h := by rw [K.now _ _ _ h]; exact decide_eq_decide.2 ⟨hf a b, congrArg f⟩
  bits a := K.bits (f a)
theorem strLaw : KeyLaw Tryz.prog 9 .string encS := KeyLaw.comap (keyLaw_string (t := 9) (by kernel_rfl)) bs fun _ _ h => bs_inj h
theorem intLaw : KeyLaw Tryz.prog 3 (.int .i64) encI := keyLaw_int (t := 3) (by kernel_rfl)
theorem placeLaw : KeyLaw Tryz.prog 89 (.struct #[⟨ "host", 9, 0, false, "", "tollgate/conf", 0⟩, ⟨ "prefix", 9, 1, false, "", "tollgate/conf", 16⟩]) encP :=
  KeyLaw.comap (keyLaw_str2 (P := Tryz.prog) (t := 89) (by kernel_rfl) (by kernel_rfl) (by kernel_rfl) (by decide) (by decide) rfl rfl (by kernel_rfl)) (fun x : Pr => (bs x.1, bs x.2))
    fun a b h => by simp only [Prod.mk.injEq] at h; exact Prod.ext (bs_inj h.1) (bs_inj h.2)
theorem und_pools : Tryz.prog.underlying 75 = some (.map 9 32) := by kernel_rfl
theorem und_routes : Tryz.prog.underlying 76 = some (.map 89 9) := by kernel_rfl
theorem und_clients : Tryz.prog.underlying 77 = some (.map 3 91) := by kernel_rfl
theorem tm_tgs : tmpl Tryz.prog 32 = some (.slice none 0 0) := by kernel_rfl
theorem tm_str : tmpl Tryz.prog 9 = some (.string (ByteArray.mk #[])) := by kernel_rfl
theorem tm_seen : tmpl Tryz.prog 91 = some (.agg #[.int .i64 0, .int .i64 0, .int .i64 0]) := by kernel_rfl

abbrev PV := Sl × List Cm.Tgt
def pvV (v : PV) : Value := .slice v.1.1 v.1.2.1 v.1.2.2
abbrev LV := Int × Int × Int
def lvV (v : LV) : Value := .agg #[.int .i64 v.1, .int .i64 v.2.1, .int .i64 v.2.2]
def plOf (e : Cm.Bs × PV) : Cm.Pl := ⟨e.1, e.2.2⟩
def rtK (r : Cm.Rt) : Pr × Cm.Bs := ((r.host, r.pfx), r.pool)
def laK (x : Cm.Last) : Int × LV := (x.client, x.seq, x.e, x.ver)
def goodP (F : Fz) (v : PV) : Prop := RdF F v.1.1 v.1.2.1 2 (v.2.flatMap tV)
def poolsR (F : Fz) (M : List (Cm.Bs × PV)) (ps : List Cm.Pl) : Prop := (∀ e ∈ M, goodP F e.2) ∧ (M.map plOf).Perm ps
def routesR (M : List (Pr × Cm.Bs)) (rs : List Cm.Rt) : Prop := M.Perm (rs.map rtK)
def clientsR (M : List (Int × LV)) (ls : List Cm.Last) : Prop := M.Perm (ls.map laK)
def stL (v : Int) (mp mr mc : Nat) : List Value := [.int .i64 v, .map (some mp), .map (some mr), .map (some mc)]
/-- The store at p is s. -/
def stA (F : Fz) (p : Nat) (s : Cm.Sm) : Asrt := fun h => ∃ (x : Nat × Nat × Nat × List (Cm.Bs × PV) × List (Pr × Cm.Bs) × List (Int × LV)), poolsR F x.2.2.2.1 s.pools ∧ routesR x.2.2.2.2.1 s.routes ∧ clientsR x.2.2.2.2.2 s.l ∧
  seps [blkL p 79 (stL s.ver x.1 x.2.1 x.2.2.1), mapA x.1 encS pvV x.2.2.2.1, mapA x.2.1 encP encS x.2.2.2.2.1, mapA x.2.2.1 encI lvV x.2.2.2.2.2] h
section
variable {E w : World} {L : List Asrt} {R : Ending → World → Prop} {F G : Fz} {p : Nat} {s : Cm.Sm}
abbrev st4 (p : Nat) (v : Int) (mp mr mc : Nat) (Mp : List (Cm.Bs × PV)) (Mr : List (Pr × Cm.Bs)) (Mc : List (Int × LV)) (L : List Asrt) : List Asrt :=
  blkL p 79 (stL v mp mr mc) :: mapA mp encS pvV Mp :: mapA mr encP encS Mr :: mapA mc encI lvV Mc :: L
theorem St.st_open (h : St E (stA F p s :: L) w) : ∃ mp mr mc Mp Mr Mc, poolsR F Mp s.pools ∧ routesR Mr s.routes ∧ clientsR Mc s.l ∧ St E (st4 p s.ver mp mr mc Mp Mr Mc L) w := by
  obtain ⟨en, x, ⟨h1, h2, d, rfl, ⟨y, ho1, ho2, ho3, hs⟩, hL⟩, hl⟩ := h
  exact ⟨_, _, _, _, _, _, ho1, ho2, ho3, St.open_ (L1 := [_, _, _, _]) ⟨en, _, ⟨h1, h2, d, rfl, hs, hL⟩, hl⟩⟩
theorem St.st_mk {mp mr mc : Nat} {Mp : List (Cm.Bs × PV)} {Mr : List (Pr × Cm.Bs)} {Mc : List (Int × LV)} (hp : poolsR F Mp s.pools) (hr : routesR Mr s.routes) (hc : clientsR Mc s.l) (h : St E (st4 p s.ver mp mr mc Mp Mr Mc L) w) : St E (stA F p s :: L) w :=
  (St.shut (L1 := [_, _, _, _]) h).mono fun _ hx => ⟨(mp, mr, mc, Mp, Mr, Mc), hp, hr, hc, hx⟩
theorem poolsR.mono {M : List (Cm.Bs × PV)} {ps : List Cm.Pl} (h : poolsR F M ps) (k : Fz.le F G) : poolsR G M ps := ⟨fun e he => RdF.mono (h.1 e he) k, h.2⟩
theorem St.st_mono (h : St E (stA F p s :: L) w) (k : Fz.le F G) : St E (stA G p s :: L) w := h.mono fun _ ⟨y, h1, h2, h3, h4⟩ => ⟨y, h1.mono k, h2, h3, h4⟩

theorem mget_mem {κ ν : Type} [DecidableEq κ] : ∀ {m : List (κ × ν)}, (m.map (·.1)).Nodup → ∀ {e : κ × ν}, e ∈ m → mget m e.1 = some e.2
  | [], _, _, h => by cases h
  | p :: r, hn, e, h => by
    rw [mget_cons]
    rw [List.map_cons, List.nodup_cons] at hn
    rcases List.mem_cons.1 h with rfl | h
    · simp
    · rw [if_neg (fun he : p.1 = e.1 => hn.1 (by rw [he]; exact List.mem_map_of_mem h)), mget_mem hn.2 h]
theorem St.nodup {κ ν : Type} [DecidableEq κ] {b : Nat} {kv : κ → Value} {vv : ν → Value} {m : List (κ × ν)} (h : St E (mapA b kv vv m :: L) w) : (m.map (·.1)).Nodup := by
  obtain ⟨_, _, _, _, hn, _⟩ := h.mapA_open
  exact hn
theorem mget_none_iff {κ ν : Type} [DecidableEq κ] {m : List (κ × ν)} {a : κ} : mget m a = none ↔ a ∉ m.map (·.1) := by
  refine ⟨fun h hm => ?_, mget_none_of⟩
  induction m with
  | nil => cases hm
  | cons e r ih =>
    rw [mget_cons] at h
    split at h
    · cases h
    · rename_i hne
      rcases List.mem_cons.1 hm with he | he
      · exact hne he.symm
      · exact ih h he
theorem mget_some {κ ν : Type} [DecidableEq κ] {m : List (κ × ν)} {a : κ} {v : ν} (h : mget m a = some v) : (a, v) ∈ m := by
  induction m with
  | nil => cases h
  | cons e r ih =>
    rw [mget_cons] at h
    split at h
    · rename_i he
      cases h
      exact List.mem_cons.2 (.inl (by rw [← he]))
    · exact List.mem_cons_of_mem _ (ih h)

/-- New: P8.2. -/
theorem New_spec (F : Fz) (h : St E L w) (k : ∀ p w', St E (stA F p Cm.new :: L) w' → R (.returned (.pointer (some ⟨p, 0, none⟩))) w') : Calls Tryz.prog 35 #[] w R := by
  refine C_conf_New ?_
  unfold T_conf_New
  intro w1 w2 w3 w4
  have h1 : St E (mapA w.heap.size encS pvV [] :: L) w1 := h.mapA_new encS pvV
  have h2 : St E (mapA w1.heap.size encP encS [] :: mapA w.heap.size encS pvV [] :: L) w2 := h1.mapA_new encP encS
  have h3 : St E (mapA w2.heap.size encI lvV [] :: mapA w1.heap.size encP encS [] :: mapA w.heap.size encS pvV [] :: L) w3 := h2.mapA_new encI lvV
  have h4 := h3.alloc (.cells #[.int .i64 0, .map (some w.heap.size), .map (some w1.heap.size), .map (some w2.heap.size)] 79)
  exact k _ _ (St.st_mk (mp := w.heap.size) (mr := w1.heap.size) (mc := w2.heap.size) (Mp := []) (Mr := []) (Mc := []) ⟨(fun e he => nomatch he), List.Perm.nil⟩ List.Perm.nil List.Perm.nil (h4.sel 4 [0, 3, 2, 1]))

/-- What a store's lists must be that its bytes can be laid. -/
structure Sz (s : Cm.Sm) : Prop where
  pl : ∀ p ∈ s.pools, p.name.length ≤ 128 ∧ shortTs p.tg
  pr : Cm.rises Cm.plLt s.pools = true
  pn : s.pools.length ≤ 64
  rt : ∀ r ∈ s.routes, r.host.length ≤ 128 ∧ r.pfx.length ≤ 128 ∧ r.pool.length ≤ 128
  rr : Cm.rises Cm.rtLt s.routes = true
  rn : s.routes.length ≤ 128
theorem short_of {l : List Cm.Tgt} (h : Cm.chkT l = 0) : shortTs l := ⟨(Cm.chkT_zero h).2, fun t ht => by
  have := Cm.chkT_good h t ht
  exact ⟨this.1, this.2⟩⟩
theorem Sz.of {s : Cm.Sm} (I : Cm.Inv s) : Sz s :=
  ⟨fun p hp => ⟨by have := Cm.name_len (I.pl p hp).1; omega, short_of (I.pl p hp).2⟩, I.pr, by have := I.pn; omega,
   fun r hr => ⟨by have := Cm.host_len (I.rt r hr).2.1; omega, by have := Cm.pfx_len (I.rt r hr).2.2; omega, by
     have := (I.rt r hr).1
     simp only [Cm.there, List.any_eq_true, decide_eq_true_eq] at this
     obtain ⟨p, hp, hn⟩ := this
     have := Cm.name_len (I.pl p hp).1
     rw [← hn]; omega⟩, I.rr, by have := I.rn; omega⟩
theorem tgsMax_short {l : List Cm.Tgt} (h : shortTs l) : tgsMax l ≤ 2278 := by
  have key : ∀ l : List Cm.Tgt, (∀ t ∈ l, t.addr.length ≤ 128) → (l.map fun t => 14 + t.addr.length).sum ≤ l.length * 142 := by
    intro l
    induction l with
    | nil => intro _; simp
    | cons a r ih =>
      intro hl
      have := ih fun t ht => hl t (List.mem_cons_of_mem _ ht)
      have := hl a List.mem_cons_self
      simp only [List.map_cons, List.sum_cons, List.length_cons]; omega
  have := key l fun t ht => (h.2 t ht).1
  have := h.1
  unfold tgsMax; omega
theorem tgs_max (l : List Cm.Tgt) : (Cm.tgs l).length ≤ tgsMax l := by
  have := flat_tgt_len l
  have := num_len l.length
  unfold tgsMax
  simp only [Cm.tgs, List.length_append]; omega
theorem flat_max {α : Type} {f : α → Cm.Bs} {c : Nat} : ∀ {l : List α}, (∀ a ∈ l, (f a).length ≤ c) → (l.flatMap f).length ≤ l.length * c
  | [], _ => by simp
  | a :: r, h => by
    have := flat_max (l := r) fun b hb => h b (List.mem_cons_of_mem _ hb)
    have := h a List.mem_cons_self
    rw [List.flatMap_cons, List.length_append, List.length_cons, Nat.add_mul]; omega
theorem plB_len {x : Cm.Pl} (h : x.name.length ≤ 128 ∧ shortTs x.tg) : (Cm.plB x).length ≤ 2412 := by
  have := text_len x.name
  have := tgs_max x.tg
  have := tgsMax_short h.2
  have := h.1
  simp only [Cm.plB, List.length_append]; omega
theorem rtB_len {x : Cm.Rt} (h : x.host.length ≤ 128 ∧ x.pfx.length ≤ 128 ∧ x.pool.length ≤ 128) : (Cm.rtB x).length ≤ 402 := by
  have := text_len x.host
  have := text_len x.pfx
  have := text_len x.pool
  obtain ⟨h1, h2, h3⟩ := h
  simp only [Cm.rtB, List.length_append]; omega
theorem take_all {α : Type} {P : α → Prop} {l : List α} (h : ∀ a ∈ l, P a) (j : Nat) : ∀ a ∈ l.take j, P a := fun a ha => h a (List.mem_of_mem_take ha)
theorem pls_len (S : Sz s) (j : Nat) : ((s.pools.take j).flatMap Cm.plB).length ≤ 154368 := by
  have h1 := flat_max (f := Cm.plB) (c := 2412) fun a ha => plB_len (take_all S.pl j a ha)
  have h2 : (s.pools.take j).length ≤ 64 := by have := S.pn; simp; omega
  have : (s.pools.take j).length * 2412 ≤ 64 * 2412 := Nat.mul_le_mul_right _ h2
  omega
theorem rts_len (S : Sz s) (j : Nat) : ((s.routes.take j).flatMap Cm.rtB).length ≤ 51456 := by
  have h1 := flat_max (f := Cm.rtB) (c := 402) fun a ha => rtB_len (take_all S.rt j a ha)
  have h2 : (s.routes.take j).length ≤ 128 := by have := S.rn; simp; omega
  have : (s.routes.take j).length * 402 ≤ 128 * 402 := Nat.mul_le_mul_right _ h2
  omega
theorem confB_len (S : Sz s) : (Cm.confB s.pools s.routes).length ≤ 210000 := by
  have h1 := pls_len S s.pools.length
  have h2 := rts_len S s.routes.length
  rw [List.take_length] at h1 h2
  have := num_len s.pools.length
  have := num_len s.routes.length
  simp only [Cm.confB, List.length_append]; omega
/-- The pools' names, the routes' places, in their order. -/
def nmK (p : Cm.Pl) : Cm.Bs := p.name
def plK (r : Cm.Rt) : Pr := (r.host, r.pfx)
theorem names_rise (h : Cm.rises Cm.plLt s.pools = true) : (s.pools.map nmK).Pairwise (· < ·) := by
  rw [List.pairwise_map]
  exact ((Cm.rises_iff Cm.plOrd _).1 h).imp fun {a b} h => of_decide_eq_true h
theorem places_rise (h : Cm.rises Cm.rtLt s.routes = true) : (s.routes.map plK).Pairwise fun a b => prLt a b = true := by
  rw [List.pairwise_map]
  exact ((Cm.rises_iff Cm.rtOrd _).1 h).imp fun {a b} h => h
theorem names_perm {M : List (Cm.Bs × PV)} {ps : List Cm.Pl} (h : poolsR F M ps) : (ps.map nmK).Perm (M.map (·.1)) := by
  have := (h.2.map nmK).symm
  rwa [List.map_map] at this
theorem places_perm {M : List (Pr × Cm.Bs)} {rs : List Cm.Rt} (h : routesR M rs) : (rs.map plK).Perm (M.map (·.1)) := by
  have := (h.map (·.1)).symm
  rwa [List.map_map] at this
theorem pool_get {M : List (Cm.Bs × PV)} {ps : List Cm.Pl} (h : poolsR F M ps) (hn : (M.map (·.1)).Nodup) {x : Cm.Pl} (hx : x ∈ ps) : ∃ v : PV, mget M x.name = some v ∧ v.2 = x.tg ∧ goodP F v := by
  have := h.2.mem_iff.2 hx
  obtain ⟨e, he, rfl⟩ := List.mem_map.1 this
  exact ⟨e.2, mget_mem hn he, rfl, h.1 e he⟩
theorem route_get {M : List (Pr × Cm.Bs)} {rs : List Cm.Rt} (h : routesR M rs) (hn : (M.map (·.1)).Nodup) {x : Cm.Rt} (hx : x ∈ rs) : mget M (x.host, x.pfx) = some x.pool := by
  have : rtK x ∈ M := h.mem_iff.2 (List.mem_map_of_mem hx)
  exact mget_mem hn this
theorem key_at {a : Option Addr} {ks : List Cm.Bs} (h : RdS w a ks.length 1 (ks.flatMap celS)) {j : Nat} (hj : j < ks.length) : ∃ ad, a = some ad ∧ rd w (ad.add (j * 1)) (.string (bs ks[j])) := by
  obtain ⟨ad, ha, _, hk⟩ := h.elem (f := celS) (fun _ => rfl) (List.getElem?_eq_getElem hj) (by decide)
  exact ⟨ad, ha, hk 0 _ rfl rfl⟩
end
end Go.Vc

/-
  The program's store: the bytes of a configuration.
-/
namespace Go.Vc
open Go Go.Proofs Go.Proofs.YtcpmfjclkdjfmaaGreat
set_option maxRecDepth 100000
section
variable {E w : World} {L : List Asrt} {R : Ending → World → Prop} {F G : Fz} {p : Nat} {s : Cm.Sm} {xs : Cm.Bs} {b : Sl}
theorem look_pool {mp : Nat} {Mp : List (Cm.Bs × PV)} {n : Cm.Bs} {v : PV} (h : St E (mapA mp encS pvV Mp :: L) w) (hv : mget Mp n = some v) :
    (Instr.lookup 75 (.map (some mp)) (.string (bs n)) false).run Tryz.prog w = .ok (.slice v.1.1 v.1.2.1 v.1.2.2) w := by
  have := lookup_run strLaw und_pools tm_tgs h n
  rw [hv] at this
  exact this
theorem look_route {mr : Nat} {Mr : List (Pr × Cm.Bs)} {n : Pr} {v : Cm.Bs} (h : St E (mapA mr encP encS Mr :: L) w) (hv : mget Mr n = some v) :
    (Instr.lookup 76 (.map (some mr)) (.agg #[.string (bs n.1), .string (bs n.2)]) false).run Tryz.prog w = .ok (.string (bs v)) w := by
  have := lookup_run placeLaw und_routes tm_str h n
  rw [hv] at this
  exact this
theorem place_at {a : Option Addr} {ks : List Pr} (h : RdS w a ks.length 2 (ks.flatMap celP)) {j : Nat} (hj : j < ks.length) : ∃ ad, a = some ad ∧ rd w (ad.add (j * 2)) (.agg #[.string (bs ks[j].1), .string (bs ks[j].2)]) := by
  obtain ⟨ad, ha, hk, _⟩ := h.elem (f := celP) (fun _ => rfl) (List.getElem?_eq_getElem hj) (by decide)
  exact ⟨ad, ha, hk⟩
theorem config_l1 {Kn : Option Addr → Nat → Nat → World → Prop} {Kp : List PanicEntry → World → Prop} {ka : Option Addr} {kc mp mr mc : Nat} {Mp : List (Cm.Bs × PV)} {Mr : List (Pr × Cm.Bs)} {Mc : List (Int × LV)} (hm : kn F ∈ L) (S : Sz s) (hp : poolsR F Mp s.pools)
    (h : St E (byA b xs :: ownS ka (s.pools.map nmK).length kc 9 1 ((s.pools.map nmK).flatMap celS) :: st4 p s.ver mp mr mc Mp Mr Mc L) w) (hx : xs.length ≤ 1200000)
    (k : ∀ (w : World) (b : Sl), St E (byA b (xs ++ s.pools.flatMap Cm.plB) :: ownS ka (s.pools.map nmK).length kc 9 1 ((s.pools.map nmK).flatMap celS) :: st4 p s.ver mp mr mc Mp Mr Mc L) w → Kn b.1 b.2.1 b.2.2 w) :
    T_conf_Store_config_1 b.1 b.2.1 b.2.2 0 (some ⟨p, 0, none⟩) ka (s.pools.map nmK).length kc (((s.pools.map nmK).length : Nat) : Int) w Kn Kp := by
  have hbig : big = 140737488355328 := rfl
  have hpn := S.pn
  unfold T_conf_Store_config_1
  intro X hX
  refine up_to s.pools.length (Q := fun j => ∀ (w : World) (b : Sl), St E (byA b (xs ++ (s.pools.take j).flatMap Cm.plB) :: ownS ka (s.pools.map nmK).length kc 9 1 ((s.pools.map nmK).flatMap celS) :: st4 p s.ver mp mr mc Mp Mr Mc L) w → X b.1 b.2.1 b.2.2 (j : Int) w) ?_ w b (by simpa using h)
  intro j hj ih w b h
  refine hX _ _ _ _ _ ?_
  unfold T_conf_Store_config_1_body
  rw [List.length_map]
  refine ite_d (fun hc => ?_) (fun hc => ?_)
  · have hjl : j < s.pools.length := by omega
    obtain ⟨ad, ha, hrd⟩ := key_at (ks := s.pools.map nmK) h.f1.rdS_own (j := j) (by simpa using hjl)
    rw [List.getElem_map] at hrd
    refine ⟨by omega, by omega, ad, ha, _, by rw [Int.toNat_natCast]; exact hrd, ?_⟩
    intro w4
    have h4 : St E _ w4 := h.drew
    have hx1 := pls_len S j
    obtain ⟨hx3, hx4⟩ := S.pl _ (List.getElem_mem hjl)
    have hx5 := tgsMax_short hx4
    have hx6 := text_len (nmK s.pools[j])
    have hx7 : (nmK s.pools[j]).length ≤ 128 := hx3
    obtain ⟨v, hv, hvt, hvg⟩ := pool_get hp h.f3.nodup (List.getElem_mem hjl)
    have hvg : RdF F v.1.1 v.1.2.1 2 (s.pools[j].tg.flatMap tV) := hvt ▸ hvg
    have fin : ∀ (w : World) (b : Sl), St E (byA b (xs ++ (s.pools.take j).flatMap Cm.plB ++ Cm.text (nmK s.pools[j]) ++ Cm.tgs s.pools[j].tg) :: ownS ka (s.pools.map nmK).length kc 9 1 ((s.pools.map nmK).flatMap celS) :: st4 p s.ver mp mr mc Mp Mr Mc L) w → X b.1 b.2.1 b.2.2 (IntKind.wrap .i64 ((j : Int) + 1)) w := fun w b h => by
      rw [succ_big (by omega)]
      refine ih hjl _ _ ?_
      rw [List.take_succ_eq_append_getElem hjl, List.flatMap_append]
      simpa [Cm.plB, nmK] using h
    have hm5 : ∀ {A B C D H : Asrt}, kn F ∈ A :: B :: C :: D :: H :: L := List.mem_cons_of_mem _ (List.mem_cons_of_mem _ (List.mem_cons_of_mem _ (List.mem_cons_of_mem _ (List.mem_cons_of_mem _ hm))))
    refine ⟨_, rfl, _, rd_fld h4.f2.at_blk rfl rfl, ?_, ?_⟩
    · refine text_spec (x := nmK s.pools[j]) h4 (by simp only [List.length_append]; omega) fun w5 b5 h5 => ⟨_, _, _, rfl, ⟨rd_fld h5.f2.at_blk rfl rfl, trivial⟩, runV_ok (look_pool h5.f3 hv) ⟨_, _, _, rfl, trivial, ?_⟩⟩
      exact row_spec hm5 hvg hx4.ok h5 (by simp only [List.length_append]; omega) fun w6 b6 h6 => ⟨_, _, _, rfl, trivial, fin _ _ h6⟩
    · refine runV_ok (look_pool h4.f3 hv) ⟨_, _, _, rfl, trivial, ?_⟩
      refine text_spec (x := nmK s.pools[j]) h4 (by simp only [List.length_append]; omega) fun w5 b5 h5 => ⟨_, _, _, rfl, trivial, ?_⟩
      exact row_spec hm5 hvg hx4.ok h5 (by simp only [List.length_append]; omega) fun w6 b6 h6 => ⟨_, _, _, rfl, trivial, fin _ _ h6⟩
  · rw [List.take_of_length_le (by omega)] at h
    exact k _ _ h
set_option maxHeartbeats 2000000 in
theorem config_l2 {Kn : Option Addr → Nat → Nat → World → Prop} {Kp : List PanicEntry → World → Prop} {ka : Option Addr} {kc mp mr mc : Nat} {Mp : List (Cm.Bs × PV)} {Mr : List (Pr × Cm.Bs)} {Mc : List (Int × LV)} (S : Sz s) (hr : routesR Mr s.routes)
    (h : St E (byA b xs :: ownS ka (s.routes.map plK).length kc 89 2 ((s.routes.map plK).flatMap celP) :: st4 p s.ver mp mr mc Mp Mr Mc L) w) (hx : xs.length ≤ 1500000)
    (k : ∀ (w : World) (b : Sl), St E (byA b (xs ++ s.routes.flatMap Cm.rtB) :: ownS ka (s.routes.map plK).length kc 89 2 ((s.routes.map plK).flatMap celP) :: st4 p s.ver mp mr mc Mp Mr Mc L) w → Kn b.1 b.2.1 b.2.2 w) :
    T_conf_Store_config_2 b.1 b.2.1 b.2.2 0 (some ⟨p, 0, none⟩) ka (s.routes.map plK).length kc (((s.routes.map plK).length : Nat) : Int) w Kn Kp := by
  have hbig : big = 140737488355328 := rfl
  have hrn := S.rn
  unfold T_conf_Store_config_2
  intro X hX
  refine up_to s.routes.length (Q := fun j => ∀ (w : World) (b : Sl), St E (byA b (xs ++ (s.routes.take j).flatMap Cm.rtB) :: ownS ka (s.routes.map plK).length kc 89 2 ((s.routes.map plK).flatMap celP) :: st4 p s.ver mp mr mc Mp Mr Mc L) w → X b.1 b.2.1 b.2.2 (j : Int) w) ?_ w b (by simpa using h)
  intro j hj ih w b h
  refine hX _ _ _ _ _ ?_
  unfold T_conf_Store_config_2_body
  rw [List.length_map]
  refine ite_d (fun hc => ?_) (fun hc => ?_)
  · have hjl : j < s.routes.length := by omega
    obtain ⟨ad, ha, hrd⟩ := place_at (ks := s.routes.map plK) h.f1.rdS_own (j := j) (by simpa using hjl)
    rw [List.getElem_map] at hrd
    refine ⟨by omega, by omega, ad, ha, _, _, by rw [Int.toNat_natCast]; exact hrd, ?_⟩
    have hx1 := rts_len S j
    obtain ⟨hx3, hx4, hx5⟩ := S.rt _ (List.getElem_mem hjl)
    have e1 := text_len s.routes[j].host
    have e2 := text_len s.routes[j].pfx
    have e3 := text_len s.routes[j].pool
    have hv := route_get hr h.f4.nodup (List.getElem_mem hjl)
    intro w8
    have h8 := h.alloc (.cells #[.string (ByteArray.mk #[]), .string (ByteArray.mk #[])] 89)
    refine ⟨rfl, wrOk_agg h8.at_blk (xs := celP (plK s.routes[j])) (by simp [celP]) (by intro u hu; simp [celP] at hu; rcases hu with rfl | rfl <;> rfl), ?_⟩
    intro w9 w10
    have h10 : St E (blkL w.heap.size 89 (celP (plK s.routes[j])) :: byA b (xs ++ (s.routes.take j).flatMap Cm.rtB) :: ownS ka (s.routes.map plK).length kc 89 2 ((s.routes.map plK).flatMap celP) :: st4 p s.ver mp mr mc Mp Mr Mc L) w10 := (h8.wr_agg0 (xs := celP (plK s.routes[j])) rfl).drew
    generalize w.heap.size = bk at *
    have h10 : St E (byA b (xs ++ (s.routes.take j).flatMap Cm.rtB) :: blkL bk 89 (celP (plK s.routes[j])) :: ownS ka (s.routes.map plK).length kc 89 2 ((s.routes.map plK).flatMap celP) :: st4 p s.ver mp mr mc Mp Mr Mc L) w10 := h10.f1
    clear_value w10
    have lk : ∀ {w : World} {ys : Cm.Bs} {b : Sl}, St E (byA b ys :: blkL bk 89 (celP (plK s.routes[j])) :: ownS ka (s.routes.map plK).length kc 89 2 ((s.routes.map plK).flatMap celP) :: st4 p s.ver mp mr mc Mp Mr Mc L) w →
        (Instr.lookup 76 (.map (some mr)) (.agg #[.string (bs s.routes[j].host), .string (bs s.routes[j].pfx)]) false).run Tryz.prog w = .ok (.string (bs s.routes[j].pool)) w := fun h => look_route h.f5 hv
    have r0 : ∀ {w : World} {ys : Cm.Bs} {b : Sl}, St E (byA b ys :: blkL bk 89 (celP (plK s.routes[j])) :: ownS ka (s.routes.map plK).length kc 89 2 ((s.routes.map plK).flatMap celP) :: st4 p s.ver mp mr mc Mp Mr Mc L) w →
        rd w ⟨bk, 0, none⟩ (.string (bs s.routes[j].host)) := fun h => rd_cell h.f1.at_blk rfl rfl
    have r1 : ∀ {w : World} {ys : Cm.Bs} {b : Sl}, St E (byA b ys :: blkL bk 89 (celP (plK s.routes[j])) :: ownS ka (s.routes.map plK).length kc 89 2 ((s.routes.map plK).flatMap celP) :: st4 p s.ver mp mr mc Mp Mr Mc L) w →
        rd w ((⟨bk, 0, none⟩ : Addr).add 1) (.string (bs s.routes[j].pfx)) := fun h => rd_fld h.f1.at_blk rfl rfl
    have ra : ∀ {w : World} {ys : Cm.Bs} {b : Sl}, St E (byA b ys :: blkL bk 89 (celP (plK s.routes[j])) :: ownS ka (s.routes.map plK).length kc 89 2 ((s.routes.map plK).flatMap celP) :: st4 p s.ver mp mr mc Mp Mr Mc L) w →
        rd w ⟨bk, 0, none⟩ (.agg #[.string (bs s.routes[j].host), .string (bs s.routes[j].pfx)]) := fun h => rd_agg (xs := celP (plK s.routes[j])) h.f1.at_blk (by intro i u hu; rw [Nat.zero_add]; exact hu)
    have rm : ∀ {w : World} {ys : Cm.Bs} {b : Sl}, St E (byA b ys :: blkL bk 89 (celP (plK s.routes[j])) :: ownS ka (s.routes.map plK).length kc 89 2 ((s.routes.map plK).flatMap celP) :: st4 p s.ver mp mr mc Mp Mr Mc L) w →
        rd w ((⟨p, 0, none⟩ : Addr).add 2) (.map (some mr)) := fun h => rd_fld h.f3.at_blk rfl rfl
    have fin : ∀ (w : World) (b : Sl), St E (byA b (xs ++ (s.routes.take j).flatMap Cm.rtB ++ Cm.text s.routes[j].host ++ Cm.text s.routes[j].pfx ++ Cm.text s.routes[j].pool) :: blkL bk 89 (celP (plK s.routes[j])) :: ownS ka (s.routes.map plK).length kc 89 2 ((s.routes.map plK).flatMap celP) :: st4 p s.ver mp mr mc Mp Mr Mc L) w → X b.1 b.2.1 b.2.2 (IntKind.wrap .i64 ((j : Int) + 1)) w := fun w b h => by
      rw [succ_big (by omega)]
      refine ih hjl _ _ ?_
      rw [List.take_succ_eq_append_getElem hjl, List.flatMap_append]
      have := h.f1.drop
      simpa [Cm.rtB] using this
    refine ⟨_, r0 h10, _, r1 h10, _, rfl, _, rm h10, _, _, ra h10, ?_, ?_⟩
    · refine text_spec (x := s.routes[j].host) h10 (by simp only [List.length_append]; omega) fun w1 b1 h1 => ⟨_, _, _, rfl, ⟨ra h1, rm h1, r1 h1, trivial⟩, ?_, ?_⟩
      · refine text_spec (x := s.routes[j].pfx) h1 (by simp only [List.length_append]; omega) fun w2 b2 h2 => ⟨_, _, _, rfl, ⟨ra h2, rm h2, trivial⟩, runV_ok (lk h2) ⟨_, rfl, trivial, ?_⟩⟩
        exact text_spec (x := s.routes[j].pool) h2 (by simp only [List.length_append]; omega) fun w3 b3 h3 => ⟨_, _, _, rfl, trivial, fin _ _ h3⟩
      · refine runV_ok (lk h1) ⟨_, rfl, ⟨r1 h1, trivial⟩, ?_⟩
        refine text_spec (x := s.routes[j].pfx) h1 (by simp only [List.length_append]; omega) fun w2 b2 h2 => ⟨_, _, _, rfl, trivial, ?_⟩
        exact text_spec (x := s.routes[j].pool) h2 (by simp only [List.length_append]; omega) fun w3 b3 h3 => ⟨_, _, _, rfl, trivial, fin _ _ h3⟩
    · refine runV_ok (lk h10) ⟨_, rfl, ⟨r1 h10, r0 h10, trivial⟩, ?_⟩
      refine text_spec (x := s.routes[j].host) h10 (by simp only [List.length_append]; omega) fun w1 b1 h1 => ⟨_, _, _, rfl, ⟨r1 h1, trivial⟩, ?_⟩
      refine text_spec (x := s.routes[j].pfx) h1 (by simp only [List.length_append]; omega) fun w2 b2 h2 => ⟨_, _, _, rfl, trivial, ?_⟩
      exact text_spec (x := s.routes[j].pool) h2 (by simp only [List.length_append]; omega) fun w3 b3 h3 => ⟨_, _, _, rfl, trivial, fin _ _ h3⟩
  · rw [List.take_of_length_le (by omega)] at h
    exact k _ _ h
theorem config_spec4 {mp mr mc : Nat} {Mp : List (Cm.Bs × PV)} {Mr : List (Pr × Cm.Bs)} {Mc : List (Int × LV)} (hm : kn F ∈ L) (S : Sz s) (hp : poolsR F Mp s.pools) (hr : routesR Mr s.routes) (h : St E (byA b xs :: st4 p s.ver mp mr mc Mp Mr Mc L) w) (hx : xs.length ≤ 1000000)
    (k : ∀ (w' : World) (b' : Sl), St E (byA b' (xs ++ Cm.confB s.pools s.routes) :: st4 p s.ver mp mr mc Mp Mr Mc L) w' → R (.returned (.slice b'.1 b'.2.1 b'.2.2)) w') :
    Calls Tryz.prog 50 #[.pointer (some ⟨p, 0, none⟩), .slice b.1 b.2.1 b.2.2] w R := by
  have hbig : big = 140737488355328 := rfl
  have h := h.sel 5 [1, 2, 3, 4, 0]
  refine C_conf_Store_config ?_
  unfold T_conf_Store_config
  have hlp : Mp.length = s.pools.length := by have := hp.2.length_eq; simpa using this
  have hlr : Mr.length = s.routes.length := by have := List.Perm.length_eq hr; simpa using this
  have hpn := S.pn
  have hrn := S.rn
  have hy1 := pls_len S s.pools.length
  rw [List.take_length] at hy1
  have hy2 := num_len s.pools.length
  have hy3 := num_len s.routes.length
  refine ⟨_, rfl, _, rd_fld h.at_blk rfl rfl, runV_ok (lenMap_run und_pools h.f1 _ _ rfl) ⟨_, rfl, ?_⟩⟩
  rw [hlp]
  refine num_spec (h.sel 5 [4, 0, 1, 2, 3]) (by omega) fun w1 s1 h1 => ⟨_, _, _, rfl, ?_⟩
  have h1 : St E (byA s1 (xs ++ Cm.num s.pools.length) :: st4 p s.ver mp mr mc Mp Mr Mc L) w1 := h1
  refine ⟨_, rfl, _, rd_fld h1.f1.at_blk rfl rfl, KeysS_spec h1 fun B w2 h2 => ⟨_, rfl, rfl, ?_⟩⟩
  refine SortedS_spec (ks := s.pools.map nmK) (L := byA s1 (xs ++ Cm.num s.pools.length) :: blkL p 79 (stL s.ver mp mr mc) :: mapA mr encP encS Mr :: mapA mc encI lvV Mc :: L) (h2.sel 6 [0, 3, 1, 2, 4, 5]) (by omega) (names_perm hp) (names_rise S.pr) fun ka kc w3 h3 => ⟨_, _, _, rfl, ?_⟩
  have h3 : St E (byA s1 (xs ++ Cm.num s.pools.length) :: ownS ka (s.pools.map nmK).length kc 9 1 ((s.pools.map nmK).flatMap celS) :: st4 p s.ver mp mr mc Mp Mr Mc L) w3 := h3.sel 6 [2, 0, 3, 1, 4, 5]
  refine config_l1 hm S hp h3 (by simp only [List.length_append]; omega) fun w4 b4 h4 => ?_
  have h5 := h4.f1.drop
  refine ⟨_, rfl, _, rd_fld h5.f1.at_blk rfl rfl, runV_ok (lenMap_run und_routes h5.f3 _ _ rfl) ⟨_, rfl, ?_⟩⟩
  rw [hlr]
  refine num_spec h5 (by simp only [List.length_append]; omega) fun w6 b6 h6 => ⟨_, _, _, rfl, ?_⟩
  refine sorted_spec (ks := s.routes.map plK) (L := byA b6 (xs ++ Cm.num s.pools.length ++ s.pools.flatMap Cm.plB ++ Cm.num s.routes.length) :: mapA mp encS pvV Mp :: mapA mc encI lvV Mc :: L) (h6.sel 5 [1, 3, 0, 2, 4]) (by omega) (places_perm hr) (places_rise S.rr) fun ka kc w7 h7 => ⟨_, _, _, rfl, ?_⟩
  have h7 : St E (byA b6 (xs ++ Cm.num s.pools.length ++ s.pools.flatMap Cm.plB ++ Cm.num s.routes.length) :: ownS ka (s.routes.map plK).length kc 89 2 ((s.routes.map plK).flatMap celP) :: st4 p s.ver mp mr mc Mp Mr Mc L) w7 := h7.sel 6 [3, 0, 1, 4, 2, 5]
  refine config_l2 S hr h7 (by simp only [List.length_append]; omega) fun w8 b8 h8 => k _ _ ?_
  simpa [Cm.confB] using h8.f1.drop
/-- (*Store).config: bytes with the configuration's behind. -/
theorem config_spec (hm : kn F ∈ L) (S : Sz s) (h : St E (byA b xs :: stA F p s :: L) w) (hx : xs.length ≤ 1000000)
    (k : ∀ (w' : World) (b' : Sl), St E (byA b' (xs ++ Cm.confB s.pools s.routes) :: stA F p s :: L) w' → R (.returned (.slice b'.1 b'.2.1 b'.2.2)) w') :
    Calls Tryz.prog 50 #[.pointer (some ⟨p, 0, none⟩), .slice b.1 b.2.1 b.2.2] w R := by
  obtain ⟨mp, mr, mc, Mp, Mr, Mc, hp, hr, hc, h⟩ := h.f1.st_open
  refine config_spec4 hm S hp hr (h.sel 5 [4, 0, 1, 2, 3]) hx fun w' b' h' => k _ _ ?_
  exact (St.st_mk hp hr hc (h'.sel 5 [1, 2, 3, 4, 0])).f1
end
end Go.Vc

/-
  The program's store: what a client was told, a store's bytes; what maps hold when one is put in or taken out.
-/
namespace Go.Vc
open Go Go.Proofs Go.Proofs.YtcpmfjclkdjfmaaGreat
set_option maxRecDepth 100000
section
variable {κ ν : Type} [DecidableEq κ] {m : List (κ × ν)} {a : κ} {v : ν}
def butM (m : List (κ × ν)) (a : κ) : List (κ × ν) := m.filter fun e => !decide (e.1 = a)
theorem butM_self (h : a ∉ m.map (·.1)) : butM m a = m := List.filter_eq_self.2 fun e he => by
  simp only [Bool.not_eq_true', decide_eq_false_iff_not]
  exact fun h' => h (h' ▸ List.mem_map_of_mem he)
theorem mset_perm : ∀ {m : List (κ × ν)}, (m.map (·.1)).Nodup → ∀ (a : κ) (v : ν), (mset m a v).Perm ((a, v) :: butM m a)
  | [], _, _, _ => List.Perm.refl _
  | p :: r, hn, a, v => by
    rw [List.map_cons, List.nodup_cons] at hn
    unfold mset
    split
    · rename_i h
      have : butM (p :: r) a = r := by
        unfold butM
        rw [List.filter_cons, if_neg (by simp [h])]
        exact butM_self (by rw [← h]; exact hn.1)
      rw [this]
    · rename_i h
      have : butM (p :: r) a = p :: butM r a := by
        unfold butM
        rw [List.filter_cons, if_pos (by simp [h])]
      rw [this]
      exact ((mset_perm hn.2 a v).cons p).trans (.swap ..)
theorem mdel_eq : ∀ {m : List (κ × ν)}, (m.map (·.1)).Nodup → ∀ (a : κ), mdel m a = butM m a
  | [], _, _ => rfl
  | p :: r, hn, a => by
    rw [List.map_cons, List.nodup_cons] at hn
    unfold mdel
    split
    · rename_i h
      unfold butM
      rw [List.filter_cons, if_neg (by simp [h])]
      exact (butM_self (by rw [← h]; exact hn.1)).symm
    · rename_i h
      have : butM (p :: r) a = p :: butM r a := by
        unfold butM
        rw [List.filter_cons, if_pos (by simp [h])]
      rw [this, mdel_eq hn.2 a]
theorem but_back (h : (m.map (·.1)).Nodup) (hv : mget m a = some v) : ((a, v) :: butM m a).Perm m := by
  have h2 : mset m a v = m := by
    clear h
    induction m with
    | nil => cases hv
    | cons p r ih =>
      rw [mget_cons] at hv
      unfold mset
      split
      · rename_i h; rw [if_pos h] at hv; cases hv; rw [← h]
      · rename_i h; rw [if_neg h] at hv; rw [ih hv]
  have := mset_perm h a v
  rw [h2] at this
  exact this.symm
end
section
variable {E w : World} {L : List Asrt} {R : Ending → World → Prop} {F G : Fz} {p : Nat} {s : Cm.Sm} {n : Cm.Bs}
theorem but_pools {M : List (Cm.Bs × PV)} (h : poolsR F M s.pools) : poolsR F (butM M n) (Cm.butPool s n) := by
  refine ⟨fun e he => h.1 e (List.mem_filter.1 he).1, ?_⟩
  have := h.2.filter fun p => !decide (p.name = n)
  refine List.Perm.trans (List.Perm.of_eq ?_) this
  rw [List.filter_map]; rfl
theorem put_pools {M : List (Cm.Bs × PV)} (h : poolsR F M s.pools) (hn : (M.map (·.1)).Nodup) {v : PV} (hv : goodP F v) : poolsR F (mset M n v) (Cm.put Cm.plLt (Cm.butPool s n) ⟨n, v.2⟩) := by
  have hp := mset_perm hn n v
  refine ⟨fun e he => ?_, ?_⟩
  · rcases List.mem_cons.1 (hp.mem_iff.1 he) with rfl | he
    · exact hv
    · exact h.1 e (List.mem_filter.1 he).1
  · refine (hp.map plOf).trans ?_
    refine List.Perm.trans (List.Perm.cons _ (but_pools h).2) (Cm.put_but_perm ⟨n, v.2⟩).symm
theorem poolsR.perm {M M' : List (Cm.Bs × PV)} {ps : List Cm.Pl} (h : poolsR F M ps) (hp : M'.Perm M) : poolsR F M' ps := ⟨fun e he => h.1 e (hp.mem_iff.1 he), (hp.map plOf).trans h.2⟩
theorem there_get {M : List (Cm.Bs × PV)} (h : poolsR F M s.pools) : (mget M n).isSome = Cm.there s n := by
  have hk := names_perm h
  cases hv : mget M n with
  | none =>
    have h1 := mget_none_iff.1 hv
    cases ht : Cm.there s n with
    | false => rfl
    | true =>
      simp only [Cm.there, List.any_eq_true, decide_eq_true_eq] at ht
      obtain ⟨x, hx, hxn⟩ := ht
      exact absurd (hk.mem_iff.1 (hxn ▸ List.mem_map_of_mem (f := nmK) hx)) h1
  | some v =>
    have h1 := hk.mem_iff.2 (List.mem_map_of_mem (f := (·.1)) (mget_some hv))
    obtain ⟨x, hx, hxn⟩ := List.mem_map.1 h1
    refine (List.any_eq_true.2 ⟨x, hx, ?_⟩).symm
    exact decide_eq_true hxn
theorem but_routes {M : List (Pr × Cm.Bs)} {h' p' : Cm.Bs} (h : routesR M s.routes) : routesR (butM M (h', p')) (Cm.butRoute s h' p') := by
  have := h.filter fun e => !decide (e.1 = (h', p'))
  refine List.Perm.trans this (List.Perm.of_eq ?_)
  rw [List.filter_map]
  congr 1
  unfold Cm.butRoute
  congr 1
  funext r
  simp [rtK, Cm.isAt, Prod.mk.injEq]
theorem put_routes {M : List (Pr × Cm.Bs)} {x : Cm.Rt} (h : routesR M s.routes) (hn : (M.map (·.1)).Nodup) : routesR (mset M (x.host, x.pfx) x.pool) (Cm.put Cm.rtLt (Cm.butRoute s x.host x.pfx) x) := by
  refine (mset_perm hn _ _).trans ?_
  refine List.Perm.trans (List.Perm.cons _ (but_routes h)) ?_
  exact ((Cm.put_butR_perm x).map rtK).symm
theorem known_get {M : List (Pr × Cm.Bs)} {h' p' : Cm.Bs} (h : routesR M s.routes) : (mget M (h', p')).isSome = Cm.known s h' p' := by
  have hk := places_perm h
  cases hv : mget M (h', p') with
  | none =>
    have h1 := mget_none_iff.1 hv
    cases ht : Cm.known s h' p' with
    | false => rfl
    | true =>
      simp only [Cm.known, List.any_eq_true, Cm.isAt, Bool.and_eq_true, decide_eq_true_eq] at ht
      obtain ⟨x, hx, hx1, hx2⟩ := ht
      refine absurd (hk.mem_iff.1 ?_) h1
      have := List.mem_map_of_mem (f := plK) hx
      rw [← hx1, ← hx2]; exact this
  | some v =>
    have h1 := hk.mem_iff.2 (List.mem_map_of_mem (f := (·.1)) (mget_some hv))
    obtain ⟨x, hx, hxn⟩ := List.mem_map.1 h1
    refine (List.any_eq_true.2 ⟨x, hx, ?_⟩).symm
    simp only [plK, Prod.mk.injEq] at hxn
    simp [Cm.isAt, hxn.1, hxn.2]
theorem client_get {M : List (Int × LV)} (h : clientsR M s.l) (hn : (M.map (·.1)).Nodup) (k : Int) : (mget M k).getD (0, 0, 0) = Cm.seenC s k := by
  unfold Cm.seenC
  cases hf : s.l.find? fun x => decide (x.client = k) with
  | some x =>
    have hx := List.mem_of_find?_eq_some hf
    have hk : x.client = k := by have := List.find?_some hf; simpa using this
    have : laK x ∈ M := h.mem_iff.2 (List.mem_map_of_mem hx)
    have := mget_mem hn this
    rw [show (laK x).1 = k from hk] at this
    rw [this]; rfl
  | none =>
    have : mget M k = none := mget_none_of fun hm => by
      obtain ⟨e, he, hek⟩ := List.mem_map.1 hm
      obtain ⟨x, hx, hxe⟩ := List.mem_map.1 (h.mem_iff.1 he)
      have := List.find?_eq_none.1 hf x hx
      rw [← hek, ← hxe] at this
      simp [laK] at this
    rw [this]; rfl
theorem put_clients {M : List (Int × LV)} {x : Cm.Last} (h : clientsR M s.l) (hn : (M.map (·.1)).Nodup) : clientsR (mset M x.client (x.seq, x.e, x.ver)) (Cm.put Cm.laLt s.l x) := by
  refine (mset_perm hn _ _).trans ?_
  refine List.Perm.trans (List.Perm.cons _ ?_) (((Cm.put_perm Cm.laOrd s.l x).map laK).symm)
  have := h.filter fun e => !decide (e.1 = x.client)
  refine List.Perm.trans this (List.Perm.of_eq ?_)
  rw [List.filter_map]
  congr 1
theorem look_client {mc : Nat} {Mc : List (Int × LV)} (hc : clientsR Mc s.l) (h : St E (mapA mc encI lvV Mc :: L) w) (k : Int) :
    (Instr.lookup 77 (.map (some mc)) (.int .i64 k) false).run Tryz.prog w = .ok (lvV (Cm.seenC s k)) w := by
  have := lookup_run intLaw und_clients tm_seen h k
  rw [← client_get hc h.nodup]
  cases hv : mget Mc k <;> rw [hv] at this <;> exact this
/-- (*Store).Seen: what a client was told last. -/
theorem Seen_spec {c : Int} (h : St E (stA F p s :: L) w) (k : ∀ w', St E (stA F p s :: L) w' → R (.returned (.tuple #[.int .i64 (Cm.seenC s c).1, .agg #[.int .i64 (Cm.seenC s c).2.1, .int .i64 (Cm.seenC s c).2.2]])) w') :
    Calls Tryz.prog 24 #[.pointer (some ⟨p, 0, none⟩), .int .i64 c] w R := by
  obtain ⟨mp, mr, mc, Mp, Mr, Mc, hp, hr, hc, h⟩ := h.st_open
  refine C_conf_Store_Seen ?_
  unfold T_conf_Store_Seen
  intro w3
  have h3 := h.alloc (.cells #[.int .i64 0, .int .i64 0] 45)
  refine ite_some ⟨_, rfl, _, rd_fld h3.f1.at_blk rfl rfl, runV_ok (look_client hc h3.f4 c) ⟨_, _, _, rfl, ?_⟩⟩
  generalize Cm.seenC s c = q at *
  intro w14
  have h14 := h3.alloc (.cells #[.int .i64 0, .int .i64 0, .int .i64 0] 91)
  refine ⟨rfl, wrOk_agg h14.at_blk (xs := [.int .i64 q.1, .int .i64 q.2.1, .int .i64 q.2.2]) (by simp) (by intro u hu; simp at hu; rcases hu with rfl | rfl | rfl <;> rfl), ?_⟩
  intro w15 w16
  have h16 : St E (blkL w3.heap.size 91 [.int .i64 q.1, .int .i64 q.2.1, .int .i64 q.2.2] :: blkL w.heap.size 45 [.int .i64 0, .int .i64 0] :: st4 p s.ver mp mr mc Mp Mr Mc L) w16 := (h14.wr_agg0 (xs := [.int .i64 q.1, .int .i64 q.2.1, .int .i64 q.2.2]) rfl).drew
  refine ⟨_, rd_cell h16.at_blk rfl rfl, _, _, rd_agg (xs := [.int .i64 q.2.1, .int .i64 q.2.2]) h16.at_blk (off := 1) (by intro i u hu; rw [Nat.add_comm]; exact hu), rfl, wrOk_agg h16.f1.at_blk (xs := [.int .i64 q.2.1, .int .i64 q.2.2]) (by simp) (by intro u hu; simp at hu; rcases hu with rfl | rfl <;> rfl), ?_⟩
  intro w20
  have h20 := h16.f1.wr_agg0 (xs := [.int .i64 q.2.1, .int .i64 q.2.2]) rfl
  refine ⟨trivial, _, _, rd_agg (xs := [.int .i64 q.2.1, .int .i64 q.2.2]) h20.at_blk (by intro i u hu; rw [Nat.zero_add]; exact hu), k _ (St.st_mk hp hr hc h20.drop.drop)⟩
end
end Go.Vc
