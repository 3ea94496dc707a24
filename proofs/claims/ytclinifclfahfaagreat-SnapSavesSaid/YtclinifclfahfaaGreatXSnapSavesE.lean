/- Texts of this claim's own, laid into one. -/
import Derived.Test.YtclinifclfahfaaGreatProg
import Derived.Shelf.SlIter.Collect
import Derived.Shelf.SlLaysM
import Derived.Shelf.SlLaysF0
import Derived.Sort.Grow
import Derived.Sort.EncStr
import Derived.Sort.Walk0
import Derived.Shelf.GgSortFunc.RowK
import Derived.Shelf.GgSortFunc.InsertionK
import Derived.Shelf.SlSortCmp.Insertion
import Derived.Shelf.SortM.Plain
import Derived.Shelf.SortM.SortNone
import Derived.KernelRfl
import Derived.Laws.IdiomStrings
import Derived.Shelf.SlSortCmp.NoneTotal
import Derived.Test.YtclinifclfahfaaGreatXSnapSavesA
import Derived.Test.YtclinifclfahfaaGreatXSnapSavesB
import Derived.Test.YtclinifclfahfaaGreatXSnapSavesC
import Derived.Test.YtclinifclfahfaaGreatXSnapSavesD
set_option linter.all false
namespace Go.Vc
open Go Go.Proofs Go.RowKit Go.Maps Go.Sort Go.Shelf
set_option maxRecDepth 100000
def rfCode (f : Func) : Code × Code := match f.body with
  | some (.seq _ (.seq (.seq _ (.block _ (.rangeFunc _ _ a b))) _)) => (a, b)
  | _ => (.skip, .skip)
def encS (x : List UInt8) : Value := .string ⟨x.toArray⟩
def celS (x : List UInt8) : List Value := [.string ⟨x.toArray⟩]
noncomputable def asgS : Code := (rfCode Tryz.f112).1
noncomputable def bodS : Code := (rfCode Tryz.f112).2
section
variable {ν : Type} {vv : ν → Value}
set_option maxHeartbeats 1000000 in
theorem keysS_in (F : Fence) (n : Nat) (hf : F.fn 103) (hro : F.round = none) (hn : 1 ≤ n) (l Bm b : Nat) (m : List (List UInt8 × ν)) (J : List (List UInt8) → World → Prop)
    (hY : ∀ pre x W, J pre W → pre.length < m.length → YieldAt F (n - 1) Tryz.prog l #[encS x] W fun e W' => e = .returned (.bool true) ∧ J (pre ++ [x]) W' ∧ KeepsWalks W W')
    (W : World) (hJ : AbidesFrom W.heap.size J) (hm : W.cell? ⟨Bm, 0, none⟩ = some (.map (some b))) (hown : MapW W b encS vv m) (h0 : J [] W) :
    CallsIn F n Tryz.prog 103 #[.func (.yield l) #[] #[], .pointer (some ⟨Bm, 0, none⟩)] W fun e W' => (∃ v, e = .returned v) ∧ ∃ ss : List (List UInt8), ss.Perm (m.map (·.1)) ∧ J ss W' := by
  refine callsIn_of_wp Tryz.func103 rfl hf ?_ hro
  simp only [Tryz.ntmps103, List.size_toArray, List.length_cons, List.length_nil, Nat.reduceAdd, Nat.reduceSub, Array.replicate_succ, Array.replicate_zero, List.push_toArray, List.append_toArray, List.nil_append, List.cons_append]
  gi_wp2_with (first
    | (gi_at_range; refine wpListIn_range_it _ rfl _ 85 rfl Tryz.underlying85 rfl hown ?_; intro w0 hrg0 hg0 hs0)
    | gi_in)
  go_frame
  gi_loopw [3] (fun _ wr => ∃ (rest : List (List UInt8 × ν)) (ss : List (List UInt8)), IterW wr W.heap.size b encS vv m rest ∧ (ss ++ rest.map (·.1)).Perm (m.map (·.1)) ∧ J ss wr)
    (fun _ wr => wr.rangeLeft b W.heap.size)
  case atStart =>
    exact ⟨_, [], hrg0, by simp, hJ [] W w0 none h0 hg0 (fun r e => by cases e)⟩
  case round =>
    obtain ⟨rest, ss, hrg, hC, hJs⟩ := hrel
    gi_wp2_with (first
      | (gi_at_next; refine wpListIn_next_it _ rfl _ rfl rfl hrg ?_ ?_)
      | gi_in)
    · intro hc0
      gi_wp2
      go_end0
      exact ⟨⟨_, rfl⟩, ss, by subst hc0; simpa using hC, hJs⟩
    · intro r1 kh v r2 w2 hrest hrg2 hg2 hs2 hen
      have hlen : ss.length < m.length := by have := hC.length_eq; rw [hrest] at this; simp at this; omega
      have hJ2 : J ss w2 := hJ ss wr w2 (some W.heap.size) hJs hg2 (fun r e => by cases e; exact ⟨Nat.le_refl _, hrg.walk⟩)
      have hrg2a := hrg2
      obtain ⟨fn, tmps, assign, body, hy, hR⟩ := hY ss kh _ hJ2 hlen
      simp only [encS] at hen hy ⊢
      clear hs2
      gi_wp2
      refine hR.mono ?_
      rintro e W3 ⟨rfl, hJ3, hk3⟩
      gi_wp2
      have hrg3 := hrg2a.of_walks hk3
      go_roundw
      case rel => exact ⟨_, ss ++ [kh], hrg3, by
        rw [hrest] at hC
        refine List.Perm.trans ?_ hC
        simp only [List.map_append, List.map_cons, List.append_assoc]
        refine List.Perm.append_left ss ?_
        simp only [List.singleton_append]
        exact List.perm_middle.symm, hJ3⟩
      case measure => rw [hrg3.left, hrg.left, hrest]; simp
theorem givesS (F : Fence) (n : Nat) (hf : F.fn 103) (hro : F.round = none) (hn : 1 ≤ n) (Bm b : Nat) (m : List (List UInt8 × ν)) (w : World) (hBm : Bm < w.heap.size)
    (hm : w.cell? ⟨Bm, 0, none⟩ = some (.map (some b))) (hown : MapW w b encS vv m) : SeqGives F n Tryz.prog 103 #[.pointer (some ⟨Bm, 0, none⟩)] encS (fun ss => ss.Perm (m.map (·.1))) m.length w := fun l J W hW hJ hY h0 =>
  keysS_in F n hf hro hn l Bm b m J hY W hJ ((hW.cell (p := ⟨Bm, 0, none⟩) hBm).trans hm) (hown.later hW) h0
end
noncomputable def recS (fn : FuncId) (sv : Value) (Bs D : Nat) (st : LoopState) (pend : Option Code) : Loop :=
  { state := st, pending := pend, fn, tmps := #[.slice none 0 0, sv, .pointer (some ⟨Bs, 0, none⟩), undef, .slice none 0 0, undef, sv, undef, undef, undef, undef, undef, undef], params := #[7], assign := asgS, body := bodS, defers := D }
structure AtS (w0 : World) (fn : FuncId) (sv : Value) (Bs l D : Nat) (ss : List (List UInt8)) (W : World) : Prop where
  box : ∃ v, W.heap[Bs]? = some (.cells #[v] 55 (0, 0)) ∧ W.ownsRow w0.heap.size 9 1 v ss.length (ss.flatMap celS)
  L : W.heap[l]? = some (.loop (recS fn sv Bs D .ready none))
  K : W.heap[D]? = some (.deferred (some []))
  below : Below w0.heap.size w0 W
theorem abidesS (w0 : World) (fn : FuncId) (sv : Value) (Bs l D B : Nat) (hB : w0.heap.size ≤ B) : AbidesFrom B (AtS w0 fn sv Bs l D) := fun s W W' row h hg hrow => by
  have hrow' : ∀ r, row = some r → ∃ o : Obj, W.heap[r]? = some o ∧ o.isWalk = true := fun r e => (hrow r e).2
  obtain ⟨v, hv, hr⟩ := h.box
  exact ⟨⟨v, (grownBy_keeps hg hrow' hv rfl).trans hv, ownsRow_abides_a hr hg hrow'⟩, (grownBy_keeps hg hrow' h.L rfl).trans h.L, (grownBy_keeps hg hrow' h.K rfl).trans h.K,
    h.below.grown hg h.below.size (fun k e => Nat.le_trans hB (hrow k e).1)⟩
theorem cells_newS (w : World) (x : List UInt8) : ∀ j u, (celS x)[j]? = some u → (w.alloc (.cells ⟨celS x⟩ 9)).cell? ((⟨w.heap.size, 0, none⟩ : Addr).add j) = some u := fun j u hj => by
  rw [add_mk, Nat.zero_add, cell_of (World.alloc_heap_new w _)]; exact hj
set_option maxHeartbeats 2000000 in
theorem yieldS (F : Fence) (m : Nat) (w0 : World) (fn : FuncId) (hfn : F.fn fn) (sv : Value) (Bs l D : Nat) (hBl : Bs ≠ l) (hDl : D ≠ l) (_hDB : D ≠ Bs) (h0B : w0.heap.size ≤ Bs) (h0l : w0.heap.size ≤ l)
    (N : Nat) (hN : N ≤ maxLen) (hNb : N * 16 ≤ 140737488355328) (ss : List (List UInt8)) (x : List UInt8) (W : World) (h : AtS w0 fn sv Bs l D ss W) (hlen : ss.length < N) :
    YieldAt F m Tryz.prog l #[encS x] W fun e W' => e = .returned (.bool true) ∧ AtS w0 fn sv Bs l D (ss ++ [x]) W' ∧ KeepsWalks W W' := by
  obtain ⟨i0, hi, hz0, hz1, hz2⟩ := info_parts (P := Tryz.prog) (e := 9) (z := .string ⟨#[]⟩) (size := 1) (bytes := 16) (by kernel_rfl)
  obtain ⟨v, hv, hrow⟩ := h.box
  refine ⟨fn, #[.slice none 0 0, sv, .pointer (some ⟨Bs, 0, none⟩), undef, .slice none 0 0, undef, sv, encS x, undef, undef, undef, undef, undef], asgS, bodS, by simpa [recS] using run_yield (P := Tryz.prog) (args := #[encS x]) h.L rfl, roundIn_of_wpIn hfn ?_⟩
  unfold asgS
  simp only [rfCode, Tryz.f112, encS]
  gi_wp2_with (rw [Oper.semAt_eq _ _ _ (fun c h => by cases h)]; go_simp; try go_bits)
  obtain ⟨Wa, hWa⟩ : ∃ Wa, Wa = W := ⟨_, rfl⟩
  have hga : W.grownBy Wa none := by rw [hWa]; exact ⟨rfl, rfl, rfl, Nat.le_refl _, fun _ _ _ => rfl⟩
  have hka : KeepsWalks W Wa := KeepsWalks.of_grownBy hga (fun j o e => by cases e)
  have olda : ∀ k, k < W.heap.size → Wa.heap[k]? = W.heap[k]? := fun k hk => hga.block k hk (by simp)
  have hva : Wa.heap[Bs]? = some (.cells #[v] 55 (0, 0)) := (olda _ (Array.getElem?_eq_some_iff.1 hv).1).trans hv
  have hKa : Wa.heap[D]? = some (.deferred (some [])) := (olda _ (Array.getElem?_eq_some_iff.1 h.K).1).trans h.K
  have hLa : Wa.heap[l]? = some (.loop (recS fn sv Bs D .ready none)) := (olda _ (Array.getElem?_eq_some_iff.1 h.L).1).trans h.L
  have hrowa : Wa.ownsRow w0.heap.size 9 1 v ss.length (ss.flatMap celS) := hrow.kept hga (by cases hvo : v.ownBlock with | none => exact .inl rfl | some j => exact .inr (by simp))
  have hba : Below w0.heap.size w0 Wa := h.below.grown hga h.below.size (fun k e => by cases e)
  have hl : l < Wa.heap.size := (Array.getElem?_eq_some_iff.1 hLa).1
  have hbr := run_beginRound (P := Tryz.prog) hLa rfl
  obtain ⟨W2, hW2⟩ : ∃ W2, Wa.putObj l (.loop { recS fn sv Bs D .ready none with state := .busy }) = W2 := ⟨_, rfl⟩
  rw [hW2] at hbr
  have hg2 : Wa.grownBy W2 (some l) := by rw [← hW2]; exact grownBy_putObj_a _ _ _
  have hk2 : KeepsWalks W W2 := hka.trans (by rw [← hW2]; exact KeepsWalks.putObj _ hLa rfl)
  have hv2 : W2.heap[Bs]? = some (.cells #[v] 55 (0, 0)) := by rw [← hW2]; exact (World.putObj_heap_other hBl).trans hva
  have hK2 : W2.heap[D]? = some (.deferred (some [])) := by rw [← hW2]; exact (World.putObj_heap_other hDl).trans hKa
  have hL2 : W2.heap[l]? = some (.loop { recS fn sv Bs D .ready none with state := .busy }) := by rw [← hW2]; exact World.putObj_heap_same hl
  have hrow2 : W2.ownsRow w0.heap.size 9 1 v ss.length (ss.flatMap celS) := hrowa.kept hg2 (ownsRow_ne_a hrowa hLa (fun cur e => by cases e))
  have hb2 : Below w0.heap.size w0 W2 := hba.grown hg2 hba.size (fun k e => by cases e; exact h0l)
  clear hW2
  obtain ⟨hc2, hf2⟩ := cell_of_box_a hv2
  have hBlt : Bs < W2.heap.size := (Array.getElem?_eq_some_iff.1 hv2).1
  have hl2 : l < W2.heap.size := (Array.getElem?_eq_some_iff.1 hL2).1
  have hDlt : D < W2.heap.size := (Array.getElem?_eq_some_iff.1 hK2).1
  have ne_of : ∀ {j : Nat} {o : Obj}, W2.heap[j]? = some o → (∀ cur, o ≠ .cells cur 9 (0, 0)) → some j ≠ v.ownBlock := fun hj hno => by
    rcases ownsRow_ne_a hrow2 hj hno with e | e
    · rw [e]; simp
    · exact fun e' => e e'.symm
  rw [hWa] at hbr
  refine ⟨W2, hbr, ?_⟩
  unfold bodS
  simp only [rfCode, Tryz.f112]
  gi_wp2_with (first
    | (gi_at_builtin; refine wpListIn_append_own _ rfl _ _ 55 rfl w0.heap.size 9 i0 (.string ⟨#[]⟩) 1 16 Tryz.underlying55 hi hz0 hz1 hz2 rfl (by decide) _ _ _ rfl (hrow2.alloc _) ⟨W2.heap.size, 0, none⟩ 1 1 (celS x) rfl rfl (cells_newS _ _) (by intro u hu; simp [celS] at hu; rcases hu with rfl <;> rfl) (by omega) (by omega) (by have := hb2.size; simp; omega) ?_; intro v' w3 hown' hg3 _
       have hv3 : w3.heap[Bs]? = some (.cells #[v] 55 (0, 0)) := (hg3.block Bs (by simp; omega) (ne_of hv2 (fun cur e => by cases e))).trans ((Below.heap_alloc _ _ Bs hBlt).trans hv2)
       obtain ⟨hc3, hf3⟩ := cell_of_box_a hv3
       obtain ⟨g', cap', cur', rfl, hbase', hgb', hr1, hr2, hr3, hr4⟩ : ∃ g' cap' cur', v' = .slice (some ⟨g', 0, none⟩) (ss.length + 1) cap' ∧ w0.heap.size ≤ g' ∧ w3.heap[g']? = some (.cells cur' 9 (0, 0)) ∧ ss.length + 1 ≤ cap' ∧ cap' ≤ maxLen ∧ cur'.size = cap' * 1 ∧ cur'.toList.take ((ss.length + 1) * 1) = ss.flatMap celS ++ celS x := by
         rcases hown'.2 with ⟨_, h0⟩ | h'
         · exact absurd h0 (by omega)
         · exact h'
       go_frame)
    | (rw [Oper.semAt_eq _ _ _ (fun c h => by cases h)]; go_simp; try go_bits))
  have hg3' : (W2.alloc (.cells ⟨celS x⟩ 9)).grownBy w3 v.ownBlock := hg3
  have hL3 : w3.heap[l]? = some (.loop { recS fn sv Bs D .ready none with state := .busy }) := (hg3'.block l (by simp; omega) (ne_of hL2 (fun cur e => by cases e))).trans ((Below.heap_alloc _ _ l hl2).trans hL2)
  have hK3 : w3.heap[D]? = some (.deferred (some [])) := (hg3'.block D (by simp; omega) (ne_of hK2 (fun cur e => by cases e))).trans ((Below.heap_alloc _ _ D hDlt).trans hK2)
  obtain ⟨w4, hw4⟩ : ∃ w4, w3.setCell ⟨Bs, 0, none⟩ (.slice (some ⟨g', 0, none⟩) (ss.length + 1) cap') = w4 := ⟨_, rfl⟩
  rw [hw4]
  have hg4 : w3.grownBy w4 (some Bs) := by rw [← hw4]; exact grownBy_setCell0_a _ _ _
  have hv4 : w4.heap[Bs]? = some (.cells #[.slice (some ⟨g', 0, none⟩) (ss.length + 1) cap'] 55 (0, 0)) := by rw [← hw4]; exact heap_setCell_box_a _ hv3
  have hL4 : w4.heap[l]? = some (.loop { recS fn sv Bs D .ready none with state := .busy }) := (hg4.block l (Array.getElem?_eq_some_iff.1 hL3).1 (fun e => hBl (by cases e; rfl))).trans hL3
  have hK4 : w4.heap[D]? = some (.deferred (some [])) := (hg4.block D (Array.getElem?_eq_some_iff.1 hK3).1 (fun e => _hDB (by cases e; rfl))).trans hK3
  have hrow4 := hown'.kept hg4 (ownsRow_ne_a hown' hv3 (fun cur e => by cases e))
  have hb3 : Below w0.heap.size w0 w3 := (hb2.alloc hb2.size _).grown hg3' (by have := hb2.size; simp; omega) (fun k e => (hrow2.lt k e).1)
  have hb4 : Below w0.heap.size w0 w4 := hb3.grown hg4 hb3.size (fun k e => by cases e; exact h0B)
  have hk4 : KeepsWalks W w4 := ((hk2.trans (KeepsWalks.alloc _ _)).trans (KeepsWalks.of_grownBy hg3' (ownsRow_not_walk_a (hrow2.alloc _)))).trans (by rw [← hw4]; exact KeepsWalks.setCell _ _ _)
  clear hw4
  refine ⟨_, _, run_endRound none hL4, rfl, ⟨⟨_, (World.putObj_heap_other hBl).trans hv4, ?_⟩, World.putObj_heap_same (Array.getElem?_eq_some_iff.1 hL4).1, (World.putObj_heap_other hDl).trans hK4, hb4.grown (grownBy_putObj_a _ _ _) hb4.size (fun k e => by cases e; exact h0l)⟩, hk4.trans (KeepsWalks.putObj _ hL4 rfl)⟩
  have := hrow4.kept (grownBy_putObj_a w4 l (.loop { { recS fn sv Bs D .ready none with state := .busy } with state := if (none : Option Code).isNone then .ready else .done, pending := none })) (ownsRow_ne_a hrow4 hL4 (fun cur e => by cases e))
  simpa using this
set_option maxHeartbeats 2000000 in
theorem appendSeqS_in (F : Fence) (n : Nat) (hf : F.fn 112) (hro : F.round = none) (hn : 2 ≤ n) (g : Nat) (lb : Array Value) (hFg : F.fn g) (eg : ∀ args w, (callFunc g args).run Tryz.prog w = .ok (.enter g args) w)
    (S : List (List UInt8) → Prop) (N : Nat) (hN : N ≤ maxLen) (hNb : N * 16 ≤ 140737488355328) (w : World) (hseq : SeqGives F (n - 1) Tryz.prog g lb encS S N w) :
    CallsIn F n Tryz.prog 112 #[.slice none 0 0, .func (.func g) #[] lb] w fun e w' => ∃ (v : Value) (ss : List (List UInt8)), e = .returned v ∧ S ss ∧ w'.ownsRow w.heap.size 9 1 v ss.length (ss.flatMap celS) ∧ Below w.heap.size w w' := by
  have h1 : 1 ≤ n := by omega
  refine callsIn_of_wp_marks Tryz.func112 rfl hf ?_ hro
  simp only [Tryz.ntmps112, List.size_toArray, List.length_cons, List.length_nil, Nat.reduceAdd, Nat.reduceSub, Array.replicate_succ, Array.replicate_zero, List.push_toArray, List.append_toArray, List.nil_append, List.cons_append]
  gi_wp2
  refine wpIn_rangeFunc ?_
  intro fn hfn
  rw [hro]
  obtain ⟨W0, hW0⟩ : ∃ W0, w.alloc (.cells #[.slice none 0 0] 55) = W0 := ⟨_, rfl⟩
  have hs0 : W0.heap.size = w.heap.size + 1 := by rw [← hW0]; simp
  have hv0 : W0.heap[w.heap.size]? = some (.cells #[.slice none 0 0] 55 (0, 0)) := by rw [← hW0]; exact World.alloc_heap_new w _
  have hb0 : Below w.heap.size w W0 := by rw [← hW0]; exact (Below.refl _ w).alloc (Nat.le_refl _) _
  rw [hW0]
  obtain ⟨W1, hW1⟩ : ∃ W1, (W0.alloc (.deferred (some []))).alloc (.loop (recS fn (.func (.func g) #[] lb) w.heap.size W0.heap.size .ready none)) = W1 := ⟨_, rfl⟩
  have hold : ∀ k, k < W0.heap.size → W1.heap[k]? = W0.heap[k]? := fun k hk => by
    rw [← hW1]; exact (Below.heap_alloc _ _ k (by simp; omega)).trans (Below.heap_alloc _ _ k hk)
  have hb1 : Below w.heap.size w W1 := by rw [← hW1]; exact (hb0.alloc hb0.size _).alloc (by have := hb0.size; simp; omega) _
  have hs1 : W1.heap.size = W0.heap.size + 2 := by rw [← hW1]; simp
  have hM : AtS w fn (.func (.func g) #[] lb) w.heap.size (W0.heap.size + 1) W0.heap.size [] W1 :=
    ⟨⟨_, (hold w.heap.size (by omega)).trans hv0, ⟨rfl, .inl ⟨rfl, rfl⟩⟩⟩,
     by rw [← hW1]; have := World.alloc_heap_new (W0.alloc (.deferred (some []))) (.loop (recS fn (.func (.func g) #[] lb) w.heap.size W0.heap.size .ready none)); rwa [World.size_alloc] at this,
     by rw [← hW1]; exact (Below.heap_alloc _ _ _ (by simp)).trans (World.alloc_heap_new W0 _), hb1⟩
  refine ⟨W0.heap.size + 1, [{ target := .collected W0.heap.size, args := #[] }], W1, { target := .fn (.func g) lb, args := #[.func (.yield (W0.heap.size + 1)) #[] #[]] }, W1, g,
    #[.func (.yield (W0.heap.size + 1)) #[] #[]] ++ lb, W1, ?_, ?_, ?_, ?_, fun _ => h1, ?_⟩
  · rw [← hW1]; exact run_enterLoop_outer _ _ _ _ _
  · simp [resolve, go_sem]
  · intro f' hf'; simp [Target.leads] at hf'; subst hf'; exact hFg
  · simp [invoke, go_sem, eg]
  · refine (hseq (W0.heap.size + 1) (AtS w fn (.func (.func g) #[] lb) w.heap.size (W0.heap.size + 1) W0.heap.size) W1 hb1 (abidesS _ _ _ _ _ _ _ hb1.size)
      (fun pre x W hJ hl => yieldS F (n - 1 - 1) w fn hfn _ w.heap.size (W0.heap.size + 1) W0.heap.size (by omega) (by omega) (by omega) (Nat.le_refl _) (by omega) N hN hNb pre x W hJ hl) hM).mono ?_
    rintro e W2 ⟨⟨v0, rfl⟩, ss, hS, h2⟩
    obtain ⟨v, hv, hrow⟩ := h2.box
    have hend := run_endLoop (P := Tryz.prog) h2.L (by simp [recS])
    obtain ⟨W3, hW3⟩ : ∃ W3, W2.putObj (W0.heap.size + 1) (.loop { recS fn (.func (.func g) #[] lb) w.heap.size W0.heap.size .ready none with state := .exhausted }) = W3 := ⟨_, rfl⟩
    rw [hW3] at hend
    have hg3 : W2.grownBy W3 (some (W0.heap.size + 1)) := by rw [← hW3]; exact grownBy_putObj_a _ _ _
    have hv3 : W3.heap[w.heap.size]? = some (.cells #[v] 55 (0, 0)) := by rw [← hW3]; exact (World.putObj_heap_other (by omega)).trans hv
    have hK3 : W3.heap[W0.heap.size]? = some (.deferred (some [])) := by rw [← hW3]; exact (World.putObj_heap_other (by omega)).trans h2.K
    have hrow3 := hrow.kept hg3 (ownsRow_ne_a hrow h2.L (fun cur e => by cases e))
    have hb3 : Below w.heap.size w W3 := h2.below.grown hg3 h2.below.size (fun k e => by cases e; omega)
    obtain ⟨hc3, hf3⟩ := cell_of_box_a hv3
    clear hW3
    refine ⟨none, W3, hend, ?_⟩
    gi_wp2
    rw [← hs0]
    refine ⟨by simp, .inl ⟨_, _, rfl, run_takeDeferred hK3, ?_⟩⟩
    exact ⟨_, results_tmp rfl _ _ _, v, ss, rfl, hS, hrow3.kept (grownBy_putObj_a _ _ _) (ownsRow_ne_a hrow3 hK3 (fun cur e => by cases e)), hb3.grown (grownBy_putObj_a _ _ _) hb3.size (fun k e => by cases e; omega)⟩
end Go.Vc
namespace Go.Proofs
set_option maxRecDepth 100000
def Tryz.sortS_ren : Go.Shelf.Ren := ⟨fun | 6 => 102 | 8 => 111 | 9 => 113 | 19 => 124 | 20 => 125 | 21 => 126 | 22 => 127 | 23 => 128 | 24 => 129 | 25 => 130 | 26 => 131 | 27 => 132 | 28 => 133 | 29 => 134 | 36 => 140 | 31 => 136 | 32 => 137 | 37 => 141 | 38 => 142 | 39 => 143 | 41 => 145 | n => n, fun | 27 => 55 | 29 => 9 | 3 => 3 | 32 => 137 | 26 => 55 | 0 => 0 | 44 => 82 | 46 => 164 | 4 => 4 | 36 => 156 | 35 => 155 | 41 => 160 | 5 => 5 | 9 => 9 | 53 => 171 | 57 => 175 | 63 => 179 | 64 => 180 | n => n, fun | n => n⟩
theorem Tryz.sortS : Go.Proofs.SlLaysM.n6 Tryz.prog Tryz.sortS_ren where
  mixed := by kernel_rfl
  f6 := ⟨ "slices.Sort[[]string,string]", by decide, Tryz.func102.trans (congrArg some (by kernel_rfl))⟩
  f8 := Tryz.func111.trans (congrArg some (by kernel_rfl))
  f9 := ⟨ "slices.pdqsortOrdered[string]", by decide, Tryz.func113.trans (congrArg some (by kernel_rfl))⟩
  f19 := Tryz.func124.trans (congrArg some (by kernel_rfl))
  f20 := Tryz.func125.trans (congrArg some (by kernel_rfl))
  f21 := ⟨ "slices.insertionSortOrdered[string]", by decide, Tryz.func126.trans (congrArg some (by kernel_rfl))⟩
  f22 := ⟨ "slices.heapSortOrdered[string]", by decide, Tryz.func127.trans (congrArg some (by kernel_rfl))⟩
  f23 := ⟨ "slices.breakPatternsOrdered[string]", by decide, Tryz.func128.trans (congrArg some (by kernel_rfl))⟩
  f24 := ⟨ "slices.choosePivotOrdered[string]", by decide, Tryz.func129.trans (congrArg some (by kernel_rfl))⟩
  f25 := ⟨ "slices.reverseRangeOrdered[string]", by decide, Tryz.func130.trans (congrArg some (by kernel_rfl))⟩
  f26 := ⟨ "slices.partialInsertionSortOrdered[string]", by decide, Tryz.func131.trans (congrArg some (by kernel_rfl))⟩
  f27 := ⟨ "cmp.Less[string]", by decide, Tryz.func132.trans (congrArg some (by kernel_rfl))⟩
  f28 := ⟨ "slices.partitionEqualOrdered[string]", by decide, Tryz.func133.trans (congrArg some (by kernel_rfl))⟩
  f29 := ⟨ "slices.partitionOrdered[string]", by decide, Tryz.func134.trans (congrArg some (by kernel_rfl))⟩
  f31 := Tryz.func136.trans (congrArg some (by kernel_rfl))
  f32 := Tryz.func137.trans (congrArg some (by kernel_rfl))
  f36 := ⟨ "slices.siftDownOrdered[string]", by decide, Tryz.func140.trans (congrArg some (by kernel_rfl))⟩
  f37 := ⟨ "slices.medianAdjacentOrdered[string]", by decide, Tryz.func141.trans (congrArg some (by kernel_rfl))⟩
  f38 := ⟨ "slices.medianOrdered[string]", by decide, Tryz.func142.trans (congrArg some (by kernel_rfl))⟩
  f39 := ⟨ "cmp.isNaN[string]", by decide, Tryz.func143.trans (congrArg some (by kernel_rfl))⟩
  f41 := ⟨ "slices.order2Ordered[string]", by decide, Tryz.func145.trans (congrArg some (by kernel_rfl))⟩
  t0 := Tryz.underlying0
  a0 := Tryz.isAgg0
  z0 := Tryz.sizeOf0
  v0 := Tryz.zeroValue0
  t3 := Tryz.underlying3
  a3 := Tryz.isAgg3
  z3 := Tryz.sizeOf3
  v3 := Tryz.zeroValue3
  t4 := Tryz.underlying4
  a4 := Tryz.isAgg4
  z4 := Tryz.sizeOf4
  v4 := Tryz.zeroValue4
  t5 := Tryz.underlying5
  a5 := Tryz.isAgg5
  z5 := Tryz.sizeOf5
  v5 := Tryz.zeroValue5
  t9 := Tryz.underlying9
  a9 := Tryz.isAgg9
  z9 := Tryz.sizeOf9
  v9 := Tryz.zeroValue9
  t26 := Tryz.underlying55
  a26 := Tryz.isAgg55
  z26 := Tryz.sizeOf55
  v26 := Tryz.zeroValue55
  t27 := Tryz.underlying55
  a27 := Tryz.isAgg55
  z27 := Tryz.sizeOf55
  v27 := Tryz.zeroValue55
  t29 := Tryz.underlying9
  a29 := Tryz.isAgg9
  z29 := Tryz.sizeOf9
  v29 := Tryz.zeroValue9
  t32 := Tryz.underlying137
  a32 := Tryz.isAgg137
  z32 := Tryz.sizeOf137
  v32 := Tryz.zeroValue137
  t35 := Tryz.underlying155
  a35 := Tryz.isAgg155
  z35 := Tryz.sizeOf155
  v35 := Tryz.zeroValue155
  t36 := Tryz.underlying156
  a36 := Tryz.isAgg156
  z36 := Tryz.sizeOf156
  v36 := Tryz.zeroValue156
  t41 := Tryz.underlying160
  a41 := Tryz.isAgg160
  z41 := Tryz.sizeOf160
  v41 := Tryz.zeroValue160
  t44 := Tryz.underlying82
  a44 := Tryz.isAgg82
  z44 := Tryz.sizeOf82
  v44 := Tryz.zeroValue82
  t46 := Tryz.underlying164
  a46 := Tryz.isAgg164
  z46 := Tryz.sizeOf164
  v46 := Tryz.zeroValue164
  t53 := Tryz.underlying171
  a53 := Tryz.isAgg171
  z53 := Tryz.sizeOf171
  v53 := Tryz.zeroValue171
  t57 := Tryz.underlying175
  a57 := Tryz.isAgg175
  z57 := Tryz.sizeOf175
  v57 := Tryz.zeroValue175
  t63 := Tryz.underlying179
  a63 := Tryz.isAgg179
  z63 := Tryz.sizeOf179
  v63 := Tryz.zeroValue179
  t64 := Tryz.underlying180
  a64 := Tryz.isAgg180
  z64 := Tryz.sizeOf180
  v64 := Tryz.zeroValue180
def Tryz.sortP_ren : Go.Shelf.Ren := ⟨fun | 6 => 97 | 15 => 111 | 14 => 110 | 28 => 124 | 29 => 125 | 20 => 116 | 21 => 117 | 22 => 118 | 23 => 119 | 24 => 120 | 25 => 121 | 26 => 122 | 27 => 123 | 46 => 135 | 47 => 136 | 48 => 137 | 49 => 138 | 50 => 139 | 57 => 144 | n => n, fun | 22 => 94 | 24 => 97 | 25 => 141 | 3 => 3 | 39 => 137 | 0 => 0 | 53 => 82 | 55 => 164 | 4 => 4 | 46 => 156 | 45 => 155 | 50 => 160 | 5 => 5 | 9 => 9 | 66 => 171 | 70 => 175 | 76 => 179 | 77 => 180 | n => n, fun | n => n⟩
theorem Tryz.sortP : Go.Proofs.SlLaysF0.n6 Tryz.prog Tryz.sortP_ren where
  mixed := by kernel_rfl
  f6 := ⟨ "slices.SortFunc[[]tollgate/snap.file,tollgate/snap.file]", by decide, Tryz.func97.trans (congrArg some (by kernel_rfl))⟩
  f14 := ⟨ "slices.pdqsortCmpFunc[tollgate/snap.file]", by decide, Tryz.func110.trans (congrArg some (by kernel_rfl))⟩
  f15 := Tryz.func111.trans (congrArg some (by kernel_rfl))
  f20 := ⟨ "slices.insertionSortCmpFunc[tollgate/snap.file]", by decide, Tryz.func116.trans (congrArg some (by kernel_rfl))⟩
  f21 := ⟨ "slices.heapSortCmpFunc[tollgate/snap.file]", by decide, Tryz.func117.trans (congrArg some (by kernel_rfl))⟩
  f22 := ⟨ "slices.breakPatternsCmpFunc[tollgate/snap.file]", by decide, Tryz.func118.trans (congrArg some (by kernel_rfl))⟩
  f23 := ⟨ "slices.choosePivotCmpFunc[tollgate/snap.file]", by decide, Tryz.func119.trans (congrArg some (by kernel_rfl))⟩
  f24 := ⟨ "slices.reverseRangeCmpFunc[tollgate/snap.file]", by decide, Tryz.func120.trans (congrArg some (by kernel_rfl))⟩
  f25 := ⟨ "slices.partialInsertionSortCmpFunc[tollgate/snap.file]", by decide, Tryz.func121.trans (congrArg some (by kernel_rfl))⟩
  f26 := ⟨ "slices.partitionEqualCmpFunc[tollgate/snap.file]", by decide, Tryz.func122.trans (congrArg some (by kernel_rfl))⟩
  f27 := ⟨ "slices.partitionCmpFunc[tollgate/snap.file]", by decide, Tryz.func123.trans (congrArg some (by kernel_rfl))⟩
  f28 := Tryz.func124.trans (congrArg some (by kernel_rfl))
  f29 := Tryz.func125.trans (congrArg some (by kernel_rfl))
  f46 := ⟨ "slices.siftDownCmpFunc[tollgate/snap.file]", by decide, Tryz.func135.trans (congrArg some (by kernel_rfl))⟩
  f47 := Tryz.func136.trans (congrArg some (by kernel_rfl))
  f48 := Tryz.func137.trans (congrArg some (by kernel_rfl))
  f49 := ⟨ "slices.medianAdjacentCmpFunc[tollgate/snap.file]", by decide, Tryz.func138.trans (congrArg some (by kernel_rfl))⟩
  f50 := ⟨ "slices.medianCmpFunc[tollgate/snap.file]", by decide, Tryz.func139.trans (congrArg some (by kernel_rfl))⟩
  f57 := ⟨ "slices.order2CmpFunc[tollgate/snap.file]", by decide, Tryz.func144.trans (congrArg some (by kernel_rfl))⟩
  t0 := Tryz.underlying0
  a0 := Tryz.isAgg0
  z0 := Tryz.sizeOf0
  v0 := Tryz.zeroValue0
  t3 := Tryz.underlying3
  a3 := Tryz.isAgg3
  z3 := Tryz.sizeOf3
  v3 := Tryz.zeroValue3
  t4 := Tryz.underlying4
  a4 := Tryz.isAgg4
  z4 := Tryz.sizeOf4
  v4 := Tryz.zeroValue4
  t5 := Tryz.underlying5
  a5 := Tryz.isAgg5
  z5 := Tryz.sizeOf5
  v5 := Tryz.zeroValue5
  t9 := Tryz.underlying9
  a9 := Tryz.isAgg9
  z9 := Tryz.sizeOf9
  v9 := Tryz.zeroValue9
  t22 := Tryz.underlying94
  a22 := Tryz.isAgg94
  z22 := Tryz.sizeOf94
  v22 := Tryz.zeroValue94
  t25 := Tryz.underlying141
  a25 := Tryz.isAgg141
  z25 := Tryz.sizeOf141
  v25 := Tryz.zeroValue141
  t39 := Tryz.underlying137
  a39 := Tryz.isAgg137
  z39 := Tryz.sizeOf137
  v39 := Tryz.zeroValue137
  t45 := Tryz.underlying155
  a45 := Tryz.isAgg155
  z45 := Tryz.sizeOf155
  v45 := Tryz.zeroValue155
  t46 := Tryz.underlying156
  a46 := Tryz.isAgg156
  z46 := Tryz.sizeOf156
  v46 := Tryz.zeroValue156
  t50 := Tryz.underlying160
  a50 := Tryz.isAgg160
  z50 := Tryz.sizeOf160
  v50 := Tryz.zeroValue160
  t53 := Tryz.underlying82
  a53 := Tryz.isAgg82
  z53 := Tryz.sizeOf82
  v53 := Tryz.zeroValue82
  t55 := Tryz.underlying164
  a55 := Tryz.isAgg164
  z55 := Tryz.sizeOf164
  v55 := Tryz.zeroValue164
  t66 := Tryz.underlying171
  a66 := Tryz.isAgg171
  z66 := Tryz.sizeOf171
  v66 := Tryz.zeroValue171
  t70 := Tryz.underlying175
  a70 := Tryz.isAgg175
  z70 := Tryz.sizeOf175
  v70 := Tryz.zeroValue175
  t76 := Tryz.underlying179
  a76 := Tryz.isAgg179
  z76 := Tryz.sizeOf179
  v76 := Tryz.zeroValue179
  t77 := Tryz.underlying180
  a77 := Tryz.isAgg180
  z77 := Tryz.sizeOf180
  v77 := Tryz.zeroValue180
end Go.Proofs
namespace Go.Vc
open Go Go.Proofs Go.RowKit Go.Sort Go.Shelf
section
variable {E w w' : World} {L : List Asrt} {a : Option Addr} {l c sz n : Nat} {e : TypeId} {xs : List Value}
theorem below_env {B : Nat} (h : Below B w w') : SameEnv w w' := ⟨h.os, h.tape, h.output⟩
theorem St.of_row {v : Value} (h : St E L w) (hb : Below w.heap.size w w') (hr : w'.ownsRow w.heap.size e sz v n xs) : ∃ a c, v = .slice a n c ∧ St E (ownS a n c e sz xs :: L) w' := by
  obtain ⟨h1, h2⟩ := hr
  rcases h2 with ⟨rfl, rfl⟩ | ⟨g, cap, cur, rfl, hg, hc, h3, h4, h5, h6⟩
  · have : xs = [] := List.eq_nil_of_length_eq_zero (by simpa using h1)
    subst this
    exact ⟨none, 0, rfl, (h.same (below_env hb) hb.block).ownS_nil⟩
  · refine ⟨_, _, rfl, St.ownS_mk (rest := cur.toList.drop (n * sz)) ?_ h1 h3 h4 ?_⟩
    · have := h.add_new (o := .cells cur e (0, 0)) (below_env hb) hg hc hb.block
      refine this.mono fun x hx => ?_
      show x g = some (true, .cells ⟨xs ++ cur.toList.drop (n * sz)⟩ e (0, 0))
      rw [← h6, List.take_append_drop]; exact hx
    · rw [List.length_drop, Array.length_toList, h5, Nat.sub_mul]
theorem put_cells {α : Type} [Inhabited α] (enc : α → Value) (ts : List α) (xs rest : List Value) (h : xs.length = ts.length) : putCells enc 0 ts.toArray ⟨xs ++ rest⟩ = ⟨ts.map enc ++ rest⟩ := by
  apply Array.ext'
  apply List.ext_getElem?
  intro j
  simp only [putCells, Array.toList_mapIdx, List.getElem?_mapIdx]
  by_cases hj : j < ts.length
  · have h1 : j < (ts.map enc).length := by simpa using hj
    have h2 : j < xs.length := by omega
    rw [List.getElem?_append_left (l₁ := xs) h2, List.getElem?_append_left (l₁ := ts.map enc) h1, List.getElem?_map]
    simp [hj, h2]
  · have h1 : (ts.map enc).length ≤ j := by simpa using hj
    have h2 : xs.length ≤ j := by omega
    rw [List.getElem?_append_right (l₁ := xs) h2, List.getElem?_append_right (l₁ := ts.map enc) h1]
    simp [hj, h]
theorem St.sorted_row {α : Type} [Inhabited α] {enc : α → Value} {ts : List α} {g m : Nat} {os : Array Obj} {rest : List Value} (h : St E (blkL g e (xs ++ rest) :: L) w) (hx : xs.length = ts.length) :
    St E (blkL g e (ts.map enc ++ rest) :: L) (grow (putRow enc (Sort.ahead w m) g 0 ts.toArray) os) := by
  have hg : w.heap[g]? = some (.cells ⟨xs ++ rest⟩ e (0, 0)) := h.at_blk
  have hlt : g < w.heap.size := (Array.getElem?_eq_some_iff.1 hg).1
  refine St.upd (o := .cells ⟨xs ++ rest⟩ e (0, 0)) h ⟨rfl, rfl, rfl⟩ ?_ ?_
  · rw [heap_grow_old _ _ (by simpa using hlt)]
    simp [putRow, mapBlock, Sort.ahead, Array.getElem?_modify, hg, onCells, put_cells _ _ _ _ hx]
  · intro k hk hlt2
    rw [heap_grow_old _ _ (by simpa using hlt2)]
    simp [putRow, mapBlock, Sort.ahead, Array.getElem?_modify, Ne.symm hk]
theorem holds_row {α : Type} [Inhabited α] {enc : α → Value} {ss : List α} {g : Nat} {rest : List Value} (h : w.heap[g]? = some (.cells ⟨ss.map enc ++ rest⟩ e (0, 0))) : Holds enc w g 0 ss.toArray := by
  intro j hj
  have hj' : j < ss.length := by simpa using hj
  refine ⟨?_, by simp [World.frozen?, h]⟩
  have h1 : (ss.map enc ++ rest)[j]? = some (enc ss[j]) := by rw [List.getElem?_append_left (by simpa using hj')]; simp [hj']
  simp only [World.cell?, h, Nat.zero_add]
  simp only [Option.isSome_none, Bool.false_eq_true, if_false]
  rw [← Array.getElem?_toList, h1]
  simp [hj']
theorem flatK_eq {α : Type} [Inhabited α] (enc : α → List Value) (k : Nat) (hk : ∀ x, (enc x).length = k) (h0 : 0 < k) (ts : List α) : flatK enc k ts.toArray = (ts.flatMap enc).toArray := by
  apply Array.ext'
  apply List.ext_getElem?
  intro t
  by_cases ht : t < ts.length * k
  · have hq : t / k < ts.length := (Nat.div_lt_iff_lt_mul h0).2 ht
    have hr : t % k < k := Nat.mod_lt _ h0
    have e1 := flat_get (f := enc) hk ts (t / k) (t % k) ts[t / k] (by simp [hq]) hr
    rw [Nat.mul_comm, Nat.div_add_mod] at e1
    rw [show (ts.flatMap enc).toArray.toList = ts.flatMap enc from rfl, e1]
    simp [flatK, ht, hq]
    have : t % k < (enc ts[t / k]).length := by rw [hk]; exact hr
    simp [this]
  · rw [List.getElem?_eq_none (by simp [flatK]; omega), List.getElem?_eq_none (by simp only [flat_len hk]; omega)]
theorem sort_uniq {α : Type} {le : α → α → Bool} (tr : ∀ a b c, le a b = true → le b c = true → le a c = true) (to : ∀ a b, (le a b || le b a) = true) (an : ∀ a b, le a b = true → le b a = true → a = b)
    {ss ks : List α} (hp : ks.Perm ss) (hk : ks.Pairwise fun a b => le a b = true) : ss.mergeSort le = ks :=
  List.Perm.eq_of_pairwise (le := fun a b => le a b = true) (fun a b _ _ h1 h2 => an a b h1 h2) (List.pairwise_mergeSort tr to ss) hk ((List.mergeSort_perm ss le).trans hp.symm)
theorem uniq_str {ss ks : List (List UInt8)} (hp : ks.Perm ss) (hk : ks.Pairwise (· < ·)) : (ss.mergeSort fun x y => decide (x ≤ y)) = ks :=
  sort_uniq (le := fun x y => decide (x ≤ y)) (fun a b c h1 h2 => decide_eq_true (List.le_trans (of_decide_eq_true h1) (of_decide_eq_true h2))) (fun a b => by have := List.le_total a b; simpa using this)
    (fun a b h1 h2 => List.le_antisymm (of_decide_eq_true h1) (of_decide_eq_true h2)) hp (hk.imp fun {a b} h => decide_eq_true (List.le_of_lt h))
end
end Go.Vc
namespace Go.Vc
open Go Go.Proofs Go.Proofs.YtclinifclfahfaaGreat Go.RowKit Go.Sort Go.Shelf
set_option maxRecDepth 100000
section
variable {E w : World} {L : List Asrt} {R : RT} {ν : Type} {vv : ν → Value} {b : Nat}
theorem keysFn_S : ∀ args w, (callFunc 103 args).run Tryz.prog w = .ok (.enter 103 args) w := enters_of Tryz.func103 (by kernel_rfl) rfl
theorem CollectS_spec {m : List (List UInt8 × ν)} {B : Nat} (h : St E (blkL B 85 [.map (some b)] :: mapA b encS vv m :: L) w) (hN : m.length ≤ 1000)
    (k : ∀ a l c w' (ss : List (List UInt8)), ss.Perm (m.map (·.1)) → l = ss.length → St E (ownS a l c 9 1 (ss.flatMap celS) :: blkL B 85 [.map (some b)] :: mapA b encS vv m :: L) w' → R (.returned (.slice a l c)) w') :
    Calls Tryz.prog 101 #[.func (.func 103) #[] #[.pointer (some ⟨B, 0, none⟩)]] w R := by
  have hB := h.at_blk
  have hlt := (Array.getElem?_eq_some_iff.1 hB).1
  refine C_q1o ?_
  unfold T_q1o
  refine ((callsIn_wide (n := 2)).1 (appendSeqS_in Fence.wide 2 trivial rfl (by decide) _ #[.pointer (some ⟨B, 0, none⟩)] trivial keysFn_S (fun ss => ss.Perm (m.map (·.1))) m.length (by simp only [maxLen]; omega) (by omega) w
    (givesS Fence.wide 1 trivial rfl (by decide) B b m w hlt (by rw [cell_of hB]; rfl) h.f1.mapW))).mono ?_
  rintro e w' ⟨v, ss, rfl, hS, hr, hb⟩
  obtain ⟨a, c, rfl, h2⟩ := h.of_row hb hr
  exact ⟨a, _, c, rfl, k _ _ _ _ ss hS rfl h2⟩
theorem flat_celS (ss : List (List UInt8)) : ss.flatMap celS = ss.map encStr := by induction ss with
  | nil => rfl
  | cons a r ih => rw [List.flatMap_cons, ih]; rfl
theorem SortS_spec {a : Option Addr} {c : Nat} {ss ks : List (List UInt8)} (h : St E (ownS a ss.length c 9 1 (ss.flatMap celS) :: L) w) (hN : ss.length ≤ 1000) (hp : ks.Perm ss) (hk : ks.Pairwise (· < ·))
    (k : ∀ w', St E (ownS a ks.length c 9 1 (ks.flatMap celS) :: L) w' → R (.returned (.tuple #[])) w') : Calls Tryz.prog 102 #[.slice a ss.length c] w R := by
  have hl := hp.length_eq
  obtain ⟨_, hlc, hcm⟩ := h.ownS_facts
  rcases h.ownS_open with ⟨rfl, h0, rfl, hx⟩ | ⟨g, rest, rfl, hr, h2⟩
  · have hs : ss = [] := List.eq_nil_of_length_eq_zero h0
    subst hs
    have hk0 : ks = [] := List.eq_nil_of_length_eq_zero hl
    subst hk0
    refine (AnyM.slices_Sort_string_none Tryz.sortS none 0 w).mono ?_
    rintro e w' ⟨rfl, rfl⟩
    exact k _ h
  · rw [flat_celS] at h2
    refine (AnyM.slices_Sort_string Tryz.sortS g 0 c ss w (holds_row (enc := encStr) h2.at_blk) (Array.getElem?_eq_some_iff.1 h2.at_blk).1 (by omega)).mono ?_
    rintro e w' ⟨rfl, n, os, rfl⟩
    rw [uniq_str hp hk]
    refine k _ (St.ownS_mk (rest := rest) ?_ (by rw [flat_celS]; simp) (by omega) hcm (by omega))
    rw [flat_celS]
    exact h2.sorted_row (by simp [hl])
end
end Go.Vc
namespace Go.Vc
open Go Go.Proofs Go.Proofs.YtclinifclfahfaaGreat
set_option maxRecDepth 100000
section
variable {E w : World} {L : List Asrt} {R : RT} {F G : Fz} {q s : Sl} {b : Cm.Bs} {dp c : Nat} {d : Dk.Ds} {m : List (Cm.Bs × Nat)} {fs : List FR} {n : Cm.Bs}
def namesOf (d : Dk.Ds) : List Cm.Bs := d.l.map (·.name)
theorem names_up (I : Dk.Inv d) : (namesOf d).Pairwise (· < ·) := by
  have h1 := (Cm.rises_iff Dk.flOrd _).1 I.r
  exact List.pairwise_map.2 (h1.imp fun h => of_decide_eq_true h)
theorem names_perm (ok : dkOk G c d m fs) : (namesOf d).Perm (m.map (·.1)) := by
  have h := (ok.m.map (·.1)).symm
  rw [List.map_map] at h
  unfold namesOf
  rw [ok.l, List.map_map]
  exact h
theorem DNames_spec (I : Dk.Inv d) (h : St E (diskA F c dp d :: L) w)
    (k : ∀ (w' : World) (o : Sl), o.2.1 = (namesOf d).length → St E (ownS o.1 o.2.1 o.2.2 9 1 ((namesOf d).flatMap celS) :: diskA F c dp d :: L) w' → R (.returned (.slice o.1 o.2.1 o.2.2)) w') :
    Calls Tryz.prog 27 #[.pointer (some ⟨dp, 0, none⟩)] w R := by
  obtain ⟨bm, m, fs, ok, h⟩ := h.dk_open
  have hlen : (namesOf d).length ≤ 16 := by unfold namesOf; rw [List.length_map]; exact I.n
  have hml := (names_perm ok).length_eq
  rw [List.length_map] at hml
  refine C_q5z ?_
  unfold T_q5z
  refine ite_b (fun hh => by simp at hh) fun _ => ?_
  refine ⟨_, rfl, _, rd_fld h.at_blk rfl rfl, ?_⟩
  refine C_q00 ?_
  unfold T_q00
  intro w2
  have h2 : St E (blkL w.heap.size 85 [.map (some bm)] :: mapA bm encS encF m :: blkL dp 87 (diskV d bm) :: (filesL fs ++ L)) w2 := h.f1.alloc (.cells ⟨[.map (some bm)]⟩ 85)
  clear_value w2
  generalize w.heap.size = bk at *
  refine ⟨_, rfl, rfl, ?_⟩
  refine C_q2a ?_
  unfold T_q2a
  refine CollectS_spec h2 (by omega) fun a l cc w3 ss hss hl h3 => ⟨_, _, _, rfl, ?_⟩
  subst hl
  refine SortS_spec (ks := namesOf d) h3 (by have := hss.length_eq; rw [List.length_map] at this; omega) ((names_perm ok).trans hss.symm) (names_up I) fun w6 h6 => ⟨rfl, _, _, _, rfl, ?_⟩
  have hle : ss.length = (namesOf d).length := by have := hss.length_eq; rw [List.length_map] at this; omega
  rw [hle]
  have h7 : St E (ownS a (namesOf d).length cc 9 1 ((namesOf d).flatMap celS) :: blkL dp 87 (diskV d bm) :: mapA bm encN encF m :: (filesL fs ++ L)) w6 := h6.sel 4 [0, 3, 2] (by simp)
  have h8 : St E (blkL dp 87 (diskV d bm) :: mapA bm encN encF m :: (filesL fs ++ ownS a (namesOf d).length cc 9 1 ((namesOf d).flatMap celS) :: L)) w6 :=
    h7.perm (List.perm_middle (l₁ := blkL dp 87 (diskV d bm) :: mapA bm encN encF m :: filesL fs)).symm
  exact k w6 (a, (namesOf d).length, cc) rfl (St.f1 (St.dk_mk ok h8))
end
end Go.Vc
namespace Go.Sn
open Go.Cm (num)
def piece (b : Bs) (at_ n : Nat) : Bs := num b.length ++ (num at_ ++ (b.drop at_).take n)
def piecesGo (b : Bs) (size : Nat) : Nat → Nat → List Bs
  | 0, _ => []
  | f + 1, at_ => if b.length ≤ at_ then [] else piece b at_ size :: piecesGo b size f (at_ + size)
def pieces (b : Bs) (size : Nat) : List Bs := piece b 0 size :: piecesGo b size b.length size
def piecesE (b : Bs) (size : Int) : Int := if size < 1 then 2 else if 32768 < b.length then 6 else 0
structure Gt where
  begun : Bool
  total : Nat
  b : Bs
def gt0 : Gt := ⟨false, 0, []⟩
def addIn (g : Gt) (total place : Nat) (inn : Bs) : Gt × Snp × Bool × Int :=
  if 32768 < total then (g, none, false, 6)
  else if total < place ∨ total - place < inn.length ∨ (inn.length = 0 ∧ 0 < total) then (g, none, false, 4)
  else if 0 < place ∧ (g.begun = false ∨ g.total ≠ total ∨ g.b.length ≠ place) then (g, none, false, 12)
  else
    let b := (if place = 0 then [] else g.b) ++ inn
    if b.length < total then (⟨true, total, b⟩, none, false, 0)
    else match getS b with
      | .ok s => (gt0, s, true, 0)
      | .error e => (gt0, none, false, e)
def add (g : Gt) (p : Bs) : Gt × Snp × Bool × Int :=
  match tk p with
  | .error e => (g, none, false, e)
  | .ok (total, r1) =>
    match tk r1 with
    | .error e => (g, none, false, e)
    | .ok (place, inn) => addIn g total place inn
def alike (g h : Gt) : Prop := g.begun = h.begun ∧ g.b = h.b ∧ (g.begun = true → g.total = h.total)
theorem alike.refl (g : Gt) : alike g g := ⟨rfl, rfl, fun _ => rfl⟩
end Go.Sn
namespace Go.Sn
open Go.Dk (Ds Fl now named Inv find without putF)
def dig (n : Nat) : UInt8 := UInt8.ofNat (48 + n % 10)
def digs : Nat → Nat → Bs
  | 0, _ => []
  | f + 1, n => if n = 0 then [] else digs f (n / 10) ++ [dig n]
def dec (n : Nat) : Bs := digs 14 n
def val (b : Bs) : Nat := b.foldl (fun n c => 10 * n + (c.toNat - 48)) 0
def isDig (c : UInt8) : Bool := decide (48 ≤ c.toNat ∧ c.toNat ≤ 57)
def pre : Bs := [115, 110, 97, 112, 45]
def tmp : Bs := [115, 110, 97, 112, 46, 116, 109, 112]
def nameOf (n : Nat) : Bs := pre ++ dec n
def shaped (s : Bs) : Bool := decide (6 ≤ s.length ∧ s.length ≤ 18) && (decide (s.take 5 = pre) && (s.drop 5).all isDig)
def numbered (s : Bs) : Nat := if shaped s = true ∧ val (s.drop 5) ≤ 1099511627776 ∧ dec (val (s.drop 5)) = s.drop 5 then val (s.drop 5) else 0
theorem dig_toNat (n : Nat) : (dig n).toNat = 48 + n % 10 := by
  unfold dig
  rw [UInt8.toNat_ofNat']
  omega
theorem val_snoc (b : Bs) (c : UInt8) : val (b ++ [c]) = 10 * val b + (c.toNat - 48) := by simp [val]
theorem val_digs : ∀ (f n : Nat), n < 10 ^ f → val (digs f n) = n
  | 0, n, h => by have : n = 0 := by simpa using h
                  subst this; rfl
  | f + 1, n, h => by
    unfold digs
    split
    · rename_i h0; rw [h0]; rfl
    · have : n / 10 < 10 ^ f := by rw [Nat.pow_succ] at h; omega
      rw [val_snoc, val_digs f _ this, dig_toNat]; omega
theorem digs_all : ∀ (f n : Nat), (digs f n).all isDig = true
  | 0, _ => rfl
  | f + 1, n => by
    unfold digs
    split
    · rfl
    · rw [List.all_append, digs_all f]
      have := dig_toNat n
      simp [isDig]; omega
theorem digs_len : ∀ (f n k : Nat), n < 10 ^ k → (digs f n).length ≤ k
  | 0, _, _, _ => Nat.zero_le _
  | f + 1, n, k, h => by
    unfold digs
    split
    · exact Nat.zero_le _
    · rename_i h0
      cases k with
      | zero => simp at h; omega
      | succ k =>
        have := digs_len f (n / 10) k (by rw [Nat.pow_succ] at h; omega)
        simp; omega
theorem digs_pos {f n : Nat} (h : n ≠ 0) : 1 ≤ (digs (f + 1) n).length := by
  unfold digs
  rw [if_neg h]; simp
theorem dec_ok {n : Nat} (h : n ≤ 1099511627776) : val (dec n) = n ∧ (dec n).length ≤ 13 ∧ (dec n).all isDig = true := ⟨val_digs 14 n (by omega), digs_len 14 n 13 (by omega), digs_all 14 n⟩
theorem name_len {n : Nat} (h : n ≤ 1099511627776) : (nameOf n).length ≤ 18 := by
  have := (dec_ok h).2.1
  simp [nameOf, pre]; omega
theorem numbered_name {n : Nat} (h0 : 0 < n) (h : n ≤ 1099511627776) : numbered (nameOf n) = n := by
  obtain ⟨h1, h2, h3⟩ := dec_ok h
  have h4 : 1 ≤ (dec n).length := digs_pos (by omega)
  have hd : (nameOf n).drop 5 = dec n := rfl
  have ht : (nameOf n).take 5 = pre := rfl
  have hl : (nameOf n).length = 5 + (dec n).length := by simp [nameOf, pre]; omega
  unfold numbered shaped
  rw [hd, ht, h3, h1, hl, if_pos ⟨by simp; omega, h, rfl⟩]
theorem name_numbered {s : Bs} (h : 0 < numbered s) : s = nameOf (numbered s) ∧ numbered s ≤ 1099511627776 := by
  unfold numbered at h ⊢
  split at h
  · rename_i hc
    rw [if_pos hc]
    obtain ⟨h1, h2, h3⟩ := hc
    unfold shaped at h1
    simp only [Bool.and_eq_true, decide_eq_true_eq] at h1
    refine ⟨?_, h2⟩
    unfold nameOf
    rw [h3]
    conv => lhs; rw [← List.take_append_drop 5 s]
    rw [h1.2.1]
  · omega
theorem val_lt : ∀ (b : Bs), b.all isDig = true → ∀ a : Nat, b.foldl (fun n c => 10 * n + (c.toNat - 48)) a < (a + 1) * 10 ^ b.length
  | [], _, a => by simp
  | c :: r, h, a => by
    rw [List.all_cons, Bool.and_eq_true] at h
    have hc := h.1
    simp only [isDig, decide_eq_true_eq] at hc
    have ih := val_lt r h.2 (10 * a + (c.toNat - 48))
    rw [List.foldl_cons, List.length_cons, Nat.pow_succ]
    have : (10 * a + (c.toNat - 48) + 1) * 10 ^ r.length ≤ (10 * (a + 1)) * 10 ^ r.length := Nat.mul_le_mul_right _ (by omega)
    have e : (a + 1) * (10 ^ r.length * 10) = 10 * (a + 1) * 10 ^ r.length := by rw [Nat.mul_comm (10 ^ r.length), ← Nat.mul_assoc, Nat.mul_comm (a + 1)]
    omega
def older (k : Nat) (f : Fl) : Bool := decide (0 < numbered f.name) && decide (numbered f.name < k)
def save (d : Ds) (s : Snp) : Ds × Int :=
  if putE s ≠ 0 then (d, putE s)
  else
    let d1 := (Dk.remove d tmp).1
    let w := Dk.write d1 tmp 0 (putB s)
    if w.2 ≠ 0 then ((Dk.remove w.1 tmp).1, w.2)
    else
      let d3 := (Dk.sync w.1 tmp).1
      let r := Dk.rename d3 tmp (nameOf s.idx.toNat)
      if r.2 ≠ 0 then ((Dk.remove r.1 tmp).1, r.2)
      else ({ r.1 with l := r.1.l.filter fun f => !older s.idx.toNat f }, 0)
def good (f : Fl) : Option Snp :=
  if 0 < numbered f.name then
    match getS (now f) with
    | .ok s => if s.idx = (numbered f.name : Int) then some s else Option.none
    | .error _ => Option.none
  else Option.none
def best : Snp → List Fl → Snp
  | b, [] => b
  | b, f :: r => match good f with
    | some s => if b.idx < s.idx then best s r else best b r
    | Option.none => best b r
def load (d : Ds) : Snp × Int := if (best none d.l).idx = 0 then (none, 8) else (best none d.l, 0)
theorem good_idx {f : Fl} {s : Snp} (h : good f = some s) : 0 < numbered f.name ∧ s.idx = numbered f.name ∧ getS (now f) = .ok s := by
  unfold good at h
  split at h
  · rename_i h0
    split at h
    · rename_i s' hs
      split at h
      · rename_i hi
        injection h with h
        subst h
        exact ⟨h0, hi, hs⟩
      · cases h
    · cases h
  · cases h
theorem best_spec : ∀ (l : List Fl) (b : Snp), (best b l = b ∧ ∀ f ∈ l, ∀ s, good f = some s → s.idx ≤ b.idx) ∨ (∃ f ∈ l, good f = some (best b l) ∧ b.idx < (best b l).idx ∧ ∀ g ∈ l, ∀ s, good g = some s → s.idx ≤ (best b l).idx)
  | [], b => .inl ⟨rfl, fun _ h => nomatch h⟩
  | f :: r, b => by
    unfold best
    split
    · rename_i s hs
      split
      · rename_i hlt
        rcases best_spec r s with ⟨h1, h2⟩ | ⟨g, hg, h1, h2, h3⟩
        · refine .inr ⟨f, List.mem_cons_self, by rw [h1]; exact hs, by rw [h1]; exact hlt, fun x hx t ht => ?_⟩
          rw [h1]
          rcases List.mem_cons.1 hx with rfl | hx
          · rw [hs] at ht; injection ht with ht; rw [ht]; exact Int.le_refl _
          · exact h2 x hx t ht
        · refine .inr ⟨g, List.mem_cons_of_mem _ hg, h1, by omega, fun x hx t ht => ?_⟩
          rcases List.mem_cons.1 hx with rfl | hx
          · rw [hs] at ht; injection ht with ht; rw [← ht]; omega
          · exact h3 x hx t ht
      · rename_i hge
        rcases best_spec r b with ⟨h1, h2⟩ | ⟨g, hg, h1, h2, h3⟩
        · refine .inl ⟨h1, fun x hx t ht => ?_⟩
          rcases List.mem_cons.1 hx with rfl | hx
          · rw [hs] at ht; injection ht with ht; rw [← ht]; omega
          · exact h2 x hx t ht
        · refine .inr ⟨g, List.mem_cons_of_mem _ hg, h1, h2, fun x hx t ht => ?_⟩
          rcases List.mem_cons.1 hx with rfl | hx
          · rw [hs] at ht; injection ht with ht; rw [← ht]; omega
          · exact h3 x hx t ht
    · rename_i hn
      rcases best_spec r b with ⟨h1, h2⟩ | ⟨g, hg, h1, h2, h3⟩
      · refine .inl ⟨h1, fun x hx t ht => ?_⟩
        rcases List.mem_cons.1 hx with rfl | hx
        · rw [hn] at ht; cases ht
        · exact h2 x hx t ht
      · refine .inr ⟨g, List.mem_cons_of_mem _ hg, h1, h2, fun x hx t ht => ?_⟩
        rcases List.mem_cons.1 hx with rfl | hx
        · rw [hn] at ht; cases ht
        · exact h3 x hx t ht
end Go.Sn
namespace Go.Dk
open Go.Cm (rises Ord)
theorem pair_mid {a b : List Fl} {x : Fl} (h : rises flLt (a ++ x :: b) = true) : (∀ y ∈ a, flLt y x = true) ∧ ∀ y ∈ b, flLt x y = true := by
  have h := (Cm.rises_iff flOrd _).1 h
  rw [List.pairwise_append, List.pairwise_cons] at h
  exact ⟨fun y hy => h.2.2 y hy x List.mem_cons_self, h.2.1.1⟩
theorem flt_asym {a b : Fl} (h : flLt a b = true) : flLt b a = false := by
  cases hc : flLt b a with
  | false => rfl
  | true =>
    have h1 := flOrd.tr a b a h hc
    rw [flOrd.irr a a (flOrd.refl a)] at h1
    cases h1
theorem putF_mid {a b : List Fl} {x g : Fl} (h : rises flLt (a ++ x :: b) = true) (hn : g.name = x.name) : putF (a ++ x :: b) g = a ++ g :: b := by
  obtain ⟨h1, h2⟩ := pair_mid h
  have e1 : ∀ y, flLt y g = flLt y x := fun y => by unfold flLt; rw [hn]
  have e2 : ∀ y, flLt g y = flLt x y := fun y => by unfold flLt; rw [hn]
  have hx : flLt x x = false := flOrd.irr x x (flOrd.refl x)
  unfold putF Cm.put
  simp only [e1, e2]
  rw [List.filter_append, List.filter_append, List.filter_cons, List.filter_cons, hx]
  have f1 : a.filter (fun y => flLt y x) = a := List.filter_eq_self.2 h1
  have f2 : b.filter (fun y => flLt x y) = b := List.filter_eq_self.2 h2
  have f3 : b.filter (fun y => flLt y x) = [] := List.filter_eq_nil_iff.2 fun y hy => by rw [flt_asym (h2 y hy)]; simp
  have f4 : a.filter (fun y => flLt x y) = [] := List.filter_eq_nil_iff.2 fun y hy => by rw [flt_asym (h1 y hy)]; simp
  rw [f1, f2, f3, f4]
  simp
theorem without_mid {a b : List Fl} {x : Fl} (h : rises flLt (a ++ x :: b) = true) : without (a ++ x :: b) x.name = a ++ b := by
  obtain ⟨h1, h2⟩ := pair_mid h
  unfold without
  rw [List.filter_append, List.filter_cons, if_neg (by simp)]
  congr 1
  · refine List.filter_eq_self.2 fun y hy => ?_
    have := of_decide_eq_true (h1 y hy)
    have hne : y.name ≠ x.name := fun e => by rw [e] at this; exact Cm.slt_irrefl _ this
    simp [hne]
  · refine List.filter_eq_self.2 fun y hy => ?_
    have := of_decide_eq_true (h2 y hy)
    have hne : y.name ≠ x.name := fun e => by rw [e] at this; exact Cm.slt_irrefl _ this
    simp [hne]
theorem find_mid {a b : List Fl} {x : Fl} (h : rises flLt (a ++ x :: b) = true) : find (a ++ x :: b) x.name = some x := by
  obtain ⟨h1, _⟩ := pair_mid h
  unfold find
  rw [List.find?_append, List.find?_eq_none.2 fun y hy => ?_]
  · simp
  · have := of_decide_eq_true (h1 y hy)
    have hne : y.name ≠ x.name := fun e => by rw [e] at this; exact Cm.slt_irrefl _ this
    simp [hne]
theorem crashL_snoc (keep : List Int) : ∀ (l : List Fl) (i : Nat) (x : Fl), crashL keep i (l ++ [x]) = crashL keep i l ++ (crashF (keepAt keep (i + l.length)) x).toList
  | [], i, x => by
    show crashL keep i [x] = _
    unfold crashL
    cases h : crashF (keepAt keep i) x with
    | none => simp [crashL, h]
    | some g => simp [crashL, h]
  | f :: r, i, x => by
    have ih := crashL_snoc keep r (i + 1) x
    rw [List.cons_append]
    unfold crashL
    rw [ih]
    have e : i + 1 + r.length = i + (f :: r).length := by simp; omega
    rw [e]
    cases crashF (keepAt keep i) f <;> simp
def mid (keep : List Int) (l : List Fl) (j : Nat) : List Fl := crashL keep 0 (l.take j) ++ l.drop j
theorem mid_zero (keep : List Int) (l : List Fl) : mid keep l 0 = l := by simp [mid, crashL]
theorem mid_all (keep : List Int) (l : List Fl) : mid keep l l.length = crashL keep 0 l := by simp [mid]
theorem mid_at {keep : List Int} {l : List Fl} {j : Nat} (hj : j < l.length) : mid keep l j = crashL keep 0 (l.take j) ++ l[j] :: l.drop (j + 1) := by
  unfold mid
  rw [List.drop_eq_getElem_cons hj]
theorem mid_succ {keep : List Int} {l : List Fl} {j : Nat} (hj : j < l.length) : mid keep l (j + 1) = crashL keep 0 (l.take j) ++ ((crashF (keepAt keep j) l[j]).toList ++ l.drop (j + 1)) := by
  unfold mid
  rw [List.take_succ_eq_append_getElem hj, crashL_snoc, List.length_take, Nat.min_eq_left (Nat.le_of_lt hj), Nat.zero_add, List.append_assoc]
theorem mid_del {room : Int} {keep : List Int} {l : List Fl} {j : Nat} (hj : j < l.length) (I : Inv ⟨room, mid keep l j⟩) (h : crashF (keepAt keep j) l[j] = none) :
    without (mid keep l j) l[j].name = mid keep l (j + 1) := by
  have r := I.r
  show without (mid keep l j) _ = _
  replace r : rises flLt (mid keep l j) = true := r
  rw [mid_at hj] at r ⊢
  rw [without_mid r, mid_succ hj, h]
  rfl
theorem mid_put {room : Int} {keep : List Int} {l : List Fl} {j : Nat} {g : Fl} (hj : j < l.length) (I : Inv ⟨room, mid keep l j⟩) (h : crashF (keepAt keep j) l[j] = some g) :
    putF (mid keep l j) g = mid keep l (j + 1) := by
  have r : rises flLt (mid keep l j) = true := I.r
  rw [mid_at hj] at r ⊢
  rw [putF_mid r (by rw [crashF_some h]), mid_succ hj, h]
  rfl
theorem mid_find {room : Int} {keep : List Int} {l : List Fl} {j : Nat} (hj : j < l.length) (I : Inv ⟨room, mid keep l j⟩) : find (mid keep l j) l[j].name = some l[j] := by
  have r : rises flLt (mid keep l j) = true := I.r
  rw [mid_at hj] at r ⊢
  exact find_mid r
theorem mid_inv {room : Int} {keep : List Int} {l : List Fl} {j : Nat} (hj : j < l.length) (I : Inv ⟨room, mid keep l j⟩) : Inv ⟨room, mid keep l (j + 1)⟩ := by
  have hm : l[j] ∈ mid keep l j := by rw [mid_at hj]; exact List.mem_append_right _ List.mem_cons_self
  cases h : crashF (keepAt keep j) l[j] with
  | none =>
    rw [← mid_del hj I h]
    exact I.filter _
  | some g =>
    rw [← mid_put hj I h]
    have e := crashF_some h
    have I2 := I.put (f := g) (by rw [e]; exact I.nm l[j] hm) (by rw [e]; exact (okU_len (okU_take _ (I.u l[j] hm))).2) (fun h => by rw [e] at h; cases h) (by rw [e]; exact I.fit (f := l[j]) hm)
    exact I2
end Go.Dk
namespace Go.Sn
open Go.Dk (Ds Fl now named Inv find without putF)
def nums (l : List Fl) : List Nat := (l.map fun f => numbered f.name).filter fun k => decide (0 < k)
theorem nums_mem {l : List Fl} {k : Nat} : k ∈ nums l ↔ 0 < k ∧ ∃ f ∈ l, numbered f.name = k := by
  unfold nums
  rw [List.mem_filter, List.mem_map]
  simp only [decide_eq_true_eq]
  exact ⟨fun h => ⟨h.2, h.1⟩, fun h => ⟨h.2, h.1⟩⟩
theorem nums_le {l : List Fl} {k : Nat} (h : k ∈ nums l) : 0 < k ∧ k ≤ 1099511627776 := by
  obtain ⟨h0, f, _, rfl⟩ := nums_mem.1 h
  exact ⟨h0, (name_numbered h0).2⟩
theorem nums_nodup {l : List Fl} (h : l.Pairwise fun a b => a.name ≠ b.name) : (nums l).Nodup := by
  unfold nums
  induction l with
  | nil => exact List.Pairwise.nil
  | cons a r ih =>
    rw [List.pairwise_cons] at h
    rw [List.map_cons, List.filter_cons]
    split
    · rename_i h0
      refine List.nodup_cons.2 ⟨fun hm => ?_, ih h.2⟩
      obtain ⟨h1, f, hf, he⟩ := nums_mem.1 hm
      have e1 := (name_numbered h1).1
      have e2 := (name_numbered (he ▸ h1 : 0 < numbered f.name)).1
      exact h.1 f hf (by rw [e1, e2, he])
    · exact ih h.2
theorem names_ne {d : Ds} (I : Inv d) : d.l.Pairwise fun a b => a.name ≠ b.name :=
  ((Cm.rises_iff Dk.flOrd _).1 I.r).imp fun h e => by
    have h := of_decide_eq_true h
    rw [e] at h
    exact Cm.slt_irrefl _ h
theorem find_name {d : Ds} (I : Inv d) {f : Fl} (h : f ∈ d.l) : find d.l f.name = some f := by
  obtain ⟨a, b, e⟩ := List.append_of_mem h
  have r := I.r
  rw [e] at r ⊢
  exact Dk.find_mid r
def pick (d : Ds) : List Nat → Snp × Int
  | [] => (none, 8)
  | k :: r => match getS (Dk.read d (nameOf k)).1 with
    | .ok s => if s.idx = (k : Int) then (s, 0) else pick d r
    | .error _ => pick d r
theorem pick_load {d : Ds} (I : Inv d) : ∀ (ks : List Nat), ks.Pairwise (fun a b => b < a) → (∀ k ∈ ks, k ∈ nums d.l) → (∀ f ∈ d.l, ∀ s, good f = some s → numbered f.name ∈ ks) → pick d ks = load d
  | [], _, _, h => by
    unfold pick load
    rcases best_spec d.l none with ⟨h1, _⟩ | ⟨f, hf, h1, _, _⟩
    · rw [h1]; rfl
    · cases h f hf _ h1
  | k :: r, hd, hk, h => by
    rw [List.pairwise_cons] at hd
    obtain ⟨h0, f, hf, he⟩ := nums_mem.1 (hk k List.mem_cons_self)
    have hn : f.name = nameOf k := by
      have := (name_numbered (he ▸ h0 : 0 < numbered f.name)).1
      rw [he] at this; exact this
    have hr : (Dk.read d (nameOf k)).1 = now f := by
      unfold Dk.read
      rw [← hn, find_name I hf]
    have same : ∀ g ∈ d.l, numbered g.name = k → g = f := fun g hg e => by
      have := (name_numbered (e ▸ h0 : 0 < numbered g.name)).1
      rw [e, ← hn] at this
      have h1 := find_name I hg
      rw [this, find_name I hf] at h1
      injection h1 with h1
      exact h1.symm
    have next : good f = Option.none → pick d r = load d := fun hg => by
      refine pick_load I r hd.2 (fun x hx => hk x (List.mem_cons_of_mem _ hx)) fun g hgm s hs => ?_
      rcases List.mem_cons.1 (h g hgm s hs) with e | e
      · rw [same g hgm e, hg] at hs; cases hs
      · exact e
    have hgood : good f = match getS (now f) with
        | .ok s => if s.idx = (k : Int) then some s else Option.none
        | .error _ => Option.none := by
      unfold good
      rw [he, if_pos h0] <;> rfl
    unfold pick
    rw [hr]
    cases hgs : getS (now f) with
    | error e => rw [hgs] at hgood; exact next hgood
    | ok s =>
      rw [hgs] at hgood
      by_cases hi : s.idx = (k : Int)
      · have hgf : good f = some s := by rw [hgood]; simp only [if_pos hi]
        simp only [if_pos hi]
        rcases best_spec d.l none with ⟨_, h2⟩ | ⟨g, hg, h1, h2, h3⟩
        · have := h2 f hf s hgf
          rw [hi] at this
          have h4 : (none : Snp).idx = 0 := rfl
          omega
        · have h5 := h3 f hf s hgf
          have h6 := h g hg _ h1
          have h7 := (good_idx h1).2.1
          have h8 : numbered g.name ≤ k := by
            rcases List.mem_cons.1 h6 with e | e
            · omega
            · exact Nat.le_of_lt (hd.1 _ e)
          have h9 : numbered g.name = k := by omega
          have := same g hg h9
          subst this
          rw [hgf] at h1
          injection h1 with h1
          unfold load
          rw [← h1, if_neg (by omega)]
      · simp only [if_neg hi] at hgood ⊢
        exact next hgood
theorem load_pick {d : Ds} (I : Inv d) {ks : List Nat} (hp : ks.Perm (nums d.l)) (hd : ks.Pairwise fun a b => b < a) : pick d ks = load d :=
  pick_load I ks hd (fun _ h => hp.mem_iff.1 h) fun f hf _ hs => hp.mem_iff.2 (nums_mem.2 ⟨(good_idx hs).1, f, hf, rfl⟩)
theorem remove_l (d : Ds) (n : Bs) : (Dk.remove d n).1 = { d with l := without d.l n } := by
  unfold Dk.remove
  split
  · rename_i h
    rw [Dk.without_same (Dk.find_none h)]
  · rfl
def remAll (i : Nat) : List Nat → Ds → Ds
  | [], d => d
  | k :: r, d => remAll i r (if k < i then (Dk.remove d (nameOf k)).1 else d)
theorem remAll_l (i : Nat) : ∀ (ks : List Nat) (d : Ds), remAll i ks d = { d with l := d.l.filter fun f => !ks.any fun k => decide (k < i ∧ f.name = nameOf k) }
  | [], d => by
    unfold remAll
    have : d.l.filter (fun f => !([] : List Nat).any fun k => decide (k < i ∧ f.name = nameOf k)) = d.l := List.filter_eq_self.2 fun _ _ => rfl
    rw [this]
  | k :: r, d => by
    unfold remAll
    rw [remAll_l i r]
    split
    · rename_i hk
      rw [remove_l]
      unfold without
      simp only [List.filter_filter]
      congr 2
      funext f
      simp [hk, Bool.and_comm]
    · rename_i hk
      congr 2
      funext f
      simp [hk]
theorem remAll_save {d : Ds} {i : Nat} {ks : List Nat} (hp : ks.Perm (nums d.l)) : remAll i ks d = { d with l := d.l.filter fun f => !older i f } := by
  rw [remAll_l]
  congr 1
  refine List.filter_congr fun f hf => ?_
  congr 1
  rw [Bool.eq_iff_iff, List.any_eq_true]
  unfold older
  simp only [Bool.and_eq_true, decide_eq_true_eq]
  constructor
  · rintro ⟨k, hk, h1, h2⟩
    have h3 := nums_le (hp.mem_iff.1 hk)
    rw [h2, numbered_name h3.1 h3.2]
    exact ⟨h3.1, h1⟩
  · rintro ⟨h1, h2⟩
    exact ⟨_, hp.mem_iff.2 (nums_mem.2 ⟨h1, f, hf, rfl⟩), h2, (name_numbered h1).1⟩
end Go.Sn
namespace Go.Proofs.YtclinifclfahfaaGreat
open Go Go.Vc
set_option maxRecDepth 100000
set_option linter.unusedVariables false
def T_qa7_1_body (X : Int → ByteArray → World → Prop) (n2 : Int) (s3 : ByteArray) (w : World) (Kn : ByteArray → World → Prop) (Kp : XT)  : Prop :=
 if (decide (n2 > 0)) = true then (runV Tryz.prog (convert 21 9 (.int .i32 (IntKind.wrap .i32 (IntKind.wrap .i64 ((48 : Int) + (Int.tmod n2 10)))))) w (fun r4 w5 => ∃ s6 : ByteArray, r4 = .string s6 ∧ runV Tryz.prog (do eqGuard .add 9 (.tmp 12) (.tmp 13) (.string s6) (.string s3); binOp .add 9 (.string s6) (.string s3)) w5 (fun r7 w8 => ∃ s9 : ByteArray, r7 = .string s9 ∧ X (IntKind.wrap .i64 (Int.tdiv n2 10)) s9 w8) Kp) Kp) else (Kn s3 w)
def T_q97 (n2 : Int) (s3 : ByteArray) (w : World) (Kn : ByteArray → World → Prop) (Kp : XT) : Prop :=
 ∀ X : Int → ByteArray → World → Prop, (∀ (n2 : Int) (s3 : ByteArray) (w : World), T_qa7_1_body X n2 s3 w Kn Kp → X n2 s3 w) → X n2 s3 w
def T_q5w : Exit → Option (List (Nat × Value)) := fun x => match x with | .normal => some [(3, .string default)] | .panic _ => some [] | _ => none
def T_q7l : Nat → Bool := ksOf [0, 3, 4, 5, 6, 7, 8, 9, 10, 11, 12, 13, 14]
def H_q97 : Env → World → QT → Prop := unitHook 17 T_q7l [(0, .int .i64 0), (3, .string default)] T_q5w fun l w C => match l with | [v0, v1] => T_q97 (pInt v0) (pStr v1) w (fun s11 w => C .normal [.string s11] w) (fun ch w => C (.panic ch) [] w) | _ => False
theorem T_q97_hl : allP (hokL Tryz.prog (hookAt []) (at_ (bodyOf Tryz.f59) [1, 1, 0, 0, 0]) 56) = (True) := by kernel_rfl
theorem T_q97_hok : HOk Tryz.prog (hookAt []) (at_ (bodyOf Tryz.f59) [1, 1, 0, 0, 0]) 56 := HOk_of _ _ (by rw [T_q97_hl]; exact trivial)
theorem T_q97_eq (C : Conts) (X : List Value → World → Prop) (n2 : Int) (s3 : ByteArray) (w : World) : vcCode Tryz.prog (hookAt []) (at_ (bodyOf Tryz.f59) [1, 1, 0, 0, 0]) 56 ⟨[(0, .int .i64 n2), (3, .string s3)] ++ [], 17, []⟩ w (seqQ (fun e w => takeAll e [(0, .int .i64 0), (3, .string default)] fun l => X l w) (blockQ 0 (unitQ T_q5w C))) = T_qa7_1_body (fun n2 s3 w => X [.int .i64 n2, .string s3] w) n2 s3 w (fun s12 w => C .normal [.string s12] w) (fun ch w => C (.panic ch) [] w) := by kernel_rfl
theorem T_qa7_1_ok : UnitOk Tryz.prog H_q97 (at_ (bodyOf Tryz.f59) [1, 1, 0]) 14 := by
 have hc : at_ (bodyOf Tryz.f59) [1, 1, 0] = .block 0 (.loop (at_ (bodyOf Tryz.f59) [1, 1, 0, 0, 0])) := by kernel_rfl
 rw [hc]
 refine loop_unit_ok (carr := [(0, .int .i64 0), (3, .string default)]) (fix := []) (ks := T_q7l) (H := (hookAt [])) (B := fun C X l u w => match l, u with | [v0, v1], [] => T_qa7_1_body (fun n2 s3 w => X [.int .i64 n2, .string s3] w) (pInt v0) (pStr v1) w (fun s13 w => C .normal [.string s13] w) (fun ch w => C (.panic ch) [] w) | _, _ => False) (by kernel_rfl) (by kernel_rfl) T_q97_hok ?_ ?_
 ·intro C X l u w hl hu
  obtain ⟨v0, _, rfl, k_v0, hl_v0⟩ := kC hl
  obtain ⟨n2, rfl⟩ := kind_int k_v0
  obtain ⟨v1, _, rfl, k_v1, hl_v1⟩ := kC hl_v0
  obtain ⟨s3, rfl⟩ := kind_string k_v1
  obtain rfl := kN hl_v1
  obtain rfl := kN hu
  exact T_q97_eq C X n2 s3 w
 ·intro l u w C hl hu
  obtain ⟨v0, _, rfl, k_v0, hl_v0⟩ := kC hl
  obtain ⟨n2, rfl⟩ := kind_int k_v0
  obtain ⟨v1, _, rfl, k_v1, hl_v1⟩ := kC hl_v0
  obtain ⟨s3, rfl⟩ := kind_string k_v1
  obtain rfl := kN hl_v1
  obtain rfl := kN hu
  constructor
  ·intro h X hX
   exact h (fun n2 s3 w => X [.int .i64 n2, .string s3] w) (fun n2 s3 w hb => hX [.int .i64 n2, .string s3] w ⟨rfl, rfl, trivial⟩ hb)
  ·intro h X hX
   exact h (fun l w => match l with | [v0, v1] => X (pInt v0) (pStr v1) w | _ => True) (fun l w hl hb => by
    obtain ⟨v0, _, rfl, k_v0, hl_v0⟩ := kC hl
    obtain ⟨n2, rfl⟩ := kind_int k_v0
    obtain ⟨v1, _, rfl, k_v1, hl_v1⟩ := kC hl_v0
    obtain ⟨s3, rfl⟩ := kind_string k_v1
    obtain rfl := kN hl_v1
    exact hX n2 s3 w hb)
def T_qa7 (n1 : Int) (w : World) (R : RT) : Prop :=
 T_q97 n1 (ByteArray.mk #[]) w (fun s14 w15 => runV Tryz.prog (do eqGuard .add 9 (.const (.string (ByteArray.mk #[115, 110, 97, 112, 45]))) (.tmp 15) (.string (ByteArray.mk #[115, 110, 97, 112, 45])) (.string s14); binOp .add 9 (.string (ByteArray.mk #[115, 110, 97, 112, 45])) (.string s14)) w15 (fun r16 w17 => ∃ s18 : ByteArray, r16 = .string s18 ∧ R (.returned (.string s18)) w17) (pan R)) (pan R)
theorem T_qa7_hl : allP (hokL Tryz.prog (hookAt [(14, H_q97)]) (bodyOf Tryz.f59) 1) = (UnitOk Tryz.prog H_q97 (at_ (bodyOf Tryz.f59) [1, 1, 0]) 14 ∧ True) := by kernel_rfl
theorem T_qa7_eq (n1 : Int) (w : World) (R : RT) : vcCode Tryz.prog (hookAt [(14, H_q97)]) (bodyOf Tryz.f59) 1 ⟨argEnv [.int .i64 n1] 0, Tryz.f59.ntmps, []⟩ w (finQ Tryz.prog Tryz.f59.results.toList R) = T_qa7 n1 w R := by kernel_rfl
theorem T_qa7_b : Tryz.f59.body = some (bodyOf Tryz.f59) := by kernel_rfl
theorem T_qa7_s : (quietSel (bodyOf Tryz.f59) && Nat.ble 1 Tryz.f59.ntmps) = true := by kernel_rfl
theorem C_qa7 {n1 : Int} {w : World} {R : RT} (h : T_qa7 n1 w R) : Calls Tryz.prog 59 #[.int .i64 n1] w R :=
 calls_of_text (args := [.int .i64 n1]) mixed Tryz.func59 T_qa7_b T_qa7_s (HOk_of _ _ (by rw [T_qa7_hl]; exact ⟨T_qa7_1_ok, trivial⟩)) (by rw [T_qa7_eq]; exact h)
def T_q7z (s1 : ByteArray) (x2 : Int) (s3 : ByteArray) (x4 : Int) (w : World) (R : RT) : Prop :=
 let w5 : World := w.alloc (.cells #[.string s1, .int .i64 x2] 97)
 let w6 : World := w5.alloc (.cells #[.string s3, .int .i64 x4] 97)
 ∃ x7 : Int, rd w6 ((⟨w5.heap.size, 0, none⟩ : Addr).add 1) (.int .i64 x7) ∧ ∃ x8 : Int, rd w6 ((⟨w.heap.size, 0, none⟩ : Addr).add 1) (.int .i64 x8) ∧ R (.returned (.int .i64 (IntKind.wrap .i64 (x7 - x8)))) w6
theorem T_q7z_hl : allP (hokL Tryz.prog (hookAt []) (bodyOf Tryz.f98) 1) = (True) := by kernel_rfl
theorem T_q7z_eq (s1 : ByteArray) (x2 : Int) (s3 : ByteArray) (x4 : Int) (w : World) (R : RT) : vcCode Tryz.prog (hookAt []) (bodyOf Tryz.f98) 1 ⟨argEnv [.agg #[.string s1, .int .i64 x2], .agg #[.string s3, .int .i64 x4]] 0, Tryz.f98.ntmps, []⟩ w (finQ Tryz.prog Tryz.f98.results.toList R) = T_q7z s1 x2 s3 x4 w R := by kernel_rfl
theorem T_q7z_b : Tryz.f98.body = some (bodyOf Tryz.f98) := by kernel_rfl
theorem T_q7z_s : (quietSel (bodyOf Tryz.f98) && Nat.ble 2 Tryz.f98.ntmps) = true := by kernel_rfl
theorem C_q7z {s1 : ByteArray} {x2 : Int} {s3 : ByteArray} {x4 : Int} {w : World} {R : RT} (h : T_q7z s1 x2 s3 x4 w R) : Calls Tryz.prog 98 #[.agg #[.string s1, .int .i64 x2], .agg #[.string s3, .int .i64 x4]] w R :=
 calls_of_text (args := [.agg #[.string s1, .int .i64 x2], .agg #[.string s3, .int .i64 x4]]) mixed Tryz.func98 T_q7z_b T_q7z_s (HOk_of _ _ (by rw [T_q7z_hl]; exact trivial)) (by rw [T_q7z_eq]; exact h)
def T_q8k (s13 : ByteArray) (w : World) (Kn : Bool → World → Prop) (Kp : XT) : Prop :=
 if (decide (((s13.size : Nat) : Int) < 6)) = true then (Kn true w) else (if (decide (((s13.size : Nat) : Int) > 18)) = true then (Kn true w) else (0 ≤ (5 : Int) ∧ (5 : Int) ≤ ((s13.size : Nat) : Int) ∧ Kn (!((s13.extract 0 ((5 : Int).toNat)).toList == (ByteArray.mk #[115, 110, 97, 112, 45]).toList)) w))
def T_q4r : Exit → Option (List (Nat × Value)) := fun x => match x with | .normal => some [(29, .bool false)] | .panic _ => some [] | _ => none
def T_q6p : Nat → Bool := ksOf [17, 18, 19, 20, 21, 22, 23, 24, 25, 26, 27, 28, 29]
def H_q8k : Env → World → QT → Prop := unitHook 72 T_q6p [(5, .string default)] T_q4r fun l w C => match l with | [v0] => T_q8k (pStr v0) w (fun b15 w => C .normal [.bool b15] w) (fun ch w => C (.panic ch) [] w) | _ => False
theorem T_q8k_hl : allP (hokL Tryz.prog (hookAt []) (at_ (turnB 0 900001 900002 (bodyOf Tryz.f60)) [1, 1, 0, 0, 0, 0, 0, 1, 0, 0, 1, 1, 0, 0, 1, 0, 0]) 229988) = (True) := by kernel_rfl
theorem T_q8k_hok : HOk Tryz.prog (hookAt []) (at_ (turnB 0 900001 900002 (bodyOf Tryz.f60)) [1, 1, 0, 0, 0, 0, 0, 1, 0, 0, 1, 1, 0, 0, 1, 0, 0]) 229988 := HOk_of _ _ (by rw [T_q8k_hl]; exact trivial)
theorem T_q8k_eq (C : Conts) (s13 : ByteArray) (w : World) : vcCode Tryz.prog (hookAt []) (at_ (turnB 0 900001 900002 (bodyOf Tryz.f60)) [1, 1, 0, 0, 0, 0, 0, 1, 0, 0, 1, 1, 0, 0, 1, 0, 0]) 229988 ⟨[(5, .string s13)], 72, []⟩ w (unitQ T_q4r C) = T_q8k s13 w (fun b16 w => C .normal [.bool b16] w) (fun ch w => C (.panic ch) [] w) := by kernel_rfl
theorem T_q9q_3_ok : UnitOk Tryz.prog H_q8k (at_ (turnB 0 900001 900002 (bodyOf Tryz.f60)) [1, 1, 0, 0, 0, 0, 0, 1, 0, 0, 1, 1, 0, 0, 1, 0, 0]) 229988 := unit_ok (H := (hookAt [])) (by kernel_rfl) T_q8k_hok fun l w C hk => by
  obtain ⟨v0, _, rfl, k_v0, hk_v0⟩ := kC hk
  obtain ⟨s13, rfl⟩ := kind_string k_v0
  obtain rfl := kN hk_v0
  exact T_q8k_eq C s13 w
def T_q8m (c28 : Int) (w : World) (Kn : Bool → World → Prop) (Kp : XT) : Prop :=
 if (decide (c28 < 48)) = true then (Kn true w) else (Kn (decide (c28 > 57)) w)
def T_q4t : Exit → Option (List (Nat × Value)) := fun x => match x with | .normal => some [(43, .bool false)] | .panic _ => some [] | _ => none
def T_q6r : Nat → Bool := ksOf [38, 39, 40, 41, 42, 43]
def H_q8m : Env → World → QT → Prop := unitHook 72 T_q6r [(8, .int .u8 0)] T_q4t fun l w C => match l with | [v0] => T_q8m (pInt v0) w (fun b30 w => C .normal [.bool b30] w) (fun ch w => C (.panic ch) [] w) | _ => False
theorem T_q8m_hl : allP (hokL Tryz.prog (hookAt []) (at_ (turnB 0 900001 900002 (bodyOf Tryz.f60)) [1, 1, 0, 0, 0, 0, 0, 1, 0, 0, 1, 1, 0, 0, 1, 1, 1, 0, 1, 0, 0, 1, 1, 0, 0, 1, 0, 0]) 471022180) = (True) := by kernel_rfl
theorem T_q8m_hok : HOk Tryz.prog (hookAt []) (at_ (turnB 0 900001 900002 (bodyOf Tryz.f60)) [1, 1, 0, 0, 0, 0, 0, 1, 0, 0, 1, 1, 0, 0, 1, 1, 1, 0, 1, 0, 0, 1, 1, 0, 0, 1, 0, 0]) 471022180 := HOk_of _ _ (by rw [T_q8m_hl]; exact trivial)
theorem T_q8m_eq (C : Conts) (c28 : Int) (w : World) : vcCode Tryz.prog (hookAt []) (at_ (turnB 0 900001 900002 (bodyOf Tryz.f60)) [1, 1, 0, 0, 0, 0, 0, 1, 0, 0, 1, 1, 0, 0, 1, 1, 1, 0, 1, 0, 0, 1, 1, 0, 0, 1, 0, 0]) 471022180 ⟨[(8, .int .u8 c28)], 72, []⟩ w (unitQ T_q4t C) = T_q8m c28 w (fun b31 w => C .normal [.bool b31] w) (fun ch w => C (.panic ch) [] w) := by kernel_rfl
theorem T_q9q_5_ok : UnitOk Tryz.prog H_q8m (at_ (turnB 0 900001 900002 (bodyOf Tryz.f60)) [1, 1, 0, 0, 0, 0, 0, 1, 0, 0, 1, 1, 0, 0, 1, 1, 1, 0, 1, 0, 0, 1, 1, 0, 0, 1, 0, 0]) 471022180 := unit_ok (H := (hookAt [])) (by kernel_rfl) T_q8m_hok fun l w C hk => by
  obtain ⟨v0, _, rfl, k_v0, hk_v0⟩ := kC hk
  obtain ⟨c28, rfl⟩ := kind_int k_v0
  obtain rfl := kN hk_v0
  exact T_q8m_eq C c28 w
def T_q9q_4_body (X : Int → Int → World → Prop) (n22 x23 : Int) (s24a : Option Addr) (s24l s24c : Nat) (x25 : Int) (w : World) (Ke1 : World → Prop) (Kn : Int → World → Prop) (Kp : XT)  : Prop :=
 if (decide (x23 < x25)) = true then (0 ≤ x23 ∧ x23 < ((s24l : Nat) : Int) ∧ ∃ b26, s24a = some b26 ∧ ∃ x27 : Int, rd w (b26.add (x23.toNat * 1)) (.int .u8 x27) ∧ T_q8m x27 w (fun b32 w33 => if b32 = true then (Ke1  w33) else (X (IntKind.wrap .i64 ((IntKind.wrap .i64 ((10 : Int) * n22) : Int) + (IntKind.wrap .i64 (IntKind.wrap .u8 (x27 - 48))))) (IntKind.wrap .i64 (x23 + 1)) w33)) Kp) else (Kn n22 w)
def T_q8l (n22 x23 : Int) (s24a : Option Addr) (s24l s24c : Nat) (x25 : Int) (w : World) (Ke1 : World → Prop) (Kn : Int → World → Prop) (Kp : XT) : Prop :=
 ∀ X : Int → Int → World → Prop, (∀ (n22 x23 : Int) (w : World), T_q9q_4_body X n22 x23 s24a s24l s24c x25 w Ke1 Kn Kp → X n22 x23 w) → X n22 x23 w
def T_q4s : Exit → Option (List (Nat × Value)) := fun x => match x with | .normal => some [(6, .int .i64 0)] | .panic _ => some [] | .exit i => cond (Nat.beq i 1) (some []) (none) | _ => none
def T_q6q : Nat → Bool := ksOf [6, 8, 34, 35, 36, 37, 38, 39, 40, 41, 42, 43, 44, 45, 46, 47, 48, 49, 50]
def H_q8l : Env → World → QT → Prop := unitHook 72 T_q6q [(6, .int .i64 0), (34, .int .i64 0), (32, .slice none 0 0), (33, .int .i64 0)] T_q4s fun l w C => match l with | [v0, v1, v2, v3] => T_q8l (pInt v0) (pInt v1) (pA v2) (pL v2) (pC v2) (pInt v3) w (fun w => C (.exit 1) [] w) (fun n35 w => C .normal [.int .i64 n35] w) (fun ch w => C (.panic ch) [] w) | _ => False
theorem T_q8l_hl : allP (hokL Tryz.prog (hookAt [(471022180, H_q8m)]) (at_ (turnB 0 900001 900002 (bodyOf Tryz.f60)) [1, 1, 0, 0, 0, 0, 0, 1, 0, 0, 1, 1, 0, 0, 1, 1, 1, 0, 1, 0, 0]) 3679860) = (UnitOk Tryz.prog H_q8m (at_ (turnB 0 900001 900002 (bodyOf Tryz.f60)) [1, 1, 0, 0, 0, 0, 0, 1, 0, 0, 1, 1, 0, 0, 1, 1, 1, 0, 1, 0, 0, 1, 1, 0, 0, 1, 0, 0]) 471022180 ∧ True) := by kernel_rfl
theorem T_q8l_hok : HOk Tryz.prog (hookAt [(471022180, H_q8m)]) (at_ (turnB 0 900001 900002 (bodyOf Tryz.f60)) [1, 1, 0, 0, 0, 0, 0, 1, 0, 0, 1, 1, 0, 0, 1, 1, 1, 0, 1, 0, 0]) 3679860 := HOk_of _ _ (by rw [T_q8l_hl]; exact ⟨T_q9q_5_ok, trivial⟩)
theorem T_q8l_eq (C : Conts) (X : List Value → World → Prop) (n22 x23 : Int) (s24a : Option Addr) (s24l s24c : Nat) (x25 : Int) (w : World) : vcCode Tryz.prog (hookAt [(471022180, H_q8m)]) (at_ (turnB 0 900001 900002 (bodyOf Tryz.f60)) [1, 1, 0, 0, 0, 0, 0, 1, 0, 0, 1, 1, 0, 0, 1, 1, 1, 0, 1, 0, 0]) 3679860 ⟨[(6, .int .i64 n22), (34, .int .i64 x23)] ++ [(32, .slice s24a s24l s24c), (33, .int .i64 x25)], 72, []⟩ w (seqQ (fun e w => takeAll e [(6, .int .i64 0), (34, .int .i64 0)] fun l => X l w) (blockQ 2 (unitQ T_q4s C))) = T_q9q_4_body (fun n22 x23 w => X [.int .i64 n22, .int .i64 x23] w) n22 x23 s24a s24l s24c x25 w (fun w => C (.exit 1) [] w) (fun n36 w => C .normal [.int .i64 n36] w) (fun ch w => C (.panic ch) [] w) := by kernel_rfl
theorem T_q9q_4_ok : UnitOk Tryz.prog H_q8l (at_ (turnB 0 900001 900002 (bodyOf Tryz.f60)) [1, 1, 0, 0, 0, 0, 0, 1, 0, 0, 1, 1, 0, 0, 1, 1, 1, 0, 1]) 919965 := by
 have hc : at_ (turnB 0 900001 900002 (bodyOf Tryz.f60)) [1, 1, 0, 0, 0, 0, 0, 1, 0, 0, 1, 1, 0, 0, 1, 1, 1, 0, 1] = .block 2 (.loop (at_ (turnB 0 900001 900002 (bodyOf Tryz.f60)) [1, 1, 0, 0, 0, 0, 0, 1, 0, 0, 1, 1, 0, 0, 1, 1, 1, 0, 1, 0, 0])) := by kernel_rfl
 rw [hc]
 refine loop_unit_ok (carr := [(6, .int .i64 0), (34, .int .i64 0)]) (fix := [(32, .slice none 0 0), (33, .int .i64 0)]) (ks := T_q6q) (H := (hookAt [(471022180, H_q8m)])) (B := fun C X l u w => match l, u with | [v0, v1], [v2, v3] => T_q9q_4_body (fun n22 x23 w => X [.int .i64 n22, .int .i64 x23] w) (pInt v0) (pInt v1) (pA v2) (pL v2) (pC v2) (pInt v3) w (fun w => C (.exit 1) [] w) (fun n37 w => C .normal [.int .i64 n37] w) (fun ch w => C (.panic ch) [] w) | _, _ => False) (by kernel_rfl) (by kernel_rfl) T_q8l_hok ?_ ?_
 ·intro C X l u w hl hu
  obtain ⟨v0, _, rfl, k_v0, hl_v0⟩ := kC hl
  obtain ⟨n22, rfl⟩ := kind_int k_v0
  obtain ⟨v1, _, rfl, k_v1, hl_v1⟩ := kC hl_v0
  obtain ⟨x23, rfl⟩ := kind_int k_v1
  obtain rfl := kN hl_v1
  obtain ⟨v2, _, rfl, k_v2, hu_v2⟩ := kC hu
  obtain ⟨s24a, s24l, s24c, rfl⟩ := kind_slice k_v2
  obtain ⟨v3, _, rfl, k_v3, hu_v3⟩ := kC hu_v2
  obtain ⟨x25, rfl⟩ := kind_int k_v3
  obtain rfl := kN hu_v3
  exact T_q8l_eq C X n22 x23 s24a s24l s24c x25 w
 ·intro l u w C hl hu
  obtain ⟨v0, _, rfl, k_v0, hl_v0⟩ := kC hl
  obtain ⟨n22, rfl⟩ := kind_int k_v0
  obtain ⟨v1, _, rfl, k_v1, hl_v1⟩ := kC hl_v0
  obtain ⟨x23, rfl⟩ := kind_int k_v1
  obtain rfl := kN hl_v1
  obtain ⟨v2, _, rfl, k_v2, hu_v2⟩ := kC hu
  obtain ⟨s24a, s24l, s24c, rfl⟩ := kind_slice k_v2
  obtain ⟨v3, _, rfl, k_v3, hu_v3⟩ := kC hu_v2
  obtain ⟨x25, rfl⟩ := kind_int k_v3
  obtain rfl := kN hu_v3
  constructor
  ·intro h X hX
   exact h (fun n22 x23 w => X [.int .i64 n22, .int .i64 x23] w) (fun n22 x23 w hb => hX [.int .i64 n22, .int .i64 x23] w ⟨rfl, rfl, trivial⟩ hb)
  ·intro h X hX
   exact h (fun l w => match l with | [v0, v1] => X (pInt v0) (pInt v1) w | _ => True) (fun l w hl hb => by
    obtain ⟨v0, _, rfl, k_v0, hl_v0⟩ := kC hl
    obtain ⟨n22, rfl⟩ := kind_int k_v0
    obtain ⟨v1, _, rfl, k_v1, hl_v1⟩ := kC hl_v0
    obtain ⟨x23, rfl⟩ := kind_int k_v1
    obtain rfl := kN hl_v1
    exact hX n22 x23 w hb)
def T_q9q_2_body (X : Option Addr → Nat → Nat → Int → World → Prop) (out7a : Option Addr) (out7l out7c : Nat) (x8 : Int) (s9a : Option Addr) (s9l s9c : Nat) (x10 : Int) (w : World) (Kn : Option Addr → Nat → Nat → World → Prop) (Kp : XT)  : Prop :=
 if (decide (x8 < x10)) = true then (0 ≤ x8 ∧ x8 < ((s9l : Nat) : Int) ∧ ∃ b11, s9a = some b11 ∧ ∃ s12 : ByteArray, rd w (b11.add (x8.toNat * 1)) (.string s12) ∧ T_q8k s12 w (fun b17 w18 => if b17 = true then (X out7a out7l out7c (IntKind.wrap .i64 (x8 + 1)) w18) else (0 ≤ (5 : Int) ∧ (5 : Int) ≤ ((s12.size : Nat) : Int) ∧ runV Tryz.prog (convert 9 27 (.string (s12.extract ((5 : Int).toNat) s12.size))) w18 (fun r19 w20 => ∃ (s21a : Option Addr) (s21l s21c : Nat), r19 = .slice s21a s21l s21c ∧ T_q8l 0 0 s21a s21l s21c ((s21l : Nat) : Int) w20 (fun w38 => X out7a out7l out7c (IntKind.wrap .i64 (x8 + 1)) w38) (fun n39 w40 => let w41 : World := w40.alloc (.cells #[.string (ByteArray.mk #[]), .int .i64 0] 97)
 (.agg #[.string s12, .int .i64 n39] : Value).cells.size = 2 ∧ wrOk w41 (⟨w40.heap.size, 0, none⟩ : Addr) (.agg #[.string s12, .int .i64 n39]) ∧ let w42 : World := wr w41 (⟨w40.heap.size, 0, none⟩ : Addr) (.agg #[.string s12, .int .i64 n39])
 let w43 : World := w42.drew
 if (decide (n39 ≤ 1099511627776)) = true then (∃ (s44 : ByteArray) (x45 : Int), rd w43 (⟨w40.heap.size, 0, none⟩ : Addr) (.agg #[.string s44, .int .i64 x45]) ∧ Calls Tryz.prog 59 #[.int .i64 n39] w43 (ret (fun r46 w47 => ∃ s48 : ByteArray, r46 = .string s48 ∧ (rd w47 (⟨w40.heap.size, 0, none⟩ : Addr) (.agg #[.string s44, .int .i64 x45]) ∧ True) ∧ runV Tryz.prog (do eqGuard .eql 97 (.tmp 57) (.tmp 61) (.agg #[.string s44, .int .i64 x45]) (.agg #[.string s48, .int .i64 n39]); binOp .eql 97 (.agg #[.string s44, .int .i64 x45]) (.agg #[.string s48, .int .i64 n39])) w47 (fun r49 w50 => ∃ b51 : Bool, r49 = .bool b51 ∧ (True) ∧ if b51 = true then (∃ (s52 : ByteArray) (x53 : Int), rd w50 (⟨w40.heap.size, 0, none⟩ : Addr) (.agg #[.string s52, .int .i64 x53]) ∧ let w54 : World := w50.alloc (.cells #[.string s52, .int .i64 x53] 97)
 runV Tryz.prog (Builtin.append_ #[94, 94] 94 #[.slice out7a out7l out7c, .slice (some (⟨w50.heap.size, 0, none⟩ : Addr)) 1 1]) w54 (fun r55 w56 => ∃ (s57a : Option Addr) (s57l s57c : Nat), r55 = .slice s57a s57l s57c ∧ X s57a s57l s57c (IntKind.wrap .i64 (x8 + 1)) w56) Kp) else (X out7a out7l out7c (IntKind.wrap .i64 (x8 + 1)) w50)) Kp) Kp)) else ((True) ∧ (True) ∧ X out7a out7l out7c (IntKind.wrap .i64 (x8 + 1)) w43)) Kp) Kp)) Kp) else (Kn out7a out7l out7c w)
def T_q8j (out7a : Option Addr) (out7l out7c : Nat) (x8 : Int) (s9a : Option Addr) (s9l s9c : Nat) (x10 : Int) (w : World) (Kn : Option Addr → Nat → Nat → World → Prop) (Kp : XT) : Prop :=
 ∀ X : Option Addr → Nat → Nat → Int → World → Prop, (∀ (out7a : Option Addr) (out7l out7c : Nat) (x8 : Int) (w : World), T_q9q_2_body X out7a out7l out7c x8 s9a s9l s9c x10 w Kn Kp → X out7a out7l out7c x8 w) → X out7a out7l out7c x8 w
def T_q4q : Exit → Option (List (Nat × Value)) := fun x => match x with | .normal => some [(3, .slice none 0 0)] | .panic _ => some [] | _ => none
def T_q6o : Nat → Bool := ksOf [3, 5, 6, 8, 9, 13, 14, 15, 16, 17, 18, 19, 20, 21, 22, 23, 24, 25, 26, 27, 28, 29, 30, 31, 32, 33, 34, 35, 36, 37, 38, 39, 40, 41, 42, 43, 44, 45, 46, 47, 48, 49, 50, 51, 52, 53, 54, 55, 56, 57, 58, 59, 60, 61, 62, 63, 64, 65, 66, 67, 68]
def H_q8j : Env → World → QT → Prop := unitHook 72 T_q6o [(3, .slice none 0 0), (13, .int .i64 0), (11, .slice none 0 0), (12, .int .i64 0)] T_q4q fun l w C => match l with | [v0, v1, v2, v3] => T_q8j (pA v0) (pL v0) (pC v0) (pInt v1) (pA v2) (pL v2) (pC v2) (pInt v3) w (fun out59a out59l out59c w => C .normal [.slice out59a out59l out59c] w) (fun ch w => C (.panic ch) [] w) | _ => False
theorem T_q8j_hl : allP (hokL Tryz.prog (hookAt [(229988, H_q8k), (919965, H_q8l)]) (at_ (turnB 0 900001 900002 (bodyOf Tryz.f60)) [1, 1, 0, 0, 0, 0, 0, 1, 0, 0]) 1796) = (UnitOk Tryz.prog H_q8k (at_ (turnB 0 900001 900002 (bodyOf Tryz.f60)) [1, 1, 0, 0, 0, 0, 0, 1, 0, 0, 1, 1, 0, 0, 1, 0, 0]) 229988 ∧ UnitOk Tryz.prog H_q8l (at_ (turnB 0 900001 900002 (bodyOf Tryz.f60)) [1, 1, 0, 0, 0, 0, 0, 1, 0, 0, 1, 1, 0, 0, 1, 1, 1, 0, 1]) 919965 ∧ True) := by kernel_rfl
theorem T_q8j_hok : HOk Tryz.prog (hookAt [(229988, H_q8k), (919965, H_q8l)]) (at_ (turnB 0 900001 900002 (bodyOf Tryz.f60)) [1, 1, 0, 0, 0, 0, 0, 1, 0, 0]) 1796 := HOk_of _ _ (by rw [T_q8j_hl]; exact ⟨T_q9q_3_ok, T_q9q_4_ok, trivial⟩)
theorem T_q8j_eq (C : Conts) (X : List Value → World → Prop) (out7a : Option Addr) (out7l out7c : Nat) (x8 : Int) (s9a : Option Addr) (s9l s9c : Nat) (x10 : Int) (w : World) : vcCode Tryz.prog (hookAt [(229988, H_q8k), (919965, H_q8l)]) (at_ (turnB 0 900001 900002 (bodyOf Tryz.f60)) [1, 1, 0, 0, 0, 0, 0, 1, 0, 0]) 1796 ⟨[(3, .slice out7a out7l out7c), (13, .int .i64 x8)] ++ [(11, .slice s9a s9l s9c), (12, .int .i64 x10)], 72, []⟩ w (seqQ (fun e w => takeAll e [(3, .slice none 0 0), (13, .int .i64 0)] fun l => X l w) (blockQ 0 (unitQ T_q4q C))) = T_q9q_2_body (fun out7a out7l out7c x8 w => X [.slice out7a out7l out7c, .int .i64 x8] w) out7a out7l out7c x8 s9a s9l s9c x10 w (fun out60a out60l out60c w => C .normal [.slice out60a out60l out60c] w) (fun ch w => C (.panic ch) [] w) := by kernel_rfl
theorem T_q9q_2_ok : UnitOk Tryz.prog H_q8j (at_ (turnB 0 900001 900002 (bodyOf Tryz.f60)) [1, 1, 0, 0, 0, 0, 0, 1]) 449 := by
 have hc : at_ (turnB 0 900001 900002 (bodyOf Tryz.f60)) [1, 1, 0, 0, 0, 0, 0, 1] = .block 0 (.loop (at_ (turnB 0 900001 900002 (bodyOf Tryz.f60)) [1, 1, 0, 0, 0, 0, 0, 1, 0, 0])) := by kernel_rfl
 rw [hc]
 refine loop_unit_ok (carr := [(3, .slice none 0 0), (13, .int .i64 0)]) (fix := [(11, .slice none 0 0), (12, .int .i64 0)]) (ks := T_q6o) (H := (hookAt [(229988, H_q8k), (919965, H_q8l)])) (B := fun C X l u w => match l, u with | [v0, v1], [v2, v3] => T_q9q_2_body (fun out7a out7l out7c x8 w => X [.slice out7a out7l out7c, .int .i64 x8] w) (pA v0) (pL v0) (pC v0) (pInt v1) (pA v2) (pL v2) (pC v2) (pInt v3) w (fun out61a out61l out61c w => C .normal [.slice out61a out61l out61c] w) (fun ch w => C (.panic ch) [] w) | _, _ => False) (by kernel_rfl) (by kernel_rfl) T_q8j_hok ?_ ?_
 ·intro C X l u w hl hu
  obtain ⟨v0, _, rfl, k_v0, hl_v0⟩ := kC hl
  obtain ⟨out7a, out7l, out7c, rfl⟩ := kind_slice k_v0
  obtain ⟨v1, _, rfl, k_v1, hl_v1⟩ := kC hl_v0
  obtain ⟨x8, rfl⟩ := kind_int k_v1
  obtain rfl := kN hl_v1
  obtain ⟨v2, _, rfl, k_v2, hu_v2⟩ := kC hu
  obtain ⟨s9a, s9l, s9c, rfl⟩ := kind_slice k_v2
  obtain ⟨v3, _, rfl, k_v3, hu_v3⟩ := kC hu_v2
  obtain ⟨x10, rfl⟩ := kind_int k_v3
  obtain rfl := kN hu_v3
  exact T_q8j_eq C X out7a out7l out7c x8 s9a s9l s9c x10 w
 ·intro l u w C hl hu
  obtain ⟨v0, _, rfl, k_v0, hl_v0⟩ := kC hl
  obtain ⟨out7a, out7l, out7c, rfl⟩ := kind_slice k_v0
  obtain ⟨v1, _, rfl, k_v1, hl_v1⟩ := kC hl_v0
  obtain ⟨x8, rfl⟩ := kind_int k_v1
  obtain rfl := kN hl_v1
  obtain ⟨v2, _, rfl, k_v2, hu_v2⟩ := kC hu
  obtain ⟨s9a, s9l, s9c, rfl⟩ := kind_slice k_v2
  obtain ⟨v3, _, rfl, k_v3, hu_v3⟩ := kC hu_v2
  obtain ⟨x10, rfl⟩ := kind_int k_v3
  obtain rfl := kN hu_v3
  constructor
  ·intro h X hX
   exact h (fun out7a out7l out7c x8 w => X [.slice out7a out7l out7c, .int .i64 x8] w) (fun out7a out7l out7c x8 w hb => hX [.slice out7a out7l out7c, .int .i64 x8] w ⟨rfl, rfl, trivial⟩ hb)
  ·intro h X hX
   exact h (fun l w => match l with | [v0, v1] => X (pA v0) (pL v0) (pC v0) (pInt v1) w | _ => True) (fun l w hl hb => by
    obtain ⟨v0, _, rfl, k_v0, hl_v0⟩ := kC hl
    obtain ⟨out7a, out7l, out7c, rfl⟩ := kind_slice k_v0
    obtain ⟨v1, _, rfl, k_v1, hl_v1⟩ := kC hl_v0
    obtain ⟨x8, rfl⟩ := kind_int k_v1
    obtain rfl := kN hl_v1
    exact hX out7a out7l out7c x8 w hb)
def T_q9q_1_body (X : Option Addr → Nat → Nat → World → Prop) (out2a : Option Addr) (out2l out2c : Nat) (d3 : Option Addr) (w : World) (Kr : Option Addr → Nat → Nat → World → Prop) (Kp : XT)  : Prop :=
 Calls Tryz.prog 27 #[.pointer d3] w (ret (fun r4 w5 => ∃ (s6a : Option Addr) (s6l s6c : Nat), r4 = .slice s6a s6l s6c ∧ T_q8j out2a out2l out2c 0 s6a s6l s6c ((s6l : Nat) : Int) w5 (fun out62a out62l out62c w63 => Calls Tryz.prog 97 #[.slice out62a out62l out62c, .func (.func 98) #[] #[]] w63 (ret (fun r64 w65 => r64 = .tuple #[] ∧ Kr out62a out62l out62c w65) Kp)) Kp) Kp)
def T_q8i (out2a : Option Addr) (out2l out2c : Nat) (d3 : Option Addr) (w : World) (Kr : Option Addr → Nat → Nat → World → Prop) (Kp : XT) : Prop :=
 ∀ X : Option Addr → Nat → Nat → World → Prop, (∀ (out2a : Option Addr) (out2l out2c : Nat) (w : World), T_q9q_1_body X out2a out2l out2c d3 w Kr Kp → X out2a out2l out2c w) → X out2a out2l out2c w
def T_q4p : Exit → Option (List (Nat × Value)) := fun x => match x with | .ret => some [(2, .slice none 0 0)] | .panic _ => some [] | _ => none
def T_q6n : Nat → Bool := ksOf [2, 3, 5, 6, 8, 9, 10, 11, 12, 13, 14, 15, 16, 17, 18, 19, 20, 21, 22, 23, 24, 25, 26, 27, 28, 29, 30, 31, 32, 33, 34, 35, 36, 37, 38, 39, 40, 41, 42, 43, 44, 45, 46, 47, 48, 49, 50, 51, 52, 53, 54, 55, 56, 57, 58, 59, 60, 61, 62, 63, 64, 65, 66, 67, 68, 69, 70, 71]
def H_q8i : Env → World → QT → Prop := unitHook 72 T_q6n [(3, .slice none 0 0), (0, .pointer none)] T_q4p fun l w C => match l with | [v0, v1] => T_q8i (pA v0) (pL v0) (pC v0) (pPtr v1) w (fun s67a s67l s67c w => C .ret [.slice s67a s67l s67c] w) (fun ch w => C (.panic ch) [] w) | _ => False
theorem T_q8i_hl : allP (hokL Tryz.prog (hookAt [(449, H_q8j)]) (at_ (turnB 0 900001 900002 (bodyOf Tryz.f60)) [1, 1, 0, 0]) 28) = (UnitOk Tryz.prog H_q8j (at_ (turnB 0 900001 900002 (bodyOf Tryz.f60)) [1, 1, 0, 0, 0, 0, 0, 1]) 449 ∧ True) := by kernel_rfl
theorem T_q8i_hok : HOk Tryz.prog (hookAt [(449, H_q8j)]) (at_ (turnB 0 900001 900002 (bodyOf Tryz.f60)) [1, 1, 0, 0]) 28 := HOk_of _ _ (by rw [T_q8i_hl]; exact ⟨T_q9q_2_ok, trivial⟩)
theorem T_q8i_eq (C : Conts) (X : List Value → World → Prop) (out2a : Option Addr) (out2l out2c : Nat) (d3 : Option Addr) (w : World) : vcCode Tryz.prog (hookAt [(449, H_q8j)]) (at_ (turnB 0 900001 900002 (bodyOf Tryz.f60)) [1, 1, 0, 0]) 28 ⟨[(3, .slice out2a out2l out2c)] ++ [(0, .pointer d3)], 72, []⟩ w (seqQ (fun e w => takeAll e [(3, .slice none 0 0)] fun l => X l w) (blockQ 900002 (unitQ T_q4p C))) = T_q9q_1_body (fun out2a out2l out2c w => X [.slice out2a out2l out2c] w) out2a out2l out2c d3 w (fun s68a s68l s68c w => C .ret [.slice s68a s68l s68c] w) (fun ch w => C (.panic ch) [] w) := by kernel_rfl
theorem T_q9q_1_ok : UnitOk Tryz.prog H_q8i (at_ (turnB 0 900001 900002 (bodyOf Tryz.f60)) [1, 1]) 7 := by
 have hc : at_ (turnB 0 900001 900002 (bodyOf Tryz.f60)) [1, 1] = .block 900002 (.loop (at_ (turnB 0 900001 900002 (bodyOf Tryz.f60)) [1, 1, 0, 0])) := by kernel_rfl
 rw [hc]
 refine loop_unit_ok (carr := [(3, .slice none 0 0)]) (fix := [(0, .pointer none)]) (ks := T_q6n) (H := (hookAt [(449, H_q8j)])) (B := fun C X l u w => match l, u with | [v0], [v1] => T_q9q_1_body (fun out2a out2l out2c w => X [.slice out2a out2l out2c] w) (pA v0) (pL v0) (pC v0) (pPtr v1) w (fun s69a s69l s69c w => C .ret [.slice s69a s69l s69c] w) (fun ch w => C (.panic ch) [] w) | _, _ => False) (by kernel_rfl) (by kernel_rfl) T_q8i_hok ?_ ?_
 ·intro C X l u w hl hu
  obtain ⟨v0, _, rfl, k_v0, hl_v0⟩ := kC hl
  obtain ⟨out2a, out2l, out2c, rfl⟩ := kind_slice k_v0
  obtain rfl := kN hl_v0
  obtain ⟨v1, _, rfl, k_v1, hu_v1⟩ := kC hu
  obtain ⟨d3, rfl⟩ := kind_pointer k_v1
  obtain rfl := kN hu_v1
  exact T_q8i_eq C X out2a out2l out2c d3 w
 ·intro l u w C hl hu
  obtain ⟨v0, _, rfl, k_v0, hl_v0⟩ := kC hl
  obtain ⟨out2a, out2l, out2c, rfl⟩ := kind_slice k_v0
  obtain rfl := kN hl_v0
  obtain ⟨v1, _, rfl, k_v1, hu_v1⟩ := kC hu
  obtain ⟨d3, rfl⟩ := kind_pointer k_v1
  obtain rfl := kN hu_v1
  constructor
  ·intro h X hX
   exact h (fun out2a out2l out2c w => X [.slice out2a out2l out2c] w) (fun out2a out2l out2c w hb => hX [.slice out2a out2l out2c] w ⟨rfl, trivial⟩ hb)
  ·intro h X hX
   exact h (fun l w => match l with | [v0] => X (pA v0) (pL v0) (pC v0) w | _ => True) (fun l w hl hb => by
    obtain ⟨v0, _, rfl, k_v0, hl_v0⟩ := kC hl
    obtain ⟨out2a, out2l, out2c, rfl⟩ := kind_slice k_v0
    obtain rfl := kN hl_v0
    exact hX out2a out2l out2c w hb)
def T_q9q (d1 : Option Addr) (w : World) (R : RT) : Prop :=
 T_q8i none 0 0 d1 w (fun s70a s70l s70c w71 => R (.returned (.slice s70a s70l s70c)) w71) (pan R)
theorem T_q9q_hl : allP (hokL Tryz.prog (hookAt [(7, H_q8i)]) (turnB 0 900001 900002 (bodyOf Tryz.f60)) 1) = (UnitOk Tryz.prog H_q8i (at_ (turnB 0 900001 900002 (bodyOf Tryz.f60)) [1, 1]) 7 ∧ True) := by kernel_rfl
theorem T_q9q_eq (d1 : Option Addr) (w : World) (R : RT) : vcCode Tryz.prog (hookAt [(7, H_q8i)]) (turnB 0 900001 900002 (bodyOf Tryz.f60)) 1 ⟨argEnv [.pointer d1] 0, Tryz.f60.ntmps, []⟩ w (finQ Tryz.prog Tryz.f60.results.toList R) = T_q9q d1 w R := by kernel_rfl
theorem T_q9q_b : Tryz.f60.body = some (.seq (rOf (bodyOf Tryz.f60)) (.scope (cOf (bodyOf Tryz.f60)))) := by kernel_rfl
theorem T_snap_files_f : findLabel (cOf (bodyOf Tryz.f60)) 0 = some (.seq .skip ((lapOf 0 (cOf (bodyOf Tryz.f60))).getD .skip)) := by kernel_rfl
theorem T_snap_files_l : lapOf 0 (cOf (bodyOf Tryz.f60)) = some ((lapOf 0 (cOf (bodyOf Tryz.f60))).getD .skip) := by kernel_rfl
theorem T_q9q_s : ((quietSel (rOf (bodyOf Tryz.f60)) && quietSel (cOf (bodyOf Tryz.f60)) && quietSel ((lapOf 0 (cOf (bodyOf Tryz.f60))).getD .skip)) && (freshC 900001 ((lapOf 0 (cOf (bodyOf Tryz.f60))).getD .skip) && noExit 900001 ((lapOf 0 (cOf (bodyOf Tryz.f60))).getD .skip) && noExit 900002 ((lapOf 0 (cOf (bodyOf Tryz.f60))).getD .skip)) && Nat.ble 1 Tryz.f60.ntmps) = true := by kernel_rfl
theorem C_q9q {d1 : Option Addr} {w : World} {R : RT} (h : T_q9q d1 w R) : Calls Tryz.prog 60 #[.pointer d1] w R :=
 calls_of_scope (args := [.pointer d1]) mixed Tryz.func60 T_q9q_b T_snap_files_f T_snap_files_l T_q9q_s (HOk_of _ _ (show allP (hokL Tryz.prog (hookAt [(7, H_q8i)]) (turnB 0 900001 900002 (bodyOf Tryz.f60)) 1) from by rw [T_q9q_hl]; exact ⟨T_q9q_1_ok, trivial⟩)) (show vcCode Tryz.prog (hookAt [(7, H_q8i)]) (turnB 0 900001 900002 (bodyOf Tryz.f60)) 1 ⟨argEnv [.pointer d1] 0, Tryz.f60.ntmps, []⟩ w (finQ Tryz.prog Tryz.f60.results.toList R) from by rw [T_q9q_eq]; exact h)
def T_q95 (d23 : Option Addr) (s24 : Addr) (e25 : Int) (b26 : Bool) (w : World) (Kn : Int → World → Prop) (Kp : XT) : Prop :=
 if b26 = true then (Calls Tryz.prog 57 #[.pointer d23, .string (ByteArray.mk #[115, 110, 97, 112, 46, 116, 109, 112])] w (ret (fun r27 w28 => ∃ x29 : Int, r27 = .int .i64 x29 ∧ ∃ x30 : Int, rd w28 s24 (.int .i64 x30) ∧ Calls Tryz.prog 59 #[.int .i64 x30] w28 (ret (fun r31 w32 => ∃ s33 : ByteArray, r31 = .string s33 ∧ Calls Tryz.prog 58 #[.pointer d23, .string (ByteArray.mk #[115, 110, 97, 112, 46, 116, 109, 112]), .string s33] w32 (ret (fun r34 w35 => ∃ x36 : Int, r34 = .int .i64 x36 ∧ Kn x36 w35) Kp)) Kp)) Kp)) else (Kn e25 w)
def T_q5u : Exit → Option (List (Nat × Value)) := fun x => match x with | .normal => some [(6, .int .i64 0)] | .panic _ => some [] | _ => none
def T_q7j : Nat → Bool := ksOf [6, 26, 27, 28, 29, 30, 31, 32, 33]
def H_q95 : Env → World → QT → Prop := unitHook 57 T_q7j [(0, .pointer none), (3, .pointer (some ⟨0, 0, none⟩)), (6, .int .i64 0), (25, .bool false)] T_q5u fun l w C => match l with | [v0, v1, v2, v3] => T_q95 (pPtr v0) (pAddr v1) (pInt v2) (pBool v3) w (fun e38 w => C .normal [.int .i64 e38] w) (fun ch w => C (.panic ch) [] w) | _ => False
theorem T_q95_hl : allP (hokL Tryz.prog (hookAt []) (at_ (bodyOf Tryz.f18) [1, 1, 1, 1, 1, 0, 1, 1]) 507) = (True) := by kernel_rfl
theorem T_q95_hok : HOk Tryz.prog (hookAt []) (at_ (bodyOf Tryz.f18) [1, 1, 1, 1, 1, 0, 1, 1]) 507 := HOk_of _ _ (by rw [T_q95_hl]; exact trivial)
theorem T_q95_eq (C : Conts) (d23 : Option Addr) (s24 : Addr) (e25 : Int) (b26 : Bool) (w : World) : vcCode Tryz.prog (hookAt []) (at_ (bodyOf Tryz.f18) [1, 1, 1, 1, 1, 0, 1, 1]) 507 ⟨[(0, .pointer d23), (3, .pointer (some s24)), (6, .int .i64 e25), (25, .bool b26)], 57, []⟩ w (unitQ T_q5u C) = T_q95 d23 s24 e25 b26 w (fun e39 w => C .normal [.int .i64 e39] w) (fun ch w => C (.panic ch) [] w) := by kernel_rfl
theorem T_qa5_1_ok : UnitOk Tryz.prog H_q95 (at_ (bodyOf Tryz.f18) [1, 1, 1, 1, 1, 0, 1, 1]) 507 := unit_ok (H := (hookAt [])) (by kernel_rfl) T_q95_hok fun l w C hk => by
  obtain ⟨v0, _, rfl, k_v0, hk_v0⟩ := kC hk
  obtain ⟨d23, rfl⟩ := kind_pointer k_v0
  obtain ⟨v1, _, rfl, k_v1, hk_v1⟩ := kC hk_v0
  obtain ⟨s24, rfl⟩ := kind_addr k_v1
  obtain ⟨v2, _, rfl, k_v2, hk_v2⟩ := kC hk_v1
  obtain ⟨e25, rfl⟩ := kind_int k_v2
  obtain ⟨v3, _, rfl, k_v3, hk_v3⟩ := kC hk_v2
  obtain ⟨b26, rfl⟩ := kind_bool k_v3
  obtain rfl := kN hk_v3
  exact T_q95_eq C d23 s24 e25 b26 w
def T_qa5_2_body (X : Int → World → Prop) (x48 : Int) (d49 : Option Addr) (s50 : Addr) (s51a : Option Addr) (s51l s51c : Nat) (x52 : Int) (w : World) (Kn : World → Prop) (Kp : XT)  : Prop :=
 if (decide (x48 < x52)) = true then (0 ≤ x48 ∧ x48 < ((s51l : Nat) : Int) ∧ ∃ b53, s51a = some b53 ∧ ∃ (s54 : ByteArray) (x55 : Int), rd w (b53.add (x48.toNat * 2)) (.agg #[.string s54, .int .i64 x55]) ∧ let w56 : World := w.alloc (.cells #[.string (ByteArray.mk #[]), .int .i64 0] 97)
 (.agg #[.string s54, .int .i64 x55] : Value).cells.size = 2 ∧ wrOk w56 (⟨w.heap.size, 0, none⟩ : Addr) (.agg #[.string s54, .int .i64 x55]) ∧ let w57 : World := wr w56 (⟨w.heap.size, 0, none⟩ : Addr) (.agg #[.string s54, .int .i64 x55])
 ∃ x58 : Int, rd w57 ((⟨w.heap.size, 0, none⟩ : Addr).add 1) (.int .i64 x58) ∧ ∃ x59 : Int, rd w57 s50 (.int .i64 x59) ∧ if (decide (x58 < x59)) = true then (∃ s60 : ByteArray, rd w57 (⟨w.heap.size, 0, none⟩ : Addr) (.string s60) ∧ Calls Tryz.prog 56 #[.pointer d49, .string s60] w57 (ret (fun r61 w62 => ∃ x63 : Int, r61 = .int .i64 x63 ∧ X (IntKind.wrap .i64 (x48 + 1)) w62) Kp)) else (X (IntKind.wrap .i64 (x48 + 1)) w57)) else (Kn  w)
def T_q96 (x48 : Int) (d49 : Option Addr) (s50 : Addr) (s51a : Option Addr) (s51l s51c : Nat) (x52 : Int) (w : World) (Kn : World → Prop) (Kp : XT) : Prop :=
 ∀ X : Int → World → Prop, (∀ (x48 : Int) (w : World), T_qa5_2_body X x48 d49 s50 s51a s51l s51c x52 w Kn Kp → X x48 w) → X x48 w
def T_q5v : Exit → Option (List (Nat × Value)) := fun x => match x with | .normal => some [] | .panic _ => some [] | _ => none
def T_q7k : Nat → Bool := ksOf [8, 42, 43, 44, 45, 46, 47, 48, 49, 50, 51, 52, 53, 54, 55, 56]
def H_q96 : Env → World → QT → Prop := unitHook 57 T_q7k [(42, .int .i64 0), (0, .pointer none), (3, .pointer (some ⟨0, 0, none⟩)), (40, .slice none 0 0), (41, .int .i64 0)] T_q5v fun l w C => match l with | [v0, v1, v2, v3, v4] => T_q96 (pInt v0) (pPtr v1) (pAddr v2) (pA v3) (pL v3) (pC v3) (pInt v4) w (fun w => C .normal [] w) (fun ch w => C (.panic ch) [] w) | _ => False
theorem T_q96_hl : allP (hokL Tryz.prog (hookAt []) (at_ (bodyOf Tryz.f18) [1, 1, 1, 1, 1, 1, 1, 0, 1, 0, 0]) 4084) = (True) := by kernel_rfl
theorem T_q96_hok : HOk Tryz.prog (hookAt []) (at_ (bodyOf Tryz.f18) [1, 1, 1, 1, 1, 1, 1, 0, 1, 0, 0]) 4084 := HOk_of _ _ (by rw [T_q96_hl]; exact trivial)
theorem T_q96_eq (C : Conts) (X : List Value → World → Prop) (x48 : Int) (d49 : Option Addr) (s50 : Addr) (s51a : Option Addr) (s51l s51c : Nat) (x52 : Int) (w : World) : vcCode Tryz.prog (hookAt []) (at_ (bodyOf Tryz.f18) [1, 1, 1, 1, 1, 1, 1, 0, 1, 0, 0]) 4084 ⟨[(42, .int .i64 x48)] ++ [(0, .pointer d49), (3, .pointer (some s50)), (40, .slice s51a s51l s51c), (41, .int .i64 x52)], 57, []⟩ w (seqQ (fun e w => takeAll e [(42, .int .i64 0)] fun l => X l w) (blockQ 0 (unitQ T_q5v C))) = T_qa5_2_body (fun x48 w => X [.int .i64 x48] w) x48 d49 s50 s51a s51l s51c x52 w (fun w => C .normal [] w) (fun ch w => C (.panic ch) [] w) := by kernel_rfl
theorem T_qa5_2_ok : UnitOk Tryz.prog H_q96 (at_ (bodyOf Tryz.f18) [1, 1, 1, 1, 1, 1, 1, 0, 1]) 1021 := by
 have hc : at_ (bodyOf Tryz.f18) [1, 1, 1, 1, 1, 1, 1, 0, 1] = .block 0 (.loop (at_ (bodyOf Tryz.f18) [1, 1, 1, 1, 1, 1, 1, 0, 1, 0, 0])) := by kernel_rfl
 rw [hc]
 refine loop_unit_ok (carr := [(42, .int .i64 0)]) (fix := [(0, .pointer none), (3, .pointer (some ⟨0, 0, none⟩)), (40, .slice none 0 0), (41, .int .i64 0)]) (ks := T_q7k) (H := (hookAt [])) (B := fun C X l u w => match l, u with | [v0], [v1, v2, v3, v4] => T_qa5_2_body (fun x48 w => X [.int .i64 x48] w) (pInt v0) (pPtr v1) (pAddr v2) (pA v3) (pL v3) (pC v3) (pInt v4) w (fun w => C .normal [] w) (fun ch w => C (.panic ch) [] w) | _, _ => False) (by kernel_rfl) (by kernel_rfl) T_q96_hok ?_ ?_
 ·intro C X l u w hl hu
  obtain ⟨v0, _, rfl, k_v0, hl_v0⟩ := kC hl
  obtain ⟨x48, rfl⟩ := kind_int k_v0
  obtain rfl := kN hl_v0
  obtain ⟨v1, _, rfl, k_v1, hu_v1⟩ := kC hu
  obtain ⟨d49, rfl⟩ := kind_pointer k_v1
  obtain ⟨v2, _, rfl, k_v2, hu_v2⟩ := kC hu_v1
  obtain ⟨s50, rfl⟩ := kind_addr k_v2
  obtain ⟨v3, _, rfl, k_v3, hu_v3⟩ := kC hu_v2
  obtain ⟨s51a, s51l, s51c, rfl⟩ := kind_slice k_v3
  obtain ⟨v4, _, rfl, k_v4, hu_v4⟩ := kC hu_v3
  obtain ⟨x52, rfl⟩ := kind_int k_v4
  obtain rfl := kN hu_v4
  exact T_q96_eq C X x48 d49 s50 s51a s51l s51c x52 w
 ·intro l u w C hl hu
  obtain ⟨v0, _, rfl, k_v0, hl_v0⟩ := kC hl
  obtain ⟨x48, rfl⟩ := kind_int k_v0
  obtain rfl := kN hl_v0
  obtain ⟨v1, _, rfl, k_v1, hu_v1⟩ := kC hu
  obtain ⟨d49, rfl⟩ := kind_pointer k_v1
  obtain ⟨v2, _, rfl, k_v2, hu_v2⟩ := kC hu_v1
  obtain ⟨s50, rfl⟩ := kind_addr k_v2
  obtain ⟨v3, _, rfl, k_v3, hu_v3⟩ := kC hu_v2
  obtain ⟨s51a, s51l, s51c, rfl⟩ := kind_slice k_v3
  obtain ⟨v4, _, rfl, k_v4, hu_v4⟩ := kC hu_v3
  obtain ⟨x52, rfl⟩ := kind_int k_v4
  obtain rfl := kN hu_v4
  constructor
  ·intro h X hX
   exact h (fun x48 w => X [.int .i64 x48] w) (fun x48 w hb => hX [.int .i64 x48] w ⟨rfl, trivial⟩ hb)
  ·intro h X hX
   exact h (fun l w => match l with | [v0] => X (pInt v0) w | _ => True) (fun l w hl hb => by
    obtain ⟨v0, _, rfl, k_v0, hl_v0⟩ := kC hl
    obtain ⟨x48, rfl⟩ := kind_int k_v0
    obtain rfl := kN hl_v0
    exact hX x48 w hb)
def T_qa5 (d1 : Option Addr) (x2 x3 : Int) (s4a : Option Addr) (s4l s4c : Nat) (s5a : Option Addr) (s5l s5c : Nat) (s6a : Option Addr) (s6l s6c : Nat) (w : World) (R : RT) : Prop :=
 let w7 : World := w.alloc (.cells #[.int .i64 x2, .int .i64 x3, .slice s4a s4l s4c, .slice s5a s5l s5c, .slice s6a s6l s6c] 29)
 if d1.isNone = true then (R (.returned (.int .i64 1)) w7) else (∃ (x8 x9 : Int) (s10a : Option Addr) (s10l s10c : Nat) (s11a : Option Addr) (s11l s11c : Nat) (s12a : Option Addr) (s12l s12c : Nat), rd w7 (⟨w.heap.size, 0, none⟩ : Addr) (.agg #[.int .i64 x8, .int .i64 x9, .slice s10a s10l s10c, .slice s11a s11l s11c, .slice s12a s12l s12c]) ∧ Calls Tryz.prog 9 #[.agg #[.int .i64 x8, .int .i64 x9, .slice s10a s10l s10c, .slice s11a s11l s11c, .slice s12a s12l s12c]] w7 (ret (fun r13 w14 => ∃ (s15a : Option Addr) (s15l s15c : Nat) (x16 : Int), r13 = .tuple #[.slice s15a s15l s15c, .int .i64 x16] ∧ if (x16 != 0) = true then (R (.returned (.int .i64 x16)) w14) else (Calls Tryz.prog 56 #[.pointer d1, .string (ByteArray.mk #[115, 110, 97, 112, 46, 116, 109, 112])] w14 (ret (fun r17 w18 => ∃ x19 : Int, r17 = .int .i64 x19 ∧ Calls Tryz.prog 22 #[.pointer d1, .string (ByteArray.mk #[115, 110, 97, 112, 46, 116, 109, 112]), .int .i64 0, .slice s15a s15l s15c] w18 (ret (fun r20 w21 => ∃ x22 : Int, r20 = .int .i64 x22 ∧ T_q95 d1 (⟨w.heap.size, 0, none⟩ : Addr) x22 (x22 == 0) w21 (fun e40 w41 => if (e40 != 0) = true then (Calls Tryz.prog 56 #[.pointer d1, .string (ByteArray.mk #[115, 110, 97, 112, 46, 116, 109, 112])] w41 (ret (fun r42 w43 => ∃ x44 : Int, r42 = .int .i64 x44 ∧ R (.returned (.int .i64 e40)) w43) (pan R))) else (Calls Tryz.prog 60 #[.pointer d1] w41 (ret (fun r45 w46 => ∃ (s47a : Option Addr) (s47l s47c : Nat), r45 = .slice s47a s47l s47c ∧ T_q96 0 d1 (⟨w.heap.size, 0, none⟩ : Addr) s47a s47l s47c ((s47l : Nat) : Int) w46 (fun w64 => R (.returned (.int .i64 0)) w64) (pan R)) (pan R)))) (pan R)) (pan R))) (pan R)))) (pan R)))
theorem T_qa5_hl : allP (hokL Tryz.prog (hookAt [(507, H_q95), (1021, H_q96)]) (bodyOf Tryz.f18) 1) = (UnitOk Tryz.prog H_q95 (at_ (bodyOf Tryz.f18) [1, 1, 1, 1, 1, 0, 1, 1]) 507 ∧ UnitOk Tryz.prog H_q96 (at_ (bodyOf Tryz.f18) [1, 1, 1, 1, 1, 1, 1, 0, 1]) 1021 ∧ True) := by kernel_rfl
theorem T_qa5_eq (d1 : Option Addr) (x2 x3 : Int) (s4a : Option Addr) (s4l s4c : Nat) (s5a : Option Addr) (s5l s5c : Nat) (s6a : Option Addr) (s6l s6c : Nat) (w : World) (R : RT) : vcCode Tryz.prog (hookAt [(507, H_q95), (1021, H_q96)]) (bodyOf Tryz.f18) 1 ⟨argEnv [.pointer d1, .agg #[.int .i64 x2, .int .i64 x3, .slice s4a s4l s4c, .slice s5a s5l s5c, .slice s6a s6l s6c]] 0, Tryz.f18.ntmps, []⟩ w (finQ Tryz.prog Tryz.f18.results.toList R) = T_qa5 d1 x2 x3 s4a s4l s4c s5a s5l s5c s6a s6l s6c w R := by kernel_rfl
theorem T_qa5_b : Tryz.f18.body = some (bodyOf Tryz.f18) := by kernel_rfl
theorem T_qa5_s : (quietSel (bodyOf Tryz.f18) && Nat.ble 2 Tryz.f18.ntmps) = true := by kernel_rfl
theorem C_qa5 {d1 : Option Addr} {x2 x3 : Int} {s4a : Option Addr} {s4l s4c : Nat} {s5a : Option Addr} {s5l s5c : Nat} {s6a : Option Addr} {s6l s6c : Nat} {w : World} {R : RT} (h : T_qa5 d1 x2 x3 s4a s4l s4c s5a s5l s5c s6a s6l s6c w R) : Calls Tryz.prog 18 #[.pointer d1, .agg #[.int .i64 x2, .int .i64 x3, .slice s4a s4l s4c, .slice s5a s5l s5c, .slice s6a s6l s6c]] w R :=
 calls_of_text (args := [.pointer d1, .agg #[.int .i64 x2, .int .i64 x3, .slice s4a s4l s4c, .slice s5a s5l s5c, .slice s6a s6l s6c]]) mixed Tryz.func18 T_qa5_b T_qa5_s (HOk_of _ _ (by rw [T_qa5_hl]; exact ⟨T_qa5_1_ok, T_qa5_2_ok, trivial⟩)) (by rw [T_qa5_eq]; exact h)
def T_qa4_1_body (X : Int → World → Prop) (x12 : Int) (d13 : Option Addr) (a14 : Addr) (s15a : Option Addr) (s15l s15c : Nat) (x16 : Int) (w : World) (Kn : World → Prop) (Kr : Int → World → Prop) (Kp : XT)  : Prop :=
 if (decide (x12 < x16)) = true then (0 ≤ x12 ∧ x12 < ((s15l : Nat) : Int) ∧ ∃ b17, s15a = some b17 ∧ ∃ (s18 : ByteArray) (x19 : Int), rd w (b17.add (x12.toNat * 2)) (.agg #[.string s18, .int .i64 x19]) ∧ let w20 : World := w.alloc (.cells #[.string (ByteArray.mk #[]), .int .i64 0] 97)
 (.agg #[.string s18, .int .i64 x19] : Value).cells.size = 2 ∧ wrOk w20 (⟨w.heap.size, 0, none⟩ : Addr) (.agg #[.string s18, .int .i64 x19]) ∧ let w21 : World := wr w20 (⟨w.heap.size, 0, none⟩ : Addr) (.agg #[.string s18, .int .i64 x19])
 ∃ s22 : ByteArray, rd w21 (⟨w.heap.size, 0, none⟩ : Addr) (.string s22) ∧ Calls Tryz.prog 75 #[.pointer d13, .string s22] w21 (ret (fun r23 w24 => ∃ (s25a : Option Addr) (s25l s25c : Nat) (x26 : Int), r23 = .tuple #[.slice s25a s25l s25c, .int .i64 x26] ∧ Calls Tryz.prog 13 #[.slice s25a s25l s25c] w24 (ret (fun r27 w28 => ∃ (x29 x30 : Int) (s31a : Option Addr) (s31l s31c : Nat) (s32a : Option Addr) (s32l s32c : Nat) (s33a : Option Addr) (s33l s33c : Nat) (x34 : Int), r27 = .tuple #[.agg #[.int .i64 x29, .int .i64 x30, .slice s31a s31l s31c, .slice s32a s32l s32c, .slice s33a s33l s33c], .int .i64 x34] ∧ let w35 : World := w28.alloc (.cells #[.int .i64 0, .int .i64 0, .slice none 0 0, .slice none 0 0, .slice none 0 0] 29)
 (.agg #[.int .i64 x29, .int .i64 x30, .slice s31a s31l s31c, .slice s32a s32l s32c, .slice s33a s33l s33c] : Value).cells.size = 5 ∧ wrOk w35 (⟨w28.heap.size, 0, none⟩ : Addr) (.agg #[.int .i64 x29, .int .i64 x30, .slice s31a s31l s31c, .slice s32a s32l s32c, .slice s33a s33l s33c]) ∧ let w36 : World := wr w35 (⟨w28.heap.size, 0, none⟩ : Addr) (.agg #[.int .i64 x29, .int .i64 x30, .slice s31a s31l s31c, .slice s32a s32l s32c, .slice s33a s33l s33c])
 if (x34 == 0) = true then (∃ x37 : Int, rd w36 (⟨w28.heap.size, 0, none⟩ : Addr) (.int .i64 x37) ∧ ∃ x38 : Int, rd w36 ((⟨w.heap.size, 0, none⟩ : Addr).add 1) (.int .i64 x38) ∧ if (x37 == x38) = true then (∃ (x39 x40 : Int) (s41a : Option Addr) (s41l s41c : Nat) (s42a : Option Addr) (s42l s42c : Nat) (s43a : Option Addr) (s43l s43c : Nat), rd w36 (⟨w28.heap.size, 0, none⟩ : Addr) (.agg #[.int .i64 x39, .int .i64 x40, .slice s41a s41l s41c, .slice s42a s42l s42c, .slice s43a s43l s43c]) ∧ (.agg #[.int .i64 x39, .int .i64 x40, .slice s41a s41l s41c, .slice s42a s42l s42c, .slice s43a s43l s43c] : Value).cells.size = 5 ∧ wrOk w36 a14 (.agg #[.int .i64 x39, .int .i64 x40, .slice s41a s41l s41c, .slice s42a s42l s42c, .slice s43a s43l s43c]) ∧ let w44 : World := wr w36 a14 (.agg #[.int .i64 x39, .int .i64 x40, .slice s41a s41l s41c, .slice s42a s42l s42c, .slice s43a s43l s43c])
 Kr 0 w44) else (X (IntKind.wrap .i64 (x12 + 1)) w36)) else (X (IntKind.wrap .i64 (x12 + 1)) w36)) Kp)) Kp)) else (Kn  w)
def T_q93 (x12 : Int) (d13 : Option Addr) (a14 : Addr) (s15a : Option Addr) (s15l s15c : Nat) (x16 : Int) (w : World) (Kn : World → Prop) (Kr : Int → World → Prop) (Kp : XT) : Prop :=
 ∀ X : Int → World → Prop, (∀ (x12 : Int) (w : World), T_qa4_1_body X x12 d13 a14 s15a s15l s15c x16 w Kn Kr Kp → X x12 w) → X x12 w
def T_q5s : Exit → Option (List (Nat × Value)) := fun x => match x with | .normal => some [] | .ret => some [(3, .int .i64 0)] | .panic _ => some [] | _ => none
def T_q7i : Nat → Bool := ksOf [3, 5, 6, 7, 8, 9, 16, 17, 18, 19, 20, 21, 22, 23, 24, 25, 26, 27, 28, 29, 30, 31, 32, 33, 34, 35, 36, 37, 38, 39, 40, 41, 42, 43]
def H_q93 : Env → World → QT → Prop := unitHook 45 T_q7i [(16, .int .i64 0), (0, .pointer none), (2, .pointer (some ⟨0, 0, none⟩)), (14, .slice none 0 0), (15, .int .i64 0)] T_q5s fun l w C => match l with | [v0, v1, v2, v3, v4] => T_q93 (pInt v0) (pPtr v1) (pAddr v2) (pA v3) (pL v3) (pC v3) (pInt v4) w (fun w => C .normal [] w) (fun x46 w => C .ret [.int .i64 x46] w) (fun ch w => C (.panic ch) [] w) | _ => False
theorem T_q93_hl : allP (hokL Tryz.prog (hookAt []) (at_ (bodyOf Tryz.f24) [1, 1, 0, 1, 0, 0]) 116) = (True) := by kernel_rfl
theorem T_q93_hok : HOk Tryz.prog (hookAt []) (at_ (bodyOf Tryz.f24) [1, 1, 0, 1, 0, 0]) 116 := HOk_of _ _ (by rw [T_q93_hl]; exact trivial)
theorem T_q93_eq (C : Conts) (X : List Value → World → Prop) (x12 : Int) (d13 : Option Addr) (a14 : Addr) (s15a : Option Addr) (s15l s15c : Nat) (x16 : Int) (w : World) : vcCode Tryz.prog (hookAt []) (at_ (bodyOf Tryz.f24) [1, 1, 0, 1, 0, 0]) 116 ⟨[(16, .int .i64 x12)] ++ [(0, .pointer d13), (2, .pointer (some a14)), (14, .slice s15a s15l s15c), (15, .int .i64 x16)], 45, []⟩ w (seqQ (fun e w => takeAll e [(16, .int .i64 0)] fun l => X l w) (blockQ 0 (unitQ T_q5s C))) = T_qa4_1_body (fun x12 w => X [.int .i64 x12] w) x12 d13 a14 s15a s15l s15c x16 w (fun w => C .normal [] w) (fun x47 w => C .ret [.int .i64 x47] w) (fun ch w => C (.panic ch) [] w) := by kernel_rfl
theorem T_qa4_1_ok : UnitOk Tryz.prog H_q93 (at_ (bodyOf Tryz.f24) [1, 1, 0, 1]) 29 := by
 have hc : at_ (bodyOf Tryz.f24) [1, 1, 0, 1] = .block 0 (.loop (at_ (bodyOf Tryz.f24) [1, 1, 0, 1, 0, 0])) := by kernel_rfl
 rw [hc]
 refine loop_unit_ok (carr := [(16, .int .i64 0)]) (fix := [(0, .pointer none), (2, .pointer (some ⟨0, 0, none⟩)), (14, .slice none 0 0), (15, .int .i64 0)]) (ks := T_q7i) (H := (hookAt [])) (B := fun C X l u w => match l, u with | [v0], [v1, v2, v3, v4] => T_qa4_1_body (fun x12 w => X [.int .i64 x12] w) (pInt v0) (pPtr v1) (pAddr v2) (pA v3) (pL v3) (pC v3) (pInt v4) w (fun w => C .normal [] w) (fun x48 w => C .ret [.int .i64 x48] w) (fun ch w => C (.panic ch) [] w) | _, _ => False) (by kernel_rfl) (by kernel_rfl) T_q93_hok ?_ ?_
 ·intro C X l u w hl hu
  obtain ⟨v0, _, rfl, k_v0, hl_v0⟩ := kC hl
  obtain ⟨x12, rfl⟩ := kind_int k_v0
  obtain rfl := kN hl_v0
  obtain ⟨v1, _, rfl, k_v1, hu_v1⟩ := kC hu
  obtain ⟨d13, rfl⟩ := kind_pointer k_v1
  obtain ⟨v2, _, rfl, k_v2, hu_v2⟩ := kC hu_v1
  obtain ⟨a14, rfl⟩ := kind_addr k_v2
  obtain ⟨v3, _, rfl, k_v3, hu_v3⟩ := kC hu_v2
  obtain ⟨s15a, s15l, s15c, rfl⟩ := kind_slice k_v3
  obtain ⟨v4, _, rfl, k_v4, hu_v4⟩ := kC hu_v3
  obtain ⟨x16, rfl⟩ := kind_int k_v4
  obtain rfl := kN hu_v4
  exact T_q93_eq C X x12 d13 a14 s15a s15l s15c x16 w
 ·intro l u w C hl hu
  obtain ⟨v0, _, rfl, k_v0, hl_v0⟩ := kC hl
  obtain ⟨x12, rfl⟩ := kind_int k_v0
  obtain rfl := kN hl_v0
  obtain ⟨v1, _, rfl, k_v1, hu_v1⟩ := kC hu
  obtain ⟨d13, rfl⟩ := kind_pointer k_v1
  obtain ⟨v2, _, rfl, k_v2, hu_v2⟩ := kC hu_v1
  obtain ⟨a14, rfl⟩ := kind_addr k_v2
  obtain ⟨v3, _, rfl, k_v3, hu_v3⟩ := kC hu_v2
  obtain ⟨s15a, s15l, s15c, rfl⟩ := kind_slice k_v3
  obtain ⟨v4, _, rfl, k_v4, hu_v4⟩ := kC hu_v3
  obtain ⟨x16, rfl⟩ := kind_int k_v4
  obtain rfl := kN hu_v4
  constructor
  ·intro h X hX
   exact h (fun x12 w => X [.int .i64 x12] w) (fun x12 w hb => hX [.int .i64 x12] w ⟨rfl, trivial⟩ hb)
  ·intro h X hX
   exact h (fun l w => match l with | [v0] => X (pInt v0) w | _ => True) (fun l w hl hb => by
    obtain ⟨v0, _, rfl, k_v0, hl_v0⟩ := kC hl
    obtain ⟨x12, rfl⟩ := kind_int k_v0
    obtain rfl := kN hl_v0
    exact hX x12 w hb)
def T_qa4 (d1 : Option Addr) (w : World) (R : RT) : Prop :=
 let w2 : World := w.alloc (.cells #[.int .i64 0, .int .i64 0, .slice none 0 0, .slice none 0 0, .slice none 0 0] 29)
 if d1.isNone = true then ((.agg #[.int .i64 0, .int .i64 0, .slice none 0 0, .slice none 0 0, .slice none 0 0] : Value).cells.size = 5 ∧ wrOk w2 (⟨w.heap.size, 0, none⟩ : Addr) (.agg #[.int .i64 0, .int .i64 0, .slice none 0 0, .slice none 0 0, .slice none 0 0]) ∧ let w3 : World := wr w2 (⟨w.heap.size, 0, none⟩ : Addr) (.agg #[.int .i64 0, .int .i64 0, .slice none 0 0, .slice none 0 0, .slice none 0 0])
 ∃ (x4 x5 : Int) (s6a : Option Addr) (s6l s6c : Nat) (s7a : Option Addr) (s7l s7c : Nat) (s8a : Option Addr) (s8l s8c : Nat), rd w3 (⟨w.heap.size, 0, none⟩ : Addr) (.agg #[.int .i64 x4, .int .i64 x5, .slice s6a s6l s6c, .slice s7a s7l s7c, .slice s8a s8l s8c]) ∧ R (.returned (.tuple #[.agg #[.int .i64 x4, .int .i64 x5, .slice s6a s6l s6c, .slice s7a s7l s7c, .slice s8a s8l s8c], .int .i64 1])) w3) else (Calls Tryz.prog 60 #[.pointer d1] w2 (ret (fun r9 w10 => ∃ (s11a : Option Addr) (s11l s11c : Nat), r9 = .slice s11a s11l s11c ∧ T_q93 0 d1 (⟨w.heap.size, 0, none⟩ : Addr) s11a s11l s11c ((s11l : Nat) : Int) w10 (fun w49 => (.agg #[.int .i64 0, .int .i64 0, .slice none 0 0, .slice none 0 0, .slice none 0 0] : Value).cells.size = 5 ∧ wrOk w49 (⟨w.heap.size, 0, none⟩ : Addr) (.agg #[.int .i64 0, .int .i64 0, .slice none 0 0, .slice none 0 0, .slice none 0 0]) ∧ let w50 : World := wr w49 (⟨w.heap.size, 0, none⟩ : Addr) (.agg #[.int .i64 0, .int .i64 0, .slice none 0 0, .slice none 0 0, .slice none 0 0])
 ∃ (x51 x52 : Int) (s53a : Option Addr) (s53l s53c : Nat) (s54a : Option Addr) (s54l s54c : Nat) (s55a : Option Addr) (s55l s55c : Nat), rd w50 (⟨w.heap.size, 0, none⟩ : Addr) (.agg #[.int .i64 x51, .int .i64 x52, .slice s53a s53l s53c, .slice s54a s54l s54c, .slice s55a s55l s55c]) ∧ R (.returned (.tuple #[.agg #[.int .i64 x51, .int .i64 x52, .slice s53a s53l s53c, .slice s54a s54l s54c, .slice s55a s55l s55c], .int .i64 8])) w50) (fun x56 w57 => ∃ (x58 x59 : Int) (s60a : Option Addr) (s60l s60c : Nat) (s61a : Option Addr) (s61l s61c : Nat) (s62a : Option Addr) (s62l s62c : Nat), rd w57 (⟨w.heap.size, 0, none⟩ : Addr) (.agg #[.int .i64 x58, .int .i64 x59, .slice s60a s60l s60c, .slice s61a s61l s61c, .slice s62a s62l s62c]) ∧ R (.returned (.tuple #[.agg #[.int .i64 x58, .int .i64 x59, .slice s60a s60l s60c, .slice s61a s61l s61c, .slice s62a s62l s62c], .int .i64 x56])) w57) (pan R)) (pan R)))
theorem T_qa4_hl : allP (hokL Tryz.prog (hookAt [(29, H_q93)]) (bodyOf Tryz.f24) 1) = (UnitOk Tryz.prog H_q93 (at_ (bodyOf Tryz.f24) [1, 1, 0, 1]) 29 ∧ True) := by kernel_rfl
theorem T_qa4_eq (d1 : Option Addr) (w : World) (R : RT) : vcCode Tryz.prog (hookAt [(29, H_q93)]) (bodyOf Tryz.f24) 1 ⟨argEnv [.pointer d1] 0, Tryz.f24.ntmps, []⟩ w (finQ Tryz.prog Tryz.f24.results.toList R) = T_qa4 d1 w R := by kernel_rfl
theorem T_qa4_b : Tryz.f24.body = some (bodyOf Tryz.f24) := by kernel_rfl
theorem T_qa4_s : (quietSel (bodyOf Tryz.f24) && Nat.ble 1 Tryz.f24.ntmps) = true := by kernel_rfl
theorem C_qa4 {d1 : Option Addr} {w : World} {R : RT} (h : T_qa4 d1 w R) : Calls Tryz.prog 24 #[.pointer d1] w R :=
 calls_of_text (args := [.pointer d1]) mixed Tryz.func24 T_qa4_b T_qa4_s (HOk_of _ _ (by rw [T_qa4_hl]; exact ⟨T_qa4_1_ok, trivial⟩)) (by rw [T_qa4_eq]; exact h)
def T_q94_1_body (X : Option Addr → Nat → Nat → Int → World → Prop) (out14a : Option Addr) (out14l out14c : Nat) (at15 : Int) (b16a : Option Addr) (b16l b16c : Nat) (size17 : Int) (w : World) (Kn : Option Addr → Nat → Nat → World → Prop) (Kp : XT)  : Prop :=
 if (decide (at15 < ((b16l : Nat) : Int))) = true then (let w18 : World := w.drew
 0 ≤ (IntKind.wrap .i64 (at15 + (if (IntKind.wrap .i64 (((b16l : Nat) : Int) - at15)) < size17 then (IntKind.wrap .i64 (((b16l : Nat) : Int) - at15)) else size17)) : Int) ∧ (IntKind.wrap .i64 (at15 + (if (IntKind.wrap .i64 (((b16l : Nat) : Int) - at15)) < size17 then (IntKind.wrap .i64 (((b16l : Nat) : Int) - at15)) else size17)) : Int) ≤ ((b16c : Nat) : Int) ∧ 0 ≤ at15 ∧ at15 ≤ (((IntKind.wrap .i64 (at15 + (if (IntKind.wrap .i64 (((b16l : Nat) : Int) - at15)) < size17 then (IntKind.wrap .i64 (((b16l : Nat) : Int) - at15)) else size17)) : Int).toNat : Nat) : Int) ∧ Calls Tryz.prog 40 #[.slice none 0 0, .int .i64 ((b16l : Nat) : Int)] w18 (ret (fun r19 w20 => ∃ (s21a : Option Addr) (s21l s21c : Nat), r19 = .slice s21a s21l s21c ∧ (True) ∧ Calls Tryz.prog 40 #[.slice s21a s21l s21c, .int .i64 at15] w20 (ret (fun r22 w23 => ∃ (s24a : Option Addr) (s24l s24c : Nat), r22 = .slice s24a s24l s24c ∧ (True) ∧ runV Tryz.prog (Builtin.append_ #[27, 27] 27 #[.slice s24a s24l s24c, .slice (if b16c = (at15.toNat) then b16a else b16a.map (fun x => x.add ((at15.toNat) * 1))) (((IntKind.wrap .i64 (at15 + (if (IntKind.wrap .i64 (((b16l : Nat) : Int) - at15)) < size17 then (IntKind.wrap .i64 (((b16l : Nat) : Int) - at15)) else size17)) : Int).toNat) - (at15.toNat)) (b16c - (at15.toNat))]) w23 (fun r25 w26 => ∃ (s27a : Option Addr) (s27l s27c : Nat), r25 = .slice s27a s27l s27c ∧ (True) ∧ let w28 : World := w26.alloc (.cells #[.slice s27a s27l s27c] 27)
 (True) ∧ runV Tryz.prog (Builtin.append_ #[60, 60] 60 #[.slice out14a out14l out14c, .slice (some (⟨w26.heap.size, 0, none⟩ : Addr)) 1 1]) w28 (fun r29 w30 => ∃ (s31a : Option Addr) (s31l s31c : Nat), r29 = .slice s31a s31l s31c ∧ (True) ∧ X s31a s31l s31c (IntKind.wrap .i64 (at15 + (if (IntKind.wrap .i64 (((b16l : Nat) : Int) - at15)) < size17 then (IntKind.wrap .i64 (((b16l : Nat) : Int) - at15)) else size17))) w30) Kp) Kp) Kp)) Kp)) else (Kn out14a out14l out14c w)
def T_q7w (out14a : Option Addr) (out14l out14c : Nat) (at15 : Int) (b16a : Option Addr) (b16l b16c : Nat) (size17 : Int) (w : World) (Kn : Option Addr → Nat → Nat → World → Prop) (Kp : XT) : Prop :=
 ∀ X : Option Addr → Nat → Nat → Int → World → Prop, (∀ (out14a : Option Addr) (out14l out14c : Nat) (at15 : Int) (w : World), T_q94_1_body X out14a out14l out14c at15 b16a b16l b16c size17 w Kn Kp → X out14a out14l out14c at15 w) → X out14a out14l out14c at15 w
def T_q3i : Exit → Option (List (Nat × Value)) := fun x => match x with | .normal => some [(6, .slice none 0 0)] | .panic _ => some [] | _ => none
def T_q5t : Nat → Bool := ksOf [6, 7, 31, 32, 33, 34, 35, 36, 37, 38, 39, 40, 41, 42, 43, 44, 45, 46, 47, 48, 49, 50, 51, 52, 53, 54, 55, 56, 57, 58, 59, 60, 61, 62]
def H_q7w : Env → World → QT → Prop := unitHook 64 T_q5t [(6, .slice none 0 0), (7, .int .i64 0), (0, .slice none 0 0), (1, .int .i64 0)] T_q3i fun l w C => match l with | [v0, v1, v2, v3] => T_q7w (pA v0) (pL v0) (pC v0) (pInt v1) (pA v2) (pL v2) (pC v2) (pInt v3) w (fun out33a out33l out33c w => C .normal [.slice out33a out33l out33c] w) (fun ch w => C (.panic ch) [] w) | _ => False
theorem T_q7w_hl : allP (hokL Tryz.prog (hookAt []) (at_ (bodyOf Tryz.f44) [1, 1, 1, 0, 1, 0, 0]) 244) = (True) := by kernel_rfl
theorem T_q7w_hok : HOk Tryz.prog (hookAt []) (at_ (bodyOf Tryz.f44) [1, 1, 1, 0, 1, 0, 0]) 244 := HOk_of _ _ (by rw [T_q7w_hl]; exact trivial)
theorem T_q7w_eq (C : Conts) (X : List Value → World → Prop) (out14a : Option Addr) (out14l out14c : Nat) (at15 : Int) (b16a : Option Addr) (b16l b16c : Nat) (size17 : Int) (w : World) : vcCode Tryz.prog (hookAt []) (at_ (bodyOf Tryz.f44) [1, 1, 1, 0, 1, 0, 0]) 244 ⟨[(6, .slice out14a out14l out14c), (7, .int .i64 at15)] ++ [(0, .slice b16a b16l b16c), (1, .int .i64 size17)], 64, []⟩ w (seqQ (fun e w => takeAll e [(6, .slice none 0 0), (7, .int .i64 0)] fun l => X l w) (blockQ 1 (unitQ T_q3i C))) = T_q94_1_body (fun out14a out14l out14c at15 w => X [.slice out14a out14l out14c, .int .i64 at15] w) out14a out14l out14c at15 b16a b16l b16c size17 w (fun out34a out34l out34c w => C .normal [.slice out34a out34l out34c] w) (fun ch w => C (.panic ch) [] w) := by kernel_rfl
theorem T_q94_1_ok : UnitOk Tryz.prog H_q7w (at_ (bodyOf Tryz.f44) [1, 1, 1, 0, 1]) 61 := by
 have hc : at_ (bodyOf Tryz.f44) [1, 1, 1, 0, 1] = .block 1 (.loop (at_ (bodyOf Tryz.f44) [1, 1, 1, 0, 1, 0, 0])) := by kernel_rfl
 rw [hc]
 refine loop_unit_ok (carr := [(6, .slice none 0 0), (7, .int .i64 0)]) (fix := [(0, .slice none 0 0), (1, .int .i64 0)]) (ks := T_q5t) (H := (hookAt [])) (B := fun C X l u w => match l, u with | [v0, v1], [v2, v3] => T_q94_1_body (fun out14a out14l out14c at15 w => X [.slice out14a out14l out14c, .int .i64 at15] w) (pA v0) (pL v0) (pC v0) (pInt v1) (pA v2) (pL v2) (pC v2) (pInt v3) w (fun out35a out35l out35c w => C .normal [.slice out35a out35l out35c] w) (fun ch w => C (.panic ch) [] w) | _, _ => False) (by kernel_rfl) (by kernel_rfl) T_q7w_hok ?_ ?_
 ·intro C X l u w hl hu
  obtain ⟨v0, _, rfl, k_v0, hl_v0⟩ := kC hl
  obtain ⟨out14a, out14l, out14c, rfl⟩ := kind_slice k_v0
  obtain ⟨v1, _, rfl, k_v1, hl_v1⟩ := kC hl_v0
  obtain ⟨at15, rfl⟩ := kind_int k_v1
  obtain rfl := kN hl_v1
  obtain ⟨v2, _, rfl, k_v2, hu_v2⟩ := kC hu
  obtain ⟨b16a, b16l, b16c, rfl⟩ := kind_slice k_v2
  obtain ⟨v3, _, rfl, k_v3, hu_v3⟩ := kC hu_v2
  obtain ⟨size17, rfl⟩ := kind_int k_v3
  obtain rfl := kN hu_v3
  exact T_q7w_eq C X out14a out14l out14c at15 b16a b16l b16c size17 w
 ·intro l u w C hl hu
  obtain ⟨v0, _, rfl, k_v0, hl_v0⟩ := kC hl
  obtain ⟨out14a, out14l, out14c, rfl⟩ := kind_slice k_v0
  obtain ⟨v1, _, rfl, k_v1, hl_v1⟩ := kC hl_v0
  obtain ⟨at15, rfl⟩ := kind_int k_v1
  obtain rfl := kN hl_v1
  obtain ⟨v2, _, rfl, k_v2, hu_v2⟩ := kC hu
  obtain ⟨b16a, b16l, b16c, rfl⟩ := kind_slice k_v2
  obtain ⟨v3, _, rfl, k_v3, hu_v3⟩ := kC hu_v2
  obtain ⟨size17, rfl⟩ := kind_int k_v3
  obtain rfl := kN hu_v3
  constructor
  ·intro h X hX
   exact h (fun out14a out14l out14c at15 w => X [.slice out14a out14l out14c, .int .i64 at15] w) (fun out14a out14l out14c at15 w hb => hX [.slice out14a out14l out14c, .int .i64 at15] w ⟨rfl, rfl, trivial⟩ hb)
  ·intro h X hX
   exact h (fun l w => match l with | [v0, v1] => X (pA v0) (pL v0) (pC v0) (pInt v1) w | _ => True) (fun l w hl hb => by
    obtain ⟨v0, _, rfl, k_v0, hl_v0⟩ := kC hl
    obtain ⟨out14a, out14l, out14c, rfl⟩ := kind_slice k_v0
    obtain ⟨v1, _, rfl, k_v1, hl_v1⟩ := kC hl_v0
    obtain ⟨at15, rfl⟩ := kind_int k_v1
    obtain rfl := kN hl_v1
    exact hX out14a out14l out14c at15 w hb)
def T_q94 (b1a : Option Addr) (b1l b1c : Nat) (size2 : Int) (w : World) (R : RT) : Prop :=
 if (decide (size2 < 1)) = true then (R (.returned (.tuple #[.slice none 0 0, .int .i64 2])) w) else (if (decide (((b1l : Nat) : Int) > 32768)) = true then (R (.returned (.tuple #[.slice none 0 0, .int .i64 6])) w) else (let w3 : World := w.drew
 0 ≤ (if ((b1l : Nat) : Int) < size2 then ((b1l : Nat) : Int) else size2 : Int) ∧ (if ((b1l : Nat) : Int) < size2 then ((b1l : Nat) : Int) else size2 : Int) ≤ ((b1c : Nat) : Int) ∧ Calls Tryz.prog 40 #[.slice none 0 0, .int .i64 ((b1l : Nat) : Int)] w3 (ret (fun r4 w5 => ∃ (s6a : Option Addr) (s6l s6c : Nat), r4 = .slice s6a s6l s6c ∧ (True) ∧ Calls Tryz.prog 40 #[.slice s6a s6l s6c, .int .i64 0] w5 (ret (fun r7 w8 => ∃ (s9a : Option Addr) (s9l s9c : Nat), r7 = .slice s9a s9l s9c ∧ (True) ∧ runV Tryz.prog (Builtin.append_ #[27, 27] 27 #[.slice s9a s9l s9c, .slice (if b1c = 0 then b1a else b1a.map (fun x => x.add (0 * 1))) (((if ((b1l : Nat) : Int) < size2 then ((b1l : Nat) : Int) else size2 : Int).toNat) - 0) (b1c - 0)]) w8 (fun r10 w11 => ∃ (s12a : Option Addr) (s12l s12c : Nat), r10 = .slice s12a s12l s12c ∧ (True) ∧ let w13 : World := w11.alloc (.cells #[.slice s12a s12l s12c] 27)
 (True) ∧ T_q7w (some (⟨w11.heap.size, 0, none⟩ : Addr)) 1 1 (if ((b1l : Nat) : Int) < size2 then ((b1l : Nat) : Int) else size2) b1a b1l b1c size2 w13 (fun out36a out36l out36c w37 => R (.returned (.tuple #[.slice out36a out36l out36c, .int .i64 0])) w37) (pan R)) (pan R)) (pan R))) (pan R))))
theorem T_q94_hl : allP (hokL Tryz.prog (hookAt [(61, H_q7w)]) (bodyOf Tryz.f44) 1) = (UnitOk Tryz.prog H_q7w (at_ (bodyOf Tryz.f44) [1, 1, 1, 0, 1]) 61 ∧ True) := by kernel_rfl
theorem T_q94_eq (b1a : Option Addr) (b1l b1c : Nat) (size2 : Int) (w : World) (R : RT) : vcCode Tryz.prog (hookAt [(61, H_q7w)]) (bodyOf Tryz.f44) 1 ⟨argEnv [.slice b1a b1l b1c, .int .i64 size2] 0, Tryz.f44.ntmps, []⟩ w (finQ Tryz.prog Tryz.f44.results.toList R) = T_q94 b1a b1l b1c size2 w R := by kernel_rfl
theorem T_q94_b : Tryz.f44.body = some (bodyOf Tryz.f44) := by kernel_rfl
theorem T_q94_s : (quietSel (bodyOf Tryz.f44) && Nat.ble 2 Tryz.f44.ntmps) = true := by kernel_rfl
theorem C_q94 {b1a : Option Addr} {b1l b1c : Nat} {size2 : Int} {w : World} {R : RT} (h : T_q94 b1a b1l b1c size2 w R) : Calls Tryz.prog 44 #[.slice b1a b1l b1c, .int .i64 size2] w R :=
 calls_of_text (args := [.slice b1a b1l b1c, .int .i64 size2]) mixed Tryz.func44 T_q94_b T_q94_s (HOk_of _ _ (by rw [T_q94_hl]; exact ⟨T_q94_1_ok, trivial⟩)) (by rw [T_q94_eq]; exact h)
def T_q6e_1_body (X : Int → World → Prop) (i3 : Int) (a4a : Option Addr) (a4l a4c : Nat) (b5a : Option Addr) (b5l b5c : Nat) (w : World) (Kn : World → Prop) (Kr : Bool → World → Prop) (Kp : XT)  : Prop :=
 if (decide (i3 < ((a4l : Nat) : Int))) = true then (let w6 : World := w.drew
 0 ≤ i3 ∧ i3 < ((a4l : Nat) : Int) ∧ ∃ b7, a4a = some b7 ∧ ∃ s8 : ByteArray, rd w6 (b7.add (i3.toNat * 1)) (.string s8) ∧ 0 ≤ i3 ∧ i3 < ((b5l : Nat) : Int) ∧ ∃ b9, b5a = some b9 ∧ ∃ s10 : ByteArray, rd w6 (b9.add (i3.toNat * 1)) (.string s10) ∧ if (!(s8.toList == s10.toList)) = true then (Kr false w6) else (X (IntKind.wrap .i64 (i3 + 1)) w6)) else (Kn  w)
def T_q4i (i3 : Int) (a4a : Option Addr) (a4l a4c : Nat) (b5a : Option Addr) (b5l b5c : Nat) (w : World) (Kn : World → Prop) (Kr : Bool → World → Prop) (Kp : XT) : Prop :=
 ∀ X : Int → World → Prop, (∀ (i3 : Int) (w : World), T_q6e_1_body X i3 a4a a4l a4c b5a b5l b5c w Kn Kr Kp → X i3 w) → X i3 w
def T_q10 : Exit → Option (List (Nat × Value)) := fun x => match x with | .normal => some [] | .ret => some [(4, .bool false)] | .panic _ => some [] | _ => none
def T_q27 : Nat → Bool := ksOf [4, 5, 11, 12, 13, 14, 15, 16, 17, 18, 19, 20, 21, 22, 23, 24, 25]
def H_q4i : Env → World → QT → Prop := unitHook 26 T_q27 [(5, .int .i64 0), (0, .slice none 0 0), (1, .slice none 0 0)] T_q10 fun l w C => match l with | [v0, v1, v2] => T_q4i (pInt v0) (pA v1) (pL v1) (pC v1) (pA v2) (pL v2) (pC v2) w (fun w => C .normal [] w) (fun b12 w => C .ret [.bool b12] w) (fun ch w => C (.panic ch) [] w) | _ => False
theorem T_q4i_hl : allP (hokL Tryz.prog (hookAt []) (at_ (bodyOf Tryz.f26) [1, 1, 0, 1, 0, 0]) 116) = (True) := by kernel_rfl
theorem T_q4i_hok : HOk Tryz.prog (hookAt []) (at_ (bodyOf Tryz.f26) [1, 1, 0, 1, 0, 0]) 116 := HOk_of _ _ (by rw [T_q4i_hl]; exact trivial)
theorem T_q4i_eq (C : Conts) (X : List Value → World → Prop) (i3 : Int) (a4a : Option Addr) (a4l a4c : Nat) (b5a : Option Addr) (b5l b5c : Nat) (w : World) : vcCode Tryz.prog (hookAt []) (at_ (bodyOf Tryz.f26) [1, 1, 0, 1, 0, 0]) 116 ⟨[(5, .int .i64 i3)] ++ [(0, .slice a4a a4l a4c), (1, .slice b5a b5l b5c)], 26, []⟩ w (seqQ (fun e w => takeAll e [(5, .int .i64 0)] fun l => X l w) (blockQ 0 (unitQ T_q10 C))) = T_q6e_1_body (fun i3 w => X [.int .i64 i3] w) i3 a4a a4l a4c b5a b5l b5c w (fun w => C .normal [] w) (fun b13 w => C .ret [.bool b13] w) (fun ch w => C (.panic ch) [] w) := by kernel_rfl
theorem T_q6e_1_ok : UnitOk Tryz.prog H_q4i (at_ (bodyOf Tryz.f26) [1, 1, 0, 1]) 29 := by
 have hc : at_ (bodyOf Tryz.f26) [1, 1, 0, 1] = .block 0 (.loop (at_ (bodyOf Tryz.f26) [1, 1, 0, 1, 0, 0])) := by kernel_rfl
 rw [hc]
 refine loop_unit_ok (carr := [(5, .int .i64 0)]) (fix := [(0, .slice none 0 0), (1, .slice none 0 0)]) (ks := T_q27) (H := (hookAt [])) (B := fun C X l u w => match l, u with | [v0], [v1, v2] => T_q6e_1_body (fun i3 w => X [.int .i64 i3] w) (pInt v0) (pA v1) (pL v1) (pC v1) (pA v2) (pL v2) (pC v2) w (fun w => C .normal [] w) (fun b14 w => C .ret [.bool b14] w) (fun ch w => C (.panic ch) [] w) | _, _ => False) (by kernel_rfl) (by kernel_rfl) T_q4i_hok ?_ ?_
 ·intro C X l u w hl hu
  obtain ⟨v0, _, rfl, k_v0, hl_v0⟩ := kC hl
  obtain ⟨i3, rfl⟩ := kind_int k_v0
  obtain rfl := kN hl_v0
  obtain ⟨v1, _, rfl, k_v1, hu_v1⟩ := kC hu
  obtain ⟨a4a, a4l, a4c, rfl⟩ := kind_slice k_v1
  obtain ⟨v2, _, rfl, k_v2, hu_v2⟩ := kC hu_v1
  obtain ⟨b5a, b5l, b5c, rfl⟩ := kind_slice k_v2
  obtain rfl := kN hu_v2
  exact T_q4i_eq C X i3 a4a a4l a4c b5a b5l b5c w
 ·intro l u w C hl hu
  obtain ⟨v0, _, rfl, k_v0, hl_v0⟩ := kC hl
  obtain ⟨i3, rfl⟩ := kind_int k_v0
  obtain rfl := kN hl_v0
  obtain ⟨v1, _, rfl, k_v1, hu_v1⟩ := kC hu
  obtain ⟨a4a, a4l, a4c, rfl⟩ := kind_slice k_v1
  obtain ⟨v2, _, rfl, k_v2, hu_v2⟩ := kC hu_v1
  obtain ⟨b5a, b5l, b5c, rfl⟩ := kind_slice k_v2
  obtain rfl := kN hu_v2
  constructor
  ·intro h X hX
   exact h (fun i3 w => X [.int .i64 i3] w) (fun i3 w hb => hX [.int .i64 i3] w ⟨rfl, trivial⟩ hb)
  ·intro h X hX
   exact h (fun l w => match l with | [v0] => X (pInt v0) w | _ => True) (fun l w hl hb => by
    obtain ⟨v0, _, rfl, k_v0, hl_v0⟩ := kC hl
    obtain ⟨i3, rfl⟩ := kind_int k_v0
    obtain rfl := kN hl_v0
    exact hX i3 w hb)
def T_q6e (a1a : Option Addr) (a1l a1c : Nat) (b2a : Option Addr) (b2l b2c : Nat) (w : World) (R : RT) : Prop :=
 if (((a1l : Nat) : Int) != ((b2l : Nat) : Int)) = true then (R (.returned (.bool false)) w) else (T_q4i 0 a1a a1l a1c b2a b2l b2c w (fun w15 => R (.returned (.bool true)) w15) (fun b16 w17 => R (.returned (.bool b16)) w17) (pan R))
theorem T_q6e_hl : allP (hokL Tryz.prog (hookAt [(29, H_q4i)]) (bodyOf Tryz.f26) 1) = (UnitOk Tryz.prog H_q4i (at_ (bodyOf Tryz.f26) [1, 1, 0, 1]) 29 ∧ True) := by kernel_rfl
theorem T_q6e_eq (a1a : Option Addr) (a1l a1c : Nat) (b2a : Option Addr) (b2l b2c : Nat) (w : World) (R : RT) : vcCode Tryz.prog (hookAt [(29, H_q4i)]) (bodyOf Tryz.f26) 1 ⟨argEnv [.slice a1a a1l a1c, .slice b2a b2l b2c] 0, Tryz.f26.ntmps, []⟩ w (finQ Tryz.prog Tryz.f26.results.toList R) = T_q6e a1a a1l a1c b2a b2l b2c w R := by kernel_rfl
theorem T_q6e_b : Tryz.f26.body = some (bodyOf Tryz.f26) := by kernel_rfl
theorem T_q6e_s : (quietSel (bodyOf Tryz.f26) && Nat.ble 2 Tryz.f26.ntmps) = true := by kernel_rfl
theorem C_q6e {a1a : Option Addr} {a1l a1c : Nat} {b2a : Option Addr} {b2l b2c : Nat} {w : World} {R : RT} (h : T_q6e a1a a1l a1c b2a b2l b2c w R) : Calls Tryz.prog 26 #[.slice a1a a1l a1c, .slice b2a b2l b2c] w R :=
 calls_of_text (args := [.slice a1a a1l a1c, .slice b2a b2l b2c]) mixed Tryz.func26 T_q6e_b T_q6e_s (HOk_of _ _ (by rw [T_q6e_hl]; exact ⟨T_q6e_1_ok, trivial⟩)) (by rw [T_q6e_eq]; exact h)
def T_q9c  (w : World) (R : RT) : Prop :=
 Calls Tryz.prog 16 #[.int .i64 1000] w (ret (fun r1 w2 => ∃ p3 : Option Addr, r1 = .pointer p3 ∧ Calls Tryz.prog 31 #[.int .i64 3] w2 (ret (fun r4 w5 => ∃ (x6 x7 : Int) (s8a : Option Addr) (s8l s8c : Nat) (s9a : Option Addr) (s9l s9c : Nat) (s10a : Option Addr) (s10l s10c : Nat), r4 = .agg #[.int .i64 x6, .int .i64 x7, .slice s8a s8l s8c, .slice s9a s9l s9c, .slice s10a s10l s10c] ∧ Calls Tryz.prog 18 #[.pointer p3, .agg #[.int .i64 x6, .int .i64 x7, .slice s8a s8l s8c, .slice s9a s9l s9c, .slice s10a s10l s10c]] w5 (ret (fun r11 w12 => ∃ x13 : Int, r11 = .int .i64 x13 ∧ Calls Tryz.prog 31 #[.int .i64 12] w12 (ret (fun r14 w15 => ∃ (x16 x17 : Int) (s18a : Option Addr) (s18l s18c : Nat) (s19a : Option Addr) (s19l s19c : Nat) (s20a : Option Addr) (s20l s20c : Nat), r14 = .agg #[.int .i64 x16, .int .i64 x17, .slice s18a s18l s18c, .slice s19a s19l s19c, .slice s20a s20l s20c] ∧ Calls Tryz.prog 18 #[.pointer p3, .agg #[.int .i64 x16, .int .i64 x17, .slice s18a s18l s18c, .slice s19a s19l s19c, .slice s20a s20l s20c]] w15 (ret (fun r21 w22 => ∃ x23 : Int, r21 = .int .i64 x23 ∧ Calls Tryz.prog 24 #[.pointer p3] w22 (ret (fun r24 w25 => ∃ (x26 x27 : Int) (s28a : Option Addr) (s28l s28c : Nat) (s29a : Option Addr) (s29l s29c : Nat) (s30a : Option Addr) (s30l s30c : Nat) (x31 : Int), r24 = .tuple #[.agg #[.int .i64 x26, .int .i64 x27, .slice s28a s28l s28c, .slice s29a s29l s29c, .slice s30a s30l s30c], .int .i64 x31] ∧ let w32 : World := w25.alloc (.cells #[.int .i64 0, .int .i64 0, .slice none 0 0, .slice none 0 0, .slice none 0 0] 29)
 (.agg #[.int .i64 x26, .int .i64 x27, .slice s28a s28l s28c, .slice s29a s29l s29c, .slice s30a s30l s30c] : Value).cells.size = 5 ∧ wrOk w32 (⟨w25.heap.size, 0, none⟩ : Addr) (.agg #[.int .i64 x26, .int .i64 x27, .slice s28a s28l s28c, .slice s29a s29l s29c, .slice s30a s30l s30c]) ∧ let w33 : World := wr w32 (⟨w25.heap.size, 0, none⟩ : Addr) (.agg #[.int .i64 x26, .int .i64 x27, .slice s28a s28l s28c, .slice s29a s29l s29c, .slice s30a s30l s30c])
 let w34 : World := w33.alloc (.cells #[.int .u8 97, .int .u8 98, .int .u8 99] 5)
 runV Tryz.prog (convert 27 27 (.slice (some (⟨w33.heap.size, 0, none⟩ : Addr)) 3 3)) w34 (fun r35 w36 => ∃ (s37a : Option Addr) (s37l s37c : Nat), r35 = .slice s37a s37l s37c ∧ Calls Tryz.prog 44 #[.slice s37a s37l s37c, .int .i64 2] w36 (ret (fun r38 w39 => ∃ (s40a : Option Addr) (s40l s40c : Nat) (x41 : Int), r38 = .tuple #[.slice s40a s40l s40c, .int .i64 x41] ∧ if (x13 == 0) = true then (if (x23 == 0) = true then (if (x31 == 0) = true then (∃ x42 : Int, rd w39 (⟨w25.heap.size, 0, none⟩ : Addr) (.int .i64 x42) ∧ if (x42 == 12) = true then (Calls Tryz.prog 27 #[.pointer p3] w39 (ret (fun r43 w44 => ∃ (s45a : Option Addr) (s45l s45c : Nat), r43 = .slice s45a s45l s45c ∧ let w46 : World := w44.alloc (.cells #[.string (ByteArray.mk #[115, 110, 97, 112, 45, 49, 50])] 9)
 Calls Tryz.prog 26 #[.slice s45a s45l s45c, .slice (some (⟨w44.heap.size, 0, none⟩ : Addr)) 1 1] w46 (ret (fun r47 w48 => ∃ b49 : Bool, r47 = .bool b49 ∧ if b49 = true then (if (x41 == 0) = true then (if (((s40l : Nat) : Int) == 2) = true then (0 ≤ (1 : Int) ∧ (1 : Int) < ((s40l : Nat) : Int) ∧ ∃ b50, s40a = some b50 ∧ ∃ (s51a : Option Addr) (s51l s51c : Nat), rd w48 (b50.add ((1 : Int).toNat * 1)) (.slice s51a s51l s51c) ∧ runV Tryz.prog (convert 27 9 (.slice s51a s51l s51c)) w48 (fun r52 w53 => ∃ s54 : ByteArray, r52 = .string s54 ∧ R (.returned (.bool (s54.toList == (ByteArray.mk #[3, 2, 99]).toList))) w53) (pan R)) else (R (.returned (.bool false)) w48)) else (R (.returned (.bool false)) w48)) else (R (.returned (.bool false)) w48)) (pan R))) (pan R))) else (R (.returned (.bool false)) w39)) else (R (.returned (.bool false)) w39)) else (R (.returned (.bool false)) w39)) else (R (.returned (.bool false)) w39)) (pan R))) (pan R)) (pan R))) (pan R))) (pan R))) (pan R))) (pan R))) (pan R))
theorem T_q9c_hl : allP (hokL Tryz.prog (hookAt []) (bodyOf Tryz.f11) 1) = (True) := by kernel_rfl
theorem T_q9c_eq  (w : World) (R : RT) : vcCode Tryz.prog (hookAt []) (bodyOf Tryz.f11) 1 ⟨argEnv [] 0, Tryz.f11.ntmps, []⟩ w (finQ Tryz.prog Tryz.f11.results.toList R) = T_q9c  w R := by kernel_rfl
theorem T_q9c_b : Tryz.f11.body = some (bodyOf Tryz.f11) := by kernel_rfl
theorem T_q9c_s : (quietSel (bodyOf Tryz.f11) && Nat.ble 0 Tryz.f11.ntmps) = true := by kernel_rfl
theorem C_q9c  {w : World} {R : RT} (h : T_q9c  w R) : Calls Tryz.prog 11 #[] w R :=
 calls_of_text (args := []) mixed Tryz.func11 T_q9c_b T_q9c_s (HOk_of _ _ (by rw [T_q9c_hl]; exact trivial)) (by rw [T_q9c_eq]; exact h)
end Go.Proofs.YtclinifclfahfaaGreat
namespace Go.Vc
open Go Go.Proofs Go.Proofs.YtclinifclfahfaaGreat
set_option maxRecDepth 100000
section
variable {E w : World} {L : List Asrt} {R : RT}
theorem rune_str {c : Nat} (hc : c < 128) (w : World) : (convert 21 9 (.int .i32 (c : Int))).run Tryz.prog w = .ok (.string (bs [UInt8.ofNat c])) w := by
  have h1 : Tryz.prog.underlying 21 = some (.int .i32) := by kernel_rfl
  have h2 : Tryz.prog.underlying 9 = some .string := by kernel_rfl
  have hv : Utf8.valid (c : Int) = true := by
    unfold Utf8.valid
    simp; omega
  have he : Utf8.encode (c : Int) = bs [UInt8.ofNat c] := by
    unfold Utf8.encode
    rw [if_pos hv, Int.toNat_natCast]
    simp only
    rw [if_pos (by omega)]
    rfl
  simp [convert, run_underlying_ h1, run_underlying_ h2, Conv.intToString, he]
theorem add_str (x y : Operand) (a b : Cm.Bs) (h : a.length + b.length ≤ 1000000000) (w : World) : (do eqGuard .add 9 x y (.string (bs a)) (.string (bs b)); binOp .add 9 (.string (bs a)) (.string (bs b)) : Sem Value).run Tryz.prog w = .ok (.string (bs (a ++ b))) w := by
  have e : (bs a ++ bs b : ByteArray) = bs (a ++ b) := by
    apply ByteArray.ext
    simp [bs]
  have hs : ¬ ((((bs a).size + (bs b).size : Nat) : Int) > IntKind.i64.max) := by
    have h1 : (bs a).size = a.length := rfl
    have h2 : (bs b).size = b.length := rfl
    rw [h1, h2]
    have : IntKind.i64.max = 9223372036854775807 := by decide
    omega
  have hb : (binOp .add 9 (.string (bs a)) (.string (bs b))).run Tryz.prog w = .ok (.string (bs (a ++ b))) w := by
    show (Op.stringOp .add (bs a) (bs b)).run Tryz.prog w = _
    unfold Op.stringOp
    simp only
    rw [if_neg hs, e]
    rfl
  exact hb
theorem name1_spec : ∀ (f n : Nat) (s : Cm.Bs) (X : Int → ByteArray → World → Prop) (w : World) (Kn : ByteArray → World → Prop) (Kp : XT),
    (∀ (n2 : Int) (s3 : ByteArray) (w : World), T_qa7_1_body X n2 s3 w Kn Kp → X n2 s3 w) → n < 10 ^ f → n ≤ 1099511627776 → f + s.length ≤ 1000 → Kn (bs (Sn.digs f n ++ s)) w → X (n : Int) (bs s) w
  | 0, n, s, X, w, Kn, Kp, hX, hn, hb, hl, k => by
    have : n = 0 := by simpa using hn
    subst this
    refine hX _ _ _ ?_
    unfold T_qa7_1_body
    exact ite_d (fun hh => absurd hh (by decide)) fun _ => k
  | f + 1, n, s, X, w, Kn, Kp, hX, hn, hb, hl, k => by
    refine hX _ _ _ ?_
    unfold T_qa7_1_body
    unfold Sn.digs at k
    refine ite_d (fun hh => ?_) fun hh => ?_
    · have h0 : n ≠ 0 := by omega
      rw [if_neg h0, List.append_assoc] at k
      have hn63 : n < 10 ^ (f + 1) := hn
      have e1 : IntKind.wrap .i32 (IntKind.wrap .i64 ((48 : Int) + (Int.tmod (n : Int) 10))) = ((48 + n % 10 : Nat) : Int) := by
        have e : Int.tmod (n : Int) 10 = ((n % 10 : Nat) : Int) := by
          rw [Int.tmod_eq_emod_of_nonneg (by omega)]; omega
        rw [e]
        have h9 : n % 10 < 10 := Nat.mod_lt _ (by decide)
        generalize n % 10 = r at *
        rw [show (48 : Int) + (r : Int) = ((48 + r : Nat) : Int) by omega]
        rw [wrap_id (by omega) (by omega)]
        unfold IntKind.wrap
        have : (IntKind.i32).bits = 32 := rfl
        simp [IntKind.bits, IntKind.signed]
        omega
      rw [e1]
      refine runV_ok (rune_str (by omega) w) ⟨_, rfl, runV_ok (add_str _ _ [UInt8.ofNat (48 + n % 10)] s (by simp; omega) w) ⟨_, rfl, ?_⟩⟩
      have e2 : IntKind.wrap .i64 (Int.tdiv (n : Int) 10) = ((n / 10 : Nat) : Int) := by
        have e : Int.tdiv (n : Int) 10 = ((n / 10 : Nat) : Int) := by
          rw [Int.tdiv_eq_ediv_of_nonneg (by omega)]; omega
        rw [e]
        exact wrap_id (by omega) (by omega)
      rw [e2]
      exact name1_spec f (n / 10) _ X w Kn Kp hX (by rw [Nat.pow_succ] at hn; omega) (by omega) (by simp; omega) k
    · have h0 : n = 0 := by omega
      rw [if_pos h0] at k
      exact k
theorem Name_spec {n : Nat} (hn : n ≤ 1099511627776) (k : R (.returned (.string (bs (Sn.nameOf n)))) w) : Calls Tryz.prog 59 #[.int .i64 (n : Int)] w R := by
  refine C_qa7 ?_
  unfold T_qa7 T_q97
  intro X hX
  refine name1_spec 14 n [] X w _ _ hX (by omega) hn (by decide) ?_
  rw [List.append_nil]
  have hl := (Sn.dec_ok hn).2.1
  exact runV_ok (add_str _ _ Sn.pre (Sn.dec n) (by simp [Sn.pre]; omega) w) ⟨_, rfl, k⟩
theorem bytes_of_str (h : St E L w) (n : Cm.Bs) : ∃ a c w', (convert 9 27 (.string (bs n))).run Tryz.prog w = .ok (.slice (some a) n.length c) w' ∧ St E (roS (some a) n.length 1 (bytesV n) :: L) w' := by
  refine ⟨_, _, _, run_bytes_of_string w 9 27 5 (bs n) (by kernel_rfl) (by kernel_rfl) (by kernel_rfl), ?_⟩
  generalize hg : grownCap w (bs n).size 0 5 = cp
  have h2 := h.drew.alloc (.cells (bytesRow (bs n) cp) 5 ((bytesRow (bs n) cp).size, (bytesRow (bs n) cp).size + 1))
  refine h2.mono fun x hx => ⟨by simp [bytesV], .inr ⟨_, 0, (bytesRow (bs n) cp).toList, _, _, true, rfl, hx, fun i u hu => ?_⟩⟩
  have e : (bytesRow (bs n) cp).toList = bytesV n ++ List.replicate (cp - (bs n).size) (.int .u8 0) := by
    simp [bytesRow, bs, bytesV]
  rw [e, Nat.zero_add, List.getElem?_append_left]
  · exact hu
  · exact (List.getElem?_eq_some_iff.1 hu).1
end
end Go.Vc
namespace Go.Vc
open Go Go.Proofs Go.Proofs.YtclinifclfahfaaGreat
set_option maxRecDepth 100000
section
variable {E w : World} {L : List Asrt} {R : RT} {F G : Fz} {q s o : Sl} {b : Cm.Bs} {qs : List Sl} {rs : List Cm.Bs}
def celR (q : Sl) : List Value := [.slice q.1 q.2.1 q.2.2]
def rowA (o : Sl) (qs : List Sl) : Asrt := ownS o.1 o.2.1 o.2.2 27 1 (qs.flatMap celR)
theorem celR_len (q : Sl) : (celR q).length = 1 := rfl
theorem celR_one (l : List Sl) : ∀ u ∈ l.flatMap celR, one u = true := by
  intro u hu
  obtain ⟨c, _, hc⟩ := List.mem_flatMap.1 hu
  simp [celR] at hc
  subst hc; rfl
theorem St.row_count (h : St E (rowA o qs :: L) w) : qs.length = o.2.1 := h.rdS_own.count celR_len (by decide)
theorem St.row_one (h : St E L w) (q : Sl) : St E (rowA (some ⟨w.heap.size, 0, none⟩, 1, 1) [q] :: L) (w.alloc (.cells ⟨celR q⟩ 27)) :=
  (St.ownS_mk (xs := celR q) (rest := []) (l := 1) (c := 1) (sz := 1) (by rw [List.append_nil]; exact h.alloc _) rfl (Nat.le_refl _) (by decide) rfl :)
theorem app_row (h : St E (rowA o qs :: L) w) (q : Sl) (hb : qs.length + 1 ≤ 1000000) :
    ∃ (o' : Sl) (w' : World), (Builtin.append_ #[60, 60] 60 #[.slice o.1 o.2.1 o.2.2, .slice (some ⟨w.heap.size, 0, none⟩) 1 1]).run Tryz.prog (w.alloc (.cells ⟨celR q⟩ 27)) = .ok (.slice o'.1 o'.2.1 o'.2.2) w' ∧ St E (rowA o' (qs ++ [q]) :: L) w' := by
  have h2 : St E (rowA (some ⟨w.heap.size, 0, none⟩, 1, 1) [q] :: rowA o qs :: L) (w.alloc (.cells ⟨celR q⟩ 27)) := h.row_one q
  have hro : RdS (w.alloc (.cells ⟨celR q⟩ 27)) (some ⟨w.heap.size, 0, none⟩) 1 1 ([q].flatMap celR) := St.rdS_own h2
  have hl : qs.length = o.2.1 := h.row_count
  obtain ⟨a', c', w', hr, hs⟩ := append_own (P := Tryz.prog) (t := 60) (ty := 60) (e := 27) (i := Tryz.t27) (z := .slice none 0 0) (by kernel_rfl) (by kernel_rfl) (by kernel_rfl) (by kernel_rfl) (by decide) (c2 := 1) h2.f1 hro (celR_one [q])
    (by have : Tryz.t27.bytes = 24 := by kernel_rfl
        rw [this]; omega) (by unfold maxLen; omega)
  rw [show Tryz.t27.size = 1 from by kernel_rfl, ← List.flatMap_append] at hs
  exact ⟨(a', o.2.1 + 1, c'), w', hr, hs.f1.drop⟩
inductive Rows (G : Fz) : List Sl → List Cm.Bs → Prop
  | nil : Rows G [] []
  | snoc {qs : List Sl} {rs : List Cm.Bs} {q : Sl} {b : Cm.Bs} : Rows G qs rs → Src G q b → Rows G (qs ++ [q]) (rs ++ [b])
theorem Rows.mono (h : Rows F qs rs) (k : Fz.le F G) : Rows G qs rs := by
  induction h with
  | nil => exact .nil
  | snoc _ h2 ih => exact .snoc ih (h2.mono k)
theorem Rows.len (h : Rows F qs rs) : qs.length = rs.length := by
  induction h with
  | nil => rfl
  | snoc _ _ ih => simp [ih]
theorem Rows.get (h : Rows F qs rs) {i : Nat} {q : Sl} {b : Cm.Bs} (h1 : qs[i]? = some q) (h2 : rs[i]? = some b) : Src F q b := by
  induction h with
  | nil => simp at h1
  | snoc hr hs ih =>
    have hl := hr.len
    rename_i qs' rs' q' b'
    rcases Nat.lt_trichotomy i qs'.length with hi | hi | hi
    · rw [List.getElem?_append_left hi] at h1
      rw [List.getElem?_append_left (by omega)] at h2
      exact ih h1 h2
    · subst hi
      rw [List.getElem?_append_right (by omega)] at h1
      rw [List.getElem?_append_right (by omega), hl] at h2
      simp at h1 h2
      subst h1 h2
      exact hs
    · rw [List.getElem?_eq_none (by simp; omega)] at h1
      cases h1
theorem pGo_end (b : Cm.Bs) (size : Nat) : ∀ (f x : Nat), b.length ≤ x → Sn.piecesGo b size f x = []
  | 0, _, _ => rfl
  | f + 1, x, h => by unfold Sn.piecesGo; rw [if_pos h]
theorem pGo_step {size f x : Nat} (hx : x < b.length) (hf : b.length - x ≤ f) : Sn.piecesGo b size f x = Sn.piece b x size :: Sn.piecesGo b size (f - 1) (min (x + size) b.length) := by
  cases f with
  | zero => omega
  | succ f =>
    conv => lhs; unfold Sn.piecesGo
    rw [if_neg (by omega), Nat.add_sub_cancel]
    congr 1
    rcases Nat.le_total (x + size) b.length with h | h
    · rw [Nat.min_eq_left h]
    · rw [Nat.min_eq_right h, pGo_end b size f _ h, pGo_end b size f _ (Nat.le_refl _)]
theorem piece_min (x size n : Nat) (h : n = min size (b.length - x)) : Sn.piece b x size = (Cm.num b.length ++ Cm.num x) ++ (b.drop x).take n := by
  unfold Sn.piece
  rw [List.append_assoc, h]
  congr 2
  have e2 : (b.drop x).take (b.length - x) = b.drop x := List.take_of_length_le (by simp)
  rw [← List.take_take, e2]
theorem piece_one {x n : Nat} {KK : Option Addr → Nat → Nat → World → Prop} {Kp : XT} (hs : Src F q b) (hb : b.length ≤ 32768) (hx : x + n ≤ b.length) (h : St E (kn F :: L) w)
    (k : ∀ (G : Fz) (w' : World) (p : Sl), Fz.le F G → Src G p ((Cm.num b.length ++ Cm.num x) ++ (b.drop x).take n) → St E (kn G :: L) w' → KK p.1 p.2.1 p.2.2 w') :
    Calls Tryz.prog 40 #[.slice none 0 0, .int .i64 ((q.2.1 : Nat) : Int)] w (ret (fun r19 w20 => ∃ s21a : Option Addr, ∃ s21l : Nat, ∃ s21c : Nat, r19 = .slice s21a s21l s21c ∧ (True) ∧ Calls Tryz.prog 40 #[.slice s21a s21l s21c, .int .i64 (x : Int)] w20 (ret (fun r22 w23 => ∃ s24a : Option Addr, ∃ s24l : Nat, ∃ s24c : Nat, r22 = .slice s24a s24l s24c ∧ (True) ∧ runV Tryz.prog (Builtin.append_ #[27, 27] 27 #[.slice s24a s24l s24c, .slice (midS q x n).1 (midS q x n).2.1 (midS q x n).2.2]) w23 (fun r25 w26 => ∃ s27a : Option Addr, ∃ s27l : Nat, ∃ s27c : Nat, r25 = .slice s27a s27l s27c ∧ (True) ∧ KK s27a s27l s27c w26) Kp) Kp)) Kp) := by
  have hl := hs.len
  rw [← hl]
  have n6 := fun x => Sn.numLen x
  have hbig : big = 140737488355328 := rfl
  refine Snum_spec (p := (none, 0, 0)) (xs := []) (by decide) h.by_nil fun w1 p1 h1 => ⟨_, _, _, rfl, trivial, ?_⟩
  rw [List.nil_append] at h1
  refine Snum_spec (p := p1) (xs := Cm.num b.length) (by have := n6 b.length; omega) h1 fun w2 p2 h2 => ⟨_, _, _, rfl, trivial, ?_⟩
  have hm := hs.mid hx
  have hml : ((b.drop x).take n).length ≤ 32768 := by rw [List.length_take, List.length_drop]; omega
  have hxl := n6 b.length
  have hyl := n6 x
  obtain ⟨p3, w3, hr, h3⟩ := app_b (c2 := (midS q x n).2.2) h2 (hm.rd.at h2 (by simp)) (by rw [List.length_append]; omega)
  refine runV_ok hr ⟨_, _, _, rfl, trivial, ?_⟩
  obtain ⟨G, hG, h4, hs4⟩ := St.srcB2 h3 (by rw [List.length_append, List.length_append]; omega)
  exact k G w3 p3 hG hs4 h4
def piecesR (b : Cm.Bs) (size : Int) : List Cm.Bs := if Sn.piecesE b size = 0 then Sn.pieces b size.toNat else []
set_option maxHeartbeats 1000000 in
theorem Pieces_spec {size : Int} (hs : Src F q b) (h64 : size ≤ 9223372036854775807) (h : St E (kn F :: L) w)
    (k : ∀ (G : Fz) (w' : World) (o : Sl) (qs : List Sl), Fz.le F G → Rows G qs (piecesR b size) → St E (rowA o qs :: kn G :: L) w' → R (.returned (.tuple #[.slice o.1 o.2.1 o.2.2, .int .i64 (Sn.piecesE b size)])) w') :
    Calls Tryz.prog 44 #[.slice q.1 q.2.1 q.2.2, .int .i64 size] w R := by
  have hl := hs.len
  have hc := hs.cap
  refine C_q94 ?_
  unfold T_q94
  refine ite_d (fun hh => ?_) fun hh => ?_
  · have e : Sn.piecesE b size = 2 := by unfold Sn.piecesE; rw [if_pos hh]
    have := k F w nilS [] (Fz.le_refl F) (by unfold piecesR; rw [e, if_neg (by decide)]; exact .nil) h.ownS_nil
    rw [e] at this
    exact this
  refine ite_d (fun h2 => ?_) fun h2 => ?_
  · have e : Sn.piecesE b size = 6 := by unfold Sn.piecesE; rw [if_neg hh, if_pos (by omega)]
    have := k F w nilS [] (Fz.le_refl F) (by unfold piecesR; rw [e, if_neg (by decide)]; exact .nil) h.ownS_nil
    rw [e] at this
    exact this
  have e : Sn.piecesE b size = 0 := by unfold Sn.piecesE; rw [if_neg hh, if_neg (by omega)]
  have eR : piecesR b size = Sn.piece b 0 size.toNat :: Sn.piecesGo b size.toNat b.length size.toNat := by unfold piecesR; rw [e, if_pos rfl]; rfl
  rw [eR, e] at k
  obtain ⟨sz, rfl⟩ : ∃ sz : Nat, size = (sz : Int) := ⟨size.toNat, by omega⟩
  rw [Int.toNat_natCast] at k
  have hsz : 1 ≤ sz := by omega
  have emin : (if ((q.2.1 : Nat) : Int) < (sz : Int) then ((q.2.1 : Nat) : Int) else (sz : Int)) = ((min sz b.length : Nat) : Int) := by split <;> omega
  intro w3
  have h3 : St E (kn F :: L) w3 := h.drew
  clear_value w3
  rw [emin]
  refine ⟨by omega, by omega, ?_⟩
  rw [Int.toNat_natCast]
  have e0 : (if q.2.2 = 0 then q.1 else q.1.map (fun x => x.add (0 * 1))) = (midS q 0 (min sz b.length)).1 := rfl
  have e1 : min sz b.length - 0 = (midS q 0 (min sz b.length)).2.1 := by unfold midS; simp only; omega
  rw [e1]
  refine piece_one (x := 0) (n := min sz b.length) hs (by omega) (by omega) h3 fun G1 w11 p hG1 hp h11 => ?_
  intro w13
  have h13 : St E (rowA (some ⟨w11.heap.size, 0, none⟩, 1, 1) [p] :: kn G1 :: L) w13 := h11.row_one p
  clear_value w13
  generalize w11.heap.size = bo at *
  refine ⟨trivial, ?_⟩
  rw [← piece_min 0 sz (min sz b.length) (by omega)] at hp
  unfold T_q7w
  intro X hX
  have hgo : ∀ (f x : Nat) (w : World) (G : Fz) (o : Sl) (qs : List Sl) (rs : List Cm.Bs), x ≤ b.length → b.length - x ≤ f → 1 ≤ qs.length → qs.length ≤ 1 + x → Fz.le F G → Rows G qs rs → rs ++ Sn.piecesGo b sz f x = Sn.piece b 0 sz :: Sn.piecesGo b sz b.length sz →
      St E (rowA o qs :: kn G :: L) w → X o.1 o.2.1 o.2.2 (x : Int) w := by
    intro f
    induction f with
    | zero =>
      intro x w G o qs rs hx hf h1 hq hG hr he h
      refine hX _ _ _ _ _ ?_
      unfold T_q94_1_body
      refine ite_d (fun hh => absurd hh (by omega)) fun _ => ?_
      rw [show Sn.piecesGo b sz 0 x = [] from rfl, List.append_nil] at he
      exact k G w o qs hG (he ▸ hr) h
    | succ f ih =>
      intro x w G o qs rs hx hf h1 hq hG hr he h
      refine hX _ _ _ _ _ ?_
      unfold T_q94_1_body
      refine ite_d (fun hh => ?_) fun hh => ?_
      · have hxb : x < b.length := by omega
        have em : (IntKind.wrap .i64 ((x : Int) + (if (IntKind.wrap .i64 (((q.2.1 : Nat) : Int) - (x : Int))) < (sz : Int) then (IntKind.wrap .i64 (((q.2.1 : Nat) : Int) - (x : Int))) else (sz : Int)))) = ((x + min sz (b.length - x) : Nat) : Int) := by
          rw [wrap_id (x := ((q.2.1 : Nat) : Int) - (x : Int)) (by omega) (by omega)]
          split
          · rw [wrap_id (by omega) (by omega)]; omega
          · rw [wrap_id (by omega) (by omega)]; omega
        rw [em]
        intro w18
        have h18 : St E (kn G :: rowA o qs :: L) w18 := h.drew.f1
        clear_value w18
        refine ⟨by omega, by omega, by omega, by rw [Int.toNat_natCast]; omega, ?_⟩
        simp -zeta only [Int.toNat_natCast]
        refine piece_one (x := x) (n := min sz (b.length - x)) (hs.mono hG) (by omega) (by omega) h18 fun G2 w26 p hG2 hp h26 => ?_
        rw [← piece_min x sz _ rfl] at hp
        intro w28
        obtain ⟨o', w30, hr30, h30⟩ := app_row h26.f1 p (by omega)
        refine ⟨trivial, runV_ok hr30 ⟨_, _, _, rfl, trivial, ?_⟩⟩
        have e2 := pGo_step (size := sz) (f := f + 1) hxb hf
        rw [e2, Nat.add_sub_cancel] at he
        have e3 : x + min sz (b.length - x) = min (x + sz) b.length := by omega
        rw [e3]
        refine ih (min (x + sz) b.length) w30 G2 o' (qs ++ [p]) (rs ++ [Sn.piece b x sz]) (by omega) (by omega) (by simp) (by simp; omega) (Fz.le_trans hG hG2) (.snoc (hr.mono hG2) hp) ?_ h30
        rw [List.append_assoc]
        exact he
      · have hxe : b.length ≤ x := by omega
        rw [pGo_end b sz _ _ hxe, List.append_nil] at he
        exact k G w o qs hG (he ▸ hr) h
  refine hgo b.length (min sz b.length) w13 G1 (some ⟨bo, 0, none⟩, 1, 1) [p] [Sn.piece b 0 sz] (by omega) (by omega) (Nat.le_refl _) (by simp) hG1 (.snoc .nil hp) ?_ h13
  rw [List.singleton_append]
  congr 1
  rcases Nat.le_total sz b.length with h | h
  · rw [Nat.min_eq_left h]
  · rw [Nat.min_eq_right h, pGo_end b sz _ _ h, pGo_end b sz _ _ (Nat.le_refl _)]
end
end Go.Vc
namespace Go.Vc
open Go Go.Proofs Go.Proofs.YtclinifclfahfaaGreat
set_option maxRecDepth 100000
section
variable {E w : World} {L : List Asrt} {R : RT} {F G : Fz} {q p s o : Sl} {b : Cm.Bs}
theorem conv_lit {b l c : Nat} {ys : Cm.Bs} (h : St E (blkL b 5 (bytesV ys) :: kn F :: L) w) (hl : ys.length = l) (hc : l ≤ c) (hb : l ≤ 1000) :
    ∃ G w', (convert 27 27 (.slice (some ⟨b, 0, none⟩) l c)).run Tryz.prog w = .ok (.slice (some ⟨b, 0, none⟩) l c) w' ∧ Fz.le F G ∧ Src G (some ⟨b, 0, none⟩, l, c) ys ∧ St E (kn G :: L) w' := by
  have hb0 := h.at_blk
  have hlt : b < w.heap.size := (Array.getElem?_eq_some_iff.1 hb0).1
  have ht : Tryz.prog.underlying 27 = some (.slice 5) := by kernel_rfl
  have he : Tryz.prog.underlying 5 = some (.int .u8) := by kernel_rfl
  have h2 : St E (blk b (.cells ⟨bytesV ys⟩ 5 ((bytesV ys).length, (bytesV ys).length + 1)) :: kn F :: L) (w.freeze ⟨b, (bytesV ys).length, none⟩ 1) := by
    refine h.upd ⟨rfl, rfl, rfl⟩ ?_ fun c hc _ => ?_
    · simp [World.freeze, Array.getElem?_modify, hb0]
    · unfold World.freeze
      rw [if_neg (by omega)]
      show (w.heap.modify b _)[c]? = _
      rw [Array.getElem?_modify, if_neg (Ne.symm hc)]
  obtain ⟨hle, h3⟩ := h2.learn
  refine ⟨_, w.freeze ⟨b, (bytesV ys).length, none⟩ 1, ?_, hle, ⟨fun w' hw => ⟨by simp [bytesV, hl], .inr ⟨b, 0, rfl, fun i u hu => ?_⟩⟩, hl, hc, by omega⟩, h3⟩
  · simp [convert, run_underlying_ ht, run_underlying_ he, markStringish, shape, Sem.run, World.shape?, hb0]
  · have hb := hw b (.cells ⟨bytesV ys⟩ 5 ((bytesV ys).length, (bytesV ys).length + 1)) (by simp [Fz.put])
    rw [Nat.zero_add, cell_of hb]
    exact hu
def ofS (i : Int) : Sn.Snp := ⟨i, 1, ⟨[1], []⟩, [120]⟩
theorem Of_spec {i : Int} (h : St E (kn F :: L) w) (k : ∀ (G : Fz) (w' : World) (v l d : Sl), Fz.le F G → snpR G v l d (ofS i) → St E (kn G :: L) w' → R (.returned (snpV i 1 v l d)) w') : Calls Tryz.prog 31 #[.int .i64 i] w R := by
  refine C_qaa ?_
  unfold T_qaa
  intro w2 w3 w4
  have h3 : St E (inA (some ⟨w2.heap.size, 0, none⟩, 1, 1) [1] :: blkL w.heap.size 29 z5 :: kn F :: L) w3 := (h.alloc (.cells ⟨z5⟩ 29)).in_one 1
  have h4 : St E (blkL w3.heap.size 5 (bytesV [120]) :: kn F :: inA (some ⟨w2.heap.size, 0, none⟩, 1, 1) [1] :: blkL w.heap.size 29 z5 :: L) w4 := (h3.alloc (.cells ⟨bytesV [120]⟩ 5)).sel 4 [0, 3, 1, 2] (by simp)
  clear_value w4
  generalize w3.heap.size = b3 at *
  generalize w2.heap.size = b2 at *
  generalize w.heap.size = b1 at *
  obtain ⟨G, w6, hr, hG, hs, h6⟩ := conv_lit (l := 1) (c := 1) h4 rfl (Nat.le_refl 1) (by decide)
  refine runV_ok hr ⟨_, _, _, rfl, rfl, ?_⟩
  have h7 : St E (inA (some ⟨b2, 0, none⟩, 1, 1) [1] :: kn G :: blkL b1 29 z5 :: L) w6 := h6.f1
  obtain ⟨G2, hG2, h8, hv⟩ := St.freezeS h7
  have h9 : St E (blkL b1 29 z5 :: kn G2 :: L) w6 := h8.f1
  refine ⟨ok_snp h9 rfl i 1 (some ⟨b2, 0, none⟩, 1, 1) nilS (some ⟨b3, 0, none⟩, 1, 1), ?_⟩
  intro w8
  have h10 : St E (blkL b1 29 (snpL i 1 (some ⟨b2, 0, none⟩, 1, 1) nilS (some ⟨b3, 0, none⟩, 1, 1)) :: kn G2 :: L) w8 := h9.wr_snp rfl _ _ _ _ _
  clear_value w8
  exact ⟨_, _, _, _, _, _, _, _, _, _, _, rd_snp h10, k G2 w8 _ _ _ (Fz.le_trans hG hG2) ⟨⟨hv, RdF.nil G2 none⟩, hs.mono hG2⟩ h10.drop⟩
theorem one_at {a : Option Addr} {l j : Nat} {α : Type} {f : α → Value} {qs : List α} (hf : ∀ q, one (f q) = true) (h : RdS w a l 1 (qs.flatMap fun q => [f q])) (hj : j < qs.length) : ∃ ad, a = some ad ∧ rd w (ad.add (j * 1)) (f qs[j]) := by
  obtain ⟨ad, ha, _, hk⟩ := h.elem (f := fun q => [f q]) (fun _ => rfl) (List.getElem?_eq_getElem hj) (by decide)
  refine ⟨ad, ha, ?_⟩
  have := hk 0 _ rfl (hf _)
  have e : (ad.add (j * 1)).add 0 = ad.add (j * 1) := rfl
  rwa [e] at this
theorem SameTexts_spec {xs ys : List Cm.Bs} {a c : Sl} (ha : a.2.1 = xs.length) (hc : c.2.1 = ys.length) (hm : xs.length ≤ 1000000) (sa : Sees E L a.1 a.2.1 1 (xs.flatMap celS)) (sc : Sees E L c.1 c.2.1 1 (ys.flatMap celS)) (h : St E L w)
    (k : ∀ w', St E L w' → R (.returned (.bool (decide (xs = ys)))) w') : Calls Tryz.prog 26 #[.slice a.1 a.2.1 a.2.2, .slice c.1 c.2.1 c.2.2] w R := by
  refine C_q6e ?_
  unfold T_q6e
  rw [ha, hc]
  refine ite_b (fun hh => ?_) fun hh => ?_
  · have hne : xs.length ≠ ys.length := by
      have : ¬ ((xs.length : Int) = (ys.length : Int)) := by simpa using hh
      omega
    have := k w h
    rw [decide_eq_false (fun e => hne (congrArg List.length e))] at this
    exact this
  have heq : xs.length = ys.length := by
    have : ((xs.length : Int) = (ys.length : Int)) := by simpa using hh
    omega
  unfold T_q4i
  intro X hX
  refine up_to xs.length (Q := fun j => ∀ (w : World), xs.take j = ys.take j → St E L w → X (j : Int) w) ?_ w rfl h
  intro j hj ih w he h
  refine hX _ _ ?_
  unfold T_q6e_1_body
  refine ite_d (fun hl => ?_) fun hl => ?_
  · have hjl : j < xs.length := by omega
    intro w6
    have h6 : St E L w6 := h.drew
    clear_value w6
    have hjl2 : j < ys.length := by omega
    obtain ⟨a1, hae, hard⟩ := one_at (f := encN) (fun _ => rfl) (sa w6 h6) hjl
    obtain ⟨c1, hce, hcrd⟩ := one_at (f := encN) (fun _ => rfl) (sc w6 h6) hjl2
    refine ⟨by omega, by omega, a1, hae, _, hard, by omega, by omega, c1, hce, _, hcrd, ?_⟩
    show ite ((!((bs xs[j]).toList == (bs ys[j]).toList)) = true) _ _
    rw [bs_beq]
    refine ite_b (fun hb => ?_) fun hb => ?_
    · have hne : xs[j] ≠ ys[j] := by simpa using hb
      have := k w6 h6
      rw [decide_eq_false (fun e => hne (by subst e; rfl))] at this
      exact this
    · have heq2 : xs[j] = ys[j] := by simpa using hb
      rw [succ_big (by unfold big; omega)]
      refine ih hjl w6 ?_ h6
      rw [List.take_succ_eq_append_getElem hjl, List.take_succ_eq_append_getElem hjl2, he, heq2]
  · have : j = xs.length := by omega
    subst this
    have := k w h
    rw [List.take_length, heq, List.take_length] at he
    rw [decide_eq_true he] at this
    exact this
end
end Go.Vc
namespace Go.Vc
open Go Go.Proofs Go.Proofs.YtclinifclfahfaaGreat
set_option maxRecDepth 100000
abbrev Ix := {n : Nat // n ≤ 1099511627776}
instance : Inhabited Ix := ⟨⟨0, Nat.zero_le _⟩⟩
def celX (x : Ix) : List Value := [encN (Sn.nameOf x.1), .int .i64 (x.1 : Int)]
theorem celX_len (x : Ix) : (celX x).length = 2 := rfl
theorem celX_one (l : List Ix) : ∀ u ∈ l.flatMap celX, one u = true := by
  intro u hu
  obtain ⟨c, _, hc⟩ := List.mem_flatMap.1 hu
  simp [celX] at hc
  rcases hc with rfl | rfl <;> rfl
section
variable {P : Program} {t : TypeId} {w : World}
theorem equal_strint {f0 f1 : Field} (hu : P.underlying t = some (.struct #[f0, f1])) (h0 : P.underlying f0.type = some .string) (h1 : P.underlying f1.type = some (.int .i64))
    (hn0 : f0.name ≠ "_") (hn1 : f1.name ≠ "_") (ho0 : f0.offset = 0) (ho1 : f1.offset = 1) (hst : P.stoodInHeld t = false) (a1 b1 : ByteArray) (a2 b2 : Int) :
    (Op.equal t (.agg #[.string a1, .int .i64 a2]) (.agg #[.string b1, .int .i64 b2])).run P w = .ok (decide (a1 = b1) && decide (a2 = b2)) w := by
  have e0 : ∀ x y : ByteArray, (Op.equalIn 9999 f0.type (.string x) (.string y)).run P w = .ok (x == y) w := fun x y => equalIn_string (P := P) h0 x y 9998 w
  have e1 : ∀ x y : Int, (Op.equalIn 9999 f1.type (.int .i64 x) (.int .i64 y)).run P w = .ok (x == y) w := fun x y => equalIn_int (P := P) h1 x y 9998 w
  have hag : aggT P f0.type = false := by simp [aggT, h0]
  have hag1 : aggT P f1.type = false := by simp [aggT, h1]
  have hp0 : ∀ x y : Value, (part f0.type #[x, y] f0.offset).run P w = .ok x w := fun x y => by simp [part, run_isAgg h0, hag, ho0]
  have hp1 : ∀ x y : Value, (part f1.type #[x, y] f1.offset).run P w = .ok y w := fun x y => by simp [part, run_isAgg h1, hag1, ho1]
  show (Op.equalIn (9999 + 1) t _ _).run P w = _
  unfold Op.equalIn
  simp only [Sem.run_bind, run_underlying_ hu, Result.andThen_ok, program, Sem.run, hst]
  by_cases ha : a1 = b1
  · by_cases hb : a2 = b2
    · simp [hn0, hn1, hp0, hp1, e0, e1, ha, hb, bytes_beq]
    · simp [hn0, hn1, hp0, hp1, e0, e1, ha, hb, bytes_beq]
  · simp [hn0, hp0, e0, ha, bytes_beq]
end
section
variable {E w : World} {L : List Asrt} {R : RT} {F G : Fz} {q p s o : Sl} {b : Cm.Bs}
theorem file_eq (x y : Operand) (a c : Cm.Bs) (b d : Int) (w : World) : (do eqGuard .eql 97 x y (.agg #[.string (bs a), .int .i64 b]) (.agg #[.string (bs c), .int .i64 d]); binOp .eql 97 (.agg #[.string (bs a), .int .i64 b]) (.agg #[.string (bs c), .int .i64 d]) : Sem Value).run Tryz.prog w = .ok (.bool (decide (a = c) && decide (b = d))) w := by
  have h := run_eq_agg (P := Tryz.prog) (t := 97) (w := w) (x := x) (y := y) (a := #[.string (bs a), .int .i64 b]) (b := #[.string (bs c), .int .i64 d]) (by kernel_rfl)
    (equal_strint (f0 := ⟨ "name", 9, 0, false, "", "tollgate/snap", 0⟩) (f1 := ⟨ "index", 3, 1, false, "", "tollgate/snap", 16⟩) (by kernel_rfl) (by kernel_rfl) (by kernel_rfl) (by decide) (by decide) rfl rfl (by kernel_rfl) (bs a) (bs c) b d)
  have e : decide (bs a = bs c) = decide (a = c) := decide_eq_decide.2 ⟨bs_inj, congrArg bs⟩
  rw [e] at h
  exact h
theorem bs_extract (s : Cm.Bs) (a b : Nat) : (bs s).extract a b = bs ((s.take b).drop a) := by
  apply ByteArray.ext
  simp [bs, List.drop_take]
theorem files3 {s : Cm.Bs} {K : Bool → World → Prop} {Kp : XT} (k : K (!(decide (6 ≤ s.length ∧ s.length ≤ 18) && decide (s.take 5 = Sn.pre))) w) : T_q8k (bs s) w K Kp := by
  unfold T_q8k
  have hz : (bs s).size = s.length := rfl
  rw [hz]
  refine ite_d (fun hh => ?_) fun hh => ite_d (fun h2 => ?_) fun h2 => ?_
  · rw [decide_eq_false (by omega)] at k; exact k
  · rw [decide_eq_false (by omega)] at k; exact k
  · rw [decide_eq_true (by omega), Bool.true_and] at k
    refine ⟨by omega, by omega, ?_⟩
    have e : (bs s).extract 0 ((5 : Int).toNat) = bs (s.take 5) := bs_extract s 0 5
    rw [e]
    have e2 : ((bs (s.take 5)).toList == (bs Sn.pre).toList) = decide (s.take 5 = Sn.pre) := bs_beq _ _
    have e3 : ByteArray.mk #[115, 110, 97, 112, 45] = bs Sn.pre := rfl
    rw [e3, e2]
    exact k
theorem val_take {ds : Cm.Bs} {j : Nat} (h : j < ds.length) : Sn.val (ds.take (j + 1)) = 10 * Sn.val (ds.take j) + (ds[j].toNat - 48) := by
  rw [List.take_succ_eq_append_getElem h, Sn.val_snoc]
theorem val_small {ds : Cm.Bs} (ha : ds.all Sn.isDig = true) (hl : ds.length ≤ 13) : Sn.val ds < 10 ^ 13 := by
  have h := Sn.val_lt ds ha 0
  have : 10 ^ ds.length ≤ 10 ^ 13 := Nat.pow_le_pow_right (by decide) hl
  unfold Sn.val
  omega
theorem files4 {ds : Cm.Bs} {a : Option Addr} {c : Nat} {Ke : World → Prop} {Kn : Int → World → Prop} {Kp : XT} (hl : ds.length ≤ 13) (hr : RdS w a ds.length 1 (bytesV ds))
    (kN : ds.all Sn.isDig = true → Kn (Sn.val ds : Int) w) (kE : ds.all Sn.isDig = false → Ke w) : T_q8l 0 0 a ds.length c ((ds.length : Nat) : Int) w Ke Kn Kp := by
  unfold T_q8l
  intro X hX
  refine up_to ds.length (Q := fun j => (ds.take j).all Sn.isDig = true → X (Sn.val (ds.take j) : Int) (j : Int) w) ?_ rfl
  intro j hj ih ha
  refine hX _ _ _ ?_
  unfold T_q9q_4_body
  refine ite_d (fun hh => ?_) fun hh => ?_
  · have hjl : j < ds.length := by omega
    obtain ⟨ad, hae, hrd⟩ := one_at (f := fun x : UInt8 => Value.int .u8 (x.toNat : Int)) (qs := ds) (fun _ => rfl) (by rw [← List.map_eq_flatMap]; exact hr) hjl
    refine ⟨by omega, by omega, ad, hae, _, hrd, ?_⟩
    unfold T_q8m
    have hc : ds[j].toNat < 256 := ds[j].toNat_lt
    have hv := val_take hjl
    have hall : (ds.take (j + 1)).all Sn.isDig = ((ds.take j).all Sn.isDig && Sn.isDig ds[j]) := by
      rw [List.take_succ_eq_append_getElem hjl, List.all_append]; simp
    have bad : Sn.isDig ds[j] = false → Ke w := fun hb => kE (by
      cases hA : ds.all Sn.isDig with
      | false => rfl
      | true => rw [List.all_eq_true] at hA; rw [hA _ (List.getElem_mem hjl)] at hb; cases hb)
    refine ite_d (fun h1 => ?_) fun h1 => ?_
    · refine ite_b (fun _ => bad ?_) fun hb => by cases hb
      unfold Sn.isDig; exact decide_eq_false (by omega)
    refine ite_d (fun h2 => bad ?_) fun h2 => ?_
    · unfold Sn.isDig; exact decide_eq_false (by omega)
    have hd : Sn.isDig ds[j] = true := by unfold Sn.isDig; exact decide_eq_true (by omega)
    have hsm := val_small ha (by rw [List.length_take]; omega)
    have hA2 : (ds.take (j + 1)).all Sn.isDig = true := by rw [hall, ha, hd]; rfl
    have e1 : IntKind.wrap .u8 (((ds[j].toNat : Nat) : Int) - 48) = ((ds[j].toNat - 48 : Nat) : Int) := by
      unfold IntKind.wrap
      simp [IntKind.signed, IntKind.bits]
      omega
    rw [e1, wrap_id (x := ((ds[j].toNat - 48 : Nat) : Int)) (by omega) (by omega), wrap_id (x := 10 * ((Sn.val (ds.take j) : Nat) : Int)) (by omega) (by omega), wrap_id (by omega) (by omega), succ_big (by unfold big; omega)]
    have := ih hjl hA2
    rw [hv] at this
    have e2 : ((10 * Sn.val (ds.take j) + (ds[j].toNat - 48) : Nat) : Int) = 10 * ((Sn.val (ds.take j) : Nat) : Int) + ((ds[j].toNat - 48 : Nat) : Int) := by omega
    rw [e2] at this
    exact this
  · have : j = ds.length := by omega
    subst this
    rw [List.take_length] at ha ⊢
    exact kN ha
theorem app_fi {xs : List Ix} (h : St E (ownS o.1 o.2.1 o.2.2 97 2 (xs.flatMap celX) :: L) w) (x : Ix) (hb : xs.length + 1 ≤ 1000000) :
    ∃ (o' : Sl) (w' : World), (Builtin.append_ #[94, 94] 94 #[.slice o.1 o.2.1 o.2.2, .slice (some ⟨w.heap.size, 0, none⟩) 1 1]).run Tryz.prog (w.alloc (.cells ⟨celX x⟩ 97)) = .ok (.slice o'.1 o'.2.1 o'.2.2) w' ∧ St E (ownS o'.1 o'.2.1 o'.2.2 97 2 ((xs ++ [x]).flatMap celX) :: L) w' := by
  have h2 : St E (ownS (some ⟨w.heap.size, 0, none⟩) 1 1 97 2 ([x].flatMap celX) :: ownS o.1 o.2.1 o.2.2 97 2 (xs.flatMap celX) :: L) (w.alloc (.cells ⟨celX x⟩ 97)) :=
    (St.ownS_mk (xs := celX x) (rest := []) (l := 1) (c := 1) (sz := 2) (by rw [List.append_nil]; exact h.alloc _) rfl (Nat.le_refl _) (by decide) rfl :)
  have hro : RdS (w.alloc (.cells ⟨celX x⟩ 97)) (some ⟨w.heap.size, 0, none⟩) 1 2 ([x].flatMap celX) := St.rdS_own h2
  have hl : xs.length = o.2.1 := h.rdS_own.count celX_len (by decide)
  obtain ⟨a', c', w', hr, hs⟩ := append_own (P := Tryz.prog) (t := 94) (ty := 94) (e := 97) (i := Tryz.t97) (z := .agg #[.string ⟨#[]⟩, .int .i64 0]) (by kernel_rfl) (by kernel_rfl) (by kernel_rfl) (by kernel_rfl) (by decide) (c2 := 1) h2.f1 hro (celX_one [x])
    (by have : Tryz.t97.bytes = 24 := by kernel_rfl
        rw [this]; omega) (by unfold maxLen; omega)
  rw [show Tryz.t97.size = 2 from by kernel_rfl, ← List.flatMap_append] at hs
  exact ⟨(a', o.2.1 + 1, c'), w', hr, hs.f1.drop⟩
def numsN (ns : List Cm.Bs) : List Nat := (ns.map Sn.numbered).filter fun k => decide (0 < k)
theorem numsN_succ {ns : List Cm.Bs} {j : Nat} (h : j < ns.length) : numsN (ns.take (j + 1)) = numsN (ns.take j) ++ (if 0 < Sn.numbered ns[j] then [Sn.numbered ns[j]] else []) := by
  unfold numsN
  rw [List.take_succ_eq_append_getElem h, List.map_append, List.filter_append]
  congr 1
  by_cases h0 : 0 < Sn.numbered ns[j]
  · rw [if_pos h0]; simp [h0]
  · rw [if_neg h0]; simp [h0]
set_option maxHeartbeats 2000000 in
theorem files_loop {ns : List Cm.Bs} {s : Sl} {L : List Asrt} {K : Option Addr → Nat → Nat → World → Prop} {Kp : XT} (hn : ns.length ≤ 1000) (hl : s.2.1 = ns.length) (h : St E (ownS s.1 s.2.1 s.2.2 9 1 (ns.flatMap fun x => [encN x]) :: L) w)
    (k : ∀ (w' : World) (o : Sl) (xs : List Ix), xs.map (·.1) = numsN ns → St E (ownS o.1 o.2.1 o.2.2 97 2 (xs.flatMap celX) :: L) w' → K o.1 o.2.1 o.2.2 w') : T_q8j none 0 0 0 s.1 s.2.1 s.2.2 ((s.2.1 : Nat) : Int) w K Kp := by
  unfold T_q8j
  intro X hX
  refine up_to ns.length (Q := fun j => ∀ (w : World) (o : Sl) (xs : List Ix), xs.map (·.1) = numsN (ns.take j) → St E (ownS o.1 o.2.1 o.2.2 97 2 (xs.flatMap celX) :: ownS s.1 s.2.1 s.2.2 9 1 (ns.flatMap fun x => [encN x]) :: L) w → X o.1 o.2.1 o.2.2 (j : Int) w) ?_ w nilS [] rfl h.ownS_nil
  intro j hj ih w o xs hxs h
  refine hX _ _ _ _ _ ?_
  unfold T_q9q_2_body
  rw [hl]
  refine ite_d (fun hh => ?_) fun hh => ?_
  · have hjl : j < ns.length := by omega
    obtain ⟨ad, hae, hrd⟩ := one_at (f := encN) (fun _ => rfl) h.f1.rdS_own hjl
    refine ⟨by omega, by omega, ad, hae, _, hrd, ?_⟩
    have ihj := ih hjl
    rw [numsN_succ hjl] at ihj
    have hxl : xs.length ≤ 1000 := by
      have h1 : xs.length = (numsN (ns.take j)).length := by rw [← hxs, List.length_map]
      have h2 : (numsN (ns.take j)).length ≤ (ns.take j).length := by unfold numsN; exact Nat.le_trans (List.length_filter_le ..) (by simp)
      rw [List.length_take] at h2
      omega
    generalize hnj : ns[j] = nm at *
    clear ih hX hrd
    have next : ∀ {w : World}, Sn.numbered nm = 0 → St E (ownS o.1 o.2.1 o.2.2 97 2 (xs.flatMap celX) :: ownS s.1 s.2.1 s.2.2 9 1 (ns.flatMap fun x => [encN x]) :: L) w → X o.1 o.2.1 o.2.2 (IntKind.wrap .i64 ((j : Int) + 1)) w := fun hz h => by
      rw [succ_big (by unfold big; omega)]
      exact ihj _ o xs (by rw [hz, if_neg (by decide), List.append_nil]; exact hxs) h
    refine files3 (ite_b (fun hb => next ?_ h) fun hb => ?_)
    · unfold Sn.numbered Sn.shaped
      rw [if_neg]
      rintro ⟨h1, _⟩
      rw [Bool.and_eq_true, Bool.and_eq_true] at h1
      rw [h1.1, h1.2.1] at hb
      cases hb
    have hb' : (decide (6 ≤ nm.length ∧ nm.length ≤ 18) && decide (nm.take 5 = Sn.pre)) = true := by simpa using hb
    rw [Bool.and_eq_true] at hb'
    have hlen := of_decide_eq_true hb'.1
    have hsz : (bs nm).size = nm.length := rfl
    refine ⟨by omega, by rw [hsz]; omega, ?_⟩
    have e5 : (bs nm).extract ((5 : Int).toNat) (bs nm).size = bs (nm.drop 5) := by
      have := bs_extract nm 5 nm.length
      rw [List.take_length] at this
      exact this
    rw [e5]
    have hdl : (nm.drop 5).length = nm.length - 5 := List.length_drop
    obtain ⟨a4, c4, w20, hr20, h20⟩ := bytes_of_str h (nm.drop 5)
    refine runV_ok hr20 ⟨_, _, _, rfl, ?_⟩
    have hshape : Sn.shaped nm = (nm.drop 5).all Sn.isDig := by unfold Sn.shaped; rw [hb'.1, hb'.2]; rfl
    refine files4 (by omega) h20.rdS (fun hall => ?_) fun hall => ?_
    · have hv := val_small hall (by omega)
      have hnum : Sn.numbered nm = if Sn.val (nm.drop 5) ≤ 1099511627776 ∧ Sn.dec (Sn.val (nm.drop 5)) = nm.drop 5 then Sn.val (nm.drop 5) else 0 := by
        unfold Sn.numbered
        rw [hshape, hall]
        simp
      generalize Sn.val (nm.drop 5) = v at *
      intro w41
      have h41 : St E (blkL w20.heap.size 97 [.string ⟨#[]⟩, .int .i64 0] :: ownS o.1 o.2.1 o.2.2 97 2 (xs.flatMap celX) :: ownS s.1 s.2.1 s.2.2 9 1 (ns.flatMap fun x => [encN x]) :: L) w41 := h20.drop.alloc (.cells ⟨[.string ⟨#[]⟩, .int .i64 0]⟩ 97)
      clear_value w41
      generalize w20.heap.size = bf at *
      refine ⟨rfl, wrOk_agg (off := 0) (xs := [encN nm, .int .i64 (v : Int)]) h41.at_blk (by show 2 ≤ 2; decide) (by intro u hu; simp at hu; rcases hu with rfl | rfl <;> rfl), ?_⟩
      intro w42 w43
      have h43 : St E (blkL bf 97 [encN nm, .int .i64 (v : Int)] :: ownS o.1 o.2.1 o.2.2 97 2 (xs.flatMap celX) :: ownS s.1 s.2.1 s.2.2 9 1 (ns.flatMap fun x => [encN x]) :: L) w43 := (h41.wr_agg0 (xs := [encN nm, .int .i64 (v : Int)]) rfl).drew
      clear_value w43
      have rdF : rd w43 ⟨bf, 0, none⟩ (.agg #[encN nm, .int .i64 (v : Int)]) := rd_agg (xs := [encN nm, .int .i64 (v : Int)]) h43.at_blk (by intro i u hu; rw [Nat.zero_add]; exact hu)
      refine ite_d (fun hm => ?_) fun hm => ?_
      · have hm' : v ≤ 1099511627776 := by omega
        refine ⟨_, _, rdF, Name_spec hm' ⟨_, rfl, ⟨rdF, trivial⟩, runV_ok (file_eq _ _ nm (Sn.nameOf v) (v : Int) (v : Int) w43) ⟨_, rfl, trivial, ?_⟩⟩⟩
        have hnv : nm = Sn.nameOf v ↔ Sn.dec v = nm.drop 5 := by
          constructor
          · intro e; rw [e]; rfl
          · intro e
            unfold Sn.nameOf
            rw [e, ← of_decide_eq_true hb'.2, List.take_append_drop]
        refine ite_b (fun he => ?_) fun he => ?_
        · have he' : nm = Sn.nameOf v := by simpa using he
          have hd := hnv.1 he'
          rw [if_pos ⟨hm', hd⟩] at hnum
          have hv0 : 0 < v := by
            rcases Nat.eq_zero_or_pos v with h0 | h0
            · subst h0
              have : (nm.drop 5) = [] := hd.symm
              rw [List.drop_eq_nil_iff] at this
              omega
            · exact h0
          refine ⟨_, _, rdF, ?_⟩
          intro w54
          have hxe : celX ⟨v, hm'⟩ = [encN nm, .int .i64 (v : Int)] := by unfold celX; rw [he']
          obtain ⟨o', w56, hr56, h56⟩ := app_fi h43.drop ⟨v, hm'⟩ (by omega)
          rw [hxe] at hr56
          refine runV_ok hr56 ⟨_, _, _, rfl, ?_⟩
          rw [succ_big (by unfold big; omega)]
          refine ihj w56 o' (xs ++ [⟨v, hm'⟩]) ?_ h56
          rw [hnum, if_pos hv0, List.map_append, hxs]
          rfl
        · refine next ?_ h43.drop
          rw [hnum, if_neg]
          rintro ⟨_, hd⟩
          have := hnv.2 hd
          rw [decide_eq_true this] at he
          simp at he
      · refine ⟨trivial, trivial, next ?_ h43.drop⟩
        rw [hnum, if_neg]
        rintro ⟨h1, _⟩
        omega
    · refine next ?_ h20.drop
      unfold Sn.numbered
      rw [hshape, hall, if_neg (by simp)]
  · have : j = ns.length := by omega
    subst this
    rw [List.take_length] at hxs
    exact k w o xs hxs (h.sel 2 [0] (by simp))
end
end Go.Vc
namespace Go.Vc
open Go Go.Proofs Go.Proofs.YtclinifclfahfaaGreat Go.RowKit Go.Sort Go.Shelf
set_option maxRecDepth 100000
def cmpX (x y : Ix) : Int := (y.1 : Int) - (x.1 : Int)
theorem cmpX_lt (x y : Ix) : ltOf cmpX x y = decide (y.1 < x.1) := by
  simp only [ltOf, cmpX]
  exact decide_eq_decide.2 ⟨fun h => by omega, fun h => by omega⟩
theorem swoX : SWO (ltOf cmpX) where
  irrefl x := by rw [cmpX_lt]; simp
  trans x y z h k := by
    rw [cmpX_lt] at *
    have h := of_decide_eq_true h
    have k := of_decide_eq_true k
    exact decide_eq_true (by omega)
  ntrans x y z h k := by
    rw [cmpX_lt] at *
    have h := of_decide_eq_false h
    have k := of_decide_eq_false k
    exact decide_eq_false (by omega)
theorem totX (x y : Ix) (h : ltOf cmpX x y = false) (k : ltOf cmpX y x = false) : x = y := by
  rw [cmpX_lt] at *
  have h := of_decide_eq_false h
  have k := of_decide_eq_false k
  exact Subtype.ext (by omega)
theorem uniq_ix {ss ks : List Ix} (hp : ks.Perm ss) (hk : ks.Pairwise fun a b => b.1 < a.1) : (ss.mergeSort fun x y => !(ltOf cmpX) y x) = ks :=
  sort_uniq (fun a b c h1 h2 => by
      simp only [cmpX_lt, Bool.not_eq_true', decide_eq_false_iff_not] at *
      omega)
    (fun a b => by
      simp only [cmpX_lt]
      by_cases h : a.1 < b.1
      · have : ¬ b.1 < a.1 := by omega
        simp [this]
      · simp [h])
    (fun a b h1 h2 => totX a b (by simpa using h2) (by simpa using h1)) hp
    (hk.imp fun {a b} h => by
      simp only [cmpX_lt, Bool.not_eq_true', decide_eq_false_iff_not]
      omega)
def downs (l : List Ix) : List Ix := l.mergeSort fun x y => !(ltOf cmpX) y x
theorem downs_up {l : List Ix} (h : l.Nodup) : (downs l).Pairwise fun a b => b.1 < a.1 := by
  have h1 := List.pairwise_mergeSort (le := fun x y => !(ltOf cmpX) y x) (fun a b c h1 h2 => by
      simp only [cmpX_lt, Bool.not_eq_true', decide_eq_false_iff_not] at *
      omega)
    (fun a b => by
      simp only [cmpX_lt]
      by_cases h : a.1 < b.1
      · have : ¬ b.1 < a.1 := by omega
        simp [this]
      · simp [h]) l
  have h2 : (downs l).Nodup := (List.mergeSort_perm l _).nodup_iff.2 h
  refine (h1.and h2).imp fun {a b} h => ?_
  have h3 := h.1
  simp only [cmpX_lt, Bool.not_eq_true', decide_eq_false_iff_not] at h3
  have : a.1 ≠ b.1 := fun e => h.2 (Subtype.ext e)
  omega
theorem downs_perm (l : List Ix) : (downs l).Perm l := List.mergeSort_perm _ _
section
variable {E w : World} {L : List Asrt} {R : RT}
theorem grow_two (W : World) (o1 o2 : Obj) : ((W.alloc o1).alloc o2) = grow (W.drewN 0) #[o1, o2] := by
  rw [alloc_eq_grow, alloc_eq_grow]
  show grow (grow W #[o1]) #[o2] = grow W #[o1, o2]
  rw [grow_grow]
  rfl
theorem cmpX_lays (blk off size : Nat) (w : World) : CmpLays Tryz.prog 98 #[] celX 2 cmpX blk off size w := by
  intro m os dk _ x y
  generalize sortWorldK celX 2 w blk off m dk os = W
  have e : (#[.agg (celX x).toArray, .agg (celX y).toArray] ++ #[] : Array Value) = #[.agg #[encN (Sn.nameOf x.1), .int .i64 (x.1 : Int)], .agg #[encN (Sn.nameOf y.1), .int .i64 (y.1 : Int)]] := by simp [celX]
  rw [e]
  refine C_q7z ?_
  unfold T_q7z
  intro w5 w6
  have h5 := (St.start_kn W).alloc (.cells #[encN (Sn.nameOf x.1), .int .i64 (x.1 : Int)] 97)
  have h6 := h5.alloc (.cells #[encN (Sn.nameOf y.1), .int .i64 (y.1 : Int)] 97)
  have hx := x.2
  have hy := y.2
  refine ⟨_, rd_fld h6.at_blk rfl rfl, _, rd_fld h6.f1.at_blk rfl rfl, ?_⟩
  rw [wrap_id (by omega) (by omega)]
  exact ⟨rfl, 0, _, grow_two W _ _⟩
theorem SortX_spec {a : Option Addr} {c : Nat} {ss ks : List Ix} (h : St E (ownS a ss.length c 97 2 (ss.flatMap celX) :: L) w) (hN : ss.length ≤ 1000) (hp : ks.Perm ss) (hk : ks.Pairwise fun a b => b.1 < a.1)
    (k : ∀ w', St E (ownS a ks.length c 97 2 (ks.flatMap celX) :: L) w' → R (.returned (.tuple #[])) w') : Calls Tryz.prog 97 #[.slice a ss.length c, .func (.func 98) #[] #[]] w R := by
  have hl := hp.length_eq
  obtain ⟨_, hlc, hcm⟩ := h.ownS_facts
  rcases h.ownS_open with ⟨rfl, h0, rfl, hx⟩ | ⟨g, rest, rfl, hr, h2⟩
  · have hs : ss = [] := List.eq_nil_of_length_eq_zero h0
    subst hs
    have hk0 : ks = [] := List.eq_nil_of_length_eq_zero hl
    subst hk0
    refine (AnyF.slices_SortFunc_none Tryz.sortP none 0 _ w).mono ?_
    rintro e w' ⟨rfl, rfl⟩
    exact k _ h
  · have hfl : flatK celX 2 ss.toArray = (ss.flatMap celX).toArray := flatK_eq celX 2 (fun _ => rfl) (by decide) ss
    have hH : HoldsK celX 2 w g 0 ss.toArray := by
      unfold HoldsK
      rw [hfl]
      refine holds_row (enc := id) (rest := rest) (e := 97) ?_
      rw [List.map_id]
      exact h2.at_blk
    refine (AnyQ.slices_SortFunc_total Tryz.sortP 2 (run_isAgg (P := Tryz.prog) (t := 97) rfl) (fun w => by kernel_rfl) celX (fun _ => rfl) (fun x v hv => by simp [celX] at hv; rcases hv with rfl | rfl <;> rfl) cmpX swoX 98 #[] g 0 c ss.toArray w
      (enters_of Tryz.func98 (by kernel_rfl) rfl) (cmpX_lays g 0 _ w) hH (Array.getElem?_eq_some_iff.1 h2.at_blk).1 (by simp; omega) totX).mono ?_
    rintro e w' ⟨rfl, n, os, rfl⟩
    rw [uniq_ix hp hk]
    unfold sortWorldK putRowK
    rw [flatK_eq celX 2 (fun _ => rfl) (by decide) ks]
    refine k _ (St.ownS_mk (rest := rest) ?_ (flat_len (f := celX) (fun _ => rfl) ks) (by omega) hcm (by rw [hl]; exact hr))
    have := h2.sorted_row (enc := id) (ts := ks.flatMap celX) (m := n) (os := os) (by rw [flat_len (sz := 2) (fun _ => rfl), flat_len (sz := 2) (fun _ => rfl), hl])
    rwa [List.map_id] at this
theorem Files_spec {F : Fz} {dp c : Nat} {d : Dk.Ds} (I : Dk.Inv d) (h : St E (diskA F c dp d :: L) w)
    (k : ∀ (w' : World) (o : Sl) (ks : List Ix), (ks.map (·.1)).Perm (Sn.nums d.l) → ks.Pairwise (fun a b => b.1 < a.1) → o.2.1 = ks.length → St E (ownS o.1 o.2.1 o.2.2 97 2 (ks.flatMap celX) :: diskA F c dp d :: L) w' → R (.returned (.slice o.1 o.2.1 o.2.2)) w') :
    Calls Tryz.prog 60 #[.pointer (some ⟨dp, 0, none⟩)] w R := by
  have hlen : (namesOf d).length ≤ 16 := by unfold namesOf; rw [List.length_map]; exact I.n
  refine C_q9q ?_
  unfold T_q9q T_q8i
  intro X hX
  refine hX _ _ _ _ ?_
  unfold T_q9q_1_body
  refine DNames_spec I h fun w5 s6 hl6 h5 => ⟨_, _, _, rfl, ?_⟩
  refine files_loop (ns := namesOf d) (by omega) hl6 h5 fun w63 o xs hxs h63 => ?_
  have hnums : numsN (namesOf d) = Sn.nums d.l := by unfold numsN namesOf Sn.nums; rw [List.map_map]; rfl
  have hnd : xs.Nodup := by
    have h1 : (xs.map (·.1)).Nodup := by rw [hxs, hnums]; exact Sn.nums_nodup (Sn.names_ne I)
    exact (List.pairwise_map.1 h1).imp fun hne e => hne (congrArg _ e)
  have hol : o.2.1 = xs.length := (h63.rdS_own.count celX_len (by decide)).symm
  have hxl : xs.length ≤ 16 := by
    have h1 : xs.length = (numsN (namesOf d)).length := by rw [← hxs, List.length_map]
    have h2 : (numsN (namesOf d)).length ≤ (namesOf d).length := by unfold numsN; exact Nat.le_trans (List.length_filter_le ..) (by simp)
    omega
  rw [hol] at h63 ⊢
  refine SortX_spec (ks := downs xs) h63 (by omega) (downs_perm xs) (downs_up hnd) fun w65 h65 => ⟨rfl, ?_⟩
  have e : xs.length = (downs xs).length := (downs_perm xs).length_eq.symm
  rw [e]
  exact k w65 (o.1, (downs xs).length, o.2.2) (downs xs) (by
    rw [← hnums, ← hxs]
    exact (downs_perm xs).map _) (downs_up hnd) rfl h65
end
end Go.Vc
namespace Go.Vc
open Go Go.Proofs Go.Proofs.YtclinifclfahfaaGreat
set_option maxRecDepth 100000
section
variable {E w : World} {L : List Asrt} {R : RT} {F G : Fz} {q p o : Sl} {b : Cm.Bs} {dp c : Nat} {d : Dk.Ds}
theorem St.dk_c {c2 : Nat} (h : St E (diskA F c dp d :: L) w) (k : c ≤ c2) : St E (diskA F c2 dp d :: L) w :=
  h.mono fun _ ⟨bm, m, fs, ok, hs⟩ => ⟨bm, m, fs, ⟨ok.l, ok.m, ok.ok, fun x hx => Nat.le_trans (ok.few x hx) k⟩, hs⟩
theorem tmp_lit : (.string (ByteArray.mk #[115, 110, 97, 112, 46, 116, 109, 112]) : Value) = .string (bs Sn.tmp) := rfl
theorem putB_le (s : Sn.Snp) : (Sn.putB s).length ≤ 100000 := by
  by_cases h : Sn.putE s = 0
  · have := (Sn.body_len h).1
    unfold Sn.putB
    rw [if_pos h, Sn.frame_len]
    omega
  · unfold Sn.putB
    rw [if_neg h]
    exact Nat.zero_le _
theorem putE_ok {s : Sn.Snp} (h : Sn.putE s = 0) : ∃ i : Nat, s.idx = (i : Int) ∧ 0 < i ∧ i ≤ 1099511627776 := by
  unfold Sn.putE at h
  split at h
  · cases h
  · rename_i hb
    have hb : Sn.badS s = false := by simpa using hb
    unfold Sn.badS at hb
    simp only [Bool.or_eq_false_iff, decide_eq_false_iff_not] at hb
    exact ⟨s.idx.toNat, by omega, by omega, by omega⟩
theorem save_loop {v l dd : Sl} {s : Sn.Snp} {ks : List Ix} {b7 i : Nat} {K : World → Prop} {Kp : XT} {fin : Dk.Ds} (hi : s.idx = (i : Int)) (hks : ks.length ≤ 1000) (hol : o.2.1 = ks.length) (I : Dk.Inv d) (hfin : Sn.remAll i (ks.map (·.1)) d = fin)
    (h : St E (blkL b7 29 (snpL s.idx s.term v l dd) :: ownS o.1 o.2.1 o.2.2 97 2 (ks.flatMap celX) :: diskA F c dp d :: kn F :: L) w) (k : ∀ w', St E (diskA F c dp fin :: kn F :: L) w' → K w') :
    T_q96 0 (some ⟨dp, 0, none⟩) ⟨b7, 0, none⟩ o.1 o.2.1 o.2.2 ((o.2.1 : Nat) : Int) w K Kp := by
  unfold T_q96
  intro X hX
  refine up_to ks.length (Q := fun j => ∀ (w : World) (dj : Dk.Ds), Dk.Inv dj → Sn.remAll i ((ks.drop j).map (·.1)) dj = fin → St E (blkL b7 29 (snpL s.idx s.term v l dd) :: ownS o.1 o.2.1 o.2.2 97 2 (ks.flatMap celX) :: diskA F c dp dj :: kn F :: L) w → X (j : Int) w) ?_ w d I hfin h
  intro j hj ih w dj I hfin h
  refine hX _ _ ?_
  unfold T_qa5_2_body
  rw [hol]
  refine ite_d (fun hh => ?_) fun hh => ?_
  · have hjl : j < ks.length := by omega
    obtain ⟨ad, hae, hrd, _⟩ := (h.f1.rdS_own).elem (f := celX) celX_len (List.getElem?_eq_getElem hjl) (by decide)
    rw [List.drop_eq_getElem_cons hjl, List.map_cons] at hfin
    unfold Sn.remAll at hfin
    refine ⟨by omega, by omega, ad, hae, _, _, hrd, ?_⟩
    have ihj := ih hjl
    have hx2 := ks[j].2
    generalize ks[j] = x at *
    intro w56
    have h56 : St E (blkL w.heap.size 97 [.string ⟨#[]⟩, .int .i64 0] :: blkL b7 29 (snpL s.idx s.term v l dd) :: ownS o.1 o.2.1 o.2.2 97 2 (ks.flatMap celX) :: diskA F c dp dj :: kn F :: L) w56 := h.alloc (.cells ⟨[.string ⟨#[]⟩, .int .i64 0]⟩ 97)
    clear_value w56
    generalize w.heap.size = bf at *
    refine ⟨rfl, wrOk_agg (off := 0) (xs := celX x) h56.at_blk (by show 2 ≤ 2; decide) (by intro u hu; exact celX_one [x] u (by simpa using hu)), ?_⟩
    intro w57
    have h57 : St E (blkL bf 97 (celX x) :: blkL b7 29 (snpL s.idx s.term v l dd) :: ownS o.1 o.2.1 o.2.2 97 2 (ks.flatMap celX) :: diskA F c dp dj :: kn F :: L) w57 := h56.wr_agg0 (xs := celX x) rfl
    clear_value w57
    refine ⟨_, rd_fld h57.at_blk rfl rfl, _, rd_cell h57.f1.at_blk rfl rfl, ?_⟩
    rw [hi]
    rw [succ_big (by unfold big; omega)]
    refine ite_d (fun hlt => ?_) fun hlt => ?_
    · rw [if_pos (by omega)] at hfin
      refine ⟨_, rd_cell h57.at_blk rfl rfl, ?_⟩
      have h58 : St E (diskA F c dp dj :: kn F :: blkL b7 29 (snpL s.idx s.term v l dd) :: ownS o.1 o.2.1 o.2.2 97 2 (ks.flatMap celX) :: L) w57 := h57.sel 5 [3, 4, 1, 2] (by simp)
      refine DRemove_spec (n := Sn.nameOf x.1) I h58 fun w62 h62 => ⟨_, rfl, ?_⟩
      exact ihj w62 _ (I.remove _) hfin (h62.sel 4 [2, 3, 0, 1] (by simp))
    · rw [if_neg (by omega)] at hfin
      exact ihj w57 dj I hfin (h57.sel 5 [1, 2, 3, 4] (by simp))
  · have : j = ks.length := by omega
    subst this
    rw [List.drop_length] at hfin
    have hfin : dj = fin := hfin
    subst hfin
    exact k w (h.sel 4 [2, 3] (by simp))
theorem save_1 {v l dd : Sl} {s : Sn.Snp} {i b7 : Nat} {W : Dk.Ds × Int} {K : Int → World → Prop} {Kp : XT} (hi : s.idx = (i : Int)) (hi1 : i ≤ 1099511627776) (I : Dk.Inv W.1)
    (h : St E (diskA F c dp W.1 :: kn F :: blkL b7 29 (snpL s.idx s.term v l dd) :: L) w)
    (k : ∀ (G : Fz) (w' : World) (r : Dk.Ds × Int), Fz.le F G → r = (if W.2 = 0 then Dk.rename (Dk.sync W.1 Sn.tmp).1 Sn.tmp (Sn.nameOf i) else W) → Dk.Inv r.1 → St E (diskA G c dp r.1 :: kn G :: blkL b7 29 (snpL s.idx s.term v l dd) :: L) w' → K r.2 w') :
    T_q95 (some ⟨dp, 0, none⟩) ⟨b7, 0, none⟩ W.2 (W.2 == 0) w K Kp := by
  unfold T_q95
  rw [tmp_lit]
  refine ite_b (fun hz => ?_) fun hz => ?_
  · have hz : W.2 = 0 := by simpa using hz
    rw [if_pos hz] at k
    refine DSync_spec (n := Sn.tmp) I h fun G w28 hG h28 => ⟨_, rfl, ?_⟩
    refine ⟨_, rd_cell h28.f2.at_blk rfl rfl, ?_⟩
    rw [hi]
    refine Name_spec hi1 ⟨_, rfl, ?_⟩
    have I3 := I.sync Sn.tmp
    generalize (Dk.sync W.1 Sn.tmp).1 = d3 at *
    exact DRename_spec (a := Sn.tmp) (b := Sn.nameOf i) I3 h28 fun w35 h35 => ⟨_, rfl, k G w35 _ hG rfl (I3.rename _ _) h35⟩
  · have hz : W.2 ≠ 0 := by simpa using hz
    rw [if_neg hz] at k
    exact k F w W (Fz.le_refl F) rfl I h
set_option maxHeartbeats 1000000 in
theorem Save_spec {v l dd : Sl} {s : Sn.Snp} (I : Dk.Inv d) (hc : c + 1 ≤ 1000000) (r : snpR F v l dd s) (z1 : s.mem.v.length ≤ huge) (z2 : s.mem.l.length ≤ huge) (h : St E (diskA F c dp d :: kn F :: L) w)
    (k : ∀ (G : Fz) (w' : World), Fz.le F G → St E (diskA G (c + 1) dp (Sn.save d s).1 :: kn G :: L) w' → R (.returned (.int .i64 (Sn.save d s).2)) w') :
    Calls Tryz.prog 18 #[.pointer (some ⟨dp, 0, none⟩), snpV s.idx s.term v l dd] w R := by
  refine C_qa5 ?_
  unfold T_qa5
  intro w7
  have h7 : St E (blkL w.heap.size 29 (snpL s.idx s.term v l dd) :: diskA F c dp d :: kn F :: L) w7 := h.alloc (.cells ⟨snpL s.idx s.term v l dd⟩ 29)
  clear_value w7
  generalize w.heap.size = b7 at *
  refine ite_b (fun hh => by simp at hh) fun _ => ?_
  refine ⟨_, _, _, _, _, _, _, _, _, _, _, rd_snp h7, ?_⟩
  have hp := putB_le s
  refine SPut_spec (by simp) r z1 z2 h7 fun w14 p h14 => ⟨_, _, _, _, rfl, ?_⟩
  refine ite_b (fun he => ?_) fun he => ?_
  · have he' : Sn.putE s ≠ 0 := by simpa using he
    have e : Sn.save d s = (d, Sn.putE s) := by unfold Sn.save; rw [if_pos he']
    rw [e] at k
    have h15 : St E (diskA F c dp d :: kn F :: L) w14 := h14.sel 4 [2, 3] (by simp)
    exact k F w14 (Fz.le_refl F) (h15.dk_c (Nat.le_succ c))
  have he' : Sn.putE s = 0 := by simpa using he
  obtain ⟨i, hi, hi0, hi1⟩ := putE_ok he'
  have hs : Sn.save d s = (
    let d1 := (Dk.remove d Sn.tmp).1
    let w := Dk.write d1 Sn.tmp 0 (Sn.putB s)
    if w.2 ≠ 0 then ((Dk.remove w.1 Sn.tmp).1, w.2)
    else
      let d3 := (Dk.sync w.1 Sn.tmp).1
      let r := Dk.rename d3 Sn.tmp (Sn.nameOf i)
      if r.2 ≠ 0 then ((Dk.remove r.1 Sn.tmp).1, r.2)
      else ({ r.1 with l := r.1.l.filter fun f => !Sn.older i f }, 0)) := by
    unfold Sn.save
    rw [if_neg (by rw [he']; decide), hi]
    rfl
  rw [hs] at k
  simp only at k
  clear hs
  have h16 : St E (byA p (Sn.putB s) :: kn F :: diskA F c dp d :: blkL b7 29 (snpL s.idx s.term v l dd) :: L) w14 := h14.sel 4 [0, 3, 2, 1] (by simp)
  obtain ⟨G, hG, h17, hsrc⟩ := St.srcB2 h16 (by omega)
  have h18 : St E (diskA G c dp d :: kn G :: blkL b7 29 (snpL s.idx s.term v l dd) :: L) w14 := St.dk_mono h17.f1 hG
  rw [tmp_lit]
  have I1 := I.remove Sn.tmp
  refine DRemove_spec (n := Sn.tmp) I h18 fun w18 h19 => ⟨_, rfl, ?_⟩
  generalize (Dk.remove d Sn.tmp).1 = d1 at *
  refine DWrite_spec (n := Sn.tmp) (i := 0) I1 hsrc (by omega) hc h19 fun G2 w21 hG2 h21 => ⟨_, rfl, ?_⟩
  have I2 := I1.write Sn.tmp 0 (Sn.putB s)
  generalize Dk.write d1 Sn.tmp 0 (Sn.putB s) = W at *
  have hGG := Fz.le_trans hG hG2
  refine save_1 hi hi1 I2 h21 fun G3 w41 r hG3 hr I4 h41 => ?_
  have hGGG := Fz.le_trans hGG hG3
  have hW : W.2 ≠ 0 → r = W := fun h => by rw [hr, if_neg h]
  have hO : W.2 = 0 → r = Dk.rename (Dk.sync W.1 Sn.tmp).1 Sn.tmp (Sn.nameOf i) := fun h => by rw [hr, if_pos h]
  clear hr
  refine ite_b (fun h40 => ?_) fun h40 => ?_
  · have h40 : r.2 ≠ 0 := by simpa using h40
    refine DRemove_spec (n := Sn.tmp) I4 h41 fun w43 h43 => ⟨_, rfl, ?_⟩
    have h44 : St E (diskA G3 (c + 1) dp (Dk.remove r.1 Sn.tmp).1 :: kn G3 :: L) w43 := h43.sel 3 [0, 1] (by simp)
    by_cases hw : W.2 = 0
    · rw [if_neg (by simpa using hw), ← hO hw, if_pos h40] at k
      exact k G3 w43 hGGG h44
    · rw [if_pos hw, ← hW hw] at k
      exact k G3 w43 hGGG h44
  · have h40 : r.2 = 0 := by simpa using h40
    have hw : W.2 = 0 := Decidable.byContradiction fun hw => by rw [hW hw] at h40; exact hw h40
    rw [if_neg (by simpa using hw), ← hO hw, if_neg (by simpa using h40)] at k
    refine Files_spec I4 h41 fun w46 o ks hks hdn hol h46 => ⟨_, _, _, rfl, ?_⟩
    have hkl : ks.length ≤ 1000 := by
      have h1 : ks.length = (Sn.nums r.1.l).length := by rw [← hks.length_eq, List.length_map]
      have h2 : (Sn.nums r.1.l).length ≤ r.1.l.length := by unfold Sn.nums; exact Nat.le_trans (List.length_filter_le ..) (by simp)
      have h3 := I4.n
      omega
    refine save_loop (i := i) hi hkl hol I4 (Sn.remAll_save hks) (h46.sel 4 [3, 0, 1, 2] (by simp)) fun w' h' => ?_
    exact k G3 w' hGGG h'
end
end Go.Vc
namespace Go.Vc
open Go Go.Proofs Go.Proofs.YtclinifclfahfaaGreat
set_option maxRecDepth 100000
section
variable {E w : World} {L : List Asrt} {R : RT} {F G : Fz} {q p o : Sl} {b : Cm.Bs} {dp c : Nat} {d : Dk.Ds}
theorem pick_inv {d : Dk.Ds} {k : Nat} {r : List Nat} : Sn.pick d (k :: r) = match Sn.getS (Dk.read d (Sn.nameOf k)).1 with
    | .ok s => if s.idx = (k : Int) then (s, 0) else Sn.pick d r
    | .error _ => Sn.pick d r := rfl
theorem read_le (I : Dk.Inv d) (n : Cm.Bs) : (Dk.read d n).1.length ≤ 262144 := by
  unfold Dk.read
  split
  · exact Nat.zero_le _
  · rename_i f hf
    exact (Dk.okU_len (I.u f (Dk.find_some hf).1)).2
set_option maxHeartbeats 1000000 in
theorem load_loop {ks : List Ix} {ba : Nat} {Kn : World → Prop} {Kr : Int → World → Prop} {Kp : XT} {fin : Sn.Snp × Int} (hks : ks.length ≤ 1000) (hol : o.2.1 = ks.length) (I : Dk.Inv d) (hfin : Sn.pick d (ks.map (·.1)) = fin)
    (h : St E (blkL ba 29 z5 :: ownS o.1 o.2.1 o.2.2 97 2 (ks.flatMap celX) :: diskA F c dp d :: kn F :: L) w)
    (kN : ∀ (G : Fz) (w' : World), Fz.le F G → fin = (Sn.none, 8) → St E (blkL ba 29 z5 :: diskA G c dp d :: kn G :: L) w' → Kn w')
    (kR : ∀ (G : Fz) (w' : World) (v l dd : Sl) (s : Sn.Snp), Fz.le F G → fin = (s, 0) → snpR G v l dd s → St E (blkL ba 29 (snpL s.idx s.term v l dd) :: diskA G c dp d :: kn G :: L) w' → Kr 0 w') :
    T_q93 0 (some ⟨dp, 0, none⟩) ⟨ba, 0, none⟩ o.1 o.2.1 o.2.2 ((o.2.1 : Nat) : Int) w Kn Kr Kp := by
  unfold T_q93
  intro X hX
  refine up_to ks.length (Q := fun j => ∀ (w : World) (F1 : Fz), Fz.le F F1 → Sn.pick d ((ks.drop j).map (·.1)) = fin → St E (blkL ba 29 z5 :: ownS o.1 o.2.1 o.2.2 97 2 (ks.flatMap celX) :: diskA F1 c dp d :: kn F1 :: L) w → X (j : Int) w) ?_ w F (Fz.le_refl F) hfin h
  intro j hj ih w F1 hF1 hfin h
  refine hX _ _ ?_
  unfold T_qa4_1_body
  rw [hol]
  refine ite_d (fun hh => ?_) fun hh => ?_
  · have hjl : j < ks.length := by omega
    obtain ⟨ad, hae, hrd, _⟩ := (h.f1.rdS_own).elem (f := celX) celX_len (List.getElem?_eq_getElem hjl) (by decide)
    rw [List.drop_eq_getElem_cons hjl, List.map_cons, pick_inv] at hfin
    refine ⟨by omega, by omega, ad, hae, _, _, hrd, ?_⟩
    have ihj := ih hjl
    have hx2 := ks[j].2
    generalize ks[j] = x at *
    intro w20
    have h20 : St E (blkL w.heap.size 97 [.string ⟨#[]⟩, .int .i64 0] :: blkL ba 29 z5 :: ownS o.1 o.2.1 o.2.2 97 2 (ks.flatMap celX) :: diskA F1 c dp d :: kn F1 :: L) w20 := h.alloc (.cells ⟨[.string ⟨#[]⟩, .int .i64 0]⟩ 97)
    clear_value w20
    generalize w.heap.size = bf at *
    refine ⟨rfl, wrOk_agg (off := 0) (xs := celX x) h20.at_blk (by show 2 ≤ 2; decide) (by intro u hu; exact celX_one [x] u (by simpa using hu)), ?_⟩
    intro w21
    have h21 : St E (blkL bf 97 (celX x) :: blkL ba 29 z5 :: ownS o.1 o.2.1 o.2.2 97 2 (ks.flatMap celX) :: diskA F1 c dp d :: kn F1 :: L) w21 := h20.wr_agg0 (xs := celX x) rfl
    clear_value w21
    refine ⟨_, rd_cell h21.at_blk rfl rfl, ?_⟩
    have h22 : St E (diskA F1 c dp d :: kn F1 :: blkL bf 97 (celX x) :: blkL ba 29 z5 :: ownS o.1 o.2.1 o.2.2 97 2 (ks.flatMap celX) :: L) w21 := h21.sel 5 [3, 4, 0, 1, 2] (by simp)
    have hrl := read_le I (Sn.nameOf x.1)
    refine DRead_spec (n := Sn.nameOf x.1) I h22 fun w24 o24 h24 => ⟨_, _, _, _, rfl, ?_⟩
    generalize (Dk.read d (Sn.nameOf x.1)).1 = bb at *
    have h25 : St E (byA o24 bb :: kn F1 :: diskA F1 c dp d :: blkL bf 97 (celX x) :: blkL ba 29 z5 :: ownS o.1 o.2.1 o.2.2 97 2 (ks.flatMap celX) :: L) w24 := h24.sel 6 [0, 2, 1, 3, 4, 5] (by simp)
    obtain ⟨F2, hF2, h26, hsrc⟩ := St.srcB2 h25 (by omega)
    refine SGet_spec hsrc (by unfold big; omega) h26 (fun w28 e hge he h28 => ⟨_, _, _, _, _, _, _, _, _, _, _, _, rfl, ?_⟩) fun F3 w28 v l dd s hF3 hge hs h28 => ⟨_, _, _, _, _, _, _, _, _, _, _, _, rfl, ?_⟩
    · rw [hge] at hfin
      intro w35
      have h35 : St E (blkL w28.heap.size 29 z5 :: kn F2 :: diskA F1 c dp d :: blkL bf 97 (celX x) :: blkL ba 29 z5 :: ownS o.1 o.2.1 o.2.2 97 2 (ks.flatMap celX) :: L) w35 := h28.alloc (.cells ⟨z5⟩ 29)
      clear_value w35
      generalize w28.heap.size = b35 at *
      refine ⟨rfl, ok_snp h35 rfl 0 0 nilS nilS nilS, ?_⟩
      intro w36
      have h36 := h35.wr_snp rfl 0 0 nilS nilS nilS
      have h36 : St E (blkL b35 29 z5 :: kn F2 :: diskA F1 c dp d :: blkL bf 97 (celX x) :: blkL ba 29 z5 :: ownS o.1 o.2.1 o.2.2 97 2 (ks.flatMap celX) :: L) w36 := h36
      clear_value w36
      refine ite_b (fun hz => absurd (by simpa using hz) he) fun _ => ?_
      rw [succ_big (by unfold big; omega)]
      have h37 : St E (diskA F1 c dp d :: blkL ba 29 z5 :: ownS o.1 o.2.1 o.2.2 97 2 (ks.flatMap celX) :: kn F2 :: L) w36 := h36.sel 6 [2, 4, 5, 1] (by simp)
      exact ihj w36 F2 (Fz.le_trans hF1 hF2) hfin ((St.dk_mono h37 hF2).sel 4 [1, 2, 0, 3] (by simp))
    · rw [hge] at hfin
      simp only at hfin
      intro w35
      have h35 : St E (blkL w28.heap.size 29 z5 :: kn F3 :: diskA F1 c dp d :: blkL bf 97 (celX x) :: blkL ba 29 z5 :: ownS o.1 o.2.1 o.2.2 97 2 (ks.flatMap celX) :: L) w35 := h28.alloc (.cells ⟨z5⟩ 29)
      clear_value w35
      generalize w28.heap.size = b35 at *
      refine ⟨rfl, ok_snp h35 rfl s.idx s.term v l dd, ?_⟩
      intro w36
      have h36 := h35.wr_snp rfl s.idx s.term v l dd
      have h36 : St E (blkL b35 29 (snpL s.idx s.term v l dd) :: kn F3 :: diskA F1 c dp d :: blkL bf 97 (celX x) :: blkL ba 29 z5 :: ownS o.1 o.2.1 o.2.2 97 2 (ks.flatMap celX) :: L) w36 := h36
      clear_value w36
      have hF13 := Fz.le_trans hF2 hF3
      refine ite_b (fun _ => ?_) fun hz => by simp at hz
      refine ⟨_, rd_cell h36.at_blk rfl rfl, _, rd_fld h36.f3.at_blk rfl rfl, ite_b (fun hi => ?_) fun hi => ?_⟩
      · have hi : s.idx = (x.1 : Int) := by simpa using hi
        rw [if_pos hi] at hfin
        have h37 : St E (blkL ba 29 z5 :: blkL b35 29 (snpL s.idx s.term v l dd) :: kn F3 :: diskA F1 c dp d :: L) w36 := h36.sel 6 [4, 0, 1, 2] (by simp)
        refine ⟨_, _, _, _, _, _, _, _, _, _, _, rd_snp h36, rfl, ok_snp h37 rfl s.idx s.term v l dd, ?_⟩
        intro w44
        have h44 : St E (blkL ba 29 (snpL s.idx s.term v l dd) :: blkL b35 29 (snpL s.idx s.term v l dd) :: kn F3 :: diskA F1 c dp d :: L) w44 := h37.wr_snp rfl s.idx s.term v l dd
        clear_value w44
        have h45 : St E (diskA F1 c dp d :: kn F3 :: blkL ba 29 (snpL s.idx s.term v l dd) :: L) w44 := h44.sel 4 [3, 2, 0] (by simp)
        exact kR F3 w44 v l dd s (Fz.le_trans hF1 hF13) hfin.symm hs ((St.dk_mono h45 hF13).sel 3 [2, 0, 1] (by simp))
      · have hi : s.idx ≠ (x.1 : Int) := by simpa using hi
        rw [if_neg hi] at hfin
        rw [succ_big (by unfold big; omega)]
        have h37 : St E (diskA F1 c dp d :: blkL ba 29 z5 :: ownS o.1 o.2.1 o.2.2 97 2 (ks.flatMap celX) :: kn F3 :: L) w36 := h36.sel 6 [2, 4, 5, 1] (by simp)
        exact ihj w36 F3 (Fz.le_trans hF1 hF13) hfin ((St.dk_mono h37 hF13).sel 4 [1, 2, 0, 3] (by simp))
  · have : j = ks.length := by omega
    subst this
    rw [List.drop_length] at hfin
    exact kN F1 w hF1 hfin.symm (h.sel 4 [0, 2, 3] (by simp))
theorem Load_spec (I : Dk.Inv d) (h : St E (diskA F c dp d :: kn F :: L) w)
    (k : ∀ (G : Fz) (w' : World) (v l dd : Sl), Fz.le F G → snpR G v l dd (Sn.load d).1 → St E (diskA G c dp d :: kn G :: L) w' → R (.returned (.tuple #[snpV (Sn.load d).1.idx (Sn.load d).1.term v l dd, .int .i64 (Sn.load d).2])) w') :
    Calls Tryz.prog 24 #[.pointer (some ⟨dp, 0, none⟩)] w R := by
  refine C_qa4 ?_
  unfold T_qa4
  intro w2
  have h2 : St E (diskA F c dp d :: kn F :: blkL w.heap.size 29 z5 :: L) w2 := (h.alloc (.cells ⟨z5⟩ 29)).sel 3 [1, 2, 0] (by simp)
  clear_value w2
  generalize w.heap.size = ba at *
  refine ite_b (fun hh => by simp at hh) fun _ => ?_
  refine Files_spec I h2 fun w10 o ks hks hdn hol h10 => ⟨_, _, _, rfl, ?_⟩
  have hkl : ks.length ≤ 1000 := by
    have h1 : ks.length = (Sn.nums d.l).length := by rw [← hks.length_eq, List.length_map]
    have h2 : (Sn.nums d.l).length ≤ d.l.length := by unfold Sn.nums; exact Nat.le_trans (List.length_filter_le ..) (by simp)
    have h3 := I.n
    omega
  have hp := Sn.load_pick I hks (List.pairwise_map.2 hdn)
  refine load_loop hkl hol I hp (h10.sel 4 [3, 0, 1, 2] (by simp)) (fun G w49 hG hn h49 => ?_) fun G w57 v l dd s hG hn hs h57 => ?_
  · rw [hn] at k
    refine ⟨rfl, ok_snp h49 rfl 0 0 nilS nilS nilS, ?_⟩
    intro w50
    have h50 : St E (blkL ba 29 z5 :: diskA G c dp d :: kn G :: L) w50 := h49.wr_snp rfl 0 0 nilS nilS nilS
    clear_value w50
    exact ⟨_, _, _, _, _, _, _, _, _, _, _, rd_snp h50, k G w50 nilS nilS nilS hG ⟨⟨RdF.nil G none, RdF.nil G none⟩, ⟨RdF.nil G none, rfl, Nat.le_refl _, by decide⟩⟩ h50.drop⟩
  · rw [hn] at k
    exact ⟨_, _, _, _, _, _, _, _, _, _, _, rd_snp h57, k G w57 v l dd hG hs h57.drop⟩
end
end Go.Vc
namespace Go.Vc
open Go Go.Proofs Go.Proofs.YtclinifclfahfaaGreat
set_option maxRecDepth 100000
def lv1 : Dk.Ds := (Sn.save (Dk.newD 1000) (ofS 3)).1
def lv2 : Dk.Ds := (Sn.save lv1 (ofS 12)).1
theorem lv_1 : Sn.save (Dk.newD 1000) (ofS 3) = (lv1, 0) := by kernel_rfl
theorem lv_2 : Sn.save lv1 (ofS 12) = (lv2, 0) := by kernel_rfl
theorem lv_3 : Sn.load lv2 = (ofS 12, 0) := by kernel_rfl
theorem lv_4 : namesOf lv2 = [Sn.nameOf 12] := by kernel_rfl
theorem lv_5 : piecesR [97, 98, 99] 2 = [[3, 0, 97, 98], [3, 2, 99]] := by kernel_rfl
theorem lv_6 : Sn.piecesE [97, 98, 99] 2 = 0 := by kernel_rfl
theorem lvI0 : Dk.Inv (Dk.newD 1000) := Dk.Inv.new 1000
theorem Sn.save_inv {d : Dk.Ds} (I : Dk.Inv d) (s : Sn.Snp) : Dk.Inv (Sn.save d s).1 := by
  unfold Sn.save
  split
  · exact I
  · simp only
    split
    · exact ((I.remove _).write _ _ _).remove _
    · split
      · exact ((((I.remove _).write _ _ _).sync _).rename _ _).remove _
      · exact ((((I.remove _).write _ _ _).sync _).rename _ _).filter _
section
variable {E w : World} {L : List Asrt} {R : RT} {F G : Fz} {q p o : Sl} {b : Cm.Bs} {dp c : Nat} {d : Dk.Ds}
theorem Of_spec2 {i : Int} {s : Sn.Snp} (hs : ofS i = s) (h : St E (kn F :: L) w) (k : ∀ (G : Fz) (w' : World) (v l d : Sl), Fz.le F G → snpR G v l d s → St E (kn G :: L) w' → R (.returned (snpV s.idx s.term v l d)) w') : Calls Tryz.prog 31 #[.int .i64 i] w R := by
  subst hs
  exact Of_spec h k
theorem DNew_spec2 {room : Int} (hd : Dk.newD room = d) (h : St E L w) (k : ∀ (w' : World) (dp : Nat), St E (diskA F 0 dp d :: L) w' → R (.returned (.pointer (some ⟨dp, 0, none⟩))) w') : Calls Tryz.prog 16 #[.int .i64 room] w R := by
  subst hd
  exact DNew_spec h k
theorem Save_spec2 {v l dd : Sl} {s : Sn.Snp} {d2 : Dk.Ds} {e : Int} (he : Sn.save d s = (d2, e)) (I : Dk.Inv d) (hc : c + 1 ≤ 1000000) (r : snpR F v l dd s) (z1 : s.mem.v.length ≤ huge) (z2 : s.mem.l.length ≤ huge) (h : St E (diskA F c dp d :: kn F :: L) w)
    (k : ∀ (G : Fz) (w' : World), Fz.le F G → Dk.Inv d2 → St E (diskA G (c + 1) dp d2 :: kn G :: L) w' → R (.returned (.int .i64 e)) w') :
    Calls Tryz.prog 18 #[.pointer (some ⟨dp, 0, none⟩), snpV s.idx s.term v l dd] w R := by
  have I2 := Sn.save_inv I s
  rw [he] at I2
  refine Save_spec I hc r z1 z2 h fun G w' hG h' => ?_
  rw [he] at h' ⊢
  exact k G w' hG I2 h'
theorem Load_spec2 {s : Sn.Snp} {e : Int} (he : Sn.load d = (s, e)) (I : Dk.Inv d) (h : St E (diskA F c dp d :: kn F :: L) w)
    (k : ∀ (G : Fz) (w' : World) (v l dd : Sl), Fz.le F G → snpR G v l dd s → St E (diskA G c dp d :: kn G :: L) w' → R (.returned (.tuple #[snpV s.idx s.term v l dd, .int .i64 e])) w') :
    Calls Tryz.prog 24 #[.pointer (some ⟨dp, 0, none⟩)] w R := by
  refine Load_spec I h fun G w' v l dd hG hs h' => ?_
  rw [he] at hs ⊢
  exact k G w' v l dd hG hs h'
theorem Names_spec2 {ns : List Cm.Bs} (hn : namesOf d = ns) (I : Dk.Inv d) (h : St E (diskA F c dp d :: L) w)
    (k : ∀ (w' : World) (o : Sl), o.2.1 = ns.length → St E (ownS o.1 o.2.1 o.2.2 9 1 (ns.flatMap celS) :: diskA F c dp d :: L) w' → R (.returned (.slice o.1 o.2.1 o.2.2)) w') :
    Calls Tryz.prog 27 #[.pointer (some ⟨dp, 0, none⟩)] w R := by
  subst hn
  exact DNames_spec I h k
theorem Pieces_spec2 {size e : Int} {rs : List Cm.Bs} (hr : piecesR b size = rs) (he : Sn.piecesE b size = e) (hs : Src F q b) (h64 : size ≤ 9223372036854775807) (h : St E (kn F :: L) w)
    (k : ∀ (G : Fz) (w' : World) (o : Sl) (qs : List Sl), Fz.le F G → Rows G qs rs → St E (rowA o qs :: kn G :: L) w' → R (.returned (.tuple #[.slice o.1 o.2.1 o.2.2, .int .i64 e])) w') :
    Calls Tryz.prog 44 #[.slice q.1 q.2.1 q.2.2, .int .i64 size] w R := by
  subst hr he
  exact Pieces_spec hs h64 h k
set_option maxHeartbeats 400000 in
theorem live_gen {d0 d1 d2 : Dk.Ds} {s3 s12 : Sn.Snp} {n12 : Cm.Bs} (hd0 : Dk.newD 1000 = d0) (I0 : Dk.Inv d0) (hs3 : ofS 3 = s3) (hs12 : ofS 12 = s12) (m3 : s3.mem.v.length ≤ huge ∧ s3.mem.l.length ≤ huge) (m12 : s12.mem.v.length ≤ huge ∧ s12.mem.l.length ≤ huge) (hx : s12.idx = 12) (e1 : Sn.save d0 s3 = (d1, 0)) (e2 : Sn.save d1 s12 = (d2, 0)) (e3 : Sn.load d2 = (s12, 0)) (e4 : namesOf d2 = [n12]) (hn : encN n12 = .string (ByteArray.mk #[115, 110, 97, 112, 45, 49, 50])) (e5 : piecesR [97, 98, 99] 2 = [[3, 0, 97, 98], [3, 2, 99]]) (e6 : Sn.piecesE [97, 98, 99] 2 = 0)
    (h : St E (kn F :: L) w) (k : ∀ (G : Fz) (w' : World), Fz.le F G → St E (kn G :: L) w' → R (.returned (.bool true)) w') : Calls Tryz.prog 11 #[] w R := by
  refine C_q9c ?_
  unfold T_q9c
  refine DNew_spec2 (F := F) hd0 h fun w2 dp h2 => ⟨_, rfl, ?_⟩
  refine Of_spec2 hs3 h2.f1 fun G1 w5 v1 l1 dd1 hG1 r1 h5 => ⟨_, _, _, _, _, _, _, _, _, _, _, rfl, ?_⟩
  have h6 : St E (diskA G1 0 dp d0 :: kn G1 :: L) w5 := St.dk_mono h5.f1 hG1
  refine Save_spec2 e1 I0 (by decide) r1 m3.1 m3.2 h6 fun G2 w12 hG2 I1 h12 => ⟨_, rfl, ?_⟩
  refine Of_spec2 hs12 h12.f1 fun G3 w15 v2 l2 dd2 hG3 r2 h15 => ⟨_, _, _, _, _, _, _, _, _, _, _, rfl, ?_⟩
  have h16 := St.dk_mono h15.f1 hG3
  refine Save_spec2 e2 I1 (by decide) r2 m12.1 m12.2 h16 fun G4 w22 hG4 I2 h22 => ⟨_, rfl, ?_⟩
  refine Load_spec2 e3 I2 h22 fun G5 w25 v3 l3 d3 hG5 r3 h25 => ⟨_, _, _, _, _, _, _, _, _, _, _, _, rfl, ?_⟩
  intro w32
  have h32 : St E (blkL w25.heap.size 29 z5 :: kn G5 :: diskA G5 (0 + 1 + 1) dp d2 :: L) w32 := (h25.f1).alloc (.cells ⟨z5⟩ 29)
  clear_value w32
  generalize w25.heap.size = b32 at *
  refine ⟨rfl, ok_snp h32 rfl s12.idx s12.term v3 l3 d3, ?_⟩
  intro w33 w34
  have h33 : St E (blkL b32 29 (snpL s12.idx s12.term v3 l3 d3) :: kn G5 :: diskA G5 (0 + 1 + 1) dp d2 :: L) w33 := h32.wr_snp rfl s12.idx s12.term v3 l3 d3
  have h34 : St E (blkL w33.heap.size 5 (bytesV [97, 98, 99]) :: kn G5 :: blkL b32 29 (snpL s12.idx s12.term v3 l3 d3) :: diskA G5 (0 + 1 + 1) dp d2 :: L) w34 := ((h33.alloc (.cells ⟨bytesV [97, 98, 99]⟩ 5))).sel 4 [0, 2, 1, 3] (by simp)
  clear_value w34
  generalize w33.heap.size = b34 at *
  obtain ⟨G6, w36, hr, hG6, hs6, h36⟩ := conv_lit (l := 3) (c := 3) h34 rfl (Nat.le_refl 3) (by decide)
  refine runV_ok hr ⟨_, _, _, rfl, ?_⟩
  have hq := fun (R : RT) => @Pieces_spec2 E w36 _ R G6 (some ⟨b34, 0, none⟩, 3, 3) [97, 98, 99] 2 0 _ e5 e6 hs6 (by decide) h36
  refine hq _ fun G7 w39 o qs hG7 hrows h39 => ?_
  refine ⟨_, _, _, _, rfl, ?_⟩
  refine ite_b (fun _ => ?_) fun hh => by simp at hh
  refine ite_b (fun _ => ?_) fun hh => by simp at hh
  refine ite_b (fun _ => ?_) fun hh => by simp at hh
  refine ⟨_, rd_cell h39.f2.at_blk rfl rfl, ite_b (fun _ => ?_) fun hh => by rw [hx] at hh; simp at hh⟩
  have h40 : St E (diskA G5 (0 + 1 + 1) dp d2 :: rowA o qs :: kn G7 :: L) w39 := h39.sel 4 [3, 0, 1] (by simp)
  refine Names_spec2 e4 I2 h40 fun w44 s45 hl45 h44 => ⟨_, _, _, rfl, ?_⟩
  rw [← hn]
  intro w46
  have h46 : St E (blkL w44.heap.size 9 [encN n12] :: ownS s45.1 s45.2.1 s45.2.2 9 1 ([n12].flatMap celS) :: diskA G5 (0 + 1 + 1) dp d2 :: rowA o qs :: kn G7 :: L) w46 := h44.alloc (.cells ⟨[encN n12]⟩ 9)
  clear_value w46
  generalize w44.heap.size = b46 at *
  refine SameTexts_spec (xs := [n12]) (ys := [n12]) (a := s45) (c := (some ⟨b46, 0, none⟩, 1, 1)) hl45 rfl (by show 1 ≤ 1000000; decide) (fun w h => h.f1.rdS_own) (fun w h => ?_) h46 fun w48 h48 => ⟨_, rfl, ?_⟩
  · have hb := h.at_blk
    exact ⟨rfl, .inr ⟨b46, 0, rfl, fun i u hu => by rw [Nat.zero_add, cell_of hb]; exact hu⟩⟩
  refine ite_b (fun _ => ?_) fun hh => by simp at hh
  refine ite_b (fun _ => ?_) fun hh => by simp at hh
  have hql : qs.length = 2 := hrows.len
  have h49 : St E (rowA o qs :: kn G7 :: L) w48 := h48.sel 5 [3, 4] (by simp)
  have hol : o.2.1 = 2 := by rw [← h49.row_count, hql]
  rw [hol]
  refine ite_b (fun _ => ?_) fun hh => by simp at hh
  obtain ⟨ad, hae, hrd⟩ := one_at (f := fun q : Sl => Value.slice q.1 q.2.1 q.2.2) (fun _ => rfl) (h49.rdS_own :) (show 1 < qs.length by omega)
  have hsrc := hrows.get (i := 1) (List.getElem?_eq_getElem (by omega)) rfl
  refine ⟨by decide, by decide, ad, hae, _, _, _, hrd, ?_⟩
  refine runV_ok (conv_srcT hsrc (by simp) h49) ⟨_, rfl, ?_⟩
  have e : ((bs [3, 2, 99]).toList == (ByteArray.mk #[3, 2, 99]).toList) = true := bs_beq [3, 2, 99] [3, 2, 99] ▸ rfl
  rw [e]
  exact k G7 w48 (Fz.le_trans hG1 (Fz.le_trans hG2 (Fz.le_trans hG3 (Fz.le_trans hG4 (Fz.le_trans hG5 (Fz.le_trans hG6 hG7)))))) (h49.drop)
theorem live_spec (h : St E (kn F :: L) w) (k : ∀ (G : Fz) (w' : World), Fz.le F G → St E (kn G :: L) w' → R (.returned (.bool true)) w') : Calls Tryz.prog 11 #[] w R :=
  live_gen rfl lvI0 rfl rfl (by decide) (by decide) rfl (d1 := lv1) (d2 := lv2) lv_1 lv_2 lv_3 lv_4 rfl lv_5 lv_6 h k
end
end Go.Vc
