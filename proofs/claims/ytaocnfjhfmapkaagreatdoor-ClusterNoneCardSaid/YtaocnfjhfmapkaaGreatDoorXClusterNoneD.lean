/-
  Texts of this claim's own, laid into one: NodeK, EvK, NodeKs, NodeLv, EvL, ClusS.
-/
import Derived.Test.YtaocnfjhfmapkaaGreatDoorProg
import Derived.Shelf.SlIter.Collect
import Derived.Test.YtaocnfjhfmapkaaGreatDoorXClusterNoneA
import Derived.Test.YtaocnfjhfmapkaaGreatDoorXClusterNoneB
import Derived.Test.YtaocnfjhfmapkaaGreatDoorXClusterNoneC
set_option linter.all false
/-
  maps.Keys and slices.Collect at the three kinds of keys: what is collected is the keys, each once, in some order.
-/
namespace Go.Vc
open Go Go.Proofs Go.RowKit Go.Maps Go.Sort Go.Shelf
set_option maxRecDepth 100000
def rfCode (f : Func) : Code × Code := match f.body with
  | some (.seq _ (.seq (.seq _ (.block _ (.rangeFunc _ _ a b))) _)) => (a, b)
  | _ => (.skip, .skip)

/-! ### P -/
def encP (x : (ByteArray × ByteArray)) : Value := .agg #[.string x.1, .string x.2]
def celP (x : (ByteArray × ByteArray)) : List Value := [.string x.1, .string x.2]
noncomputable def asgP : Code := (rfCode Tryz.f338).1
noncomputable def bodP : Code := (rfCode Tryz.f338).2
section
variable {ν : Type} {vv : ν → Value}
set_option maxHeartbeats 1000000 in
theorem keysP_in (F : Fence) (n : Nat) (hf : F.fn 296) (hro : F.round = none) (hn : 1 ≤ n) (l Bm b : Nat) (m : List ((ByteArray × ByteArray) × ν)) (J : List ((ByteArray × ByteArray)) → World → Prop)
    (hY : ∀ pre x W, J pre W → pre.length < m.length → YieldAt F (n - 1) Tryz.prog l #[encP x] W fun e W' => e = .returned (.bool true) ∧ J (pre ++ [x]) W' ∧ KeepsWalks W W')
    (W : World) (hJ : AbidesFrom W.heap.size J) (hm : W.cell? ⟨Bm, 0, none⟩ = some (.map (some b))) (hown : MapW W b encP vv m) (h0 : J [] W) :
    CallsIn F n Tryz.prog 296 #[.func (.yield l) #[] #[], .pointer (some ⟨Bm, 0, none⟩)] W fun e W' => (∃ v, e = .returned v) ∧ ∃ ss : List ((ByteArray × ByteArray)), ss.Perm (m.map (·.1)) ∧ J ss W' := by
  refine callsIn_of_wp Tryz.func296 rfl hf ?_ hro
  simp only [Tryz.ntmps296, List.size_toArray, List.length_cons, List.length_nil, Nat.reduceAdd, Nat.reduceSub, Array.replicate_succ, Array.replicate_zero, List.push_toArray, List.append_toArray, List.nil_append, List.cons_append]
  gi_wp2_with (first
    | (gi_at_range; refine wpListIn_range_it _ rfl _ 158 rfl Tryz.underlying158 rfl hown ?_; intro w0 hrg0 hg0 hs0)
    | gi_in)
  go_frame
  gi_loopw [3] (fun _ wr => ∃ (rest : List ((ByteArray × ByteArray) × ν)) (ss : List ((ByteArray × ByteArray))), IterW wr W.heap.size b encP vv m rest ∧ (ss ++ rest.map (·.1)).Perm (m.map (·.1)) ∧ J ss wr)
    (fun _ wr => wr.rangeLeft b W.heap.size)
  case atStart =>
    exact ⟨_, [], hrg0, by simp, hJ [] W w0 none h0 hg0 (fun r e => by cases e)⟩
  case round =>
    obtain ⟨rest, ss, hrg, hC, hJs⟩ := hrel
    gi_wp2_with (first
      | (gi_at_next; refine wpListIn_next_it _ rfl _ rfl rfl hrg ?_ ?_)
      | gi_in)
    · intro hc0
      gi_wp2
      go_end0
      exact ⟨⟨_, rfl⟩, ss, by subst hc0; simpa using hC, hJs⟩
    · intro r1 kh kp v r2 w2 hrest hrg2 hg2 hs2 hen
      have hlen : ss.length < m.length := by have := hC.length_eq; rw [hrest] at this; simp at this; omega
      have hg3 := hg2.andThen (World.grownBy_alloc w2 (.cells #[Value.string kh, Value.string kp] 198) none) (fun j e => by cases e)
      have hJ2 : J ss (w2.alloc (.cells #[Value.string kh, Value.string kp] 198)) := hJ ss wr _ (some W.heap.size) hJs hg3 (fun r e => by cases e; exact ⟨Nat.le_refl _, hrg.walk⟩)
      have hrg2a := hrg2.of_walks (KeepsWalks.alloc w2 (.cells #[Value.string kh, Value.string kp] 198))
      obtain ⟨fn, tmps, assign, body, hy, hR⟩ := hY ss (kh, kp) _ hJ2 hlen
      simp only [encP] at hen hy ⊢
      clear hs2
      gi_wp2
      refine hR.mono ?_
      rintro e W3 ⟨rfl, hJ3, hk3⟩
      gi_wp2
      have hrg3 := hrg2a.of_walks hk3
      go_roundw
      case rel => exact ⟨_, ss ++ [(kh, kp)], hrg3, by
        rw [hrest] at hC
        refine List.Perm.trans ?_ hC
        simp only [List.map_append, List.map_cons, List.append_assoc]
        refine List.Perm.append_left ss ?_
        simp only [List.singleton_append]
        exact List.perm_middle.symm, hJ3⟩
      case measure => rw [hrg3.left, hrg.left, hrest]; simp
theorem givesP (F : Fence) (n : Nat) (hf : F.fn 296) (hro : F.round = none) (hn : 1 ≤ n) (Bm b : Nat) (m : List ((ByteArray × ByteArray) × ν)) (w : World) (hBm : Bm < w.heap.size)
    (hm : w.cell? ⟨Bm, 0, none⟩ = some (.map (some b))) (hown : MapW w b encP vv m) : SeqGives F n Tryz.prog 296 #[.pointer (some ⟨Bm, 0, none⟩)] encP (fun ss => ss.Perm (m.map (·.1))) m.length w := fun l J W hW hJ hY h0 =>
  keysP_in F n hf hro hn l Bm b m J hY W hJ ((hW.cell (p := ⟨Bm, 0, none⟩) hBm).trans hm) (hown.later hW) h0
end
noncomputable def recP (fn : FuncId) (sv : Value) (Bs D : Nat) (st : LoopState) (pend : Option Code) : Loop :=
  { state := st, pending := pend, fn, tmps := #[.slice none 0 0, sv, .pointer (some ⟨Bs, 0, none⟩), undef, .slice none 0 0, undef, sv, undef, undef, undef, undef, undef, undef], params := #[7], assign := asgP, body := bodP, defers := D }
structure AtP (w0 : World) (fn : FuncId) (sv : Value) (Bs l D : Nat) (ss : List ((ByteArray × ByteArray))) (W : World) : Prop where
  box : ∃ v, W.heap[Bs]? = some (.cells #[v] 312 (0, 0)) ∧ W.ownsRow w0.heap.size 198 2 v ss.length (ss.flatMap celP) ∧ (ss = [] → v = .slice none 0 0)
  L : W.heap[l]? = some (.loop (recP fn sv Bs D .ready none))
  K : W.heap[D]? = some (.deferred (some []))
  below : Below w0.heap.size w0 W
theorem abidesP (w0 : World) (fn : FuncId) (sv : Value) (Bs l D B : Nat) (hB : w0.heap.size ≤ B) : AbidesFrom B (AtP w0 fn sv Bs l D) := fun s W W' row h hg hrow => by
  have hrow' : ∀ r, row = some r → ∃ o : Obj, W.heap[r]? = some o ∧ o.isWalk = true := fun r e => (hrow r e).2
  obtain ⟨v, hv, hr, hnl⟩ := h.box
  exact ⟨⟨v, (grownBy_keeps hg hrow' hv rfl).trans hv, ownsRow_abides_a hr hg hrow', hnl⟩, (grownBy_keeps hg hrow' h.L rfl).trans h.L, (grownBy_keeps hg hrow' h.K rfl).trans h.K,
    h.below.grown hg h.below.size (fun k e => Nat.le_trans hB (hrow k e).1)⟩
theorem cells_newP (w : World) (x : (ByteArray × ByteArray)) : ∀ j u, (celP x)[j]? = some u → (w.alloc (.cells ⟨celP x⟩ 198)).cell? ((⟨w.heap.size, 0, none⟩ : Addr).add j) = some u := fun j u hj => by
  rw [add_mk, Nat.zero_add, cell_of (World.alloc_heap_new w _)]; exact hj
set_option maxHeartbeats 2000000 in
theorem yieldP (F : Fence) (m : Nat) (w0 : World) (fn : FuncId) (hfn : F.fn fn) (sv : Value) (Bs l D : Nat) (hBl : Bs ≠ l) (hDl : D ≠ l) (_hDB : D ≠ Bs) (h0B : w0.heap.size ≤ Bs) (h0l : w0.heap.size ≤ l)
    (N : Nat) (hN : N ≤ maxLen) (hNb : N * 32 ≤ 140737488355328) (ss : List ((ByteArray × ByteArray))) (x : (ByteArray × ByteArray)) (W : World) (h : AtP w0 fn sv Bs l D ss W) (hlen : ss.length < N) :
    YieldAt F m Tryz.prog l #[encP x] W fun e W' => e = .returned (.bool true) ∧ AtP w0 fn sv Bs l D (ss ++ [x]) W' ∧ KeepsWalks W W' := by
  obtain ⟨i0, hi, hz0, hz1, hz2⟩ := info_parts (P := Tryz.prog) (e := 198) (z := .agg #[.string ⟨#[]⟩, .string ⟨#[]⟩]) (size := 2) (bytes := 32) (by kernel_rfl)
  obtain ⟨v, hv, hrow, _⟩ := h.box
  refine ⟨fn, #[.slice none 0 0, sv, .pointer (some ⟨Bs, 0, none⟩), undef, .slice none 0 0, undef, sv, encP x, undef, undef, undef, undef, undef], asgP, bodP, by simpa [recP] using run_yield (P := Tryz.prog) (args := #[encP x]) h.L rfl, roundIn_of_wpIn hfn ?_⟩
  -- what the assignment lays
  unfold asgP
  simp only [rfCode, Tryz.f338, encP]
  gi_wp2_with (rw [Oper.semAt_eq _ _ _ (fun c h => by cases h)]; go_simp; try go_bits)
  obtain ⟨Wa, hWa⟩ : ∃ Wa, Wa = W.alloc (.cells #[Value.string x.1, Value.string x.2] 198) := ⟨_, rfl⟩
  have hga : W.grownBy Wa none := by rw [hWa]; exact World.grownBy_alloc _ _ _
  have hka : KeepsWalks W Wa := KeepsWalks.of_grownBy hga (fun j o e => by cases e)
  have olda : ∀ k, k < W.heap.size → Wa.heap[k]? = W.heap[k]? := fun k hk => hga.block k hk (by simp)
  have hva : Wa.heap[Bs]? = some (.cells #[v] 312 (0, 0)) := (olda _ (Array.getElem?_eq_some_iff.1 hv).1).trans hv
  have hKa : Wa.heap[D]? = some (.deferred (some [])) := (olda _ (Array.getElem?_eq_some_iff.1 h.K).1).trans h.K
  have hLa : Wa.heap[l]? = some (.loop (recP fn sv Bs D .ready none)) := (olda _ (Array.getElem?_eq_some_iff.1 h.L).1).trans h.L
  have hrowa : Wa.ownsRow w0.heap.size 198 2 v ss.length (ss.flatMap celP) := hrow.kept hga (by cases hvo : v.ownBlock with | none => exact .inl rfl | some j => exact .inr (by simp))
  have hba : Below w0.heap.size w0 Wa := h.below.grown hga h.below.size (fun k e => by cases e)
  have hl : l < Wa.heap.size := (Array.getElem?_eq_some_iff.1 hLa).1
  have hbr := run_beginRound (P := Tryz.prog) hLa rfl
  obtain ⟨W2, hW2⟩ : ∃ W2, Wa.putObj l (.loop { recP fn sv Bs D .ready none with state := .busy }) = W2 := ⟨_, rfl⟩
  rw [hW2] at hbr
  have hg2 : Wa.grownBy W2 (some l) := by rw [← hW2]; exact grownBy_putObj_a _ _ _
  have hk2 : KeepsWalks W W2 := hka.trans (by rw [← hW2]; exact KeepsWalks.putObj _ hLa rfl)
  have hv2 : W2.heap[Bs]? = some (.cells #[v] 312 (0, 0)) := by rw [← hW2]; exact (World.putObj_heap_other hBl).trans hva
  have hK2 : W2.heap[D]? = some (.deferred (some [])) := by rw [← hW2]; exact (World.putObj_heap_other hDl).trans hKa
  have hL2 : W2.heap[l]? = some (.loop { recP fn sv Bs D .ready none with state := .busy }) := by rw [← hW2]; exact World.putObj_heap_same hl
  have hrow2 : W2.ownsRow w0.heap.size 198 2 v ss.length (ss.flatMap celP) := hrowa.kept hg2 (ownsRow_ne_a hrowa hLa (fun cur e => by cases e))
  have hb2 : Below w0.heap.size w0 W2 := hba.grown hg2 hba.size (fun k e => by cases e; exact h0l)
  have hbx : W2.heap[W.heap.size]? = some (.cells #[Value.string x.1, Value.string x.2] 198 (0, 0)) := by
    have hne : W.heap.size ≠ l := by have := (Array.getElem?_eq_some_iff.1 h.L).1; omega
    rw [← hW2, World.putObj_heap_other hne, hWa]; exact World.alloc_heap_new W _
  have hbx0 : W2.cell? ⟨W.heap.size, 0, none⟩ = some (.string x.1) := by simp [World.cell?, hbx]
  have hbx1 : W2.cell? ⟨W.heap.size, 1, none⟩ = some (.string x.2) := by simp [World.cell?, hbx]
  clear hW2
  obtain ⟨hc2, hf2⟩ := cell_of_box_a hv2
  have hBlt : Bs < W2.heap.size := (Array.getElem?_eq_some_iff.1 hv2).1
  have hl2 : l < W2.heap.size := (Array.getElem?_eq_some_iff.1 hL2).1
  have hDlt : D < W2.heap.size := (Array.getElem?_eq_some_iff.1 hK2).1
  have ne_of : ∀ {j : Nat} {o : Obj}, W2.heap[j]? = some o → (∀ cur, o ≠ .cells cur 198 (0, 0)) → some j ≠ v.ownBlock := fun hj hno => by
    rcases ownsRow_ne_a hrow2 hj hno with e | e
    · rw [e]; simp
    · exact fun e' => e e'.symm
  rw [← hWa]
  refine ⟨W2, hbr, ?_⟩
  unfold bodP
  simp only [rfCode, Tryz.f338]
  gi_wp2_with (first
    | (gi_at_builtin; refine wpListIn_append_own _ rfl _ _ 312 rfl w0.heap.size 198 i0 (.agg #[.string ⟨#[]⟩, .string ⟨#[]⟩]) 2 32 Tryz.underlying312 hi hz0 hz1 hz2 rfl (by decide) _ _ _ rfl (hrow2.alloc _) ⟨W2.heap.size, 0, none⟩ 1 1 (celP x) rfl rfl (cells_newP _ _) (by intro u hu; simp [celP] at hu; rcases hu with rfl | rfl <;> rfl) (by omega) (by omega) (by have := hb2.size; simp; omega) ?_; intro v' w3 hown' hg3 _
       have hv3 : w3.heap[Bs]? = some (.cells #[v] 312 (0, 0)) := (hg3.block Bs (by simp; omega) (ne_of hv2 (fun cur e => by cases e))).trans ((Below.heap_alloc _ _ Bs hBlt).trans hv2)
       obtain ⟨hc3, hf3⟩ := cell_of_box_a hv3
       obtain ⟨g', cap', cur', rfl, hbase', hgb', hr1, hr2, hr3, hr4⟩ : ∃ g' cap' cur', v' = .slice (some ⟨g', 0, none⟩) (ss.length + 1) cap' ∧ w0.heap.size ≤ g' ∧ w3.heap[g']? = some (.cells cur' 198 (0, 0)) ∧ ss.length + 1 ≤ cap' ∧ cap' ≤ maxLen ∧ cur'.size = cap' * 2 ∧ cur'.toList.take ((ss.length + 1) * 2) = ss.flatMap celP ++ celP x := by
         rcases hown'.2 with ⟨_, h0⟩ | h'
         · exact absurd h0 (by omega)
         · exact h'
       go_frame)
    | (rw [Oper.semAt_eq _ _ _ (fun c h => by cases h)]; go_simp; try go_bits))
  have hg3' : (W2.alloc (.cells ⟨celP x⟩ 198)).grownBy w3 v.ownBlock := hg3
  have hL3 : w3.heap[l]? = some (.loop { recP fn sv Bs D .ready none with state := .busy }) := (hg3'.block l (by simp; omega) (ne_of hL2 (fun cur e => by cases e))).trans ((Below.heap_alloc _ _ l hl2).trans hL2)
  have hK3 : w3.heap[D]? = some (.deferred (some [])) := (hg3'.block D (by simp; omega) (ne_of hK2 (fun cur e => by cases e))).trans ((Below.heap_alloc _ _ D hDlt).trans hK2)
  obtain ⟨w4, hw4⟩ : ∃ w4, w3.setCell ⟨Bs, 0, none⟩ (.slice (some ⟨g', 0, none⟩) (ss.length + 1) cap') = w4 := ⟨_, rfl⟩
  rw [hw4]
  have hg4 : w3.grownBy w4 (some Bs) := by rw [← hw4]; exact grownBy_setCell0_a _ _ _
  have hv4 : w4.heap[Bs]? = some (.cells #[.slice (some ⟨g', 0, none⟩) (ss.length + 1) cap'] 312 (0, 0)) := by rw [← hw4]; exact heap_setCell_box_a _ hv3
  have hL4 : w4.heap[l]? = some (.loop { recP fn sv Bs D .ready none with state := .busy }) := (hg4.block l (Array.getElem?_eq_some_iff.1 hL3).1 (fun e => hBl (by cases e; rfl))).trans hL3
  have hK4 : w4.heap[D]? = some (.deferred (some [])) := (hg4.block D (Array.getElem?_eq_some_iff.1 hK3).1 (fun e => _hDB (by cases e; rfl))).trans hK3
  have hrow4 := hown'.kept hg4 (ownsRow_ne_a hown' hv3 (fun cur e => by cases e))
  have hb3 : Below w0.heap.size w0 w3 := (hb2.alloc hb2.size _).grown hg3' (by have := hb2.size; simp; omega) (fun k e => (hrow2.lt k e).1)
  have hb4 : Below w0.heap.size w0 w4 := hb3.grown hg4 hb3.size (fun k e => by cases e; exact h0B)
  have hk4 : KeepsWalks W w4 := ((hk2.trans (KeepsWalks.alloc _ _)).trans (KeepsWalks.of_grownBy hg3' (ownsRow_not_walk_a (hrow2.alloc _)))).trans (by rw [← hw4]; exact KeepsWalks.setCell _ _ _)
  clear hw4
  refine ⟨_, _, run_endRound none hL4, rfl, ⟨⟨_, (World.putObj_heap_other hBl).trans hv4, ?_, fun he => absurd he (by simp)⟩, World.putObj_heap_same (Array.getElem?_eq_some_iff.1 hL4).1, (World.putObj_heap_other hDl).trans hK4, hb4.grown (grownBy_putObj_a _ _ _) hb4.size (fun k e => by cases e; exact h0l)⟩, hk4.trans (KeepsWalks.putObj _ hL4 rfl)⟩
  have := hrow4.kept (grownBy_putObj_a w4 l (.loop { { recP fn sv Bs D .ready none with state := .busy } with state := if (none : Option Code).isNone then .ready else .done, pending := none })) (ownsRow_ne_a hrow4 hL4 (fun cur e => by cases e))
  simpa using this
set_option maxHeartbeats 2000000 in
theorem appendSeqP_in (F : Fence) (n : Nat) (hf : F.fn 338) (hro : F.round = none) (hn : 2 ≤ n) (g : Nat) (lb : Array Value) (hFg : F.fn g) (eg : ∀ args w, (callFunc g args).run Tryz.prog w = .ok (.enter g args) w)
    (S : List ((ByteArray × ByteArray)) → Prop) (N : Nat) (hN : N ≤ maxLen) (hNb : N * 32 ≤ 140737488355328) (w : World) (hseq : SeqGives F (n - 1) Tryz.prog g lb encP S N w) :
    CallsIn F n Tryz.prog 338 #[.slice none 0 0, .func (.func g) #[] lb] w fun e w' => ∃ (v : Value) (ss : List ((ByteArray × ByteArray))), e = .returned v ∧ S ss ∧ w'.ownsRow w.heap.size 198 2 v ss.length (ss.flatMap celP) ∧ Below w.heap.size w w' ∧ (ss = [] → v = .slice none 0 0) := by
  have h1 : 1 ≤ n := by omega
  refine callsIn_of_wp_marks Tryz.func338 rfl hf ?_ hro
  simp only [Tryz.ntmps338, List.size_toArray, List.length_cons, List.length_nil, Nat.reduceAdd, Nat.reduceSub, Array.replicate_succ, Array.replicate_zero, List.push_toArray, List.append_toArray, List.nil_append, List.cons_append]
  gi_wp2
  refine wpIn_rangeFunc ?_
  intro fn hfn
  rw [hro]
  obtain ⟨W0, hW0⟩ : ∃ W0, w.alloc (.cells #[.slice none 0 0] 312) = W0 := ⟨_, rfl⟩
  have hs0 : W0.heap.size = w.heap.size + 1 := by rw [← hW0]; simp
  have hv0 : W0.heap[w.heap.size]? = some (.cells #[.slice none 0 0] 312 (0, 0)) := by rw [← hW0]; exact World.alloc_heap_new w _
  have hb0 : Below w.heap.size w W0 := by rw [← hW0]; exact (Below.refl _ w).alloc (Nat.le_refl _) _
  rw [hW0]
  obtain ⟨W1, hW1⟩ : ∃ W1, (W0.alloc (.deferred (some []))).alloc (.loop (recP fn (.func (.func g) #[] lb) w.heap.size W0.heap.size .ready none)) = W1 := ⟨_, rfl⟩
  have hold : ∀ k, k < W0.heap.size → W1.heap[k]? = W0.heap[k]? := fun k hk => by
    rw [← hW1]; exact (Below.heap_alloc _ _ k (by simp; omega)).trans (Below.heap_alloc _ _ k hk)
  have hb1 : Below w.heap.size w W1 := by rw [← hW1]; exact (hb0.alloc hb0.size _).alloc (by have := hb0.size; simp; omega) _
  have hs1 : W1.heap.size = W0.heap.size + 2 := by rw [← hW1]; simp
  have hM : AtP w fn (.func (.func g) #[] lb) w.heap.size (W0.heap.size + 1) W0.heap.size [] W1 :=
    ⟨⟨_, (hold w.heap.size (by omega)).trans hv0, ⟨rfl, .inl ⟨rfl, rfl⟩⟩, fun _ => rfl⟩,
     by rw [← hW1]; have := World.alloc_heap_new (W0.alloc (.deferred (some []))) (.loop (recP fn (.func (.func g) #[] lb) w.heap.size W0.heap.size .ready none)); rwa [World.size_alloc] at this,
     by rw [← hW1]; exact (Below.heap_alloc _ _ _ (by simp)).trans (World.alloc_heap_new W0 _), hb1⟩
  refine ⟨W0.heap.size + 1, [{ target := .collected W0.heap.size, args := #[] }], W1, { target := .fn (.func g) lb, args := #[.func (.yield (W0.heap.size + 1)) #[] #[]] }, W1, g,
    #[.func (.yield (W0.heap.size + 1)) #[] #[]] ++ lb, W1, ?_, ?_, ?_, ?_, fun _ => h1, ?_⟩
  · rw [← hW1]; exact run_enterLoop_outer _ _ _ _ _
  · simp [resolve, go_sem]
  · intro f' hf'; simp [Target.leads] at hf'; subst hf'; exact hFg
  · simp [invoke, go_sem, eg]
  · refine (hseq (W0.heap.size + 1) (AtP w fn (.func (.func g) #[] lb) w.heap.size (W0.heap.size + 1) W0.heap.size) W1 hb1 (abidesP _ _ _ _ _ _ _ hb1.size)
      (fun pre x W hJ hl => yieldP F (n - 1 - 1) w fn hfn _ w.heap.size (W0.heap.size + 1) W0.heap.size (by omega) (by omega) (by omega) (Nat.le_refl _) (by omega) N hN hNb pre x W hJ hl) hM).mono ?_
    rintro e W2 ⟨⟨v0, rfl⟩, ss, hS, h2⟩
    obtain ⟨v, hv, hrow, hnl⟩ := h2.box
    have hend := run_endLoop (P := Tryz.prog) h2.L (by simp [recP])
    obtain ⟨W3, hW3⟩ : ∃ W3, W2.putObj (W0.heap.size + 1) (.loop { recP fn (.func (.func g) #[] lb) w.heap.size W0.heap.size .ready none with state := .exhausted }) = W3 := ⟨_, rfl⟩
    rw [hW3] at hend
    have hg3 : W2.grownBy W3 (some (W0.heap.size + 1)) := by rw [← hW3]; exact grownBy_putObj_a _ _ _
    have hv3 : W3.heap[w.heap.size]? = some (.cells #[v] 312 (0, 0)) := by rw [← hW3]; exact (World.putObj_heap_other (by omega)).trans hv
    have hK3 : W3.heap[W0.heap.size]? = some (.deferred (some [])) := by rw [← hW3]; exact (World.putObj_heap_other (by omega)).trans h2.K
    have hrow3 := hrow.kept hg3 (ownsRow_ne_a hrow h2.L (fun cur e => by cases e))
    have hb3 : Below w.heap.size w W3 := h2.below.grown hg3 h2.below.size (fun k e => by cases e; omega)
    obtain ⟨hc3, hf3⟩ := cell_of_box_a hv3
    clear hW3
    refine ⟨none, W3, hend, ?_⟩
    gi_wp2
    rw [← hs0]
    refine ⟨by simp, .inl ⟨_, _, rfl, run_takeDeferred hK3, ?_⟩⟩
    exact ⟨_, results_tmp rfl _ _ _, v, ss, rfl, hS, hrow3.kept (grownBy_putObj_a _ _ _) (ownsRow_ne_a hrow3 hK3 (fun cur e => by cases e)), hb3.grown (grownBy_putObj_a _ _ _) hb3.size (fun k e => by cases e; omega), hnl⟩

/-! ### S -/
def encS (x : ByteArray) : Value := .string x
def celS (x : ByteArray) : List Value := [.string x]
noncomputable def asgS : Code := (rfCode Tryz.f291).1
noncomputable def bodS : Code := (rfCode Tryz.f291).2
section
variable {ν : Type} {vv : ν → Value}
set_option maxHeartbeats 1000000 in
theorem keysS_in (F : Fence) (n : Nat) (hf : F.fn 227) (hro : F.round = none) (hn : 1 ≤ n) (l Bm b : Nat) (m : List (ByteArray × ν)) (J : List (ByteArray) → World → Prop)
    (hY : ∀ pre x W, J pre W → pre.length < m.length → YieldAt F (n - 1) Tryz.prog l #[encS x] W fun e W' => e = .returned (.bool true) ∧ J (pre ++ [x]) W' ∧ KeepsWalks W W')
    (W : World) (hJ : AbidesFrom W.heap.size J) (hm : W.cell? ⟨Bm, 0, none⟩ = some (.map (some b))) (hown : MapW W b encS vv m) (h0 : J [] W) :
    CallsIn F n Tryz.prog 227 #[.func (.yield l) #[] #[], .pointer (some ⟨Bm, 0, none⟩)] W fun e W' => (∃ v, e = .returned v) ∧ ∃ ss : List (ByteArray), ss.Perm (m.map (·.1)) ∧ J ss W' := by
  refine callsIn_of_wp Tryz.func227 rfl hf ?_ hro
  simp only [Tryz.ntmps227, List.size_toArray, List.length_cons, List.length_nil, Nat.reduceAdd, Nat.reduceSub, Array.replicate_succ, Array.replicate_zero, List.push_toArray, List.append_toArray, List.nil_append, List.cons_append]
  gi_wp2_with (first
    | (gi_at_range; refine wpListIn_range_it _ rfl _ 157 rfl Tryz.underlying157 rfl hown ?_; intro w0 hrg0 hg0 hs0)
    | gi_in)
  go_frame
  gi_loopw [3] (fun _ wr => ∃ (rest : List (ByteArray × ν)) (ss : List (ByteArray)), IterW wr W.heap.size b encS vv m rest ∧ (ss ++ rest.map (·.1)).Perm (m.map (·.1)) ∧ J ss wr)
    (fun _ wr => wr.rangeLeft b W.heap.size)
  case atStart =>
    exact ⟨_, [], hrg0, by simp, hJ [] W w0 none h0 hg0 (fun r e => by cases e)⟩
  case round =>
    obtain ⟨rest, ss, hrg, hC, hJs⟩ := hrel
    gi_wp2_with (first
      | (gi_at_next; refine wpListIn_next_it _ rfl _ rfl rfl hrg ?_ ?_)
      | gi_in)
    · intro hc0
      gi_wp2
      go_end0
      exact ⟨⟨_, rfl⟩, ss, by subst hc0; simpa using hC, hJs⟩
    · intro r1 kh v r2 w2 hrest hrg2 hg2 hs2 hen
      have hlen : ss.length < m.length := by have := hC.length_eq; rw [hrest] at this; simp at this; omega
      have hJ2 : J ss w2 := hJ ss wr w2 (some W.heap.size) hJs hg2 (fun r e => by cases e; exact ⟨Nat.le_refl _, hrg.walk⟩)
      have hrg2a := hrg2
      obtain ⟨fn, tmps, assign, body, hy, hR⟩ := hY ss kh _ hJ2 hlen
      simp only [encS] at hen hy ⊢
      clear hs2
      gi_wp2
      refine hR.mono ?_
      rintro e W3 ⟨rfl, hJ3, hk3⟩
      gi_wp2
      have hrg3 := hrg2a.of_walks hk3
      go_roundw
      case rel => exact ⟨_, ss ++ [kh], hrg3, by
        rw [hrest] at hC
        refine List.Perm.trans ?_ hC
        simp only [List.map_append, List.map_cons, List.append_assoc]
        refine List.Perm.append_left ss ?_
        simp only [List.singleton_append]
        exact List.perm_middle.symm, hJ3⟩
      case measure => rw [hrg3.left, hrg.left, hrest]; simp
theorem givesS (F : Fence) (n : Nat) (hf : F.fn 227) (hro : F.round = none) (hn : 1 ≤ n) (Bm b : Nat) (m : List (ByteArray × ν)) (w : World) (hBm : Bm < w.heap.size)
    (hm : w.cell? ⟨Bm, 0, none⟩ = some (.map (some b))) (hown : MapW w b encS vv m) : SeqGives F n Tryz.prog 227 #[.pointer (some ⟨Bm, 0, none⟩)] encS (fun ss => ss.Perm (m.map (·.1))) m.length w := fun l J W hW hJ hY h0 =>
  keysS_in F n hf hro hn l Bm b m J hY W hJ ((hW.cell (p := ⟨Bm, 0, none⟩) hBm).trans hm) (hown.later hW) h0
end
section
variable {ν : Type} {vv : ν → Value}
set_option maxHeartbeats 1000000 in
theorem keysD_in (F : Fence) (n : Nat) (hf : F.fn 218) (hro : F.round = none) (hn : 1 ≤ n) (l Bm b : Nat) (m : List (ByteArray × ν)) (J : List (ByteArray) → World → Prop)
    (hY : ∀ pre x W, J pre W → pre.length < m.length → YieldAt F (n - 1) Tryz.prog l #[encS x] W fun e W' => e = .returned (.bool true) ∧ J (pre ++ [x]) W' ∧ KeepsWalks W W')
    (W : World) (hJ : AbidesFrom W.heap.size J) (hm : W.cell? ⟨Bm, 0, none⟩ = some (.map (some b))) (hown : MapW W b encS vv m) (h0 : J [] W) :
    CallsIn F n Tryz.prog 218 #[.func (.yield l) #[] #[], .pointer (some ⟨Bm, 0, none⟩)] W fun e W' => (∃ v, e = .returned v) ∧ ∃ ss : List (ByteArray), ss.Perm (m.map (·.1)) ∧ J ss W' := by
  refine callsIn_of_wp Tryz.func218 rfl hf ?_ hro
  simp only [Tryz.ntmps218, List.size_toArray, List.length_cons, List.length_nil, Nat.reduceAdd, Nat.reduceSub, Array.replicate_succ, Array.replicate_zero, List.push_toArray, List.append_toArray, List.nil_append, List.cons_append]
  gi_wp2_with (first
    | (gi_at_range; refine wpListIn_range_it _ rfl _ 94 rfl Tryz.underlying94 rfl hown ?_; intro w0 hrg0 hg0 hs0)
    | gi_in)
  go_frame
  gi_loopw [3] (fun _ wr => ∃ (rest : List (ByteArray × ν)) (ss : List (ByteArray)), IterW wr W.heap.size b encS vv m rest ∧ (ss ++ rest.map (·.1)).Perm (m.map (·.1)) ∧ J ss wr)
    (fun _ wr => wr.rangeLeft b W.heap.size)
  case atStart =>
    exact ⟨_, [], hrg0, by simp, hJ [] W w0 none h0 hg0 (fun r e => by cases e)⟩
  case round =>
    obtain ⟨rest, ss, hrg, hC, hJs⟩ := hrel
    gi_wp2_with (first
      | (gi_at_next; refine wpListIn_next_it _ rfl _ rfl rfl hrg ?_ ?_)
      | gi_in)
    · intro hc0
      gi_wp2
      go_end0
      exact ⟨⟨_, rfl⟩, ss, by subst hc0; simpa using hC, hJs⟩
    · intro r1 kh v r2 w2 hrest hrg2 hg2 hs2 hen
      have hlen : ss.length < m.length := by have := hC.length_eq; rw [hrest] at this; simp at this; omega
      have hJ2 : J ss w2 := hJ ss wr w2 (some W.heap.size) hJs hg2 (fun r e => by cases e; exact ⟨Nat.le_refl _, hrg.walk⟩)
      have hrg2a := hrg2
      obtain ⟨fn, tmps, assign, body, hy, hR⟩ := hY ss kh _ hJ2 hlen
      simp only [encS] at hen hy ⊢
      clear hs2
      gi_wp2
      refine hR.mono ?_
      rintro e W3 ⟨rfl, hJ3, hk3⟩
      gi_wp2
      have hrg3 := hrg2a.of_walks hk3
      go_roundw
      case rel => exact ⟨_, ss ++ [kh], hrg3, by
        rw [hrest] at hC
        refine List.Perm.trans ?_ hC
        simp only [List.map_append, List.map_cons, List.append_assoc]
        refine List.Perm.append_left ss ?_
        simp only [List.singleton_append]
        exact List.perm_middle.symm, hJ3⟩
      case measure => rw [hrg3.left, hrg.left, hrest]; simp
theorem givesD (F : Fence) (n : Nat) (hf : F.fn 218) (hro : F.round = none) (hn : 1 ≤ n) (Bm b : Nat) (m : List (ByteArray × ν)) (w : World) (hBm : Bm < w.heap.size)
    (hm : w.cell? ⟨Bm, 0, none⟩ = some (.map (some b))) (hown : MapW w b encS vv m) : SeqGives F n Tryz.prog 218 #[.pointer (some ⟨Bm, 0, none⟩)] encS (fun ss => ss.Perm (m.map (·.1))) m.length w := fun l J W hW hJ hY h0 =>
  keysD_in F n hf hro hn l Bm b m J hY W hJ ((hW.cell (p := ⟨Bm, 0, none⟩) hBm).trans hm) (hown.later hW) h0
end
noncomputable def recS (fn : FuncId) (sv : Value) (Bs D : Nat) (st : LoopState) (pend : Option Code) : Loop :=
  { state := st, pending := pend, fn, tmps := #[.slice none 0 0, sv, .pointer (some ⟨Bs, 0, none⟩), undef, .slice none 0 0, undef, sv, undef, undef, undef, undef, undef, undef], params := #[7], assign := asgS, body := bodS, defers := D }
structure AtS (w0 : World) (fn : FuncId) (sv : Value) (Bs l D : Nat) (ss : List (ByteArray)) (W : World) : Prop where
  box : ∃ v, W.heap[Bs]? = some (.cells #[v] 173 (0, 0)) ∧ W.ownsRow w0.heap.size 9 1 v ss.length (ss.flatMap celS) ∧ (ss = [] → v = .slice none 0 0)
  L : W.heap[l]? = some (.loop (recS fn sv Bs D .ready none))
  K : W.heap[D]? = some (.deferred (some []))
  below : Below w0.heap.size w0 W
theorem abidesS (w0 : World) (fn : FuncId) (sv : Value) (Bs l D B : Nat) (hB : w0.heap.size ≤ B) : AbidesFrom B (AtS w0 fn sv Bs l D) := fun s W W' row h hg hrow => by
  have hrow' : ∀ r, row = some r → ∃ o : Obj, W.heap[r]? = some o ∧ o.isWalk = true := fun r e => (hrow r e).2
  obtain ⟨v, hv, hr, hnl⟩ := h.box
  exact ⟨⟨v, (grownBy_keeps hg hrow' hv rfl).trans hv, ownsRow_abides_a hr hg hrow', hnl⟩, (grownBy_keeps hg hrow' h.L rfl).trans h.L, (grownBy_keeps hg hrow' h.K rfl).trans h.K,
    h.below.grown hg h.below.size (fun k e => Nat.le_trans hB (hrow k e).1)⟩
theorem cells_newS (w : World) (x : ByteArray) : ∀ j u, (celS x)[j]? = some u → (w.alloc (.cells ⟨celS x⟩ 9)).cell? ((⟨w.heap.size, 0, none⟩ : Addr).add j) = some u := fun j u hj => by
  rw [add_mk, Nat.zero_add, cell_of (World.alloc_heap_new w _)]; exact hj
set_option maxHeartbeats 2000000 in
theorem yieldS (F : Fence) (m : Nat) (w0 : World) (fn : FuncId) (hfn : F.fn fn) (sv : Value) (Bs l D : Nat) (hBl : Bs ≠ l) (hDl : D ≠ l) (_hDB : D ≠ Bs) (h0B : w0.heap.size ≤ Bs) (h0l : w0.heap.size ≤ l)
    (N : Nat) (hN : N ≤ maxLen) (hNb : N * 16 ≤ 140737488355328) (ss : List (ByteArray)) (x : ByteArray) (W : World) (h : AtS w0 fn sv Bs l D ss W) (hlen : ss.length < N) :
    YieldAt F m Tryz.prog l #[encS x] W fun e W' => e = .returned (.bool true) ∧ AtS w0 fn sv Bs l D (ss ++ [x]) W' ∧ KeepsWalks W W' := by
  obtain ⟨i0, hi, hz0, hz1, hz2⟩ := info_parts (P := Tryz.prog) (e := 9) (z := .string ⟨#[]⟩) (size := 1) (bytes := 16) (by kernel_rfl)
  obtain ⟨v, hv, hrow, _⟩ := h.box
  refine ⟨fn, #[.slice none 0 0, sv, .pointer (some ⟨Bs, 0, none⟩), undef, .slice none 0 0, undef, sv, encS x, undef, undef, undef, undef, undef], asgS, bodS, by simpa [recS] using run_yield (P := Tryz.prog) (args := #[encS x]) h.L rfl, roundIn_of_wpIn hfn ?_⟩
  -- what the assignment lays
  unfold asgS
  simp only [rfCode, Tryz.f291, encS]
  gi_wp2_with (rw [Oper.semAt_eq _ _ _ (fun c h => by cases h)]; go_simp; try go_bits)
  obtain ⟨Wa, hWa⟩ : ∃ Wa, Wa = W := ⟨_, rfl⟩
  have hga : W.grownBy Wa none := by rw [hWa]; exact ⟨rfl, rfl, rfl, Nat.le_refl _, fun _ _ _ => rfl⟩
  have hka : KeepsWalks W Wa := KeepsWalks.of_grownBy hga (fun j o e => by cases e)
  have olda : ∀ k, k < W.heap.size → Wa.heap[k]? = W.heap[k]? := fun k hk => hga.block k hk (by simp)
  have hva : Wa.heap[Bs]? = some (.cells #[v] 173 (0, 0)) := (olda _ (Array.getElem?_eq_some_iff.1 hv).1).trans hv
  have hKa : Wa.heap[D]? = some (.deferred (some [])) := (olda _ (Array.getElem?_eq_some_iff.1 h.K).1).trans h.K
  have hLa : Wa.heap[l]? = some (.loop (recS fn sv Bs D .ready none)) := (olda _ (Array.getElem?_eq_some_iff.1 h.L).1).trans h.L
  have hrowa : Wa.ownsRow w0.heap.size 9 1 v ss.length (ss.flatMap celS) := hrow.kept hga (by cases hvo : v.ownBlock with | none => exact .inl rfl | some j => exact .inr (by simp))
  have hba : Below w0.heap.size w0 Wa := h.below.grown hga h.below.size (fun k e => by cases e)
  have hl : l < Wa.heap.size := (Array.getElem?_eq_some_iff.1 hLa).1
  have hbr := run_beginRound (P := Tryz.prog) hLa rfl
  obtain ⟨W2, hW2⟩ : ∃ W2, Wa.putObj l (.loop { recS fn sv Bs D .ready none with state := .busy }) = W2 := ⟨_, rfl⟩
  rw [hW2] at hbr
  have hg2 : Wa.grownBy W2 (some l) := by rw [← hW2]; exact grownBy_putObj_a _ _ _
  have hk2 : KeepsWalks W W2 := hka.trans (by rw [← hW2]; exact KeepsWalks.putObj _ hLa rfl)
  have hv2 : W2.heap[Bs]? = some (.cells #[v] 173 (0, 0)) := by rw [← hW2]; exact (World.putObj_heap_other hBl).trans hva
  have hK2 : W2.heap[D]? = some (.deferred (some [])) := by rw [← hW2]; exact (World.putObj_heap_other hDl).trans hKa
  have hL2 : W2.heap[l]? = some (.loop { recS fn sv Bs D .ready none with state := .busy }) := by rw [← hW2]; exact World.putObj_heap_same hl
  have hrow2 : W2.ownsRow w0.heap.size 9 1 v ss.length (ss.flatMap celS) := hrowa.kept hg2 (ownsRow_ne_a hrowa hLa (fun cur e => by cases e))
  have hb2 : Below w0.heap.size w0 W2 := hba.grown hg2 hba.size (fun k e => by cases e; exact h0l)
  clear hW2
  obtain ⟨hc2, hf2⟩ := cell_of_box_a hv2
  have hBlt : Bs < W2.heap.size := (Array.getElem?_eq_some_iff.1 hv2).1
  have hl2 : l < W2.heap.size := (Array.getElem?_eq_some_iff.1 hL2).1
  have hDlt : D < W2.heap.size := (Array.getElem?_eq_some_iff.1 hK2).1
  have ne_of : ∀ {j : Nat} {o : Obj}, W2.heap[j]? = some o → (∀ cur, o ≠ .cells cur 9 (0, 0)) → some j ≠ v.ownBlock := fun hj hno => by
    rcases ownsRow_ne_a hrow2 hj hno with e | e
    · rw [e]; simp
    · exact fun e' => e e'.symm
  rw [hWa] at hbr
  refine ⟨W2, hbr, ?_⟩
  unfold bodS
  simp only [rfCode, Tryz.f291]
  gi_wp2_with (first
    | (gi_at_builtin; refine wpListIn_append_own _ rfl _ _ 173 rfl w0.heap.size 9 i0 (.string ⟨#[]⟩) 1 16 Tryz.underlying173 hi hz0 hz1 hz2 rfl (by decide) _ _ _ rfl (hrow2.alloc _) ⟨W2.heap.size, 0, none⟩ 1 1 (celS x) rfl rfl (cells_newS _ _) (by intro u hu; simp [celS] at hu; rcases hu with rfl <;> rfl) (by omega) (by omega) (by have := hb2.size; simp; omega) ?_; intro v' w3 hown' hg3 _
       have hv3 : w3.heap[Bs]? = some (.cells #[v] 173 (0, 0)) := (hg3.block Bs (by simp; omega) (ne_of hv2 (fun cur e => by cases e))).trans ((Below.heap_alloc _ _ Bs hBlt).trans hv2)
       obtain ⟨hc3, hf3⟩ := cell_of_box_a hv3
       obtain ⟨g', cap', cur', rfl, hbase', hgb', hr1, hr2, hr3, hr4⟩ : ∃ g' cap' cur', v' = .slice (some ⟨g', 0, none⟩) (ss.length + 1) cap' ∧ w0.heap.size ≤ g' ∧ w3.heap[g']? = some (.cells cur' 9 (0, 0)) ∧ ss.length + 1 ≤ cap' ∧ cap' ≤ maxLen ∧ cur'.size = cap' * 1 ∧ cur'.toList.take ((ss.length + 1) * 1) = ss.flatMap celS ++ celS x := by
         rcases hown'.2 with ⟨_, h0⟩ | h'
         · exact absurd h0 (by omega)
         · exact h'
       go_frame)
    | (rw [Oper.semAt_eq _ _ _ (fun c h => by cases h)]; go_simp; try go_bits))
  have hg3' : (W2.alloc (.cells ⟨celS x⟩ 9)).grownBy w3 v.ownBlock := hg3
  have hL3 : w3.heap[l]? = some (.loop { recS fn sv Bs D .ready none with state := .busy }) := (hg3'.block l (by simp; omega) (ne_of hL2 (fun cur e => by cases e))).trans ((Below.heap_alloc _ _ l hl2).trans hL2)
  have hK3 : w3.heap[D]? = some (.deferred (some [])) := (hg3'.block D (by simp; omega) (ne_of hK2 (fun cur e => by cases e))).trans ((Below.heap_alloc _ _ D hDlt).trans hK2)
  obtain ⟨w4, hw4⟩ : ∃ w4, w3.setCell ⟨Bs, 0, none⟩ (.slice (some ⟨g', 0, none⟩) (ss.length + 1) cap') = w4 := ⟨_, rfl⟩
  rw [hw4]
  have hg4 : w3.grownBy w4 (some Bs) := by rw [← hw4]; exact grownBy_setCell0_a _ _ _
  have hv4 : w4.heap[Bs]? = some (.cells #[.slice (some ⟨g', 0, none⟩) (ss.length + 1) cap'] 173 (0, 0)) := by rw [← hw4]; exact heap_setCell_box_a _ hv3
  have hL4 : w4.heap[l]? = some (.loop { recS fn sv Bs D .ready none with state := .busy }) := (hg4.block l (Array.getElem?_eq_some_iff.1 hL3).1 (fun e => hBl (by cases e; rfl))).trans hL3
  have hK4 : w4.heap[D]? = some (.deferred (some [])) := (hg4.block D (Array.getElem?_eq_some_iff.1 hK3).1 (fun e => _hDB (by cases e; rfl))).trans hK3
  have hrow4 := hown'.kept hg4 (ownsRow_ne_a hown' hv3 (fun cur e => by cases e))
  have hb3 : Below w0.heap.size w0 w3 := (hb2.alloc hb2.size _).grown hg3' (by have := hb2.size; simp; omega) (fun k e => (hrow2.lt k e).1)
  have hb4 : Below w0.heap.size w0 w4 := hb3.grown hg4 hb3.size (fun k e => by cases e; exact h0B)
  have hk4 : KeepsWalks W w4 := ((hk2.trans (KeepsWalks.alloc _ _)).trans (KeepsWalks.of_grownBy hg3' (ownsRow_not_walk_a (hrow2.alloc _)))).trans (by rw [← hw4]; exact KeepsWalks.setCell _ _ _)
  clear hw4
  refine ⟨_, _, run_endRound none hL4, rfl, ⟨⟨_, (World.putObj_heap_other hBl).trans hv4, ?_, fun he => absurd he (by simp)⟩, World.putObj_heap_same (Array.getElem?_eq_some_iff.1 hL4).1, (World.putObj_heap_other hDl).trans hK4, hb4.grown (grownBy_putObj_a _ _ _) hb4.size (fun k e => by cases e; exact h0l)⟩, hk4.trans (KeepsWalks.putObj _ hL4 rfl)⟩
  have := hrow4.kept (grownBy_putObj_a w4 l (.loop { { recS fn sv Bs D .ready none with state := .busy } with state := if (none : Option Code).isNone then .ready else .done, pending := none })) (ownsRow_ne_a hrow4 hL4 (fun cur e => by cases e))
  simpa using this
set_option maxHeartbeats 2000000 in
theorem appendSeqS_in (F : Fence) (n : Nat) (hf : F.fn 291) (hro : F.round = none) (hn : 2 ≤ n) (g : Nat) (lb : Array Value) (hFg : F.fn g) (eg : ∀ args w, (callFunc g args).run Tryz.prog w = .ok (.enter g args) w)
    (S : List (ByteArray) → Prop) (N : Nat) (hN : N ≤ maxLen) (hNb : N * 16 ≤ 140737488355328) (w : World) (hseq : SeqGives F (n - 1) Tryz.prog g lb encS S N w) :
    CallsIn F n Tryz.prog 291 #[.slice none 0 0, .func (.func g) #[] lb] w fun e w' => ∃ (v : Value) (ss : List (ByteArray)), e = .returned v ∧ S ss ∧ w'.ownsRow w.heap.size 9 1 v ss.length (ss.flatMap celS) ∧ Below w.heap.size w w' ∧ (ss = [] → v = .slice none 0 0) := by
  have h1 : 1 ≤ n := by omega
  refine callsIn_of_wp_marks Tryz.func291 rfl hf ?_ hro
  simp only [Tryz.ntmps291, List.size_toArray, List.length_cons, List.length_nil, Nat.reduceAdd, Nat.reduceSub, Array.replicate_succ, Array.replicate_zero, List.push_toArray, List.append_toArray, List.nil_append, List.cons_append]
  gi_wp2
  refine wpIn_rangeFunc ?_
  intro fn hfn
  rw [hro]
  obtain ⟨W0, hW0⟩ : ∃ W0, w.alloc (.cells #[.slice none 0 0] 173) = W0 := ⟨_, rfl⟩
  have hs0 : W0.heap.size = w.heap.size + 1 := by rw [← hW0]; simp
  have hv0 : W0.heap[w.heap.size]? = some (.cells #[.slice none 0 0] 173 (0, 0)) := by rw [← hW0]; exact World.alloc_heap_new w _
  have hb0 : Below w.heap.size w W0 := by rw [← hW0]; exact (Below.refl _ w).alloc (Nat.le_refl _) _
  rw [hW0]
  obtain ⟨W1, hW1⟩ : ∃ W1, (W0.alloc (.deferred (some []))).alloc (.loop (recS fn (.func (.func g) #[] lb) w.heap.size W0.heap.size .ready none)) = W1 := ⟨_, rfl⟩
  have hold : ∀ k, k < W0.heap.size → W1.heap[k]? = W0.heap[k]? := fun k hk => by
    rw [← hW1]; exact (Below.heap_alloc _ _ k (by simp; omega)).trans (Below.heap_alloc _ _ k hk)
  have hb1 : Below w.heap.size w W1 := by rw [← hW1]; exact (hb0.alloc hb0.size _).alloc (by have := hb0.size; simp; omega) _
  have hs1 : W1.heap.size = W0.heap.size + 2 := by rw [← hW1]; simp
  have hM : AtS w fn (.func (.func g) #[] lb) w.heap.size (W0.heap.size + 1) W0.heap.size [] W1 :=
    ⟨⟨_, (hold w.heap.size (by omega)).trans hv0, ⟨rfl, .inl ⟨rfl, rfl⟩⟩, fun _ => rfl⟩,
     by rw [← hW1]; have := World.alloc_heap_new (W0.alloc (.deferred (some []))) (.loop (recS fn (.func (.func g) #[] lb) w.heap.size W0.heap.size .ready none)); rwa [World.size_alloc] at this,
     by rw [← hW1]; exact (Below.heap_alloc _ _ _ (by simp)).trans (World.alloc_heap_new W0 _), hb1⟩
  refine ⟨W0.heap.size + 1, [{ target := .collected W0.heap.size, args := #[] }], W1, { target := .fn (.func g) lb, args := #[.func (.yield (W0.heap.size + 1)) #[] #[]] }, W1, g,
    #[.func (.yield (W0.heap.size + 1)) #[] #[]] ++ lb, W1, ?_, ?_, ?_, ?_, fun _ => h1, ?_⟩
  · rw [← hW1]; exact run_enterLoop_outer _ _ _ _ _
  · simp [resolve, go_sem]
  · intro f' hf'; simp [Target.leads] at hf'; subst hf'; exact hFg
  · simp [invoke, go_sem, eg]
  · refine (hseq (W0.heap.size + 1) (AtS w fn (.func (.func g) #[] lb) w.heap.size (W0.heap.size + 1) W0.heap.size) W1 hb1 (abidesS _ _ _ _ _ _ _ hb1.size)
      (fun pre x W hJ hl => yieldS F (n - 1 - 1) w fn hfn _ w.heap.size (W0.heap.size + 1) W0.heap.size (by omega) (by omega) (by omega) (Nat.le_refl _) (by omega) N hN hNb pre x W hJ hl) hM).mono ?_
    rintro e W2 ⟨⟨v0, rfl⟩, ss, hS, h2⟩
    obtain ⟨v, hv, hrow, hnl⟩ := h2.box
    have hend := run_endLoop (P := Tryz.prog) h2.L (by simp [recS])
    obtain ⟨W3, hW3⟩ : ∃ W3, W2.putObj (W0.heap.size + 1) (.loop { recS fn (.func (.func g) #[] lb) w.heap.size W0.heap.size .ready none with state := .exhausted }) = W3 := ⟨_, rfl⟩
    rw [hW3] at hend
    have hg3 : W2.grownBy W3 (some (W0.heap.size + 1)) := by rw [← hW3]; exact grownBy_putObj_a _ _ _
    have hv3 : W3.heap[w.heap.size]? = some (.cells #[v] 173 (0, 0)) := by rw [← hW3]; exact (World.putObj_heap_other (by omega)).trans hv
    have hK3 : W3.heap[W0.heap.size]? = some (.deferred (some [])) := by rw [← hW3]; exact (World.putObj_heap_other (by omega)).trans h2.K
    have hrow3 := hrow.kept hg3 (ownsRow_ne_a hrow h2.L (fun cur e => by cases e))
    have hb3 : Below w.heap.size w W3 := h2.below.grown hg3 h2.below.size (fun k e => by cases e; omega)
    obtain ⟨hc3, hf3⟩ := cell_of_box_a hv3
    clear hW3
    refine ⟨none, W3, hend, ?_⟩
    gi_wp2
    rw [← hs0]
    refine ⟨by simp, .inl ⟨_, _, rfl, run_takeDeferred hK3, ?_⟩⟩
    exact ⟨_, results_tmp rfl _ _ _, v, ss, rfl, hS, hrow3.kept (grownBy_putObj_a _ _ _) (ownsRow_ne_a hrow3 hK3 (fun cur e => by cases e)), hb3.grown (grownBy_putObj_a _ _ _) hb3.size (fun k e => by cases e; omega), hnl⟩

/-! ### I -/
def encI (x : Int) : Value := .int .i64 x
def celI (x : Int) : List Value := [.int .i64 x]
noncomputable def asgI : Code := (rfCode Tryz.f367).1
noncomputable def bodI : Code := (rfCode Tryz.f367).2
section
variable {ν : Type} {vv : ν → Value}
set_option maxHeartbeats 1000000 in
theorem keysI_in (F : Fence) (n : Nat) (hf : F.fn 344) (hro : F.round = none) (hn : 1 ≤ n) (l Bm b : Nat) (m : List (Int × ν)) (J : List (Int) → World → Prop)
    (hY : ∀ pre x W, J pre W → pre.length < m.length → YieldAt F (n - 1) Tryz.prog l #[encI x] W fun e W' => e = .returned (.bool true) ∧ J (pre ++ [x]) W' ∧ KeepsWalks W W')
    (W : World) (hJ : AbidesFrom W.heap.size J) (hm : W.cell? ⟨Bm, 0, none⟩ = some (.map (some b))) (hown : MapW W b encI vv m) (h0 : J [] W) :
    CallsIn F n Tryz.prog 344 #[.func (.yield l) #[] #[], .pointer (some ⟨Bm, 0, none⟩)] W fun e W' => (∃ v, e = .returned v) ∧ ∃ ss : List (Int), ss.Perm (m.map (·.1)) ∧ J ss W' := by
  refine callsIn_of_wp Tryz.func344 rfl hf ?_ hro
  simp only [Tryz.ntmps344, List.size_toArray, List.length_cons, List.length_nil, Nat.reduceAdd, Nat.reduceSub, Array.replicate_succ, Array.replicate_zero, List.push_toArray, List.append_toArray, List.nil_append, List.cons_append]
  gi_wp2_with (first
    | (gi_at_range; refine wpListIn_range_it _ rfl _ 159 rfl Tryz.underlying159 rfl hown ?_; intro w0 hrg0 hg0 hs0)
    | gi_in)
  go_frame
  gi_loopw [3] (fun _ wr => ∃ (rest : List (Int × ν)) (ss : List (Int)), IterW wr W.heap.size b encI vv m rest ∧ (ss ++ rest.map (·.1)).Perm (m.map (·.1)) ∧ J ss wr)
    (fun _ wr => wr.rangeLeft b W.heap.size)
  case atStart =>
    exact ⟨_, [], hrg0, by simp, hJ [] W w0 none h0 hg0 (fun r e => by cases e)⟩
  case round =>
    obtain ⟨rest, ss, hrg, hC, hJs⟩ := hrel
    gi_wp2_with (first
      | (gi_at_next; refine wpListIn_next_it _ rfl _ rfl rfl hrg ?_ ?_)
      | gi_in)
    · intro hc0
      gi_wp2
      go_end0
      exact ⟨⟨_, rfl⟩, ss, by subst hc0; simpa using hC, hJs⟩
    · intro r1 kh v r2 w2 hrest hrg2 hg2 hs2 hen
      have hlen : ss.length < m.length := by have := hC.length_eq; rw [hrest] at this; simp at this; omega
      have hJ2 : J ss w2 := hJ ss wr w2 (some W.heap.size) hJs hg2 (fun r e => by cases e; exact ⟨Nat.le_refl _, hrg.walk⟩)
      have hrg2a := hrg2
      obtain ⟨fn, tmps, assign, body, hy, hR⟩ := hY ss kh _ hJ2 hlen
      simp only [encI] at hen hy ⊢
      clear hs2
      gi_wp2
      refine hR.mono ?_
      rintro e W3 ⟨rfl, hJ3, hk3⟩
      gi_wp2
      have hrg3 := hrg2a.of_walks hk3
      go_roundw
      case rel => exact ⟨_, ss ++ [kh], hrg3, by
        rw [hrest] at hC
        refine List.Perm.trans ?_ hC
        simp only [List.map_append, List.map_cons, List.append_assoc]
        refine List.Perm.append_left ss ?_
        simp only [List.singleton_append]
        exact List.perm_middle.symm, hJ3⟩
      case measure => rw [hrg3.left, hrg.left, hrest]; simp
theorem givesI (F : Fence) (n : Nat) (hf : F.fn 344) (hro : F.round = none) (hn : 1 ≤ n) (Bm b : Nat) (m : List (Int × ν)) (w : World) (hBm : Bm < w.heap.size)
    (hm : w.cell? ⟨Bm, 0, none⟩ = some (.map (some b))) (hown : MapW w b encI vv m) : SeqGives F n Tryz.prog 344 #[.pointer (some ⟨Bm, 0, none⟩)] encI (fun ss => ss.Perm (m.map (·.1))) m.length w := fun l J W hW hJ hY h0 =>
  keysI_in F n hf hro hn l Bm b m J hY W hJ ((hW.cell (p := ⟨Bm, 0, none⟩) hBm).trans hm) (hown.later hW) h0
end
noncomputable def recI (fn : FuncId) (sv : Value) (Bs D : Nat) (st : LoopState) (pend : Option Code) : Loop :=
  { state := st, pending := pend, fn, tmps := #[.slice none 0 0, sv, .pointer (some ⟨Bs, 0, none⟩), undef, .slice none 0 0, undef, sv, undef, undef, undef, undef, undef, undef], params := #[7], assign := asgI, body := bodI, defers := D }
structure AtI (w0 : World) (fn : FuncId) (sv : Value) (Bs l D : Nat) (ss : List (Int)) (W : World) : Prop where
  box : ∃ v, W.heap[Bs]? = some (.cells #[v] 23 (0, 0)) ∧ W.ownsRow w0.heap.size 3 1 v ss.length (ss.flatMap celI) ∧ (ss = [] → v = .slice none 0 0)
  L : W.heap[l]? = some (.loop (recI fn sv Bs D .ready none))
  K : W.heap[D]? = some (.deferred (some []))
  below : Below w0.heap.size w0 W
theorem abidesI (w0 : World) (fn : FuncId) (sv : Value) (Bs l D B : Nat) (hB : w0.heap.size ≤ B) : AbidesFrom B (AtI w0 fn sv Bs l D) := fun s W W' row h hg hrow => by
  have hrow' : ∀ r, row = some r → ∃ o : Obj, W.heap[r]? = some o ∧ o.isWalk = true := fun r e => (hrow r e).2
  obtain ⟨v, hv, hr, hnl⟩ := h.box
  exact ⟨⟨v, (grownBy_keeps hg hrow' hv rfl).trans hv, ownsRow_abides_a hr hg hrow', hnl⟩, (grownBy_keeps hg hrow' h.L rfl).trans h.L, (grownBy_keeps hg hrow' h.K rfl).trans h.K,
    h.below.grown hg h.below.size (fun k e => Nat.le_trans hB (hrow k e).1)⟩
theorem cells_newI (w : World) (x : Int) : ∀ j u, (celI x)[j]? = some u → (w.alloc (.cells ⟨celI x⟩ 3)).cell? ((⟨w.heap.size, 0, none⟩ : Addr).add j) = some u := fun j u hj => by
  rw [add_mk, Nat.zero_add, cell_of (World.alloc_heap_new w _)]; exact hj
set_option maxHeartbeats 2000000 in
theorem yieldI (F : Fence) (m : Nat) (w0 : World) (fn : FuncId) (hfn : F.fn fn) (sv : Value) (Bs l D : Nat) (hBl : Bs ≠ l) (hDl : D ≠ l) (_hDB : D ≠ Bs) (h0B : w0.heap.size ≤ Bs) (h0l : w0.heap.size ≤ l)
    (N : Nat) (hN : N ≤ maxLen) (hNb : N * 8 ≤ 140737488355328) (ss : List (Int)) (x : Int) (W : World) (h : AtI w0 fn sv Bs l D ss W) (hlen : ss.length < N) :
    YieldAt F m Tryz.prog l #[encI x] W fun e W' => e = .returned (.bool true) ∧ AtI w0 fn sv Bs l D (ss ++ [x]) W' ∧ KeepsWalks W W' := by
  obtain ⟨i0, hi, hz0, hz1, hz2⟩ := info_parts (P := Tryz.prog) (e := 3) (z := .int .i64 0) (size := 1) (bytes := 8) (by kernel_rfl)
  obtain ⟨v, hv, hrow, _⟩ := h.box
  refine ⟨fn, #[.slice none 0 0, sv, .pointer (some ⟨Bs, 0, none⟩), undef, .slice none 0 0, undef, sv, encI x, undef, undef, undef, undef, undef], asgI, bodI, by simpa [recI] using run_yield (P := Tryz.prog) (args := #[encI x]) h.L rfl, roundIn_of_wpIn hfn ?_⟩
  -- what the assignment lays
  unfold asgI
  simp only [rfCode, Tryz.f367, encI]
  gi_wp2_with (rw [Oper.semAt_eq _ _ _ (fun c h => by cases h)]; go_simp; try go_bits)
  obtain ⟨Wa, hWa⟩ : ∃ Wa, Wa = W := ⟨_, rfl⟩
  have hga : W.grownBy Wa none := by rw [hWa]; exact ⟨rfl, rfl, rfl, Nat.le_refl _, fun _ _ _ => rfl⟩
  have hka : KeepsWalks W Wa := KeepsWalks.of_grownBy hga (fun j o e => by cases e)
  have olda : ∀ k, k < W.heap.size → Wa.heap[k]? = W.heap[k]? := fun k hk => hga.block k hk (by simp)
  have hva : Wa.heap[Bs]? = some (.cells #[v] 23 (0, 0)) := (olda _ (Array.getElem?_eq_some_iff.1 hv).1).trans hv
  have hKa : Wa.heap[D]? = some (.deferred (some [])) := (olda _ (Array.getElem?_eq_some_iff.1 h.K).1).trans h.K
  have hLa : Wa.heap[l]? = some (.loop (recI fn sv Bs D .ready none)) := (olda _ (Array.getElem?_eq_some_iff.1 h.L).1).trans h.L
  have hrowa : Wa.ownsRow w0.heap.size 3 1 v ss.length (ss.flatMap celI) := hrow.kept hga (by cases hvo : v.ownBlock with | none => exact .inl rfl | some j => exact .inr (by simp))
  have hba : Below w0.heap.size w0 Wa := h.below.grown hga h.below.size (fun k e => by cases e)
  have hl : l < Wa.heap.size := (Array.getElem?_eq_some_iff.1 hLa).1
  have hbr := run_beginRound (P := Tryz.prog) hLa rfl
  obtain ⟨W2, hW2⟩ : ∃ W2, Wa.putObj l (.loop { recI fn sv Bs D .ready none with state := .busy }) = W2 := ⟨_, rfl⟩
  rw [hW2] at hbr
  have hg2 : Wa.grownBy W2 (some l) := by rw [← hW2]; exact grownBy_putObj_a _ _ _
  have hk2 : KeepsWalks W W2 := hka.trans (by rw [← hW2]; exact KeepsWalks.putObj _ hLa rfl)
  have hv2 : W2.heap[Bs]? = some (.cells #[v] 23 (0, 0)) := by rw [← hW2]; exact (World.putObj_heap_other hBl).trans hva
  have hK2 : W2.heap[D]? = some (.deferred (some [])) := by rw [← hW2]; exact (World.putObj_heap_other hDl).trans hKa
  have hL2 : W2.heap[l]? = some (.loop { recI fn sv Bs D .ready none with state := .busy }) := by rw [← hW2]; exact World.putObj_heap_same hl
  have hrow2 : W2.ownsRow w0.heap.size 3 1 v ss.length (ss.flatMap celI) := hrowa.kept hg2 (ownsRow_ne_a hrowa hLa (fun cur e => by cases e))
  have hb2 : Below w0.heap.size w0 W2 := hba.grown hg2 hba.size (fun k e => by cases e; exact h0l)
  clear hW2
  obtain ⟨hc2, hf2⟩ := cell_of_box_a hv2
  have hBlt : Bs < W2.heap.size := (Array.getElem?_eq_some_iff.1 hv2).1
  have hl2 : l < W2.heap.size := (Array.getElem?_eq_some_iff.1 hL2).1
  have hDlt : D < W2.heap.size := (Array.getElem?_eq_some_iff.1 hK2).1
  have ne_of : ∀ {j : Nat} {o : Obj}, W2.heap[j]? = some o → (∀ cur, o ≠ .cells cur 3 (0, 0)) → some j ≠ v.ownBlock := fun hj hno => by
    rcases ownsRow_ne_a hrow2 hj hno with e | e
    · rw [e]; simp
    · exact fun e' => e e'.symm
  rw [hWa] at hbr
  refine ⟨W2, hbr, ?_⟩
  unfold bodI
  simp only [rfCode, Tryz.f367]
  gi_wp2_with (first
    | (gi_at_builtin; refine wpListIn_append_own _ rfl _ _ 23 rfl w0.heap.size 3 i0 (.int .i64 0) 1 8 Tryz.underlying23 hi hz0 hz1 hz2 rfl (by decide) _ _ _ rfl (hrow2.alloc _) ⟨W2.heap.size, 0, none⟩ 1 1 (celI x) rfl rfl (cells_newI _ _) (by intro u hu; simp [celI] at hu; rcases hu with rfl <;> rfl) (by omega) (by omega) (by have := hb2.size; simp; omega) ?_; intro v' w3 hown' hg3 _
       have hv3 : w3.heap[Bs]? = some (.cells #[v] 23 (0, 0)) := (hg3.block Bs (by simp; omega) (ne_of hv2 (fun cur e => by cases e))).trans ((Below.heap_alloc _ _ Bs hBlt).trans hv2)
       obtain ⟨hc3, hf3⟩ := cell_of_box_a hv3
       obtain ⟨g', cap', cur', rfl, hbase', hgb', hr1, hr2, hr3, hr4⟩ : ∃ g' cap' cur', v' = .slice (some ⟨g', 0, none⟩) (ss.length + 1) cap' ∧ w0.heap.size ≤ g' ∧ w3.heap[g']? = some (.cells cur' 3 (0, 0)) ∧ ss.length + 1 ≤ cap' ∧ cap' ≤ maxLen ∧ cur'.size = cap' * 1 ∧ cur'.toList.take ((ss.length + 1) * 1) = ss.flatMap celI ++ celI x := by
         rcases hown'.2 with ⟨_, h0⟩ | h'
         · exact absurd h0 (by omega)
         · exact h'
       go_frame)
    | (rw [Oper.semAt_eq _ _ _ (fun c h => by cases h)]; go_simp; try go_bits))
  have hg3' : (W2.alloc (.cells ⟨celI x⟩ 3)).grownBy w3 v.ownBlock := hg3
  have hL3 : w3.heap[l]? = some (.loop { recI fn sv Bs D .ready none with state := .busy }) := (hg3'.block l (by simp; omega) (ne_of hL2 (fun cur e => by cases e))).trans ((Below.heap_alloc _ _ l hl2).trans hL2)
  have hK3 : w3.heap[D]? = some (.deferred (some [])) := (hg3'.block D (by simp; omega) (ne_of hK2 (fun cur e => by cases e))).trans ((Below.heap_alloc _ _ D hDlt).trans hK2)
  obtain ⟨w4, hw4⟩ : ∃ w4, w3.setCell ⟨Bs, 0, none⟩ (.slice (some ⟨g', 0, none⟩) (ss.length + 1) cap') = w4 := ⟨_, rfl⟩
  rw [hw4]
  have hg4 : w3.grownBy w4 (some Bs) := by rw [← hw4]; exact grownBy_setCell0_a _ _ _
  have hv4 : w4.heap[Bs]? = some (.cells #[.slice (some ⟨g', 0, none⟩) (ss.length + 1) cap'] 23 (0, 0)) := by rw [← hw4]; exact heap_setCell_box_a _ hv3
  have hL4 : w4.heap[l]? = some (.loop { recI fn sv Bs D .ready none with state := .busy }) := (hg4.block l (Array.getElem?_eq_some_iff.1 hL3).1 (fun e => hBl (by cases e; rfl))).trans hL3
  have hK4 : w4.heap[D]? = some (.deferred (some [])) := (hg4.block D (Array.getElem?_eq_some_iff.1 hK3).1 (fun e => _hDB (by cases e; rfl))).trans hK3
  have hrow4 := hown'.kept hg4 (ownsRow_ne_a hown' hv3 (fun cur e => by cases e))
  have hb3 : Below w0.heap.size w0 w3 := (hb2.alloc hb2.size _).grown hg3' (by have := hb2.size; simp; omega) (fun k e => (hrow2.lt k e).1)
  have hb4 : Below w0.heap.size w0 w4 := hb3.grown hg4 hb3.size (fun k e => by cases e; exact h0B)
  have hk4 : KeepsWalks W w4 := ((hk2.trans (KeepsWalks.alloc _ _)).trans (KeepsWalks.of_grownBy hg3' (ownsRow_not_walk_a (hrow2.alloc _)))).trans (by rw [← hw4]; exact KeepsWalks.setCell _ _ _)
  clear hw4
  refine ⟨_, _, run_endRound none hL4, rfl, ⟨⟨_, (World.putObj_heap_other hBl).trans hv4, ?_, fun he => absurd he (by simp)⟩, World.putObj_heap_same (Array.getElem?_eq_some_iff.1 hL4).1, (World.putObj_heap_other hDl).trans hK4, hb4.grown (grownBy_putObj_a _ _ _) hb4.size (fun k e => by cases e; exact h0l)⟩, hk4.trans (KeepsWalks.putObj _ hL4 rfl)⟩
  have := hrow4.kept (grownBy_putObj_a w4 l (.loop { { recI fn sv Bs D .ready none with state := .busy } with state := if (none : Option Code).isNone then .ready else .done, pending := none })) (ownsRow_ne_a hrow4 hL4 (fun cur e => by cases e))
  simpa using this
set_option maxHeartbeats 2000000 in
theorem appendSeqI_in (F : Fence) (n : Nat) (hf : F.fn 367) (hro : F.round = none) (hn : 2 ≤ n) (g : Nat) (lb : Array Value) (hFg : F.fn g) (eg : ∀ args w, (callFunc g args).run Tryz.prog w = .ok (.enter g args) w)
    (S : List (Int) → Prop) (N : Nat) (hN : N ≤ maxLen) (hNb : N * 8 ≤ 140737488355328) (w : World) (hseq : SeqGives F (n - 1) Tryz.prog g lb encI S N w) :
    CallsIn F n Tryz.prog 367 #[.slice none 0 0, .func (.func g) #[] lb] w fun e w' => ∃ (v : Value) (ss : List (Int)), e = .returned v ∧ S ss ∧ w'.ownsRow w.heap.size 3 1 v ss.length (ss.flatMap celI) ∧ Below w.heap.size w w' ∧ (ss = [] → v = .slice none 0 0) := by
  have h1 : 1 ≤ n := by omega
  refine callsIn_of_wp_marks Tryz.func367 rfl hf ?_ hro
  simp only [Tryz.ntmps367, List.size_toArray, List.length_cons, List.length_nil, Nat.reduceAdd, Nat.reduceSub, Array.replicate_succ, Array.replicate_zero, List.push_toArray, List.append_toArray, List.nil_append, List.cons_append]
  gi_wp2
  refine wpIn_rangeFunc ?_
  intro fn hfn
  rw [hro]
  obtain ⟨W0, hW0⟩ : ∃ W0, w.alloc (.cells #[.slice none 0 0] 23) = W0 := ⟨_, rfl⟩
  have hs0 : W0.heap.size = w.heap.size + 1 := by rw [← hW0]; simp
  have hv0 : W0.heap[w.heap.size]? = some (.cells #[.slice none 0 0] 23 (0, 0)) := by rw [← hW0]; exact World.alloc_heap_new w _
  have hb0 : Below w.heap.size w W0 := by rw [← hW0]; exact (Below.refl _ w).alloc (Nat.le_refl _) _
  rw [hW0]
  obtain ⟨W1, hW1⟩ : ∃ W1, (W0.alloc (.deferred (some []))).alloc (.loop (recI fn (.func (.func g) #[] lb) w.heap.size W0.heap.size .ready none)) = W1 := ⟨_, rfl⟩
  have hold : ∀ k, k < W0.heap.size → W1.heap[k]? = W0.heap[k]? := fun k hk => by
    rw [← hW1]; exact (Below.heap_alloc _ _ k (by simp; omega)).trans (Below.heap_alloc _ _ k hk)
  have hb1 : Below w.heap.size w W1 := by rw [← hW1]; exact (hb0.alloc hb0.size _).alloc (by have := hb0.size; simp; omega) _
  have hs1 : W1.heap.size = W0.heap.size + 2 := by rw [← hW1]; simp
  have hM : AtI w fn (.func (.func g) #[] lb) w.heap.size (W0.heap.size + 1) W0.heap.size [] W1 :=
    ⟨⟨_, (hold w.heap.size (by omega)).trans hv0, ⟨rfl, .inl ⟨rfl, rfl⟩⟩, fun _ => rfl⟩,
     by rw [← hW1]; have := World.alloc_heap_new (W0.alloc (.deferred (some []))) (.loop (recI fn (.func (.func g) #[] lb) w.heap.size W0.heap.size .ready none)); rwa [World.size_alloc] at this,
     by rw [← hW1]; exact (Below.heap_alloc _ _ _ (by simp)).trans (World.alloc_heap_new W0 _), hb1⟩
  refine ⟨W0.heap.size + 1, [{ target := .collected W0.heap.size, args := #[] }], W1, { target := .fn (.func g) lb, args := #[.func (.yield (W0.heap.size + 1)) #[] #[]] }, W1, g,
    #[.func (.yield (W0.heap.size + 1)) #[] #[]] ++ lb, W1, ?_, ?_, ?_, ?_, fun _ => h1, ?_⟩
  · rw [← hW1]; exact run_enterLoop_outer _ _ _ _ _
  · simp [resolve, go_sem]
  · intro f' hf'; simp [Target.leads] at hf'; subst hf'; exact hFg
  · simp [invoke, go_sem, eg]
  · refine (hseq (W0.heap.size + 1) (AtI w fn (.func (.func g) #[] lb) w.heap.size (W0.heap.size + 1) W0.heap.size) W1 hb1 (abidesI _ _ _ _ _ _ _ hb1.size)
      (fun pre x W hJ hl => yieldI F (n - 1 - 1) w fn hfn _ w.heap.size (W0.heap.size + 1) W0.heap.size (by omega) (by omega) (by omega) (Nat.le_refl _) (by omega) N hN hNb pre x W hJ hl) hM).mono ?_
    rintro e W2 ⟨⟨v0, rfl⟩, ss, hS, h2⟩
    obtain ⟨v, hv, hrow, hnl⟩ := h2.box
    have hend := run_endLoop (P := Tryz.prog) h2.L (by simp [recI])
    obtain ⟨W3, hW3⟩ : ∃ W3, W2.putObj (W0.heap.size + 1) (.loop { recI fn (.func (.func g) #[] lb) w.heap.size W0.heap.size .ready none with state := .exhausted }) = W3 := ⟨_, rfl⟩
    rw [hW3] at hend
    have hg3 : W2.grownBy W3 (some (W0.heap.size + 1)) := by rw [← hW3]; exact grownBy_putObj_a _ _ _
    have hv3 : W3.heap[w.heap.size]? = some (.cells #[v] 23 (0, 0)) := by rw [← hW3]; exact (World.putObj_heap_other (by omega)).trans hv
    have hK3 : W3.heap[W0.heap.size]? = some (.deferred (some [])) := by rw [← hW3]; exact (World.putObj_heap_other (by omega)).trans h2.K
    have hrow3 := hrow.kept hg3 (ownsRow_ne_a hrow h2.L (fun cur e => by cases e))
    have hb3 : Below w.heap.size w W3 := h2.below.grown hg3 h2.below.size (fun k e => by cases e; omega)
    obtain ⟨hc3, hf3⟩ := cell_of_box_a hv3
    clear hW3
    refine ⟨none, W3, hend, ?_⟩
    gi_wp2
    rw [← hs0]
    refine ⟨by simp, .inl ⟨_, _, rfl, run_takeDeferred hK3, ?_⟩⟩
    exact ⟨_, results_tmp rfl _ _ _, v, ss, rfl, hS, hrow3.kept (grownBy_putObj_a _ _ _) (ownsRow_ne_a hrow3 hK3 (fun cur e => by cases e)), hb3.grown (grownBy_putObj_a _ _ _) hb3.size (fun k e => by cases e; omega), hnl⟩
end Go.Vc

/-
  slices.Collect over a map's keys: all orders.
-/
namespace Go.Ev
open Go Go.Vc Go.RowKit
variable [Tops]
noncomputable section
/-- slices.Collect, handed the iterator of a map's keys (its numbers: gs). -/
def collectK (gs : List Nat) (kd : Kd) (el z : Nat) : FnClo := ⟨fun _ args m => match args with
  | [.func (.func g) ⟨[]⟩ ⟨[.pointer (some a)]⟩] => bc (hasN g gs) (bc (Nat.beq a.off 0) (m.get a.block (fail "collect") fun oc => oc.asCells none fun _ _ cs => nthK cs 0 none fun v => vMap v none fun r => oK r none fun r =>
      (m.del a.block).get r (fail "collect 2") fun o => o.onMap fun kd' es => bc (kdEq kd kd') (bc (Nat.ble (lenL es) 1000) (match es with
      | [] => some [(.slice none 0 0, m)]
      | p :: es => some ((perms ((p :: es).map fun p => cellsL p.1)).map fun l => (.slice (some ⟨m.nx, 0, none⟩) (lenL (p :: es)) (lenL (p :: es)), m.new (.cells m.nx el z l.flatten)))) none) none) none) none
  | _ => fail "collect 3"⟩
end
--PROOFS
section
variable {P : Program} {E : World} {φ ψ : Phi} {m : M} {w : World} {l0 : List (Value × M)} {call : CallT}
theorem mem_perms {α : Type} : ∀ {r l : List α}, l.Perm r → l ∈ perms r
  | [], l, h => by rw [h.eq_nil]; exact List.mem_singleton.2 rfl
  | a :: r, l, h => by
    have ha : a ∈ l := h.mem_iff.2 (List.mem_cons_self ..)
    obtain ⟨l1, l2, rfl⟩ := List.append_of_mem ha
    have h2 : (l1 ++ l2).Perm r := (List.perm_cons a).1 (List.perm_middle.symm.trans h)
    unfold perms
    refine List.mem_flatMap.2 ⟨l1 ++ l2, mem_perms h2, List.mem_map.2 ⟨l1.length, List.mem_range.2 (by simp; omega), ?_⟩⟩
    simp
theorem get_take' {H : List Asrt} {i : Nat} {k : AO → Res} (h : St E (H ++ m.t.items.map (OA E φ)) w) (hs : Sub (m.get i none k) l0) : ∃ o, o.id = i ∧ Sub (k o) l0 ∧ St E (OA E φ o :: (H ++ (m.del i).t.items.map (OA E φ))) w ∧ m.t.look i = some o := by
  rw [get_eq_] at hs
  cases ho : m.t.look i with
  | none => rw [ho] at hs; exact hs.no
  | some o =>
    rw [ho] at hs
    obtain ⟨hb, hs⟩ := Sub.bc_ hs
    exact ⟨o, Nat.eq_of_beq_eq_true hb, hs, st_take h ho, rfl⟩
theorem st_untake {F : AO → Asrt} {H : List Asrt} {t : Tr AO} {n : Nat} {o : AO} (h : St E (F o :: (H ++ (t.del n).items.map F)) w) (ho : t.look n = some o) : St E (H ++ t.items.map F) w :=
  h.perm ((List.Perm.append_left H ((Tr.items_look ho).map F)).trans List.perm_middle).symm
/-- What is collected. -/
def CollectSpec {κ : Type} (P : Program) (f g : Nat) (kv : κ → Value) (el z : Nat) : Prop := ∀ (E : World) (L : List Asrt) (w : World) (B b : Nat) (ys : List Value) (t : TypeId) (m : List (κ × Value)),
  St E (blk B (.cells ⟨ys⟩ t (0, 0)) :: mapA b kv (id : Value → Value) m :: L) w → ys[0]? = some (.map (some b)) → m.length ≤ 1000 →
  Calls P f #[.func (.func g) #[] #[.pointer (some ⟨B, 0, none⟩)]] w fun e w' => ∃ a c, ∃ ss : List κ, e = .returned (.slice a ss.length c) ∧ ss.Perm (m.map (·.1)) ∧ (ss = [] → a = none ∧ c = 0) ∧
    St E (ownS a ss.length c el z (ss.flatMap fun k => cellsL (kv k)) :: blk B (.cells ⟨ys⟩ t (0, 0)) :: mapA b kv (id : Value → Value) m :: L) w'
theorem EsR.cells {κ : Type} {kv : κ → Value} : ∀ {es : List (Value × Value)} {q : List (κ × Value)}, EsR φ kv es q → es.map (fun p => cellsL p.1) = (q.map (·.1)).map fun k => cellsL (kv k)
  | [], q, h => by have h : q = [] := h; subst h; rfl
  | p :: es, q, ⟨y, s, hq, h1, h2, h3⟩ => by subst hq; simp [EsR.cells h3, h1]
theorem flatL_append : ∀ {a b : List Value}, flatL a = true → flatL b = true → flatL (a ++ b) = true
  | [], b, _, h => h
  | x :: a, b, h, h' => by
    simp only [List.cons_append, flatL, Bool.and_eq_true] at h ⊢
    exact ⟨h.1, flatL_append h.2 h'⟩
theorem flatL_flatMap {κ : Type} {f : κ → List Value} (h : ∀ k, flatL (f k) = true) : ∀ ss : List κ, flatL (ss.flatMap f) = true
  | [] => rfl
  | k :: ss => by rw [List.flatMap_cons]; exact flatL_append (h k) (flatL_flatMap h ss)
theorem collect_fn {κ : Type} [DecidableEq κ] {kv : κ → Value} {kd : Kd} {f el z : Nat} {gs : List Nat} (hkd : ∀ kd', kdEq kd kd' = true → ∀ F : (κ : Type) → (κ → Value) → Asrt, onKd kd' F = F κ kv) (hspec : ∀ g, hasN g gs = true → CollectSpec P f g kv el z) (hz : ∀ k, (cellsL (kv k)).length = z) (h1 : ∀ k, ∀ u ∈ cellsL (kv k), one u = true) (hfl : ∀ k, flatL (cellsL (kv k)) = true) (hb : hasBody P f = true) : FnOk P E call f (collectK gs kd el z) := by
  intro φ args vs m w l hrun hv hm
  have h : Sub ((collectK gs kd el z).run call args m) l := ⟨l, hrun, fun p hp => hp⟩
  unfold collectK at h
  dsimp only at h
  split at h
  · rename_i g p
    replace h := h.bc_
    obtain ⟨hg, h⟩ := h
    replace h := h.bc_
    obtain ⟨hoff, h⟩ := h
    have hoff := Nat.eq_of_beq_eq_true hoff
    cases hv with
    | cons hv hv2 =>
    cases hv2
    obtain ⟨c1, c2, rfl, hc1, hc2⟩ := hv.func_
    cases hc1
    cases hc2 with
    | cons hc2 hc3 =>
    cases hc3
    obtain ⟨B, δ, hB, _, rfl⟩ := hc2.ptr_
    rw [hoff]
    replace h := get_take' (H := []) hm.st h
    obtain ⟨oc, hoc, h, hs, hl1⟩ := h
    replace h := asCells_ h
    obtain ⟨ci, ct, cz, cs, rfl, h⟩ := h
    replace h := h.nth_
    obtain ⟨mv, hmv, h⟩ := h
    replace h := h.vMap_
    obtain ⟨r, rfl, h⟩ := h
    replace h := h.oK_
    obtain ⟨r, rfl, h⟩ := h
    have hci : ci = p.block := hoc
    subst hci
    obtain ⟨B', δ', ys, ext', g1, g2, g3, g4, g5, hs⟩ := OA_cells_open hs
    rw [hB] at g1
    injection g1 with g1
    injection g1 with g1 g1'
    subst g1
    subst g1'
    replace h := get_take' (m := m.del p.block) (H := [_]) hs h
    obtain ⟨od, hod, h, hs, hl2⟩ := h
    replace h := onMap_ h
    obtain ⟨di, kd2, es, rfl, h⟩ := h
    have hdi : di = r := hod
    subst hdi
    replace h := h.bc_
    obtain ⟨hk2, h⟩ := h
    replace h := h.bc_
    obtain ⟨hlen, h⟩ := h
    have hlen := Nat.le_of_ble_eq_true hlen
    rw [lenL_eq] at hlen
    obtain ⟨db, δd, hdb, hs⟩ := OA_map_open hs
    rw [hkd _ hk2] at hs
    obtain ⟨m2, m2', hs, hE, hp, _, _⟩ := mapO_open hs
    obtain ⟨u, hu1, hu2⟩ := g2.get hmv
    obtain ⟨db', _, hdb', rfl⟩ := hu2.map_
    rw [hdb] at hdb'
    injection hdb' with hdb'
    injection hdb' with hdb' _
    subst hdb'
    have hu3 : (ys ++ ext')[0]? = some (.map (some db)) := by rw [List.getElem?_append_left (List.getElem?_eq_some_iff.1 hu1).1]; exact hu1
    have hm2 : m2.length = es.length := by rw [← hp.length_eq]; exact hE.len
    have hcalls := hspec g hg E _ w B db _ ct m2 hs.f1 hu3 (by omega)
    -- what comes back
    have back : ∀ {H : List Asrt} {w' : World}, St E (blk B (.cells ⟨ys ++ ext'⟩ ct (0, 0)) :: mapA db kv (id : Value → Value) m2 :: (H ++ ((m.del p.block).del di).t.items.map (OA E φ))) w' → St E (H ++ m.t.items.map (OA E φ)) w' := fun {H w'} hs' => by
      have hs1 : St E (OA E φ (.cells p.block ct cz cs) :: _) w' := OA_cells_mk hB g2 g3 g4 g5 hs'
      have hs2 : St E (OA E φ (.map di kd2 es) :: _) w' := OA_map_mk hdb (by rw [hkd _ hk2]; exact hs1.f1.mono fun _ hA => ⟨m2, m2', hA, hE, hp⟩)
      have hs3 := st_untake (F := OA E φ) (H := _ :: H) (t := (m.del p.block).t) hs2 hl2
      exact st_untake (F := OA E φ) (H := H) (t := m.t) hs3 hl1
    unfold Out
    rw [run_callFunc hb]
    refine Calls.mono hcalls fun e w' he => ?_
    obtain ⟨a, c, ss, rfl, hperm, hnil, hst⟩ := he
    have hsl : ss.length = es.length := by rw [hperm.length_eq, List.length_map, hm2]
    cases es with
    | nil =>
      obtain ⟨l', hl', hmem⟩ := h
      injection hl' with hl'
      subst hl'
      have hss : ss = [] := List.eq_nil_of_length_eq_zero hsl
      obtain ⟨rfl, rfl⟩ := hnil hss
      subst hss
      exact ⟨_, hmem _ (List.mem_cons_self ..), φ, .refl φ, .flat rfl, back (H := []) hst.drop, hm.fresh⟩
    | cons y es =>
      obtain ⟨l', hl', hmem⟩ := h
      injection hl' with hl'
      subst hl'
      have hpos : ss.length = es.length + 1 := hsl
      have hfacts := hst.ownS_facts
      rcases hst.ownS_open with ⟨_, hl0, _⟩ | ⟨g, gr, rfl, hgr, hs2⟩
      · omega
      have hle : Le φ (ext φ m.nx g (c - ss.length)) := ext_le (hm.fresh _ (Nat.le_refl _))
      have hin : ss.map (fun k => cellsL (kv k)) ∈ perms ((y :: es).map fun p => cellsL p.1) := by
        rw [hE.cells]
        exact mem_perms ((hperm.trans (hp.map _).symm).map _)
      refine ⟨_, hmem _ (List.mem_map.2 ⟨_, hin, rfl⟩), ext φ m.nx g (c - ss.length), hle, ?_, ?_⟩
      · have := VR.sl (φ := ext φ m.nx g (c - ss.length)) (off := 0) (l := ss.length) (c := ss.length) (ext_at φ m.nx g (c - ss.length))
        rw [show ss.length + (c - ss.length) = c by omega] at this
        show VR _ (.slice (some ⟨m.nx, 0, none⟩) (lenL (y :: es)) (lenL (y :: es))) _
        rw [lenL_eq, ← hsl]
        exact this
      · have hs3 := back (H := [_]) hs2.b2
        refine HR.new2 hm.fresh rfl ?_
        refine (st_del2 hs3 m.nx).mono fun _ hA => ⟨g, _, ss.flatMap fun k => cellsL (kv k), gr, ext_at .., ?_, ?_, hgr, ?_, hA⟩
        · rw [← List.flatMap_def]
          exact .flat_ (flatL_flatMap hfl ss)
        · intro u hu
          rw [← List.flatMap_def] at hu
          obtain ⟨k, _, hk⟩ := List.mem_flatMap.1 hu
          exact h1 k u hk
        · rw [← List.flatMap_def]
          have := hfacts.1
          rw [this, ← Nat.add_mul]
          exact Nat.mul_le_mul_right _ (by omega)
  · exact h.no
end
end Go.Ev

/-
  slices.Collect over maps.Keys of the program's maps.
-/
namespace Go.Vc
open Go Go.Proofs Go.Proofs.YtaocnfjhfmapkaaGreatDoor Go.RowKit Go.Sort Go.Shelf Go.Ev
set_option maxRecDepth 100000
variable [Tops]
/-- A row that is new. -/
theorem St.of_row2 {E w w' : World} {L : List Asrt} {e sz n : Nat} {xs : List Value} {v : Value} (h : St E L w) (hb : Below w.heap.size w w') (hr : w'.ownsRow w.heap.size e sz v n xs) : ∃ a c, v = .slice a n c ∧ St E (ownS a n c e sz xs :: L) w' := by
  obtain ⟨h1, h2⟩ := hr
  have he : SameEnv w w' := ⟨hb.os, hb.tape, hb.output⟩
  rcases h2 with ⟨rfl, rfl⟩ | ⟨g, cap, cur, rfl, hg, hc, h3, h4, h5, h6⟩
  · have : xs = [] := List.eq_nil_of_length_eq_zero (by simpa using h1)
    subst this
    exact ⟨none, 0, rfl, (h.same he hb.block).ownS_nil⟩
  · refine ⟨_, _, rfl, St.ownS_mk (rest := cur.toList.drop (n * sz)) ?_ h1 h3 h4 ?_⟩
    · have := h.add_new (o := .cells cur e (0, 0)) he hg hc hb.block
      refine this.mono fun x hx => ?_
      show x g = some (true, .cells ⟨xs ++ cur.toList.drop (n * sz)⟩ e (0, 0))
      rw [← h6, List.take_append_drop]; exact hx
    · rw [List.length_drop, Array.length_toList, h5, Nat.sub_mul]
theorem keysFn_S : ∀ args w, (callFunc 227 args).run Tryz.prog w = .ok (.enter 227 args) w := enters_of Tryz.func227 (by kernel_rfl) rfl
theorem collect_S : CollectSpec Tryz.prog 216 227 (fun s : ByteArray => .string s) 9 1 := by
  intro E L w B b ys t m h h0 hN
  have hB := h.at_blk
  have hlt := (Array.getElem?_eq_some_iff.1 hB).1
  have h : St E (blk B (.cells ⟨ys⟩ t (0, 0)) :: mapA b encS (id : Value → Value) m :: L) w := h
  refine C_slices_Collect_string ?_
  unfold T_slices_Collect_string
  refine ((callsIn_wide (n := 2)).1 (appendSeqS_in Fence.wide 2 trivial rfl (by decide) _ #[.pointer (some ⟨B, 0, none⟩)] trivial keysFn_S (fun ss => ss.Perm (m.map (·.1))) m.length (by simp only [maxLen]; omega) (by omega) w
    (givesS Fence.wide 1 trivial rfl (by decide) B b m w hlt (by rw [cell_of hB]; exact h0) h.f1.mapW))).mono ?_
  rintro e w' ⟨v, ss, rfl, hS, hr, hb, hnl⟩
  obtain ⟨a, c, rfl, h2⟩ := h.of_row2 hb hr
  exact ⟨a, _, c, rfl, a, c, ss, rfl, hS, fun he => by injection hnl he with e1 e2 e3; exact ⟨e1, e3⟩, h2⟩
theorem keysFn_D : ∀ args w, (callFunc 218 args).run Tryz.prog w = .ok (.enter 218 args) w := enters_of Tryz.func218 (by kernel_rfl) rfl
theorem collect_D : CollectSpec Tryz.prog 216 218 (fun s : ByteArray => .string s) 9 1 := by
  intro E L w B b ys t m h h0 hN
  have hB := h.at_blk
  have hlt := (Array.getElem?_eq_some_iff.1 hB).1
  have h : St E (blk B (.cells ⟨ys⟩ t (0, 0)) :: mapA b encS (id : Value → Value) m :: L) w := h
  refine C_slices_Collect_string ?_
  unfold T_slices_Collect_string
  refine ((callsIn_wide (n := 2)).1 (appendSeqS_in Fence.wide 2 trivial rfl (by decide) _ #[.pointer (some ⟨B, 0, none⟩)] trivial keysFn_D (fun ss => ss.Perm (m.map (·.1))) m.length (by simp only [maxLen]; omega) (by omega) w
    (givesD Fence.wide 1 trivial rfl (by decide) B b m w hlt (by rw [cell_of hB]; exact h0) h.f1.mapW))).mono ?_
  rintro e w' ⟨v, ss, rfl, hS, hr, hb, hnl⟩
  obtain ⟨a, c, rfl, h2⟩ := h.of_row2 hb hr
  exact ⟨a, _, c, rfl, a, c, ss, rfl, hS, fun he => by injection hnl he with e1 e2 e3; exact ⟨e1, e3⟩, h2⟩
theorem keysFn_P : ∀ args w, (callFunc 296 args).run Tryz.prog w = .ok (.enter 296 args) w := enters_of Tryz.func296 (by kernel_rfl) rfl
theorem collect_P : CollectSpec Tryz.prog 294 296 (fun p : ByteArray × ByteArray => .agg #[.string p.1, .string p.2]) 198 2 := by
  intro E L w B b ys t m h h0 hN
  have hB := h.at_blk
  have hlt := (Array.getElem?_eq_some_iff.1 hB).1
  have h : St E (blk B (.cells ⟨ys⟩ t (0, 0)) :: mapA b encP (id : Value → Value) m :: L) w := h
  refine C_slices_Collect_conf_place ?_
  unfold T_slices_Collect_conf_place
  refine ((callsIn_wide (n := 2)).1 (appendSeqP_in Fence.wide 2 trivial rfl (by decide) _ #[.pointer (some ⟨B, 0, none⟩)] trivial keysFn_P (fun ss => ss.Perm (m.map (·.1))) m.length (by simp only [maxLen]; omega) (by omega) w
    (givesP Fence.wide 1 trivial rfl (by decide) B b m w hlt (by rw [cell_of hB]; exact h0) h.f1.mapW))).mono ?_
  rintro e w' ⟨v, ss, rfl, hS, hr, hb, hnl⟩
  obtain ⟨a, c, rfl, h2⟩ := h.of_row2 hb hr
  exact ⟨a, _, c, rfl, a, c, ss, rfl, hS, fun he => by injection hnl he with e1 e2 e3; exact ⟨e1, e3⟩, h2⟩
theorem keysFn_I : ∀ args w, (callFunc 344 args).run Tryz.prog w = .ok (.enter 344 args) w := enters_of Tryz.func344 (by kernel_rfl) rfl
theorem collect_I : CollectSpec Tryz.prog 343 344 (fun n : Int => .int .i64 n) 3 1 := by
  intro E L w B b ys t m h h0 hN
  have hB := h.at_blk
  have hlt := (Array.getElem?_eq_some_iff.1 hB).1
  have h : St E (blk B (.cells ⟨ys⟩ t (0, 0)) :: mapA b encI (id : Value → Value) m :: L) w := h
  refine C_slices_Collect_int ?_
  unfold T_slices_Collect_int
  refine ((callsIn_wide (n := 2)).1 (appendSeqI_in Fence.wide 2 trivial rfl (by decide) _ #[.pointer (some ⟨B, 0, none⟩)] trivial keysFn_I (fun ss => ss.Perm (m.map (·.1))) m.length (by simp only [maxLen]; omega) (by omega) w
    (givesI Fence.wide 1 trivial rfl (by decide) B b m w hlt (by rw [cell_of hB]; exact h0) h.f1.mapW))).mono ?_
  rintro e w' ⟨v, ss, rfl, hS, hr, hb, hnl⟩
  obtain ⟨a, c, rfl, h2⟩ := h.of_row2 hb hr
  exact ⟨a, _, c, rfl, a, c, ss, rfl, hS, fun he => by injection hnl he with e1 e2 e3; exact ⟨e1, e3⟩, h2⟩
section
variable {E : World} {call : CallT}
abbrev gsS : List Nat := [227, 218]
abbrev gsP : List Nat := [296]
abbrev gsI : List Nat := [344]
theorem hasN_two {g a b : Nat} (h : hasN g [a, b] = true) : g = a ∨ g = b := by
  rw [hasN_eq] at h
  unfold memN at h
  cases h1 : Nat.beq a g <;> simp only [h1, cond] at h
  · unfold memN at h
    cases h2 : Nat.beq b g <;> simp only [h2, cond] at h
    · cases h
    · exact .inr (Nat.eq_of_beq_eq_true h2).symm
  · exact .inl (Nat.eq_of_beq_eq_true h1).symm
theorem hasN_one {g a : Nat} (h : hasN g [a] = true) : g = a := by
  rw [hasN_eq] at h
  unfold memN at h
  cases h1 : Nat.beq a g <;> simp only [h1, cond] at h
  · cases h
  · exact (Nat.eq_of_beq_eq_true h1).symm
theorem fn_collectS : FnOk Tryz.prog E call 216 (collectK gsS .str 9 1) :=
  collect_fn (kv := fun s : ByteArray => .string s) (fun kd' h F => by rw [← kdEq_eq h]; rfl) (fun g hg => by rcases hasN_two hg with rfl | rfl; exact collect_S; exact collect_D) (fun _ => rfl) (fun k u hu => by rw [show cellsL (.string k) = [.string k] from rfl] at hu; simp at hu; subst hu; rfl) (fun _ => rfl) (by kernel_rfl)
theorem fn_collectP : FnOk Tryz.prog E call 294 (collectK gsP .str2 198 2) :=
  collect_fn (kv := fun p : ByteArray × ByteArray => .agg #[.string p.1, .string p.2]) (fun kd' h F => by rw [← kdEq_eq h]; rfl) (fun g hg => by rw [hasN_one hg]; exact collect_P) (fun _ => rfl) (fun k u hu => by rw [show cellsL (.agg #[.string k.1, .string k.2]) = [.string k.1, .string k.2] from rfl] at hu; simp at hu; rcases hu with rfl | rfl <;> rfl) (fun _ => rfl) (by kernel_rfl)
theorem fn_collectI : FnOk Tryz.prog E call 343 (collectK gsI (.int .i64) 3 1) :=
  collect_fn (kv := fun n : Int => .int .i64 n) (fun kd' h F => by rw [← kdEq_eq h]; rfl) (fun g hg => by rw [hasN_one hg]; exact collect_I) (fun _ => rfl) (fun k u hu => by rw [show cellsL (.int .i64 k) = [.int .i64 k] from rfl] at hu; simp at hu; subst hu; rfl) (fun _ => rfl) (by kernel_rfl)
end
end Go.Vc

/-
  The tables of the whole program, and what they give.
-/
namespace Go.Ev
open Go Go.Vc Go.RowKit Go.Proofs.YtaocnfjhfmapkaaGreatDoor Go.Proofs
set_option maxRecDepth 100000
abbrev nCg : Nat := 190
theorem caught_fine [Tops] : CaughtOk Tryz.prog nCg := caught_ok mixed Tryz.func190 (c := bodyOf Tryz.f190) (by kernel_rfl) (by kernel_rfl) (by kernel_rfl) (by decide) (by kernel_rfl)
noncomputable def hkFork : Hooks := fun b => cond (Nat.beq b 0) (some (copyHook 39 3 16 forkKs)) none
noncomputable def hkLook : Hooks := fun b => cond (Nat.beq b 0) (some (seeHook 19 0 2 522 lookKs)) none
noncomputable def hk (f : Nat) : Hooks := cond (Nat.beq f 185) hkFork (cond (Nat.beq f 424) hkLook noH)
noncomputable def fnT (f : Nat) : Option FnClo := cond (Nat.beq f 216) (some (collectK gsS .str 9 1)) (cond (Nat.beq f 294) (some (collectK gsP .str2 198 2)) (cond (Nat.beq f 343) (some (collectK gsI (.int .i64) 3 1))
  (fnC Tryz.prog (tyT Tryz.prog) (hk f) nCg f)))
noncomputable def fs0 : Tr FnClo := mkT fnT 10 1 0
section
variable [Tops] {E : World} {call : CallT}
theorem hooks_one {T : Ty} {nt : Nat} {c b : Code} {h0 : Clo} (h1 : (blocks c).head? = some (0, b)) (h2 : ((blocks c).tail.all fun p => !(Nat.beq p.1 0)) = true) (hk : HookOk Tryz.prog T E call nt [] h0 (.block 0 b)) : HooksOk Tryz.prog T E call nt [] (fun b => cond (Nat.beq b 0) (some h0) none) c := by
  intro p hp h hh
  cases hc : blocks c with
  | nil => rw [hc] at h1; cases h1
  | cons q r =>
    rw [hc] at h1 h2 hp
    injection h1 with h1
    subst h1
    rcases List.mem_cons.1 hp with rfl | hp
    · injection hh with hh
      subst hh
      exact hk
    · have := List.all_eq_true.1 h2 p hp
      cases hb : Nat.beq p.1 0 <;> simp only [hb, cond] at hh this
      · cases hh
      · cases this
theorem hooksFork {T : Ty} : HooksOk Tryz.prog T E call 50 [] hkFork (bodyOf Tryz.f185) := hooks_one (by kernel_rfl) (by kernel_rfl) fork_hook
theorem hooksLook {T : Ty} : HooksOk Tryz.prog T E call 83 [] hkLook (bodyOf Tryz.f424) := hooks_one (by kernel_rfl) (by kernel_rfl) look_hook
theorem fn_fine (g : Nat) (fc : FnClo) (h : fnT g = some fc) (C : Ctx Tryz.prog (tyT Tryz.prog) E call) : FnOk Tryz.prog E call g fc := by
  unfold fnT at h
  cases h1 : Nat.beq g 216 <;> simp only [h1, cond] at h
  · cases h2 : Nat.beq g 294 <;> simp only [h2, cond] at h
    · cases h3 : Nat.beq g 343 <;> simp only [h3, cond] at h
      · refine fnC_ok C caught_fine (fun fn c hf hb => ?_) h
        unfold hk
        cases h4 : Nat.beq g 185 <;> simp only [cond]
        · cases h5 : Nat.beq g 424 <;> simp only
          · exact ⟨.none_, .inr trivial⟩
          · have hg := Nat.eq_of_beq_eq_true h5
            subst hg
            have e1 : fn = Tryz.f424 := by have := Tryz.func424; rw [hf] at this; injection this
            subst e1
            have e2 : c = bodyOf Tryz.f424 := by have : (Tryz.f424).body = some (bodyOf Tryz.f424) := (by kernel_rfl); rw [hb] at this; injection this
            subst e2
            exact ⟨hooksLook, .inl ⟨by kernel_rfl, by kernel_rfl⟩⟩
        · have hg := Nat.eq_of_beq_eq_true h4
          subst hg
          have e1 : fn = Tryz.f185 := by have := Tryz.func185; rw [hf] at this; injection this
          subst e1
          have e2 : c = bodyOf Tryz.f185 := by have : (Tryz.f185).body = some (bodyOf Tryz.f185) := (by kernel_rfl); rw [hb] at this; injection this
          subst e2
          exact ⟨hooksFork, .inl ⟨by kernel_rfl, by kernel_rfl⟩⟩
      · have hg := Nat.eq_of_beq_eq_true h3
        subst hg
        injection h with h
        subst h
        exact fn_collectI
    · have hg := Nat.eq_of_beq_eq_true h2
      subst hg
      injection h with h
      subst h
      exact fn_collectP
  · have hg := Nat.eq_of_beq_eq_true h1
    subst hg
    injection h with h
    subst h
    exact fn_collectS
end
theorem fs_fine [Tops] (E : World) (g : Nat) (fc : FnClo) (h : fs0.look g = some fc) (call : CallT) (C : Ctx Tryz.prog (tyT Tryz.prog) E call) : FnOk Tryz.prog E call g fc := by
  have := mkT_look h
  rw [Nat.one_mul, Nat.add_zero] at this
  exact fn_fine g fc this C
instance anyT : Tops := topsOf fun _ => .nilFunc
/-- A closed run that the kernel finds true. -/
theorem closed {g : Nat} (h : okR (callN ⟨Tryz.prog, tyT Tryz.prog, fs0⟩ 100 g [] m0) = true) (hb : hasBody Tryz.prog g = true) (w : World) : Calls Tryz.prog g #[] w fun e w' => e = .returned (.bool true) ∧ St w [old w] w' := closed_true mixed fs_fine h hb w
end Go.Ev

/-
  A run in pieces: from a memory that is written out to the next one; and what a run has made, beside what was owned before.
-/
namespace Go.Ev
open Go Go.Vc Go.RowKit
variable [Tops]
section
variable {P : Program} {T : Ty} {E w w' : World} {φ ψ : Phi} {m : M} {L : List Asrt}
/-! ### objects under other numbers -/
noncomputable section
mutual
/-- u is p, its numbers turned by σ. -/
def eqR (σ : Nat → Nat) : Value → Value → Bool
  | .pointer (some a), p => (match p with | .pointer (some b) => Nat.beq (σ a.block) b.block && Nat.beq a.off b.off && (a.spot.isNone && b.spot.isNone) | _ => false)
  | .slice (some a) l c, p => (match p with | .slice (some b) m d => Nat.beq (σ a.block) b.block && Nat.beq a.off b.off && (Nat.beq l m && Nat.beq c d) && ((a.spot.isNone && b.spot.isNone) || (spot0 a.spot && spot0 b.spot)) | _ => false)
  | .map (some i), p => (match p with | .map (some j) => Nat.beq (σ i) j | _ => false)
  | .iface t a, p => (match p with | .iface u b => Nat.beq t u && eqR σ a b | _ => false)
  | .agg ⟨a⟩, p => (match p with | .agg ⟨b⟩ => eqRL σ a b | _ => false)
  | .tuple ⟨a⟩, p => (match p with | .tuple ⟨b⟩ => eqRL σ a b | _ => false)
  | .chan (some i), p => (match p with | .chan (some j) => Nat.beq i j | _ => false)
  | u, p => flat u && eqV u p
def eqRL (σ : Nat → Nat) : List Value → List Value → Bool
  | [], l => l.isEmpty
  | a :: r, l => (match l with | b :: s => eqR σ a b && eqRL σ r s | [] => false)
def spot0 : Option Nat → Bool
  | some 0 => true
  | _ => false
end
end
theorem spot0_eq {s : Option Nat} (h : spot0 s = true) : s = some 0 := by
  unfold spot0 at h
  split at h
  · rfl
  · cases h
mutual
theorem eqR_ok {σ : Nat → Nat} : ∀ {u p v : Value}, eqR σ u p = true → VR φ p v → VR (fun i => φ (σ i)) u v
  | .pointer (some a), p, v, h, k => by
    obtain ⟨ab, ao, as'⟩ := a
    unfold eqR at h
    split at h
    · rename_i b
      simp only [Bool.and_eq_true] at h
      obtain ⟨⟨h1, h2⟩, h3, h4⟩ := h
      obtain ⟨x, δ, k1, k2, rfl⟩ := k.ptr_
      have e1 := Nat.eq_of_beq_eq_true h1
      have e2 := Nat.eq_of_beq_eq_true h2
      have e3 := Option.isNone_iff_eq_none.1 h3
      have e3 : as' = none := e3
      subst e3
      rw [← e2]
      exact .ptr (by show φ (σ ab) = _; rw [e1]; exact k1)
    · cases h
  | .slice (some a) l c, p, v, h, k => by
    obtain ⟨ab, ao, as'⟩ := a
    unfold eqR at h
    split at h
    · rename_i b m d
      simp only [Bool.and_eq_true, Bool.or_eq_true] at h
      obtain ⟨⟨⟨h1, h2⟩, h3, h4⟩, h5⟩ := h
      have e1 := Nat.eq_of_beq_eq_true h1
      have e2 := Nat.eq_of_beq_eq_true h2
      have e3 := Nat.eq_of_beq_eq_true h3
      have e4 := Nat.eq_of_beq_eq_true h4
      subst e3; subst e4
      rcases k.sl_ with ⟨x, δ, k1, ⟨k2, rfl⟩ | ⟨k2, rfl⟩⟩ | ⟨⟨j, k2⟩, _⟩
      · rcases h5 with ⟨h5, _⟩ | ⟨_, h6⟩
        · have e5 := Option.isNone_iff_eq_none.1 h5
          have e5 : as' = none := e5
          subst e5
          rw [← e2]
          exact .sl (by show φ (σ ab) = _; rw [e1]; exact k1)
        · rw [spot0_eq h6] at k2; cases k2
      · rcases h5 with ⟨_, h6⟩ | ⟨h5, _⟩
        · have := Option.isNone_iff_eq_none.1 h6; rw [this] at k2; cases k2
        · have e5 := spot0_eq h5
          have e5 : as' = some 0 := e5
          subst e5
          rw [← e2]
          exact .sle (by show φ (σ ab) = _; rw [e1]; exact k1)
      · rcases h5 with ⟨_, h6⟩ | ⟨_, h6⟩
        · have := Option.isNone_iff_eq_none.1 h6; rw [this] at k2; cases k2
        · rw [spot0_eq h6] at k2; cases k2
    · cases h
  | .map (some i), p, v, h, k => by
    unfold eqR at h
    split at h
    · rename_i j
      obtain ⟨x, δ, k1, rfl⟩ := k.map_
      have e1 := Nat.eq_of_beq_eq_true h
      exact .map (by show φ (σ i) = _; rw [e1]; exact k1)
    · cases h
  | .iface t a, p, v, h, k => by
    unfold eqR at h
    split at h
    · rename_i u b
      simp only [Bool.and_eq_true] at h
      obtain ⟨x, rfl, kx⟩ := k.iface_
      rw [Nat.eq_of_beq_eq_true h.1]
      exact .iface (eqR_ok h.2 kx)
    · cases h
  | .agg ⟨a⟩, p, v, h, k => by
    unfold eqR at h
    split at h
    · rename_i b
      obtain ⟨ds, rfl, kd⟩ := k.agg_
      exact .agg (eqRL_ok h kd)
    · cases h
  | .tuple ⟨a⟩, p, v, h, k => by
    unfold eqR at h
    split at h
    · rename_i b
      obtain ⟨ds, rfl, kd⟩ := k.tup_
      exact .tuple (eqRL_ok h kd)
    · cases h
  | .chan (some i), p, v, h, k => by
    unfold eqR at h
    split at h
    · rename_i j
      rw [Nat.eq_of_beq_eq_true h]
      cases k with
      | flat h => cases h
      | top ht => exact .top ht
    · cases h
  | .bool _, p, v, h, k | .int _ _, p, v, h, k | .float _ _, p, v, h, k | .complex _ _ _, p, v, h, k | .string _, p, v, h, k | .pointer none, p, v, h, k | .slice none _ _, p, v, h, k | .map none, p, v, h, k | .chan none, p, v, h, k | .nilFunc, p, v, h, k | .nilIface, p, v, h, k | .func _ _ _, p, v, h, k => by
    have h2 := h
    unfold eqR at h2
    simp only [Bool.and_eq_true] at h2
    have e := eqV_eq h2.2
    subst e
    rw [k.flat_eq h2.1]
    exact .flat h2.1
theorem eqRL_ok {σ : Nat → Nat} : ∀ {u p v : List Value}, eqRL σ u p = true → VRL φ p v → VRL (fun i => φ (σ i)) u v
  | [], p, v, h, k => by
    unfold eqRL at h
    have := List.isEmpty_iff.1 h
    subst this
    cases k
    exact .nil
  | a :: r, p, v, h, k => by
    unfold eqRL at h
    split at h
    · rename_i b s
      simp only [Bool.and_eq_true] at h
      cases k with
      | cons k1 k2 => exact .cons (eqR_ok h.1 k1) (eqRL_ok h.2 k2)
    · cases h
end
noncomputable section
def eqRE (σ : Nat → Nat) : List (Value × Value) → List (Value × Value) → Bool
  | [], l => l.isEmpty
  | a :: r, l => (match l with | b :: s => (flat a.1 && eqV a.1 b.1) && (eqR σ a.2 b.2 && eqRE σ r s) | [] => false)
/-- The object o is p, its numbers turned. -/
def eqRO (σ : Nat → Nat) (o p : AO) : Bool := match o with
  | .cells i t z a => (match p with | .cells j u y b => Nat.beq (σ i) j && Nat.beq t u && Nat.beq z y && eqRL σ a b | _ => false)
  | .map i c a => (match p with | .map j d b => Nat.beq (σ i) j && kdEq c d && eqRE σ a b | _ => false)
  | .frm _ => (match p with | .frm _ => true | _ => false)
  | _ => false
/-- Each of these objects stands there under its turned number. -/
def takes (σ : Nat → Nat) : List AO → Tr AO → Bool
  | [], _ => true
  | o :: l, t => match t.look (σ o.id) with
    | some p => eqRO σ o p && takes σ l (t.del (σ o.id))
    | none => false
def laid : List AO → Tr AO → Tr AO
  | [], t => t
  | o :: l, t => laid l (t.set o.id o)
end
theorem eqRE_ok {σ : Nat → Nat} {κ : Type} {kv : κ → Value} : ∀ {a b : List (Value × Value)} {m : List (κ × Value)}, eqRE σ a b = true → EsR φ kv b m → EsR (fun i => φ (σ i)) kv a m
  | [], b, m, h, k => by
    unfold eqRE at h
    have := List.isEmpty_iff.1 h
    subst this
    exact k
  | x :: r, b, m, h, k => by
    unfold eqRE at h
    split at h
    · rename_i y s
      simp only [Bool.and_eq_true] at h
      obtain ⟨⟨h1, h2⟩, h3, h4⟩ := h
      obtain ⟨q, m', hm, k1, k2, k3⟩ := k
      exact ⟨q, m', hm, (eqV_eq h2).trans k1, eqR_ok h3 k2, eqRE_ok h4 k3⟩
    · cases h
theorem eqRL_one {σ : Nat → Nat} : ∀ {a b : List Value}, eqRL σ a b = true → (∀ u ∈ b, one u = true) → ∀ u ∈ a, one u = true
  | [], _, _, _, u, hu => by cases hu
  | x :: r, b, h, k, u, hu => by
    unfold eqRL at h
    split at h
    · rename_i y s
      simp only [Bool.and_eq_true] at h
      rcases List.mem_cons.1 hu with rfl | hu
      · have hy := k y List.mem_cons_self
        cases u with
        | agg a =>
          obtain ⟨a⟩ := a
          have h1 := h.1
          unfold eqR at h1
          split at h1
          · cases hy
          · cases h1
        | tuple a =>
          obtain ⟨a⟩ := a
          have h1 := h.1
          unfold eqR at h1
          split at h1
          · cases hy
          · cases h1
        | _ => rfl
      · exact eqRL_one h.2 (fun v hv => k v (List.mem_cons_of_mem _ hv)) u hu
    · cases h
theorem eqRL_len {σ : Nat → Nat} : ∀ {a b : List Value}, eqRL σ a b = true → a.length = b.length
  | [], b, h => by
    unfold eqRL at h
    rw [List.isEmpty_iff.1 h]
  | x :: r, b, h => by
    unfold eqRL at h
    split at h
    · rename_i y s
      simp only [Bool.and_eq_true] at h
      simp [eqRL_len h.2]
    · cases h
theorem eqRO_ok {σ : Nat → Nat} {o p : AO} (h : eqRO σ o p = true) : ∀ x, OA E φ p x → OA E (fun i => φ (σ i)) o x := by
  intro x k
  unfold eqRO at h
  split at h
  · split at h
    · rename_i j u y b
      simp only [Bool.and_eq_true] at h
      obtain ⟨⟨⟨h1, h2⟩, h3⟩, h4⟩ := h
      obtain ⟨B, δ, ys, rest, k1, k2, k3, k4, k5, k6⟩ := k
      have e1 := Nat.eq_of_beq_eq_true h1
      have e2 := Nat.eq_of_beq_eq_true h2
      have e3 := Nat.eq_of_beq_eq_true h3
      subst e2; subst e3
      refine ⟨B, δ, ys, rest, ?_, eqRL_ok h4 k2, eqRL_one h4 k3, k4, by rw [eqRL_len h4]; exact k5, k6⟩
      show φ (σ _) = _
      rw [e1]; exact k1
    · cases h
  · split at h
    · rename_i j d b
      simp only [Bool.and_eq_true] at h
      obtain ⟨⟨h1, h2⟩, h3⟩ := h
      have e2 := kdEq_eq h2
      subst e2
      obtain ⟨B, δ, k1, k2⟩ := k
      refine ⟨B, δ, ?_, onKd_mono (fun κ kv y ⟨m, m', g1, g2, g3⟩ => ⟨m, m', g1, eqRE_ok h3 g2, g3⟩) x k2⟩
      show φ (σ _) = _
      rw [Nat.eq_of_beq_eq_true h1]; exact k1
    · cases h
  · split at h
    · exact k
    · cases h
  · cases h
theorem takes_cons {σ : Nat → Nat} {o : AO} {l : List AO} {t : Tr AO} (h : takes σ (o :: l) t = true) : ∃ p, t.look (σ o.id) = some p ∧ eqRO σ o p = true ∧ takes σ l (t.del (σ o.id)) = true := by
  unfold takes at h
  split at h
  · rename_i p hp
    simp only [Bool.and_eq_true] at h
    exact ⟨p, hp, h⟩
  · cases h
theorem takes_st {σ : Nat → Nat} : ∀ (l : List AO) (t : Tr AO) (H : List Asrt), takes σ l t = true → St E (H ++ t.items.map (OA E φ)) w → St E (H ++ l.map (OA E fun i => φ (σ i))) w
  | [], t, H, _, h => by
    rw [List.map_nil, List.append_nil]
    exact St.sub h (List.sublist_append_left _ _)
  | o :: l, t, H, hk, h => by
    obtain ⟨p, h1, h2, h3⟩ := takes_cons hk
    have a := (st_take (H := H) h h1).mono (eqRO_ok h2)
    have b := takes_st l _ (OA E (fun i => φ (σ i)) o :: H) h3 a
    exact b.perm List.perm_middle.symm
theorem laid_st {F : AO → Asrt} : ∀ (l : List AO) (s : Tr AO), St E (s.items.map F ++ l.map F) w → St E ((laid l s).items.map F) w
  | [], s, h => by rw [List.map_nil, List.append_nil] at h; exact h
  | o :: l, s, h => by
    have b : St E (F o :: (l.map F ++ s.items.map F)) w := h.perm (List.perm_middle.trans (List.Perm.cons _ List.perm_append_comm))
    have c := st_back (H := l.map F) b o.id
    exact laid_st l _ (c.perm List.perm_append_comm)
noncomputable section
def mOf (l : List AO) (n : Nat) : M := ⟨laid l .nil, n⟩
/-- The numbers' turning: by a list, and beyond it to what is not yet. -/
def turn (s : List Nat) (nx : Nat) : Nat → Nat := fun i => (s[i]?).getD (nx + i)
/-- The outcomes are such values; under one of these turnings what is written out stands in their memories. -/
def goK (v : (Nat → Nat) → Value → Bool) (l : List AO) (ss : List (List Nat)) (r : Res) : Bool := match r with
  | some x => x.all fun p => ss.any fun s => Nat.beq s.length (l.length) && (v (turn s p.2.nx) p.1 && takes (turn s p.2.nx) l p.2.t)
  | none => false
end
theorem goK_ok {fs : Tr FnClo} (hm : P.follows .mixedOrders = true) (hfs : ∀ g fc, fs.look g = some fc → ∀ call, Ctx P (tyT P) E call → FnOk P E call g fc) {d : Nat} {g : FuncId} {args vs : List Value} {v : (Nat → Nat) → Value → Bool} {l : List AO} {ss : List (List Nat)} (h : goK v l ss (callN ⟨P, tyT P, fs⟩ d g args m) = true) (hb : hasBody P g = true) (hv : VRL φ args vs) (hr : HR φ E m w) :
    Calls P g ⟨vs⟩ w fun e w' => ∃ u, e = .returned u ∧ ∃ x ψ σ, Le φ ψ ∧ v σ x = true ∧ VR ψ x u ∧ HR (fun i => ψ (σ i)) E (mOf l l.length) w' := by
  unfold goK at h
  split at h
  · rename_i x hx
    have := callN_ok (E := E) hm hfs d φ g args vs m w x hx hv hr
    unfold Out at this
    rw [run_callFunc hb] at this
    refine Calls.mono this fun e w' he => ?_
    cases e with
    | returned u =>
      obtain ⟨p, hp, ψ, hl, hv, hmr⟩ := he
      obtain ⟨s, _, hs⟩ := List.any_eq_true.1 (List.all_eq_true.1 h p hp)
      simp only [Bool.and_eq_true] at hs
      obtain ⟨hs0, hs1, hs2⟩ := hs
      have e0 := Nat.eq_of_beq_eq_true hs0
      refine ⟨u, rfl, p.1, ψ, turn s p.2.nx, hl, hs1, hv, ?_, fun i hi => ?_⟩
      · have a := takes_st l p.2.t [] hs2 hmr.st
        exact laid_st l .nil a
      · have hi : l.length ≤ i := hi
        show ψ ((s[i]?).getD (p.2.nx + i)) = none
        rw [List.getElem?_eq_none (by omega)]
        exact hmr.fresh _ (Nat.le_add_right _ _)
    | panicked ch => exact he.elim
    | outgrown => exact he.elim
  · cases h

/-! ### what was made stands beside what was owned -/
/-- It owns what it speaks of. -/
def Own (A : Asrt) : Prop := ∀ h, A h → ∃ h', A h' ∧ ∀ b f o, h' b = some (f, o) → f = true ∧ h b = some (f, o)
theorem Own.blk_ {b : Nat} {o : Obj} : Own (blk b o) := fun h hA => by
  have hA : h b = some (true, o) := hA
  refine ⟨fun c => if c = b then some (true, o) else none, by simp [blk], fun c f u hc => ?_⟩
  by_cases e : c = b
  · subst e
    simp at hc
    obtain ⟨rfl, rfl⟩ := hc
    exact ⟨rfl, hA⟩
  · simp [e] at hc
theorem glue_aux {x : PHeap} (hL : sepL L x) (hx : lies x w) : ∀ (As : List Asrt) (y : PHeap), (∀ A ∈ As, Own A) → sepL (As ++ [old w]) y → ∃ z, sepL (As ++ L) z ∧ ∀ b f o, z b = some (f, o) → ∃ f', y b = some (f', o)
  | [], y, _, h => by
    obtain ⟨h1, h2, d, rfl, hA, _⟩ := h
    refine ⟨x, hL, fun b f o hb => ?_⟩
    obtain ⟨f', hf⟩ := hA b o (hx b f o hb)
    exact ⟨f', by unfold un; rw [hf]⟩
  | A :: As, y, hO, h => by
    obtain ⟨h1, h2, d, rfl, hA, h⟩ := h
    obtain ⟨z, hz1, hz2⟩ := glue_aux hL hx As h2 (fun B hB => hO B (List.mem_cons_of_mem _ hB)) h
    obtain ⟨g, hg, hgt⟩ := hO A List.mem_cons_self _ hA
    refine ⟨un g z, ⟨g, z, fun b => ?_, rfl, hg, hz1⟩, fun b f o hb => ?_⟩
    · cases gb : g b with
      | none => exact .inl rfl
      | some p =>
        obtain ⟨f, o⟩ := p
        obtain ⟨hf, h1b⟩ := hgt b f o gb
        subst hf
        have h2b : h2 b = none := by
          rcases d b with h' | h' | ⟨o2, h', _⟩
          · rw [h1b] at h'; cases h'
          · exact h'
          · rw [h1b] at h'; cases h'
        cases hzb : z b with
        | none => exact .inr (.inl rfl)
        | some p => obtain ⟨f', hf'⟩ := hz2 b p.1 p.2 hzb; rw [h2b] at hf'; cases hf'
    · unfold un at hb
      cases gb : g b with
      | some p =>
        rw [gb] at hb
        injection hb with hb
        subst hb
        exact ⟨f, by unfold un; rw [(hgt b f o gb).2]⟩
      | none =>
        rw [gb] at hb
        obtain ⟨f', hf'⟩ := hz2 b f o hb
        unfold un
        rcases d b with h' | h' | ⟨o2, h', h''⟩
        · rw [h']; exact ⟨f', hf'⟩
        · rw [h'] at hf'; cases hf'
        · rw [h'']  at hf'; injection hf' with hf'; injection hf' with _ hf'; subst hf'; rw [h']; exact ⟨_, rfl⟩
theorem St.glue {E0 : World} {As : List Asrt} (hO : ∀ A ∈ As, Own A) (h : St E0 L w) (h2 : St w (As ++ [old w]) w') : St E0 (As ++ L) w' := by
  obtain ⟨e, x, hL, hx⟩ := h
  obtain ⟨e', y, hs, hy⟩ := h2
  obtain ⟨z, hz1, hz2⟩ := glue_aux hL hx As y hO hs
  exact ⟨⟨e'.os.trans e.os, e'.tape.trans e.tape, e'.output.trans e.output⟩, z, hz1, fun b f o hb => by
    obtain ⟨f', hf⟩ := hz2 b f o hb
    exact hy b f' o hf⟩
end
end Go.Ev

/-
  A cluster's memory, state by state (printed by tools/evt.lean).
-/
namespace Go.Ev
open Go Go.Vc
def kS : Nat → List AO
  | 0 => [.frm 0, .cells 1 69 1 [.slice (some ⟨2, 0, none⟩) 2 2, .pointer (some ⟨3, 0, none⟩), .slice (some ⟨4, 0, none⟩) 2 2, .slice none 0 0], .cells 2 73 2 [.pointer (some ⟨5, 0, none⟩), .pointer (some ⟨6, 0, none⟩), .pointer (some ⟨7, 0, none⟩), .pointer (some ⟨8, 0, none⟩)], .cells 3 93 1 [.int .i64 0, .slice none 0 0, .map (some 9), .int .i64 0, .int .i64 0, .int .i64 0, .int .i64 0, .int .i64 0, .int .i64 0, .int .i64 0, .int .i64 0, .int .i64 0, .int .i64 0], .cells 4 3 1 [.int .i64 1, .int .i64 2], .cells 5 96 1 [.int .i64 4000, .map (some 10)], .cells 6 89 1 [.pointer (some ⟨5, 0, none⟩), .int .i64 1, .pointer (some ⟨11, 0, none⟩), .pointer (some ⟨12, 0, none⟩), .pointer (some ⟨13, 0, none⟩), .slice (some ⟨14, 0, none⟩) 2 2, .slice none 0 0, .pointer (some ⟨15, 0, none⟩), .int .i64 0], .cells 7 96 1 [.int .i64 4000, .map (some 16)], .cells 8 89 1 [.pointer (some ⟨7, 0, none⟩), .int .i64 2, .pointer (some ⟨17, 0, none⟩), .pointer (some ⟨18, 0, none⟩), .pointer (some ⟨19, 0, none⟩), .slice (some ⟨20, 0, none⟩) 2 2, .slice none 0 0, .pointer (some ⟨21, 0, none⟩), .int .i64 0], .map 9 (.int2 .i64) [], .map 10 .str [(.string ⟨#[119, 97, 108, 45, 49]⟩, .pointer (some ⟨22, 0, none⟩))], .cells 11 171 1 [.pointer (some ⟨5, 0, none⟩), .int .i64 0, .int .i64 0, .int .i64 0, .int .i64 0, .slice none 0 0, .int .i64 1, .int .i64 22], .cells 12 221 1 [.int .i64 1, .int .i64 0, .int .i64 0, .int .i64 0, .int .i64 0, .slice (some ⟨23, 0, none⟩) 2 2, .slice none 0 0, .slice none 0 0, .slice none 0 0, .int .i64 0, .int .i64 0, .int .i64 0, .int .i64 0, .int .i64 13, .int .i64 10, .slice none 0 0, .map none, .int .i64 0, .int .i64 0, .slice none 0 0, .pointer none], .cells 13 161 1 [.int .i64 0, .map (some 24), .map (some 25), .map (some 26)], .cells 14 3 1 [.int .i64 1, .int .i64 2], .cells 15 147 1 [.int .i64 0, .slice none 0 0, .slice none 0 0], .map 16 .str [(.string ⟨#[119, 97, 108, 45, 49]⟩, .pointer (some ⟨27, 0, none⟩))], .cells 17 171 1 [.pointer (some ⟨7, 0, none⟩), .int .i64 0, .int .i64 0, .int .i64 0, .int .i64 0, .slice none 0 0, .int .i64 1, .int .i64 22], .cells 18 221 1 [.int .i64 2, .int .i64 0, .int .i64 0, .int .i64 0, .int .i64 0, .slice (some ⟨28, 0, none⟩) 2 2, .slice none 0 0, .slice none 0 0, .slice none 0 0, .int .i64 0, .int .i64 0, .int .i64 0, .int .i64 0, .int .i64 16, .int .i64 10, .slice none 0 0, .map none, .int .i64 0, .int .i64 0, .slice none 0 0, .pointer none], .cells 19 161 1 [.int .i64 0, .map (some 29), .map (some 30), .map (some 31)], .cells 20 3 1 [.int .i64 1, .int .i64 2], .cells 21 147 1 [.int .i64 0, .slice none 0 0, .slice none 0 0], .cells 22 248 1 [.slice (some ⟨32, 0, none⟩) 22 22, .slice (some ⟨33, 0, none⟩) 22 22, .bool true, .slice none 0 0], .cells 23 3 1 [.int .i64 1, .int .i64 2], .map 24 .str [], .map 25 .str2 [], .map 26 (.int .i64) [], .cells 27 248 1 [.slice (some ⟨34, 0, none⟩) 22 22, .slice (some ⟨35, 0, none⟩) 22 22, .bool true, .slice none 0 0], .cells 28 3 1 [.int .i64 1, .int .i64 2], .map 29 .str [], .map 30 .str2 [], .map 31 (.int .i64) [], .cells 32 5 1 [.int .u8 0, .int .u8 0, .int .u8 0, .int .u8 3, .int .u8 142, .int .u8 27, .int .u8 26, .int .u8 167, .int .u8 1, .int .u8 0, .int .u8 0, .int .u8 0, .int .u8 0, .int .u8 0, .int .u8 3, .int .u8 140, .int .u8 93, .int .u8 164, .int .u8 254, .int .u8 2, .int .u8 0, .int .u8 0], .cells 33 5 1 [.int .u8 0, .int .u8 0, .int .u8 0, .int .u8 3, .int .u8 142, .int .u8 27, .int .u8 26, .int .u8 167, .int .u8 1, .int .u8 0, .int .u8 0, .int .u8 0, .int .u8 0, .int .u8 0, .int .u8 3, .int .u8 140, .int .u8 93, .int .u8 164, .int .u8 254, .int .u8 2, .int .u8 0, .int .u8 0], .cells 34 5 1 [.int .u8 0, .int .u8 0, .int .u8 0, .int .u8 3, .int .u8 142, .int .u8 27, .int .u8 26, .int .u8 167, .int .u8 1, .int .u8 0, .int .u8 0, .int .u8 0, .int .u8 0, .int .u8 0, .int .u8 3, .int .u8 140, .int .u8 93, .int .u8 164, .int .u8 254, .int .u8 2, .int .u8 0, .int .u8 0], .cells 35 5 1 [.int .u8 0, .int .u8 0, .int .u8 0, .int .u8 3, .int .u8 142, .int .u8 27, .int .u8 26, .int .u8 167, .int .u8 1, .int .u8 0, .int .u8 0, .int .u8 0, .int .u8 0, .int .u8 0, .int .u8 3, .int .u8 140, .int .u8 93, .int .u8 164, .int .u8 254, .int .u8 2, .int .u8 0, .int .u8 0]]
  | 1 => [.frm 0, .cells 1 69 1 [.slice (some ⟨2, 0, none⟩) 3 3, .pointer (some ⟨3, 0, none⟩), .slice (some ⟨4, 0, none⟩) 3 3, .slice none 0 0], .cells 2 73 2 [.pointer (some ⟨5, 0, none⟩), .pointer (some ⟨6, 0, none⟩), .pointer (some ⟨7, 0, none⟩), .pointer (some ⟨8, 0, none⟩), .pointer (some ⟨9, 0, none⟩), .pointer (some ⟨10, 0, none⟩)], .cells 3 93 1 [.int .i64 0, .slice none 0 0, .map (some 11), .int .i64 0, .int .i64 0, .int .i64 0, .int .i64 0, .int .i64 0, .int .i64 0, .int .i64 0, .int .i64 0, .int .i64 0, .int .i64 0], .cells 4 3 1 [.int .i64 1, .int .i64 2, .int .i64 3], .cells 5 96 1 [.int .i64 65536, .map (some 12)], .cells 6 89 1 [.pointer (some ⟨5, 0, none⟩), .int .i64 1, .pointer (some ⟨13, 0, none⟩), .pointer (some ⟨14, 0, none⟩), .pointer (some ⟨15, 0, none⟩), .slice (some ⟨16, 0, none⟩) 3 3, .slice none 0 0, .pointer (some ⟨17, 0, none⟩), .int .i64 0], .cells 7 96 1 [.int .i64 65536, .map (some 18)], .cells 8 89 1 [.pointer (some ⟨7, 0, none⟩), .int .i64 2, .pointer (some ⟨19, 0, none⟩), .pointer (some ⟨20, 0, none⟩), .pointer (some ⟨21, 0, none⟩), .slice (some ⟨22, 0, none⟩) 3 3, .slice none 0 0, .pointer (some ⟨23, 0, none⟩), .int .i64 0], .cells 9 96 1 [.int .i64 65536, .map (some 24)], .cells 10 89 1 [.pointer (some ⟨9, 0, none⟩), .int .i64 3, .pointer (some ⟨25, 0, none⟩), .pointer (some ⟨26, 0, none⟩), .pointer (some ⟨27, 0, none⟩), .slice (some ⟨28, 0, none⟩) 3 3, .slice none 0 0, .pointer (some ⟨29, 0, none⟩), .int .i64 0], .map 11 (.int2 .i64) [], .map 12 .str [(.string ⟨#[119, 97, 108, 45, 49]⟩, .pointer (some ⟨30, 0, none⟩))], .cells 13 171 1 [.pointer (some ⟨5, 0, none⟩), .int .i64 0, .int .i64 0, .int .i64 0, .int .i64 0, .slice none 0 0, .int .i64 1, .int .i64 22], .cells 14 221 1 [.int .i64 1, .int .i64 0, .int .i64 0, .int .i64 0, .int .i64 0, .slice (some ⟨31, 0, none⟩) 3 3, .slice none 0 0, .slice none 0 0, .slice none 0 0, .int .i64 0, .int .i64 0, .int .i64 0, .int .i64 0, .int .i64 13, .int .i64 10, .slice none 0 0, .map none, .int .i64 0, .int .i64 0, .slice none 0 0, .pointer none], .cells 15 161 1 [.int .i64 0, .map (some 32), .map (some 33), .map (some 34)], .cells 16 3 1 [.int .i64 1, .int .i64 2, .int .i64 3], .cells 17 147 1 [.int .i64 0, .slice none 0 0, .slice none 0 0], .map 18 .str [(.string ⟨#[119, 97, 108, 45, 49]⟩, .pointer (some ⟨35, 0, none⟩))], .cells 19 171 1 [.pointer (some ⟨7, 0, none⟩), .int .i64 0, .int .i64 0, .int .i64 0, .int .i64 0, .slice none 0 0, .int .i64 1, .int .i64 22], .cells 20 221 1 [.int .i64 2, .int .i64 0, .int .i64 0, .int .i64 0, .int .i64 0, .slice (some ⟨36, 0, none⟩) 3 3, .slice none 0 0, .slice none 0 0, .slice none 0 0, .int .i64 0, .int .i64 0, .int .i64 0, .int .i64 0, .int .i64 16, .int .i64 10, .slice none 0 0, .map none, .int .i64 0, .int .i64 0, .slice none 0 0, .pointer none], .cells 21 161 1 [.int .i64 0, .map (some 37), .map (some 38), .map (some 39)], .cells 22 3 1 [.int .i64 1, .int .i64 2, .int .i64 3], .cells 23 147 1 [.int .i64 0, .slice none 0 0, .slice none 0 0], .map 24 .str [(.string ⟨#[119, 97, 108, 45, 49]⟩, .pointer (some ⟨40, 0, none⟩))], .cells 25 171 1 [.pointer (some ⟨9, 0, none⟩), .int .i64 0, .int .i64 0, .int .i64 0, .int .i64 0, .slice none 0 0, .int .i64 1, .int .i64 22], .cells 26 221 1 [.int .i64 3, .int .i64 0, .int .i64 0, .int .i64 0, .int .i64 0, .slice (some ⟨41, 0, none⟩) 3 3, .slice none 0 0, .slice none 0 0, .slice none 0 0, .int .i64 0, .int .i64 0, .int .i64 0, .int .i64 0, .int .i64 19, .int .i64 10, .slice none 0 0, .map none, .int .i64 0, .int .i64 0, .slice none 0 0, .pointer none], .cells 27 161 1 [.int .i64 0, .map (some 42), .map (some 43), .map (some 44)], .cells 28 3 1 [.int .i64 1, .int .i64 2, .int .i64 3], .cells 29 147 1 [.int .i64 0, .slice none 0 0, .slice none 0 0], .cells 30 248 1 [.slice (some ⟨45, 0, none⟩) 22 22, .slice (some ⟨46, 0, none⟩) 22 22, .bool true, .slice none 0 0], .cells 31 3 1 [.int .i64 1, .int .i64 2, .int .i64 3], .map 32 .str [], .map 33 .str2 [], .map 34 (.int .i64) [], .cells 35 248 1 [.slice (some ⟨47, 0, none⟩) 22 22, .slice (some ⟨48, 0, none⟩) 22 22, .bool true, .slice none 0 0], .cells 36 3 1 [.int .i64 1, .int .i64 2, .int .i64 3], .map 37 .str [], .map 38 .str2 [], .map 39 (.int .i64) [], .cells 40 248 1 [.slice (some ⟨49, 0, none⟩) 22 22, .slice (some ⟨50, 0, none⟩) 22 22, .bool true, .slice none 0 0], .cells 41 3 1 [.int .i64 1, .int .i64 2, .int .i64 3], .map 42 .str [], .map 43 .str2 [], .map 44 (.int .i64) [], .cells 45 5 1 [.int .u8 0, .int .u8 0, .int .u8 0, .int .u8 3, .int .u8 142, .int .u8 27, .int .u8 26, .int .u8 167, .int .u8 1, .int .u8 0, .int .u8 0, .int .u8 0, .int .u8 0, .int .u8 0, .int .u8 3, .int .u8 140, .int .u8 93, .int .u8 164, .int .u8 254, .int .u8 2, .int .u8 0, .int .u8 0], .cells 46 5 1 [.int .u8 0, .int .u8 0, .int .u8 0, .int .u8 3, .int .u8 142, .int .u8 27, .int .u8 26, .int .u8 167, .int .u8 1, .int .u8 0, .int .u8 0, .int .u8 0, .int .u8 0, .int .u8 0, .int .u8 3, .int .u8 140, .int .u8 93, .int .u8 164, .int .u8 254, .int .u8 2, .int .u8 0, .int .u8 0], .cells 47 5 1 [.int .u8 0, .int .u8 0, .int .u8 0, .int .u8 3, .int .u8 142, .int .u8 27, .int .u8 26, .int .u8 167, .int .u8 1, .int .u8 0, .int .u8 0, .int .u8 0, .int .u8 0, .int .u8 0, .int .u8 3, .int .u8 140, .int .u8 93, .int .u8 164, .int .u8 254, .int .u8 2, .int .u8 0, .int .u8 0], .cells 48 5 1 [.int .u8 0, .int .u8 0, .int .u8 0, .int .u8 3, .int .u8 142, .int .u8 27, .int .u8 26, .int .u8 167, .int .u8 1, .int .u8 0, .int .u8 0, .int .u8 0, .int .u8 0, .int .u8 0, .int .u8 3, .int .u8 140, .int .u8 93, .int .u8 164, .int .u8 254, .int .u8 2, .int .u8 0, .int .u8 0], .cells 49 5 1 [.int .u8 0, .int .u8 0, .int .u8 0, .int .u8 3, .int .u8 142, .int .u8 27, .int .u8 26, .int .u8 167, .int .u8 1, .int .u8 0, .int .u8 0, .int .u8 0, .int .u8 0, .int .u8 0, .int .u8 3, .int .u8 140, .int .u8 93, .int .u8 164, .int .u8 254, .int .u8 2, .int .u8 0, .int .u8 0], .cells 50 5 1 [.int .u8 0, .int .u8 0, .int .u8 0, .int .u8 3, .int .u8 142, .int .u8 27, .int .u8 26, .int .u8 167, .int .u8 1, .int .u8 0, .int .u8 0, .int .u8 0, .int .u8 0, .int .u8 0, .int .u8 3, .int .u8 140, .int .u8 93, .int .u8 164, .int .u8 254, .int .u8 2, .int .u8 0, .int .u8 0]]
  | 2 => [.frm 0, .cells 1 69 1 [.slice (some ⟨2, 0, none⟩) 3 3, .pointer (some ⟨3, 0, none⟩), .slice (some ⟨4, 0, none⟩) 3 3, .slice none 0 0], .cells 2 73 2 [.pointer (some ⟨5, 0, none⟩), .pointer (some ⟨6, 0, none⟩), .pointer (some ⟨7, 0, none⟩), .pointer (some ⟨8, 0, none⟩), .pointer (some ⟨9, 0, none⟩), .pointer (some ⟨10, 0, none⟩)], .cells 3 93 1 [.int .i64 0, .slice none 0 0, .map (some 11), .int .i64 0, .int .i64 1, .int .i64 0, .int .i64 0, .int .i64 0, .int .i64 0, .int .i64 0, .int .i64 0, .int .i64 0, .int .i64 0], .cells 4 3 1 [.int .i64 1, .int .i64 2, .int .i64 3], .cells 5 96 1 [.int .i64 65536, .map (some 12)], .cells 6 89 1 [.pointer (some ⟨5, 0, none⟩), .int .i64 1, .pointer (some ⟨13, 0, none⟩), .pointer (some ⟨14, 0, none⟩), .pointer (some ⟨15, 0, none⟩), .slice (some ⟨16, 0, none⟩) 3 3, .slice none 0 0, .pointer (some ⟨17, 0, none⟩), .int .i64 0], .cells 7 96 1 [.int .i64 65536, .map (some 18)], .cells 8 89 1 [.pointer (some ⟨7, 0, none⟩), .int .i64 2, .pointer (some ⟨19, 0, none⟩), .pointer (some ⟨20, 0, none⟩), .pointer (some ⟨21, 0, none⟩), .slice (some ⟨22, 0, none⟩) 3 3, .slice none 0 0, .pointer (some ⟨23, 0, none⟩), .int .i64 0], .cells 9 96 1 [.int .i64 65536, .map (some 24)], .cells 10 89 1 [.pointer (some ⟨9, 0, none⟩), .int .i64 3, .pointer (some ⟨25, 0, none⟩), .pointer (some ⟨26, 0, none⟩), .pointer (some ⟨27, 0, none⟩), .slice (some ⟨28, 0, none⟩) 3 3, .slice none 0 0, .pointer (some ⟨29, 0, none⟩), .int .i64 0], .map 11 (.int2 .i64) [], .map 12 .str [(.string ⟨#[119, 97, 108, 45, 49]⟩, .pointer (some ⟨30, 0, none⟩))], .cells 13 171 1 [.pointer (some ⟨5, 0, none⟩), .int .i64 0, .int .i64 0, .int .i64 0, .int .i64 0, .slice none 0 0, .int .i64 1, .int .i64 22], .cells 14 221 1 [.int .i64 1, .int .i64 0, .int .i64 0, .int .i64 0, .int .i64 0, .slice (some ⟨31, 0, none⟩) 3 3, .slice none 0 0, .slice none 0 0, .slice none 0 0, .int .i64 0, .int .i64 0, .int .i64 0, .int .i64 1, .int .i64 13, .int .i64 10, .slice none 0 0, .map (some 32), .int .i64 0, .int .i64 0, .slice none 0 0, .pointer none], .cells 15 161 1 [.int .i64 0, .map (some 33), .map (some 34), .map (some 35)], .cells 16 3 1 [.int .i64 1, .int .i64 2, .int .i64 3], .cells 17 147 1 [.int .i64 0, .slice none 0 0, .slice none 0 0], .map 18 .str [(.string ⟨#[119, 97, 108, 45, 49]⟩, .pointer (some ⟨36, 0, none⟩))], .cells 19 171 1 [.pointer (some ⟨7, 0, none⟩), .int .i64 0, .int .i64 0, .int .i64 0, .int .i64 0, .slice none 0 0, .int .i64 1, .int .i64 22], .cells 20 221 1 [.int .i64 2, .int .i64 0, .int .i64 0, .int .i64 0, .int .i64 0, .slice (some ⟨37, 0, none⟩) 3 3, .slice none 0 0, .slice none 0 0, .slice none 0 0, .int .i64 0, .int .i64 0, .int .i64 0, .int .i64 0, .int .i64 16, .int .i64 10, .slice none 0 0, .map none, .int .i64 0, .int .i64 0, .slice none 0 0, .pointer none], .cells 21 161 1 [.int .i64 0, .map (some 38), .map (some 39), .map (some 40)], .cells 22 3 1 [.int .i64 1, .int .i64 2, .int .i64 3], .cells 23 147 1 [.int .i64 0, .slice none 0 0, .slice none 0 0], .map 24 .str [(.string ⟨#[119, 97, 108, 45, 49]⟩, .pointer (some ⟨41, 0, none⟩))], .cells 25 171 1 [.pointer (some ⟨9, 0, none⟩), .int .i64 0, .int .i64 0, .int .i64 0, .int .i64 0, .slice none 0 0, .int .i64 1, .int .i64 22], .cells 26 221 1 [.int .i64 3, .int .i64 0, .int .i64 0, .int .i64 0, .int .i64 0, .slice (some ⟨42, 0, none⟩) 3 3, .slice none 0 0, .slice none 0 0, .slice none 0 0, .int .i64 0, .int .i64 0, .int .i64 0, .int .i64 0, .int .i64 19, .int .i64 10, .slice none 0 0, .map none, .int .i64 0, .int .i64 0, .slice none 0 0, .pointer none], .cells 27 161 1 [.int .i64 0, .map (some 43), .map (some 44), .map (some 45)], .cells 28 3 1 [.int .i64 1, .int .i64 2, .int .i64 3], .cells 29 147 1 [.int .i64 0, .slice none 0 0, .slice none 0 0], .cells 30 248 1 [.slice (some ⟨46, 0, none⟩) 22 22, .slice (some ⟨47, 0, none⟩) 22 22, .bool true, .slice none 0 0], .cells 31 3 1 [.int .i64 1, .int .i64 2, .int .i64 3], .map 32 (.int .i64) [], .map 33 .str [], .map 34 .str2 [], .map 35 (.int .i64) [], .cells 36 248 1 [.slice (some ⟨48, 0, none⟩) 22 22, .slice (some ⟨49, 0, none⟩) 22 22, .bool true, .slice none 0 0], .cells 37 3 1 [.int .i64 1, .int .i64 2, .int .i64 3], .map 38 .str [], .map 39 .str2 [], .map 40 (.int .i64) [], .cells 41 248 1 [.slice (some ⟨50, 0, none⟩) 22 22, .slice (some ⟨51, 0, none⟩) 22 22, .bool true, .slice none 0 0], .cells 42 3 1 [.int .i64 1, .int .i64 2, .int .i64 3], .map 43 .str [], .map 44 .str2 [], .map 45 (.int .i64) [], .cells 46 5 1 [.int .u8 0, .int .u8 0, .int .u8 0, .int .u8 3, .int .u8 142, .int .u8 27, .int .u8 26, .int .u8 167, .int .u8 1, .int .u8 0, .int .u8 0, .int .u8 0, .int .u8 0, .int .u8 0, .int .u8 3, .int .u8 140, .int .u8 93, .int .u8 164, .int .u8 254, .int .u8 2, .int .u8 0, .int .u8 0], .cells 47 5 1 [.int .u8 0, .int .u8 0, .int .u8 0, .int .u8 3, .int .u8 142, .int .u8 27, .int .u8 26, .int .u8 167, .int .u8 1, .int .u8 0, .int .u8 0, .int .u8 0, .int .u8 0, .int .u8 0, .int .u8 3, .int .u8 140, .int .u8 93, .int .u8 164, .int .u8 254, .int .u8 2, .int .u8 0, .int .u8 0], .cells 48 5 1 [.int .u8 0, .int .u8 0, .int .u8 0, .int .u8 3, .int .u8 142, .int .u8 27, .int .u8 26, .int .u8 167, .int .u8 1, .int .u8 0, .int .u8 0, .int .u8 0, .int .u8 0, .int .u8 0, .int .u8 3, .int .u8 140, .int .u8 93, .int .u8 164, .int .u8 254, .int .u8 2, .int .u8 0, .int .u8 0], .cells 49 5 1 [.int .u8 0, .int .u8 0, .int .u8 0, .int .u8 3, .int .u8 142, .int .u8 27, .int .u8 26, .int .u8 167, .int .u8 1, .int .u8 0, .int .u8 0, .int .u8 0, .int .u8 0, .int .u8 0, .int .u8 3, .int .u8 140, .int .u8 93, .int .u8 164, .int .u8 254, .int .u8 2, .int .u8 0, .int .u8 0], .cells 50 5 1 [.int .u8 0, .int .u8 0, .int .u8 0, .int .u8 3, .int .u8 142, .int .u8 27, .int .u8 26, .int .u8 167, .int .u8 1, .int .u8 0, .int .u8 0, .int .u8 0, .int .u8 0, .int .u8 0, .int .u8 3, .int .u8 140, .int .u8 93, .int .u8 164, .int .u8 254, .int .u8 2, .int .u8 0, .int .u8 0], .cells 51 5 1 [.int .u8 0, .int .u8 0, .int .u8 0, .int .u8 3, .int .u8 142, .int .u8 27, .int .u8 26, .int .u8 167, .int .u8 1, .int .u8 0, .int .u8 0, .int .u8 0, .int .u8 0, .int .u8 0, .int .u8 3, .int .u8 140, .int .u8 93, .int .u8 164, .int .u8 254, .int .u8 2, .int .u8 0, .int .u8 0]]
  | 3 => [.frm 0, .cells 1 69 1 [.slice (some ⟨2, 0, none⟩) 3 3, .pointer (some ⟨3, 0, none⟩), .slice (some ⟨4, 0, none⟩) 3 3, .slice none 0 0], .cells 2 73 2 [.pointer (some ⟨5, 0, none⟩), .pointer (some ⟨6, 0, none⟩), .pointer (some ⟨7, 0, none⟩), .pointer (some ⟨8, 0, none⟩), .pointer (some ⟨9, 0, none⟩), .pointer (some ⟨10, 0, none⟩)], .cells 3 93 1 [.int .i64 0, .slice none 0 0, .map (some 11), .int .i64 0, .int .i64 2, .int .i64 0, .int .i64 0, .int .i64 0, .int .i64 0, .int .i64 0, .int .i64 0, .int .i64 0, .int .i64 0], .cells 4 3 1 [.int .i64 1, .int .i64 2, .int .i64 3], .cells 5 96 1 [.int .i64 65536, .map (some 12)], .cells 6 89 1 [.pointer (some ⟨5, 0, none⟩), .int .i64 1, .pointer (some ⟨13, 0, none⟩), .pointer (some ⟨14, 0, none⟩), .pointer (some ⟨15, 0, none⟩), .slice (some ⟨16, 0, none⟩) 3 3, .slice none 0 0, .pointer (some ⟨17, 0, none⟩), .int .i64 0], .cells 7 96 1 [.int .i64 65536, .map (some 18)], .cells 8 89 1 [.pointer (some ⟨7, 0, none⟩), .int .i64 2, .pointer (some ⟨19, 0, none⟩), .pointer (some ⟨20, 0, none⟩), .pointer (some ⟨21, 0, none⟩), .slice (some ⟨22, 0, none⟩) 3 3, .slice none 0 0, .pointer (some ⟨23, 0, none⟩), .int .i64 0], .cells 9 96 1 [.int .i64 65536, .map (some 24)], .cells 10 89 1 [.pointer (some ⟨9, 0, none⟩), .int .i64 3, .pointer (some ⟨25, 0, none⟩), .pointer (some ⟨26, 0, none⟩), .pointer (some ⟨27, 0, none⟩), .slice (some ⟨28, 0, none⟩) 3 3, .slice none 0 0, .pointer (some ⟨29, 0, none⟩), .int .i64 0], .map 11 (.int2 .i64) [], .map 12 .str [(.string ⟨#[119, 97, 108, 45, 49]⟩, .pointer (some ⟨30, 0, none⟩))], .cells 13 171 1 [.pointer (some ⟨5, 0, none⟩), .int .i64 0, .int .i64 0, .int .i64 0, .int .i64 0, .slice none 0 0, .int .i64 1, .int .i64 22], .cells 14 221 1 [.int .i64 1, .int .i64 0, .int .i64 0, .int .i64 0, .int .i64 0, .slice (some ⟨31, 0, none⟩) 3 3, .slice none 0 0, .slice none 0 0, .slice none 0 0, .int .i64 0, .int .i64 0, .int .i64 0, .int .i64 2, .int .i64 13, .int .i64 10, .slice none 0 0, .map (some 32), .int .i64 0, .int .i64 0, .slice none 0 0, .pointer none], .cells 15 161 1 [.int .i64 0, .map (some 33), .map (some 34), .map (some 35)], .cells 16 3 1 [.int .i64 1, .int .i64 2, .int .i64 3], .cells 17 147 1 [.int .i64 0, .slice none 0 0, .slice none 0 0], .map 18 .str [(.string ⟨#[119, 97, 108, 45, 49]⟩, .pointer (some ⟨36, 0, none⟩))], .cells 19 171 1 [.pointer (some ⟨7, 0, none⟩), .int .i64 0, .int .i64 0, .int .i64 0, .int .i64 0, .slice none 0 0, .int .i64 1, .int .i64 22], .cells 20 221 1 [.int .i64 2, .int .i64 0, .int .i64 0, .int .i64 0, .int .i64 0, .slice (some ⟨37, 0, none⟩) 3 3, .slice none 0 0, .slice none 0 0, .slice none 0 0, .int .i64 0, .int .i64 0, .int .i64 0, .int .i64 0, .int .i64 16, .int .i64 10, .slice none 0 0, .map none, .int .i64 0, .int .i64 0, .slice none 0 0, .pointer none], .cells 21 161 1 [.int .i64 0, .map (some 38), .map (some 39), .map (some 40)], .cells 22 3 1 [.int .i64 1, .int .i64 2, .int .i64 3], .cells 23 147 1 [.int .i64 0, .slice none 0 0, .slice none 0 0], .map 24 .str [(.string ⟨#[119, 97, 108, 45, 49]⟩, .pointer (some ⟨41, 0, none⟩))], .cells 25 171 1 [.pointer (some ⟨9, 0, none⟩), .int .i64 0, .int .i64 0, .int .i64 0, .int .i64 0, .slice none 0 0, .int .i64 1, .int .i64 22], .cells 26 221 1 [.int .i64 3, .int .i64 0, .int .i64 0, .int .i64 0, .int .i64 0, .slice (some ⟨42, 0, none⟩) 3 3, .slice none 0 0, .slice none 0 0, .slice none 0 0, .int .i64 0, .int .i64 0, .int .i64 0, .int .i64 0, .int .i64 19, .int .i64 10, .slice none 0 0, .map none, .int .i64 0, .int .i64 0, .slice none 0 0, .pointer none], .cells 27 161 1 [.int .i64 0, .map (some 43), .map (some 44), .map (some 45)], .cells 28 3 1 [.int .i64 1, .int .i64 2, .int .i64 3], .cells 29 147 1 [.int .i64 0, .slice none 0 0, .slice none 0 0], .cells 30 248 1 [.slice (some ⟨46, 0, none⟩) 22 22, .slice (some ⟨47, 0, none⟩) 22 22, .bool true, .slice none 0 0], .cells 31 3 1 [.int .i64 1, .int .i64 2, .int .i64 3], .map 32 (.int .i64) [], .map 33 .str [], .map 34 .str2 [], .map 35 (.int .i64) [], .cells 36 248 1 [.slice (some ⟨48, 0, none⟩) 22 22, .slice (some ⟨49, 0, none⟩) 22 22, .bool true, .slice none 0 0], .cells 37 3 1 [.int .i64 1, .int .i64 2, .int .i64 3], .map 38 .str [], .map 39 .str2 [], .map 40 (.int .i64) [], .cells 41 248 1 [.slice (some ⟨50, 0, none⟩) 22 22, .slice (some ⟨51, 0, none⟩) 22 22, .bool true, .slice none 0 0], .cells 42 3 1 [.int .i64 1, .int .i64 2, .int .i64 3], .map 43 .str [], .map 44 .str2 [], .map 45 (.int .i64) [], .cells 46 5 1 [.int .u8 0, .int .u8 0, .int .u8 0, .int .u8 3, .int .u8 142, .int .u8 27, .int .u8 26, .int .u8 167, .int .u8 1, .int .u8 0, .int .u8 0, .int .u8 0, .int .u8 0, .int .u8 0, .int .u8 3, .int .u8 140, .int .u8 93, .int .u8 164, .int .u8 254, .int .u8 2, .int .u8 0, .int .u8 0], .cells 47 5 1 [.int .u8 0, .int .u8 0, .int .u8 0, .int .u8 3, .int .u8 142, .int .u8 27, .int .u8 26, .int .u8 167, .int .u8 1, .int .u8 0, .int .u8 0, .int .u8 0, .int .u8 0, .int .u8 0, .int .u8 3, .int .u8 140, .int .u8 93, .int .u8 164, .int .u8 254, .int .u8 2, .int .u8 0, .int .u8 0], .cells 48 5 1 [.int .u8 0, .int .u8 0, .int .u8 0, .int .u8 3, .int .u8 142, .int .u8 27, .int .u8 26, .int .u8 167, .int .u8 1, .int .u8 0, .int .u8 0, .int .u8 0, .int .u8 0, .int .u8 0, .int .u8 3, .int .u8 140, .int .u8 93, .int .u8 164, .int .u8 254, .int .u8 2, .int .u8 0, .int .u8 0], .cells 49 5 1 [.int .u8 0, .int .u8 0, .int .u8 0, .int .u8 3, .int .u8 142, .int .u8 27, .int .u8 26, .int .u8 167, .int .u8 1, .int .u8 0, .int .u8 0, .int .u8 0, .int .u8 0, .int .u8 0, .int .u8 3, .int .u8 140, .int .u8 93, .int .u8 164, .int .u8 254, .int .u8 2, .int .u8 0, .int .u8 0], .cells 50 5 1 [.int .u8 0, .int .u8 0, .int .u8 0, .int .u8 3, .int .u8 142, .int .u8 27, .int .u8 26, .int .u8 167, .int .u8 1, .int .u8 0, .int .u8 0, .int .u8 0, .int .u8 0, .int .u8 0, .int .u8 3, .int .u8 140, .int .u8 93, .int .u8 164, .int .u8 254, .int .u8 2, .int .u8 0, .int .u8 0], .cells 51 5 1 [.int .u8 0, .int .u8 0, .int .u8 0, .int .u8 3, .int .u8 142, .int .u8 27, .int .u8 26, .int .u8 167, .int .u8 1, .int .u8 0, .int .u8 0, .int .u8 0, .int .u8 0, .int .u8 0, .int .u8 3, .int .u8 140, .int .u8 93, .int .u8 164, .int .u8 254, .int .u8 2, .int .u8 0, .int .u8 0]]
  | 4 => [.frm 0, .cells 1 69 1 [.slice (some ⟨2, 0, none⟩) 3 3, .pointer (some ⟨3, 0, none⟩), .slice (some ⟨4, 0, none⟩) 3 3, .slice none 0 0], .cells 2 73 2 [.pointer (some ⟨5, 0, none⟩), .pointer (some ⟨6, 0, none⟩), .pointer (some ⟨7, 0, none⟩), .pointer (some ⟨8, 0, none⟩), .pointer (some ⟨9, 0, none⟩), .pointer (some ⟨10, 0, none⟩)], .cells 3 93 1 [.int .i64 0, .slice none 0 0, .map (some 11), .int .i64 0, .int .i64 3, .int .i64 0, .int .i64 0, .int .i64 0, .int .i64 0, .int .i64 0, .int .i64 0, .int .i64 0, .int .i64 0], .cells 4 3 1 [.int .i64 1, .int .i64 2, .int .i64 3], .cells 5 96 1 [.int .i64 65536, .map (some 12)], .cells 6 89 1 [.pointer (some ⟨5, 0, none⟩), .int .i64 1, .pointer (some ⟨13, 0, none⟩), .pointer (some ⟨14, 0, none⟩), .pointer (some ⟨15, 0, none⟩), .slice (some ⟨16, 0, none⟩) 3 3, .slice none 0 0, .pointer (some ⟨17, 0, none⟩), .int .i64 0], .cells 7 96 1 [.int .i64 65536, .map (some 18)], .cells 8 89 1 [.pointer (some ⟨7, 0, none⟩), .int .i64 2, .pointer (some ⟨19, 0, none⟩), .pointer (some ⟨20, 0, none⟩), .pointer (some ⟨21, 0, none⟩), .slice (some ⟨22, 0, none⟩) 3 3, .slice none 0 0, .pointer (some ⟨23, 0, none⟩), .int .i64 0], .cells 9 96 1 [.int .i64 65536, .map (some 24)], .cells 10 89 1 [.pointer (some ⟨9, 0, none⟩), .int .i64 3, .pointer (some ⟨25, 0, none⟩), .pointer (some ⟨26, 0, none⟩), .pointer (some ⟨27, 0, none⟩), .slice (some ⟨28, 0, none⟩) 3 3, .slice none 0 0, .pointer (some ⟨29, 0, none⟩), .int .i64 0], .map 11 (.int2 .i64) [], .map 12 .str [(.string ⟨#[119, 97, 108, 45, 49]⟩, .pointer (some ⟨30, 0, none⟩))], .cells 13 171 1 [.pointer (some ⟨5, 0, none⟩), .int .i64 0, .int .i64 0, .int .i64 0, .int .i64 0, .slice none 0 0, .int .i64 1, .int .i64 22], .cells 14 221 1 [.int .i64 1, .int .i64 0, .int .i64 0, .int .i64 0, .int .i64 0, .slice (some ⟨31, 0, none⟩) 3 3, .slice none 0 0, .slice none 0 0, .slice none 0 0, .int .i64 0, .int .i64 0, .int .i64 0, .int .i64 3, .int .i64 13, .int .i64 10, .slice none 0 0, .map (some 32), .int .i64 0, .int .i64 0, .slice none 0 0, .pointer none], .cells 15 161 1 [.int .i64 0, .map (some 33), .map (some 34), .map (some 35)], .cells 16 3 1 [.int .i64 1, .int .i64 2, .int .i64 3], .cells 17 147 1 [.int .i64 0, .slice none 0 0, .slice none 0 0], .map 18 .str [(.string ⟨#[119, 97, 108, 45, 49]⟩, .pointer (some ⟨36, 0, none⟩))], .cells 19 171 1 [.pointer (some ⟨7, 0, none⟩), .int .i64 0, .int .i64 0, .int .i64 0, .int .i64 0, .slice none 0 0, .int .i64 1, .int .i64 22], .cells 20 221 1 [.int .i64 2, .int .i64 0, .int .i64 0, .int .i64 0, .int .i64 0, .slice (some ⟨37, 0, none⟩) 3 3, .slice none 0 0, .slice none 0 0, .slice none 0 0, .int .i64 0, .int .i64 0, .int .i64 0, .int .i64 0, .int .i64 16, .int .i64 10, .slice none 0 0, .map none, .int .i64 0, .int .i64 0, .slice none 0 0, .pointer none], .cells 21 161 1 [.int .i64 0, .map (some 38), .map (some 39), .map (some 40)], .cells 22 3 1 [.int .i64 1, .int .i64 2, .int .i64 3], .cells 23 147 1 [.int .i64 0, .slice none 0 0, .slice none 0 0], .map 24 .str [(.string ⟨#[119, 97, 108, 45, 49]⟩, .pointer (some ⟨41, 0, none⟩))], .cells 25 171 1 [.pointer (some ⟨9, 0, none⟩), .int .i64 0, .int .i64 0, .int .i64 0, .int .i64 0, .slice none 0 0, .int .i64 1, .int .i64 22], .cells 26 221 1 [.int .i64 3, .int .i64 0, .int .i64 0, .int .i64 0, .int .i64 0, .slice (some ⟨42, 0, none⟩) 3 3, .slice none 0 0, .slice none 0 0, .slice none 0 0, .int .i64 0, .int .i64 0, .int .i64 0, .int .i64 0, .int .i64 19, .int .i64 10, .slice none 0 0, .map none, .int .i64 0, .int .i64 0, .slice none 0 0, .pointer none], .cells 27 161 1 [.int .i64 0, .map (some 43), .map (some 44), .map (some 45)], .cells 28 3 1 [.int .i64 1, .int .i64 2, .int .i64 3], .cells 29 147 1 [.int .i64 0, .slice none 0 0, .slice none 0 0], .cells 30 248 1 [.slice (some ⟨46, 0, none⟩) 22 22, .slice (some ⟨47, 0, none⟩) 22 22, .bool true, .slice none 0 0], .cells 31 3 1 [.int .i64 1, .int .i64 2, .int .i64 3], .map 32 (.int .i64) [], .map 33 .str [], .map 34 .str2 [], .map 35 (.int .i64) [], .cells 36 248 1 [.slice (some ⟨48, 0, none⟩) 22 22, .slice (some ⟨49, 0, none⟩) 22 22, .bool true, .slice none 0 0], .cells 37 3 1 [.int .i64 1, .int .i64 2, .int .i64 3], .map 38 .str [], .map 39 .str2 [], .map 40 (.int .i64) [], .cells 41 248 1 [.slice (some ⟨50, 0, none⟩) 22 22, .slice (some ⟨51, 0, none⟩) 22 22, .bool true, .slice none 0 0], .cells 42 3 1 [.int .i64 1, .int .i64 2, .int .i64 3], .map 43 .str [], .map 44 .str2 [], .map 45 (.int .i64) [], .cells 46 5 1 [.int .u8 0, .int .u8 0, .int .u8 0, .int .u8 3, .int .u8 142, .int .u8 27, .int .u8 26, .int .u8 167, .int .u8 1, .int .u8 0, .int .u8 0, .int .u8 0, .int .u8 0, .int .u8 0, .int .u8 3, .int .u8 140, .int .u8 93, .int .u8 164, .int .u8 254, .int .u8 2, .int .u8 0, .int .u8 0], .cells 47 5 1 [.int .u8 0, .int .u8 0, .int .u8 0, .int .u8 3, .int .u8 142, .int .u8 27, .int .u8 26, .int .u8 167, .int .u8 1, .int .u8 0, .int .u8 0, .int .u8 0, .int .u8 0, .int .u8 0, .int .u8 3, .int .u8 140, .int .u8 93, .int .u8 164, .int .u8 254, .int .u8 2, .int .u8 0, .int .u8 0], .cells 48 5 1 [.int .u8 0, .int .u8 0, .int .u8 0, .int .u8 3, .int .u8 142, .int .u8 27, .int .u8 26, .int .u8 167, .int .u8 1, .int .u8 0, .int .u8 0, .int .u8 0, .int .u8 0, .int .u8 0, .int .u8 3, .int .u8 140, .int .u8 93, .int .u8 164, .int .u8 254, .int .u8 2, .int .u8 0, .int .u8 0], .cells 49 5 1 [.int .u8 0, .int .u8 0, .int .u8 0, .int .u8 3, .int .u8 142, .int .u8 27, .int .u8 26, .int .u8 167, .int .u8 1, .int .u8 0, .int .u8 0, .int .u8 0, .int .u8 0, .int .u8 0, .int .u8 3, .int .u8 140, .int .u8 93, .int .u8 164, .int .u8 254, .int .u8 2, .int .u8 0, .int .u8 0], .cells 50 5 1 [.int .u8 0, .int .u8 0, .int .u8 0, .int .u8 3, .int .u8 142, .int .u8 27, .int .u8 26, .int .u8 167, .int .u8 1, .int .u8 0, .int .u8 0, .int .u8 0, .int .u8 0, .int .u8 0, .int .u8 3, .int .u8 140, .int .u8 93, .int .u8 164, .int .u8 254, .int .u8 2, .int .u8 0, .int .u8 0], .cells 51 5 1 [.int .u8 0, .int .u8 0, .int .u8 0, .int .u8 3, .int .u8 142, .int .u8 27, .int .u8 26, .int .u8 167, .int .u8 1, .int .u8 0, .int .u8 0, .int .u8 0, .int .u8 0, .int .u8 0, .int .u8 3, .int .u8 140, .int .u8 93, .int .u8 164, .int .u8 254, .int .u8 2, .int .u8 0, .int .u8 0]]
  | 5 => [.frm 0, .cells 1 69 1 [.slice (some ⟨2, 0, none⟩) 3 3, .pointer (some ⟨3, 0, none⟩), .slice (some ⟨4, 0, none⟩) 3 3, .slice none 0 0], .cells 2 73 2 [.pointer (some ⟨5, 0, none⟩), .pointer (some ⟨6, 0, none⟩), .pointer (some ⟨7, 0, none⟩), .pointer (some ⟨8, 0, none⟩), .pointer (some ⟨9, 0, none⟩), .pointer (some ⟨10, 0, none⟩)], .cells 3 93 1 [.int .i64 0, .slice none 0 0, .map (some 11), .int .i64 0, .int .i64 4, .int .i64 0, .int .i64 0, .int .i64 0, .int .i64 0, .int .i64 0, .int .i64 0, .int .i64 0, .int .i64 0], .cells 4 3 1 [.int .i64 1, .int .i64 2, .int .i64 3], .cells 5 96 1 [.int .i64 65536, .map (some 12)], .cells 6 89 1 [.pointer (some ⟨5, 0, none⟩), .int .i64 1, .pointer (some ⟨13, 0, none⟩), .pointer (some ⟨14, 0, none⟩), .pointer (some ⟨15, 0, none⟩), .slice (some ⟨16, 0, none⟩) 3 3, .slice none 0 0, .pointer (some ⟨17, 0, none⟩), .int .i64 0], .cells 7 96 1 [.int .i64 65536, .map (some 18)], .cells 8 89 1 [.pointer (some ⟨7, 0, none⟩), .int .i64 2, .pointer (some ⟨19, 0, none⟩), .pointer (some ⟨20, 0, none⟩), .pointer (some ⟨21, 0, none⟩), .slice (some ⟨22, 0, none⟩) 3 3, .slice none 0 0, .pointer (some ⟨23, 0, none⟩), .int .i64 0], .cells 9 96 1 [.int .i64 65536, .map (some 24)], .cells 10 89 1 [.pointer (some ⟨9, 0, none⟩), .int .i64 3, .pointer (some ⟨25, 0, none⟩), .pointer (some ⟨26, 0, none⟩), .pointer (some ⟨27, 0, none⟩), .slice (some ⟨28, 0, none⟩) 3 3, .slice none 0 0, .pointer (some ⟨29, 0, none⟩), .int .i64 0], .map 11 (.int2 .i64) [], .map 12 .str [(.string ⟨#[119, 97, 108, 45, 49]⟩, .pointer (some ⟨30, 0, none⟩))], .cells 13 171 1 [.pointer (some ⟨5, 0, none⟩), .int .i64 0, .int .i64 0, .int .i64 0, .int .i64 0, .slice none 0 0, .int .i64 1, .int .i64 22], .cells 14 221 1 [.int .i64 1, .int .i64 0, .int .i64 0, .int .i64 0, .int .i64 0, .slice (some ⟨31, 0, none⟩) 3 3, .slice none 0 0, .slice none 0 0, .slice none 0 0, .int .i64 0, .int .i64 0, .int .i64 0, .int .i64 4, .int .i64 13, .int .i64 10, .slice none 0 0, .map (some 32), .int .i64 0, .int .i64 0, .slice none 0 0, .pointer none], .cells 15 161 1 [.int .i64 0, .map (some 33), .map (some 34), .map (some 35)], .cells 16 3 1 [.int .i64 1, .int .i64 2, .int .i64 3], .cells 17 147 1 [.int .i64 0, .slice none 0 0, .slice none 0 0], .map 18 .str [(.string ⟨#[119, 97, 108, 45, 49]⟩, .pointer (some ⟨36, 0, none⟩))], .cells 19 171 1 [.pointer (some ⟨7, 0, none⟩), .int .i64 0, .int .i64 0, .int .i64 0, .int .i64 0, .slice none 0 0, .int .i64 1, .int .i64 22], .cells 20 221 1 [.int .i64 2, .int .i64 0, .int .i64 0, .int .i64 0, .int .i64 0, .slice (some ⟨37, 0, none⟩) 3 3, .slice none 0 0, .slice none 0 0, .slice none 0 0, .int .i64 0, .int .i64 0, .int .i64 0, .int .i64 0, .int .i64 16, .int .i64 10, .slice none 0 0, .map none, .int .i64 0, .int .i64 0, .slice none 0 0, .pointer none], .cells 21 161 1 [.int .i64 0, .map (some 38), .map (some 39), .map (some 40)], .cells 22 3 1 [.int .i64 1, .int .i64 2, .int .i64 3], .cells 23 147 1 [.int .i64 0, .slice none 0 0, .slice none 0 0], .map 24 .str [(.string ⟨#[119, 97, 108, 45, 49]⟩, .pointer (some ⟨41, 0, none⟩))], .cells 25 171 1 [.pointer (some ⟨9, 0, none⟩), .int .i64 0, .int .i64 0, .int .i64 0, .int .i64 0, .slice none 0 0, .int .i64 1, .int .i64 22], .cells 26 221 1 [.int .i64 3, .int .i64 0, .int .i64 0, .int .i64 0, .int .i64 0, .slice (some ⟨42, 0, none⟩) 3 3, .slice none 0 0, .slice none 0 0, .slice none 0 0, .int .i64 0, .int .i64 0, .int .i64 0, .int .i64 0, .int .i64 19, .int .i64 10, .slice none 0 0, .map none, .int .i64 0, .int .i64 0, .slice none 0 0, .pointer none], .cells 27 161 1 [.int .i64 0, .map (some 43), .map (some 44), .map (some 45)], .cells 28 3 1 [.int .i64 1, .int .i64 2, .int .i64 3], .cells 29 147 1 [.int .i64 0, .slice none 0 0, .slice none 0 0], .cells 30 248 1 [.slice (some ⟨46, 0, none⟩) 22 22, .slice (some ⟨47, 0, none⟩) 22 22, .bool true, .slice none 0 0], .cells 31 3 1 [.int .i64 1, .int .i64 2, .int .i64 3], .map 32 (.int .i64) [], .map 33 .str [], .map 34 .str2 [], .map 35 (.int .i64) [], .cells 36 248 1 [.slice (some ⟨48, 0, none⟩) 22 22, .slice (some ⟨49, 0, none⟩) 22 22, .bool true, .slice none 0 0], .cells 37 3 1 [.int .i64 1, .int .i64 2, .int .i64 3], .map 38 .str [], .map 39 .str2 [], .map 40 (.int .i64) [], .cells 41 248 1 [.slice (some ⟨50, 0, none⟩) 22 22, .slice (some ⟨51, 0, none⟩) 22 22, .bool true, .slice none 0 0], .cells 42 3 1 [.int .i64 1, .int .i64 2, .int .i64 3], .map 43 .str [], .map 44 .str2 [], .map 45 (.int .i64) [], .cells 46 5 1 [.int .u8 0, .int .u8 0, .int .u8 0, .int .u8 3, .int .u8 142, .int .u8 27, .int .u8 26, .int .u8 167, .int .u8 1, .int .u8 0, .int .u8 0, .int .u8 0, .int .u8 0, .int .u8 0, .int .u8 3, .int .u8 140, .int .u8 93, .int .u8 164, .int .u8 254, .int .u8 2, .int .u8 0, .int .u8 0], .cells 47 5 1 [.int .u8 0, .int .u8 0, .int .u8 0, .int .u8 3, .int .u8 142, .int .u8 27, .int .u8 26, .int .u8 167, .int .u8 1, .int .u8 0, .int .u8 0, .int .u8 0, .int .u8 0, .int .u8 0, .int .u8 3, .int .u8 140, .int .u8 93, .int .u8 164, .int .u8 254, .int .u8 2, .int .u8 0, .int .u8 0], .cells 48 5 1 [.int .u8 0, .int .u8 0, .int .u8 0, .int .u8 3, .int .u8 142, .int .u8 27, .int .u8 26, .int .u8 167, .int .u8 1, .int .u8 0, .int .u8 0, .int .u8 0, .int .u8 0, .int .u8 0, .int .u8 3, .int .u8 140, .int .u8 93, .int .u8 164, .int .u8 254, .int .u8 2, .int .u8 0, .int .u8 0], .cells 49 5 1 [.int .u8 0, .int .u8 0, .int .u8 0, .int .u8 3, .int .u8 142, .int .u8 27, .int .u8 26, .int .u8 167, .int .u8 1, .int .u8 0, .int .u8 0, .int .u8 0, .int .u8 0, .int .u8 0, .int .u8 3, .int .u8 140, .int .u8 93, .int .u8 164, .int .u8 254, .int .u8 2, .int .u8 0, .int .u8 0], .cells 50 5 1 [.int .u8 0, .int .u8 0, .int .u8 0, .int .u8 3, .int .u8 142, .int .u8 27, .int .u8 26, .int .u8 167, .int .u8 1, .int .u8 0, .int .u8 0, .int .u8 0, .int .u8 0, .int .u8 0, .int .u8 3, .int .u8 140, .int .u8 93, .int .u8 164, .int .u8 254, .int .u8 2, .int .u8 0, .int .u8 0], .cells 51 5 1 [.int .u8 0, .int .u8 0, .int .u8 0, .int .u8 3, .int .u8 142, .int .u8 27, .int .u8 26, .int .u8 167, .int .u8 1, .int .u8 0, .int .u8 0, .int .u8 0, .int .u8 0, .int .u8 0, .int .u8 3, .int .u8 140, .int .u8 93, .int .u8 164, .int .u8 254, .int .u8 2, .int .u8 0, .int .u8 0]]
  | 6 => [.frm 0, .cells 1 69 1 [.slice (some ⟨2, 0, none⟩) 3 3, .pointer (some ⟨3, 0, none⟩), .slice (some ⟨4, 0, none⟩) 3 3, .slice none 0 0], .cells 2 73 2 [.pointer (some ⟨5, 0, none⟩), .pointer (some ⟨6, 0, none⟩), .pointer (some ⟨7, 0, none⟩), .pointer (some ⟨8, 0, none⟩), .pointer (some ⟨9, 0, none⟩), .pointer (some ⟨10, 0, none⟩)], .cells 3 93 1 [.int .i64 0, .slice none 0 0, .map (some 11), .int .i64 0, .int .i64 5, .int .i64 0, .int .i64 0, .int .i64 0, .int .i64 0, .int .i64 0, .int .i64 0, .int .i64 0, .int .i64 0], .cells 4 3 1 [.int .i64 1, .int .i64 2, .int .i64 3], .cells 5 96 1 [.int .i64 65536, .map (some 12)], .cells 6 89 1 [.pointer (some ⟨5, 0, none⟩), .int .i64 1, .pointer (some ⟨13, 0, none⟩), .pointer (some ⟨14, 0, none⟩), .pointer (some ⟨15, 0, none⟩), .slice (some ⟨16, 0, none⟩) 3 3, .slice none 0 0, .pointer (some ⟨17, 0, none⟩), .int .i64 0], .cells 7 96 1 [.int .i64 65536, .map (some 18)], .cells 8 89 1 [.pointer (some ⟨7, 0, none⟩), .int .i64 2, .pointer (some ⟨19, 0, none⟩), .pointer (some ⟨20, 0, none⟩), .pointer (some ⟨21, 0, none⟩), .slice (some ⟨22, 0, none⟩) 3 3, .slice none 0 0, .pointer (some ⟨23, 0, none⟩), .int .i64 0], .cells 9 96 1 [.int .i64 65536, .map (some 24)], .cells 10 89 1 [.pointer (some ⟨9, 0, none⟩), .int .i64 3, .pointer (some ⟨25, 0, none⟩), .pointer (some ⟨26, 0, none⟩), .pointer (some ⟨27, 0, none⟩), .slice (some ⟨28, 0, none⟩) 3 3, .slice none 0 0, .pointer (some ⟨29, 0, none⟩), .int .i64 0], .map 11 (.int2 .i64) [], .map 12 .str [(.string ⟨#[119, 97, 108, 45, 49]⟩, .pointer (some ⟨30, 0, none⟩))], .cells 13 171 1 [.pointer (some ⟨5, 0, none⟩), .int .i64 0, .int .i64 0, .int .i64 0, .int .i64 0, .slice none 0 0, .int .i64 1, .int .i64 22], .cells 14 221 1 [.int .i64 1, .int .i64 0, .int .i64 0, .int .i64 0, .int .i64 0, .slice (some ⟨31, 0, none⟩) 3 3, .slice none 0 0, .slice none 0 0, .slice none 0 0, .int .i64 0, .int .i64 0, .int .i64 0, .int .i64 5, .int .i64 13, .int .i64 10, .slice none 0 0, .map (some 32), .int .i64 0, .int .i64 0, .slice none 0 0, .pointer none], .cells 15 161 1 [.int .i64 0, .map (some 33), .map (some 34), .map (some 35)], .cells 16 3 1 [.int .i64 1, .int .i64 2, .int .i64 3], .cells 17 147 1 [.int .i64 0, .slice none 0 0, .slice none 0 0], .map 18 .str [(.string ⟨#[119, 97, 108, 45, 49]⟩, .pointer (some ⟨36, 0, none⟩))], .cells 19 171 1 [.pointer (some ⟨7, 0, none⟩), .int .i64 0, .int .i64 0, .int .i64 0, .int .i64 0, .slice none 0 0, .int .i64 1, .int .i64 22], .cells 20 221 1 [.int .i64 2, .int .i64 0, .int .i64 0, .int .i64 0, .int .i64 0, .slice (some ⟨37, 0, none⟩) 3 3, .slice none 0 0, .slice none 0 0, .slice none 0 0, .int .i64 0, .int .i64 0, .int .i64 0, .int .i64 0, .int .i64 16, .int .i64 10, .slice none 0 0, .map none, .int .i64 0, .int .i64 0, .slice none 0 0, .pointer none], .cells 21 161 1 [.int .i64 0, .map (some 38), .map (some 39), .map (some 40)], .cells 22 3 1 [.int .i64 1, .int .i64 2, .int .i64 3], .cells 23 147 1 [.int .i64 0, .slice none 0 0, .slice none 0 0], .map 24 .str [(.string ⟨#[119, 97, 108, 45, 49]⟩, .pointer (some ⟨41, 0, none⟩))], .cells 25 171 1 [.pointer (some ⟨9, 0, none⟩), .int .i64 0, .int .i64 0, .int .i64 0, .int .i64 0, .slice none 0 0, .int .i64 1, .int .i64 22], .cells 26 221 1 [.int .i64 3, .int .i64 0, .int .i64 0, .int .i64 0, .int .i64 0, .slice (some ⟨42, 0, none⟩) 3 3, .slice none 0 0, .slice none 0 0, .slice none 0 0, .int .i64 0, .int .i64 0, .int .i64 0, .int .i64 0, .int .i64 19, .int .i64 10, .slice none 0 0, .map none, .int .i64 0, .int .i64 0, .slice none 0 0, .pointer none], .cells 27 161 1 [.int .i64 0, .map (some 43), .map (some 44), .map (some 45)], .cells 28 3 1 [.int .i64 1, .int .i64 2, .int .i64 3], .cells 29 147 1 [.int .i64 0, .slice none 0 0, .slice none 0 0], .cells 30 248 1 [.slice (some ⟨46, 0, none⟩) 22 22, .slice (some ⟨47, 0, none⟩) 22 22, .bool true, .slice none 0 0], .cells 31 3 1 [.int .i64 1, .int .i64 2, .int .i64 3], .map 32 (.int .i64) [], .map 33 .str [], .map 34 .str2 [], .map 35 (.int .i64) [], .cells 36 248 1 [.slice (some ⟨48, 0, none⟩) 22 22, .slice (some ⟨49, 0, none⟩) 22 22, .bool true, .slice none 0 0], .cells 37 3 1 [.int .i64 1, .int .i64 2, .int .i64 3], .map 38 .str [], .map 39 .str2 [], .map 40 (.int .i64) [], .cells 41 248 1 [.slice (some ⟨50, 0, none⟩) 22 22, .slice (some ⟨51, 0, none⟩) 22 22, .bool true, .slice none 0 0], .cells 42 3 1 [.int .i64 1, .int .i64 2, .int .i64 3], .map 43 .str [], .map 44 .str2 [], .map 45 (.int .i64) [], .cells 46 5 1 [.int .u8 0, .int .u8 0, .int .u8 0, .int .u8 3, .int .u8 142, .int .u8 27, .int .u8 26, .int .u8 167, .int .u8 1, .int .u8 0, .int .u8 0, .int .u8 0, .int .u8 0, .int .u8 0, .int .u8 3, .int .u8 140, .int .u8 93, .int .u8 164, .int .u8 254, .int .u8 2, .int .u8 0, .int .u8 0], .cells 47 5 1 [.int .u8 0, .int .u8 0, .int .u8 0, .int .u8 3, .int .u8 142, .int .u8 27, .int .u8 26, .int .u8 167, .int .u8 1, .int .u8 0, .int .u8 0, .int .u8 0, .int .u8 0, .int .u8 0, .int .u8 3, .int .u8 140, .int .u8 93, .int .u8 164, .int .u8 254, .int .u8 2, .int .u8 0, .int .u8 0], .cells 48 5 1 [.int .u8 0, .int .u8 0, .int .u8 0, .int .u8 3, .int .u8 142, .int .u8 27, .int .u8 26, .int .u8 167, .int .u8 1, .int .u8 0, .int .u8 0, .int .u8 0, .int .u8 0, .int .u8 0, .int .u8 3, .int .u8 140, .int .u8 93, .int .u8 164, .int .u8 254, .int .u8 2, .int .u8 0, .int .u8 0], .cells 49 5 1 [.int .u8 0, .int .u8 0, .int .u8 0, .int .u8 3, .int .u8 142, .int .u8 27, .int .u8 26, .int .u8 167, .int .u8 1, .int .u8 0, .int .u8 0, .int .u8 0, .int .u8 0, .int .u8 0, .int .u8 3, .int .u8 140, .int .u8 93, .int .u8 164, .int .u8 254, .int .u8 2, .int .u8 0, .int .u8 0], .cells 50 5 1 [.int .u8 0, .int .u8 0, .int .u8 0, .int .u8 3, .int .u8 142, .int .u8 27, .int .u8 26, .int .u8 167, .int .u8 1, .int .u8 0, .int .u8 0, .int .u8 0, .int .u8 0, .int .u8 0, .int .u8 3, .int .u8 140, .int .u8 93, .int .u8 164, .int .u8 254, .int .u8 2, .int .u8 0, .int .u8 0], .cells 51 5 1 [.int .u8 0, .int .u8 0, .int .u8 0, .int .u8 3, .int .u8 142, .int .u8 27, .int .u8 26, .int .u8 167, .int .u8 1, .int .u8 0, .int .u8 0, .int .u8 0, .int .u8 0, .int .u8 0, .int .u8 3, .int .u8 140, .int .u8 93, .int .u8 164, .int .u8 254, .int .u8 2, .int .u8 0, .int .u8 0]]
  | 7 => [.frm 0, .cells 1 69 1 [.slice (some ⟨2, 0, none⟩) 3 3, .pointer (some ⟨3, 0, none⟩), .slice (some ⟨4, 0, none⟩) 3 3, .slice none 0 0], .cells 2 73 2 [.pointer (some ⟨5, 0, none⟩), .pointer (some ⟨6, 0, none⟩), .pointer (some ⟨7, 0, none⟩), .pointer (some ⟨8, 0, none⟩), .pointer (some ⟨9, 0, none⟩), .pointer (some ⟨10, 0, none⟩)], .cells 3 93 1 [.int .i64 0, .slice none 0 0, .map (some 11), .int .i64 0, .int .i64 6, .int .i64 0, .int .i64 0, .int .i64 0, .int .i64 0, .int .i64 0, .int .i64 0, .int .i64 0, .int .i64 0], .cells 4 3 1 [.int .i64 1, .int .i64 2, .int .i64 3], .cells 5 96 1 [.int .i64 65536, .map (some 12)], .cells 6 89 1 [.pointer (some ⟨5, 0, none⟩), .int .i64 1, .pointer (some ⟨13, 0, none⟩), .pointer (some ⟨14, 0, none⟩), .pointer (some ⟨15, 0, none⟩), .slice (some ⟨16, 0, none⟩) 3 3, .slice none 0 0, .pointer (some ⟨17, 0, none⟩), .int .i64 0], .cells 7 96 1 [.int .i64 65536, .map (some 18)], .cells 8 89 1 [.pointer (some ⟨7, 0, none⟩), .int .i64 2, .pointer (some ⟨19, 0, none⟩), .pointer (some ⟨20, 0, none⟩), .pointer (some ⟨21, 0, none⟩), .slice (some ⟨22, 0, none⟩) 3 3, .slice none 0 0, .pointer (some ⟨23, 0, none⟩), .int .i64 0], .cells 9 96 1 [.int .i64 65536, .map (some 24)], .cells 10 89 1 [.pointer (some ⟨9, 0, none⟩), .int .i64 3, .pointer (some ⟨25, 0, none⟩), .pointer (some ⟨26, 0, none⟩), .pointer (some ⟨27, 0, none⟩), .slice (some ⟨28, 0, none⟩) 3 3, .slice none 0 0, .pointer (some ⟨29, 0, none⟩), .int .i64 0], .map 11 (.int2 .i64) [], .map 12 .str [(.string ⟨#[119, 97, 108, 45, 49]⟩, .pointer (some ⟨30, 0, none⟩))], .cells 13 171 1 [.pointer (some ⟨5, 0, none⟩), .int .i64 0, .int .i64 0, .int .i64 0, .int .i64 0, .slice none 0 0, .int .i64 1, .int .i64 22], .cells 14 221 1 [.int .i64 1, .int .i64 0, .int .i64 0, .int .i64 0, .int .i64 0, .slice (some ⟨31, 0, none⟩) 3 3, .slice none 0 0, .slice none 0 0, .slice none 0 0, .int .i64 0, .int .i64 0, .int .i64 0, .int .i64 6, .int .i64 13, .int .i64 10, .slice none 0 0, .map (some 32), .int .i64 0, .int .i64 0, .slice none 0 0, .pointer none], .cells 15 161 1 [.int .i64 0, .map (some 33), .map (some 34), .map (some 35)], .cells 16 3 1 [.int .i64 1, .int .i64 2, .int .i64 3], .cells 17 147 1 [.int .i64 0, .slice none 0 0, .slice none 0 0], .map 18 .str [(.string ⟨#[119, 97, 108, 45, 49]⟩, .pointer (some ⟨36, 0, none⟩))], .cells 19 171 1 [.pointer (some ⟨7, 0, none⟩), .int .i64 0, .int .i64 0, .int .i64 0, .int .i64 0, .slice none 0 0, .int .i64 1, .int .i64 22], .cells 20 221 1 [.int .i64 2, .int .i64 0, .int .i64 0, .int .i64 0, .int .i64 0, .slice (some ⟨37, 0, none⟩) 3 3, .slice none 0 0, .slice none 0 0, .slice none 0 0, .int .i64 0, .int .i64 0, .int .i64 0, .int .i64 0, .int .i64 16, .int .i64 10, .slice none 0 0, .map none, .int .i64 0, .int .i64 0, .slice none 0 0, .pointer none], .cells 21 161 1 [.int .i64 0, .map (some 38), .map (some 39), .map (some 40)], .cells 22 3 1 [.int .i64 1, .int .i64 2, .int .i64 3], .cells 23 147 1 [.int .i64 0, .slice none 0 0, .slice none 0 0], .map 24 .str [(.string ⟨#[119, 97, 108, 45, 49]⟩, .pointer (some ⟨41, 0, none⟩))], .cells 25 171 1 [.pointer (some ⟨9, 0, none⟩), .int .i64 0, .int .i64 0, .int .i64 0, .int .i64 0, .slice none 0 0, .int .i64 1, .int .i64 22], .cells 26 221 1 [.int .i64 3, .int .i64 0, .int .i64 0, .int .i64 0, .int .i64 0, .slice (some ⟨42, 0, none⟩) 3 3, .slice none 0 0, .slice none 0 0, .slice none 0 0, .int .i64 0, .int .i64 0, .int .i64 0, .int .i64 0, .int .i64 19, .int .i64 10, .slice none 0 0, .map none, .int .i64 0, .int .i64 0, .slice none 0 0, .pointer none], .cells 27 161 1 [.int .i64 0, .map (some 43), .map (some 44), .map (some 45)], .cells 28 3 1 [.int .i64 1, .int .i64 2, .int .i64 3], .cells 29 147 1 [.int .i64 0, .slice none 0 0, .slice none 0 0], .cells 30 248 1 [.slice (some ⟨46, 0, none⟩) 22 22, .slice (some ⟨47, 0, none⟩) 22 22, .bool true, .slice none 0 0], .cells 31 3 1 [.int .i64 1, .int .i64 2, .int .i64 3], .map 32 (.int .i64) [], .map 33 .str [], .map 34 .str2 [], .map 35 (.int .i64) [], .cells 36 248 1 [.slice (some ⟨48, 0, none⟩) 22 22, .slice (some ⟨49, 0, none⟩) 22 22, .bool true, .slice none 0 0], .cells 37 3 1 [.int .i64 1, .int .i64 2, .int .i64 3], .map 38 .str [], .map 39 .str2 [], .map 40 (.int .i64) [], .cells 41 248 1 [.slice (some ⟨50, 0, none⟩) 22 22, .slice (some ⟨51, 0, none⟩) 22 22, .bool true, .slice none 0 0], .cells 42 3 1 [.int .i64 1, .int .i64 2, .int .i64 3], .map 43 .str [], .map 44 .str2 [], .map 45 (.int .i64) [], .cells 46 5 1 [.int .u8 0, .int .u8 0, .int .u8 0, .int .u8 3, .int .u8 142, .int .u8 27, .int .u8 26, .int .u8 167, .int .u8 1, .int .u8 0, .int .u8 0, .int .u8 0, .int .u8 0, .int .u8 0, .int .u8 3, .int .u8 140, .int .u8 93, .int .u8 164, .int .u8 254, .int .u8 2, .int .u8 0, .int .u8 0], .cells 47 5 1 [.int .u8 0, .int .u8 0, .int .u8 0, .int .u8 3, .int .u8 142, .int .u8 27, .int .u8 26, .int .u8 167, .int .u8 1, .int .u8 0, .int .u8 0, .int .u8 0, .int .u8 0, .int .u8 0, .int .u8 3, .int .u8 140, .int .u8 93, .int .u8 164, .int .u8 254, .int .u8 2, .int .u8 0, .int .u8 0], .cells 48 5 1 [.int .u8 0, .int .u8 0, .int .u8 0, .int .u8 3, .int .u8 142, .int .u8 27, .int .u8 26, .int .u8 167, .int .u8 1, .int .u8 0, .int .u8 0, .int .u8 0, .int .u8 0, .int .u8 0, .int .u8 3, .int .u8 140, .int .u8 93, .int .u8 164, .int .u8 254, .int .u8 2, .int .u8 0, .int .u8 0], .cells 49 5 1 [.int .u8 0, .int .u8 0, .int .u8 0, .int .u8 3, .int .u8 142, .int .u8 27, .int .u8 26, .int .u8 167, .int .u8 1, .int .u8 0, .int .u8 0, .int .u8 0, .int .u8 0, .int .u8 0, .int .u8 3, .int .u8 140, .int .u8 93, .int .u8 164, .int .u8 254, .int .u8 2, .int .u8 0, .int .u8 0], .cells 50 5 1 [.int .u8 0, .int .u8 0, .int .u8 0, .int .u8 3, .int .u8 142, .int .u8 27, .int .u8 26, .int .u8 167, .int .u8 1, .int .u8 0, .int .u8 0, .int .u8 0, .int .u8 0, .int .u8 0, .int .u8 3, .int .u8 140, .int .u8 93, .int .u8 164, .int .u8 254, .int .u8 2, .int .u8 0, .int .u8 0], .cells 51 5 1 [.int .u8 0, .int .u8 0, .int .u8 0, .int .u8 3, .int .u8 142, .int .u8 27, .int .u8 26, .int .u8 167, .int .u8 1, .int .u8 0, .int .u8 0, .int .u8 0, .int .u8 0, .int .u8 0, .int .u8 3, .int .u8 140, .int .u8 93, .int .u8 164, .int .u8 254, .int .u8 2, .int .u8 0, .int .u8 0]]
  | 8 => [.frm 0, .cells 1 69 1 [.slice (some ⟨2, 0, none⟩) 3 3, .pointer (some ⟨3, 0, none⟩), .slice (some ⟨4, 0, none⟩) 3 3, .slice none 0 0], .cells 2 73 2 [.pointer (some ⟨5, 0, none⟩), .pointer (some ⟨6, 0, none⟩), .pointer (some ⟨7, 0, none⟩), .pointer (some ⟨8, 0, none⟩), .pointer (some ⟨9, 0, none⟩), .pointer (some ⟨10, 0, none⟩)], .cells 3 93 1 [.int .i64 0, .slice none 0 0, .map (some 11), .int .i64 0, .int .i64 7, .int .i64 0, .int .i64 0, .int .i64 0, .int .i64 0, .int .i64 0, .int .i64 0, .int .i64 0, .int .i64 0], .cells 4 3 1 [.int .i64 1, .int .i64 2, .int .i64 3], .cells 5 96 1 [.int .i64 65536, .map (some 12)], .cells 6 89 1 [.pointer (some ⟨5, 0, none⟩), .int .i64 1, .pointer (some ⟨13, 0, none⟩), .pointer (some ⟨14, 0, none⟩), .pointer (some ⟨15, 0, none⟩), .slice (some ⟨16, 0, none⟩) 3 3, .slice none 0 0, .pointer (some ⟨17, 0, none⟩), .int .i64 0], .cells 7 96 1 [.int .i64 65536, .map (some 18)], .cells 8 89 1 [.pointer (some ⟨7, 0, none⟩), .int .i64 2, .pointer (some ⟨19, 0, none⟩), .pointer (some ⟨20, 0, none⟩), .pointer (some ⟨21, 0, none⟩), .slice (some ⟨22, 0, none⟩) 3 3, .slice none 0 0, .pointer (some ⟨23, 0, none⟩), .int .i64 0], .cells 9 96 1 [.int .i64 65536, .map (some 24)], .cells 10 89 1 [.pointer (some ⟨9, 0, none⟩), .int .i64 3, .pointer (some ⟨25, 0, none⟩), .pointer (some ⟨26, 0, none⟩), .pointer (some ⟨27, 0, none⟩), .slice (some ⟨28, 0, none⟩) 3 3, .slice none 0 0, .pointer (some ⟨29, 0, none⟩), .int .i64 0], .map 11 (.int2 .i64) [], .map 12 .str [(.string ⟨#[119, 97, 108, 45, 49]⟩, .pointer (some ⟨30, 0, none⟩))], .cells 13 171 1 [.pointer (some ⟨5, 0, none⟩), .int .i64 0, .int .i64 0, .int .i64 0, .int .i64 0, .slice none 0 0, .int .i64 1, .int .i64 22], .cells 14 221 1 [.int .i64 1, .int .i64 0, .int .i64 0, .int .i64 0, .int .i64 0, .slice (some ⟨31, 0, none⟩) 3 3, .slice none 0 0, .slice none 0 0, .slice none 0 0, .int .i64 0, .int .i64 0, .int .i64 0, .int .i64 7, .int .i64 13, .int .i64 10, .slice none 0 0, .map (some 32), .int .i64 0, .int .i64 0, .slice none 0 0, .pointer none], .cells 15 161 1 [.int .i64 0, .map (some 33), .map (some 34), .map (some 35)], .cells 16 3 1 [.int .i64 1, .int .i64 2, .int .i64 3], .cells 17 147 1 [.int .i64 0, .slice none 0 0, .slice none 0 0], .map 18 .str [(.string ⟨#[119, 97, 108, 45, 49]⟩, .pointer (some ⟨36, 0, none⟩))], .cells 19 171 1 [.pointer (some ⟨7, 0, none⟩), .int .i64 0, .int .i64 0, .int .i64 0, .int .i64 0, .slice none 0 0, .int .i64 1, .int .i64 22], .cells 20 221 1 [.int .i64 2, .int .i64 0, .int .i64 0, .int .i64 0, .int .i64 0, .slice (some ⟨37, 0, none⟩) 3 3, .slice none 0 0, .slice none 0 0, .slice none 0 0, .int .i64 0, .int .i64 0, .int .i64 0, .int .i64 0, .int .i64 16, .int .i64 10, .slice none 0 0, .map none, .int .i64 0, .int .i64 0, .slice none 0 0, .pointer none], .cells 21 161 1 [.int .i64 0, .map (some 38), .map (some 39), .map (some 40)], .cells 22 3 1 [.int .i64 1, .int .i64 2, .int .i64 3], .cells 23 147 1 [.int .i64 0, .slice none 0 0, .slice none 0 0], .map 24 .str [(.string ⟨#[119, 97, 108, 45, 49]⟩, .pointer (some ⟨41, 0, none⟩))], .cells 25 171 1 [.pointer (some ⟨9, 0, none⟩), .int .i64 0, .int .i64 0, .int .i64 0, .int .i64 0, .slice none 0 0, .int .i64 1, .int .i64 22], .cells 26 221 1 [.int .i64 3, .int .i64 0, .int .i64 0, .int .i64 0, .int .i64 0, .slice (some ⟨42, 0, none⟩) 3 3, .slice none 0 0, .slice none 0 0, .slice none 0 0, .int .i64 0, .int .i64 0, .int .i64 0, .int .i64 0, .int .i64 19, .int .i64 10, .slice none 0 0, .map none, .int .i64 0, .int .i64 0, .slice none 0 0, .pointer none], .cells 27 161 1 [.int .i64 0, .map (some 43), .map (some 44), .map (some 45)], .cells 28 3 1 [.int .i64 1, .int .i64 2, .int .i64 3], .cells 29 147 1 [.int .i64 0, .slice none 0 0, .slice none 0 0], .cells 30 248 1 [.slice (some ⟨46, 0, none⟩) 22 22, .slice (some ⟨47, 0, none⟩) 22 22, .bool true, .slice none 0 0], .cells 31 3 1 [.int .i64 1, .int .i64 2, .int .i64 3], .map 32 (.int .i64) [], .map 33 .str [], .map 34 .str2 [], .map 35 (.int .i64) [], .cells 36 248 1 [.slice (some ⟨48, 0, none⟩) 22 22, .slice (some ⟨49, 0, none⟩) 22 22, .bool true, .slice none 0 0], .cells 37 3 1 [.int .i64 1, .int .i64 2, .int .i64 3], .map 38 .str [], .map 39 .str2 [], .map 40 (.int .i64) [], .cells 41 248 1 [.slice (some ⟨50, 0, none⟩) 22 22, .slice (some ⟨51, 0, none⟩) 22 22, .bool true, .slice none 0 0], .cells 42 3 1 [.int .i64 1, .int .i64 2, .int .i64 3], .map 43 .str [], .map 44 .str2 [], .map 45 (.int .i64) [], .cells 46 5 1 [.int .u8 0, .int .u8 0, .int .u8 0, .int .u8 3, .int .u8 142, .int .u8 27, .int .u8 26, .int .u8 167, .int .u8 1, .int .u8 0, .int .u8 0, .int .u8 0, .int .u8 0, .int .u8 0, .int .u8 3, .int .u8 140, .int .u8 93, .int .u8 164, .int .u8 254, .int .u8 2, .int .u8 0, .int .u8 0], .cells 47 5 1 [.int .u8 0, .int .u8 0, .int .u8 0, .int .u8 3, .int .u8 142, .int .u8 27, .int .u8 26, .int .u8 167, .int .u8 1, .int .u8 0, .int .u8 0, .int .u8 0, .int .u8 0, .int .u8 0, .int .u8 3, .int .u8 140, .int .u8 93, .int .u8 164, .int .u8 254, .int .u8 2, .int .u8 0, .int .u8 0], .cells 48 5 1 [.int .u8 0, .int .u8 0, .int .u8 0, .int .u8 3, .int .u8 142, .int .u8 27, .int .u8 26, .int .u8 167, .int .u8 1, .int .u8 0, .int .u8 0, .int .u8 0, .int .u8 0, .int .u8 0, .int .u8 3, .int .u8 140, .int .u8 93, .int .u8 164, .int .u8 254, .int .u8 2, .int .u8 0, .int .u8 0], .cells 49 5 1 [.int .u8 0, .int .u8 0, .int .u8 0, .int .u8 3, .int .u8 142, .int .u8 27, .int .u8 26, .int .u8 167, .int .u8 1, .int .u8 0, .int .u8 0, .int .u8 0, .int .u8 0, .int .u8 0, .int .u8 3, .int .u8 140, .int .u8 93, .int .u8 164, .int .u8 254, .int .u8 2, .int .u8 0, .int .u8 0], .cells 50 5 1 [.int .u8 0, .int .u8 0, .int .u8 0, .int .u8 3, .int .u8 142, .int .u8 27, .int .u8 26, .int .u8 167, .int .u8 1, .int .u8 0, .int .u8 0, .int .u8 0, .int .u8 0, .int .u8 0, .int .u8 3, .int .u8 140, .int .u8 93, .int .u8 164, .int .u8 254, .int .u8 2, .int .u8 0, .int .u8 0], .cells 51 5 1 [.int .u8 0, .int .u8 0, .int .u8 0, .int .u8 3, .int .u8 142, .int .u8 27, .int .u8 26, .int .u8 167, .int .u8 1, .int .u8 0, .int .u8 0, .int .u8 0, .int .u8 0, .int .u8 0, .int .u8 3, .int .u8 140, .int .u8 93, .int .u8 164, .int .u8 254, .int .u8 2, .int .u8 0, .int .u8 0]]
  | 9 => [.frm 0, .cells 1 69 1 [.slice (some ⟨2, 0, none⟩) 3 3, .pointer (some ⟨3, 0, none⟩), .slice (some ⟨4, 0, none⟩) 3 3, .slice none 0 0], .cells 2 73 2 [.pointer (some ⟨5, 0, none⟩), .pointer (some ⟨6, 0, none⟩), .pointer (some ⟨7, 0, none⟩), .pointer (some ⟨8, 0, none⟩), .pointer (some ⟨9, 0, none⟩), .pointer (some ⟨10, 0, none⟩)], .cells 3 93 1 [.int .i64 0, .slice none 0 0, .map (some 11), .int .i64 0, .int .i64 8, .int .i64 0, .int .i64 0, .int .i64 0, .int .i64 0, .int .i64 0, .int .i64 0, .int .i64 0, .int .i64 0], .cells 4 3 1 [.int .i64 1, .int .i64 2, .int .i64 3], .cells 5 96 1 [.int .i64 65536, .map (some 12)], .cells 6 89 1 [.pointer (some ⟨5, 0, none⟩), .int .i64 1, .pointer (some ⟨13, 0, none⟩), .pointer (some ⟨14, 0, none⟩), .pointer (some ⟨15, 0, none⟩), .slice (some ⟨16, 0, none⟩) 3 3, .slice none 0 0, .pointer (some ⟨17, 0, none⟩), .int .i64 0], .cells 7 96 1 [.int .i64 65536, .map (some 18)], .cells 8 89 1 [.pointer (some ⟨7, 0, none⟩), .int .i64 2, .pointer (some ⟨19, 0, none⟩), .pointer (some ⟨20, 0, none⟩), .pointer (some ⟨21, 0, none⟩), .slice (some ⟨22, 0, none⟩) 3 3, .slice none 0 0, .pointer (some ⟨23, 0, none⟩), .int .i64 0], .cells 9 96 1 [.int .i64 65536, .map (some 24)], .cells 10 89 1 [.pointer (some ⟨9, 0, none⟩), .int .i64 3, .pointer (some ⟨25, 0, none⟩), .pointer (some ⟨26, 0, none⟩), .pointer (some ⟨27, 0, none⟩), .slice (some ⟨28, 0, none⟩) 3 3, .slice none 0 0, .pointer (some ⟨29, 0, none⟩), .int .i64 0], .map 11 (.int2 .i64) [], .map 12 .str [(.string ⟨#[119, 97, 108, 45, 49]⟩, .pointer (some ⟨30, 0, none⟩))], .cells 13 171 1 [.pointer (some ⟨5, 0, none⟩), .int .i64 0, .int .i64 0, .int .i64 0, .int .i64 0, .slice none 0 0, .int .i64 1, .int .i64 22], .cells 14 221 1 [.int .i64 1, .int .i64 0, .int .i64 0, .int .i64 0, .int .i64 0, .slice (some ⟨31, 0, none⟩) 3 3, .slice none 0 0, .slice none 0 0, .slice none 0 0, .int .i64 0, .int .i64 0, .int .i64 0, .int .i64 8, .int .i64 13, .int .i64 10, .slice none 0 0, .map (some 32), .int .i64 0, .int .i64 0, .slice none 0 0, .pointer none], .cells 15 161 1 [.int .i64 0, .map (some 33), .map (some 34), .map (some 35)], .cells 16 3 1 [.int .i64 1, .int .i64 2, .int .i64 3], .cells 17 147 1 [.int .i64 0, .slice none 0 0, .slice none 0 0], .map 18 .str [(.string ⟨#[119, 97, 108, 45, 49]⟩, .pointer (some ⟨36, 0, none⟩))], .cells 19 171 1 [.pointer (some ⟨7, 0, none⟩), .int .i64 0, .int .i64 0, .int .i64 0, .int .i64 0, .slice none 0 0, .int .i64 1, .int .i64 22], .cells 20 221 1 [.int .i64 2, .int .i64 0, .int .i64 0, .int .i64 0, .int .i64 0, .slice (some ⟨37, 0, none⟩) 3 3, .slice none 0 0, .slice none 0 0, .slice none 0 0, .int .i64 0, .int .i64 0, .int .i64 0, .int .i64 0, .int .i64 16, .int .i64 10, .slice none 0 0, .map none, .int .i64 0, .int .i64 0, .slice none 0 0, .pointer none], .cells 21 161 1 [.int .i64 0, .map (some 38), .map (some 39), .map (some 40)], .cells 22 3 1 [.int .i64 1, .int .i64 2, .int .i64 3], .cells 23 147 1 [.int .i64 0, .slice none 0 0, .slice none 0 0], .map 24 .str [(.string ⟨#[119, 97, 108, 45, 49]⟩, .pointer (some ⟨41, 0, none⟩))], .cells 25 171 1 [.pointer (some ⟨9, 0, none⟩), .int .i64 0, .int .i64 0, .int .i64 0, .int .i64 0, .slice none 0 0, .int .i64 1, .int .i64 22], .cells 26 221 1 [.int .i64 3, .int .i64 0, .int .i64 0, .int .i64 0, .int .i64 0, .slice (some ⟨42, 0, none⟩) 3 3, .slice none 0 0, .slice none 0 0, .slice none 0 0, .int .i64 0, .int .i64 0, .int .i64 0, .int .i64 0, .int .i64 19, .int .i64 10, .slice none 0 0, .map none, .int .i64 0, .int .i64 0, .slice none 0 0, .pointer none], .cells 27 161 1 [.int .i64 0, .map (some 43), .map (some 44), .map (some 45)], .cells 28 3 1 [.int .i64 1, .int .i64 2, .int .i64 3], .cells 29 147 1 [.int .i64 0, .slice none 0 0, .slice none 0 0], .cells 30 248 1 [.slice (some ⟨46, 0, none⟩) 22 22, .slice (some ⟨47, 0, none⟩) 22 22, .bool true, .slice none 0 0], .cells 31 3 1 [.int .i64 1, .int .i64 2, .int .i64 3], .map 32 (.int .i64) [], .map 33 .str [], .map 34 .str2 [], .map 35 (.int .i64) [], .cells 36 248 1 [.slice (some ⟨48, 0, none⟩) 22 22, .slice (some ⟨49, 0, none⟩) 22 22, .bool true, .slice none 0 0], .cells 37 3 1 [.int .i64 1, .int .i64 2, .int .i64 3], .map 38 .str [], .map 39 .str2 [], .map 40 (.int .i64) [], .cells 41 248 1 [.slice (some ⟨50, 0, none⟩) 22 22, .slice (some ⟨51, 0, none⟩) 22 22, .bool true, .slice none 0 0], .cells 42 3 1 [.int .i64 1, .int .i64 2, .int .i64 3], .map 43 .str [], .map 44 .str2 [], .map 45 (.int .i64) [], .cells 46 5 1 [.int .u8 0, .int .u8 0, .int .u8 0, .int .u8 3, .int .u8 142, .int .u8 27, .int .u8 26, .int .u8 167, .int .u8 1, .int .u8 0, .int .u8 0, .int .u8 0, .int .u8 0, .int .u8 0, .int .u8 3, .int .u8 140, .int .u8 93, .int .u8 164, .int .u8 254, .int .u8 2, .int .u8 0, .int .u8 0], .cells 47 5 1 [.int .u8 0, .int .u8 0, .int .u8 0, .int .u8 3, .int .u8 142, .int .u8 27, .int .u8 26, .int .u8 167, .int .u8 1, .int .u8 0, .int .u8 0, .int .u8 0, .int .u8 0, .int .u8 0, .int .u8 3, .int .u8 140, .int .u8 93, .int .u8 164, .int .u8 254, .int .u8 2, .int .u8 0, .int .u8 0], .cells 48 5 1 [.int .u8 0, .int .u8 0, .int .u8 0, .int .u8 3, .int .u8 142, .int .u8 27, .int .u8 26, .int .u8 167, .int .u8 1, .int .u8 0, .int .u8 0, .int .u8 0, .int .u8 0, .int .u8 0, .int .u8 3, .int .u8 140, .int .u8 93, .int .u8 164, .int .u8 254, .int .u8 2, .int .u8 0, .int .u8 0], .cells 49 5 1 [.int .u8 0, .int .u8 0, .int .u8 0, .int .u8 3, .int .u8 142, .int .u8 27, .int .u8 26, .int .u8 167, .int .u8 1, .int .u8 0, .int .u8 0, .int .u8 0, .int .u8 0, .int .u8 0, .int .u8 3, .int .u8 140, .int .u8 93, .int .u8 164, .int .u8 254, .int .u8 2, .int .u8 0, .int .u8 0], .cells 50 5 1 [.int .u8 0, .int .u8 0, .int .u8 0, .int .u8 3, .int .u8 142, .int .u8 27, .int .u8 26, .int .u8 167, .int .u8 1, .int .u8 0, .int .u8 0, .int .u8 0, .int .u8 0, .int .u8 0, .int .u8 3, .int .u8 140, .int .u8 93, .int .u8 164, .int .u8 254, .int .u8 2, .int .u8 0, .int .u8 0], .cells 51 5 1 [.int .u8 0, .int .u8 0, .int .u8 0, .int .u8 3, .int .u8 142, .int .u8 27, .int .u8 26, .int .u8 167, .int .u8 1, .int .u8 0, .int .u8 0, .int .u8 0, .int .u8 0, .int .u8 0, .int .u8 3, .int .u8 140, .int .u8 93, .int .u8 164, .int .u8 254, .int .u8 2, .int .u8 0, .int .u8 0]]
  | 10 => [.frm 0, .cells 1 69 1 [.slice (some ⟨2, 0, none⟩) 3 3, .pointer (some ⟨3, 0, none⟩), .slice (some ⟨4, 0, none⟩) 3 3, .slice none 0 0], .cells 2 73 2 [.pointer (some ⟨5, 0, none⟩), .pointer (some ⟨6, 0, none⟩), .pointer (some ⟨7, 0, none⟩), .pointer (some ⟨8, 0, none⟩), .pointer (some ⟨9, 0, none⟩), .pointer (some ⟨10, 0, none⟩)], .cells 3 93 1 [.int .i64 0, .slice none 0 0, .map (some 11), .int .i64 0, .int .i64 9, .int .i64 0, .int .i64 0, .int .i64 0, .int .i64 0, .int .i64 0, .int .i64 0, .int .i64 0, .int .i64 0], .cells 4 3 1 [.int .i64 1, .int .i64 2, .int .i64 3], .cells 5 96 1 [.int .i64 65536, .map (some 12)], .cells 6 89 1 [.pointer (some ⟨5, 0, none⟩), .int .i64 1, .pointer (some ⟨13, 0, none⟩), .pointer (some ⟨14, 0, none⟩), .pointer (some ⟨15, 0, none⟩), .slice (some ⟨16, 0, none⟩) 3 3, .slice none 0 0, .pointer (some ⟨17, 0, none⟩), .int .i64 0], .cells 7 96 1 [.int .i64 65536, .map (some 18)], .cells 8 89 1 [.pointer (some ⟨7, 0, none⟩), .int .i64 2, .pointer (some ⟨19, 0, none⟩), .pointer (some ⟨20, 0, none⟩), .pointer (some ⟨21, 0, none⟩), .slice (some ⟨22, 0, none⟩) 3 3, .slice none 0 0, .pointer (some ⟨23, 0, none⟩), .int .i64 0], .cells 9 96 1 [.int .i64 65536, .map (some 24)], .cells 10 89 1 [.pointer (some ⟨9, 0, none⟩), .int .i64 3, .pointer (some ⟨25, 0, none⟩), .pointer (some ⟨26, 0, none⟩), .pointer (some ⟨27, 0, none⟩), .slice (some ⟨28, 0, none⟩) 3 3, .slice none 0 0, .pointer (some ⟨29, 0, none⟩), .int .i64 0], .map 11 (.int2 .i64) [], .map 12 .str [(.string ⟨#[119, 97, 108, 45, 49]⟩, .pointer (some ⟨30, 0, none⟩))], .cells 13 171 1 [.pointer (some ⟨5, 0, none⟩), .int .i64 0, .int .i64 0, .int .i64 0, .int .i64 0, .slice none 0 0, .int .i64 1, .int .i64 22], .cells 14 221 1 [.int .i64 1, .int .i64 0, .int .i64 0, .int .i64 0, .int .i64 0, .slice (some ⟨31, 0, none⟩) 3 3, .slice none 0 0, .slice none 0 0, .slice none 0 0, .int .i64 0, .int .i64 0, .int .i64 0, .int .i64 9, .int .i64 13, .int .i64 10, .slice none 0 0, .map (some 32), .int .i64 0, .int .i64 0, .slice none 0 0, .pointer none], .cells 15 161 1 [.int .i64 0, .map (some 33), .map (some 34), .map (some 35)], .cells 16 3 1 [.int .i64 1, .int .i64 2, .int .i64 3], .cells 17 147 1 [.int .i64 0, .slice none 0 0, .slice none 0 0], .map 18 .str [(.string ⟨#[119, 97, 108, 45, 49]⟩, .pointer (some ⟨36, 0, none⟩))], .cells 19 171 1 [.pointer (some ⟨7, 0, none⟩), .int .i64 0, .int .i64 0, .int .i64 0, .int .i64 0, .slice none 0 0, .int .i64 1, .int .i64 22], .cells 20 221 1 [.int .i64 2, .int .i64 0, .int .i64 0, .int .i64 0, .int .i64 0, .slice (some ⟨37, 0, none⟩) 3 3, .slice none 0 0, .slice none 0 0, .slice none 0 0, .int .i64 0, .int .i64 0, .int .i64 0, .int .i64 0, .int .i64 16, .int .i64 10, .slice none 0 0, .map none, .int .i64 0, .int .i64 0, .slice none 0 0, .pointer none], .cells 21 161 1 [.int .i64 0, .map (some 38), .map (some 39), .map (some 40)], .cells 22 3 1 [.int .i64 1, .int .i64 2, .int .i64 3], .cells 23 147 1 [.int .i64 0, .slice none 0 0, .slice none 0 0], .map 24 .str [(.string ⟨#[119, 97, 108, 45, 49]⟩, .pointer (some ⟨41, 0, none⟩))], .cells 25 171 1 [.pointer (some ⟨9, 0, none⟩), .int .i64 0, .int .i64 0, .int .i64 0, .int .i64 0, .slice none 0 0, .int .i64 1, .int .i64 22], .cells 26 221 1 [.int .i64 3, .int .i64 0, .int .i64 0, .int .i64 0, .int .i64 0, .slice (some ⟨42, 0, none⟩) 3 3, .slice none 0 0, .slice none 0 0, .slice none 0 0, .int .i64 0, .int .i64 0, .int .i64 0, .int .i64 0, .int .i64 19, .int .i64 10, .slice none 0 0, .map none, .int .i64 0, .int .i64 0, .slice none 0 0, .pointer none], .cells 27 161 1 [.int .i64 0, .map (some 43), .map (some 44), .map (some 45)], .cells 28 3 1 [.int .i64 1, .int .i64 2, .int .i64 3], .cells 29 147 1 [.int .i64 0, .slice none 0 0, .slice none 0 0], .cells 30 248 1 [.slice (some ⟨46, 0, none⟩) 22 22, .slice (some ⟨47, 0, none⟩) 22 22, .bool true, .slice none 0 0], .cells 31 3 1 [.int .i64 1, .int .i64 2, .int .i64 3], .map 32 (.int .i64) [], .map 33 .str [], .map 34 .str2 [], .map 35 (.int .i64) [], .cells 36 248 1 [.slice (some ⟨48, 0, none⟩) 22 22, .slice (some ⟨49, 0, none⟩) 22 22, .bool true, .slice none 0 0], .cells 37 3 1 [.int .i64 1, .int .i64 2, .int .i64 3], .map 38 .str [], .map 39 .str2 [], .map 40 (.int .i64) [], .cells 41 248 1 [.slice (some ⟨50, 0, none⟩) 22 22, .slice (some ⟨51, 0, none⟩) 22 22, .bool true, .slice none 0 0], .cells 42 3 1 [.int .i64 1, .int .i64 2, .int .i64 3], .map 43 .str [], .map 44 .str2 [], .map 45 (.int .i64) [], .cells 46 5 1 [.int .u8 0, .int .u8 0, .int .u8 0, .int .u8 3, .int .u8 142, .int .u8 27, .int .u8 26, .int .u8 167, .int .u8 1, .int .u8 0, .int .u8 0, .int .u8 0, .int .u8 0, .int .u8 0, .int .u8 3, .int .u8 140, .int .u8 93, .int .u8 164, .int .u8 254, .int .u8 2, .int .u8 0, .int .u8 0], .cells 47 5 1 [.int .u8 0, .int .u8 0, .int .u8 0, .int .u8 3, .int .u8 142, .int .u8 27, .int .u8 26, .int .u8 167, .int .u8 1, .int .u8 0, .int .u8 0, .int .u8 0, .int .u8 0, .int .u8 0, .int .u8 3, .int .u8 140, .int .u8 93, .int .u8 164, .int .u8 254, .int .u8 2, .int .u8 0, .int .u8 0], .cells 48 5 1 [.int .u8 0, .int .u8 0, .int .u8 0, .int .u8 3, .int .u8 142, .int .u8 27, .int .u8 26, .int .u8 167, .int .u8 1, .int .u8 0, .int .u8 0, .int .u8 0, .int .u8 0, .int .u8 0, .int .u8 3, .int .u8 140, .int .u8 93, .int .u8 164, .int .u8 254, .int .u8 2, .int .u8 0, .int .u8 0], .cells 49 5 1 [.int .u8 0, .int .u8 0, .int .u8 0, .int .u8 3, .int .u8 142, .int .u8 27, .int .u8 26, .int .u8 167, .int .u8 1, .int .u8 0, .int .u8 0, .int .u8 0, .int .u8 0, .int .u8 0, .int .u8 3, .int .u8 140, .int .u8 93, .int .u8 164, .int .u8 254, .int .u8 2, .int .u8 0, .int .u8 0], .cells 50 5 1 [.int .u8 0, .int .u8 0, .int .u8 0, .int .u8 3, .int .u8 142, .int .u8 27, .int .u8 26, .int .u8 167, .int .u8 1, .int .u8 0, .int .u8 0, .int .u8 0, .int .u8 0, .int .u8 0, .int .u8 3, .int .u8 140, .int .u8 93, .int .u8 164, .int .u8 254, .int .u8 2, .int .u8 0, .int .u8 0], .cells 51 5 1 [.int .u8 0, .int .u8 0, .int .u8 0, .int .u8 3, .int .u8 142, .int .u8 27, .int .u8 26, .int .u8 167, .int .u8 1, .int .u8 0, .int .u8 0, .int .u8 0, .int .u8 0, .int .u8 0, .int .u8 3, .int .u8 140, .int .u8 93, .int .u8 164, .int .u8 254, .int .u8 2, .int .u8 0, .int .u8 0]]
  | 11 => [.frm 0, .cells 1 69 1 [.slice (some ⟨2, 0, none⟩) 3 3, .pointer (some ⟨3, 0, none⟩), .slice (some ⟨4, 0, none⟩) 3 3, .slice none 0 0], .cells 2 73 2 [.pointer (some ⟨5, 0, none⟩), .pointer (some ⟨6, 0, none⟩), .pointer (some ⟨7, 0, none⟩), .pointer (some ⟨8, 0, none⟩), .pointer (some ⟨9, 0, none⟩), .pointer (some ⟨10, 0, none⟩)], .cells 3 93 1 [.int .i64 0, .slice none 0 0, .map (some 11), .int .i64 0, .int .i64 10, .int .i64 0, .int .i64 0, .int .i64 0, .int .i64 0, .int .i64 0, .int .i64 0, .int .i64 0, .int .i64 0], .cells 4 3 1 [.int .i64 1, .int .i64 2, .int .i64 3], .cells 5 96 1 [.int .i64 65536, .map (some 12)], .cells 6 89 1 [.pointer (some ⟨5, 0, none⟩), .int .i64 1, .pointer (some ⟨13, 0, none⟩), .pointer (some ⟨14, 0, none⟩), .pointer (some ⟨15, 0, none⟩), .slice (some ⟨16, 0, none⟩) 3 3, .slice none 0 0, .pointer (some ⟨17, 0, none⟩), .int .i64 0], .cells 7 96 1 [.int .i64 65536, .map (some 18)], .cells 8 89 1 [.pointer (some ⟨7, 0, none⟩), .int .i64 2, .pointer (some ⟨19, 0, none⟩), .pointer (some ⟨20, 0, none⟩), .pointer (some ⟨21, 0, none⟩), .slice (some ⟨22, 0, none⟩) 3 3, .slice none 0 0, .pointer (some ⟨23, 0, none⟩), .int .i64 0], .cells 9 96 1 [.int .i64 65536, .map (some 24)], .cells 10 89 1 [.pointer (some ⟨9, 0, none⟩), .int .i64 3, .pointer (some ⟨25, 0, none⟩), .pointer (some ⟨26, 0, none⟩), .pointer (some ⟨27, 0, none⟩), .slice (some ⟨28, 0, none⟩) 3 3, .slice none 0 0, .pointer (some ⟨29, 0, none⟩), .int .i64 0], .map 11 (.int2 .i64) [], .map 12 .str [(.string ⟨#[119, 97, 108, 45, 49]⟩, .pointer (some ⟨30, 0, none⟩))], .cells 13 171 1 [.pointer (some ⟨5, 0, none⟩), .int .i64 0, .int .i64 0, .int .i64 0, .int .i64 0, .slice none 0 0, .int .i64 1, .int .i64 22], .cells 14 221 1 [.int .i64 1, .int .i64 0, .int .i64 0, .int .i64 0, .int .i64 0, .slice (some ⟨31, 0, none⟩) 3 3, .slice none 0 0, .slice none 0 0, .slice none 0 0, .int .i64 0, .int .i64 0, .int .i64 0, .int .i64 10, .int .i64 13, .int .i64 10, .slice none 0 0, .map (some 32), .int .i64 0, .int .i64 0, .slice none 0 0, .pointer none], .cells 15 161 1 [.int .i64 0, .map (some 33), .map (some 34), .map (some 35)], .cells 16 3 1 [.int .i64 1, .int .i64 2, .int .i64 3], .cells 17 147 1 [.int .i64 0, .slice none 0 0, .slice none 0 0], .map 18 .str [(.string ⟨#[119, 97, 108, 45, 49]⟩, .pointer (some ⟨36, 0, none⟩))], .cells 19 171 1 [.pointer (some ⟨7, 0, none⟩), .int .i64 0, .int .i64 0, .int .i64 0, .int .i64 0, .slice none 0 0, .int .i64 1, .int .i64 22], .cells 20 221 1 [.int .i64 2, .int .i64 0, .int .i64 0, .int .i64 0, .int .i64 0, .slice (some ⟨37, 0, none⟩) 3 3, .slice none 0 0, .slice none 0 0, .slice none 0 0, .int .i64 0, .int .i64 0, .int .i64 0, .int .i64 0, .int .i64 16, .int .i64 10, .slice none 0 0, .map none, .int .i64 0, .int .i64 0, .slice none 0 0, .pointer none], .cells 21 161 1 [.int .i64 0, .map (some 38), .map (some 39), .map (some 40)], .cells 22 3 1 [.int .i64 1, .int .i64 2, .int .i64 3], .cells 23 147 1 [.int .i64 0, .slice none 0 0, .slice none 0 0], .map 24 .str [(.string ⟨#[119, 97, 108, 45, 49]⟩, .pointer (some ⟨41, 0, none⟩))], .cells 25 171 1 [.pointer (some ⟨9, 0, none⟩), .int .i64 0, .int .i64 0, .int .i64 0, .int .i64 0, .slice none 0 0, .int .i64 1, .int .i64 22], .cells 26 221 1 [.int .i64 3, .int .i64 0, .int .i64 0, .int .i64 0, .int .i64 0, .slice (some ⟨42, 0, none⟩) 3 3, .slice none 0 0, .slice none 0 0, .slice none 0 0, .int .i64 0, .int .i64 0, .int .i64 0, .int .i64 0, .int .i64 19, .int .i64 10, .slice none 0 0, .map none, .int .i64 0, .int .i64 0, .slice none 0 0, .pointer none], .cells 27 161 1 [.int .i64 0, .map (some 43), .map (some 44), .map (some 45)], .cells 28 3 1 [.int .i64 1, .int .i64 2, .int .i64 3], .cells 29 147 1 [.int .i64 0, .slice none 0 0, .slice none 0 0], .cells 30 248 1 [.slice (some ⟨46, 0, none⟩) 22 22, .slice (some ⟨47, 0, none⟩) 22 22, .bool true, .slice none 0 0], .cells 31 3 1 [.int .i64 1, .int .i64 2, .int .i64 3], .map 32 (.int .i64) [], .map 33 .str [], .map 34 .str2 [], .map 35 (.int .i64) [], .cells 36 248 1 [.slice (some ⟨48, 0, none⟩) 22 22, .slice (some ⟨49, 0, none⟩) 22 22, .bool true, .slice none 0 0], .cells 37 3 1 [.int .i64 1, .int .i64 2, .int .i64 3], .map 38 .str [], .map 39 .str2 [], .map 40 (.int .i64) [], .cells 41 248 1 [.slice (some ⟨50, 0, none⟩) 22 22, .slice (some ⟨51, 0, none⟩) 22 22, .bool true, .slice none 0 0], .cells 42 3 1 [.int .i64 1, .int .i64 2, .int .i64 3], .map 43 .str [], .map 44 .str2 [], .map 45 (.int .i64) [], .cells 46 5 1 [.int .u8 0, .int .u8 0, .int .u8 0, .int .u8 3, .int .u8 142, .int .u8 27, .int .u8 26, .int .u8 167, .int .u8 1, .int .u8 0, .int .u8 0, .int .u8 0, .int .u8 0, .int .u8 0, .int .u8 3, .int .u8 140, .int .u8 93, .int .u8 164, .int .u8 254, .int .u8 2, .int .u8 0, .int .u8 0], .cells 47 5 1 [.int .u8 0, .int .u8 0, .int .u8 0, .int .u8 3, .int .u8 142, .int .u8 27, .int .u8 26, .int .u8 167, .int .u8 1, .int .u8 0, .int .u8 0, .int .u8 0, .int .u8 0, .int .u8 0, .int .u8 3, .int .u8 140, .int .u8 93, .int .u8 164, .int .u8 254, .int .u8 2, .int .u8 0, .int .u8 0], .cells 48 5 1 [.int .u8 0, .int .u8 0, .int .u8 0, .int .u8 3, .int .u8 142, .int .u8 27, .int .u8 26, .int .u8 167, .int .u8 1, .int .u8 0, .int .u8 0, .int .u8 0, .int .u8 0, .int .u8 0, .int .u8 3, .int .u8 140, .int .u8 93, .int .u8 164, .int .u8 254, .int .u8 2, .int .u8 0, .int .u8 0], .cells 49 5 1 [.int .u8 0, .int .u8 0, .int .u8 0, .int .u8 3, .int .u8 142, .int .u8 27, .int .u8 26, .int .u8 167, .int .u8 1, .int .u8 0, .int .u8 0, .int .u8 0, .int .u8 0, .int .u8 0, .int .u8 3, .int .u8 140, .int .u8 93, .int .u8 164, .int .u8 254, .int .u8 2, .int .u8 0, .int .u8 0], .cells 50 5 1 [.int .u8 0, .int .u8 0, .int .u8 0, .int .u8 3, .int .u8 142, .int .u8 27, .int .u8 26, .int .u8 167, .int .u8 1, .int .u8 0, .int .u8 0, .int .u8 0, .int .u8 0, .int .u8 0, .int .u8 3, .int .u8 140, .int .u8 93, .int .u8 164, .int .u8 254, .int .u8 2, .int .u8 0, .int .u8 0], .cells 51 5 1 [.int .u8 0, .int .u8 0, .int .u8 0, .int .u8 3, .int .u8 142, .int .u8 27, .int .u8 26, .int .u8 167, .int .u8 1, .int .u8 0, .int .u8 0, .int .u8 0, .int .u8 0, .int .u8 0, .int .u8 3, .int .u8 140, .int .u8 93, .int .u8 164, .int .u8 254, .int .u8 2, .int .u8 0, .int .u8 0]]
  | 12 => [.frm 0, .cells 1 69 1 [.slice (some ⟨2, 0, none⟩) 3 3, .pointer (some ⟨3, 0, none⟩), .slice (some ⟨4, 0, none⟩) 3 3, .slice none 0 0], .cells 2 73 2 [.pointer (some ⟨5, 0, none⟩), .pointer (some ⟨6, 0, none⟩), .pointer (some ⟨7, 0, none⟩), .pointer (some ⟨8, 0, none⟩), .pointer (some ⟨9, 0, none⟩), .pointer (some ⟨10, 0, none⟩)], .cells 3 93 1 [.int .i64 0, .slice none 0 0, .map (some 11), .int .i64 0, .int .i64 11, .int .i64 0, .int .i64 0, .int .i64 0, .int .i64 0, .int .i64 0, .int .i64 0, .int .i64 0, .int .i64 0], .cells 4 3 1 [.int .i64 1, .int .i64 2, .int .i64 3], .cells 5 96 1 [.int .i64 65536, .map (some 12)], .cells 6 89 1 [.pointer (some ⟨5, 0, none⟩), .int .i64 1, .pointer (some ⟨13, 0, none⟩), .pointer (some ⟨14, 0, none⟩), .pointer (some ⟨15, 0, none⟩), .slice (some ⟨16, 0, none⟩) 3 3, .slice none 0 0, .pointer (some ⟨17, 0, none⟩), .int .i64 0], .cells 7 96 1 [.int .i64 65536, .map (some 18)], .cells 8 89 1 [.pointer (some ⟨7, 0, none⟩), .int .i64 2, .pointer (some ⟨19, 0, none⟩), .pointer (some ⟨20, 0, none⟩), .pointer (some ⟨21, 0, none⟩), .slice (some ⟨22, 0, none⟩) 3 3, .slice none 0 0, .pointer (some ⟨23, 0, none⟩), .int .i64 0], .cells 9 96 1 [.int .i64 65536, .map (some 24)], .cells 10 89 1 [.pointer (some ⟨9, 0, none⟩), .int .i64 3, .pointer (some ⟨25, 0, none⟩), .pointer (some ⟨26, 0, none⟩), .pointer (some ⟨27, 0, none⟩), .slice (some ⟨28, 0, none⟩) 3 3, .slice none 0 0, .pointer (some ⟨29, 0, none⟩), .int .i64 0], .map 11 (.int2 .i64) [], .map 12 .str [(.string ⟨#[119, 97, 108, 45, 49]⟩, .pointer (some ⟨30, 0, none⟩))], .cells 13 171 1 [.pointer (some ⟨5, 0, none⟩), .int .i64 0, .int .i64 0, .int .i64 0, .int .i64 0, .slice none 0 0, .int .i64 1, .int .i64 22], .cells 14 221 1 [.int .i64 1, .int .i64 0, .int .i64 0, .int .i64 0, .int .i64 0, .slice (some ⟨31, 0, none⟩) 3 3, .slice none 0 0, .slice none 0 0, .slice none 0 0, .int .i64 0, .int .i64 0, .int .i64 0, .int .i64 11, .int .i64 13, .int .i64 10, .slice none 0 0, .map (some 32), .int .i64 0, .int .i64 0, .slice none 0 0, .pointer none], .cells 15 161 1 [.int .i64 0, .map (some 33), .map (some 34), .map (some 35)], .cells 16 3 1 [.int .i64 1, .int .i64 2, .int .i64 3], .cells 17 147 1 [.int .i64 0, .slice none 0 0, .slice none 0 0], .map 18 .str [(.string ⟨#[119, 97, 108, 45, 49]⟩, .pointer (some ⟨36, 0, none⟩))], .cells 19 171 1 [.pointer (some ⟨7, 0, none⟩), .int .i64 0, .int .i64 0, .int .i64 0, .int .i64 0, .slice none 0 0, .int .i64 1, .int .i64 22], .cells 20 221 1 [.int .i64 2, .int .i64 0, .int .i64 0, .int .i64 0, .int .i64 0, .slice (some ⟨37, 0, none⟩) 3 3, .slice none 0 0, .slice none 0 0, .slice none 0 0, .int .i64 0, .int .i64 0, .int .i64 0, .int .i64 0, .int .i64 16, .int .i64 10, .slice none 0 0, .map none, .int .i64 0, .int .i64 0, .slice none 0 0, .pointer none], .cells 21 161 1 [.int .i64 0, .map (some 38), .map (some 39), .map (some 40)], .cells 22 3 1 [.int .i64 1, .int .i64 2, .int .i64 3], .cells 23 147 1 [.int .i64 0, .slice none 0 0, .slice none 0 0], .map 24 .str [(.string ⟨#[119, 97, 108, 45, 49]⟩, .pointer (some ⟨41, 0, none⟩))], .cells 25 171 1 [.pointer (some ⟨9, 0, none⟩), .int .i64 0, .int .i64 0, .int .i64 0, .int .i64 0, .slice none 0 0, .int .i64 1, .int .i64 22], .cells 26 221 1 [.int .i64 3, .int .i64 0, .int .i64 0, .int .i64 0, .int .i64 0, .slice (some ⟨42, 0, none⟩) 3 3, .slice none 0 0, .slice none 0 0, .slice none 0 0, .int .i64 0, .int .i64 0, .int .i64 0, .int .i64 0, .int .i64 19, .int .i64 10, .slice none 0 0, .map none, .int .i64 0, .int .i64 0, .slice none 0 0, .pointer none], .cells 27 161 1 [.int .i64 0, .map (some 43), .map (some 44), .map (some 45)], .cells 28 3 1 [.int .i64 1, .int .i64 2, .int .i64 3], .cells 29 147 1 [.int .i64 0, .slice none 0 0, .slice none 0 0], .cells 30 248 1 [.slice (some ⟨46, 0, none⟩) 22 22, .slice (some ⟨47, 0, none⟩) 22 22, .bool true, .slice none 0 0], .cells 31 3 1 [.int .i64 1, .int .i64 2, .int .i64 3], .map 32 (.int .i64) [], .map 33 .str [], .map 34 .str2 [], .map 35 (.int .i64) [], .cells 36 248 1 [.slice (some ⟨48, 0, none⟩) 22 22, .slice (some ⟨49, 0, none⟩) 22 22, .bool true, .slice none 0 0], .cells 37 3 1 [.int .i64 1, .int .i64 2, .int .i64 3], .map 38 .str [], .map 39 .str2 [], .map 40 (.int .i64) [], .cells 41 248 1 [.slice (some ⟨50, 0, none⟩) 22 22, .slice (some ⟨51, 0, none⟩) 22 22, .bool true, .slice none 0 0], .cells 42 3 1 [.int .i64 1, .int .i64 2, .int .i64 3], .map 43 .str [], .map 44 .str2 [], .map 45 (.int .i64) [], .cells 46 5 1 [.int .u8 0, .int .u8 0, .int .u8 0, .int .u8 3, .int .u8 142, .int .u8 27, .int .u8 26, .int .u8 167, .int .u8 1, .int .u8 0, .int .u8 0, .int .u8 0, .int .u8 0, .int .u8 0, .int .u8 3, .int .u8 140, .int .u8 93, .int .u8 164, .int .u8 254, .int .u8 2, .int .u8 0, .int .u8 0], .cells 47 5 1 [.int .u8 0, .int .u8 0, .int .u8 0, .int .u8 3, .int .u8 142, .int .u8 27, .int .u8 26, .int .u8 167, .int .u8 1, .int .u8 0, .int .u8 0, .int .u8 0, .int .u8 0, .int .u8 0, .int .u8 3, .int .u8 140, .int .u8 93, .int .u8 164, .int .u8 254, .int .u8 2, .int .u8 0, .int .u8 0], .cells 48 5 1 [.int .u8 0, .int .u8 0, .int .u8 0, .int .u8 3, .int .u8 142, .int .u8 27, .int .u8 26, .int .u8 167, .int .u8 1, .int .u8 0, .int .u8 0, .int .u8 0, .int .u8 0, .int .u8 0, .int .u8 3, .int .u8 140, .int .u8 93, .int .u8 164, .int .u8 254, .int .u8 2, .int .u8 0, .int .u8 0], .cells 49 5 1 [.int .u8 0, .int .u8 0, .int .u8 0, .int .u8 3, .int .u8 142, .int .u8 27, .int .u8 26, .int .u8 167, .int .u8 1, .int .u8 0, .int .u8 0, .int .u8 0, .int .u8 0, .int .u8 0, .int .u8 3, .int .u8 140, .int .u8 93, .int .u8 164, .int .u8 254, .int .u8 2, .int .u8 0, .int .u8 0], .cells 50 5 1 [.int .u8 0, .int .u8 0, .int .u8 0, .int .u8 3, .int .u8 142, .int .u8 27, .int .u8 26, .int .u8 167, .int .u8 1, .int .u8 0, .int .u8 0, .int .u8 0, .int .u8 0, .int .u8 0, .int .u8 3, .int .u8 140, .int .u8 93, .int .u8 164, .int .u8 254, .int .u8 2, .int .u8 0, .int .u8 0], .cells 51 5 1 [.int .u8 0, .int .u8 0, .int .u8 0, .int .u8 3, .int .u8 142, .int .u8 27, .int .u8 26, .int .u8 167, .int .u8 1, .int .u8 0, .int .u8 0, .int .u8 0, .int .u8 0, .int .u8 0, .int .u8 3, .int .u8 140, .int .u8 93, .int .u8 164, .int .u8 254, .int .u8 2, .int .u8 0, .int .u8 0]]
  | 13 => [.frm 0, .cells 1 69 1 [.slice (some ⟨2, 0, none⟩) 3 3, .pointer (some ⟨3, 0, none⟩), .slice (some ⟨4, 0, none⟩) 3 3, .slice none 0 0], .cells 2 73 2 [.pointer (some ⟨5, 0, none⟩), .pointer (some ⟨6, 0, none⟩), .pointer (some ⟨7, 0, none⟩), .pointer (some ⟨8, 0, none⟩), .pointer (some ⟨9, 0, none⟩), .pointer (some ⟨10, 0, none⟩)], .cells 3 93 1 [.int .i64 0, .slice none 0 0, .map (some 11), .int .i64 0, .int .i64 12, .int .i64 0, .int .i64 0, .int .i64 0, .int .i64 0, .int .i64 0, .int .i64 0, .int .i64 0, .int .i64 0], .cells 4 3 1 [.int .i64 1, .int .i64 2, .int .i64 3], .cells 5 96 1 [.int .i64 65536, .map (some 12)], .cells 6 89 1 [.pointer (some ⟨5, 0, none⟩), .int .i64 1, .pointer (some ⟨13, 0, none⟩), .pointer (some ⟨14, 0, none⟩), .pointer (some ⟨15, 0, none⟩), .slice (some ⟨16, 0, none⟩) 3 3, .slice none 0 0, .pointer (some ⟨17, 0, none⟩), .int .i64 0], .cells 7 96 1 [.int .i64 65536, .map (some 18)], .cells 8 89 1 [.pointer (some ⟨7, 0, none⟩), .int .i64 2, .pointer (some ⟨19, 0, none⟩), .pointer (some ⟨20, 0, none⟩), .pointer (some ⟨21, 0, none⟩), .slice (some ⟨22, 0, none⟩) 3 3, .slice none 0 0, .pointer (some ⟨23, 0, none⟩), .int .i64 0], .cells 9 96 1 [.int .i64 65536, .map (some 24)], .cells 10 89 1 [.pointer (some ⟨9, 0, none⟩), .int .i64 3, .pointer (some ⟨25, 0, none⟩), .pointer (some ⟨26, 0, none⟩), .pointer (some ⟨27, 0, none⟩), .slice (some ⟨28, 0, none⟩) 3 3, .slice none 0 0, .pointer (some ⟨29, 0, none⟩), .int .i64 0], .map 11 (.int2 .i64) [], .map 12 .str [(.string ⟨#[119, 97, 108, 45, 49]⟩, .pointer (some ⟨30, 0, none⟩))], .cells 13 171 1 [.pointer (some ⟨5, 0, none⟩), .int .i64 0, .int .i64 0, .int .i64 0, .int .i64 0, .slice none 0 0, .int .i64 1, .int .i64 22], .cells 14 221 1 [.int .i64 1, .int .i64 0, .int .i64 0, .int .i64 0, .int .i64 0, .slice (some ⟨31, 0, none⟩) 3 3, .slice none 0 0, .slice none 0 0, .slice none 0 0, .int .i64 0, .int .i64 0, .int .i64 0, .int .i64 12, .int .i64 13, .int .i64 10, .slice none 0 0, .map (some 32), .int .i64 0, .int .i64 0, .slice none 0 0, .pointer none], .cells 15 161 1 [.int .i64 0, .map (some 33), .map (some 34), .map (some 35)], .cells 16 3 1 [.int .i64 1, .int .i64 2, .int .i64 3], .cells 17 147 1 [.int .i64 0, .slice none 0 0, .slice none 0 0], .map 18 .str [(.string ⟨#[119, 97, 108, 45, 49]⟩, .pointer (some ⟨36, 0, none⟩))], .cells 19 171 1 [.pointer (some ⟨7, 0, none⟩), .int .i64 0, .int .i64 0, .int .i64 0, .int .i64 0, .slice none 0 0, .int .i64 1, .int .i64 22], .cells 20 221 1 [.int .i64 2, .int .i64 0, .int .i64 0, .int .i64 0, .int .i64 0, .slice (some ⟨37, 0, none⟩) 3 3, .slice none 0 0, .slice none 0 0, .slice none 0 0, .int .i64 0, .int .i64 0, .int .i64 0, .int .i64 0, .int .i64 16, .int .i64 10, .slice none 0 0, .map none, .int .i64 0, .int .i64 0, .slice none 0 0, .pointer none], .cells 21 161 1 [.int .i64 0, .map (some 38), .map (some 39), .map (some 40)], .cells 22 3 1 [.int .i64 1, .int .i64 2, .int .i64 3], .cells 23 147 1 [.int .i64 0, .slice none 0 0, .slice none 0 0], .map 24 .str [(.string ⟨#[119, 97, 108, 45, 49]⟩, .pointer (some ⟨41, 0, none⟩))], .cells 25 171 1 [.pointer (some ⟨9, 0, none⟩), .int .i64 0, .int .i64 0, .int .i64 0, .int .i64 0, .slice none 0 0, .int .i64 1, .int .i64 22], .cells 26 221 1 [.int .i64 3, .int .i64 0, .int .i64 0, .int .i64 0, .int .i64 0, .slice (some ⟨42, 0, none⟩) 3 3, .slice none 0 0, .slice none 0 0, .slice none 0 0, .int .i64 0, .int .i64 0, .int .i64 0, .int .i64 0, .int .i64 19, .int .i64 10, .slice none 0 0, .map none, .int .i64 0, .int .i64 0, .slice none 0 0, .pointer none], .cells 27 161 1 [.int .i64 0, .map (some 43), .map (some 44), .map (some 45)], .cells 28 3 1 [.int .i64 1, .int .i64 2, .int .i64 3], .cells 29 147 1 [.int .i64 0, .slice none 0 0, .slice none 0 0], .cells 30 248 1 [.slice (some ⟨46, 0, none⟩) 22 22, .slice (some ⟨47, 0, none⟩) 22 22, .bool true, .slice none 0 0], .cells 31 3 1 [.int .i64 1, .int .i64 2, .int .i64 3], .map 32 (.int .i64) [], .map 33 .str [], .map 34 .str2 [], .map 35 (.int .i64) [], .cells 36 248 1 [.slice (some ⟨48, 0, none⟩) 22 22, .slice (some ⟨49, 0, none⟩) 22 22, .bool true, .slice none 0 0], .cells 37 3 1 [.int .i64 1, .int .i64 2, .int .i64 3], .map 38 .str [], .map 39 .str2 [], .map 40 (.int .i64) [], .cells 41 248 1 [.slice (some ⟨50, 0, none⟩) 22 22, .slice (some ⟨51, 0, none⟩) 22 22, .bool true, .slice none 0 0], .cells 42 3 1 [.int .i64 1, .int .i64 2, .int .i64 3], .map 43 .str [], .map 44 .str2 [], .map 45 (.int .i64) [], .cells 46 5 1 [.int .u8 0, .int .u8 0, .int .u8 0, .int .u8 3, .int .u8 142, .int .u8 27, .int .u8 26, .int .u8 167, .int .u8 1, .int .u8 0, .int .u8 0, .int .u8 0, .int .u8 0, .int .u8 0, .int .u8 3, .int .u8 140, .int .u8 93, .int .u8 164, .int .u8 254, .int .u8 2, .int .u8 0, .int .u8 0], .cells 47 5 1 [.int .u8 0, .int .u8 0, .int .u8 0, .int .u8 3, .int .u8 142, .int .u8 27, .int .u8 26, .int .u8 167, .int .u8 1, .int .u8 0, .int .u8 0, .int .u8 0, .int .u8 0, .int .u8 0, .int .u8 3, .int .u8 140, .int .u8 93, .int .u8 164, .int .u8 254, .int .u8 2, .int .u8 0, .int .u8 0], .cells 48 5 1 [.int .u8 0, .int .u8 0, .int .u8 0, .int .u8 3, .int .u8 142, .int .u8 27, .int .u8 26, .int .u8 167, .int .u8 1, .int .u8 0, .int .u8 0, .int .u8 0, .int .u8 0, .int .u8 0, .int .u8 3, .int .u8 140, .int .u8 93, .int .u8 164, .int .u8 254, .int .u8 2, .int .u8 0, .int .u8 0], .cells 49 5 1 [.int .u8 0, .int .u8 0, .int .u8 0, .int .u8 3, .int .u8 142, .int .u8 27, .int .u8 26, .int .u8 167, .int .u8 1, .int .u8 0, .int .u8 0, .int .u8 0, .int .u8 0, .int .u8 0, .int .u8 3, .int .u8 140, .int .u8 93, .int .u8 164, .int .u8 254, .int .u8 2, .int .u8 0, .int .u8 0], .cells 50 5 1 [.int .u8 0, .int .u8 0, .int .u8 0, .int .u8 3, .int .u8 142, .int .u8 27, .int .u8 26, .int .u8 167, .int .u8 1, .int .u8 0, .int .u8 0, .int .u8 0, .int .u8 0, .int .u8 0, .int .u8 3, .int .u8 140, .int .u8 93, .int .u8 164, .int .u8 254, .int .u8 2, .int .u8 0, .int .u8 0], .cells 51 5 1 [.int .u8 0, .int .u8 0, .int .u8 0, .int .u8 3, .int .u8 142, .int .u8 27, .int .u8 26, .int .u8 167, .int .u8 1, .int .u8 0, .int .u8 0, .int .u8 0, .int .u8 0, .int .u8 0, .int .u8 3, .int .u8 140, .int .u8 93, .int .u8 164, .int .u8 254, .int .u8 2, .int .u8 0, .int .u8 0]]
  | 14 => [.frm 0, .cells 1 69 1 [.slice (some ⟨2, 0, none⟩) 3 3, .pointer (some ⟨3, 0, none⟩), .slice (some ⟨4, 0, none⟩) 3 3, .slice none 0 0], .cells 2 73 2 [.pointer (some ⟨5, 0, none⟩), .pointer (some ⟨6, 0, none⟩), .pointer (some ⟨7, 0, none⟩), .pointer (some ⟨8, 0, none⟩), .pointer (some ⟨9, 0, none⟩), .pointer (some ⟨10, 0, none⟩)], .cells 3 93 1 [.int .i64 2, .slice (some ⟨11, 0, none⟩) 2 2, .map (some 12), .int .i64 0, .int .i64 13, .int .i64 0, .int .i64 0, .int .i64 0, .int .i64 0, .int .i64 0, .int .i64 0, .int .i64 0, .int .i64 0], .cells 4 3 1 [.int .i64 1, .int .i64 2, .int .i64 3], .cells 5 96 1 [.int .i64 65536, .map (some 13)], .cells 6 89 1 [.pointer (some ⟨5, 0, none⟩), .int .i64 1, .pointer (some ⟨14, 0, none⟩), .pointer (some ⟨15, 0, none⟩), .pointer (some ⟨16, 0, none⟩), .slice (some ⟨17, 0, none⟩) 3 3, .slice none 0 0, .pointer (some ⟨18, 0, none⟩), .int .i64 0], .cells 7 96 1 [.int .i64 65536, .map (some 19)], .cells 8 89 1 [.pointer (some ⟨7, 0, none⟩), .int .i64 2, .pointer (some ⟨20, 0, none⟩), .pointer (some ⟨21, 0, none⟩), .pointer (some ⟨22, 0, none⟩), .slice (some ⟨23, 0, none⟩) 3 3, .slice none 0 0, .pointer (some ⟨24, 0, none⟩), .int .i64 0], .cells 9 96 1 [.int .i64 65536, .map (some 25)], .cells 10 89 1 [.pointer (some ⟨9, 0, none⟩), .int .i64 3, .pointer (some ⟨26, 0, none⟩), .pointer (some ⟨27, 0, none⟩), .pointer (some ⟨28, 0, none⟩), .slice (some ⟨29, 0, none⟩) 3 3, .slice none 0 0, .pointer (some ⟨30, 0, none⟩), .int .i64 0], .cells 11 129 4 [.int .i64 1, .int .i64 1, .int .i64 2, .slice (some ⟨31, 0, none⟩) 12 12, .int .i64 2, .int .i64 1, .int .i64 3, .slice (some ⟨32, 0, none⟩) 12 12], .map 12 (.int2 .i64) [], .map 13 .str [(.string ⟨#[119, 97, 108, 45, 49]⟩, .pointer (some ⟨33, 0, none⟩))], .cells 14 171 1 [.pointer (some ⟨5, 0, none⟩), .int .i64 0, .int .i64 0, .int .i64 0, .int .i64 0, .slice none 0 0, .int .i64 1, .int .i64 22], .cells 15 221 1 [.int .i64 1, .int .i64 0, .int .i64 0, .int .i64 0, .int .i64 0, .slice (some ⟨34, 0, none⟩) 3 3, .slice none 0 0, .slice none 0 0, .slice none 0 0, .int .i64 0, .int .i64 1, .int .i64 0, .int .i64 0, .int .i64 10, .int .i64 10, .slice (some ⟨35, 0, some 0⟩) 1 1, .map (some 36), .int .i64 0, .int .i64 0, .slice none 0 0, .pointer none], .cells 16 161 1 [.int .i64 0, .map (some 37), .map (some 38), .map (some 39)], .cells 17 3 1 [.int .i64 1, .int .i64 2, .int .i64 3], .cells 18 147 1 [.int .i64 0, .slice none 0 0, .slice none 0 0], .map 19 .str [(.string ⟨#[119, 97, 108, 45, 49]⟩, .pointer (some ⟨40, 0, none⟩))], .cells 20 171 1 [.pointer (some ⟨7, 0, none⟩), .int .i64 0, .int .i64 0, .int .i64 0, .int .i64 0, .slice none 0 0, .int .i64 1, .int .i64 22], .cells 21 221 1 [.int .i64 2, .int .i64 0, .int .i64 0, .int .i64 0, .int .i64 0, .slice (some ⟨41, 0, none⟩) 3 3, .slice none 0 0, .slice none 0 0, .slice none 0 0, .int .i64 0, .int .i64 0, .int .i64 0, .int .i64 0, .int .i64 16, .int .i64 10, .slice none 0 0, .map none, .int .i64 0, .int .i64 0, .slice none 0 0, .pointer none], .cells 22 161 1 [.int .i64 0, .map (some 42), .map (some 43), .map (some 44)], .cells 23 3 1 [.int .i64 1, .int .i64 2, .int .i64 3], .cells 24 147 1 [.int .i64 0, .slice none 0 0, .slice none 0 0], .map 25 .str [(.string ⟨#[119, 97, 108, 45, 49]⟩, .pointer (some ⟨45, 0, none⟩))], .cells 26 171 1 [.pointer (some ⟨9, 0, none⟩), .int .i64 0, .int .i64 0, .int .i64 0, .int .i64 0, .slice none 0 0, .int .i64 1, .int .i64 22], .cells 27 221 1 [.int .i64 3, .int .i64 0, .int .i64 0, .int .i64 0, .int .i64 0, .slice (some ⟨46, 0, none⟩) 3 3, .slice none 0 0, .slice none 0 0, .slice none 0 0, .int .i64 0, .int .i64 0, .int .i64 0, .int .i64 0, .int .i64 19, .int .i64 10, .slice none 0 0, .map none, .int .i64 0, .int .i64 0, .slice none 0 0, .pointer none], .cells 28 161 1 [.int .i64 0, .map (some 47), .map (some 48), .map (some 49)], .cells 29 3 1 [.int .i64 1, .int .i64 2, .int .i64 3], .cells 30 147 1 [.int .i64 0, .slice none 0 0, .slice none 0 0], .cells 31 5 1 [.int .u8 1, .int .u8 1, .int .u8 2, .int .u8 0, .int .u8 1, .int .u8 0, .int .u8 0, .int .u8 0, .int .u8 0, .int .u8 0, .int .u8 0, .int .u8 0], .cells 32 5 1 [.int .u8 1, .int .u8 1, .int .u8 3, .int .u8 0, .int .u8 1, .int .u8 0, .int .u8 0, .int .u8 0, .int .u8 0, .int .u8 0, .int .u8 0, .int .u8 0], .cells 33 248 1 [.slice (some ⟨50, 0, none⟩) 22 22, .slice (some ⟨51, 0, none⟩) 22 22, .bool true, .slice none 0 0], .cells 34 3 1 [.int .i64 1, .int .i64 2, .int .i64 3], .cells 35 3 1 [.int .i64 1], .map 36 (.int .i64) [], .map 37 .str [], .map 38 .str2 [], .map 39 (.int .i64) [], .cells 40 248 1 [.slice (some ⟨52, 0, none⟩) 22 22, .slice (some ⟨53, 0, none⟩) 22 22, .bool true, .slice none 0 0], .cells 41 3 1 [.int .i64 1, .int .i64 2, .int .i64 3], .map 42 .str [], .map 43 .str2 [], .map 44 (.int .i64) [], .cells 45 248 1 [.slice (some ⟨54, 0, none⟩) 22 22, .slice (some ⟨55, 0, none⟩) 22 22, .bool true, .slice none 0 0], .cells 46 3 1 [.int .i64 1, .int .i64 2, .int .i64 3], .map 47 .str [], .map 48 .str2 [], .map 49 (.int .i64) [], .cells 50 5 1 [.int .u8 0, .int .u8 0, .int .u8 0, .int .u8 3, .int .u8 142, .int .u8 27, .int .u8 26, .int .u8 167, .int .u8 1, .int .u8 0, .int .u8 0, .int .u8 0, .int .u8 0, .int .u8 0, .int .u8 3, .int .u8 140, .int .u8 93, .int .u8 164, .int .u8 254, .int .u8 2, .int .u8 0, .int .u8 0], .cells 51 5 1 [.int .u8 0, .int .u8 0, .int .u8 0, .int .u8 3, .int .u8 142, .int .u8 27, .int .u8 26, .int .u8 167, .int .u8 1, .int .u8 0, .int .u8 0, .int .u8 0, .int .u8 0, .int .u8 0, .int .u8 3, .int .u8 140, .int .u8 93, .int .u8 164, .int .u8 254, .int .u8 2, .int .u8 0, .int .u8 0], .cells 52 5 1 [.int .u8 0, .int .u8 0, .int .u8 0, .int .u8 3, .int .u8 142, .int .u8 27, .int .u8 26, .int .u8 167, .int .u8 1, .int .u8 0, .int .u8 0, .int .u8 0, .int .u8 0, .int .u8 0, .int .u8 3, .int .u8 140, .int .u8 93, .int .u8 164, .int .u8 254, .int .u8 2, .int .u8 0, .int .u8 0], .cells 53 5 1 [.int .u8 0, .int .u8 0, .int .u8 0, .int .u8 3, .int .u8 142, .int .u8 27, .int .u8 26, .int .u8 167, .int .u8 1, .int .u8 0, .int .u8 0, .int .u8 0, .int .u8 0, .int .u8 0, .int .u8 3, .int .u8 140, .int .u8 93, .int .u8 164, .int .u8 254, .int .u8 2, .int .u8 0, .int .u8 0], .cells 54 5 1 [.int .u8 0, .int .u8 0, .int .u8 0, .int .u8 3, .int .u8 142, .int .u8 27, .int .u8 26, .int .u8 167, .int .u8 1, .int .u8 0, .int .u8 0, .int .u8 0, .int .u8 0, .int .u8 0, .int .u8 3, .int .u8 140, .int .u8 93, .int .u8 164, .int .u8 254, .int .u8 2, .int .u8 0, .int .u8 0], .cells 55 5 1 [.int .u8 0, .int .u8 0, .int .u8 0, .int .u8 3, .int .u8 142, .int .u8 27, .int .u8 26, .int .u8 167, .int .u8 1, .int .u8 0, .int .u8 0, .int .u8 0, .int .u8 0, .int .u8 0, .int .u8 3, .int .u8 140, .int .u8 93, .int .u8 164, .int .u8 254, .int .u8 2, .int .u8 0, .int .u8 0]]
  | 15 => [.frm 0, .cells 1 69 1 [.slice (some ⟨2, 0, none⟩) 3 3, .pointer (some ⟨3, 0, none⟩), .slice (some ⟨4, 0, none⟩) 3 3, .slice none 0 0], .cells 2 73 2 [.pointer (some ⟨5, 0, none⟩), .pointer (some ⟨6, 0, none⟩), .pointer (some ⟨7, 0, none⟩), .pointer none, .pointer (some ⟨8, 0, none⟩), .pointer (some ⟨9, 0, none⟩)], .cells 3 93 1 [.int .i64 2, .slice (some ⟨10, 0, none⟩) 2 2, .map (some 11), .int .i64 0, .int .i64 13, .int .i64 0, .int .i64 0, .int .i64 0, .int .i64 0, .int .i64 0, .int .i64 0, .int .i64 0, .int .i64 0], .cells 4 3 1 [.int .i64 1, .int .i64 2, .int .i64 3], .cells 5 96 1 [.int .i64 65536, .map (some 12)], .cells 6 89 1 [.pointer (some ⟨5, 0, none⟩), .int .i64 1, .pointer (some ⟨13, 0, none⟩), .pointer (some ⟨14, 0, none⟩), .pointer (some ⟨15, 0, none⟩), .slice (some ⟨16, 0, none⟩) 3 3, .slice none 0 0, .pointer (some ⟨17, 0, none⟩), .int .i64 0], .cells 7 96 1 [.int .i64 65536, .map (some 18)], .cells 8 96 1 [.int .i64 65536, .map (some 19)], .cells 9 89 1 [.pointer (some ⟨8, 0, none⟩), .int .i64 3, .pointer (some ⟨20, 0, none⟩), .pointer (some ⟨21, 0, none⟩), .pointer (some ⟨22, 0, none⟩), .slice (some ⟨23, 0, none⟩) 3 3, .slice none 0 0, .pointer (some ⟨24, 0, none⟩), .int .i64 0], .cells 10 129 4 [.int .i64 1, .int .i64 1, .int .i64 2, .slice (some ⟨25, 0, none⟩) 12 12, .int .i64 2, .int .i64 1, .int .i64 3, .slice (some ⟨26, 0, none⟩) 12 12], .map 11 (.int2 .i64) [], .map 12 .str [(.string ⟨#[119, 97, 108, 45, 49]⟩, .pointer (some ⟨27, 0, none⟩))], .cells 13 171 1 [.pointer (some ⟨5, 0, none⟩), .int .i64 0, .int .i64 0, .int .i64 0, .int .i64 0, .slice none 0 0, .int .i64 1, .int .i64 22], .cells 14 221 1 [.int .i64 1, .int .i64 0, .int .i64 0, .int .i64 0, .int .i64 0, .slice (some ⟨28, 0, none⟩) 3 3, .slice none 0 0, .slice none 0 0, .slice none 0 0, .int .i64 0, .int .i64 1, .int .i64 0, .int .i64 0, .int .i64 10, .int .i64 10, .slice (some ⟨29, 0, some 0⟩) 1 1, .map (some 30), .int .i64 0, .int .i64 0, .slice none 0 0, .pointer none], .cells 15 161 1 [.int .i64 0, .map (some 31), .map (some 32), .map (some 33)], .cells 16 3 1 [.int .i64 1, .int .i64 2, .int .i64 3], .cells 17 147 1 [.int .i64 0, .slice none 0 0, .slice none 0 0], .map 18 .str [(.string ⟨#[119, 97, 108, 45, 49]⟩, .pointer (some ⟨34, 0, none⟩))], .map 19 .str [(.string ⟨#[119, 97, 108, 45, 49]⟩, .pointer (some ⟨35, 0, none⟩))], .cells 20 171 1 [.pointer (some ⟨8, 0, none⟩), .int .i64 0, .int .i64 0, .int .i64 0, .int .i64 0, .slice none 0 0, .int .i64 1, .int .i64 22], .cells 21 221 1 [.int .i64 3, .int .i64 0, .int .i64 0, .int .i64 0, .int .i64 0, .slice (some ⟨36, 0, none⟩) 3 3, .slice none 0 0, .slice none 0 0, .slice none 0 0, .int .i64 0, .int .i64 0, .int .i64 0, .int .i64 0, .int .i64 19, .int .i64 10, .slice none 0 0, .map none, .int .i64 0, .int .i64 0, .slice none 0 0, .pointer none], .cells 22 161 1 [.int .i64 0, .map (some 37), .map (some 38), .map (some 39)], .cells 23 3 1 [.int .i64 1, .int .i64 2, .int .i64 3], .cells 24 147 1 [.int .i64 0, .slice none 0 0, .slice none 0 0], .cells 25 5 1 [.int .u8 1, .int .u8 1, .int .u8 2, .int .u8 0, .int .u8 1, .int .u8 0, .int .u8 0, .int .u8 0, .int .u8 0, .int .u8 0, .int .u8 0, .int .u8 0], .cells 26 5 1 [.int .u8 1, .int .u8 1, .int .u8 3, .int .u8 0, .int .u8 1, .int .u8 0, .int .u8 0, .int .u8 0, .int .u8 0, .int .u8 0, .int .u8 0, .int .u8 0], .cells 27 248 1 [.slice (some ⟨40, 0, none⟩) 22 22, .slice (some ⟨41, 0, none⟩) 22 22, .bool true, .slice none 0 0], .cells 28 3 1 [.int .i64 1, .int .i64 2, .int .i64 3], .cells 29 3 1 [.int .i64 1], .map 30 (.int .i64) [], .map 31 .str [], .map 32 .str2 [], .map 33 (.int .i64) [], .cells 34 248 1 [.slice (some ⟨42, 0, none⟩) 22 22, .slice (some ⟨43, 0, none⟩) 22 22, .bool true, .slice none 0 0], .cells 35 248 1 [.slice (some ⟨44, 0, none⟩) 22 22, .slice (some ⟨45, 0, none⟩) 22 22, .bool true, .slice none 0 0], .cells 36 3 1 [.int .i64 1, .int .i64 2, .int .i64 3], .map 37 .str [], .map 38 .str2 [], .map 39 (.int .i64) [], .cells 40 5 1 [.int .u8 0, .int .u8 0, .int .u8 0, .int .u8 3, .int .u8 142, .int .u8 27, .int .u8 26, .int .u8 167, .int .u8 1, .int .u8 0, .int .u8 0, .int .u8 0, .int .u8 0, .int .u8 0, .int .u8 3, .int .u8 140, .int .u8 93, .int .u8 164, .int .u8 254, .int .u8 2, .int .u8 0, .int .u8 0], .cells 41 5 1 [.int .u8 0, .int .u8 0, .int .u8 0, .int .u8 3, .int .u8 142, .int .u8 27, .int .u8 26, .int .u8 167, .int .u8 1, .int .u8 0, .int .u8 0, .int .u8 0, .int .u8 0, .int .u8 0, .int .u8 3, .int .u8 140, .int .u8 93, .int .u8 164, .int .u8 254, .int .u8 2, .int .u8 0, .int .u8 0], .cells 42 5 1 [.int .u8 0, .int .u8 0, .int .u8 0, .int .u8 3, .int .u8 142, .int .u8 27, .int .u8 26, .int .u8 167, .int .u8 1, .int .u8 0, .int .u8 0, .int .u8 0, .int .u8 0, .int .u8 0, .int .u8 3, .int .u8 140, .int .u8 93, .int .u8 164, .int .u8 254, .int .u8 2, .int .u8 0, .int .u8 0], .cells 43 5 1 [.int .u8 0, .int .u8 0, .int .u8 0, .int .u8 3, .int .u8 142, .int .u8 27, .int .u8 26, .int .u8 167, .int .u8 1, .int .u8 0, .int .u8 0, .int .u8 0, .int .u8 0, .int .u8 0, .int .u8 3, .int .u8 140, .int .u8 93, .int .u8 164, .int .u8 254, .int .u8 2, .int .u8 0, .int .u8 0], .cells 44 5 1 [.int .u8 0, .int .u8 0, .int .u8 0, .int .u8 3, .int .u8 142, .int .u8 27, .int .u8 26, .int .u8 167, .int .u8 1, .int .u8 0, .int .u8 0, .int .u8 0, .int .u8 0, .int .u8 0, .int .u8 3, .int .u8 140, .int .u8 93, .int .u8 164, .int .u8 254, .int .u8 2, .int .u8 0, .int .u8 0], .cells 45 5 1 [.int .u8 0, .int .u8 0, .int .u8 0, .int .u8 3, .int .u8 142, .int .u8 27, .int .u8 26, .int .u8 167, .int .u8 1, .int .u8 0, .int .u8 0, .int .u8 0, .int .u8 0, .int .u8 0, .int .u8 3, .int .u8 140, .int .u8 93, .int .u8 164, .int .u8 254, .int .u8 2, .int .u8 0, .int .u8 0]]
  | 16 => [.frm 0, .cells 1 69 1 [.slice (some ⟨3, 0, none⟩) 3 3, .pointer (some ⟨4, 0, none⟩), .slice (some ⟨5, 0, none⟩) 3 3, .slice none 0 0], .cells 2 129 4 [.int .i64 1, .int .i64 1, .int .i64 2, .slice (some ⟨6, 0, none⟩) 12 12, .int .i64 2, .int .i64 1, .int .i64 3, .slice (some ⟨7, 0, none⟩) 12 12], .cells 3 73 2 [.pointer (some ⟨8, 0, none⟩), .pointer (some ⟨9, 0, none⟩), .pointer (some ⟨10, 0, none⟩), .pointer none, .pointer (some ⟨11, 0, none⟩), .pointer (some ⟨12, 0, none⟩)], .cells 4 93 1 [.int .i64 2, .slice (some ⟨13, 0, none⟩) 2 2, .map (some 14), .int .i64 0, .int .i64 13, .int .i64 0, .int .i64 0, .int .i64 0, .int .i64 0, .int .i64 0, .int .i64 0, .int .i64 0, .int .i64 0], .cells 5 3 1 [.int .i64 1, .int .i64 2, .int .i64 3], .cells 6 5 1 [.int .u8 1, .int .u8 1, .int .u8 2, .int .u8 0, .int .u8 1, .int .u8 0, .int .u8 0, .int .u8 0, .int .u8 0, .int .u8 0, .int .u8 0, .int .u8 0], .cells 7 5 1 [.int .u8 1, .int .u8 1, .int .u8 3, .int .u8 0, .int .u8 1, .int .u8 0, .int .u8 0, .int .u8 0, .int .u8 0, .int .u8 0, .int .u8 0, .int .u8 0], .cells 8 96 1 [.int .i64 65536, .map (some 15)], .cells 9 89 1 [.pointer (some ⟨8, 0, none⟩), .int .i64 1, .pointer (some ⟨16, 0, none⟩), .pointer (some ⟨17, 0, none⟩), .pointer (some ⟨18, 0, none⟩), .slice (some ⟨19, 0, none⟩) 3 3, .slice none 0 0, .pointer (some ⟨20, 0, none⟩), .int .i64 0], .cells 10 96 1 [.int .i64 65536, .map (some 21)], .cells 11 96 1 [.int .i64 65536, .map (some 22)], .cells 12 89 1 [.pointer (some ⟨11, 0, none⟩), .int .i64 3, .pointer (some ⟨23, 0, none⟩), .pointer (some ⟨24, 0, none⟩), .pointer (some ⟨25, 0, none⟩), .slice (some ⟨26, 0, none⟩) 3 3, .slice none 0 0, .pointer (some ⟨27, 0, none⟩), .int .i64 0], .cells 13 129 4 [.int .i64 1, .int .i64 1, .int .i64 2, .slice (some ⟨28, 0, none⟩) 12 12, .int .i64 2, .int .i64 1, .int .i64 3, .slice (some ⟨29, 0, none⟩) 12 12], .map 14 (.int2 .i64) [], .map 15 .str [(.string ⟨#[119, 97, 108, 45, 49]⟩, .pointer (some ⟨30, 0, none⟩))], .cells 16 171 1 [.pointer (some ⟨8, 0, none⟩), .int .i64 0, .int .i64 0, .int .i64 0, .int .i64 0, .slice none 0 0, .int .i64 1, .int .i64 22], .cells 17 221 1 [.int .i64 1, .int .i64 0, .int .i64 0, .int .i64 0, .int .i64 0, .slice (some ⟨31, 0, none⟩) 3 3, .slice none 0 0, .slice none 0 0, .slice none 0 0, .int .i64 0, .int .i64 1, .int .i64 0, .int .i64 0, .int .i64 10, .int .i64 10, .slice (some ⟨32, 0, some 0⟩) 1 1, .map (some 33), .int .i64 0, .int .i64 0, .slice none 0 0, .pointer none], .cells 18 161 1 [.int .i64 0, .map (some 34), .map (some 35), .map (some 36)], .cells 19 3 1 [.int .i64 1, .int .i64 2, .int .i64 3], .cells 20 147 1 [.int .i64 0, .slice none 0 0, .slice none 0 0], .map 21 .str [(.string ⟨#[119, 97, 108, 45, 49]⟩, .pointer (some ⟨37, 0, none⟩))], .map 22 .str [(.string ⟨#[119, 97, 108, 45, 49]⟩, .pointer (some ⟨38, 0, none⟩))], .cells 23 171 1 [.pointer (some ⟨11, 0, none⟩), .int .i64 0, .int .i64 0, .int .i64 0, .int .i64 0, .slice none 0 0, .int .i64 1, .int .i64 22], .cells 24 221 1 [.int .i64 3, .int .i64 0, .int .i64 0, .int .i64 0, .int .i64 0, .slice (some ⟨39, 0, none⟩) 3 3, .slice none 0 0, .slice none 0 0, .slice none 0 0, .int .i64 0, .int .i64 0, .int .i64 0, .int .i64 0, .int .i64 19, .int .i64 10, .slice none 0 0, .map none, .int .i64 0, .int .i64 0, .slice none 0 0, .pointer none], .cells 25 161 1 [.int .i64 0, .map (some 40), .map (some 41), .map (some 42)], .cells 26 3 1 [.int .i64 1, .int .i64 2, .int .i64 3], .cells 27 147 1 [.int .i64 0, .slice none 0 0, .slice none 0 0], .cells 28 5 1 [.int .u8 1, .int .u8 1, .int .u8 2, .int .u8 0, .int .u8 1, .int .u8 0, .int .u8 0, .int .u8 0, .int .u8 0, .int .u8 0, .int .u8 0, .int .u8 0], .cells 29 5 1 [.int .u8 1, .int .u8 1, .int .u8 3, .int .u8 0, .int .u8 1, .int .u8 0, .int .u8 0, .int .u8 0, .int .u8 0, .int .u8 0, .int .u8 0, .int .u8 0], .cells 30 248 1 [.slice (some ⟨43, 0, none⟩) 22 22, .slice (some ⟨44, 0, none⟩) 22 22, .bool true, .slice none 0 0], .cells 31 3 1 [.int .i64 1, .int .i64 2, .int .i64 3], .cells 32 3 1 [.int .i64 1], .map 33 (.int .i64) [], .map 34 .str [], .map 35 .str2 [], .map 36 (.int .i64) [], .cells 37 248 1 [.slice (some ⟨45, 0, none⟩) 22 22, .slice (some ⟨46, 0, none⟩) 22 22, .bool true, .slice none 0 0], .cells 38 248 1 [.slice (some ⟨47, 0, none⟩) 22 22, .slice (some ⟨48, 0, none⟩) 22 22, .bool true, .slice none 0 0], .cells 39 3 1 [.int .i64 1, .int .i64 2, .int .i64 3], .map 40 .str [], .map 41 .str2 [], .map 42 (.int .i64) [], .cells 43 5 1 [.int .u8 0, .int .u8 0, .int .u8 0, .int .u8 3, .int .u8 142, .int .u8 27, .int .u8 26, .int .u8 167, .int .u8 1, .int .u8 0, .int .u8 0, .int .u8 0, .int .u8 0, .int .u8 0, .int .u8 3, .int .u8 140, .int .u8 93, .int .u8 164, .int .u8 254, .int .u8 2, .int .u8 0, .int .u8 0], .cells 44 5 1 [.int .u8 0, .int .u8 0, .int .u8 0, .int .u8 3, .int .u8 142, .int .u8 27, .int .u8 26, .int .u8 167, .int .u8 1, .int .u8 0, .int .u8 0, .int .u8 0, .int .u8 0, .int .u8 0, .int .u8 3, .int .u8 140, .int .u8 93, .int .u8 164, .int .u8 254, .int .u8 2, .int .u8 0, .int .u8 0], .cells 45 5 1 [.int .u8 0, .int .u8 0, .int .u8 0, .int .u8 3, .int .u8 142, .int .u8 27, .int .u8 26, .int .u8 167, .int .u8 1, .int .u8 0, .int .u8 0, .int .u8 0, .int .u8 0, .int .u8 0, .int .u8 3, .int .u8 140, .int .u8 93, .int .u8 164, .int .u8 254, .int .u8 2, .int .u8 0, .int .u8 0], .cells 46 5 1 [.int .u8 0, .int .u8 0, .int .u8 0, .int .u8 3, .int .u8 142, .int .u8 27, .int .u8 26, .int .u8 167, .int .u8 1, .int .u8 0, .int .u8 0, .int .u8 0, .int .u8 0, .int .u8 0, .int .u8 3, .int .u8 140, .int .u8 93, .int .u8 164, .int .u8 254, .int .u8 2, .int .u8 0, .int .u8 0], .cells 47 5 1 [.int .u8 0, .int .u8 0, .int .u8 0, .int .u8 3, .int .u8 142, .int .u8 27, .int .u8 26, .int .u8 167, .int .u8 1, .int .u8 0, .int .u8 0, .int .u8 0, .int .u8 0, .int .u8 0, .int .u8 3, .int .u8 140, .int .u8 93, .int .u8 164, .int .u8 254, .int .u8 2, .int .u8 0, .int .u8 0], .cells 48 5 1 [.int .u8 0, .int .u8 0, .int .u8 0, .int .u8 3, .int .u8 142, .int .u8 27, .int .u8 26, .int .u8 167, .int .u8 1, .int .u8 0, .int .u8 0, .int .u8 0, .int .u8 0, .int .u8 0, .int .u8 3, .int .u8 140, .int .u8 93, .int .u8 164, .int .u8 254, .int .u8 2, .int .u8 0, .int .u8 0]]
  | 17 => [.frm 0, .cells 1 69 1 [.slice (some ⟨2, 0, none⟩) 3 3, .pointer (some ⟨3, 0, none⟩), .slice (some ⟨4, 0, none⟩) 3 3, .slice none 0 0], .cells 2 73 2 [.pointer (some ⟨5, 0, none⟩), .pointer (some ⟨6, 0, none⟩), .pointer (some ⟨7, 0, none⟩), .pointer none, .pointer (some ⟨8, 0, none⟩), .pointer (some ⟨9, 0, none⟩)], .cells 3 93 1 [.int .i64 2, .slice (some ⟨10, 0, none⟩) 1 2, .map (some 11), .int .i64 0, .int .i64 13, .int .i64 0, .int .i64 0, .int .i64 0, .int .i64 0, .int .i64 0, .int .i64 0, .int .i64 0, .int .i64 0], .cells 4 3 1 [.int .i64 1, .int .i64 2, .int .i64 3], .cells 5 96 1 [.int .i64 65536, .map (some 12)], .cells 6 89 1 [.pointer (some ⟨5, 0, none⟩), .int .i64 1, .pointer (some ⟨13, 0, none⟩), .pointer (some ⟨14, 0, none⟩), .pointer (some ⟨15, 0, none⟩), .slice (some ⟨16, 0, none⟩) 3 3, .slice none 0 0, .pointer (some ⟨17, 0, none⟩), .int .i64 0], .cells 7 96 1 [.int .i64 65536, .map (some 18)], .cells 8 96 1 [.int .i64 65536, .map (some 19)], .cells 9 89 1 [.pointer (some ⟨8, 0, none⟩), .int .i64 3, .pointer (some ⟨20, 0, none⟩), .pointer (some ⟨21, 0, none⟩), .pointer (some ⟨22, 0, none⟩), .slice (some ⟨23, 0, none⟩) 3 3, .slice none 0 0, .pointer (some ⟨24, 0, none⟩), .int .i64 0], .cells 10 129 4 [.int .i64 2, .int .i64 1, .int .i64 3, .slice (some ⟨25, 0, none⟩) 12 12, .int .i64 0, .int .i64 0, .int .i64 0, .slice none 0 0], .map 11 (.int2 .i64) [], .map 12 .str [(.string ⟨#[119, 97, 108, 45, 49]⟩, .pointer (some ⟨26, 0, none⟩))], .cells 13 171 1 [.pointer (some ⟨5, 0, none⟩), .int .i64 0, .int .i64 0, .int .i64 0, .int .i64 0, .slice none 0 0, .int .i64 1, .int .i64 22], .cells 14 221 1 [.int .i64 1, .int .i64 0, .int .i64 0, .int .i64 0, .int .i64 0, .slice (some ⟨27, 0, none⟩) 3 3, .slice none 0 0, .slice none 0 0, .slice none 0 0, .int .i64 0, .int .i64 1, .int .i64 0, .int .i64 0, .int .i64 10, .int .i64 10, .slice (some ⟨28, 0, some 0⟩) 1 1, .map (some 29), .int .i64 0, .int .i64 0, .slice none 0 0, .pointer none], .cells 15 161 1 [.int .i64 0, .map (some 30), .map (some 31), .map (some 32)], .cells 16 3 1 [.int .i64 1, .int .i64 2, .int .i64 3], .cells 17 147 1 [.int .i64 0, .slice none 0 0, .slice none 0 0], .map 18 .str [(.string ⟨#[119, 97, 108, 45, 49]⟩, .pointer (some ⟨33, 0, none⟩))], .map 19 .str [(.string ⟨#[119, 97, 108, 45, 49]⟩, .pointer (some ⟨34, 0, none⟩))], .cells 20 171 1 [.pointer (some ⟨8, 0, none⟩), .int .i64 0, .int .i64 0, .int .i64 0, .int .i64 0, .slice none 0 0, .int .i64 1, .int .i64 22], .cells 21 221 1 [.int .i64 3, .int .i64 0, .int .i64 0, .int .i64 0, .int .i64 0, .slice (some ⟨35, 0, none⟩) 3 3, .slice none 0 0, .slice none 0 0, .slice none 0 0, .int .i64 0, .int .i64 0, .int .i64 0, .int .i64 0, .int .i64 19, .int .i64 10, .slice none 0 0, .map none, .int .i64 0, .int .i64 0, .slice none 0 0, .pointer none], .cells 22 161 1 [.int .i64 0, .map (some 36), .map (some 37), .map (some 38)], .cells 23 3 1 [.int .i64 1, .int .i64 2, .int .i64 3], .cells 24 147 1 [.int .i64 0, .slice none 0 0, .slice none 0 0], .cells 25 5 1 [.int .u8 1, .int .u8 1, .int .u8 3, .int .u8 0, .int .u8 1, .int .u8 0, .int .u8 0, .int .u8 0, .int .u8 0, .int .u8 0, .int .u8 0, .int .u8 0], .cells 26 248 1 [.slice (some ⟨39, 0, none⟩) 22 22, .slice (some ⟨40, 0, none⟩) 22 22, .bool true, .slice none 0 0], .cells 27 3 1 [.int .i64 1, .int .i64 2, .int .i64 3], .cells 28 3 1 [.int .i64 1], .map 29 (.int .i64) [], .map 30 .str [], .map 31 .str2 [], .map 32 (.int .i64) [], .cells 33 248 1 [.slice (some ⟨41, 0, none⟩) 22 22, .slice (some ⟨42, 0, none⟩) 22 22, .bool true, .slice none 0 0], .cells 34 248 1 [.slice (some ⟨43, 0, none⟩) 22 22, .slice (some ⟨44, 0, none⟩) 22 22, .bool true, .slice none 0 0], .cells 35 3 1 [.int .i64 1, .int .i64 2, .int .i64 3], .map 36 .str [], .map 37 .str2 [], .map 38 (.int .i64) [], .cells 39 5 1 [.int .u8 0, .int .u8 0, .int .u8 0, .int .u8 3, .int .u8 142, .int .u8 27, .int .u8 26, .int .u8 167, .int .u8 1, .int .u8 0, .int .u8 0, .int .u8 0, .int .u8 0, .int .u8 0, .int .u8 3, .int .u8 140, .int .u8 93, .int .u8 164, .int .u8 254, .int .u8 2, .int .u8 0, .int .u8 0], .cells 40 5 1 [.int .u8 0, .int .u8 0, .int .u8 0, .int .u8 3, .int .u8 142, .int .u8 27, .int .u8 26, .int .u8 167, .int .u8 1, .int .u8 0, .int .u8 0, .int .u8 0, .int .u8 0, .int .u8 0, .int .u8 3, .int .u8 140, .int .u8 93, .int .u8 164, .int .u8 254, .int .u8 2, .int .u8 0, .int .u8 0], .cells 41 5 1 [.int .u8 0, .int .u8 0, .int .u8 0, .int .u8 3, .int .u8 142, .int .u8 27, .int .u8 26, .int .u8 167, .int .u8 1, .int .u8 0, .int .u8 0, .int .u8 0, .int .u8 0, .int .u8 0, .int .u8 3, .int .u8 140, .int .u8 93, .int .u8 164, .int .u8 254, .int .u8 2, .int .u8 0, .int .u8 0], .cells 42 5 1 [.int .u8 0, .int .u8 0, .int .u8 0, .int .u8 3, .int .u8 142, .int .u8 27, .int .u8 26, .int .u8 167, .int .u8 1, .int .u8 0, .int .u8 0, .int .u8 0, .int .u8 0, .int .u8 0, .int .u8 3, .int .u8 140, .int .u8 93, .int .u8 164, .int .u8 254, .int .u8 2, .int .u8 0, .int .u8 0], .cells 43 5 1 [.int .u8 0, .int .u8 0, .int .u8 0, .int .u8 3, .int .u8 142, .int .u8 27, .int .u8 26, .int .u8 167, .int .u8 1, .int .u8 0, .int .u8 0, .int .u8 0, .int .u8 0, .int .u8 0, .int .u8 3, .int .u8 140, .int .u8 93, .int .u8 164, .int .u8 254, .int .u8 2, .int .u8 0, .int .u8 0], .cells 44 5 1 [.int .u8 0, .int .u8 0, .int .u8 0, .int .u8 3, .int .u8 142, .int .u8 27, .int .u8 26, .int .u8 167, .int .u8 1, .int .u8 0, .int .u8 0, .int .u8 0, .int .u8 0, .int .u8 0, .int .u8 3, .int .u8 140, .int .u8 93, .int .u8 164, .int .u8 254, .int .u8 2, .int .u8 0, .int .u8 0]]
  | 18 => [.frm 0, .cells 1 69 1 [.slice (some ⟨2, 0, none⟩) 3 3, .pointer (some ⟨3, 0, none⟩), .slice (some ⟨4, 0, none⟩) 3 3, .slice none 0 0], .cells 2 73 2 [.pointer (some ⟨5, 0, none⟩), .pointer (some ⟨6, 0, none⟩), .pointer (some ⟨7, 0, none⟩), .pointer none, .pointer (some ⟨8, 0, none⟩), .pointer (some ⟨9, 0, none⟩)], .cells 3 93 1 [.int .i64 2, .slice (some ⟨10, 0, none⟩) 1 2, .map (some 11), .int .i64 0, .int .i64 13, .int .i64 0, .int .i64 0, .int .i64 0, .int .i64 0, .int .i64 0, .int .i64 0, .int .i64 0, .int .i64 0], .cells 4 3 1 [.int .i64 1, .int .i64 2, .int .i64 3], .cells 5 96 1 [.int .i64 65536, .map (some 12)], .cells 6 89 1 [.pointer (some ⟨5, 0, none⟩), .int .i64 1, .pointer (some ⟨13, 0, none⟩), .pointer (some ⟨14, 0, none⟩), .pointer (some ⟨15, 0, none⟩), .slice (some ⟨16, 0, none⟩) 3 3, .slice none 0 0, .pointer (some ⟨17, 0, none⟩), .int .i64 0], .cells 7 96 1 [.int .i64 65536, .map (some 18)], .cells 8 96 1 [.int .i64 65536, .map (some 19)], .cells 9 89 1 [.pointer (some ⟨8, 0, none⟩), .int .i64 3, .pointer (some ⟨20, 0, none⟩), .pointer (some ⟨21, 0, none⟩), .pointer (some ⟨22, 0, none⟩), .slice (some ⟨23, 0, none⟩) 3 3, .slice none 0 0, .pointer (some ⟨24, 0, none⟩), .int .i64 0], .cells 10 129 4 [.int .i64 2, .int .i64 1, .int .i64 3, .slice (some ⟨25, 0, none⟩) 12 12, .int .i64 0, .int .i64 0, .int .i64 0, .slice none 0 0], .map 11 (.int2 .i64) [], .map 12 .str [(.string ⟨#[119, 97, 108, 45, 49]⟩, .pointer (some ⟨26, 0, none⟩))], .cells 13 171 1 [.pointer (some ⟨5, 0, none⟩), .int .i64 0, .int .i64 0, .int .i64 0, .int .i64 0, .slice none 0 0, .int .i64 1, .int .i64 22], .cells 14 221 1 [.int .i64 1, .int .i64 0, .int .i64 0, .int .i64 0, .int .i64 0, .slice (some ⟨27, 0, none⟩) 3 3, .slice none 0 0, .slice none 0 0, .slice none 0 0, .int .i64 0, .int .i64 1, .int .i64 0, .int .i64 0, .int .i64 10, .int .i64 10, .slice (some ⟨28, 0, some 0⟩) 1 1, .map (some 29), .int .i64 0, .int .i64 0, .slice none 0 0, .pointer none], .cells 15 161 1 [.int .i64 0, .map (some 30), .map (some 31), .map (some 32)], .cells 16 3 1 [.int .i64 1, .int .i64 2, .int .i64 3], .cells 17 147 1 [.int .i64 0, .slice none 0 0, .slice none 0 0], .map 18 .str [(.string ⟨#[119, 97, 108, 45, 49]⟩, .pointer (some ⟨33, 0, none⟩))], .map 19 .str [(.string ⟨#[119, 97, 108, 45, 49]⟩, .pointer (some ⟨34, 0, none⟩))], .cells 20 171 1 [.pointer (some ⟨8, 0, none⟩), .int .i64 0, .int .i64 0, .int .i64 0, .int .i64 0, .slice none 0 0, .int .i64 1, .int .i64 22], .cells 21 221 1 [.int .i64 3, .int .i64 0, .int .i64 0, .int .i64 0, .int .i64 0, .slice (some ⟨35, 0, none⟩) 3 3, .slice none 0 0, .slice none 0 0, .slice none 0 0, .int .i64 0, .int .i64 0, .int .i64 0, .int .i64 0, .int .i64 19, .int .i64 10, .slice none 0 0, .map none, .int .i64 0, .int .i64 0, .slice none 0 0, .pointer none], .cells 22 161 1 [.int .i64 0, .map (some 36), .map (some 37), .map (some 38)], .cells 23 3 1 [.int .i64 1, .int .i64 2, .int .i64 3], .cells 24 147 1 [.int .i64 0, .slice none 0 0, .slice none 0 0], .cells 25 5 1 [.int .u8 1, .int .u8 1, .int .u8 3, .int .u8 0, .int .u8 1, .int .u8 0, .int .u8 0, .int .u8 0, .int .u8 0, .int .u8 0, .int .u8 0, .int .u8 0], .cells 26 248 1 [.slice (some ⟨39, 0, none⟩) 22 22, .slice (some ⟨40, 0, none⟩) 22 22, .bool true, .slice none 0 0], .cells 27 3 1 [.int .i64 1, .int .i64 2, .int .i64 3], .cells 28 3 1 [.int .i64 1], .map 29 (.int .i64) [], .map 30 .str [], .map 31 .str2 [], .map 32 (.int .i64) [], .cells 33 248 1 [.slice (some ⟨41, 0, none⟩) 22 22, .slice (some ⟨42, 0, none⟩) 22 22, .bool true, .slice none 0 0], .cells 34 248 1 [.slice (some ⟨43, 0, none⟩) 22 22, .slice (some ⟨44, 0, none⟩) 22 22, .bool true, .slice none 0 0], .cells 35 3 1 [.int .i64 1, .int .i64 2, .int .i64 3], .map 36 .str [], .map 37 .str2 [], .map 38 (.int .i64) [], .cells 39 5 1 [.int .u8 0, .int .u8 0, .int .u8 0, .int .u8 3, .int .u8 142, .int .u8 27, .int .u8 26, .int .u8 167, .int .u8 1, .int .u8 0, .int .u8 0, .int .u8 0, .int .u8 0, .int .u8 0, .int .u8 3, .int .u8 140, .int .u8 93, .int .u8 164, .int .u8 254, .int .u8 2, .int .u8 0, .int .u8 0], .cells 40 5 1 [.int .u8 0, .int .u8 0, .int .u8 0, .int .u8 3, .int .u8 142, .int .u8 27, .int .u8 26, .int .u8 167, .int .u8 1, .int .u8 0, .int .u8 0, .int .u8 0, .int .u8 0, .int .u8 0, .int .u8 3, .int .u8 140, .int .u8 93, .int .u8 164, .int .u8 254, .int .u8 2, .int .u8 0, .int .u8 0], .cells 41 5 1 [.int .u8 0, .int .u8 0, .int .u8 0, .int .u8 3, .int .u8 142, .int .u8 27, .int .u8 26, .int .u8 167, .int .u8 1, .int .u8 0, .int .u8 0, .int .u8 0, .int .u8 0, .int .u8 0, .int .u8 3, .int .u8 140, .int .u8 93, .int .u8 164, .int .u8 254, .int .u8 2, .int .u8 0, .int .u8 0], .cells 42 5 1 [.int .u8 0, .int .u8 0, .int .u8 0, .int .u8 3, .int .u8 142, .int .u8 27, .int .u8 26, .int .u8 167, .int .u8 1, .int .u8 0, .int .u8 0, .int .u8 0, .int .u8 0, .int .u8 0, .int .u8 3, .int .u8 140, .int .u8 93, .int .u8 164, .int .u8 254, .int .u8 2, .int .u8 0, .int .u8 0], .cells 43 5 1 [.int .u8 0, .int .u8 0, .int .u8 0, .int .u8 3, .int .u8 142, .int .u8 27, .int .u8 26, .int .u8 167, .int .u8 1, .int .u8 0, .int .u8 0, .int .u8 0, .int .u8 0, .int .u8 0, .int .u8 3, .int .u8 140, .int .u8 93, .int .u8 164, .int .u8 254, .int .u8 2, .int .u8 0, .int .u8 0], .cells 44 5 1 [.int .u8 0, .int .u8 0, .int .u8 0, .int .u8 3, .int .u8 142, .int .u8 27, .int .u8 26, .int .u8 167, .int .u8 1, .int .u8 0, .int .u8 0, .int .u8 0, .int .u8 0, .int .u8 0, .int .u8 3, .int .u8 140, .int .u8 93, .int .u8 164, .int .u8 254, .int .u8 2, .int .u8 0, .int .u8 0]]
  | 19 => [.frm 0, .cells 1 69 1 [.slice (some ⟨2, 0, none⟩) 3 3, .pointer (some ⟨3, 0, none⟩), .slice (some ⟨4, 0, none⟩) 3 3, .slice none 0 0], .cells 2 73 2 [.pointer (some ⟨5, 0, none⟩), .pointer (some ⟨6, 0, none⟩), .pointer (some ⟨7, 0, none⟩), .pointer none, .pointer (some ⟨8, 0, none⟩), .pointer (some ⟨9, 0, none⟩)], .cells 3 93 1 [.int .i64 2, .slice (some ⟨10, 0, none⟩) 1 2, .map (some 11), .int .i64 0, .int .i64 13, .int .i64 0, .int .i64 0, .int .i64 0, .int .i64 0, .int .i64 0, .int .i64 0, .int .i64 0, .int .i64 0], .cells 4 3 1 [.int .i64 1, .int .i64 2, .int .i64 3], .cells 5 96 1 [.int .i64 65536, .map (some 12)], .cells 6 89 1 [.pointer (some ⟨5, 0, none⟩), .int .i64 1, .pointer (some ⟨13, 0, none⟩), .pointer (some ⟨14, 0, none⟩), .pointer (some ⟨15, 0, none⟩), .slice (some ⟨16, 0, none⟩) 3 3, .slice none 0 0, .pointer (some ⟨17, 0, none⟩), .int .i64 0], .cells 7 96 1 [.int .i64 65536, .map (some 18)], .cells 8 96 1 [.int .i64 65536, .map (some 19)], .cells 9 89 1 [.pointer (some ⟨8, 0, none⟩), .int .i64 3, .pointer (some ⟨20, 0, none⟩), .pointer (some ⟨21, 0, none⟩), .pointer (some ⟨22, 0, none⟩), .slice (some ⟨23, 0, none⟩) 3 3, .slice none 0 0, .pointer (some ⟨24, 0, none⟩), .int .i64 0], .cells 10 129 4 [.int .i64 2, .int .i64 1, .int .i64 3, .slice (some ⟨25, 0, none⟩) 12 12, .int .i64 0, .int .i64 0, .int .i64 0, .slice none 0 0], .map 11 (.int2 .i64) [], .map 12 .str [(.string ⟨#[119, 97, 108, 45, 49]⟩, .pointer (some ⟨26, 0, none⟩))], .cells 13 171 1 [.pointer (some ⟨5, 0, none⟩), .int .i64 0, .int .i64 0, .int .i64 0, .int .i64 0, .slice none 0 0, .int .i64 1, .int .i64 22], .cells 14 221 1 [.int .i64 1, .int .i64 0, .int .i64 0, .int .i64 0, .int .i64 0, .slice (some ⟨27, 0, none⟩) 3 3, .slice none 0 0, .slice none 0 0, .slice none 0 0, .int .i64 0, .int .i64 1, .int .i64 0, .int .i64 0, .int .i64 10, .int .i64 10, .slice (some ⟨28, 0, some 0⟩) 1 1, .map (some 29), .int .i64 0, .int .i64 0, .slice none 0 0, .pointer none], .cells 15 161 1 [.int .i64 0, .map (some 30), .map (some 31), .map (some 32)], .cells 16 3 1 [.int .i64 1, .int .i64 2, .int .i64 3], .cells 17 147 1 [.int .i64 0, .slice none 0 0, .slice none 0 0], .map 18 .str [(.string ⟨#[119, 97, 108, 45, 49]⟩, .pointer (some ⟨33, 0, none⟩))], .map 19 .str [(.string ⟨#[119, 97, 108, 45, 49]⟩, .pointer (some ⟨34, 0, none⟩))], .cells 20 171 1 [.pointer (some ⟨8, 0, none⟩), .int .i64 0, .int .i64 0, .int .i64 0, .int .i64 0, .slice none 0 0, .int .i64 1, .int .i64 22], .cells 21 221 1 [.int .i64 3, .int .i64 0, .int .i64 0, .int .i64 0, .int .i64 0, .slice (some ⟨35, 0, none⟩) 3 3, .slice none 0 0, .slice none 0 0, .slice none 0 0, .int .i64 0, .int .i64 0, .int .i64 0, .int .i64 0, .int .i64 19, .int .i64 10, .slice none 0 0, .map none, .int .i64 0, .int .i64 0, .slice none 0 0, .pointer none], .cells 22 161 1 [.int .i64 0, .map (some 36), .map (some 37), .map (some 38)], .cells 23 3 1 [.int .i64 1, .int .i64 2, .int .i64 3], .cells 24 147 1 [.int .i64 0, .slice none 0 0, .slice none 0 0], .cells 25 5 1 [.int .u8 1, .int .u8 1, .int .u8 3, .int .u8 0, .int .u8 1, .int .u8 0, .int .u8 0, .int .u8 0, .int .u8 0, .int .u8 0, .int .u8 0, .int .u8 0], .cells 26 248 1 [.slice (some ⟨39, 0, none⟩) 22 22, .slice (some ⟨40, 0, none⟩) 22 22, .bool true, .slice none 0 0], .cells 27 3 1 [.int .i64 1, .int .i64 2, .int .i64 3], .cells 28 3 1 [.int .i64 1], .map 29 (.int .i64) [], .map 30 .str [], .map 31 .str2 [], .map 32 (.int .i64) [], .cells 33 248 1 [.slice (some ⟨41, 0, none⟩) 22 22, .slice (some ⟨42, 0, none⟩) 22 22, .bool true, .slice none 0 0], .cells 34 248 1 [.slice (some ⟨43, 0, none⟩) 22 22, .slice (some ⟨44, 0, none⟩) 22 22, .bool true, .slice none 0 0], .cells 35 3 1 [.int .i64 1, .int .i64 2, .int .i64 3], .map 36 .str [], .map 37 .str2 [], .map 38 (.int .i64) [], .cells 39 5 1 [.int .u8 0, .int .u8 0, .int .u8 0, .int .u8 3, .int .u8 142, .int .u8 27, .int .u8 26, .int .u8 167, .int .u8 1, .int .u8 0, .int .u8 0, .int .u8 0, .int .u8 0, .int .u8 0, .int .u8 3, .int .u8 140, .int .u8 93, .int .u8 164, .int .u8 254, .int .u8 2, .int .u8 0, .int .u8 0], .cells 40 5 1 [.int .u8 0, .int .u8 0, .int .u8 0, .int .u8 3, .int .u8 142, .int .u8 27, .int .u8 26, .int .u8 167, .int .u8 1, .int .u8 0, .int .u8 0, .int .u8 0, .int .u8 0, .int .u8 0, .int .u8 3, .int .u8 140, .int .u8 93, .int .u8 164, .int .u8 254, .int .u8 2, .int .u8 0, .int .u8 0], .cells 41 5 1 [.int .u8 0, .int .u8 0, .int .u8 0, .int .u8 3, .int .u8 142, .int .u8 27, .int .u8 26, .int .u8 167, .int .u8 1, .int .u8 0, .int .u8 0, .int .u8 0, .int .u8 0, .int .u8 0, .int .u8 3, .int .u8 140, .int .u8 93, .int .u8 164, .int .u8 254, .int .u8 2, .int .u8 0, .int .u8 0], .cells 42 5 1 [.int .u8 0, .int .u8 0, .int .u8 0, .int .u8 3, .int .u8 142, .int .u8 27, .int .u8 26, .int .u8 167, .int .u8 1, .int .u8 0, .int .u8 0, .int .u8 0, .int .u8 0, .int .u8 0, .int .u8 3, .int .u8 140, .int .u8 93, .int .u8 164, .int .u8 254, .int .u8 2, .int .u8 0, .int .u8 0], .cells 43 5 1 [.int .u8 0, .int .u8 0, .int .u8 0, .int .u8 3, .int .u8 142, .int .u8 27, .int .u8 26, .int .u8 167, .int .u8 1, .int .u8 0, .int .u8 0, .int .u8 0, .int .u8 0, .int .u8 0, .int .u8 3, .int .u8 140, .int .u8 93, .int .u8 164, .int .u8 254, .int .u8 2, .int .u8 0, .int .u8 0], .cells 44 5 1 [.int .u8 0, .int .u8 0, .int .u8 0, .int .u8 3, .int .u8 142, .int .u8 27, .int .u8 26, .int .u8 167, .int .u8 1, .int .u8 0, .int .u8 0, .int .u8 0, .int .u8 0, .int .u8 0, .int .u8 3, .int .u8 140, .int .u8 93, .int .u8 164, .int .u8 254, .int .u8 2, .int .u8 0, .int .u8 0]]
  | 20 => [.frm 0, .cells 1 69 1 [.slice (some ⟨2, 0, none⟩) 3 3, .pointer (some ⟨3, 0, none⟩), .slice (some ⟨4, 0, none⟩) 3 3, .slice none 0 0], .cells 2 73 2 [.pointer (some ⟨5, 0, none⟩), .pointer (some ⟨6, 0, none⟩), .pointer (some ⟨7, 0, none⟩), .pointer none, .pointer (some ⟨8, 0, none⟩), .pointer (some ⟨9, 0, none⟩)], .cells 3 93 1 [.int .i64 2, .slice (some ⟨10, 0, none⟩) 1 2, .map (some 11), .int .i64 0, .int .i64 13, .int .i64 0, .int .i64 0, .int .i64 0, .int .i64 0, .int .i64 0, .int .i64 0, .int .i64 0, .int .i64 0], .cells 4 3 1 [.int .i64 1, .int .i64 2, .int .i64 3], .cells 5 96 1 [.int .i64 65536, .map (some 12)], .cells 6 89 1 [.pointer (some ⟨5, 0, none⟩), .int .i64 1, .pointer (some ⟨13, 0, none⟩), .pointer (some ⟨14, 0, none⟩), .pointer (some ⟨15, 0, none⟩), .slice (some ⟨16, 0, none⟩) 3 3, .slice none 0 0, .pointer (some ⟨17, 0, none⟩), .int .i64 0], .cells 7 96 1 [.int .i64 65536, .map (some 18)], .cells 8 96 1 [.int .i64 65536, .map (some 19)], .cells 9 89 1 [.pointer (some ⟨8, 0, none⟩), .int .i64 3, .pointer (some ⟨20, 0, none⟩), .pointer (some ⟨21, 0, none⟩), .pointer (some ⟨22, 0, none⟩), .slice (some ⟨23, 0, none⟩) 3 3, .slice none 0 0, .pointer (some ⟨24, 0, none⟩), .int .i64 0], .cells 10 129 4 [.int .i64 2, .int .i64 1, .int .i64 3, .slice (some ⟨25, 0, none⟩) 12 12, .int .i64 0, .int .i64 0, .int .i64 0, .slice none 0 0], .map 11 (.int2 .i64) [], .map 12 .str [(.string ⟨#[119, 97, 108, 45, 49]⟩, .pointer (some ⟨26, 0, none⟩))], .cells 13 171 1 [.pointer (some ⟨5, 0, none⟩), .int .i64 0, .int .i64 0, .int .i64 0, .int .i64 0, .slice none 0 0, .int .i64 1, .int .i64 22], .cells 14 221 1 [.int .i64 1, .int .i64 0, .int .i64 0, .int .i64 0, .int .i64 0, .slice (some ⟨27, 0, none⟩) 3 3, .slice none 0 0, .slice none 0 0, .slice none 0 0, .int .i64 0, .int .i64 1, .int .i64 0, .int .i64 0, .int .i64 10, .int .i64 10, .slice (some ⟨28, 0, some 0⟩) 1 1, .map (some 29), .int .i64 0, .int .i64 0, .slice none 0 0, .pointer none], .cells 15 161 1 [.int .i64 0, .map (some 30), .map (some 31), .map (some 32)], .cells 16 3 1 [.int .i64 1, .int .i64 2, .int .i64 3], .cells 17 147 1 [.int .i64 0, .slice none 0 0, .slice none 0 0], .map 18 .str [(.string ⟨#[119, 97, 108, 45, 49]⟩, .pointer (some ⟨33, 0, none⟩))], .map 19 .str [(.string ⟨#[119, 97, 108, 45, 49]⟩, .pointer (some ⟨34, 0, none⟩))], .cells 20 171 1 [.pointer (some ⟨8, 0, none⟩), .int .i64 0, .int .i64 0, .int .i64 0, .int .i64 0, .slice none 0 0, .int .i64 1, .int .i64 22], .cells 21 221 1 [.int .i64 3, .int .i64 0, .int .i64 0, .int .i64 0, .int .i64 0, .slice (some ⟨35, 0, none⟩) 3 3, .slice none 0 0, .slice none 0 0, .slice none 0 0, .int .i64 0, .int .i64 0, .int .i64 0, .int .i64 0, .int .i64 19, .int .i64 10, .slice none 0 0, .map none, .int .i64 0, .int .i64 0, .slice none 0 0, .pointer none], .cells 22 161 1 [.int .i64 0, .map (some 36), .map (some 37), .map (some 38)], .cells 23 3 1 [.int .i64 1, .int .i64 2, .int .i64 3], .cells 24 147 1 [.int .i64 0, .slice none 0 0, .slice none 0 0], .cells 25 5 1 [.int .u8 1, .int .u8 1, .int .u8 3, .int .u8 0, .int .u8 1, .int .u8 0, .int .u8 0, .int .u8 0, .int .u8 0, .int .u8 0, .int .u8 0, .int .u8 0], .cells 26 248 1 [.slice (some ⟨39, 0, none⟩) 22 22, .slice (some ⟨40, 0, none⟩) 22 22, .bool true, .slice none 0 0], .cells 27 3 1 [.int .i64 1, .int .i64 2, .int .i64 3], .cells 28 3 1 [.int .i64 1], .map 29 (.int .i64) [], .map 30 .str [], .map 31 .str2 [], .map 32 (.int .i64) [], .cells 33 248 1 [.slice (some ⟨41, 0, none⟩) 22 22, .slice (some ⟨42, 0, none⟩) 22 22, .bool true, .slice none 0 0], .cells 34 248 1 [.slice (some ⟨43, 0, none⟩) 22 22, .slice (some ⟨44, 0, none⟩) 22 22, .bool true, .slice none 0 0], .cells 35 3 1 [.int .i64 1, .int .i64 2, .int .i64 3], .map 36 .str [], .map 37 .str2 [], .map 38 (.int .i64) [], .cells 39 5 1 [.int .u8 0, .int .u8 0, .int .u8 0, .int .u8 3, .int .u8 142, .int .u8 27, .int .u8 26, .int .u8 167, .int .u8 1, .int .u8 0, .int .u8 0, .int .u8 0, .int .u8 0, .int .u8 0, .int .u8 3, .int .u8 140, .int .u8 93, .int .u8 164, .int .u8 254, .int .u8 2, .int .u8 0, .int .u8 0], .cells 40 5 1 [.int .u8 0, .int .u8 0, .int .u8 0, .int .u8 3, .int .u8 142, .int .u8 27, .int .u8 26, .int .u8 167, .int .u8 1, .int .u8 0, .int .u8 0, .int .u8 0, .int .u8 0, .int .u8 0, .int .u8 3, .int .u8 140, .int .u8 93, .int .u8 164, .int .u8 254, .int .u8 2, .int .u8 0, .int .u8 0], .cells 41 5 1 [.int .u8 0, .int .u8 0, .int .u8 0, .int .u8 3, .int .u8 142, .int .u8 27, .int .u8 26, .int .u8 167, .int .u8 1, .int .u8 0, .int .u8 0, .int .u8 0, .int .u8 0, .int .u8 0, .int .u8 3, .int .u8 140, .int .u8 93, .int .u8 164, .int .u8 254, .int .u8 2, .int .u8 0, .int .u8 0], .cells 42 5 1 [.int .u8 0, .int .u8 0, .int .u8 0, .int .u8 3, .int .u8 142, .int .u8 27, .int .u8 26, .int .u8 167, .int .u8 1, .int .u8 0, .int .u8 0, .int .u8 0, .int .u8 0, .int .u8 0, .int .u8 3, .int .u8 140, .int .u8 93, .int .u8 164, .int .u8 254, .int .u8 2, .int .u8 0, .int .u8 0], .cells 43 5 1 [.int .u8 0, .int .u8 0, .int .u8 0, .int .u8 3, .int .u8 142, .int .u8 27, .int .u8 26, .int .u8 167, .int .u8 1, .int .u8 0, .int .u8 0, .int .u8 0, .int .u8 0, .int .u8 0, .int .u8 3, .int .u8 140, .int .u8 93, .int .u8 164, .int .u8 254, .int .u8 2, .int .u8 0, .int .u8 0], .cells 44 5 1 [.int .u8 0, .int .u8 0, .int .u8 0, .int .u8 3, .int .u8 142, .int .u8 27, .int .u8 26, .int .u8 167, .int .u8 1, .int .u8 0, .int .u8 0, .int .u8 0, .int .u8 0, .int .u8 0, .int .u8 3, .int .u8 140, .int .u8 93, .int .u8 164, .int .u8 254, .int .u8 2, .int .u8 0, .int .u8 0]]
  | _ => []
def kT : Nat → List (List Nat)
  | 0 => [[0, 3, 195, 2, 7, 9, 20, 103, 114, 1, 8, 24, 94, 18, 14, 19, 102, 118, 188, 112, 108, 113, 48, 93, 15, 16, 17, 142, 187, 109, 110, 111, 50, 76, 144, 170]]
  | 1 => [[0, 3, 291, 2, 9, 11, 22, 105, 116, 199, 210, 1, 10, 26, 96, 20, 16, 21, 104, 120, 190, 114, 110, 115, 198, 214, 284, 208, 204, 209, 50, 95, 17, 18, 19, 144, 189, 111, 112, 113, 238, 283, 205, 206, 207, 52, 78, 146, 172, 240, 266]]
  | 2 => [[0, 1, 2, 3, 4, 5, 6, 7, 8, 9, 10, 11, 12, 13, 62, 15, 16, 17, 18, 19, 20, 21, 22, 23, 24, 25, 26, 27, 28, 29, 30, 31, 63, 32, 33, 34, 35, 36, 37, 38, 39, 40, 41, 42, 43, 44, 45, 87, 47, 48, 49, 50]]
  | 3 => [[0, 1, 2, 3, 4, 5, 6, 7, 8, 9, 10, 11, 12, 13, 63, 15, 16, 17, 18, 19, 20, 21, 22, 23, 24, 25, 26, 27, 28, 29, 30, 31, 64, 33, 34, 35, 36, 37, 38, 39, 40, 41, 42, 43, 44, 45, 46, 88, 48, 49, 50, 51]]
  | 4 => [[0, 1, 2, 3, 4, 5, 6, 7, 8, 9, 10, 11, 12, 13, 63, 15, 16, 17, 18, 19, 20, 21, 22, 23, 24, 25, 26, 27, 28, 29, 30, 31, 64, 33, 34, 35, 36, 37, 38, 39, 40, 41, 42, 43, 44, 45, 46, 88, 48, 49, 50, 51]]
  | 5 => [[0, 1, 2, 3, 4, 5, 6, 7, 8, 9, 10, 11, 12, 13, 63, 15, 16, 17, 18, 19, 20, 21, 22, 23, 24, 25, 26, 27, 28, 29, 30, 31, 64, 33, 34, 35, 36, 37, 38, 39, 40, 41, 42, 43, 44, 45, 46, 88, 48, 49, 50, 51]]
  | 6 => [[0, 1, 2, 3, 4, 5, 6, 7, 8, 9, 10, 11, 12, 13, 63, 15, 16, 17, 18, 19, 20, 21, 22, 23, 24, 25, 26, 27, 28, 29, 30, 31, 64, 33, 34, 35, 36, 37, 38, 39, 40, 41, 42, 43, 44, 45, 46, 88, 48, 49, 50, 51]]
  | 7 => [[0, 1, 2, 3, 4, 5, 6, 7, 8, 9, 10, 11, 12, 13, 63, 15, 16, 17, 18, 19, 20, 21, 22, 23, 24, 25, 26, 27, 28, 29, 30, 31, 64, 33, 34, 35, 36, 37, 38, 39, 40, 41, 42, 43, 44, 45, 46, 88, 48, 49, 50, 51]]
  | 8 => [[0, 1, 2, 3, 4, 5, 6, 7, 8, 9, 10, 11, 12, 13, 63, 15, 16, 17, 18, 19, 20, 21, 22, 23, 24, 25, 26, 27, 28, 29, 30, 31, 64, 33, 34, 35, 36, 37, 38, 39, 40, 41, 42, 43, 44, 45, 46, 88, 48, 49, 50, 51]]
  | 9 => [[0, 1, 2, 3, 4, 5, 6, 7, 8, 9, 10, 11, 12, 13, 63, 15, 16, 17, 18, 19, 20, 21, 22, 23, 24, 25, 26, 27, 28, 29, 30, 31, 64, 33, 34, 35, 36, 37, 38, 39, 40, 41, 42, 43, 44, 45, 46, 88, 48, 49, 50, 51]]
  | 10 => [[0, 1, 2, 3, 4, 5, 6, 7, 8, 9, 10, 11, 12, 13, 63, 15, 16, 17, 18, 19, 20, 21, 22, 23, 24, 25, 26, 27, 28, 29, 30, 31, 64, 33, 34, 35, 36, 37, 38, 39, 40, 41, 42, 43, 44, 45, 46, 88, 48, 49, 50, 51]]
  | 11 => [[0, 1, 2, 3, 4, 5, 6, 7, 8, 9, 10, 11, 12, 13, 63, 15, 16, 17, 18, 19, 20, 21, 22, 23, 24, 25, 26, 27, 28, 29, 30, 31, 64, 33, 34, 35, 36, 37, 38, 39, 40, 41, 42, 43, 44, 45, 46, 88, 48, 49, 50, 51]]
  | 12 => [[0, 1, 2, 3, 4, 5, 6, 7, 8, 9, 10, 11, 12, 13, 63, 15, 16, 17, 18, 19, 20, 21, 22, 23, 24, 25, 26, 27, 28, 29, 30, 31, 64, 33, 34, 35, 36, 37, 38, 39, 40, 41, 42, 43, 44, 45, 46, 88, 48, 49, 50, 51]]
  | 13 => [[0, 1, 2, 3, 4, 5, 6, 7, 8, 9, 10, 11, 12, 13, 63, 15, 16, 17, 18, 19, 20, 21, 22, 23, 24, 25, 26, 27, 28, 29, 30, 31, 64, 33, 34, 35, 36, 37, 38, 39, 40, 41, 42, 43, 44, 45, 46, 88, 48, 49, 50, 51]]
  | 14 => [[0, 1, 2, 3, 4, 5, 6, 7, 8, 9, 10, 195, 11, 12, 13, 63, 15, 16, 17, 18, 19, 20, 21, 22, 23, 24, 25, 26, 27, 28, 29, 188, 193, 30, 31, 78, 64, 33, 34, 35, 36, 37, 38, 39, 40, 41, 42, 43, 44, 45, 46, 110, 48, 49, 50, 51]]
  | 15 => [[0, 1, 2, 3, 4, 5, 6, 7, 9, 10, 11, 12, 13, 14, 15, 16, 17, 18, 19, 25, 26, 27, 28, 29, 30, 31, 32, 33, 34, 35, 36, 37, 38, 39, 40, 45, 46, 47, 48, 49, 50, 51, 64, 66, 54, 55]]
  | 16 => [[0, 1, 47, 2, 3, 4, 49, 51, 5, 6, 7, 8, 9, 10, 11, 12, 13, 14, 15, 16, 17, 18, 19, 20, 21, 22, 23, 24, 25, 26, 27, 28, 29, 30, 31, 32, 33, 34, 35, 36, 37, 38, 39, 40, 41, 42, 43, 44, 45]]
  | 17 => [[0, 1, 3, 4, 5, 8, 9, 10, 11, 12, 13, 14, 15, 16, 17, 18, 19, 20, 21, 22, 23, 24, 25, 26, 27, 29, 30, 31, 32, 33, 34, 35, 36, 37, 38, 39, 40, 41, 42, 43, 44, 45, 46, 47, 48]]
  | 18 => [[0, 1, 2, 3, 4, 5, 6, 7, 8, 9, 10, 11, 12, 13, 14, 15, 16, 17, 18, 19, 20, 21, 22, 23, 24, 25, 26, 27, 28, 29, 30, 31, 32, 33, 34, 35, 36, 37, 38, 39, 40, 41, 42, 43, 44]]
  | 19 => [[0, 1, 2, 3, 4, 5, 6, 7, 8, 9, 10, 11, 12, 13, 14, 15, 16, 17, 18, 19, 20, 21, 22, 23, 24, 25, 26, 27, 28, 29, 30, 31, 32, 33, 34, 35, 36, 37, 38, 39, 40, 41, 42, 43, 44]]
  | 20 => [[0, 1, 2, 3, 4, 5, 6, 7, 8, 9, 10, 11, 12, 13, 14, 15, 16, 17, 18, 19, 20, 21, 22, 23, 24, 25, 26, 27, 28, 29, 30, 31, 32, 33, 34, 35, 36, 37, 38, 39, 40, 41, 42, 43, 44]]
  | _ => []
def kStep : Value := .agg ⟨[.int .i64 0, .int .i64 0, .int .i64 0, .int .i64 0, .int .i64 0, .int .i64 0, .slice none 0 0, .int .i64 0, .int .i64 0, .int .i64 0, .int .i64 0, .string ⟨#[]⟩, .string ⟨#[]⟩, .string ⟨#[]⟩, .slice none 0 0, .int .i64 0, .int .i64 0]⟩
end Go.Ev
