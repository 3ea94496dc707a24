/-
  What the functions of the ref's net do.
-/
import Derived.Test.YtilhnmncbpnfjaaFlightR
namespace Go.Vc
open Go Go.Proofs Go.Proofs.Ytilhnmncbpnfjaa

section
variable {E w : World} {L : List Asrt} {p : Nat} {N : RNet} {R : Ending → World → Prop}

theorem und_sents : Try.prog.underlying 74 = some (.slice 73) := by kernel_rfl
theorem app_sents {a a2 : Option Addr} {l c l2 c2 : Nat} {q1 q2 : List SPk} (h : St E (ownS a l c 73 5 (q1.flatMap sentV) :: L) w) (hro : RdS w a2 l2 5 (q2.flatMap sentV)) (hb : l + l2 ≤ 1000000) :
    ∃ a' c' w', (Builtin.append_ #[74, 74] 74 #[.slice a l c, .slice a2 l2 c2]).run Try.prog w = .ok (.slice a' (l + l2) c') w' ∧ St E (ownS a' (l + l2) c' 73 5 ((q1 ++ q2).flatMap sentV) :: L) w' := by
  have := append_own (P := Try.prog) (t := 74) (ty := 74) (e := 73) (i := Try.t73) (z := .agg #[.int .i64 0, .int .i64 0, .int .i64 0, .slice none 0 0, .bool false]) (by kernel_rfl) (by kernel_rfl) (by kernel_rfl) (by kernel_rfl) (by decide) (c2 := c2) h hro (sentV_one _)
    (by have : Try.t73.bytes = 56 := by kernel_rfl
        rw [this]; omega) (by unfold maxLen; omega)
  rw [show Try.t73.size = 5 from by kernel_rfl, ← List.flatMap_append] at this
  exact this

def mks (id fr to : Int) (bs : List UInt8) (s : Sl) : SPk := ((⟨id, fr, to, bs⟩, false), s)
theorem radd_spec {s : Sl} {qs : List SPk} {f t : Int} {b : Option Addr} {bl bc : Nat} {bs : List UInt8}
    (h : St E (blkL p 77 (refV N s) :: ownS s.1 s.2.1 s.2.2 73 5 (qs.flatMap sentV) :: L) w) (hro : Sees E L b bl 1 (bytesV bs))
    (hq : qs.length ≤ 100000) (hb : bl ≤ 1000000)
    (k : ∀ w' (s' sl : Sl), St E (blkL p 77 (refV N s') :: ownS s'.1 s'.2.1 s'.2.2 73 5 ((qs ++ [mks ((qs.length : Int) + 1) f t bs sl]).flatMap sentV) :: roS sl.1 sl.2.1 1 (bytesV bs) :: L) w' → R (.returned (.int .i64 ((qs.length : Int) + 1))) w') :
    Calls Try.prog 46 #[.pointer (some ⟨p, 0, none⟩), .int .i64 f, .int .i64 t, .slice b bl bc] w R := by
  have hsl : s.2.1 = qs.length := (h.f1.rdS_own.count sentV_len (by decide)).symm
  -- what follows the bytes' row
  have fin : ∀ (g : Nat) (a' : Option Addr) (c' : Nat) (w30 : World), St E (blkL g 41 [.int .i64 0, .int .i64 0, .int .i64 0, .slice none 0 0] :: ownS a' bl c' 5 1 (bytesV bs) :: blkL p 77 (refV N s) :: ownS s.1 s.2.1 s.2.2 73 5 (qs.flatMap sentV) :: L) w30 →
      (.agg #[.int .i64 (IntKind.wrap .i64 (((s.2.1 : Nat) : Int) + 1)), .int .i64 f, .int .i64 t, .slice a' bl c'] : Value).cells.size = 4 ∧ wrOk w30 (⟨g, 0, none⟩ : Addr) (.agg #[.int .i64 (IntKind.wrap .i64 (((s.2.1 : Nat) : Int) + 1)), .int .i64 f, .int .i64 t, .slice a' bl c']) ∧ let w32 : World := wr w30 (⟨g, 0, none⟩ : Addr) (.agg #[.int .i64 (IntKind.wrap .i64 (((s.2.1 : Nat) : Int) + 1)), .int .i64 f, .int .i64 t, .slice a' bl c'])
      (True) ∧ let w33 : World := w32.drew
      ∃ a34, some (⟨p, 0, none⟩ : Addr) = some a34 ∧ ∃ s35a : Option Addr, ∃ s35l : Nat, ∃ s35c : Nat, rd w33 a34 (.slice s35a s35l s35c) ∧ ∃ x36 : Int, ∃ x37 : Int, ∃ x38 : Int, ∃ s39a : Option Addr, ∃ s39l : Nat, ∃ s39c : Nat, rd w33 (⟨g, 0, none⟩ : Addr) (.agg #[.int .i64 x36, .int .i64 x37, .int .i64 x38, .slice s39a s39l s39c]) ∧ let w40 : World := w33.alloc (.cells #[.int .i64 x36, .int .i64 x37, .int .i64 x38, .slice s39a s39l s39c, .bool false] 73)
      (rd w40 a34 (.slice s35a s35l s35c) ∧ True) ∧ runV Try.prog (Builtin.append_ #[74, 74] 74 #[.slice s35a s35l s35c, .slice (some (⟨w33.heap.size, 0, none⟩ : Addr)) 1 1]) w40 (fun r41 w42 => ∃ s43a : Option Addr, ∃ s43l : Nat, ∃ s43c : Nat, r41 = .slice s43a s43l s43c ∧ (True) ∧ ∃ a44, some (⟨p, 0, none⟩ : Addr) = some a44 ∧ (.slice s43a s43l s43c : Value).cells.size = 1 ∧ wrOk w42 a44 (.slice s43a s43l s43c) ∧ let w45 : World := wr w42 a44 (.slice s43a s43l s43c)
      (True) ∧ ∃ x46 : Int, rd w45 (⟨g, 0, none⟩ : Addr) (.int .i64 x46) ∧ R (.returned (.int .i64 x46)) w45) (pan R) := by
    intro g a' c' w30 h30
    rw [wrap_id (by omega) (by omega), hsl]
    refine ⟨rfl, wrOk_agg h30.at_blk (by simp) (pktV_one1 (mkp ((qs.length : Int) + 1) f t bs (a', bl, c'))), ?_⟩
    intro w32
    have h32 := h30.wr_agg0 (xs := pktV (mkp ((qs.length : Int) + 1) f t bs (a', bl, c'))) rfl
    refine ⟨trivial, ?_⟩
    intro w33
    have h33 : St E (blkL g 41 (pktV (mkp ((qs.length : Int) + 1) f t bs (a', bl, c'))) :: ownS a' bl c' 5 1 (bytesV bs) :: blkL p 77 (refV N s) :: ownS s.1 s.2.1 s.2.2 73 5 (qs.flatMap sentV) :: L) w33 := h32.drew
    clear_value w33
    refine ⟨_, rfl, _, _, _, rd_cell h33.f2.at_blk rfl rfl, _, _, _, _, _, _, rd_agg h33.at_blk (xs := pktV (mkp ((qs.length : Int) + 1) f t bs (a', bl, c'))) (fun n u hu => by rw [Nat.zero_add]; exact hu), ?_⟩
    intro w40
    have h40 := h33.alloc (.cells ⟨sentV (mks ((qs.length : Int) + 1) f t bs (a', bl, c'))⟩ 73)
    have hro40 : RdS w40 (some ⟨w33.heap.size, 0, none⟩) 1 5 ([mks ((qs.length : Int) + 1) f t bs (a', bl, c')].flatMap sentV) := (h40.ownS_mk (l := 1) (c := 1) (xs := [mks ((qs.length : Int) + 1) f t bs (a', bl, c')].flatMap sentV) (rest := []) rfl (Nat.le_refl _) (by decide) rfl).rdS_own
    refine ⟨⟨rd_cell h40.f3.at_blk rfl rfl, trivial⟩, ?_⟩
    obtain ⟨a2, c2, w42, hr, h42⟩ := app_sents (c2 := 1) h40.f4 hro40 (by omega)
    refine runV_ok hr ⟨_, _, _, rfl, trivial, _, rfl, rfl, wrOk_cell h42.f4.at_blk (by simp [refV]) rfl, ?_⟩
    intro w45
    have h45 := h42.f4.wr_cell (off := 0) (v := .slice a2 (s.2.1 + 1) c2) rfl
    refine ⟨trivial, _, rd_cell h45.f3.at_blk (l := pktV (mkp ((qs.length : Int) + 1) f t bs (a', bl, c'))) rfl rfl, ?_⟩
    exact k _ (a2, s.2.1 + 1, c2) (a', bl, c') ((h45.f2.drop.f2.drop : St E (blkL p 77 (refV N (a2, s.2.1 + 1, c2)) :: ownS a2 (s.2.1 + 1) c2 73 5 _ :: ownS a' bl c' 5 1 (bytesV bs) :: L) w45).f2.ownS_ro.b2)
  refine C_ref04_Net_add ?_
  unfold T_ref04_Net_add
  intro w5
  have h5 : St E (blkL p 77 (refV N s) :: ownS s.1 s.2.1 s.2.2 73 5 (qs.flatMap sentV) :: L) w5 := h.drew
  clear_value w5
  refine ⟨_, rfl, _, _, _, rd_cell h5.at_blk rfl rfl, ⟨?_, ?_⟩⟩
  · intro w8
    have h8 : St E (ownS (some ⟨w5.heap.size, 0, none⟩) 0 0 5 1 (bytesV []) :: blkL p 77 (refV N s) :: ownS s.1 s.2.1 s.2.2 73 5 (qs.flatMap sentV) :: L) w8 := (h5.alloc _).ownS_mk (rest := []) rfl (Nat.le_refl _) (Nat.zero_le _) rfl
    refine ⟨⟨rd_cell h8.f1.at_blk rfl rfl, trivial⟩, ⟨?_, ?_⟩⟩
    · obtain ⟨a', c', w10, hr, h10⟩ := app_bytes (c2 := bc) h8 (hro _ h8.drop.drop.drop) (by omega)
      rw [Nat.zero_add] at hr h10
      refine runV_ok hr ⟨_, _, _, rfl, ⟨rd_cell h10.f1.at_blk rfl rfl, trivial⟩, ?_⟩
      intro w12
      have h12 := h10.alloc (.cells #[.int .i64 0, .int .i64 0, .int .i64 0, .slice none 0 0] 41)
      exact ⟨⟨rd_cell h12.f2.at_blk rfl rfl, trivial⟩, fin _ _ _ _ h12⟩
    · intro w28
      have h28 := h8.alloc (.cells #[.int .i64 0, .int .i64 0, .int .i64 0, .slice none 0 0] 41)
      refine ⟨⟨rd_cell h28.f2.at_blk rfl rfl, trivial⟩, ?_⟩
      obtain ⟨a', c', w30, hr, h30⟩ := app_bytes (c2 := bc) h28.f1 (hro _ h28.drop.drop.drop.drop) (by omega)
      rw [Nat.zero_add] at hr h30
      exact runV_ok hr ⟨_, _, _, rfl, ⟨rd_cell h30.f2.at_blk rfl rfl, trivial⟩, fin _ _ _ _ h30.f1⟩
  · intro w47
    have h47 := h5.alloc (.cells #[.int .i64 0, .int .i64 0, .int .i64 0, .slice none 0 0] 41)
    refine ⟨⟨rd_cell h47.f1.at_blk rfl rfl, trivial⟩, ?_⟩
    intro w48
    have h48 : St E (ownS (some ⟨w47.heap.size, 0, none⟩) 0 0 5 1 (bytesV []) :: _) w48 := (h47.alloc _).ownS_mk (rest := []) rfl (Nat.le_refl _) (Nat.zero_le _) rfl
    refine ⟨⟨rd_cell h48.f2.at_blk rfl rfl, trivial⟩, ?_⟩
    obtain ⟨a', c', w50, hr, h50⟩ := app_bytes (c2 := bc) h48 (hro _ h48.drop.drop.drop.drop) (by omega)
    rw [Nat.zero_add] at hr h50
    exact runV_ok hr ⟨_, _, _, rfl, ⟨rd_cell h50.f2.at_blk rfl rfl, trivial⟩, fin _ _ _ _ h50.f1⟩

theorem St.ref_added {s sl : Sl} {qs : List SPk} {n f t : Int} {bs : List UInt8} (h : St E (blkL p 77 (refV N s) :: ownS s.1 s.2.1 s.2.2 73 5 ((qs ++ [mks n f t bs sl]).flatMap sentV) :: roS sl.1 sl.2.1 1 (bytesV bs) :: rosA (qs.map pk) :: L) w)
    (hp : N.parted.length = 100) (hc : N.clocks.length = 10) (hq : qs.map (·.1) = N.all) : St E (refA p { N with all := N.all ++ [(⟨n, f, t, bs⟩, false)] } :: L) w := by
  have h3 : St E (rosA [pk (mks n f t bs sl)] :: blkL p 77 (refV N s) :: ownS s.1 s.2.1 s.2.2 73 5 ((qs ++ [mks n f t bs sl]).flatMap sentV) :: rosA (qs.map pk) :: L) w := St.ros_cons (q := pk (mks n f t bs sl)) (h.f2.ros_nil.f1 :)
  have h4 := St.ros_app (h3.f3 :)
  refine St.ref_mk (s := s) (qs := qs ++ [mks n f t bs sl]) ?_ hp hc (by simp [hq, mks])
  rw [List.map_append]
  exact h4.b2
def okR (N : RNet) : Prop := N.all.length ≤ 50000 ∧ (∀ q ∈ N.all, q.1.bytes.length ≤ 65536) ∧ ∀ c ∈ N.clocks, 0 ≤ c ∧ c ≤ 100000
def gone (N : RNet) (f t : Int) : Bool := N.parted.getD (10 * f + t).toNat false
theorem gone_cell {s : Sl} {f t : Int} (hp : N.parted.length = 100) (hl : isLink f t = true) : 0 ≤ 10 * f + t ∧ 10 * f + t < 100 ∧ IntKind.wrap .i64 (IntKind.wrap .i64 (10 * f) + t) = 10 * f + t ∧ (refV N s)[1 + (10 * f + t).toNat]? = some (.bool (gone N f t)) := by
  have hb : 1 ≤ f ∧ f ≤ 9 ∧ 1 ≤ t ∧ t ≤ 9 := by
    simp only [isLink, isNode, Bool.and_eq_true, decide_eq_true_eq] at hl
    omega
  refine ⟨by omega, by omega, by rw [wrap_id (x := 10 * f) (by omega) (by omega), wrap_id (by omega) (by omega)], ?_⟩
  have hi : (10 * f + t).toNat < N.parted.length := by omega
  show (_ :: (N.parted.map Value.bool ++ N.clocks.map vvI))[1 + (10 * f + t).toNat]? = _
  rw [Nat.add_comm 1, List.getElem?_cons_succ, List.getElem?_append_left (by simpa using hi)]
  simp [gone, List.getD, hi]
theorem gone_addr {n : Nat} : ((⟨p, 0, none⟩ : Addr).add 1).add (n * 1) = (⟨p, 0, none⟩ : Addr).add (1 + n) := by rw [add_mk, add_mk, add_mk]; simp

def rSend (N : RNet) (f t : Int) (bs : List UInt8) : RNet × Int × Int :=
  if isLink f t = false then (N, 0, 2)
  else if 65536 < bs.length ∨ 128 ≤ (rUnder N).length then (N, 0, 6)
  else if gone N f t = true then (N, 0, 8)
  else ({ N with all := N.all ++ [(⟨(N.all.length : Int) + 1, f, t, bs⟩, false)] }, (N.all.length : Int) + 1, 0)
theorem rsend_spec {f t : Int} {b : Option Addr} {bl bc : Nat} {bs : List UInt8} (h : St E (refA p N :: L) w) (hro : Sees E L b bl 1 (bytesV bs)) (hN : okR N)
    (k : ∀ w', St E (refA p (rSend N f t bs).1 :: L) w' → R (.returned (.tuple #[.int .i64 (rSend N f t bs).2.1, .int .i64 (rSend N f t bs).2.2])) w') :
    Calls Try.prog 47 #[.pointer (some ⟨p, 0, none⟩), .int .i64 f, .int .i64 t, .slice b bl bc] w R := by
  have hbl : bs.length = bl := by have := (hro _ h.drop).1; rw [bytesV_len] at this; omega
  have hm : N.all.length ≤ 100000 := by have := hN.1; omega
  refine C_ref04_Net_Send ?_
  unfold T_ref04_Net_Send
  refine ite_some (rlink_spec ⟨_, rfl, ite_n (fun hl => ?_) (fun hl => ?_)⟩)
  · rw [show rSend N f t bs = (N, 0, 2) by simp [rSend, hl]] at k
    exact k _ h
  · -- behind the limit
    have rest : ¬ 65536 < bs.length → ¬ 128 ≤ (rUnder N).length → ∀ w17, St E (refA p N :: L) w17 →
        (∃ a18, some (⟨p, 0, none⟩ : Addr) = some a18 ∧ 0 ≤ (IntKind.wrap .i64 ((IntKind.wrap .i64 ((10 : Int) * f) : Int) + t) : Int) ∧ (IntKind.wrap .i64 ((IntKind.wrap .i64 ((10 : Int) * f) : Int) + t) : Int) < 100 ∧ ∃ b19 : Bool, rd w17 ((a18.add 1).add ((IntKind.wrap .i64 ((IntKind.wrap .i64 ((10 : Int) * f) : Int) + t) : Int).toNat * 1)) (.bool b19) ∧ if b19 = true then (R (.returned (.tuple #[.int .i64 0, .int .i64 8])) w17) else (Calls Try.prog 46 #[.pointer (some (⟨p, 0, none⟩ : Addr)), .int .i64 f, .int .i64 t, .slice b bl bc] w17 (ret (fun r20 w21 => ∃ x22 : Int, r20 = .int .i64 x22 ∧ R (.returned (.tuple #[.int .i64 x22, .int .i64 0])) w21) (pan R)))) := by
      intro h1 h2 w17 h17
      obtain ⟨s, qs, hp, hc, hq, ho⟩ := h17.ref_open
      have hct := ref_count hq ho
      obtain ⟨g1, g2, g3, g4⟩ := gone_cell (s := s) hp hl
      rw [g3]
      refine ⟨_, rfl, g1, g2, gone N f t, by rw [gone_addr]; exact rd_fld ho.at_blk g4 rfl, ite_b (fun hg => ?_) (fun hg => ?_)⟩
      · rw [show rSend N f t bs = (N, 0, 8) by simp only [rSend, hl]; rw [if_neg (by simp), if_neg (by omega), if_pos hg]] at k
        exact k _ h17
      · rw [show rSend N f t bs = ({ N with all := N.all ++ [(⟨(N.all.length : Int) + 1, f, t, bs⟩, false)] }, (N.all.length : Int) + 1, 0) by simp only [rSend, hl]; rw [if_neg (by simp), if_neg (by omega), if_neg (by simp [hg])]] at k
        refine radd_spec (f := f) (t := t) ho (hro.more _) (by omega) (by omega) fun w2 s' sl h2 => ⟨_, rfl, ?_⟩
        have hn : (qs.length : Int) = (N.all.length : Int) := by rw [← hq, List.length_map]
        rw [hn] at h2 ⊢
        exact k _ (St.ref_added h2 hp hc hq)
    unfold T_ref04_Net_Send_1
    refine ite_d (fun hb => ?_) (fun hb => ?_)
    · rw [show rSend N f t bs = (N, 0, 6) by simp only [rSend, hl]; rw [if_neg (by simp), if_pos (Or.inl (by omega))]] at k
      exact ite_b (fun _ => k _ h) (fun hh => by cases hh)
    · refine rlen_spec h hm fun w11 h11 => ⟨_, rfl, ite_d (fun hn => ?_) (fun hn => ?_)⟩
      · rw [show rSend N f t bs = (N, 0, 6) by simp only [rSend, hl]; rw [if_neg (by simp), if_pos (Or.inr (by omega))]] at k
        exact k _ h11
      · exact rest (by omega) (by omega) _ h11
end
end Go.Vc
