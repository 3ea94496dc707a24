/-
  Texts of this claim's own, laid into one: ConfVs.
-/
import Derived.Test.YtcpmfjclkdjfmaaXConfVersionsA
import Derived.Test.YtcpmfjclkdjfmaaXConfVersionsB
import Derived.Test.YtcpmfjclkdjfmaaXConfVersionsC
set_option linter.all false
/-
  The law ConfVersions: version is how many commands were done.
-/
namespace Go.Cm
theorem doC_free {s : Sm} (I : Inv s) {x : Cmd} (h0 : x.client = 0) : ((doC s x).2.1 = 0 → (doC s x).1.ver = s.ver + 1 ∧ (doC s x).2.2 = s.ver + 1) ∧ ((doC s x).2.1 ≠ 0 → (doC s x).1 = s ∧ (doC s x).2.2 = s.ver) := by
  by_cases hc : chk x = 0
  · obtain ⟨_, h2, _, h4, _, _⟩ := step_keeps I hc
    obtain ⟨_, _, h7⟩ := vers_ok I hc
    have e : doC s x = ({ (step s x).1 with ver := vers (step s x) }, (step s x).2, vers (step s x)) := by
      unfold doC
      rw [if_neg (by simpa using hc), if_neg (by omega), if_neg (by omega)]
      simp only
      rw [if_neg (by omega)]
    rw [e]
    refine ⟨fun h => ?_, fun h => ?_⟩
    · have h : (step s x).2 = 0 := h
      rw [if_pos h] at h7
      exact ⟨h7, h7⟩
    · have h : (step s x).2 ≠ 0 := h
      rw [if_neg h] at h7
      refine ⟨?_, h7⟩
      show ({ (step s x).1 with ver := vers (step s x) } : Sm) = s
      rw [h4 h, h7]
  · have e : doC s x = (s, chk x, s.ver) := by unfold doC; rw [if_pos hc]
    rw [e]
    exact ⟨fun h => absurd h hc, fun _ => ⟨rfl, rfl⟩⟩
end Go.Cm
namespace Go.Vc
open Go Go.Proofs Go.Proofs.Ytcpmfjclkdjfmaa Go.RowKit
set_option maxRecDepth 100000
section
variable {E w : World} {L : List Asrt} {R : Ending → World → Prop} {F G : Fz} {s : Cm.Sm} {p : Nat}
/-- The command without a client. -/
def noCl (c : Cm.Cmd) : Cm.Cmd := { c with client := 0, seq := 0 }
set_option maxHeartbeats 4000000 in
theorem vers_spec {Kn : World → Prop} {Kr : Bool → World → Prop} {Kp : List PanicEntry → World → Prop} {a : Option Addr} {l cc : Nat} {ds : List (Cm.Cmd × Sl)} (hd : CmdsR F a l ds) (I : Cm.Inv s) (h : St E (stA F p s :: kn F :: L) w)
    (k : ∀ (G : Fz) (w' : World), Fz.le F G → St E (kn G :: L) w' → Kn w') : T_law08_ConfVersions_1 s.ver 0 a l cc (some ⟨p, 0, none⟩) w Kn Kr Kp := by
  have n1 := hd.1.count cmdL_len (by decide) h at1
  unfold T_law08_ConfVersions_1
  intro X hX
  refine up_to (min l 150) (Q := fun j => ∀ (w : World) (G : Fz) (s : Cm.Sm), Fz.le F G → Cm.Inv s → St E (stA G p s :: kn G :: L) w → X s.ver (j : Int) w) ?_ w F s (Fz.le_refl F) I h
  intro j hj ih w G s hG I h
  refine hX _ _ _ ?_
  unfold T_law08_ConfVersions_1_body T_law08_ConfVersions_2
  refine ite_d (fun h1 => ?_) fun h1 => ite_b (fun hh => by cases hh) fun _ => k G _ hG (h.sel 2 [1])
  refine ite_b (fun h2 => ?_) fun h2 => k G _ hG (h.sel 2 [1])
  have h2 : (j : Int) < 150 := of_decide_eq_true h2
  have hjl : j < ds.length := by omega
  obtain ⟨hok, hrd⟩ := hd.2 _ (List.getElem_mem hjl)
  obtain ⟨ad, ha, hc⟩ := cmd_at ((RdF.mono hd.1 hG).at h at1) hjl
  rw [Int.toNat_natCast, succ_big (by unfold big; omega)]
  generalize hcq : ds[j] = cq at *
  refine ⟨by omega, by omega, ad, ha, _, _, _, _, _, _, _, _, _, _, hc, ?_⟩
  intro w25
  have h25 : St E (blkL w.heap.size 28 (cmdL zeroC (none, 0, 0)) :: stA G p s :: kn G :: L) w25 := h.alloc _
  refine ⟨rfl, ok_cmd h25 rfl cq.1 cq.2, ?_⟩
  intro w26
  have h26 : St E (blkL w.heap.size 28 (cmdL cq.1 cq.2) :: stA G p s :: kn G :: L) w26 := St.wr_cmd h25 rfl cq.1 cq.2
  clear h25
  clear_value w26 w25
  generalize w.heap.size = bc at *
  refine ⟨_, _, _, _, _, _, _, _, _, _, rd_cmd h26, ?_⟩
  refine short_spec h26 fun w36 h36 => ⟨_, rfl, ite_n (fun _ => ih (by omega) _ G s hG I (h36.sel 3 [1, 2])) fun hs => ?_⟩
  refine ⟨rfl, wrOk_fld h36.at_blk (by simp [cmdL]) rfl, ?_⟩
  intro w38
  have h38 : St E (blkL bc 28 ((cmdL cq.1 cq.2).set 1 (.int .i64 0)) :: stA G p s :: kn G :: L) w38 := h36.wr_fld (k := 1) (v := .int .i64 0) rfl
  refine ⟨rfl, wrOk_fld h38.at_blk (by simp [cmdL]) rfl, ?_⟩
  intro w39
  have h39 : St E (stA G p s :: kn G :: blkL bc 28 (cmdL (noCl cq.1) cq.2) :: L) w39 := St.sel (L := blkL bc 28 (cmdL (noCl cq.1) cq.2) :: stA G p s :: kn G :: L) (h38.wr_fld (k := 2) (v := .int .i64 0) rfl) 3 [1, 2, 0]
  clear_value w39
  clear h38
  clear_value w38
  have S := Sz.of I
  refine Config_kn S h39 fun G1 w41 ra pa hG1 hcf h41 => ⟨_, _, _, _, _, _, _, rfl, ?_⟩
  intro w45
  have h45 := h41.alloc (.cells #[.int .i64 0, .slice none 0 0, .slice none 0 0] 33)
  refine ⟨rfl, wrOk_agg h45.at_blk (xs := cfgL s.ver ra pa) (Nat.le_refl 3) (by intro u hu; simp [cfgL] at hu; rcases hu with rfl | rfl | rfl <;> rfl), ?_⟩
  intro w46
  have h46 : St E (blkL w41.heap.size 33 (cfgL s.ver ra pa) :: stA G1 p s :: kn G1 :: blkL bc 28 (cmdL (noCl cq.1) cq.2) :: L) w46 := h45.wr_agg0 (xs := cfgL s.ver ra pa) rfl
  clear h45
  clear_value w46 w45
  generalize w41.heap.size = bw at *
  refine ⟨_, _, _, _, _, _, _, _, _, _, rd_cmd h46.f3, ?_⟩
  have lG := Fz.le_trans hG hG1
  have h47 : St E (stA G1 p s :: kn G1 :: blkL bw 33 (cfgL s.ver ra pa) :: blkL bc 28 (cmdL (noCl cq.1) cq.2) :: L) w46 := h46.sel 4 [1, 2, 0, 3]
  have hok' : okC (noCl cq.1) := hok
  have hrd' : RdF F cq.2.1 cq.2.2.1 2 ((noCl cq.1).tg.flatMap tV) := hrd
  refine Do_spec (c := noCl cq.1) (q := cq.2) I (RdF.mono hrd' lG) hok' h47 fun G2 w56 hG2 h56 => ⟨_, _, rfl, ?_⟩
  obtain ⟨d1, d2⟩ := Cm.doC_free I (x := noCl cq.1) rfl
  have I2 := Cm.doC_keeps I (noCl cq.1)
  generalize hr : Cm.doC s (noCl cq.1) = dr at *
  have lG2 := Fz.le_trans lG hG2
  intro w59
  have h59 := h56.alloc (.cells #[.int .i64 0, .int .i64 0] 37)
  refine ⟨rfl, ok_res h59 rfl dr.2.1 dr.2.2, ?_⟩
  intro w60
  have h60 : St E (blkL w56.heap.size 37 (rsL dr.2.1 dr.2.2) :: stA G2 p dr.1 :: kn G2 :: blkL bw 33 (cfgL s.ver ra pa) :: blkL bc 28 (cmdL (noCl cq.1) cq.2) :: L) w60 := h59.wr_res rfl dr.2.1 dr.2.2
  clear h59
  clear_value w60 w59
  generalize w56.heap.size = br at *
  refine ⟨_, rd_cell h60.at_blk rfl rfl, ?_⟩
  have fin : ∀ (w : World) (G3 : Fz), Fz.le G2 G3 → dr.2.2 = dr.1.ver → St E (blkL br 37 (rsL dr.2.1 dr.2.2) :: stA G3 p dr.1 :: kn G3 :: L) w →
      ∃ x86 : Int, rd w ((⟨br, 0, none⟩ : Addr).add 1) (.int .i64 x86) ∧ if ((x86 : Int) != dr.1.ver) = true then (Kr false w) else (Calls Try.prog 9 #[.pointer (some ⟨p, 0, none⟩)] w (ret (fun r87 w88 => ∃ x89 : Int, ∃ s90a : Option Addr, ∃ s90l : Nat, ∃ s90c : Nat, ∃ s91a : Option Addr, ∃ s91l : Nat, ∃ s91c : Nat, r87 = .agg #[.int .i64 x89, .slice s90a s90l s90c, .slice s91a s91l s91c] ∧ if ((x89 : Int) != dr.1.ver) = true then (Kr false w88) else (X dr.1.ver ((j + 1 : Nat) : Int) w88)) Kp)) := fun w G3 l3 he h => by
    refine ⟨_, rd_fld h.at_blk rfl rfl, ite_b (fun hh => by simp [he] at hh) fun _ => ?_⟩
    refine Config_kn (Sz.of I2) (St.sel (L := blkL br 37 (rsL dr.2.1 dr.2.2) :: stA G3 p dr.1 :: kn G3 :: L) h 3 [1, 2]) fun G4 w88 _ _ hG4 _ h88 => ⟨_, _, _, _, _, _, _, rfl, ite_b (fun hh => by simp at hh) fun _ => ?_⟩
    exact ih (by omega) _ G4 dr.1 (Fz.le_trans lG2 (Fz.le_trans l3 hG4)) I2 h88
  unfold T_law08_ConfVersions_3
  refine ite_b (fun h3 => ?_) fun h3 => ?_
  · have h3 : dr.2.1 = 0 := by simpa using h3
    obtain ⟨e1, e2⟩ := d1 h3
    have := I.v0
    have := I2.v1
    have hw : IntKind.wrap .i64 (s.ver + 1) = dr.1.ver := by rw [wrap_id (by omega) (by omega)]; omega
    rw [hw]
    exact fin _ G2 (Fz.le_refl _) (by omega) (h60.sel 5 [0, 1, 2])
  · have h3 : dr.2.1 ≠ 0 := by simpa using h3
    obtain ⟨e1, e2⟩ := d2 h3
    have es : s = dr.1 := e1.symm
    intro w66
    have h66 : St E _ w66 := h60.drew
    clear_value w66
    refine ⟨_, _, _, _, _, _, _, rd_agg (xs := cfgL s.ver ra pa) h66.f3.at_blk (by intro i u hu; rw [Nat.zero_add]; exact hu), ?_⟩
    refine Config_kn (Sz.of I2) (St.sel (L := _ :: _ :: _ :: _ :: _ :: L) h66 5 [1, 2, 0, 3]) fun G3 w71 ra2 pa2 hG3 hcf2 h71 => ⟨_, _, _, _, _, _, _, rfl, ⟨rd_agg (xs := cfgL s.ver ra pa) h71.f3.at_blk (by intro i u hu; rw [Nat.zero_add]; exact hu), trivial⟩, ?_⟩
    refine SameConfig_spec (v1 := dr.1.ver) (v2 := s.ver) at1 h71 hcf2 (hcf.mono (Fz.le_trans hG2 hG3)) (by have := I2.pn; omega) (by have := I2.rn; omega) (fun x hx => by have := ((Sz.of I2).pl x hx).2.1; unfold huge; omega) fun w76 h76 => ⟨_, rfl, trivial, ite_n (fun hh => by rw [es] at hh; simp at hh) fun _ => ?_⟩
    have h76 : St E (stA G3 p dr.1 :: kn G3 :: blkL br 37 (rsL dr.2.1 dr.2.2) :: blkL bw 33 (cfgL s.ver ra pa) :: L) w76 := h76
    have h77 : St E (blkL br 37 (rsL dr.2.1 dr.2.2) :: stA G3 p dr.1 :: kn G3 :: L) w76 := h76.sel 4 [2, 0, 1]
    have := fin _ G3 hG3 (by rw [e2, es]) h77
    rw [← es] at this
    exact this
theorem versions_walk {a : Option Addr} {l cc : Nat} {ds : List (Cm.Cmd × Sl)} (hd : CmdsR F a l ds) (h : St E (kn F :: L) w) (k : ∀ G w', Fz.le F G → St E (kn G :: L) w' → R (.returned (.bool true)) w') : Calls Try.prog 3 #[.slice a l cc] w R := by
  refine C_law08_ConfVersions ?_
  unfold T_law08_ConfVersions
  refine New_spec F h fun p w3 h3 => ⟨_, rfl, ?_⟩
  refine vers_spec (s := Cm.new) hd Cm.Inv.new h3 fun G w98 hG h98 => ?_
  exact live_spec h98 fun G2 w100 hG2 h100 => ⟨_, rfl, k G2 _ (Fz.le_trans hG hG2) h100⟩
theorem versions_law {H : Type} {enc : TypeId × Value → H} {W : World} {a : Option Addr} {l c : Nat} {d : DataW H} {ps : List MemPlace} (h : DataW.Trod enc Try.prog W 0 (fun _ => true) true 22 (.slice a l c) d ps) :
    Calls Try.prog 3 #[.slice a l c] W fun e w' => e = .returned (.bool true) ∧ RowKit.Below W.heap.size W w' := by
  obtain ⟨ds, hd, _⟩ := open_cmds h
  exact versions_walk hd (St.start_kn W) fun G w' hG h' => ⟨rfl, h'.below_kn hG⟩
end
end Go.Vc
