/-
  The law ConfExpects.
-/
import Derived.Test.YtcpmfjclkdjfmaaGreatConfCk
import Derived.Test.YtcpmfjclkdjfmaaGreatGExpects
namespace Go.Vc
open Go Go.Proofs Go.Proofs.YtcpmfjclkdjfmaaGreat Go.RowKit
set_option maxRecDepth 100000
section
variable {E w : World} {L : List Asrt} {R : Ending → World → Prop} {F G : Fz} {s : Cm.Sm} {p : Nat}
def zzC (v : Int) : Cm.Cmd := { poolC [122, 122] with expect := v }
theorem ok_zz (v : Int) : okC (zzC v) := ok_poolC (n := [122, 122]) (by simp [huge])
theorem chk_zz {v : Int} (h1 : -1 ≤ v) (h2 : v < 1099511627776) : Cm.chk (zzC v) = 0 := by
  have a : Cm.argBad (zzC v) = false := by
    unfold Cm.argBad zzC poolC
    simp [Cm.usesPool, Cm.usesRoute, Cm.seqOk]
    omega
  have b : Cm.nameBad (zzC v) = false := by kernel_rfl
  have c : Cm.chkT (zzC v).tg = 0 := by kernel_rfl
  unfold Cm.chk
  rw [a, b, c]
  rfl
theorem doC_stale {v : Int} (h1 : 0 ≤ v) (h2 : v < 1099511627776) (h3 : v ≠ s.ver) : Cm.doC s (zzC v) = (s, 12, s.ver) := by
  have hst : Cm.step s (zzC v) = (s, 12) := by unfold Cm.step; rw [if_pos ⟨h1, h3⟩]
  unfold Cm.doC
  rw [if_neg (by rw [chk_zz (by omega) h2]; simp), if_neg (fun h => absurd h.1 (by simp [zzC, poolC])), if_neg (fun h => absurd h.1 (by simp [zzC, poolC])), hst]
  simp [zzC, poolC, Cm.vers]
theorem confB_put (I : Cm.Inv s) (h32 : s.pools.length ≤ 32) : (Cm.confB (putP s [122, 122] [tgt1]).pools s.routes).length ≤ (Cm.confB s.pools s.routes).length + 20 := by
  have hp := Cm.put_but_perm (s := s) ⟨[122, 122], [tgt1]⟩
  have h1 : ((putP s [122, 122] [tgt1]).pools.flatMap Cm.plB).length ≤ 14 + (s.pools.flatMap Cm.plB).length := by
    have e := (hp.flatMap_right Cm.plB).length_eq
    have e1 : (putP s [122, 122] [tgt1]).pools = Cm.put Cm.plLt (Cm.butPool s [122, 122]) ⟨[122, 122], [tgt1]⟩ := rfl
    rw [e1]
    rw [List.flatMap_cons, List.length_append] at e
    have e2 : (Cm.plB ⟨[122, 122], [tgt1]⟩).length = 14 := by kernel_rfl
    have e3 := Cm.flat_sub (f := Cm.plB) (List.filter_sublist (p := fun p : Cm.Pl => !decide (p.name = [122, 122])) (l := s.pools))
    have e4 : (Cm.butPool s [122, 122]) = s.pools.filter fun p => !decide (p.name = [122, 122]) := rfl
    rw [← e4] at e3
    have e5 : Cm.put Cm.plLt (Cm.butPool s [122, 122]) ⟨[122, 122], [tgt1]⟩ = Cm.put Cm.plLt (Cm.butPool s (Cm.Pl.mk [122, 122] [tgt1]).name) ⟨[122, 122], [tgt1]⟩ := rfl
    rw [e5, e, e2]
    have e6 : Cm.butPool s (Cm.Pl.mk [122, 122] [tgt1]).name = Cm.butPool s [122, 122] := rfl
    rw [e6]
    omega
  have h2 := num_len (putP s [122, 122] [tgt1]).pools.length
  simp only [Cm.confB, List.length_append]
  omega
theorem doC_now {v : Int} (I : Cm.Inv s) (h1 : 0 ≤ v) (h2 : v < 1099511627776) (h3 : v = s.ver) (h4 : s.pools.length < 32) (h5 : (Cm.putS s).length ≤ 11900) : (Cm.doC s (zzC v)).2 = (0, s.ver + 1) := by
  have hc : Cm.chk (zzC v) = 0 := chk_zz (by omega) h2
  have hact : Cm.act s (zzC v) = (putP s [122, 122] [tgt1], 0) := by
    unfold Cm.act
    rw [if_pos (show (zzC v).act = 1 from rfl), if_neg (by simp; omega)]
    unfold Cm.fit
    rw [if_neg ?_]
    · rfl
    · have := confB_put I (by omega)
      have e : (Cm.putS s).length = (Cm.num s.ver).length + ((Cm.confB s.pools s.routes).length + ((Cm.num s.l.length).length + (s.l.flatMap Cm.laB).length)) := by simp [Cm.putS]
      show ¬ 12000 < (Cm.confB (putP s [122, 122] [tgt1]).pools s.routes).length
      omega
  have hst : Cm.step s (zzC v) = (putP s [122, 122] [tgt1], 0) := by
    unfold Cm.step
    rw [if_neg (fun h => h.2 h3), if_neg (by omega), hact]
  unfold Cm.doC
  rw [if_neg (by rw [hc]; simp), if_neg (fun h => absurd h.1 (by simp [zzC, poolC])), if_neg (fun h => absurd h.1 (by simp [zzC, poolC])), hst]
  rfl
set_option maxHeartbeats 4000000 in
theorem expects_walk {a : Option Addr} {l cc : Nat} {ds : List (Cm.Cmd × Sl)} {v : Int} (hv : -9223372036854775808 ≤ v ∧ v ≤ 9223372036854775807) (hd : CmdsR F a l ds) (h : St E (kn F :: L) w) (k : ∀ G w', Fz.le F G → St E (kn G :: L) w' → R (.returned (.bool true)) w') : Calls Tryz.prog 6 #[.slice a l cc, .int .i64 v] w R := by
  refine C_law08_ConfExpects ?_
  unfold T_law08_ConfExpects
  refine play_spec hd h fun G1 p r s w4 hG1 I h4 => ⟨_, _, _, rfl, ?_⟩
  have h4 : St E (stA G1 p s :: kn G1 :: refA G1 r s :: L) w4 := h4.sel 3 [0, 2, 1]
  unfold T_law08_ConfExpects_1
  have early : T_law08_ConfExpects_2 true w4 (fun b22 w23 => R (.returned (.bool b22)) w23) (pan R) := by
    unfold T_law08_ConfExpects_2
    refine ite_b (fun _ => live_spec h4.f1 fun G2 w17 hG2 h17 => ⟨_, rfl, k G2 _ (Fz.le_trans hG1 hG2) (h17.sel 3 [0])⟩) fun hh => by cases hh
  refine ite_n (fun hh => by cases hh) fun _ => ite_d (fun _ => ite_b (fun _ => early) fun hh => by cases hh) fun hv0 => ite_d (fun _ => early) fun hv1 => ?_
  have S := Sz.of I
  have hpn := I.pn
  refine Config_kn S h4 fun G2 w25 ra pa hG2 hcf h25 => ⟨_, _, _, _, _, _, _, rfl, ?_⟩
  obtain ⟨rr, xs, hxs, rp, rt⟩ := hcf
  have hcf : cfgR G2 ra pa s.routes s.pools := ⟨rr, xs, hxs, rp, rt⟩
  intro w29
  have h29 := h25.alloc (.cells ⟨cfgL 0 (none, 0, 0) (none, 0, 0)⟩ 30)
  refine ⟨rfl, ok_cfg h29 rfl s.ver ra pa, ?_⟩
  intro w30
  have h30 : St E (blkL w25.heap.size 30 (cfgL s.ver ra pa) :: stA G2 p s :: kn G2 :: refA G1 r s :: L) w30 := St.wr_cfg h29 rfl s.ver ra pa
  clear_value w30
  clear h29
  clear_value w29
  generalize w25.heap.size = bw at *
  refine pool_spec (n := [122, 122]) h30.f2 fun G3 q3 w32 hG3 r3 h32 => ⟨_, _, _, _, _, _, _, _, _, _, rfl, ?_⟩
  intro w41
  have h41 := h32.alloc (.cells ⟨cmdL zeroC (none, 0, 0)⟩ 42)
  refine ⟨rfl, ok_cmd h41 rfl (poolC [122, 122]) q3, ?_⟩
  intro w42
  have h42 : St E (blkL w32.heap.size 42 (cmdL (poolC [122, 122]) q3) :: kn G3 :: blkL bw 30 (cfgL s.ver ra pa) :: stA G2 p s :: refA G1 r s :: L) w42 := St.wr_cmd h41 rfl (poolC [122, 122]) q3
  clear_value w42
  clear h41
  clear_value w41
  generalize w32.heap.size = bc at *
  refine ⟨rfl, wrOk_fld h42.at_blk (by show 3 < 8; decide) rfl, ?_⟩
  intro w43
  have h43 : St E (blkL bc 42 (cmdL (zzC v) q3) :: kn G3 :: blkL bw 30 (cfgL s.ver ra pa) :: stA G2 p s :: refA G1 r s :: L) w43 := St.wr_fld (k := 3) (v := .int .i64 v) h42 rfl
  clear_value w43
  have n1 := rp.count pcV_len (by decide) (St.sel h30 3 [2, 0, 1]) at0
  have hxl : xs.length = s.pools.length := by rw [← hxs]; simp
  have ver0 := I.v0
  have go : ∀ (full : Bool) (w54 : World), (full = false → s.pools.length < 32 ∧ (Cm.putS s).length ≤ 11900) → St E (blkL bc 42 (cmdL (zzC v) q3) :: kn G3 :: blkL bw 30 (cfgL s.ver ra pa) :: stA G3 p s :: refA G1 r s :: L) w54 →
      ∃ x55 : Int, ∃ x56 : Int, ∃ x57 : Int, ∃ x58 : Int, ∃ s59 : ByteArray, ∃ s60 : ByteArray, ∃ s61 : ByteArray, ∃ s62a : Option Addr, ∃ s62l : Nat, ∃ s62c : Nat, rd w54 (⟨bc, 0, none⟩ : Addr) (.agg #[.int .i64 x55, .int .i64 x56, .int .i64 x57, .int .i64 x58, .string s59, .string s60, .string s61, .slice s62a s62l s62c]) ∧ Calls Tryz.prog 17 #[.pointer (some (⟨p, 0, none⟩ : Addr)), .agg #[.int .i64 x55, .int .i64 x56, .int .i64 x57, .int .i64 x58, .string s59, .string s60, .string s61, .slice s62a s62l s62c]] w54 (ret (fun r63 w64 => ∃ x65 : Int, ∃ x66 : Int, r63 = .agg #[.int .i64 x65, .int .i64 x66] ∧ let w67 : World := w64.alloc (.cells #[.int .i64 0, .int .i64 0] 45)
        (.agg #[.int .i64 x65, .int .i64 x66] : Value).cells.size = 2 ∧ wrOk w67 (⟨w64.heap.size, 0, none⟩ : Addr) (.agg #[.int .i64 x65, .int .i64 x66]) ∧ let w68 : World := wr w67 (⟨w64.heap.size, 0, none⟩ : Addr) (.agg #[.int .i64 x65, .int .i64 x66])
        ∃ x69 : Int, rd w68 (⟨bw, 0, none⟩ : Addr) (.int .i64 x69) ∧ if ((v : Int) != x69) = true then (T_law08_ConfExpects_4 (some (⟨p, 0, none⟩ : Addr)) (⟨bw, 0, none⟩ : Addr) (⟨w64.heap.size, 0, none⟩ : Addr) w68 (fun b97 w98 => R (.returned (.bool b97)) w98) (pan R)) else (Calls Tryz.prog 15 #[] w68 (ret (fun r99 w100 => ∃ b101 : Bool, r99 = .bool b101 ∧ if b101 = true then (if full = true then (R (.returned (.bool true)) w100) else (∃ x102 : Int, ∃ x103 : Int, rd w100 (⟨w64.heap.size, 0, none⟩ : Addr) (.agg #[.int .i64 x102, .int .i64 x103]) ∧ ∃ x104 : Int, rd w100 (⟨bw, 0, none⟩ : Addr) (.int .i64 x104) ∧ runV Tryz.prog (do eqGuard .eql 45 (.tmp 72) (.tmp 76) (.agg #[.int .i64 x102, .int .i64 x103]) (.agg #[.int .i64 0, .int .i64 (IntKind.wrap .i64 ((x104 : Int) + 1))]); binOp .eql 45 (.agg #[.int .i64 x102, .int .i64 x103]) (.agg #[.int .i64 0, .int .i64 (IntKind.wrap .i64 ((x104 : Int) + 1))])) w100 (fun r105 w106 => ∃ b107 : Bool, r105 = .bool b107 ∧ R (.returned (.bool b107)) w106) (pan R))) else (R (.returned (.bool false)) w100)) (pan R)))) (pan R)) := by
    intro full w54 hfull h54
    have hF13 : Fz.le F G3 := Fz.le_trans hG1 (Fz.le_trans hG2 hG3)
    refine ⟨_, _, _, _, _, _, _, _, _, _, rd_cmd h54, ?_⟩
    have h55 : St E (stA G3 p s :: kn G3 :: blkL bw 30 (cfgL s.ver ra pa) :: refA G1 r s :: L) w54 := h54.sel 5 [3, 1, 2, 4]
    refine Do_spec (c := zzC v) (q := q3) I r3 (ok_zz v) h55 fun G4 w64 hG4 h64 => ⟨_, _, rfl, ?_⟩
    intro w67
    have h67 := h64.alloc (.cells #[.int .i64 0, .int .i64 0] 45)
    refine ⟨rfl, ok_res h67 rfl _ _, ?_⟩
    intro w68
    have h68 : St E (blkL w64.heap.size 45 (rsL (Cm.doC s (zzC v)).2.1 (Cm.doC s (zzC v)).2.2) :: stA G4 p (Cm.doC s (zzC v)).1 :: kn G4 :: blkL bw 30 (cfgL s.ver ra pa) :: refA G1 r s :: L) w68 := h67.wr_res rfl _ _
    clear_value w68
    clear h67
    clear_value w67
    generalize w64.heap.size = br at *
    refine ⟨_, rd_cell h68.f3.at_blk rfl rfl, ite_b (fun hne => ?_) fun heq => ?_⟩
    · have hne : v ≠ s.ver := by simpa using hne
      rw [doC_stale (by omega) (by omega) hne] at h68
      unfold T_law08_ConfExpects_4
      intro w73
      have h73 : St E (blkL br 45 (rsL 12 s.ver) :: stA G4 p s :: kn G4 :: blkL bw 30 (cfgL s.ver ra pa) :: refA G1 r s :: L) w73 := h68.drew
      clear_value w73
      refine live_spec h73.f2 fun G5 w75 hG5 h75 => ⟨_, rfl, trivial, ite_b (fun _ => ?_) fun hh => by cases hh⟩
      refine ⟨_, _, rd_res h75.f1, _, rd_cell h75.f3.at_blk rfl rfl, ?_⟩
      refine runV_ok (res_eq _ _ _ _ _ _) ⟨_, rfl, trivial, ite_b (fun _ => ?_) fun hh => by simp at hh⟩
      refine ⟨_, _, _, _, _, _, _, rd_cfg h75.f3, ?_⟩
      have h76 : St E (stA G5 p s :: kn G5 :: blkL bw 30 (cfgL s.ver ra pa) :: refA G1 r s :: L) w75 := (St.sel (L := kn G5 :: blkL br 45 (rsL 12 s.ver) :: stA G4 p s :: blkL bw 30 (cfgL s.ver ra pa) :: refA G1 r s :: L) h75 5 [2, 0, 3, 4]).st_mono hG5
      refine Config_kn S h76 fun G6 w87 ra2 pa2 hG6 hcf2 h87 => ⟨_, _, _, _, _, _, _, rfl, ⟨rd_cfg h87.f2, trivial⟩, ?_⟩
      have l26 : Fz.le G2 G6 := Fz.le_trans hG3 (Fz.le_trans hG4 (Fz.le_trans hG5 hG6))
      refine SameConfig_spec (v1 := s.ver) (v2 := s.ver) at1 h87 hcf2 (hcf.mono l26) (by omega) (by have := I.rn; omega) (fun x hx => by have := (S.pl x hx).2.1; unfold huge; omega) fun w92 h92 => ⟨_, rfl, trivial, congB (k G6 _ (Fz.le_trans (Fz.le_trans hG1 hG2) l26) (h92.sel 4 [1])) (by simp)⟩
    · have heq : v = s.ver := by simpa using heq
      refine live_spec h68.f2 fun G5 w100 hG5 h100 => ⟨_, rfl, ite_b (fun _ => ?_) fun hh => by cases hh⟩
      have l5 : Fz.le F G5 := Fz.le_trans hF13 (Fz.le_trans hG4 hG5)
      refine ite_b (fun _ => k G5 _ l5 (h100.sel 5 [0])) fun hf => ?_
      obtain ⟨hp32, hput⟩ := hfull hf
      have hdo := doC_now I (by omega) (by omega) heq hp32 hput
      refine ⟨_, _, rd_res h100.f1, _, rd_cell h100.f3.at_blk rfl rfl, ?_⟩
      refine runV_ok (res_eq _ _ _ _ _ _) ⟨_, rfl, congB (k G5 _ l5 (h100.sel 5 [0])) ?_⟩
      rw [hdo, wrap_id (by omega) (by omega)]
      simp
  unfold T_law08_ConfExpects_3
  refine ⟨_, _, _, rd_fld h43.f2.at_blk rfl rfl, ?_⟩
  rw [← n1, hxl]
  have h43b : St E (blkL bc 42 (cmdL (zzC v) q3) :: kn G3 :: blkL bw 30 (cfgL s.ver ra pa) :: stA G3 p s :: refA G1 r s :: L) w43 := St.sel (L := stA G3 p s :: blkL bc 42 (cmdL (zzC v) q3) :: kn G3 :: blkL bw 30 (cfgL s.ver ra pa) :: refA G1 r s :: L) ((h43.sel 5 [3, 0, 1, 2, 4]).st_mono hG3) 5 [1, 2, 3, 0, 4]
  refine ite_d (fun _ => go true w43 (fun hh => by cases hh) h43b) fun hp => ?_
  have h44 : St E (stA G3 p s :: kn G3 :: blkL bc 42 (cmdL (zzC v) q3) :: blkL bw 30 (cfgL s.ver ra pa) :: refA G1 r s :: L) w43 := h43b.sel 5 [3, 1, 0, 2, 4]
  refine Put_spec at0 S I.lr (by have := I.ln; omega) h44 fun w48 b' h48 => ⟨_, _, _, rfl, ?_⟩
  have hlen := h48.by_len
  have h49 : St E (blkL bc 42 (cmdL (zzC v) q3) :: kn G3 :: blkL bw 30 (cfgL s.ver ra pa) :: stA G3 p s :: refA G1 r s :: L) w48 := h48.drop.sel 4 [2, 1, 3, 0]
  refine go (decide (((b'.2.1 : Nat) : Int) > 11900)) w48 (fun hf => ?_) h49
  have hf := of_decide_eq_false hf
  exact ⟨by omega, by omega⟩
theorem expects_law {H : Type} {enc : TypeId × Value → H} {W : World} {a : Option Addr} {l c : Nat} {v : Int} {d : DataW H} {ps : List MemPlace} (h : DataW.Trod enc Tryz.prog W 0 (fun _ => true) true 22 (.slice a l c) d ps) (hv : (Lit.int .i64 v).wf = true) :
    Calls Tryz.prog 6 #[.slice a l c, .int .i64 v] W fun e w' => e = .returned (.bool true) ∧ RowKit.Below W.heap.size W w' := by
  obtain ⟨ds, hd, _⟩ := open_cmds h
  have hv : -9223372036854775808 ≤ v ∧ v ≤ 9223372036854775807 := by
    simp [Lit.wf, IntKind.min, IntKind.max, IntKind.signed, IntKind.bits] at hv
    omega
  exact expects_walk hv hd (St.start_kn W) fun G w' hG h' => ⟨rfl, h'.below_kn hG⟩
end
end Go.Vc
