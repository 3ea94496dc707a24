/-
  What the net's functions do: put, Send, Under, Len, New and the clocks.
-/
import Derived.Test.YtilhnmncbpnfjaaFlightA
namespace Go.Vc
open Go Go.Proofs Go.Proofs.Ytilhnmncbpnfjaa

section
variable {E w : World} {L : List Asrt} {p : Nat} {N : Net}
theorem wrap_id {x : Int} (h1 : -9223372036854775808 ≤ x) (h2 : x ≤ 9223372036854775807) : IntKind.wrap .i64 x = x := by
  unfold IntKind.wrap
  simp [IntKind.signed, IntKind.bits]
  omega

theorem put_spec {s : Sl} {pm : Nat} {qs : List (Pkt × Sl)} {f t : Int} {b : Option Addr} {bl bc : Nat} {bs : List UInt8} {R : Ending → World → Prop}
    (h : St E (blkL p 62 (netV N s pm) :: ownS s.1 s.2.1 s.2.2 41 4 (qs.flatMap pktV) :: L) w) (hro : Sees E L b bl 1 (bytesV bs))
    (hq : qs.length ≤ 1000) (hb : bl ≤ 1000000) (h0 : 0 ≤ N.last) (h1 : N.last ≤ 1000000)
    (k : ∀ w' (s' sl : Sl), St E (blkL p 62 (netV { N with last := N.last + 1 } s' pm) :: ownS s'.1 s'.2.1 s'.2.2 41 4 ((qs ++ [mkp (N.last + 1) f t bs sl]).flatMap pktV) :: pktA (mkp (N.last + 1) f t bs sl) :: L) w' → R (.returned (.int .i64 (N.last + 1))) w') :
    Calls Try.prog 39 #[.pointer (some ⟨p, 0, none⟩), .int .i64 f, .int .i64 t, .slice b bl bc] w R := by
  refine C_flight_Net_put ?_
  unfold T_flight_Net_put
  have hw := wrap_id (x := N.last + 1) (by omega) (by omega)
  have hsl : s.2.1 = qs.length := (h.f1.rdS_own.count pktV_len (by decide)).symm
  refine ⟨_, rfl, _, rd_cell h.at_blk rfl rfl, _, rfl, rfl, wrOk_cell h.at_blk (by simp [netV]) rfl, ?_⟩
  rw [hw]
  intro w8 w9
  have h9 : St E (blkL p 62 (netV { N with last := N.last + 1 } s pm) :: ownS s.1 s.2.1 s.2.2 41 4 (qs.flatMap pktV) :: L) w9 := (h.wr_cell rfl).drew
  refine ⟨_, rfl, _, _, _, rd_fld h9.at_blk rfl rfl, _, rfl, _, rd_cell h9.at_blk rfl rfl, ?_⟩
  refine cloneBytes h9 (hro _ h9.drop.drop) (by omega) fun w15 a' c' h15 => ?_
  refine ⟨_, _, _, rfl, ⟨rd_cell h15.f1.at_blk rfl rfl, rd_fld h15.f1.at_blk rfl rfl, trivial⟩, ?_⟩
  intro w17
  have h17 := h15.alloc (.cells #[.int .i64 (N.last + 1), .int .i64 f, .int .i64 t, .slice a' bl c'] 41)
  refine ⟨⟨rd_fld h17.f2.at_blk rfl rfl, trivial⟩, ?_⟩
  have hro17 : RdS w17 (some ⟨w15.heap.size, 0, none⟩) 1 4 ([mkp (N.last + 1) f t bs (a', bl, c')].flatMap pktV) := (h17.ownS_mk (l := 1) (c := 1) (xs := [mkp (N.last + 1) f t bs (a', bl, c')].flatMap pktV) (rest := []) rfl (Nat.le_refl _) (by decide) rfl).rdS_own
  obtain ⟨a2, c2, w19, hr, h19⟩ := app_pkts (c2 := 1) h17.f3 hro17 (by omega)
  refine runV_ok hr ⟨_, _, _, rfl, trivial, _, rfl, rfl, wrOk_fld h19.f3.at_blk (by simp [netV]) rfl, ?_⟩
  intro w22
  have h22 := h19.f3.wr_fld (k := 1) (v := .slice a2 (s.2.1 + 1) c2) rfl
  refine ⟨trivial, _, rfl, _, rd_cell h22.at_blk rfl rfl, ?_⟩
  exact k _ (a2, s.2.1 + 1, c2) (a', bl, c') h22.f2.drop

def okN (N : Net) : Prop := N.under.length ≤ 128 ∧ (∀ q ∈ N.under, q.bytes.length ≤ 65536) ∧ 0 ≤ N.last ∧ N.last ≤ 100000 ∧ ∀ c ∈ N.clocks, 0 ≤ c ∧ c ≤ 100000

def nSend (N : Net) (f t : Int) (bs : List UInt8) : Net × Int × Int :=
  if isLink f t = false then (N, 0, 2)
  else if 65536 < bs.length ∨ 128 ≤ N.under.length then (N, 0, 6)
  else if 0 < (mget N.parted (f, t)).getD 0 then (N, 0, 8)
  else ({ N with last := N.last + 1, under := N.under ++ [⟨N.last + 1, f, t, bs⟩] }, N.last + 1, 0)
theorem look_parted {pm : Nat} (h : St E (mapA pm kvL vvI N.parted :: L) w) (f t : Int) :
    (Instr.lookup 60 (.map (some pm)) (.agg #[.int .i64 f, .int .i64 t]) false).run Try.prog w = .ok (.int .i64 ((mget N.parted (f, t)).getD 0)) w := by
  have := lookup_run linkLaw und_parted tm_int h (f, t)
  rw [show (Value.agg #[.int .i64 f, .int .i64 t]) = kvL (f, t) from rfl, this]
  cases mget N.parted (f, t) <;> rfl
theorem send_spec {f t : Int} {b : Option Addr} {bl bc : Nat} {bs : List UInt8} {R : Ending → World → Prop} (h : St E (netA p N :: L) w) (hro : Sees E L b bl 1 (bytesV bs)) (hN : okN N)
    (k : ∀ w', St E (netA p (nSend N f t bs).1 :: L) w' → R (.returned (.tuple #[.int .i64 (nSend N f t bs).2.1, .int .i64 (nSend N f t bs).2.2])) w') :
    Calls Try.prog 17 #[.pointer (some ⟨p, 0, none⟩), .int .i64 f, .int .i64 t, .slice b bl bc] w R := by
  obtain ⟨s, pm, qs, hc, hq, ho⟩ := h.net_open
  have hbl : bs.length = bl := by have := (hro _ h.drop).1; rw [bytesV_len] at this; omega
  have hql : qs.length = s.2.1 := ho.f1.rdS_own.count pktV_len (by decide)
  have hqn : N.under.length = s.2.1 := by rw [← hq, List.length_map, hql]
  obtain ⟨n1, n2, n3, n4, n5⟩ := hN
  refine C_flight_Net_Send ?_
  unfold T_flight_Net_Send
  refine ite_some (is_spec ⟨_, rfl, ite_n (fun hl => ?_) (fun hl => ?_)⟩)
  · rw [show nSend N f t bs = (N, 0, 2) by simp [nSend, hl]] at k
    exact k _ h
  · refine ite_d (fun hb => ?_) (fun hb => ?_)
    · rw [show nSend N f t bs = (N, 0, 6) by simp only [nSend, hl]; rw [if_neg (by simp), if_pos (Or.inl (by omega))]] at k
      exact ite_b (fun _ => k _ h) (fun hh => by cases hh)
    · refine ⟨_, rfl, _, _, _, rd_fld ho.at_blk rfl rfl, ite_d (fun hn => ?_) (fun hn => ?_)⟩
      · rw [show nSend N f t bs = (N, 0, 6) by simp only [nSend, hl]; rw [if_neg (by simp), if_pos (Or.inr (by omega))]] at k
        exact k _ h
      · refine ⟨_, rfl, _, rd_fld ho.at_blk rfl rfl, runV_ok (look_parted ho.f3 f t) ⟨_, rfl, ite_d (fun hg => ?_) (fun hg => ?_)⟩⟩
        · rw [show nSend N f t bs = (N, 0, 8) by simp only [nSend, hl]; rw [if_neg (by simp), if_neg (by omega), if_pos (by omega)]] at k
          exact k _ h
        · rw [show nSend N f t bs = ({ N with last := N.last + 1, under := N.under ++ [⟨N.last + 1, f, t, bs⟩] }, N.last + 1, 0) by simp only [nSend, hl]; rw [if_neg (by simp), if_neg (by omega), if_neg (by omega)]] at k
          refine put_spec (f := f) (t := t) ho ((hro.more _).more _) (by omega) (by omega) n3 (by omega) fun w2 s' sl h2 => ⟨_, rfl, k _ ?_⟩
          have h3 : St E (pksA (qs ++ [mkp (N.last + 1) f t bs sl]) :: blkL p 62 (netV { N with last := N.last + 1 } s' pm) :: ownS s'.1 s'.2.1 s'.2.2 41 4 ((qs ++ [mkp (N.last + 1) f t bs sl]).flatMap pktV) :: mapA pm kvL vvI N.parted :: L) w2 :=
            St.pks_app ((St.pks_cons (h2.f2.pks_nil.f1 :)).f3 :)
          exact St.net_mk (N := { N with last := N.last + 1, under := N.under ++ [⟨N.last + 1, f, t, bs⟩] }) h3.b2 hc (by simp [hq, mkp])
end
end Go.Vc
