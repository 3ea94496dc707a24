/-
  The program's store: three maps that hold what the lists hold; New, the configuration's bytes.
-/
import Derived.Test.YtcpmfjclkdjfmaaGreatConfS
import Derived.Test.YtcpmfjclkdjfmaaGreatConfPa
import Derived.Test.YtcpmfjclkdjfmaaGreatConfE
namespace Go.Vc
open Go Go.Proofs Go.Proofs.YtcpmfjclkdjfmaaGreat
set_option maxRecDepth 100000

theorem KeyLaw.comap {κ κ' : Type} [DecidableEq κ] [DecidableEq κ'] {P : Program} {t : TypeId} {d : TypeDesc} {kv : κ → Value} (K : KeyLaw P t d kv) (f : κ' → κ) (hf : ∀ a b, f a = f b → a = b) : KeyLaw P t d (fun a => kv (f a)) where
  und := K.und
  eq a b w := by rw [K.eq]; congr 1; exact decide_eq_decide.2 ⟨hf a b, congrArg f⟩
  chk a e w := K.chk (f a) e w
  now a b r h := by rw [K.now _ _ _ h]; exact decide_eq_decide.2 ⟨hf a b, congrArg f⟩
  bits a := K.bits (f a)
theorem strLaw : KeyLaw Tryz.prog 9 .string encS := KeyLaw.comap (keyLaw_string (t := 9) (by kernel_rfl)) bs fun _ _ h => bs_inj h
theorem intLaw : KeyLaw Tryz.prog 3 (.int .i64) encI := keyLaw_int (t := 3) (by kernel_rfl)
theorem placeLaw : KeyLaw Tryz.prog 89 (.struct #[⟨ "host", 9, 0, false, "", "tollgate/conf", 0⟩, ⟨ "prefix", 9, 1, false, "", "tollgate/conf", 16⟩]) encP :=
  KeyLaw.comap (keyLaw_str2 (P := Tryz.prog) (t := 89) (by kernel_rfl) (by kernel_rfl) (by kernel_rfl) (by decide) (by decide) rfl rfl (by kernel_rfl)) (fun x : Pr => (bs x.1, bs x.2))
    fun a b h => by simp only [Prod.mk.injEq] at h; exact Prod.ext (bs_inj h.1) (bs_inj h.2)
theorem und_pools : Tryz.prog.underlying 75 = some (.map 9 32) := by kernel_rfl
theorem und_routes : Tryz.prog.underlying 76 = some (.map 89 9) := by kernel_rfl
theorem und_clients : Tryz.prog.underlying 77 = some (.map 3 91) := by kernel_rfl
theorem tm_tgs : tmpl Tryz.prog 32 = some (.slice none 0 0) := by kernel_rfl
theorem tm_str : tmpl Tryz.prog 9 = some (.string (ByteArray.mk #[])) := by kernel_rfl
theorem tm_seen : tmpl Tryz.prog 91 = some (.agg #[.int .i64 0, .int .i64 0, .int .i64 0]) := by kernel_rfl

abbrev PV := Sl × List Cm.Tgt
def pvV (v : PV) : Value := .slice v.1.1 v.1.2.1 v.1.2.2
abbrev LV := Int × Int × Int
def lvV (v : LV) : Value := .agg #[.int .i64 v.1, .int .i64 v.2.1, .int .i64 v.2.2]
def plOf (e : Cm.Bs × PV) : Cm.Pl := ⟨e.1, e.2.2⟩
def rtK (r : Cm.Rt) : Pr × Cm.Bs := ((r.host, r.pfx), r.pool)
def laK (x : Cm.Last) : Int × LV := (x.client, x.seq, x.e, x.ver)
def goodP (F : Fz) (v : PV) : Prop := RdF F v.1.1 v.1.2.1 2 (v.2.flatMap tV)
def poolsR (F : Fz) (M : List (Cm.Bs × PV)) (ps : List Cm.Pl) : Prop := (∀ e ∈ M, goodP F e.2) ∧ (M.map plOf).Perm ps
def routesR (M : List (Pr × Cm.Bs)) (rs : List Cm.Rt) : Prop := M.Perm (rs.map rtK)
def clientsR (M : List (Int × LV)) (ls : List Cm.Last) : Prop := M.Perm (ls.map laK)
def stL (v : Int) (mp mr mc : Nat) : List Value := [.int .i64 v, .map (some mp), .map (some mr), .map (some mc)]
/-- The store at p is s. -/
def stA (F : Fz) (p : Nat) (s : Cm.Sm) : Asrt := fun h => ∃ (x : Nat × Nat × Nat × List (Cm.Bs × PV) × List (Pr × Cm.Bs) × List (Int × LV)), poolsR F x.2.2.2.1 s.pools ∧ routesR x.2.2.2.2.1 s.routes ∧ clientsR x.2.2.2.2.2 s.l ∧
  seps [blkL p 79 (stL s.ver x.1 x.2.1 x.2.2.1), mapA x.1 encS pvV x.2.2.2.1, mapA x.2.1 encP encS x.2.2.2.2.1, mapA x.2.2.1 encI lvV x.2.2.2.2.2] h
section
variable {E w : World} {L : List Asrt} {R : Ending → World → Prop} {F G : Fz} {p : Nat} {s : Cm.Sm}
abbrev st4 (p : Nat) (v : Int) (mp mr mc : Nat) (Mp : List (Cm.Bs × PV)) (Mr : List (Pr × Cm.Bs)) (Mc : List (Int × LV)) (L : List Asrt) : List Asrt :=
  blkL p 79 (stL v mp mr mc) :: mapA mp encS pvV Mp :: mapA mr encP encS Mr :: mapA mc encI lvV Mc :: L
theorem St.st_open (h : St E (stA F p s :: L) w) : ∃ mp mr mc Mp Mr Mc, poolsR F Mp s.pools ∧ routesR Mr s.routes ∧ clientsR Mc s.l ∧ St E (st4 p s.ver mp mr mc Mp Mr Mc L) w := by
  obtain ⟨en, x, ⟨h1, h2, d, rfl, ⟨y, ho1, ho2, ho3, hs⟩, hL⟩, hl⟩ := h
  exact ⟨_, _, _, _, _, _, ho1, ho2, ho3, St.open_ (L1 := [_, _, _, _]) ⟨en, _, ⟨h1, h2, d, rfl, hs, hL⟩, hl⟩⟩
theorem St.st_mk {mp mr mc : Nat} {Mp : List (Cm.Bs × PV)} {Mr : List (Pr × Cm.Bs)} {Mc : List (Int × LV)} (hp : poolsR F Mp s.pools) (hr : routesR Mr s.routes) (hc : clientsR Mc s.l) (h : St E (st4 p s.ver mp mr mc Mp Mr Mc L) w) : St E (stA F p s :: L) w :=
  (St.shut (L1 := [_, _, _, _]) h).mono fun _ hx => ⟨(mp, mr, mc, Mp, Mr, Mc), hp, hr, hc, hx⟩
theorem poolsR.mono {M : List (Cm.Bs × PV)} {ps : List Cm.Pl} (h : poolsR F M ps) (k : Fz.le F G) : poolsR G M ps := ⟨fun e he => RdF.mono (h.1 e he) k, h.2⟩
theorem St.st_mono (h : St E (stA F p s :: L) w) (k : Fz.le F G) : St E (stA G p s :: L) w := h.mono fun _ ⟨y, h1, h2, h3, h4⟩ => ⟨y, h1.mono k, h2, h3, h4⟩

theorem mget_mem {κ ν : Type} [DecidableEq κ] : ∀ {m : List (κ × ν)}, (m.map (·.1)).Nodup → ∀ {e : κ × ν}, e ∈ m → mget m e.1 = some e.2
  | [], _, _, h => by cases h
  | p :: r, hn, e, h => by
    rw [mget_cons]
    rw [List.map_cons, List.nodup_cons] at hn
    rcases List.mem_cons.1 h with rfl | h
    · simp
    · rw [if_neg (fun he : p.1 = e.1 => hn.1 (by rw [he]; exact List.mem_map_of_mem h)), mget_mem hn.2 h]
theorem St.nodup {κ ν : Type} [DecidableEq κ] {b : Nat} {kv : κ → Value} {vv : ν → Value} {m : List (κ × ν)} (h : St E (mapA b kv vv m :: L) w) : (m.map (·.1)).Nodup := by
  obtain ⟨_, _, _, _, hn, _⟩ := h.mapA_open
  exact hn
theorem mget_none_iff {κ ν : Type} [DecidableEq κ] {m : List (κ × ν)} {a : κ} : mget m a = none ↔ a ∉ m.map (·.1) := by
  refine ⟨fun h hm => ?_, mget_none_of⟩
  induction m with
  | nil => cases hm
  | cons e r ih =>
    rw [mget_cons] at h
    split at h
    · cases h
    · rename_i hne
      rcases List.mem_cons.1 hm with he | he
      · exact hne he.symm
      · exact ih h he
theorem mget_some {κ ν : Type} [DecidableEq κ] {m : List (κ × ν)} {a : κ} {v : ν} (h : mget m a = some v) : (a, v) ∈ m := by
  induction m with
  | nil => cases h
  | cons e r ih =>
    rw [mget_cons] at h
    split at h
    · rename_i he
      cases h
      exact List.mem_cons.2 (.inl (by rw [← he]))
    · exact List.mem_cons_of_mem _ (ih h)

/-- New: P8.2. -/
theorem New_spec (F : Fz) (h : St E L w) (k : ∀ p w', St E (stA F p Cm.new :: L) w' → R (.returned (.pointer (some ⟨p, 0, none⟩))) w') : Calls Tryz.prog 35 #[] w R := by
  refine C_conf_New ?_
  unfold T_conf_New
  intro w1 w2 w3 w4
  have h1 : St E (mapA w.heap.size encS pvV [] :: L) w1 := h.mapA_new encS pvV
  have h2 : St E (mapA w1.heap.size encP encS [] :: mapA w.heap.size encS pvV [] :: L) w2 := h1.mapA_new encP encS
  have h3 : St E (mapA w2.heap.size encI lvV [] :: mapA w1.heap.size encP encS [] :: mapA w.heap.size encS pvV [] :: L) w3 := h2.mapA_new encI lvV
  have h4 := h3.alloc (.cells #[.int .i64 0, .map (some w.heap.size), .map (some w1.heap.size), .map (some w2.heap.size)] 79)
  exact k _ _ (St.st_mk (mp := w.heap.size) (mr := w1.heap.size) (mc := w2.heap.size) (Mp := []) (Mr := []) (Mc := []) ⟨(fun e he => nomatch he), List.Perm.nil⟩ List.Perm.nil List.Perm.nil (h4.sel 4 [0, 3, 2, 1]))

/-- What a store's lists must be that its bytes can be laid. -/
structure Sz (s : Cm.Sm) : Prop where
  pl : ∀ p ∈ s.pools, p.name.length ≤ 128 ∧ shortTs p.tg
  pr : Cm.rises Cm.plLt s.pools = true
  pn : s.pools.length ≤ 64
  rt : ∀ r ∈ s.routes, r.host.length ≤ 128 ∧ r.pfx.length ≤ 128 ∧ r.pool.length ≤ 128
  rr : Cm.rises Cm.rtLt s.routes = true
  rn : s.routes.length ≤ 128
theorem short_of {l : List Cm.Tgt} (h : Cm.chkT l = 0) : shortTs l := ⟨(Cm.chkT_zero h).2, fun t ht => by
  have := Cm.chkT_good h t ht
  exact ⟨this.1, this.2⟩⟩
theorem Sz.of {s : Cm.Sm} (I : Cm.Inv s) : Sz s :=
  ⟨fun p hp => ⟨by have := Cm.name_len (I.pl p hp).1; omega, short_of (I.pl p hp).2⟩, I.pr, by have := I.pn; omega,
   fun r hr => ⟨by have := Cm.host_len (I.rt r hr).2.1; omega, by have := Cm.pfx_len (I.rt r hr).2.2; omega, by
     have := (I.rt r hr).1
     simp only [Cm.there, List.any_eq_true, decide_eq_true_eq] at this
     obtain ⟨p, hp, hn⟩ := this
     have := Cm.name_len (I.pl p hp).1
     rw [← hn]; omega⟩, I.rr, by have := I.rn; omega⟩
theorem tgsMax_short {l : List Cm.Tgt} (h : shortTs l) : tgsMax l ≤ 2278 := by
  have key : ∀ l : List Cm.Tgt, (∀ t ∈ l, t.addr.length ≤ 128) → (l.map fun t => 14 + t.addr.length).sum ≤ l.length * 142 := by
    intro l
    induction l with
    | nil => intro _; simp
    | cons a r ih =>
      intro hl
      have := ih fun t ht => hl t (List.mem_cons_of_mem _ ht)
      have := hl a List.mem_cons_self
      simp only [List.map_cons, List.sum_cons, List.length_cons]; omega
  have := key l fun t ht => (h.2 t ht).1
  have := h.1
  unfold tgsMax; omega
theorem tgs_max (l : List Cm.Tgt) : (Cm.tgs l).length ≤ tgsMax l := by
  have := flat_tgt_len l
  have := num_len l.length
  unfold tgsMax
  simp only [Cm.tgs, List.length_append]; omega
theorem flat_max {α : Type} {f : α → Cm.Bs} {c : Nat} : ∀ {l : List α}, (∀ a ∈ l, (f a).length ≤ c) → (l.flatMap f).length ≤ l.length * c
  | [], _ => by simp
  | a :: r, h => by
    have := flat_max (l := r) fun b hb => h b (List.mem_cons_of_mem _ hb)
    have := h a List.mem_cons_self
    rw [List.flatMap_cons, List.length_append, List.length_cons, Nat.add_mul]; omega
theorem plB_len {x : Cm.Pl} (h : x.name.length ≤ 128 ∧ shortTs x.tg) : (Cm.plB x).length ≤ 2412 := by
  have := text_len x.name
  have := tgs_max x.tg
  have := tgsMax_short h.2
  have := h.1
  simp only [Cm.plB, List.length_append]; omega
theorem rtB_len {x : Cm.Rt} (h : x.host.length ≤ 128 ∧ x.pfx.length ≤ 128 ∧ x.pool.length ≤ 128) : (Cm.rtB x).length ≤ 402 := by
  have := text_len x.host
  have := text_len x.pfx
  have := text_len x.pool
  obtain ⟨h1, h2, h3⟩ := h
  simp only [Cm.rtB, List.length_append]; omega
theorem take_all {α : Type} {P : α → Prop} {l : List α} (h : ∀ a ∈ l, P a) (j : Nat) : ∀ a ∈ l.take j, P a := fun a ha => h a (List.mem_of_mem_take ha)
theorem pls_len (S : Sz s) (j : Nat) : ((s.pools.take j).flatMap Cm.plB).length ≤ 154368 := by
  have h1 := flat_max (f := Cm.plB) (c := 2412) fun a ha => plB_len (take_all S.pl j a ha)
  have h2 : (s.pools.take j).length ≤ 64 := by have := S.pn; simp; omega
  have : (s.pools.take j).length * 2412 ≤ 64 * 2412 := Nat.mul_le_mul_right _ h2
  omega
theorem rts_len (S : Sz s) (j : Nat) : ((s.routes.take j).flatMap Cm.rtB).length ≤ 51456 := by
  have h1 := flat_max (f := Cm.rtB) (c := 402) fun a ha => rtB_len (take_all S.rt j a ha)
  have h2 : (s.routes.take j).length ≤ 128 := by have := S.rn; simp; omega
  have : (s.routes.take j).length * 402 ≤ 128 * 402 := Nat.mul_le_mul_right _ h2
  omega
theorem confB_len (S : Sz s) : (Cm.confB s.pools s.routes).length ≤ 210000 := by
  have h1 := pls_len S s.pools.length
  have h2 := rts_len S s.routes.length
  rw [List.take_length] at h1 h2
  have := num_len s.pools.length
  have := num_len s.routes.length
  simp only [Cm.confB, List.length_append]; omega
/-- The pools' names, the routes' places, in their order. -/
def nmK (p : Cm.Pl) : Cm.Bs := p.name
def plK (r : Cm.Rt) : Pr := (r.host, r.pfx)
theorem names_rise (h : Cm.rises Cm.plLt s.pools = true) : (s.pools.map nmK).Pairwise (· < ·) := by
  rw [List.pairwise_map]
  exact ((Cm.rises_iff Cm.plOrd _).1 h).imp fun {a b} h => of_decide_eq_true h
theorem places_rise (h : Cm.rises Cm.rtLt s.routes = true) : (s.routes.map plK).Pairwise fun a b => prLt a b = true := by
  rw [List.pairwise_map]
  exact ((Cm.rises_iff Cm.rtOrd _).1 h).imp fun {a b} h => h
theorem names_perm {M : List (Cm.Bs × PV)} {ps : List Cm.Pl} (h : poolsR F M ps) : (ps.map nmK).Perm (M.map (·.1)) := by
  have := (h.2.map nmK).symm
  rwa [List.map_map] at this
theorem places_perm {M : List (Pr × Cm.Bs)} {rs : List Cm.Rt} (h : routesR M rs) : (rs.map plK).Perm (M.map (·.1)) := by
  have := (h.map (·.1)).symm
  rwa [List.map_map] at this
theorem pool_get {M : List (Cm.Bs × PV)} {ps : List Cm.Pl} (h : poolsR F M ps) (hn : (M.map (·.1)).Nodup) {x : Cm.Pl} (hx : x ∈ ps) : ∃ v : PV, mget M x.name = some v ∧ v.2 = x.tg ∧ goodP F v := by
  have := h.2.mem_iff.2 hx
  obtain ⟨e, he, rfl⟩ := List.mem_map.1 this
  exact ⟨e.2, mget_mem hn he, rfl, h.1 e he⟩
theorem route_get {M : List (Pr × Cm.Bs)} {rs : List Cm.Rt} (h : routesR M rs) (hn : (M.map (·.1)).Nodup) {x : Cm.Rt} (hx : x ∈ rs) : mget M (x.host, x.pfx) = some x.pool := by
  have : rtK x ∈ M := h.mem_iff.2 (List.mem_map_of_mem hx)
  exact mget_mem hn this
theorem encS_bs (x : Cm.Bs) : encS x = .string (bs x) := rfl
theorem key_at {a : Option Addr} {ks : List Cm.Bs} (h : RdS w a ks.length 1 (ks.flatMap celS)) {j : Nat} (hj : j < ks.length) : ∃ ad, a = some ad ∧ rd w (ad.add (j * 1)) (.string (bs ks[j])) := by
  obtain ⟨ad, ha, _, hk⟩ := h.elem (f := celS) (fun _ => rfl) (List.getElem?_eq_getElem hj) (by decide)
  exact ⟨ad, ha, hk 0 _ rfl rfl⟩
end
end Go.Vc
