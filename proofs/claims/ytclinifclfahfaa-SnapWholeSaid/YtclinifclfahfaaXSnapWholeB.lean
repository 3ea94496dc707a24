/-
  Texts of this claim's own, laid into one: VcFz, ConfM, ConfA, ConfB, Gb, VcStr, ConfC, VcEq, ConfPa, Gr, ConfP, SnapM, SnapN, SnapA, SnapB, SnapC, SnapE, SnapO, Gm, SnapF, SnapG, SnapH, SnapI, SnapJ, SnapK, Gc.
-/
import Derived.Laws.Externs
import Derived.Test.YtclinifclfahfaaProg
import Derived.KernelRfl
import Derived.Laws.CopyRow
import Derived.Laws.MakeOwn
import Derived.Laws.OwnMore
import Derived.Laws.IdiomCopy
import Derived.Test.YtclinifclfahfaaXSnapWholeA
set_option linter.all false
/-
  What is known of memory for good (a growing map of blocks), beside what is owned; selections out of what is owned.
-/
namespace Go.Vc
open Go Go.RowKit

/-! ### selections -/
def nth : List Asrt → Nat → Asrt
  | [], _ => fun _ => True
  | A :: _, 0 => A
  | _ :: L, n + 1 => nth L n
def behindN : Nat → List Asrt → List Asrt
  | 0, L => L
  | n + 1, L => behindN n L.tail
abbrev behind (L : List Asrt) (n : Nat) : List Asrt := behindN n L
def pick (L : List Asrt) (n : Nat) : List Nat → List Asrt
  | [] => behind L n
  | i :: r => nth L i :: pick L n r
def pickOk (n : Nat) : List Nat → Bool
  | [] => true
  | i :: r => decide (i < n) && !r.contains i && pickOk n r
section
variable {E w : World} {L L' : List Asrt}
theorem St.dropN {L1 L2 : List Asrt} (h : St E (L1 ++ L2) w) : St E L2 w := by
  induction L1 with
  | nil => exact h
  | cons A r ih => exact ih h.drop
theorem St.sub (h : St E L w) (hs : L'.Sublist L) : St E L' w := by
  obtain ⟨l, hp⟩ := hs.exists_perm_append
  exact (h.perm (hp.trans List.perm_append_comm)).dropN
theorem nth_eq : ∀ (L : List Asrt) (i : Nat), i < L.length → L[i]? = some (nth L i)
  | [], _, h => by simp at h
  | A :: L, 0, _ => rfl
  | A :: L, i + 1, h => by simpa [nth] using nth_eq L i (by simpa using h)
theorem behind_eq : ∀ (L : List Asrt) (n : Nat), behind L n = L.drop n
  | L, 0 => by simp [behind, behindN]
  | [], n + 1 => by simpa [behind, behindN] using behind_eq [] n
  | A :: L, n + 1 => by simpa [behind, behindN] using behind_eq L n
theorem pick_eq (L : List Asrt) (n : Nat) : ∀ is : List Nat, pick L n is = is.map (nth L) ++ behind L n
  | [] => rfl
  | i :: r => by simp [pick, pick_eq L n r]
theorem pickOk_lt {n : Nat} : ∀ {is : List Nat}, pickOk n is = true → ∀ i ∈ is, i < n
  | [], _, _, h => by cases h
  | i :: r, h, j, hj => by
    simp only [pickOk, Bool.and_eq_true, decide_eq_true_eq] at h
    rcases List.mem_cons.1 hj with rfl | hj
    · exact h.1.1
    · exact pickOk_lt h.2 j hj
theorem pickOk_nodup {n : Nat} : ∀ {is : List Nat}, pickOk n is = true → is.Nodup
  | [], _ => List.nodup_nil
  | i :: r, h => by
    simp only [pickOk, Bool.and_eq_true, Bool.not_eq_true', List.contains_eq_mem, decide_eq_false_iff_not] at h
    exact List.nodup_cons.2 ⟨h.1.2, pickOk_nodup h.2⟩
theorem range_nth : ∀ (L : List Asrt) (n : Nat), n ≤ L.length → (List.range n).map (nth L) = L.take n := by
  intro L n hn
  apply List.ext_getElem?
  intro i
  simp only [List.getElem?_map, List.getElem?_take]
  by_cases hi : i < n
  · rw [List.getElem?_range hi, if_pos hi, nth_eq L i (by omega)]; rfl
  · rw [if_neg hi, List.getElem?_eq_none (by simp; omega)]; rfl
/-- Those of the first n that are named, in this order; the others of the n are let go. -/
theorem St.sel (h : St E L w) (n : Nat) (is : List Nat) (hn : n ≤ L.length := by first | simp | exact Nat.le_of_ble_eq_true rfl) (hk : pickOk n is = true := by decide) : St E (pick L n is) w := by
  rw [pick_eq, behind_eq]
  have hp : (is ++ (List.range n).filter fun i => !is.contains i).Perm (List.range n) := by
    refine (List.Perm.append_right _ ?_).trans (List.filter_append_perm (fun i => is.contains i) (List.range n))
    refine (List.perm_ext_iff_of_nodup (pickOk_nodup hk) (List.nodup_range.filter _)).2 fun a => ?_
    simp only [List.mem_filter, List.mem_range, List.contains_eq_mem, decide_eq_true_eq]
    exact ⟨fun ha => ⟨pickOk_lt hk a ha, ha⟩, fun ha => ha.2⟩
  have hp2 := hp.map (nth L)
  rw [range_nth L n hn, List.map_append] at hp2
  have h2 : St E (L.take n ++ L.drop n) w := by rwa [List.take_append_drop]
  have h3 := h2.perm (hp2.symm.append_right (L.drop n))
  exact h3.sub ((List.sublist_append_left _ _).append_right _)
end

/-! ### where it stands -/
section
variable {α : Type} {x : α} {l : List α}
theorem at0 : x ∈ x :: l := List.mem_cons_self
theorem at1 {a0 : α} : x ∈ a0 :: x :: l := List.mem_cons_of_mem _ at0
theorem at2 {a0 a1 : α} : x ∈ a0 :: a1 :: x :: l := List.mem_cons_of_mem _ at1
theorem at3 {a0 a1 a2 : α} : x ∈ a0 :: a1 :: a2 :: x :: l := List.mem_cons_of_mem _ at2
theorem at4 {a0 a1 a2 a3 : α} : x ∈ a0 :: a1 :: a2 :: a3 :: x :: l := List.mem_cons_of_mem _ at3
theorem at5 {a0 a1 a2 a3 a4 : α} : x ∈ a0 :: a1 :: a2 :: a3 :: a4 :: x :: l := List.mem_cons_of_mem _ at4
end
/-! ### what is known for good -/
abbrev Fz := Nat → Option Obj
def kn (F : Fz) : Asrt := fun h => ∀ b o, F b = some o → ∃ f, h b = some (f, o)
def Fz.le (F G : Fz) : Prop := ∀ b o, F b = some o → G b = some o
def Knows (F : Fz) (w : World) : Prop := ∀ b o, F b = some o → w.heap[b]? = some o
def Fz.put (F : Fz) (b : Nat) (o : Obj) : Fz := fun c => if c = b then some o else F c
def RdF (F : Fz) (a : Option Addr) (l sz : Nat) (xs : List Value) : Prop := ∀ w, Knows F w → RdS w a l sz xs
section
variable {E w : World} {L : List Asrt} {F G H : Fz} {a : Option Addr} {l c sz : Nat} {e : TypeId} {xs : List Value}
theorem Fz.le_refl (F : Fz) : Fz.le F F := fun _ _ h => h
theorem Fz.le_trans (h : Fz.le F G) (k : Fz.le G H) : Fz.le F H := fun b o x => k b o (h b o x)
theorem Knows.mono (h : Knows G w) (k : Fz.le F G) : Knows F w := fun b o x => h b o (k b o x)
theorem RdF.mono (h : RdF F a l sz xs) (k : Fz.le F G) : RdF G a l sz xs := fun w hw => h w (hw.mono k)
theorem St.knows (h : St E (kn F :: L) w) : Knows F w := fun b o hb => by
  obtain ⟨_, x, ⟨h1, h2, d, rfl, hA, hL⟩, hl⟩ := h
  obtain ⟨f, hf⟩ := hA b o hb
  exact hl b f o (by unfold un; rw [hf])
theorem St.know (h : St E L w) (hm : kn F ∈ L) : Knows F w := by
  obtain ⟨l1, l2, rfl⟩ := List.append_of_mem hm
  exact (St.front l1 h).knows
theorem RdF.at (h : RdF F a l sz xs) (hs : St E L w) (hm : kn F ∈ L := by simp) : RdS w a l sz xs := h w (hs.know hm)
theorem RdF.nil (F : Fz) (a : Option Addr) : RdF F a 0 sz [] := fun w _ => RdS.nil w a
theorem RdF.len (h : RdF F a l sz xs) (hs : St E L w) (hm : kn F ∈ L := by simp) : xs.length = l * sz := (h.at hs hm).1
theorem RdF.count {α : Type} {f : α → List Value} {qs : List α} (h : RdF F a l sz (qs.flatMap f)) (hf : ∀ q, (f q).length = sz) (h0 : 0 < sz) (hs : St E L w) (hm : kn F ∈ L := by simp) : qs.length = l := (h.at hs hm).count hf h0
theorem RdF.of_world {W : World} (h : RdS W a l sz xs) : RdF (fun b => W.heap[b]?) a l sz xs := fun w hw => by
  refine h.grow fun b hb => ?_
  rw [Array.getElem?_eq_getElem hb]
  exact hw b _ (Array.getElem?_eq_getElem hb)
theorem St.start_kn (w : World) : St w [kn fun b => w.heap[b]?] w := St.start w
theorem St.below_kn {w w' : World} (h : St w (kn F :: L) w') (k : Fz.le (fun b => w.heap[b]?) F) : Below w.heap.size w w' :=
  St.below (L := []) (St.sub (h.mono (B := old w) fun x hx b o hb => hx b o (k b o hb)) (List.Sublist.cons_cons _ (List.nil_sublist _)))
/-- A block of ours, wherever it stands. -/
theorem St.mem {b : Nat} {o : Obj} (h : St E L w) (hm : blk b o ∈ L) : w.heap[b]? = some o := by
  obtain ⟨l1, l2, rfl⟩ := List.append_of_mem hm
  exact (St.front l1 h).at_blk
/-- A block of ours is given up: it stays for good. -/
theorem St.learn {b : Nat} {o : Obj} (h : St E (blk b o :: kn F :: L) w) : Fz.le F (F.put b o) ∧ St E (kn (F.put b o) :: L) w := by
  obtain ⟨en, x, ⟨h1, h23, d, rfl, hA, h2, h3, d2, rfl, hB, hL⟩, hl⟩ := h
  have hA' : h1 b = some (true, o) := hA
  refine ⟨fun c u hc => ?_, en, un (un h1 h2) h3, ⟨un h1 h2, h3, ?_, rfl, ?_, hL⟩, ?_⟩
  · unfold Fz.put
    split
    · rename_i e
      subst e
      obtain ⟨f, hf⟩ := hB c u hc
      rcases d c with h' | h' | ⟨o', h', _⟩
      · rw [hA'] at h'; cases h'
      · simp [un, hf] at h'
      · rw [hA'] at h'; cases h'
    · exact hc
  · obtain ⟨d12, d13⟩ := dj_un d d2
    exact dj_un_left d13 d2
  · intro c u hc
    unfold Fz.put at hc
    split at hc
    · rename_i e
      subst e
      injection hc with hc
      subst hc
      exact ⟨true, by simp [un, hA']⟩
    · obtain ⟨f, hf⟩ := hB c u hc
      cases h1c : h1 c with
      | none => exact ⟨f, by simp [un, h1c, hf]⟩
      | some y =>
        rcases d c with h' | h' | ⟨o', h', h''⟩
        · rw [h'] at h1c; cases h1c
        · simp [un, hf] at h'
        · simp [un, hf] at h''
          exact ⟨false, by simp [un, h', h''.2]⟩
  · rw [un_assoc]; exact hl
theorem St.freezeS (h : St E (ownS a l c e sz xs :: kn F :: L) w) : ∃ G, Fz.le F G ∧ St E (kn G :: L) w ∧ RdF G a l sz xs := by
  have hf := h.ownS_facts
  rcases h.ownS_open with ⟨rfl, rfl, rfl, rfl⟩ | ⟨g, rest, rfl, hr, hs⟩
  · exact ⟨F, Fz.le_refl F, h.drop, RdF.nil F none⟩
  · obtain ⟨hle, h2⟩ := hs.learn
    refine ⟨_, hle, h2, fun w' hw => ⟨hf.1, .inr ⟨g, 0, rfl, fun i u hu => ?_⟩⟩⟩
    have hb := hw g (.cells ⟨xs ++ rest⟩ e (0, 0)) (by simp [Fz.put])
    rw [Nat.zero_add, cell_of hb, List.getElem?_append_left (List.getElem?_eq_some_iff.1 hu).1, hu]
theorem RdF.sub (h : RdF F a l sz xs) {lo hi : Nat} (h1 : lo ≤ hi) (h2 : hi ≤ l) (c0 : Nat) (hc : hi ≤ c0) :
    RdF F (if c0 = lo then a else a.map fun x => x.add (lo * sz)) (hi - lo) sz ((xs.drop (lo * sz)).take ((hi - lo) * sz)) := fun w hw => (h w hw).sub h1 h2 c0 hc
end

/-- Up to l, one by one. -/
theorem up_to (l : Nat) {Q : Nat → Prop} (h : ∀ j, j ≤ l → (j < l → Q (j + 1)) → Q j) : Q 0 := by
  have go : ∀ n j, n = l - j → j ≤ l → Q j := by
    intro n
    induction n with
    | zero => intro j hn hj; exact h j hj fun hl => absurd hl (by omega)
    | succ n ih => intro j hn hj; exact h j hj fun hl => ih (j + 1) (by omega) (by omega)
  exact go l 0 (by omega) (by omega)
theorem wrap_id {x : Int} (h1 : -9223372036854775808 ≤ x) (h2 : x ≤ 9223372036854775807) : IntKind.wrap .i64 x = x := by
  unfold IntKind.wrap
  simp [IntKind.signed, IntKind.bits]
  omega
end Go.Vc

/-
  Commands and configurations as plain lists: which may be, their bytes, and how bytes are read. No program in sight.
-/
namespace Go.Cm
abbrev Bs := List UInt8
structure Tgt where
  addr : Bs
  w : Nat
deriving DecidableEq
structure Cmd where
  act : Int
  client : Int
  seq : Int
  expect : Int
  host : Bs
  pfx : Bs
  pool : Bs
  tg : List Tgt
deriving DecidableEq
structure Rt where
  host : Bs
  pfx : Bs
  pool : Bs
deriving DecidableEq
structure Pl where
  name : Bs
  tg : List Tgt
deriving DecidableEq
structure Last where
  client : Int
  seq : Int
  e : Int
  ver : Int
deriving DecidableEq
structure Sm where
  ver : Int
  routes : List Rt
  pools : List Pl
  l : List Last
deriving DecidableEq

/-! ### which may be -/
def small (c : UInt8) : Bool := decide (97 ≤ c.toNat ∧ c.toNat ≤ 122) || decide (48 ≤ c.toNat ∧ c.toNat ≤ 57) || decide (c.toNat = 45)
def isName (s : Bs) : Bool := decide (1 ≤ s.length ∧ s.length ≤ 64) && s.all small
/-- point: was the last one a point (or is there none yet)? -/
def hostRun : Bool → Bs → Bool
  | p, [] => !p
  | p, c :: r => (small c || (decide (c.toNat = 46) && !p)) && hostRun (decide (c.toNat = 46)) r
def isHost (s : Bs) : Bool := decide (1 ≤ s.length ∧ s.length ≤ 64) && hostRun true s
def seen (c : UInt8) : Bool := decide (33 ≤ c.toNat ∧ c.toNat ≤ 126)
def pfxB (c : UInt8) : Bool := seen c && !decide (c.toNat = 63) && !decide (c.toNat = 35)
def isPfx (s : Bs) : Bool := decide (1 ≤ s.length ∧ s.length ≤ 128) && s.all pfxB && decide (s.head? = some 47)
def isAddr (s : Bs) : Bool := decide (1 ≤ s.length ∧ s.length ≤ 64) && s.all seen
def isW (w : Nat) : Bool := decide (w < 9218868437227405312)
def chkT (l : List Tgt) : Int :=
  if !l.all (fun t => isAddr t.addr) then 14 else if !l.all (fun t => isW t.w) then 15 else if 16 < l.length then 6 else 0
def usesPool (a : Int) : Bool := decide (a = 1) || decide (a = 2) || decide (a = 3)
def usesRoute (a : Int) : Bool := decide (a = 3) || decide (a = 4)
def seqOk (c : Cmd) : Bool := if c.client = 0 then decide (c.seq = 0) else decide (1 ≤ c.seq ∧ c.seq ≤ 1099511627776)
def argBad (c : Cmd) : Bool :=
  (!usesPool c.act && !usesRoute c.act) || decide (c.client < 0) || decide (32 < c.client) || !seqOk c || decide (c.expect < -1) || decide (1099511627776 ≤ c.expect) ||
  (!usesPool c.act && decide (c.pool ≠ [])) || (!usesRoute c.act && (decide (c.host ≠ []) || decide (c.pfx ≠ []))) || (decide (c.act ≠ 1) && decide (0 < c.tg.length))
def nameBad (c : Cmd) : Bool := (usesPool c.act && !isName c.pool) || (usesRoute c.act && (!isHost c.host || !isPfx c.pfx))
def chk (c : Cmd) : Int := if argBad c then 2 else if nameBad c then 14 else chkT c.tg

/-! ### bytes -/
def encNF : Nat → Nat → Bs
  | 0, n => [UInt8.ofNat n]
  | k + 1, n => if n < 128 then [UInt8.ofNat n] else UInt8.ofNat (n % 128 + 128) :: encNF k (n / 128)
def num (n : Int) : Bs := if n < 0 ∨ 1099511627776 < n then [] else encNF 5 n.toNat
def text (s : Bs) : Bs := num s.length ++ s
def f64 (w : Nat) : Bs := [UInt8.ofNat (w / 2 ^ 56), UInt8.ofNat (w / 2 ^ 48), UInt8.ofNat (w / 2 ^ 40), UInt8.ofNat (w / 2 ^ 32), UInt8.ofNat (w / 2 ^ 24), UInt8.ofNat (w / 2 ^ 16), UInt8.ofNat (w / 2 ^ 8), UInt8.ofNat w]
def tgt (t : Tgt) : Bs := text t.addr ++ f64 t.w
def tgs (l : List Tgt) : Bs := num l.length ++ l.flatMap tgt
def plB (p : Pl) : Bs := text p.name ++ tgs p.tg
def rtB (r : Rt) : Bs := text r.host ++ (text r.pfx ++ text r.pool)
def confB (pools : List Pl) (routes : List Rt) : Bs := num pools.length ++ (pools.flatMap plB ++ (num routes.length ++ routes.flatMap rtB))
/-! ### reading -/
abbrev Ps := Except Int Bs
def takeGo (k n : Nat) : Bs → Except Int (Nat × Bs)
  | [] => .error 3
  | c :: r => if 128 ≤ c.toNat then (if k = 5 then .error 6 else takeGo (k + 1) (n + c.toNat % 128 * 128 ^ k) r)
    else if c.toNat = 0 ∧ 0 < k then .error 4 else if 1099511627776 < n + c.toNat % 128 * 128 ^ k then .error 6 else .ok (n + c.toNat % 128 * 128 ^ k, r)
def rNum (most : Nat) : Ps → Nat × Ps
  | .error e => (0, .error e)
  | .ok r => match takeGo 0 0 r with
    | .error e => (0, .error e)
    | .ok (n, r') => if most < n then (0, .error 6) else (n, .ok r')
def rRow (n : Nat) : Ps → Bs × Ps
  | .error e => ([], .error e)
  | .ok r => if r.length < n then ([], .error 3) else (r.take n, .ok (r.drop n))
def rText (s : Ps) : Bs × Ps := rRow (rNum 128 s).1 (rNum 128 s).2
def bits (l : Bs) : Nat := l.foldl (fun n c => n * 256 + c.toNat) 0
def bad : Ps → Bool
  | .error _ => true
  | .ok _ => false
/-- n times, up to the first fault. -/
def rMany {α : Type} (f : Ps → α × Ps) : Nat → Ps → List α × Ps
  | 0, s => ([], s)
  | n + 1, s => if bad s then ([], s) else ((f s).1 :: (rMany f n (f s).2).1, (rMany f n (f s).2).2)
def rTgt (s : Ps) : Tgt × Ps := (⟨(rText s).1, bits (rRow 8 (rText s).2).1⟩, (rRow 8 (rText s).2).2)
def rTgs (s : Ps) : List Tgt × Ps := rMany rTgt (rNum 16 s).1 (rNum 16 s).2
def maxN : Nat := 1099511627776
def rPl (s : Ps) : Pl × Ps := (⟨(rText s).1, (rTgs (rText s).2).1⟩, (rTgs (rText s).2).2)
def rRt (s : Ps) : Rt × Ps := (⟨(rText s).1, (rText (rText s).2).1, (rText (rText (rText s).2).2).1⟩, (rText (rText (rText s).2).2).2)
def rLa (s : Ps) : Last × Ps :=
  let k := rNum maxN s
  let q := rNum maxN k.2
  let e := rNum maxN q.2
  let v := rNum maxN e.2
  (⟨k.1, q.1, e.1, v.1⟩, v.2)
def rSm (b : Bs) : Sm × Ps :=
  let v := rNum maxN (.ok b)
  let n := rNum 32 v.2
  let p := rMany rPl n.1 n.2
  let m := rNum 64 p.2
  let r := rMany rRt m.1 m.2
  let k := rNum 32 r.2
  let l := rMany rLa k.1 k.2
  (⟨v.1, r.1, p.1, l.1⟩, l.2)
def rtLt (a b : Rt) : Bool := decide (a.host < b.host) || (decide (a.host = b.host) && decide (a.pfx < b.pfx))
/-- Each one ahead of the next. -/
def rises {α : Type} (lt : α → α → Bool) : List α → Bool
  | [] => true
  | [_] => true
  | a :: b :: r => lt a b && rises lt (b :: r)
def told (e : Int) : Bool := decide (e = 0) || decide (e = 6) || decide (e = 8) || decide (e = 12) || decide (e = 13)
def rightL (v : Int) (x : Last) : Bool := decide (1 ≤ x.client ∧ x.client ≤ 32) && decide (1 ≤ x.seq) && told x.e && decide (x.ver ≤ v)
def right (s : Sm) : Bool :=
  (s.pools.all (fun p => isName p.name && decide (chkT p.tg = 0)) && rises (fun a b => decide (a.name < b.name)) s.pools) &&
  (s.routes.all (fun r => s.pools.any (fun p => decide (p.name = r.pool)) && isHost r.host && isPfx r.pfx) && rises rtLt s.routes) &&
  (s.l.all (rightL s.ver) && rises (fun a b => decide (a.client < b.client)) s.l) && decide ((confB s.pools s.routes).length ≤ 12000)
def load (b : Bs) : Except Int Sm :=
  match (rSm b).2 with
  | .error e => .error e
  | .ok r => if r ≠ [] ∨ right (rSm b).1 = false then .error 4 else .ok (rSm b).1

/-! ### what is put is got, and the other way round -/
theorem toNat_of (n : Nat) (h : n < 256) : (UInt8.ofNat n).toNat = n := by simp; omega
theorem take_enc : ∀ (j k acc m : Nat) (r : Bs), m < 128 ^ (j + 1) → k + j ≤ 5 → (0 < m ∨ k = 0) → acc + m * 128 ^ k ≤ 1099511627776 → takeGo k acc (encNF j m ++ r) = .ok (acc + m * 128 ^ k, r)
  | 0, k, acc, m, r, h1, _, h3, h4 => by
    have hm : m < 128 := by simpa using h1
    have e : (UInt8.ofNat m).toNat = m := toNat_of m (by omega)
    simp only [encNF, List.cons_append, List.nil_append, takeGo, e]
    rw [if_neg (by omega), if_neg (by omega), Nat.mod_eq_of_lt hm, if_neg (by omega)]
  | j + 1, k, acc, m, r, h1, h2, h3, h4 => by
    unfold encNF
    by_cases hm : m < 128
    · have e : (UInt8.ofNat m).toNat = m := toNat_of m (by omega)
      rw [if_pos hm]
      simp only [List.cons_append, List.nil_append, takeGo, e]
      rw [if_neg (by omega), if_neg (by omega), Nat.mod_eq_of_lt hm, if_neg (by omega)]
    · have e : (UInt8.ofNat (m % 128 + 128)).toNat = m % 128 + 128 := toNat_of _ (by omega)
      rw [if_neg hm]
      simp only [List.cons_append, takeGo, e]
      rw [if_pos (by omega), if_neg (by omega)]
      have e2 : (m % 128 + 128) % 128 = m % 128 := by omega
      have e3 : m / 128 * 128 ^ (k + 1) = 128 * (m / 128) * 128 ^ k := by rw [Nat.pow_succ]; simp only [Nat.mul_assoc, Nat.mul_comm, Nat.mul_left_comm]
      have e4 : m * 128 ^ k = m % 128 * 128 ^ k + 128 * (m / 128) * 128 ^ k := by rw [← Nat.add_mul, Nat.mod_add_div]
      rw [e2, take_enc j (k + 1) (acc + m % 128 * 128 ^ k) (m / 128) r (by rw [Nat.div_lt_iff_lt_mul (by decide)]; rwa [Nat.pow_succ] at h1) (by omega) (.inl (by omega)) (by rw [e3]; omega), e3, Nat.add_assoc, ← e4]
theorem enc_take : ∀ (b : Bs) (k acc n : Nat) (r : Bs), k ≤ 5 → takeGo k acc b = .ok (n, r) → ∃ m, b = encNF (5 - k) m ++ r ∧ n = acc + m * 128 ^ k ∧ m < 128 ^ (6 - k) ∧ (0 < m ∨ k = 0) ∧ n ≤ 1099511627776
  | [], _, _, _, _, _, h => by simp [takeGo] at h
  | c :: b, k, acc, n, r, hk, h => by
    unfold takeGo at h
    split at h
    · rename_i hc
      split at h
      · cases h
      · rename_i hk5
        obtain ⟨m, rfl, rfl, h3, h4, h5⟩ := enc_take b (k + 1) _ n r (by omega) h
        have hlt := c.toNat_lt
        have hm : 0 < m := by omega
        refine ⟨c.toNat % 128 + 128 * m, ?_, ?_, ?_, .inl (by omega), h5⟩
        · rw [show 5 - k = 5 - (k + 1) + 1 from by omega]
          conv => rhs; unfold encNF
          rw [if_neg (by omega), show (c.toNat % 128 + 128 * m) % 128 + 128 = c.toNat from by omega, show (c.toNat % 128 + 128 * m) / 128 = m from by omega]
          simp
        · rw [Nat.add_mul, Nat.pow_succ]
          simp only [Nat.mul_assoc, Nat.mul_comm, Nat.add_assoc]
        · rw [show 6 - k = 6 - (k + 1) + 1 from by omega, Nat.pow_succ]
          have := h3; omega
    · rename_i hc
      split at h
      · cases h
      · rename_i h0
        split at h
        · cases h
        · rename_i hn
          injection h with h
          injection h with h1 h2
          subst h1; subst h2
          have e : c.toNat % 128 = c.toNat := Nat.mod_eq_of_lt (by omega)
          refine ⟨c.toNat, ?_, by rw [e], ?_, by omega, by omega⟩
          · have : encNF (5 - k) c.toNat = [UInt8.ofNat c.toNat] := by
              cases 5 - k with
              | zero => rfl
              | succ j => unfold encNF; rw [if_pos (by omega)]
            rw [this]; simp
          · have : 128 ^ 1 ≤ 128 ^ (6 - k) := Nat.pow_le_pow_right (by decide) (by omega)
            omega
theorem rNum_put {most n : Nat} (h : n ≤ most) (h2 : n ≤ 1099511627776) (r : Bs) : rNum most (.ok (num n ++ r)) = (n, .ok r) := by
  have := take_enc 5 0 0 n r (by omega) (by omega) (.inr rfl) (by omega)
  simp only [rNum, num]
  rw [if_neg (by omega), Int.toNat_natCast, this]
  simp only [Nat.zero_add, Nat.pow_zero, Nat.mul_one]
  rw [if_neg (by omega)]
theorem rMany_put {α : Type} {f : Ps → α × Ps} {g : α → Bs} : ∀ (l : List α) (r : Bs), (∀ a ∈ l, ∀ r, f (.ok (g a ++ r)) = (a, .ok r)) → rMany f l.length (.ok (l.flatMap g ++ r)) = (l, .ok r)
  | [], r, _ => rfl
  | a :: l, r, h => by
    have e := h a List.mem_cons_self (l.flatMap g ++ r)
    have ih := rMany_put (f := f) (g := g) l r fun b hb => h b (List.mem_cons_of_mem _ hb)
    simp only [List.length_cons, rMany, List.flatMap_cons, List.append_assoc, e, ih]
    rw [if_neg (by simp [bad])]
/-! ### the checks' own bounds -/
end Go.Cm

/-
  Which names, hosts, prefixes, addresses, weights may be: the program's functions and the document's.
-/
namespace Go.Vc
open Go Go.Proofs Go.Proofs.Ytclinifclfahfaa
set_option maxRecDepth 100000

abbrev Sl := Option Addr × Nat × Nat
/-- As many bytes as a row can be made of; as many as a string that came in may have. -/
abbrev big : Nat := 140737488355328
abbrev huge : Nat := 9223372036854775807
def bs (s : Cm.Bs) : ByteArray := ⟨s.toArray⟩
theorem bs_toList (s : Cm.Bs) : (bs s).toList = s := toList_mk s
theorem bs_size (s : Cm.Bs) : (bs s).size = s.length := by simp [bs, ByteArray.size]
theorem bs_get (s : Cm.Bs) (i : Nat) : (bs s)[i]? = s[i]? := by
  show (getElem? (bs s) i) = _
  by_cases h : i < s.length
  · rw [getElem?_pos (bs s) i (by rw [bs_size]; exact h), List.getElem?_eq_getElem h]
    rfl
  · rw [getElem?_neg (bs s) i (by rw [bs_size]; exact h), List.getElem?_eq_none (by omega)]
theorem bs_inj {a b : Cm.Bs} (h : bs a = bs b) : a = b := by have := congrArg ByteArray.toList h; rwa [bs_toList, bs_toList] at this
theorem cong {α : Type} {K : α → World → Prop} {w : World} {a b : α} (k : K a w) (h : a = b) : K b w := h ▸ k
theorem congB {R : Ending → World → Prop} {w : World} {a b : Bool} (k : R (.returned (.bool a)) w) (h : a = b) : R (.returned (.bool b)) w := h ▸ k
theorem succ_big {j : Nat} (h : j < big) : IntKind.wrap .i64 ((j : Int) + 1) = ((j + 1 : Nat) : Int) := by rw [wrap_id (by omega) (by unfold big at h; omega)]; omega
theorem succ_huge {j : Nat} (h : j < huge) : IntKind.wrap .i64 ((j : Int) + 1) = ((j + 1 : Nat) : Int) := by rw [wrap_id (by omega) (by unfold huge at h; omega)]; omega

section
variable {E w : World} {L : List Asrt} {R : Ending → World → Prop}

/-! ### one byte, and each one -/
variable {s : Cm.Bs}
/-! ### the document's -/
end
end Go.Vc

/-
  Weights, targets, commands: which may be; the program's functions and the document's.
-/
namespace Go.Vc
open Go Go.Proofs Go.Proofs.Ytclinifclfahfaa
set_option maxRecDepth 100000

section
variable {E w : World} {L : List Asrt} {R : Ending → World → Prop}

/-! ### floats -/
abbrev two64 : Nat := 18446744073709551616
/-! ### targets -/
/-- What may come in: texts and lists of sizes that there are. -/
def okT (t : Cm.Tgt) : Prop := t.addr.length ≤ huge ∧ t.w < two64
def okTs (l : List Cm.Tgt) : Prop := l.length ≤ huge ∧ ∀ t ∈ l, okT t
variable {F : Fz} {s : Sl} {l : List Cm.Tgt}
/-! ### commands -/
theorem eq_dec (a b : Int) : (a == b) = decide (a = b) := by rw [Bool.eq_iff_iff]; simp
section
variable {Kn : Bool → World → Prop} {Kp : List PanicEntry → World → Prop} {c : Cm.Cmd} {b : Nat}
end
/-! ### the document's -/
section
variable {Kn : Bool → World → Prop} {Kp : List PanicEntry → World → Prop} {c : Cm.Cmd} {b : Nat}
end
end
end Go.Vc

/-
  What the functions' code comes to; printed by a program of this claim's own.
-/
namespace Go.Proofs.Ytclinifclfahfaa
open Go Go.Vc
set_option maxRecDepth 100000
set_option linter.unusedVariables false

/-! tollgate/frame.Frame -/
def T_frame_Frame (b1a : Option Addr) (b1l : Nat) (b1c : Nat) (w : World) (R : Ending → World → Prop) : Prop :=
  if (decide (((b1l : Nat) : Int) > 65536)) = true then (R (.returned (.tuple #[.slice none 0 0, .int .i64 6])) w) else (runV Try.prog (Instr.makeSlice 27 (.int .i64 (IntKind.wrap .i64 ((8 : Int) + ((b1l : Nat) : Int)))) (.int .i64 (IntKind.wrap .i64 ((8 : Int) + ((b1l : Nat) : Int))))) w (fun r2 w3 => ∃ s4a : Option Addr, ∃ s4l : Nat, ∃ s4c : Nat, r2 = .slice s4a s4l s4c ∧ Calls Try.prog 56 #[.slice s4a s4l s4c, .int .u32 (IntKind.wrap .u32 ((b1l : Nat) : Int))] w3 (ret (fun r5 w6 => r5 = .tuple #[] ∧ 0 ≤ (8 : Int) ∧ (8 : Int) ≤ ((s4l : Nat) : Int) ∧ runV Try.prog (Builtin.copy_ #[27, 27] 3 #[.slice (if s4c = ((8 : Int).toNat) then s4a else s4a.map (fun x => x.add (((8 : Int).toNat) * 1))) (s4l - ((8 : Int).toNat)) (s4c - ((8 : Int).toNat)), .slice b1a b1l b1c]) w6 (fun r7 w8 => ∃ x9 : Int, r7 = .int .i64 x9 ∧ let w10 : World := w8.drew
  0 ≤ (4 : Int) ∧ (4 : Int) ≤ ((s4l : Nat) : Int) ∧ 0 ≤ (4 : Int) ∧ (4 : Int) ≤ ((s4c : Nat) : Int) ∧ Calls Try.prog 58 #[.slice (if s4c = 0 then s4a else s4a.map (fun x => x.add (0 * 1))) (((4 : Int).toNat) - 0) (s4c - 0)] w10 (ret (fun r11 w12 => ∃ x13 : Int, r11 = .int .u32 x13 ∧ (True) ∧ Calls Try.prog 57 #[.int .u32 x13, .slice b1a b1l b1c] w12 (ret (fun r14 w15 => ∃ x16 : Int, r14 = .int .u32 x16 ∧ (True) ∧ Calls Try.prog 56 #[.slice (if s4c = ((4 : Int).toNat) then s4a else s4a.map (fun x => x.add (((4 : Int).toNat) * 1))) (s4l - ((4 : Int).toNat)) (s4c - ((4 : Int).toNat)), .int .u32 x16] w15 (ret (fun r17 w18 => r17 = .tuple #[] ∧ (True) ∧ R (.returned (.tuple #[.slice s4a s4l s4c, .int .i64 0])) w18) (pan R))) (pan R))) (pan R))) (pan R)) (pan R))) (pan R))

theorem T_frame_Frame_hl : allP (hokL Try.prog (hookAt []) (bodyOf Try.f30) 1) = (True) := by kernel_rfl

theorem T_frame_Frame_eq (b1a : Option Addr) (b1l : Nat) (b1c : Nat) (w : World) (R : Ending → World → Prop) : vcCode Try.prog (hookAt []) (bodyOf Try.f30) 1 ⟨argEnv [.slice b1a b1l b1c] 0, Try.f30.ntmps, []⟩ w (finQ Try.prog Try.f30.results.toList R) = T_frame_Frame b1a b1l b1c w R := by kernel_rfl

theorem T_frame_Frame_b : Try.f30.body = some (bodyOf Try.f30) := by kernel_rfl
theorem T_frame_Frame_s : (quietSel (bodyOf Try.f30) && Nat.ble 1 Try.f30.ntmps) = true := by kernel_rfl

theorem C_frame_Frame {b1a : Option Addr} {b1l : Nat} {b1c : Nat} {w : World} {R : Ending → World → Prop} (h : T_frame_Frame b1a b1l b1c w R) : Calls Try.prog 30 #[.slice b1a b1l b1c] w R :=
  calls_of_text (args := [.slice b1a b1l b1c]) mixed Try.func30 T_frame_Frame_b T_frame_Frame_s (HOk_of _ _ (by rw [T_frame_Frame_hl]; exact trivial)) (by rw [T_frame_Frame_eq]; exact h)

/-! tollgate/frame.Next -/
def T_frame_Next_1 (b3a : Option Addr) (b3l : Nat) (b3c : Nat) (at4 : Int) (w : World) (Kn : Bool → World → Prop) (Kp : List PanicEntry → World → Prop) : Prop :=
  if (decide ((at4 : Int) < 0)) = true then (Kn true w) else (Kn (decide ((at4 : Int) > ((b3l : Nat) : Int))) w)

def T_frame_Next_1_outs : Exit → Option (List (Nat × Value)) := fun x => match x with | .normal => some [(18, .bool false)] | .panic _ => some [] | _ => none

def T_frame_Next_1_ks : Nat → Bool := ksOf [11, 12, 13, 14, 15, 16, 17, 18]

def H_frame_Next_1 : Env → World → QT → Prop := unitHook 63 T_frame_Next_1_ks [(0, .slice none 0 0), (1, .int .i64 0)] T_frame_Next_1_outs fun l w C => match l with | [v0, v1] => T_frame_Next_1 (pA v0) (pL v0) (pC v0) (pInt v1) w (fun b6 w => C .normal [.bool b6] w) (fun ch w => C (.panic ch) [] w) | _ => False

theorem T_frame_Next_1_hl : allP (hokL Try.prog (hookAt []) (at_ (bodyOf Try.f31) [1, 0, 0]) 12) = (True) := by kernel_rfl
theorem T_frame_Next_1_hok : HOk Try.prog (hookAt []) (at_ (bodyOf Try.f31) [1, 0, 0]) 12 := HOk_of _ _ (by rw [T_frame_Next_1_hl]; exact trivial)

theorem T_frame_Next_1_eq (C : Conts) (b3a : Option Addr) (b3l : Nat) (b3c : Nat) (at4 : Int) (w : World) : vcCode Try.prog (hookAt []) (at_ (bodyOf Try.f31) [1, 0, 0]) 12 ⟨[(0, .slice b3a b3l b3c), (1, .int .i64 at4)], 63, []⟩ w (unitQ T_frame_Next_1_outs C) = T_frame_Next_1 b3a b3l b3c at4 w (fun b7 w => C .normal [.bool b7] w) (fun ch w => C (.panic ch) [] w) := by kernel_rfl

theorem T_frame_Next_1_ok : UnitOk Try.prog H_frame_Next_1 (at_ (bodyOf Try.f31) [1, 0, 0]) 12 := unit_ok (H := (hookAt [])) (by kernel_rfl) T_frame_Next_1_hok fun l w C hk => by
    obtain ⟨v0, l_v0, rfl, k_v0, hk_v0⟩ := Kinds.cons_ hk
    obtain ⟨b3a, b3l, b3c, rfl⟩ := kind_slice k_v0
    obtain ⟨v1, l_v1, rfl, k_v1, hk_v1⟩ := Kinds.cons_ hk_v0
    obtain ⟨at4, rfl⟩ := kind_int k_v1
    obtain rfl := Kinds.nil_ hk_v1
    exact T_frame_Next_1_eq C b3a b3l b3c at4 w

def T_frame_Next (b1a : Option Addr) (b1l : Nat) (b1c : Nat) (at2 : Int) (w : World) (R : Ending → World → Prop) : Prop :=
  T_frame_Next_1 b1a b1l b1c at2 w (fun b8 w9 => if b8 = true then (R (.returned (.tuple #[.slice none 0 0, .int .i64 0, .int .i64 2])) w9) else (0 ≤ (at2 : Int) ∧ (at2 : Int) ≤ ((b1l : Nat) : Int) ∧ if (decide (((b1l - ((at2 : Int).toNat) : Nat) : Int) < 8)) = true then (R (.returned (.tuple #[.slice none 0 0, .int .i64 0, .int .i64 3])) w9) else (Calls Try.prog 59 #[.slice (if b1c = ((at2 : Int).toNat) then b1a else b1a.map (fun x => x.add (((at2 : Int).toNat) * 1))) (b1l - ((at2 : Int).toNat)) (b1c - ((at2 : Int).toNat))] w9 (ret (fun r10 w11 => ∃ x12 : Int, r10 = .int .u32 x12 ∧ if (decide ((x12 : Int) > 65536)) = true then (R (.returned (.tuple #[.slice none 0 0, .int .i64 0, .int .i64 6])) w11) else (if (decide ((IntKind.wrap .i64 (((b1l - ((at2 : Int).toNat) : Nat) : Int) - 8) : Int) < (IntKind.wrap .i64 x12))) = true then (R (.returned (.tuple #[.slice none 0 0, .int .i64 0, .int .i64 3])) w11) else (0 ≤ (IntKind.wrap .i64 ((8 : Int) + (IntKind.wrap .i64 x12)) : Int) ∧ (IntKind.wrap .i64 ((8 : Int) + (IntKind.wrap .i64 x12)) : Int) ≤ ((b1c - ((at2 : Int).toNat) : Nat) : Int) ∧ 0 ≤ (8 : Int) ∧ (8 : Int) ≤ (((IntKind.wrap .i64 ((8 : Int) + (IntKind.wrap .i64 x12)) : Int).toNat : Nat) : Int) ∧ let w13 : World := w11.drew
  0 ≤ (4 : Int) ∧ (4 : Int) ≤ ((b1c - ((at2 : Int).toNat) : Nat) : Int) ∧ 0 ≤ (4 : Int) ∧ (4 : Int) ≤ ((b1l - ((at2 : Int).toNat) : Nat) : Int) ∧ Calls Try.prog 58 #[.slice (if (b1c - ((at2 : Int).toNat)) = 0 then (if b1c = ((at2 : Int).toNat) then b1a else b1a.map (fun x => x.add (((at2 : Int).toNat) * 1))) else (if b1c = ((at2 : Int).toNat) then b1a else b1a.map (fun x => x.add (((at2 : Int).toNat) * 1))).map (fun x => x.add (0 * 1))) (((4 : Int).toNat) - 0) ((b1c - ((at2 : Int).toNat)) - 0)] w13 (ret (fun r14 w15 => ∃ x16 : Int, r14 = .int .u32 x16 ∧ (True) ∧ Calls Try.prog 57 #[.int .u32 x16, .slice (if (b1c - ((at2 : Int).toNat)) = ((8 : Int).toNat) then (if b1c = ((at2 : Int).toNat) then b1a else b1a.map (fun x => x.add (((at2 : Int).toNat) * 1))) else (if b1c = ((at2 : Int).toNat) then b1a else b1a.map (fun x => x.add (((at2 : Int).toNat) * 1))).map (fun x => x.add (((8 : Int).toNat) * 1))) (((IntKind.wrap .i64 ((8 : Int) + (IntKind.wrap .i64 x12)) : Int).toNat) - ((8 : Int).toNat)) ((b1c - ((at2 : Int).toNat)) - ((8 : Int).toNat))] w15 (ret (fun r17 w18 => ∃ x19 : Int, r17 = .int .u32 x19 ∧ (True) ∧ Calls Try.prog 59 #[.slice (if (b1c - ((at2 : Int).toNat)) = ((4 : Int).toNat) then (if b1c = ((at2 : Int).toNat) then b1a else b1a.map (fun x => x.add (((at2 : Int).toNat) * 1))) else (if b1c = ((at2 : Int).toNat) then b1a else b1a.map (fun x => x.add (((at2 : Int).toNat) * 1))).map (fun x => x.add (((4 : Int).toNat) * 1))) ((b1l - ((at2 : Int).toNat)) - ((4 : Int).toNat)) ((b1c - ((at2 : Int).toNat)) - ((4 : Int).toNat))] w18 (ret (fun r20 w21 => ∃ x22 : Int, r20 = .int .u32 x22 ∧ (True) ∧ if ((x19 : Int) != x22) = true then (R (.returned (.tuple #[.slice none 0 0, .int .i64 0, .int .i64 5])) w21) else (runV Try.prog (Instr.makeSlice 27 (.int .i64 ((((IntKind.wrap .i64 ((8 : Int) + (IntKind.wrap .i64 x12)) : Int).toNat) - ((8 : Int).toNat) : Nat) : Int)) (.int .i64 ((((IntKind.wrap .i64 ((8 : Int) + (IntKind.wrap .i64 x12)) : Int).toNat) - ((8 : Int).toNat) : Nat) : Int))) w21 (fun r23 w24 => ∃ s25a : Option Addr, ∃ s25l : Nat, ∃ s25c : Nat, r23 = .slice s25a s25l s25c ∧ runV Try.prog (Builtin.copy_ #[27, 27] 3 #[.slice s25a s25l s25c, .slice (if (b1c - ((at2 : Int).toNat)) = ((8 : Int).toNat) then (if b1c = ((at2 : Int).toNat) then b1a else b1a.map (fun x => x.add (((at2 : Int).toNat) * 1))) else (if b1c = ((at2 : Int).toNat) then b1a else b1a.map (fun x => x.add (((at2 : Int).toNat) * 1))).map (fun x => x.add (((8 : Int).toNat) * 1))) (((IntKind.wrap .i64 ((8 : Int) + (IntKind.wrap .i64 x12)) : Int).toNat) - ((8 : Int).toNat)) ((b1c - ((at2 : Int).toNat)) - ((8 : Int).toNat))]) w24 (fun r26 w27 => ∃ x28 : Int, r26 = .int .i64 x28 ∧ R (.returned (.tuple #[.slice s25a s25l s25c, .int .i64 (IntKind.wrap .i64 ((IntKind.wrap .i64 ((at2 : Int) + 8) : Int) + (IntKind.wrap .i64 x12))), .int .i64 0])) w27) (pan R)) (pan R))) (pan R))) (pan R))) (pan R))))) (pan R))))) (pan R)

theorem T_frame_Next_hl : allP (hokL Try.prog (hookAt [(12, H_frame_Next_1)]) (bodyOf Try.f31) 1) = (UnitOk Try.prog H_frame_Next_1 (at_ (bodyOf Try.f31) [1, 0, 0]) 12 ∧ True) := by kernel_rfl

theorem T_frame_Next_eq (b1a : Option Addr) (b1l : Nat) (b1c : Nat) (at2 : Int) (w : World) (R : Ending → World → Prop) : vcCode Try.prog (hookAt [(12, H_frame_Next_1)]) (bodyOf Try.f31) 1 ⟨argEnv [.slice b1a b1l b1c, .int .i64 at2] 0, Try.f31.ntmps, []⟩ w (finQ Try.prog Try.f31.results.toList R) = T_frame_Next b1a b1l b1c at2 w R := by kernel_rfl

theorem T_frame_Next_b : Try.f31.body = some (bodyOf Try.f31) := by kernel_rfl
theorem T_frame_Next_s : (quietSel (bodyOf Try.f31) && Nat.ble 2 Try.f31.ntmps) = true := by kernel_rfl

theorem C_frame_Next {b1a : Option Addr} {b1l : Nat} {b1c : Nat} {at2 : Int} {w : World} {R : Ending → World → Prop} (h : T_frame_Next b1a b1l b1c at2 w R) : Calls Try.prog 31 #[.slice b1a b1l b1c, .int .i64 at2] w R :=
  calls_of_text (args := [.slice b1a b1l b1c, .int .i64 at2]) mixed Try.func31 T_frame_Next_b T_frame_Next_s (HOk_of _ _ (by rw [T_frame_Next_hl]; exact ⟨T_frame_Next_1_ok, trivial⟩)) (by rw [T_frame_Next_eq]; exact h)

end Go.Proofs.Ytclinifclfahfaa

/-
  A text appended to bytes of ours; byte rows.
-/
namespace Go.Vc
open Go Go.RowKit

def bytesV (l : List UInt8) : List Value := l.map fun b => .int .u8 (b.toNat : Int)
theorem bytesV_len (l : List UInt8) : (bytesV l).length = l.length := by simp [bytesV]
theorem bytesV_one (l : List UInt8) : ∀ u ∈ bytesV l, one u = true := by
  intro u hu
  obtain ⟨b, _, rfl⟩ := List.mem_map.1 hu
  rfl
theorem bytesV_app (a b : List UInt8) : bytesV (a ++ b) = bytesV a ++ bytesV b := List.map_append
section
variable {P : Program} {E w : World} {L : List Asrt} {t u ty e : TypeId} {i : TypeInfo} {z : Value}
end
end Go.Vc

/-
  Numbers, texts, weights, targets as bytes: appended and taken; the program's functions and the document's.
-/
namespace Go.Vc
open Go Go.Proofs Go.Proofs.Ytclinifclfahfaa
set_option maxRecDepth 100000

/-! ### arithmetic -/
theorem ofInt_nat (n : Nat) (h : n < 18446744073709551616) : (BitVec.ofInt 64 (n : Int)).toNat = n := by
  rw [BitVec.toNat_ofInt]; omega
theorem and127 (n : Nat) (h : n < 18446744073709551616) : ((BitVec.ofInt (IntKind.bits .i64) (n : Int)) &&& (BitVec.ofInt (IntKind.bits .i64) 127)).toNat = n % 128 := by
  show ((BitVec.ofInt 64 (n : Int)) &&& (BitVec.ofInt 64 127)).toNat = _
  rw [BitVec.toNat_and, ofInt_nat n h, show (BitVec.ofInt 64 127).toNat = 2 ^ 7 - 1 from by decide, Nat.and_two_pow_sub_one_eq_mod]
theorem or128 : ∀ x : Fin 128, x.val ||| 128 = x.val + 128 := by decide
theorem wrap_nat {n : Nat} (h : n < 9223372036854775808) : IntKind.wrap .i64 (n : Int) = n := wrap_id (by omega) (by omega)
theorem wrap_u8_mod (n : Nat) : IntKind.wrap .u8 (n : Int) = ((UInt8.ofNat n).toNat : Int) := by
  unfold IntKind.wrap
  simp [IntKind.signed, IntKind.bits]
theorem low7 (n : Nat) (h : n < 9223372036854775808) : IntKind.wrap .u8 (IntKind.wrap .i64 ((BitVec.ofInt (IntKind.bits .i64) (IntKind.wrap .i64 ((BitVec.ofInt (IntKind.bits .i64) (n : Int)) &&& (BitVec.ofInt (IntKind.bits .i64) 127)).toNat)) ||| (BitVec.ofInt (IntKind.bits .i64) 128)).toNat) = ((UInt8.ofNat (n % 128 + 128)).toNat : Int) := by
  rw [and127 n (by omega), wrap_nat (n := n % 128) (by omega)]
  have e : ((BitVec.ofInt (IntKind.bits .i64) ((n % 128 : Nat) : Int)) ||| (BitVec.ofInt (IntKind.bits .i64) 128)).toNat = n % 128 + 128 := by
    show ((BitVec.ofInt 64 ((n % 128 : Nat) : Int)) ||| (BitVec.ofInt 64 128)).toNat = _
    rw [BitVec.toNat_or, ofInt_nat _ (by omega), show (BitVec.ofInt 64 128).toNat = 128 from by decide]
    exact or128 ⟨n % 128, by omega⟩
  rw [e, wrap_nat (n := n % 128 + 128) (by omega), wrap_u8_mod]
theorem or_add {acc x k : Nat} (h : acc < 2 ^ k) (hb : x * 2 ^ k + acc < 9223372036854775808) : IntKind.wrap .i64 ((BitVec.ofInt (IntKind.bits .i64) (acc : Int)) ||| (BitVec.ofInt (IntKind.bits .i64) ((x * 2 ^ k : Nat) : Int))).toNat = ((acc + x * 2 ^ k : Nat) : Int) := by
  have e : ((BitVec.ofInt (IntKind.bits .i64) (acc : Int)) ||| (BitVec.ofInt (IntKind.bits .i64) ((x * 2 ^ k : Nat) : Int))).toNat = acc + x * 2 ^ k := by
    show ((BitVec.ofInt 64 (acc : Int)) ||| (BitVec.ofInt 64 ((x * 2 ^ k : Nat) : Int))).toNat = _
    rw [BitVec.toNat_or, ofInt_nat _ (by omega), ofInt_nat _ (by omega), Nat.or_comm, Nat.mul_comm x, ← Nat.two_pow_add_eq_or_of_lt h, Nat.add_comm]
  rw [e, wrap_nat (by omega)]

section
variable {E w : World} {L : List Asrt} {R : Ending → World → Prop} {F : Fz}

/-! ### bytes of ours -/
def byA (s : Sl) (xs : Cm.Bs) : Asrt := ownS s.1 s.2.1 s.2.2 5 1 (bytesV xs)
theorem St.by_len {s : Sl} {xs : Cm.Bs} (h : St E (byA s xs :: L) w) : xs.length = s.2.1 := by have := h.ownS_facts.1; rw [bytesV_len] at this; omega
theorem St.by_nil (h : St E L w) : St E (byA (none, 0, 0) [] :: L) w := h.ownS_nil
theorem St.by_new (h : St E L w) (xs : Cm.Bs) (hl : xs.length ≤ big) : St E (byA (some ⟨w.heap.size, 0, none⟩, xs.length, xs.length) xs :: L) (w.alloc (.cells ⟨bytesV xs⟩ 5)) :=
  (St.ownS_mk (xs := bytesV xs) (rest := []) (l := xs.length) (c := xs.length) (sz := 1) (by rw [List.append_nil]; exact h.alloc _) (by rw [bytesV_len]; omega) (Nat.le_refl _) (by unfold big at hl; unfold maxLen; omega) (by simp) :)
theorem app_b {s : Sl} {a2 : Option Addr} {l2 c2 : Nat} {xs ys : Cm.Bs} (h : St E (byA s xs :: L) w) (hro : RdS w a2 l2 1 (bytesV ys)) (hb : xs.length + ys.length ≤ big) :
    ∃ (s' : Sl) (w' : World), (Builtin.append_ #[27, 27] 27 #[.slice s.1 s.2.1 s.2.2, .slice a2 l2 c2]).run Try.prog w = .ok (.slice s'.1 s'.2.1 s'.2.2) w' ∧ St E (byA s' (xs ++ ys) :: L) w' := by
  have hl := h.by_len
  have hl2 : ys.length = l2 := by have := hro.1; rw [bytesV_len] at this; omega
  obtain ⟨a', c', w', hr, hs⟩ := append_own (P := Try.prog) (t := 27) (ty := 27) (e := 5) (i := Try.t5) (z := .int .u8 0) (by kernel_rfl) (by kernel_rfl) (by kernel_rfl) (by kernel_rfl) (by decide) (c2 := c2) h hro (bytesV_one ys)
    (by have : Try.t5.bytes = 1 := by kernel_rfl
        rw [this]; unfold big at hb; omega) (by unfold big at hb; unfold maxLen; omega)
  exact ⟨(a', s.2.1 + l2, c'), w', hr, by rw [byA, bytesV_app]; exact hs⟩
theorem app_1 {s : Sl} {xs : Cm.Bs} {x : UInt8} (h : St E (byA s xs :: L) w) (hb : xs.length + 1 ≤ big) :
    ∃ (s' : Sl) (w' : World), (Builtin.append_ #[27, 27] 27 #[.slice s.1 s.2.1 s.2.2, .slice (some ⟨w.heap.size, 0, none⟩) 1 1]).run Try.prog (w.alloc (.cells #[.int .u8 (x.toNat : Int)] 5)) = .ok (.slice s'.1 s'.2.1 s'.2.2) w' ∧ St E (byA s' (xs ++ [x]) :: L) w' := by
  have h2 : St E (byA (some ⟨w.heap.size, 0, none⟩, 1, 1) [x] :: byA s xs :: L) (w.alloc (.cells #[.int .u8 (x.toNat : Int)] 5)) := h.by_new [x] (show 1 ≤ big by decide)
  obtain ⟨s', w', hr, hs⟩ := app_b (c2 := 1) h2.f1 (St.rdS_own h2) (by simpa using hb)
  exact ⟨s', w', hr, hs.f1.drop⟩
/-! ### numbers -/
theorem number_spec {s : Sl} {xs : Cm.Bs} (j : Nat) {n : Nat} (hn : n < 128 ^ (j + 1)) (hj : j ≤ 5) (h : St E (byA s xs :: L) w) (hb : xs.length + 6 ≤ big)
    (k : ∀ (w' : World) (s' : Sl), St E (byA s' (xs ++ Cm.encNF j n) :: L) w' → R (.returned (.slice s'.1 s'.2.1 s'.2.2)) w') : Calls Try.prog 74 #[.slice s.1 s.2.1 s.2.2, .int .i64 (n : Int)] w R := by
  refine C_wire_number ?_
  unfold T_wire_number T_wire_number_1
  intro X hX
  have go : ∀ (j : Nat) (n : Nat) (s : Sl) (ys : Cm.Bs) (w : World), n < 128 ^ (j + 1) → j ≤ 5 → ys.length + j + 1 ≤ big → St E (byA s ys :: L) w → (∀ (w' : World) (s' : Sl), St E (byA s' (ys ++ Cm.encNF j n) :: L) w' → R (.returned (.slice s'.1 s'.2.1 s'.2.2)) w') → X s.1 s.2.1 s.2.2 (n : Int) w := by
    intro j
    induction j with
    | zero =>
      intro n s ys w hn hj hb h k
      refine hX _ _ _ _ _ ?_
      unfold T_wire_number_1_body
      refine ite_d (fun hc => absurd hc (by have : n < 128 := by simpa using hn
                                            omega)) (fun hc => ?_)
      dsimp -zeta only
      intro w20
      obtain ⟨s', w', hr, hs⟩ := app_1 (x := UInt8.ofNat n) h (by omega)
      rw [← wrap_u8_mod] at hr
      exact runV_ok hr ⟨_, _, _, rfl, k _ _ hs⟩
    | succ j ih =>
      intro n s ys w hn hj hb h k
      refine hX _ _ _ _ _ ?_
      unfold T_wire_number_1_body
      have hn2 : n < 9223372036854775808 := Nat.lt_of_lt_of_le hn (Nat.le_trans (Nat.pow_le_pow_right (by decide) (by omega : j + 1 + 1 ≤ 6)) (by decide))
      refine ite_d (fun hc => ?_) (fun hc => ?_)
      · intro w5
        obtain ⟨s', w', hr, hs⟩ := app_1 (x := UInt8.ofNat (n % 128 + 128)) h (by omega)
        rw [← low7 n hn2] at hr
        refine runV_ok hr ⟨_, _, _, rfl, ?_⟩
        rw [show Int.fdiv (n : Int) (2 ^ 7) = ((n / 128 : Nat) : Int) from by
          rw [Int.fdiv_eq_ediv_of_nonneg _ (by decide)]; norm_cast]
        refine ih (n / 128) s' _ _ (by rw [Nat.div_lt_iff_lt_mul (by decide)]; rwa [Nat.pow_succ] at hn) (by omega) (by simp; omega) hs fun w2 s2 h2 => k w2 s2 ?_
        rw [Cm.encNF, if_neg (by omega)]
        simpa using h2
      · dsimp -zeta only
        intro w20
        obtain ⟨s', w', hr, hs⟩ := app_1 (x := UInt8.ofNat n) h (by omega)
        rw [← wrap_u8_mod] at hr
        refine runV_ok hr ⟨_, _, _, rfl, k _ _ ?_⟩
        rw [Cm.encNF, if_pos (by omega)]
        exact hs
  exact go j n s xs w hn hj (by omega) h k
def numE (n : Int) : Int := if n < 0 ∨ 1099511627776 < n then 2 else 0
theorem Number_spec {n : Int} (h : St E L w) (k : ∀ (w' : World) (s' : Sl), St E (byA s' (Cm.num n) :: L) w' → R (.returned (.tuple #[.slice s'.1 s'.2.1 s'.2.2, .int .i64 (numE n)])) w') : Calls Try.prog 55 #[.int .i64 n] w R := by
  refine C_wire_Number ?_
  unfold T_wire_Number
  unfold numE Cm.num at k
  refine ite_d (fun h1 => ?_) fun h1 => ite_d (fun h2 => ?_) fun h2 => ?_
  · rw [if_pos (.inl h1), if_pos (.inl h1)] at k
    exact k w (none, 0, 0) h.by_nil
  · rw [if_pos (.inr (by omega)), if_pos (.inr (by omega))] at k
    exact k w (none, 0, 0) h.by_nil
  · rw [if_neg (by omega), if_neg (by omega)] at k
    obtain ⟨m, rfl⟩ := Int.eq_ofNat_of_zero_le (by omega : 0 ≤ n)
    exact number_spec (s := (none, 0, 0)) (xs := []) 5 (n := m) (by omega) (by omega) h.by_nil (by decide) fun w' s' h' => ⟨_, _, _, rfl, k w' s' (by simpa using h')⟩
section
variable {s : Sl} {xs : Cm.Bs}
/-! ### weights, targets -/
end
end
end Go.Vc

/-
  Structs held against each other.
-/
namespace Go.Vc
open Go
section
variable {P : Program} {t : TypeId} {w : World} {x y : Operand}
theorem run_eq_agg {a b : Array Value} {r : Bool} (hg : P.eqGuardType P.depth t = false) (he : (Op.equal t (.agg a) (.agg b)).run P w = .ok r w) :
    (do eqGuard .eql t x y (.agg a) (.agg b); binOp .eql t (.agg a) (.agg b) : Sem Value).run P w = .ok (.bool r) w := by
  simp [eqGuard, program, Sem.run, hg, binOp, he]
end
end Go.Vc

/-
  Rows of targets; targets and commands held against each other.
-/
namespace Go.Vc
open Go Go.Proofs Go.Proofs.Ytclinifclfahfaa
set_option maxRecDepth 100000
section
variable {E w : World} {L : List Asrt} {R : Ending → World → Prop} {F : Fz}
def shortTs (l : List Cm.Tgt) : Prop := l.length ≤ 16 ∧ ∀ t ∈ l, t.addr.length ≤ 128 ∧ t.w < two64
theorem shortTs.ok {l : List Cm.Tgt} (h : shortTs l) : okTs l := ⟨by have := h.1; unfold huge; omega, fun t ht => ⟨by have := (h.2 t ht).1; unfold huge; omega, (h.2 t ht).2⟩⟩
/-! ### the same -/
end
end Go.Vc

/-
  What the functions' code comes to; printed by a program of this claim's own.
-/
namespace Go.Proofs.Ytclinifclfahfaa
open Go Go.Vc
set_option maxRecDepth 100000
set_option linter.unusedVariables false

/-! tollgate/wire.TakeNumber -/
def T_wire_TakeNumber_1 (b3a : Option Addr) (b3l : Nat) (b3c : Nat) (at4 : Int) (w : World) (Kn : Bool → World → Prop) (Kp : List PanicEntry → World → Prop) : Prop :=
  if (decide ((at4 : Int) < 0)) = true then (Kn true w) else (Kn (decide ((at4 : Int) > ((b3l : Nat) : Int))) w)

def T_wire_TakeNumber_1_outs : Exit → Option (List (Nat × Value)) := fun x => match x with | .normal => some [(17, .bool false)] | .panic _ => some [] | _ => none

def T_wire_TakeNumber_1_ks : Nat → Bool := ksOf [10, 11, 12, 13, 14, 15, 16, 17]

def H_wire_TakeNumber_1 : Env → World → QT → Prop := unitHook 58 T_wire_TakeNumber_1_ks [(0, .slice none 0 0), (1, .int .i64 0)] T_wire_TakeNumber_1_outs fun l w C => match l with | [v0, v1] => T_wire_TakeNumber_1 (pA v0) (pL v0) (pC v0) (pInt v1) w (fun b6 w => C .normal [.bool b6] w) (fun ch w => C (.panic ch) [] w) | _ => False

theorem T_wire_TakeNumber_1_hl : allP (hokL Try.prog (hookAt []) (at_ (turnB 0 900001 900002 (bodyOf Try.f52)) [1, 0, 0]) 12) = (True) := by kernel_rfl
theorem T_wire_TakeNumber_1_hok : HOk Try.prog (hookAt []) (at_ (turnB 0 900001 900002 (bodyOf Try.f52)) [1, 0, 0]) 12 := HOk_of _ _ (by rw [T_wire_TakeNumber_1_hl]; exact trivial)

theorem T_wire_TakeNumber_1_eq (C : Conts) (b3a : Option Addr) (b3l : Nat) (b3c : Nat) (at4 : Int) (w : World) : vcCode Try.prog (hookAt []) (at_ (turnB 0 900001 900002 (bodyOf Try.f52)) [1, 0, 0]) 12 ⟨[(0, .slice b3a b3l b3c), (1, .int .i64 at4)], 58, []⟩ w (unitQ T_wire_TakeNumber_1_outs C) = T_wire_TakeNumber_1 b3a b3l b3c at4 w (fun b7 w => C .normal [.bool b7] w) (fun ch w => C (.panic ch) [] w) := by kernel_rfl

theorem T_wire_TakeNumber_1_ok : UnitOk Try.prog H_wire_TakeNumber_1 (at_ (turnB 0 900001 900002 (bodyOf Try.f52)) [1, 0, 0]) 12 := unit_ok (H := (hookAt [])) (by kernel_rfl) T_wire_TakeNumber_1_hok fun l w C hk => by
    obtain ⟨v0, l_v0, rfl, k_v0, hk_v0⟩ := Kinds.cons_ hk
    obtain ⟨b3a, b3l, b3c, rfl⟩ := kind_slice k_v0
    obtain ⟨v1, l_v1, rfl, k_v1, hk_v1⟩ := Kinds.cons_ hk_v0
    obtain ⟨at4, rfl⟩ := kind_int k_v1
    obtain rfl := Kinds.nil_ hk_v1
    exact T_wire_TakeNumber_1_eq C b3a b3l b3c at4 w

def T_wire_TakeNumber_3 (k19 : Int) (c20 : Int) (w : World) (Kn : Bool → World → Prop) (Kp : List PanicEntry → World → Prop) : Prop :=
  if ((c20 : Int) == 0) = true then (Kn (decide ((k19 : Int) > 1)) w) else (Kn false w)

def T_wire_TakeNumber_3_outs : Exit → Option (List (Nat × Value)) := fun x => match x with | .normal => some [(44, .bool false)] | .panic _ => some [] | _ => none

def T_wire_TakeNumber_3_ks : Nat → Bool := ksOf [44, 45, 46, 47, 48, 49, 50]

def H_wire_TakeNumber_3 : Env → World → QT → Prop := unitHook 58 T_wire_TakeNumber_3_ks [(8, .int .i64 0), (9, .int .i64 0)] T_wire_TakeNumber_3_outs fun l w C => match l with | [v0, v1] => T_wire_TakeNumber_3 (pInt v0) (pInt v1) w (fun b22 w => C .normal [.bool b22] w) (fun ch w => C (.panic ch) [] w) | _ => False

theorem T_wire_TakeNumber_3_hl : allP (hokL Try.prog (hookAt []) (at_ (turnB 0 900001 900002 (bodyOf Try.f52)) [1, 1, 1, 0, 0, 0, 0, 1, 1, 1, 1, 1, 0, 0, 0]) 61688) = (True) := by kernel_rfl
theorem T_wire_TakeNumber_3_hok : HOk Try.prog (hookAt []) (at_ (turnB 0 900001 900002 (bodyOf Try.f52)) [1, 1, 1, 0, 0, 0, 0, 1, 1, 1, 1, 1, 0, 0, 0]) 61688 := HOk_of _ _ (by rw [T_wire_TakeNumber_3_hl]; exact trivial)

theorem T_wire_TakeNumber_3_eq (C : Conts) (k19 : Int) (c20 : Int) (w : World) : vcCode Try.prog (hookAt []) (at_ (turnB 0 900001 900002 (bodyOf Try.f52)) [1, 1, 1, 0, 0, 0, 0, 1, 1, 1, 1, 1, 0, 0, 0]) 61688 ⟨[(8, .int .i64 k19), (9, .int .i64 c20)], 58, []⟩ w (unitQ T_wire_TakeNumber_3_outs C) = T_wire_TakeNumber_3 k19 c20 w (fun b23 w => C .normal [.bool b23] w) (fun ch w => C (.panic ch) [] w) := by kernel_rfl

theorem T_wire_TakeNumber_3_ok : UnitOk Try.prog H_wire_TakeNumber_3 (at_ (turnB 0 900001 900002 (bodyOf Try.f52)) [1, 1, 1, 0, 0, 0, 0, 1, 1, 1, 1, 1, 0, 0, 0]) 61688 := unit_ok (H := (hookAt [])) (by kernel_rfl) T_wire_TakeNumber_3_hok fun l w C hk => by
    obtain ⟨v0, l_v0, rfl, k_v0, hk_v0⟩ := Kinds.cons_ hk
    obtain ⟨k19, rfl⟩ := kind_int k_v0
    obtain ⟨v1, l_v1, rfl, k_v1, hk_v1⟩ := Kinds.cons_ hk_v0
    obtain ⟨c20, rfl⟩ := kind_int k_v1
    obtain rfl := Kinds.nil_ hk_v1
    exact T_wire_TakeNumber_3_eq C k19 c20 w

def T_wire_TakeNumber_2_body (X : Int → Int → World → Prop) (n10 : Int) (k11 : Int) (b12a : Option Addr) (b12l : Nat) (b12c : Nat) (at13 : Int) (w : World) (Kr : Int → Int → Int → World → Prop) (Kp : List PanicEntry → World → Prop)  : Prop :=
  if ((IntKind.wrap .i64 ((at13 : Int) + k11) : Int) == ((b12l : Nat) : Int)) = true then (Kr 0 0 3 w) else (0 ≤ (IntKind.wrap .i64 ((at13 : Int) + k11) : Int) ∧ (IntKind.wrap .i64 ((at13 : Int) + k11) : Int) < ((b12l : Nat) : Int) ∧ ∃ b14, b12a = some b14 ∧ ∃ x15 : Int, rd w (b14.add ((IntKind.wrap .i64 ((at13 : Int) + k11) : Int).toNat * 1)) (.int .u8 x15) ∧ runV Try.prog (do eqGuard .shl 3 (.tmp 33) (.tmp 35) (.int .i64 (IntKind.wrap .i64 ((BitVec.ofInt (IntKind.bits .i64) (IntKind.wrap .i64 x15)) &&& (BitVec.ofInt (IntKind.bits .i64) 127)).toNat)) (.int .i64 (IntKind.wrap .i64 ((7 : Int) * k11))); binOp .shl 3 (.int .i64 (IntKind.wrap .i64 ((BitVec.ofInt (IntKind.bits .i64) (IntKind.wrap .i64 x15)) &&& (BitVec.ofInt (IntKind.bits .i64) 127)).toNat)) (.int .i64 (IntKind.wrap .i64 ((7 : Int) * k11)))) w (fun r16 w17 => ∃ x18 : Int, r16 = .int .i64 x18 ∧ if (decide ((IntKind.wrap .i64 x15 : Int) ≥ 128)) = true then (if ((IntKind.wrap .i64 ((k11 : Int) + 1) : Int) == 6) = true then (Kr 0 0 6 w17) else (X (IntKind.wrap .i64 ((BitVec.ofInt (IntKind.bits .i64) n10) ||| (BitVec.ofInt (IntKind.bits .i64) x18)).toNat) (IntKind.wrap .i64 ((k11 : Int) + 1)) w17)) else (T_wire_TakeNumber_3 (IntKind.wrap .i64 ((k11 : Int) + 1)) (IntKind.wrap .i64 x15) w17 (fun b24 w25 => if b24 = true then (Kr 0 0 4 w25) else (if (decide ((IntKind.wrap .i64 ((BitVec.ofInt (IntKind.bits .i64) n10) ||| (BitVec.ofInt (IntKind.bits .i64) x18)).toNat : Int) > 1099511627776)) = true then (Kr 0 0 6 w25) else (Kr (IntKind.wrap .i64 ((BitVec.ofInt (IntKind.bits .i64) n10) ||| (BitVec.ofInt (IntKind.bits .i64) x18)).toNat) (IntKind.wrap .i64 ((at13 : Int) + (IntKind.wrap .i64 ((k11 : Int) + 1)))) 0 w25))) Kp)) Kp)

def T_wire_TakeNumber_2 (n10 : Int) (k11 : Int) (b12a : Option Addr) (b12l : Nat) (b12c : Nat) (at13 : Int) (w : World) (Kr : Int → Int → Int → World → Prop) (Kp : List PanicEntry → World → Prop) : Prop :=
  ∀ X : Int → Int → World → Prop, (∀ (n10 : Int) (k11 : Int) (w : World), T_wire_TakeNumber_2_body X n10 k11 b12a b12l b12c at13 w Kr Kp → X n10 k11 w) → X n10 k11 w

def T_wire_TakeNumber_2_outs : Exit → Option (List (Nat × Value)) := fun x => match x with | .ret => some [(4, .int .i64 0), (5, .int .i64 0), (6, .int .i64 0)] | .panic _ => some [] | _ => none

def T_wire_TakeNumber_2_ks : Nat → Bool := ksOf [4, 5, 6, 7, 8, 9, 18, 19, 20, 21, 22, 23, 24, 25, 26, 27, 28, 29, 30, 31, 32, 33, 34, 35, 36, 37, 38, 39, 40, 41, 42, 43, 44, 45, 46, 47, 48, 49, 50, 51, 52, 53, 54, 55, 56, 57]

def H_wire_TakeNumber_2 : Env → World → QT → Prop := unitHook 58 T_wire_TakeNumber_2_ks [(7, .int .i64 0), (8, .int .i64 0), (0, .slice none 0 0), (1, .int .i64 0)] T_wire_TakeNumber_2_outs fun l w C => match l with | [v0, v1, v2, v3] => T_wire_TakeNumber_2 (pInt v0) (pInt v1) (pA v2) (pL v2) (pC v2) (pInt v3) w (fun x29 x30 x31 w => C .ret [.int .i64 x29, .int .i64 x30, .int .i64 x31] w) (fun ch w => C (.panic ch) [] w) | _ => False

theorem T_wire_TakeNumber_2_hl : allP (hokL Try.prog (hookAt [(61688, H_wire_TakeNumber_3)]) (at_ (turnB 0 900001 900002 (bodyOf Try.f52)) [1, 1, 1, 0, 0]) 60) = (UnitOk Try.prog H_wire_TakeNumber_3 (at_ (turnB 0 900001 900002 (bodyOf Try.f52)) [1, 1, 1, 0, 0, 0, 0, 1, 1, 1, 1, 1, 0, 0, 0]) 61688 ∧ True) := by kernel_rfl
theorem T_wire_TakeNumber_2_hok : HOk Try.prog (hookAt [(61688, H_wire_TakeNumber_3)]) (at_ (turnB 0 900001 900002 (bodyOf Try.f52)) [1, 1, 1, 0, 0]) 60 := HOk_of _ _ (by rw [T_wire_TakeNumber_2_hl]; exact ⟨T_wire_TakeNumber_3_ok, trivial⟩)

theorem T_wire_TakeNumber_2_eq (C : Conts) (X : List Value → World → Prop) (n10 : Int) (k11 : Int) (b12a : Option Addr) (b12l : Nat) (b12c : Nat) (at13 : Int) (w : World) : vcCode Try.prog (hookAt [(61688, H_wire_TakeNumber_3)]) (at_ (turnB 0 900001 900002 (bodyOf Try.f52)) [1, 1, 1, 0, 0]) 60 ⟨[(7, .int .i64 n10), (8, .int .i64 k11)] ++ [(0, .slice b12a b12l b12c), (1, .int .i64 at13)], 58, []⟩ w (seqQ (fun e w => takeAll e [(7, .int .i64 0), (8, .int .i64 0)] fun l => X l w) (blockQ 900002 (unitQ T_wire_TakeNumber_2_outs C))) = T_wire_TakeNumber_2_body (fun n10 k11 w => X [.int .i64 n10, .int .i64 k11] w) n10 k11 b12a b12l b12c at13 w (fun x32 x33 x34 w => C .ret [.int .i64 x32, .int .i64 x33, .int .i64 x34] w) (fun ch w => C (.panic ch) [] w) := by kernel_rfl

theorem T_wire_TakeNumber_2_ok : UnitOk Try.prog H_wire_TakeNumber_2 (at_ (turnB 0 900001 900002 (bodyOf Try.f52)) [1, 1, 1]) 15 := by
  have hc : at_ (turnB 0 900001 900002 (bodyOf Try.f52)) [1, 1, 1] = .block 900002 (.loop (at_ (turnB 0 900001 900002 (bodyOf Try.f52)) [1, 1, 1, 0, 0])) := by kernel_rfl
  rw [hc]
  refine loop_unit_ok (carr := [(7, .int .i64 0), (8, .int .i64 0)]) (fix := [(0, .slice none 0 0), (1, .int .i64 0)]) (ks := T_wire_TakeNumber_2_ks) (H := (hookAt [(61688, H_wire_TakeNumber_3)])) (B := fun C X l u w => match l, u with | [v0, v1], [v2, v3] => T_wire_TakeNumber_2_body (fun n10 k11 w => X [.int .i64 n10, .int .i64 k11] w) (pInt v0) (pInt v1) (pA v2) (pL v2) (pC v2) (pInt v3) w (fun x35 x36 x37 w => C .ret [.int .i64 x35, .int .i64 x36, .int .i64 x37] w) (fun ch w => C (.panic ch) [] w) | _, _ => False) (by kernel_rfl) (by kernel_rfl) T_wire_TakeNumber_2_hok ?_ ?_
  · intro C X l u w hl hu
    obtain ⟨v0, l_v0, rfl, k_v0, hl_v0⟩ := Kinds.cons_ hl
    obtain ⟨n10, rfl⟩ := kind_int k_v0
    obtain ⟨v1, l_v1, rfl, k_v1, hl_v1⟩ := Kinds.cons_ hl_v0
    obtain ⟨k11, rfl⟩ := kind_int k_v1
    obtain rfl := Kinds.nil_ hl_v1
    obtain ⟨v2, l_v2, rfl, k_v2, hu_v2⟩ := Kinds.cons_ hu
    obtain ⟨b12a, b12l, b12c, rfl⟩ := kind_slice k_v2
    obtain ⟨v3, l_v3, rfl, k_v3, hu_v3⟩ := Kinds.cons_ hu_v2
    obtain ⟨at13, rfl⟩ := kind_int k_v3
    obtain rfl := Kinds.nil_ hu_v3
    exact T_wire_TakeNumber_2_eq C X n10 k11 b12a b12l b12c at13 w
  · intro l u w C hl hu
    obtain ⟨v0, l_v0, rfl, k_v0, hl_v0⟩ := Kinds.cons_ hl
    obtain ⟨n10, rfl⟩ := kind_int k_v0
    obtain ⟨v1, l_v1, rfl, k_v1, hl_v1⟩ := Kinds.cons_ hl_v0
    obtain ⟨k11, rfl⟩ := kind_int k_v1
    obtain rfl := Kinds.nil_ hl_v1
    obtain ⟨v2, l_v2, rfl, k_v2, hu_v2⟩ := Kinds.cons_ hu
    obtain ⟨b12a, b12l, b12c, rfl⟩ := kind_slice k_v2
    obtain ⟨v3, l_v3, rfl, k_v3, hu_v3⟩ := Kinds.cons_ hu_v2
    obtain ⟨at13, rfl⟩ := kind_int k_v3
    obtain rfl := Kinds.nil_ hu_v3
    constructor
    · intro h X hX
      exact h (fun n10 k11 w => X [.int .i64 n10, .int .i64 k11] w) (fun n10 k11 w hb => hX [.int .i64 n10, .int .i64 k11] w ⟨rfl, rfl, trivial⟩ hb)
    · intro h X hX
      exact h (fun l w => match l with | [v0, v1] => X (pInt v0) (pInt v1) w | _ => True) (fun l w hl hb => by
        obtain ⟨v0, l_v0, rfl, k_v0, hl_v0⟩ := Kinds.cons_ hl
        obtain ⟨n10, rfl⟩ := kind_int k_v0
        obtain ⟨v1, l_v1, rfl, k_v1, hl_v1⟩ := Kinds.cons_ hl_v0
        obtain ⟨k11, rfl⟩ := kind_int k_v1
        obtain rfl := Kinds.nil_ hl_v1
        exact hX n10 k11 w hb)

def T_wire_TakeNumber (b1a : Option Addr) (b1l : Nat) (b1c : Nat) (at2 : Int) (w : World) (R : Ending → World → Prop) : Prop :=
  T_wire_TakeNumber_1 b1a b1l b1c at2 w (fun b8 w9 => if b8 = true then (R (.returned (.tuple #[.int .i64 0, .int .i64 0, .int .i64 2])) w9) else (T_wire_TakeNumber_2 0 0 b1a b1l b1c at2 w9 (fun x38 x39 x40 w41 => R (.returned (.tuple #[.int .i64 x38, .int .i64 x39, .int .i64 x40])) w41) (pan R))) (pan R)

theorem T_wire_TakeNumber_hl : allP (hokL Try.prog (hookAt [(12, H_wire_TakeNumber_1), (15, H_wire_TakeNumber_2)]) (turnB 0 900001 900002 (bodyOf Try.f52)) 1) = (UnitOk Try.prog H_wire_TakeNumber_1 (at_ (turnB 0 900001 900002 (bodyOf Try.f52)) [1, 0, 0]) 12 ∧ UnitOk Try.prog H_wire_TakeNumber_2 (at_ (turnB 0 900001 900002 (bodyOf Try.f52)) [1, 1, 1]) 15 ∧ True) := by kernel_rfl

theorem T_wire_TakeNumber_eq (b1a : Option Addr) (b1l : Nat) (b1c : Nat) (at2 : Int) (w : World) (R : Ending → World → Prop) : vcCode Try.prog (hookAt [(12, H_wire_TakeNumber_1), (15, H_wire_TakeNumber_2)]) (turnB 0 900001 900002 (bodyOf Try.f52)) 1 ⟨argEnv [.slice b1a b1l b1c, .int .i64 at2] 0, Try.f52.ntmps, []⟩ w (finQ Try.prog Try.f52.results.toList R) = T_wire_TakeNumber b1a b1l b1c at2 w R := by kernel_rfl

theorem T_wire_TakeNumber_b : Try.f52.body = some (.seq (rOf (bodyOf Try.f52)) (.scope (cOf (bodyOf Try.f52)))) := by kernel_rfl
theorem T_wire_TakeNumber_f : findLabel (cOf (bodyOf Try.f52)) 0 = some (.seq .skip ((lapOf 0 (cOf (bodyOf Try.f52))).getD .skip)) := by kernel_rfl
theorem T_wire_TakeNumber_l : lapOf 0 (cOf (bodyOf Try.f52)) = some ((lapOf 0 (cOf (bodyOf Try.f52))).getD .skip) := by kernel_rfl

theorem T_wire_TakeNumber_s : ((quietSel (rOf (bodyOf Try.f52)) && quietSel (cOf (bodyOf Try.f52)) && quietSel ((lapOf 0 (cOf (bodyOf Try.f52))).getD .skip)) && (freshC 900001 ((lapOf 0 (cOf (bodyOf Try.f52))).getD .skip) && noExit 900001 ((lapOf 0 (cOf (bodyOf Try.f52))).getD .skip) && noExit 900002 ((lapOf 0 (cOf (bodyOf Try.f52))).getD .skip)) && Nat.ble 2 Try.f52.ntmps) = true := by kernel_rfl

theorem C_wire_TakeNumber {b1a : Option Addr} {b1l : Nat} {b1c : Nat} {at2 : Int} {w : World} {R : Ending → World → Prop} (h : T_wire_TakeNumber b1a b1l b1c at2 w R) : Calls Try.prog 52 #[.slice b1a b1l b1c, .int .i64 at2] w R :=
  calls_of_scope (args := [.slice b1a b1l b1c, .int .i64 at2]) mixed Try.func52 T_wire_TakeNumber_b T_wire_TakeNumber_f T_wire_TakeNumber_l T_wire_TakeNumber_s (HOk_of _ _ (show allP (hokL Try.prog (hookAt [(12, H_wire_TakeNumber_1), (15, H_wire_TakeNumber_2)]) (turnB 0 900001 900002 (bodyOf Try.f52)) 1) from by rw [T_wire_TakeNumber_hl]; exact ⟨T_wire_TakeNumber_1_ok, T_wire_TakeNumber_2_ok, trivial⟩)) (show vcCode Try.prog (hookAt [(12, H_wire_TakeNumber_1), (15, H_wire_TakeNumber_2)]) (turnB 0 900001 900002 (bodyOf Try.f52)) 1 ⟨argEnv [.slice b1a b1l b1c, .int .i64 at2] 0, Try.f52.ntmps, []⟩ w (finQ Try.prog Try.f52.results.toList R) from by rw [T_wire_TakeNumber_eq]; exact h)

end Go.Proofs.Ytclinifclfahfaa

/-
  Bytes that are gone through: the program's reader and the document's scan.
-/
namespace Go.Vc
open Go Go.Proofs Go.Proofs.Ytclinifclfahfaa
set_option maxRecDepth 100000

/-- Bytes that are read from, known for good. -/
structure Src (F : Fz) (q : Sl) (b : Cm.Bs) : Prop where
  rd : RdF F q.1 q.2.1 1 (bytesV b)
  len : b.length = q.2.1
  cap : q.2.1 ≤ q.2.2
  big : b.length ≤ 9223372036854775807
theorem Src.mono {F G : Fz} {q : Sl} {b : Cm.Bs} (h : Src F q b) (k : Fz.le F G) : Src G q b := ⟨h.rd.mono k, h.len, h.cap, h.big⟩
/-- The number that stands at a place, as the functions tell it. -/
def tkR (n0 : Nat) (x : Except Int (Nat × Cm.Bs)) : Int × Int × Int := match x with
  | .error e => (0, 0, e)
  | .ok (n, r) => (n, (n0 - r.length : Nat), 0)
section
variable {E w : World} {L : List Asrt} {R : Ending → World → Prop} {F : Fz} {q : Sl} {b : Cm.Bs} {st : Cm.Ps} {p ty : Nat}
/-! ### one number -/
theorem run_shl (t : TypeId) (x y : Operand) {v n : Nat} (hn : n < 64) : (do eqGuard .shl t x y (.int .i64 (v : Int)) (.int .i64 (n : Int)); binOp .shl t (.int .i64 (v : Int)) (.int .i64 (n : Int)) : Sem Value).run Try.prog w = .ok (.int .i64 (IntKind.wrap .i64 ((v * 2 ^ n : Nat) : Int))) w := by
  have e : min (n : Int).toNat (IntKind.bits .i64) = n := by rw [Int.toNat_natCast]; exact Nat.min_eq_left (by show n ≤ 64; omega)
  have h0 : ¬ ((n : Int) < 0) := by omega
  simp only [eqGuard, binOp, Op.shift]
  rw [if_neg h0, e]
  simp
theorem byte_at (hs : Src F q b) (hm : kn F ∈ L) (h : St E L w) {i : Nat} (hi : i < b.length) : ∃ ad, q.1 = some ad ∧ rd w (ad.add (i * 1)) (.int .u8 (b[i].toNat : Int)) := by
  have hr := hs.rd.at h hm
  obtain ⟨ad, ha, _, hc⟩ := hr.cells (by have := hs.len; omega)
  refine ⟨ad, ha, ?_⟩
  rw [Nat.mul_one]
  exact hr.rd_cell ha (by have := hs.len; omega) (v := .int .u8 (b[i].toNat : Int)) (by simp [bytesV, hi]) rfl
theorem takeGo_cons (j n : Nat) (c : UInt8) (r : Cm.Bs) : Cm.takeGo j n (c :: r) = if 128 ≤ c.toNat then (if j = 5 then .error 6 else Cm.takeGo (j + 1) (n + c.toNat % 128 * 128 ^ j) r)
    else if c.toNat = 0 ∧ 0 < j then .error 4 else if 1099511627776 < n + c.toNat % 128 * 128 ^ j then .error 6 else .ok (n + c.toNat % 128 * 128 ^ j, r) := rfl
theorem pow7 (k : Nat) (_h : k ≤ 5) : 128 ^ k = 2 ^ (7 * k) := by rw [show 128 = 2 ^ 7 from rfl, ← Nat.pow_mul]
theorem TakeNumber_spec {at_ : Nat} (hs : Src F q b) (hm : kn F ∈ L) (h : St E L w) (ha : at_ ≤ b.length)
    (k : ∀ w', St E L w' → R (.returned (.tuple #[.int .i64 (tkR b.length (Cm.takeGo 0 0 (b.drop at_))).1, .int .i64 (tkR b.length (Cm.takeGo 0 0 (b.drop at_))).2.1, .int .i64 (tkR b.length (Cm.takeGo 0 0 (b.drop at_))).2.2])) w') :
    Calls Try.prog 52 #[.slice q.1 q.2.1 q.2.2, .int .i64 (at_ : Int)] w R := by
  have hlen := hs.len
  have hbig := hs.big
  refine C_wire_TakeNumber ?_
  unfold T_wire_TakeNumber T_wire_TakeNumber_1
  refine ite_d (fun h1 => absurd h1 (by omega)) fun _ => ite_d (fun h1 => absurd h1 (by omega)) fun _ => ?_
  unfold T_wire_TakeNumber_2
  intro X hX
  have go : ∀ (r : Cm.Bs) (j n : Nat), r = b.drop (at_ + j) → j ≤ 5 → n < 2 ^ (7 * j) → at_ + j ≤ b.length → Cm.takeGo 0 0 (b.drop at_) = Cm.takeGo j n r → X (n : Int) (j : Int) w := by
    intro r
    induction r with
    | nil =>
      intro j n hr hj hn hle he
      refine hX _ _ _ ?_
      unfold T_wire_TakeNumber_2_body
      have : at_ + j = b.length := by have := congrArg List.length hr; simp at this; omega
      rw [show ((at_ : Int) + (j : Int)) = ((at_ + j : Nat) : Int) from by omega, wrap_nat (by omega), eq_dec]
      refine ite_d (fun _ => ?_) (fun hh => absurd hh (by omega))
      have := k w h
      rw [he] at this
      exact this
    | cons c r ih =>
      intro j n hr hj hn hle he
      refine hX _ _ _ ?_
      unfold T_wire_TakeNumber_2_body
      have hlt : at_ + j < b.length := by have := congrArg List.length hr; simp at this; omega
      have hd := List.drop_eq_getElem_cons hlt
      rw [← hr] at hd
      injection hd with hc hr2
      rw [show ((at_ : Int) + (j : Int)) = ((at_ + j : Nat) : Int) from by omega, wrap_nat (n := at_ + j) (by omega), eq_dec]
      refine ite_d (fun hh => absurd hh (by omega)) (fun _ => ?_)
      obtain ⟨ad, had, hrd⟩ := byte_at hs hm h hlt
      rw [← hc] at hrd
      have h256 := c.toNat_lt
      have hk := k w h
      rw [he] at hk
      refine ⟨by omega, by omega, ad, had, (c.toNat : Int), by rw [Int.toNat_natCast]; exact hrd, ?_⟩
      rw [wrap_nat (n := c.toNat) (by omega), and127 _ (by omega), wrap_nat (n := c.toNat % 128) (by omega), show (7 : Int) * (j : Int) = ((7 * j : Nat) : Int) from by omega, wrap_nat (n := 7 * j) (by omega)]
      have hp : 2 ^ (7 * j) ≤ 34359738368 := Nat.le_trans (Nat.pow_le_pow_right (by decide) (by omega : 7 * j ≤ 35)) (by decide)
      have hmul : c.toNat % 128 * 2 ^ (7 * j) ≤ 127 * 34359738368 := Nat.mul_le_mul (by omega) hp
      refine runV_ok (run_shl _ _ _ (by omega)) ⟨_, rfl, ?_⟩
      rw [wrap_nat (n := c.toNat % 128 * 2 ^ (7 * j)) (by omega), or_add hn (by omega), show ((j : Int) + 1) = ((j + 1 : Nat) : Int) from by omega, wrap_nat (n := j + 1) (by omega)]
      rw [← pow7 j hj]
      rw [takeGo_cons] at hk he
      refine ite_d (fun hc1 => ?_) (fun hc1 => ?_)
      · rw [if_pos (by omega)] at hk he
        rw [eq_dec]
        refine ite_d (fun h5 => ?_) (fun h5 => ?_)
        · rw [if_pos (by omega)] at hk
          exact hk
        · rw [if_neg (by omega)] at he
          refine ih (j + 1) _ hr2 (by omega) ?_ (by omega) he
          rw [pow7 j hj, show 7 * (j + 1) = 7 * j + 7 from by omega, Nat.pow_add]
          have : c.toNat % 128 * 2 ^ (7 * j) ≤ 127 * 2 ^ (7 * j) := Nat.mul_le_mul_right _ (by omega)
          omega
      · rw [if_neg (by omega)] at hk
        unfold T_wire_TakeNumber_3
        rw [eq_dec]
        have tail : ¬ (c.toNat = 0 ∧ 0 < j) → (if decide ((((n + c.toNat % 128 * 128 ^ j : Nat) : Int)) > 1099511627776) = true then R (.returned (.tuple #[.int .i64 0, .int .i64 0, .int .i64 6])) w else
            R (.returned (.tuple #[.int .i64 ((n + c.toNat % 128 * 128 ^ j : Nat) : Int), .int .i64 (IntKind.wrap .i64 ((at_ : Int) + ((j + 1 : Nat) : Int))), .int .i64 0])) w) := fun hz => by
          rw [if_neg hz] at hk
          refine ite_d (fun h6 => ?_) (fun h6 => ?_)
          · rw [if_pos (by omega)] at hk
            exact hk
          · rw [if_neg (by omega)] at hk
            rw [show ((at_ : Int) + ((j + 1 : Nat) : Int)) = ((at_ + (j + 1) : Nat) : Int) from by omega, wrap_nat (n := at_ + (j + 1)) (by omega)]
            have e : b.length - r.length = at_ + (j + 1) := by rw [hr2, List.length_drop]; omega
            simp only [tkR, e] at hk
            exact hk
        refine ite_d (fun h0 => ite_d (fun h2 => ?_) (fun h2 => tail (by omega))) (fun h0 => tail (by omega))
        rw [if_pos (by omega)] at hk
        exact hk
  exact go (b.drop at_) 0 0 rfl (by omega) (by decide) (by omega) rfl
theorem takeGo_rest : ∀ (r : Cm.Bs) (j n m : Nat) (r' : Cm.Bs), Cm.takeGo j n r = .ok (m, r') → ∃ i, r' = r.drop i ∧ i ≤ r.length
  | [], _, _, _, _, h => by simp [Cm.takeGo] at h
  | c :: r, j, n, m, r', h => by
    unfold Cm.takeGo at h
    split at h
    · split at h
      · cases h
      · obtain ⟨i, h1, h2⟩ := takeGo_rest r _ _ m r' h
        exact ⟨i + 1, by simpa using h1, by simpa using h2⟩
    · split at h
      · cases h
      · split at h
        · cases h
        · injection h with h; injection h with h1 h2
          exact ⟨1, by simpa using h2.symm, by simp⟩
theorem takeGo_err : ∀ (r : Cm.Bs) (j n : Nat) (e : Int), Cm.takeGo j n r = .error e → e ≠ 0
  | [], _, _, e, h => by simp [Cm.takeGo] at h; omega
  | c :: r, j, n, e, h => by
    unfold Cm.takeGo at h
    split at h
    · split at h
      · injection h with h; omega
      · exact takeGo_err r _ _ e h
    · split at h
      · injection h with h; omega
      · split at h
        · injection h with h; omega
        · cases h

/-! ### the reader's steps -/
theorem Src.cut (hs : Src F q b) {a n : Nat} (h : a + n ≤ b.length) : RdF F (if q.2.2 = a then q.1 else q.1.map fun x => x.add (a * 1)) (a + n - a) 1 (bytesV ((b.drop a).take n)) := by
  have hlen := hs.len
  have hcap := hs.cap
  have := hs.rd.sub (lo := a) (hi := a + n) (by omega) (by omega) q.2.2 (by omega)
  refine Eq.mp ?_ this
  congr 1
  simp only [bytesV, List.map_take, List.map_drop, Nat.mul_one]
  congr 1; omega
/-! ### weights -/
theorem row_at {s : Sl} {l : Cm.Bs} (hr : RdF F s.1 s.2.1 1 (bytesV l)) (hm : kn F ∈ L) (h : St E L w) {i : Nat} (hi : i < l.length) : ∃ ad, s.1 = some ad ∧ rd w (ad.add (i * 1)) (.int .u8 (l[i].toNat : Int)) := by
  have hr' := hr.at h hm
  have hl : l.length = s.2.1 := by have := hr'.1; rw [bytesV_len] at this; omega
  obtain ⟨ad, ha, _, hc⟩ := hr'.cells (by omega)
  refine ⟨ad, ha, ?_⟩
  rw [Nat.mul_one]
  exact hr'.rd_cell ha (by omega) (v := .int .u8 (l[i].toNat : Int)) (by simp [bytesV, hi]) rfl
/-! ### targets -/
end
end Go.Vc

/-
  Sums of bytes and frames as plain functions: the document's sum is the program's; one bit turned is told.
-/
namespace Go.Sn
abbrev Bs := List UInt8
def poly : Nat := 3988292384
def bit1 (r : Nat) : Nat := if r % 2 = 1 then (r / 2) ^^^ poly else r / 2
def bitN : Nat → Nat → Nat
  | 0, r => r
  | n + 1, r => bitN n (bit1 r)
def crc (r : Nat) (b : Bs) : Nat := b.foldl (fun r c => bitN 8 (r ^^^ c.toNat)) r
def ones : Nat := 4294967295
def ext (s : Nat) (b : Bs) : Nat := crc (s ^^^ ones) b ^^^ ones
def four (n : Nat) : Bs := [UInt8.ofNat (n / 16777216), UInt8.ofNat (n / 65536), UInt8.ofNat (n / 256), UInt8.ofNat n]
def num4 : Bs → Nat := fun b => b.foldl (fun n c => n * 256 + c.toNat) 0
def sum2 (b : Bs) : Nat := ext (ext 0 (four b.length)) b
def frame (b : Bs) : Bs := four b.length ++ (four (sum2 b) ++ b)

theorem poly_lt : poly < 2 ^ 32 := by decide
theorem bit1_lt {r : Nat} (h : r < 2 ^ 32) : bit1 r < 2 ^ 32 := by
  unfold bit1
  split
  · exact Nat.xor_lt_two_pow (by omega) poly_lt
  · omega
theorem bitN_lt : ∀ (n : Nat) {r : Nat}, r < 2 ^ 32 → bitN n r < 2 ^ 32
  | 0, _, h => h
  | n + 1, _, h => bitN_lt n (bit1_lt h)
theorem top_set {x : Nat} (h : x < 2 ^ 31) : 2 ^ 31 ≤ x ^^^ poly := by
  refine Nat.ge_two_pow_of_testBit (i := 31) ?_
  rw [Nat.testBit_xor, Nat.testBit_lt_two_pow h]
  decide
def inv1 (r : Nat) : Nat := if 2 ^ 31 ≤ r then 2 * (r ^^^ poly) + 1 else 2 * r
theorem inv1_bit1 {r : Nat} (h : r < 2 ^ 32) : inv1 (bit1 r) = r := by
  unfold bit1
  split
  · have h1 := top_set (x := r / 2) (by omega)
    unfold inv1
    rw [if_pos h1, Nat.xor_assoc, Nat.xor_self, Nat.xor_zero]; omega
  · unfold inv1
    rw [if_neg (by omega)]; omega
theorem bit1_inj {a b : Nat} (ha : a < 2 ^ 32) (hb : b < 2 ^ 32) (h : bit1 a = bit1 b) : a = b := by
  have := congrArg inv1 h
  rwa [inv1_bit1 ha, inv1_bit1 hb] at this
theorem bitN_inj : ∀ (n : Nat) {a b : Nat}, a < 2 ^ 32 → b < 2 ^ 32 → bitN n a = bitN n b → a = b
  | 0, _, _, _, _, h => h
  | n + 1, _, _, ha, hb, h => bit1_inj ha hb (bitN_inj n (bit1_lt ha) (bit1_lt hb) h)
theorem xor_byte_lt {r : Nat} (h : r < 2 ^ 32) (c : UInt8) : r ^^^ c.toNat < 2 ^ 32 := Nat.xor_lt_two_pow h (by have := c.toNat_lt; omega)
theorem crc_lt : ∀ (b : Bs) {r : Nat}, r < 2 ^ 32 → crc r b < 2 ^ 32
  | [], _, h => h
  | c :: b, _, h => crc_lt b (bitN_lt 8 (xor_byte_lt h c))
theorem xor_inj {a b c : Nat} (h : a ^^^ c = b ^^^ c) : a = b := by
  have := congrArg (· ^^^ c) h
  simpa [Nat.xor_assoc, Nat.xor_self] using this
theorem xor_inj_l {a b c : Nat} (h : c ^^^ a = c ^^^ b) : a = b := by
  rw [Nat.xor_comm c a, Nat.xor_comm c b] at h; exact xor_inj h
theorem crc_inj : ∀ (b : Bs) {r r' : Nat}, r < 2 ^ 32 → r' < 2 ^ 32 → crc r b = crc r' b → r = r'
  | [], _, _, _, _, h => h
  | c :: b, r, r', h1, h2, h => by
    have := crc_inj b (bitN_lt 8 (xor_byte_lt h1 c)) (bitN_lt 8 (xor_byte_lt h2 c)) h
    exact xor_inj (bitN_inj 8 (xor_byte_lt h1 c) (xor_byte_lt h2 c) this)
theorem crc_append (a b : Bs) (r : Nat) : crc r (a ++ b) = crc (crc r a) b := List.foldl_append
/-- One byte turned: another sum. -/
theorem crc_turned (a b : Bs) {c c' : UInt8} {r : Nat} (h : r < 2 ^ 32) (hne : c ≠ c') : crc r (a ++ c :: b) ≠ crc r (a ++ c' :: b) := by
  intro he
  rw [crc_append, crc_append] at he
  have ha := crc_lt a h
  have h1 := crc_inj b (bitN_lt 8 (xor_byte_lt ha c)) (bitN_lt 8 (xor_byte_lt ha c')) he
  have h2 := bitN_inj 8 (xor_byte_lt ha c) (xor_byte_lt ha c') h1
  exact hne (UInt8.toNat_inj.1 (xor_inj_l h2))
theorem ones_lt : ones < 2 ^ 32 := by decide
theorem ext_lt {s : Nat} (h : s < 2 ^ 32) (b : Bs) : ext s b < 2 ^ 32 := Nat.xor_lt_two_pow (crc_lt b (Nat.xor_lt_two_pow h ones_lt)) ones_lt
theorem ext_turned (a b : Bs) {c c' : UInt8} {s : Nat} (h : s < 2 ^ 32) (hne : c ≠ c') : ext s (a ++ c :: b) ≠ ext s (a ++ c' :: b) := fun he =>
  crc_turned a b (Nat.xor_lt_two_pow h ones_lt) hne (xor_inj he)
theorem bitN_snoc : ∀ (n r : Nat), bitN (n + 1) r = bit1 (bitN n r)
  | 0, _ => rfl
  | n + 1, r => bitN_snoc n (bit1 r)
theorem num4_four {n : Nat} (h : n < 2 ^ 32) : num4 (four n) = n := by
  simp [num4, four]; omega
theorem four_len (n : Nat) : (four n).length = 4 := rfl
theorem four_num4 {b : Bs} (h : b.length = 4) : four (num4 b) = b := by
  match b, h with
  | [x, y, z, t], _ =>
    have := x.toNat_lt; have := y.toNat_lt; have := z.toNat_lt; have := t.toNat_lt
    have e : num4 [x, y, z, t] = ((x.toNat * 256 + y.toNat) * 256 + z.toNat) * 256 + t.toNat := by simp [num4]
    rw [e]
    simp only [four, List.cons.injEq, and_true]
    refine ⟨?_, ?_, ?_, ?_⟩ <;> (apply UInt8.toNat_inj.1; rw [UInt8.toNat_ofNat']; omega)
/-- What the frame at the beginning of bytes holds, and what stands behind it. -/
def next (b : Bs) : Except Int (Bs × Bs) :=
  if b.length < 8 then .error 3
  else if 65536 < num4 (b.take 4) then .error 6
  else if b.length - 8 < num4 (b.take 4) then .error 3
  else if ext (ext 0 (b.take 4)) ((b.drop 8).take (num4 (b.take 4))) ≠ num4 ((b.drop 4).take 4) then .error 5
  else .ok ((b.drop 8).take (num4 (b.take 4)), (b.drop 8).drop (num4 (b.take 4)))
theorem frame_len (b : Bs) : (frame b).length = 8 + b.length := by simp [frame, four_len]; omega
theorem frame_take4 (b r : Bs) : (frame b ++ r).take 4 = four b.length := by
  unfold frame
  rw [List.append_assoc, List.take_append_of_le_length (by rw [four_len]; omega)]
  exact List.take_of_length_le (by rw [four_len]; omega)
theorem frame_drop4 (b r : Bs) : (frame b ++ r).drop 4 = four (sum2 b) ++ (b ++ r) := by
  unfold frame
  rw [List.append_assoc, List.drop_append_of_le_length (by rw [four_len]; omega), List.drop_of_length_le (by rw [four_len]; omega)]
  simp
theorem frame_drop8 (b r : Bs) : (frame b ++ r).drop 8 = b ++ r := by
  rw [show 8 = 4 + 4 from rfl, ← List.drop_drop, frame_drop4, List.drop_append_of_le_length (by rw [four_len]; omega), List.drop_of_length_le (by rw [four_len]; omega)]
  rfl
theorem sum2_lt (b : Bs) : sum2 b < 2 ^ 32 := ext_lt (ext_lt (by decide) _) _
theorem next_frame {b : Bs} (h : b.length ≤ 65536) (r : Bs) : next (frame b ++ r) = .ok (b, r) := by
  have h4 := num4_four (n := b.length) (by omega)
  have hs := num4_four (sum2_lt b)
  have hl : (frame b ++ r).length = 8 + b.length + r.length := by rw [List.length_append, frame_len]
  unfold next
  rw [frame_take4, h4, frame_drop8, frame_drop4, hl, if_neg (by omega), if_neg (by omega), if_neg (by omega)]
  have e1 : (b ++ r).take b.length = b := List.take_left
  have e2 : (four (sum2 b) ++ (b ++ r)).take 4 = four (sum2 b) := List.take_left (l₁ := four (sum2 b))
  have e3 : (b ++ r).drop b.length = r := List.drop_left
  rw [e1, e2, e3, hs, if_neg (by simp [sum2])]
theorem next_got {b x r : Bs} (h : next b = .ok (x, r)) : b = frame x ++ r ∧ x.length ≤ 65536 := by
  unfold next at h
  split at h
  · cases h
  · rename_i h1
    split at h
    · cases h
    · rename_i h2
      split at h
      · cases h
      · rename_i h3
        split at h
        · cases h
        · rename_i h4
          injection h with h
          have hx : (b.drop 8).take (num4 (b.take 4)) = x := congrArg Prod.fst h
          have hr : (b.drop 8).drop (num4 (b.take 4)) = r := congrArg Prod.snd h
          have hlx : x.length = num4 (b.take 4) := by rw [← hx]; simp; omega
          have t4 : (b.take 4).length = 4 := by simp; omega
          have t44 : ((b.drop 4).take 4).length = 4 := by simp; omega
          have e1 : four x.length = b.take 4 := by rw [hlx, four_num4 t4]
          have e2 : four (sum2 x) = (b.drop 4).take 4 := by
            have h4 : ext (ext 0 (b.take 4)) x = num4 ((b.drop 4).take 4) := by
              rw [hx] at h4
              exact Decidable.not_not.1 h4
            unfold sum2
            rw [e1, h4, four_num4 t44]
          refine ⟨?_, by omega⟩
          unfold frame
          rw [e1, e2, ← hx, ← hr, List.append_assoc, List.append_assoc, List.take_append_drop]
          have : b.drop 8 = (b.drop 4).drop 4 := by rw [List.drop_drop]
          rw [this, List.take_append_drop, List.take_append_drop]
end Go.Sn

/-
  Members and snapshots as bytes: plain functions; what is put is got, and the other way round.
-/
namespace Go.Sn
open Go.Cm (Ps takeGo num rNum rMany rises)
/-- One number from the front. -/
def tk (b : Bs) : Except Int (Nat × Bs) := takeGo 0 0 b
theorem tk_put {n : Nat} (h : n ≤ 1099511627776) (r : Bs) : tk (num n ++ r) = .ok (n, r) := by
  have := Cm.take_enc 5 0 0 n r (by omega) (by omega) (.inr rfl) (by omega)
  unfold tk num
  rw [if_neg (by omega), Int.toNat_natCast, this]
  simp
theorem tk_got {b r : Bs} {n : Nat} (h : tk b = .ok (n, r)) : b = num n ++ r ∧ n ≤ 1099511627776 := by
  obtain ⟨m, h1, h2, _, _, h5⟩ := Cm.enc_take b 0 0 n r (by omega) h
  have e : n = m := by simpa using h2
  subst e
  refine ⟨?_, h5⟩
  rw [h1]
  unfold num
  rw [if_neg (by omega), Int.toNat_natCast]
structure Mem where
  v : List Int
  l : List Int
deriving DecidableEq
def ltI (a b : Int) : Bool := decide (a < b)
def okN (n : Int) : Bool := decide (1 ≤ n ∧ n ≤ 9)
def upI (l : List Int) : Bool := l.all okN && rises ltI l
def rightM (m : Mem) : Bool := (decide (m.v ≠ []) && (upI m.v && upI m.l)) && m.l.all fun n => !decide (n ∈ m.v)
def numsB (l : List Int) : Bs := num l.length ++ l.flatMap num
def memB (m : Mem) : Bs := numsB m.v ++ numsB m.l
theorem upI_range : ∀ {l : List Int} {a : Int}, (∀ x ∈ l, a ≤ x ∧ x ≤ 9) → rises ltI l = true → (l.length : Int) ≤ if l = [] then 0 else 10 - a
  | [], _, _, _ => by simp
  | [x], a, h, _ => by
    have := h x List.mem_cons_self
    simp; omega
  | x :: y :: r, a, h, hr => by
    have hx := h x List.mem_cons_self
    have h2 : ltI x y = true ∧ rises ltI (y :: r) = true := by
      have : (ltI x y && rises ltI (y :: r)) = true := hr
      simpa using this
    have hxy : x < y := of_decide_eq_true h2.1
    have hle : ∀ z ∈ y :: r, x + 1 ≤ z ∧ z ≤ 9 := by
      have key : ∀ (r : List Int) (y : Int), x < y → rises ltI (y :: r) = true → ∀ z ∈ y :: r, x < z := by
        intro r
        induction r with
        | nil => intro y hy _ z hz; simp at hz; omega
        | cons t r ih =>
          intro y hy hr z hz
          have h3 : ltI y t = true ∧ rises ltI (t :: r) = true := by
            have : (ltI y t && rises ltI (t :: r)) = true := hr
            simpa using this
          have hyt : y < t := of_decide_eq_true h3.1
          rcases List.mem_cons.1 hz with rfl | hz
          · exact hy
          · exact ih t (by omega) h3.2 z hz
      intro z hz
      have := key r y hxy h2.2 z hz
      have := (h z (List.mem_cons_of_mem _ hz)).2
      omega
    have ih := upI_range hle h2.2
    rw [if_neg (by simp)] at ih
    rw [if_neg (by simp), List.length_cons]
    omega
theorem upI_len {l : List Int} (h : upI l = true) : l.length ≤ 9 := by
  unfold upI at h
  simp only [Bool.and_eq_true, List.all_eq_true, okN, decide_eq_true_eq] at h
  have := upI_range (a := 1) (fun x hx => h.1 x hx) h.2
  split at this <;> omega
theorem upI_nat {l : List Int} (h : upI l = true) : ∀ x ∈ l, 1 ≤ x ∧ x ≤ 9 := by
  unfold upI at h
  simp only [Bool.and_eq_true, List.all_eq_true, okN, decide_eq_true_eq] at h
  exact fun x hx => h.1 x hx
/-! ### lists of numbers -/
def maxN : Nat := 1099511627776
def cnt (s : Ps) : Nat × Ps := match rNum maxN s with
  | (n, .ok r) => if 9 < n then (0, .error 4) else (n, .ok r)
  | (_, .error e) => (0, .error e)
def rI (s : Ps) : Int × Ps := (((rNum maxN s).1 : Nat), (rNum maxN s).2)
def rList (s : Ps) : List Int × Ps := rMany rI (cnt s).1 (cnt s).2
def getM (b : Bs) : Except Int Mem := match (rList (rList (.ok b)).2).2 with
  | .error e => .error e
  | .ok r => if r ≠ [] ∨ rightM ⟨(rList (.ok b)).1, (rList (rList (.ok b)).2).1⟩ = false then .error 4 else .ok ⟨(rList (.ok b)).1, (rList (rList (.ok b)).2).1⟩
theorem rI_put {n : Int} (h : 0 ≤ n ∧ n ≤ 1099511627776) (r : Bs) : rI (.ok (num n ++ r)) = (n, .ok r) := by
  obtain ⟨m, rfl⟩ := Int.eq_ofNat_of_zero_le h.1
  unfold rI
  rw [Cm.rNum_put (by unfold maxN; omega) (by omega)]
theorem rList_put {l : List Int} (h : upI l = true) (r : Bs) : rList (.ok (numsB l ++ r)) = (l, .ok r) := by
  have hl := upI_len h
  have hn := upI_nat h
  unfold rList numsB cnt
  rw [List.append_assoc, Cm.rNum_put (by unfold maxN; omega) (by omega)]
  simp only
  rw [if_neg (by omega)]
  exact Cm.rMany_put (f := rI) (g := num) l r fun a ha r => rI_put (by have := hn a ha; omega) r
theorem getM_memB {m : Mem} (h : rightM m = true) : getM (memB m) = .ok m := by
  have h' := h
  unfold rightM at h
  simp only [Bool.and_eq_true] at h
  have e1 := rList_put h.1.2.1 (numsB m.l)
  have e2 := rList_put h.1.2.2 []
  rw [List.append_nil] at e2
  unfold getM memB
  rw [e1]
  simp only
  rw [e2]
  simp only
  rw [if_neg (by simp [h'])]
/-! ### snapshots -/
structure Snp where
  idx : Int
  term : Int
  mem : Mem
  data : Bs
deriving DecidableEq
def none : Snp := ⟨0, 0, ⟨[], []⟩, []⟩
def body (s : Snp) : Bs := num s.idx ++ (num s.term ++ (num (memB s.mem).length ++ (memB s.mem ++ (num s.data.length ++ s.data))))
def badS (s : Snp) : Bool := decide (s.idx < 1) || decide (1099511627776 < s.idx) || decide (s.term < 1) || decide (1099511627776 < s.term) || !rightM s.mem
def putE (s : Snp) : Int := if badS s = true then 2 else if 16384 < s.data.length then 6 else 0
def putB (s : Snp) : Bs := if putE s = 0 then frame (body s) else []
def getIn (inn : Bs) : Except Int Snp :=
  match tk inn with
  | .error e => .error e
  | .ok (i, r1) => if i = 0 then .error 4 else
    match tk r1 with
    | .error e => .error e
    | .ok (t, r2) => if t = 0 then .error 4 else
      match tk r2 with
      | .error e => .error e
      | .ok (n, r3) => if r3.length < n then .error 3 else
        match getM (r3.take n) with
        | .error e => .error e
        | .ok m =>
          match tk (r3.drop n) with
          | .error e => .error e
          | .ok (k, r4) => if 16384 < k then .error 6 else if r4.length < k then .error 3 else if k < r4.length then .error 4 else .ok ⟨i, t, m, r4⟩
def getS (b : Bs) : Except Int Snp :=
  match next b with
  | .error e => .error e
  | .ok (inn, r) => if r ≠ [] then .error 4 else getIn inn
theorem encNF_len : ∀ (j n : Nat), (Cm.encNF j n).length ≤ j + 1
  | 0, n => by simp [Cm.encNF]
  | j + 1, n => by
    unfold Cm.encNF
    split
    · simp
    · have := encNF_len j (n / 128)
      simp; omega
theorem numLen (n : Int) : (num n).length ≤ 6 := by
  unfold num
  split
  · simp
  · exact encNF_len 5 _
theorem flatNum : ∀ (l : List Int), (l.flatMap num).length ≤ 6 * l.length
  | [] => by simp
  | a :: r => by
    have := flatNum r
    have := numLen a
    rw [List.flatMap_cons, List.length_append, List.length_cons]; omega
theorem memB_len {m : Mem} (h : rightM m = true) : (memB m).length ≤ 120 := by
  unfold rightM at h
  simp only [Bool.and_eq_true] at h
  have h1 := upI_len h.1.2.1
  have h2 := upI_len h.1.2.2
  have := flatNum m.v; have := flatNum m.l
  have := numLen m.v.length; have := numLen m.l.length
  simp only [memB, numsB, List.length_append]; omega
theorem body_len {s : Snp} (h : putE s = 0) : (body s).length ≤ 65536 ∧ s.data.length ≤ 16384 ∧ rightM s.mem = true ∧ (1 ≤ s.idx ∧ s.idx ≤ 1099511627776) ∧ (1 ≤ s.term ∧ s.term ≤ 1099511627776) := by
  unfold putE at h
  split at h
  · cases h
  · rename_i hb
    split at h
    · cases h
    · rename_i hd
      simp only [badS, Bool.or_eq_true, decide_eq_true_eq, Bool.not_eq_true', not_or, Bool.not_eq_false] at hb
      obtain ⟨⟨⟨⟨h1, h2⟩, h3⟩, h4⟩, h5⟩ := hb
      have := memB_len h5
      have := numLen s.idx; have := numLen s.term; have := numLen (memB s.mem).length; have := numLen s.data.length
      refine ⟨?_, by omega, h5, by omega, by omega⟩
      simp only [body, List.length_append]; omega
theorem getIn_body {s : Snp} (h : putE s = 0) : getIn (body s) = .ok s := by
  obtain ⟨_, hd, hm, h1, h2⟩ := body_len h
  have hml := memB_len hm
  obtain ⟨i, hi⟩ := Int.eq_ofNat_of_zero_le (show 0 ≤ s.idx by omega)
  obtain ⟨t, ht⟩ := Int.eq_ofNat_of_zero_le (show 0 ≤ s.term by omega)
  unfold getIn body
  rw [hi, tk_put (by omega)]
  simp only
  rw [if_neg (by omega), ht, tk_put (by omega)]
  simp only
  rw [if_neg (by omega), tk_put (by omega)]
  simp only
  rw [if_neg (by rw [List.length_append]; omega), List.take_left, getM_memB hm]
  simp only
  rw [List.drop_left, tk_put (by omega)]
  simp only
  rw [if_neg (by omega), if_neg (by omega), if_neg (by omega), ← hi, ← ht]
theorem getS_putB {s : Snp} (h : putE s = 0) : getS (putB s) = .ok s := by
  obtain ⟨hl, _⟩ := body_len h
  have := next_frame hl []
  rw [List.append_nil] at this
  unfold getS putB
  rw [if_pos h, this]
  simp only
  rw [if_neg (by simp), getIn_body h]
/-- One bit, or more, of one byte turned behind the first four: it is told. -/
theorem turned {x : Bs} {j : Nat} {c : UInt8} (hx : x.length ≤ 65536) (h4 : 4 ≤ j) (hj : j < (frame x).length) (hne : (frame x)[j] ≠ c) : getS ((frame x).set j c) = .error 5 := by
  have hn := num4_four (n := x.length) (by omega)
  have hl : ((frame x).set j c).length = 8 + x.length := by rw [List.length_set, frame_len]
  have ht : ((frame x).set j c).take 4 = four x.length := by
    rw [List.take_set_of_le h4]
    have := frame_take4 x []
    rwa [List.append_nil] at this
  have hf : frame x = four x.length ++ (four (sum2 x) ++ x) := rfl
  have key : ext (ext 0 (four x.length)) ((((frame x).set j c).drop 8).take x.length) ≠ num4 ((((frame x).set j c).drop 4).take 4) := by
    by_cases h8 : j < 8
    · have e1 : ((frame x).set j c).drop 8 = x := by
        rw [List.drop_set_of_lt (by omega)]
        have := frame_drop8 x []
        rwa [List.append_nil, List.append_nil] at this
      have e2 : (((frame x).set j c).drop 4).take 4 = (four (sum2 x)).set (j - 4) c := by
        rw [List.drop_set, if_neg (by omega)]
        have := frame_drop4 x []
        rw [List.append_nil, List.append_nil] at this
        rw [this, List.set_append_left _ _ (by rw [four_len]; omega), List.take_append_of_le_length (by rw [List.length_set, four_len]; omega)]
        exact List.take_of_length_le (by rw [List.length_set, four_len]; omega)
      rw [e1, e2, List.take_of_length_le (Nat.le_refl _)]
      intro he
      have hle : ((four (sum2 x)).set (j - 4) c).length = 4 := by rw [List.length_set, four_len]
      have : four (num4 ((four (sum2 x)).set (j - 4) c)) = four (sum2 x) := by rw [← he]; rfl
      rw [four_num4 hle] at this
      have hg := congrArg (fun l => l[j - 4]?) this
      simp only [List.getElem?_set_self (show j - 4 < (four (sum2 x)).length by rw [four_len]; omega)] at hg
      apply hne
      have : (frame x)[j]? = (four (sum2 x))[j - 4]? := by
        rw [hf, List.getElem?_append_right (by rw [four_len]; omega), four_len, List.getElem?_append_left (by rw [four_len]; omega)]
      rw [← hg, List.getElem?_eq_getElem hj] at this
      exact Option.some.inj this
    · have hj8 : j - 8 < x.length := by rw [frame_len] at hj; omega
      have e1 : ((frame x).set j c).drop 8 = x.set (j - 8) c := by
        rw [List.drop_set, if_neg (by omega)]
        have := frame_drop8 x []
        rw [List.append_nil, List.append_nil] at this
        rw [this]
      have e2 : (((frame x).set j c).drop 4).take 4 = four (sum2 x) := by
        rw [List.drop_set, if_neg (by omega)]
        have := frame_drop4 x []
        rw [List.append_nil, List.append_nil] at this
        rw [this, List.set_append_right _ _ (by rw [four_len]; omega), List.take_append_of_le_length (by rw [four_len]; omega)]
        exact List.take_of_length_le (by rw [four_len]; omega)
      rw [e1, e2, num4_four (sum2_lt x), List.take_of_length_le (by rw [List.length_set]; omega)]
      have hxj : (frame x)[j] = x[j - 8] := by
        have : (frame x)[j]? = x[j - 8]? := by
          rw [hf, List.getElem?_append_right (by rw [four_len]; omega), four_len, List.getElem?_append_right (by rw [four_len]; omega), four_len, show j - 4 - 4 = j - 8 by omega]
        rw [List.getElem?_eq_getElem hj, List.getElem?_eq_getElem hj8] at this
        exact Option.some.inj this
      have hs : x.set (j - 8) c = x.take (j - 8) ++ c :: x.drop (j - 8 + 1) := by rw [List.set_eq_take_append_cons_drop, if_pos hj8]
      have hx2 : x = x.take (j - 8) ++ x[j - 8] :: x.drop (j - 8 + 1) := by rw [List.getElem_cons_drop, List.take_append_drop]
      rw [hs]
      unfold sum2
      conv => rhs; rw [hx2]
      simp only [List.length_append, List.length_cons, List.length_take, List.length_drop]
      have : four (min (j - 8) x.length + (x.length - (j - 8 + 1) + 1)) = four x.length := by congr 1; omega
      rw [this]
      exact ext_turned _ _ (ext_lt (by decide) _) fun h => hne (by rw [hxj, h])
  unfold getS next
  rw [hl, ht, hn, if_neg (by omega), if_neg (by omega), if_neg (by omega), if_pos key]
end Go.Sn

/-
  Sums of bytes and frames: the program's functions and the document's.
-/
namespace Go.Vc
open Go Go.Proofs Go.Proofs.Ytclinifclfahfaa
set_option maxRecDepth 100000
section
variable {E w : World} {L : List Asrt} {R : Ending → World → Prop} {F : Fz} {q : Sl} {b : Cm.Bs}
abbrev two32 : Nat := 4294967296
theorem wrap_u32 {n : Nat} (h : n < two32) : IntKind.wrap .u32 (n : Int) = n := by
  have : two32 = 4294967296 := rfl
  unfold IntKind.wrap
  simp [IntKind.signed, IntKind.bits]
  omega
theorem ofInt32 (n : Nat) : BitVec.ofInt (IntKind.bits .u32) (n : Int) = BitVec.ofNat 32 n := by
  rw [BitVec.ofInt_natCast]; rfl
theorem xor32 {a b : Nat} (ha : a < two32) (hb : b < two32) : IntKind.wrap .u32 (((BitVec.ofInt (IntKind.bits .u32) (a : Int)) ^^^ (BitVec.ofInt (IntKind.bits .u32) (b : Int))).toNat : Int) = ((a ^^^ b : Nat) : Int) := by
  have e : ((BitVec.ofInt (IntKind.bits .u32) (a : Int)) ^^^ (BitVec.ofInt (IntKind.bits .u32) (b : Int))).toNat = a ^^^ b := by
    rw [ofInt32, ofInt32]
    show ((BitVec.ofNat 32 a) ^^^ (BitVec.ofNat 32 b)).toNat = _
    rw [BitVec.toNat_xor, BitVec.toNat_ofNat, BitVec.toNat_ofNat, Nat.mod_eq_of_lt ha, Nat.mod_eq_of_lt hb]
  rw [e]
  exact wrap_u32 (Nat.xor_lt_two_pow (n := 32) ha hb)
theorem and1_32 {a : Nat} (ha : a < two32) : IntKind.wrap .u32 (((BitVec.ofInt (IntKind.bits .u32) (a : Int)) &&& (BitVec.ofInt (IntKind.bits .u32) 1)).toNat : Int) = ((a % 2 : Nat) : Int) := by
  have e : ((BitVec.ofInt (IntKind.bits .u32) (a : Int)) &&& (BitVec.ofInt (IntKind.bits .u32) 1)).toNat = a % 2 := by
    have h1 : BitVec.ofInt (IntKind.bits .u32) 1 = BitVec.ofNat 32 1 := rfl
    rw [ofInt32, h1]
    show ((BitVec.ofNat 32 a) &&& (BitVec.ofNat 32 1)).toNat = _
    rw [BitVec.toNat_and, BitVec.toNat_ofNat, BitVec.toNat_ofNat, Nat.mod_eq_of_lt ha]
    exact Nat.and_one_is_mod a
  rw [e]
  exact wrap_u32 (by have := Nat.mod_lt a (show 0 < 2 by decide); unfold two32; omega)
theorem or8_32 {a c : Nat} (hc : c < 256) (h : a * 256 + c < two32) : IntKind.wrap .u32 (((BitVec.ofInt (IntKind.bits .u32) (IntKind.wrap .u32 ((a : Int) * 2 ^ 8))) ||| (BitVec.ofInt (IntKind.bits .u32) (IntKind.wrap .u32 (c : Int)))).toNat : Int) = ((a * 256 + c : Nat) : Int) := by
  have h2 : two32 = 4294967296 := rfl
  have e1 : IntKind.wrap .u32 ((a : Int) * 2 ^ 8) = ((a * 256 : Nat) : Int) := by
    have : (a : Int) * 2 ^ 8 = ((a * 256 : Nat) : Int) := by omega
    rw [this, wrap_u32 (by omega)]
  rw [e1, wrap_u32 (show c < two32 by omega)]
  have e : ((BitVec.ofInt (IntKind.bits .u32) ((a * 256 : Nat) : Int)) ||| (BitVec.ofInt (IntKind.bits .u32) (c : Int))).toNat = a * 256 + c := by
    rw [ofInt32, ofInt32]
    show ((BitVec.ofNat 32 (a * 256)) ||| (BitVec.ofNat 32 c)).toNat = _
    rw [BitVec.toNat_or, BitVec.toNat_ofNat, BitVec.toNat_ofNat, Nat.mod_eq_of_lt (by omega), Nat.mod_eq_of_lt (by omega)]
    have := Nat.two_pow_add_eq_or_of_lt (i := 8) (b := c) hc a
    rw [show 2 ^ 8 * a = a * 256 by omega] at this
    exact this.symm
  rw [e]
  exact wrap_u32 h
theorem fdiv2 (a : Nat) : Int.fdiv (a : Int) (2 ^ 1) = ((a / 2 : Nat) : Int) := by
  rw [Int.fdiv_eq_ediv_of_nonneg _ (by decide)]; rfl
theorem bitN_lt32 (n : Nat) {r : Nat} (h : r < two32) : Sn.bitN n r < two32 := Sn.bitN_lt n h
theorem ext2_spec {r0 : Nat} {Kn : Int → World → Prop} {Kp : List PanicEntry → World → Prop} (hr : r0 < two32) (k : Kn ((Sn.bitN 8 r0 : Nat) : Int) w) : T_frame_Extend_2 (r0 : Int) 0 w Kn Kp := by
  have h2 : two32 = 4294967296 := rfl
  unfold T_frame_Extend_2
  intro X hX
  refine up_to 8 (Q := fun j => X ((Sn.bitN j r0 : Nat) : Int) (j : Int) w) ?_
  intro j hj ih
  refine hX _ _ _ ?_
  unfold T_frame_Extend_2_body
  have hb := bitN_lt32 j hr
  refine ite_d (fun hc => ?_) fun hc => ?_
  · have ih := ih (by omega)
    rw [Sn.bitN_snoc] at ih
    rw [succ_big (by unfold big; omega), and1_32 hb, fdiv2]
    unfold Sn.bit1 at ih
    have e1 : (3988292384 : Int) = ((Sn.poly : Nat) : Int) := rfl
    refine ite_b (fun hh => ?_) fun hh => ?_
    · have : Sn.bitN j r0 % 2 = 1 := by
        have h3 : ((Sn.bitN j r0 % 2 : Nat) : Int) = 1 := by simpa using hh
        omega
      rw [if_pos this] at ih
      rw [e1, xor32 (by omega) (by decide)]
      exact ih
    · have : ¬ Sn.bitN j r0 % 2 = 1 := by
        intro h4
        rw [h4] at hh
        simp at hh
      rw [if_neg this] at ih
      exact ih
  · have : j = 8 := by omega
    subst this
    exact k
theorem rds_at {a : Option Addr} {l : Nat} {b : Cm.Bs} (hr : RdS w a l 1 (bytesV b)) {i : Nat} (hi : i < b.length) : ∃ ad, a = some ad ∧ rd w (ad.add (i * 1)) (.int .u8 (b[i].toNat : Int)) := by
  have hl : b.length = l := by have := hr.1; rw [bytesV_len] at this; omega
  obtain ⟨ad, ha, _, _⟩ := hr.cells (by omega)
  exact ⟨ad, ha, hr.rd_cell ha (by omega) (i := i * 1) (by rw [Nat.mul_one]; simp [bytesV, hi]) rfl⟩
theorem rds_len {a : Option Addr} {l : Nat} {b : Cm.Bs} (hr : RdS w a l 1 (bytesV b)) : b.length = l := by have := hr.1; rw [bytesV_len] at this; omega
theorem RdF.sees {a : Option Addr} {l sz : Nat} {xs : List Value} (h : RdF F a l sz xs) (hm : kn F ∈ L) : Sees E L a l sz xs := fun _ hw => h.at hw hm
theorem Extend_spec {s : Nat} (hq : Sees E L q.1 q.2.1 1 (bytesV b)) (hl : b.length ≤ huge) (h : St E L w) (hs : s < two32) (k : ∀ w', St E L w' → R (.returned (.int .u32 ((Sn.ext s b : Nat) : Int))) w') :
    Calls Try.prog 57 #[.int .u32 (s : Int), .slice q.1 q.2.1 q.2.2] w R := by
  have hhuge : huge = 9223372036854775807 := rfl
  have hlen := rds_len (hq w h)
  refine C_frame_Extend ?_
  unfold T_frame_Extend
  have hmax : IntKind.max .u32 = ((Sn.ones : Nat) : Int) := rfl
  rw [hmax, xor32 (by decide) hs, Nat.xor_comm]
  have hr0 : s ^^^ Sn.ones < two32 := Nat.xor_lt_two_pow (n := 32) hs (by decide)
  unfold T_frame_Extend_1
  intro X hX
  refine up_to b.length (Q := fun j => ∀ w, St E L w → X ((Sn.crc (s ^^^ Sn.ones) (b.take j) : Nat) : Int) (j : Int) w) ?_ w h
  intro j hj ih w h
  refine hX _ _ _ ?_
  unfold T_frame_Extend_1_body
  have hc : Sn.crc (s ^^^ Sn.ones) (b.take j) < two32 := Sn.crc_lt _ hr0
  refine ite_d (fun hlt => ?_) fun hge => ?_
  · have hjl : j < b.length := by omega
    obtain ⟨ad, ha, hrd⟩ := rds_at (hq w h) hjl
    have hcl := b[j].toNat_lt
    rw [Int.toNat_natCast]
    refine ⟨by omega, by omega, ad, ha, _, hrd, ?_⟩
    rw [wrap_u32 (show b[j].toNat < two32 by unfold two32; omega), xor32 hc (by unfold two32; omega)]
    refine ext2_spec (Nat.xor_lt_two_pow (n := 32) hc (by omega)) ?_
    rw [succ_huge (by omega)]
    have := ih hjl w h
    rw [List.take_succ_eq_append_getElem hjl, Sn.crc_append] at this
    exact this
  · rw [List.take_of_length_le (by omega)] at hc ⊢
    rw [xor32 (by decide) hc, Nat.xor_comm]
    exact k w h
theorem Sum_spec (hq : Sees E L q.1 q.2.1 1 (bytesV b)) (hl : b.length ≤ huge) (h : St E L w) (k : ∀ w', St E L w' → R (.returned (.int .u32 ((Sn.ext 0 b : Nat) : Int))) w') : Calls Try.prog 58 #[.slice q.1 q.2.1 q.2.2] w R := by
  refine C_frame_Sum ?_
  unfold T_frame_Sum
  exact Extend_spec (s := 0) hq hl h (by decide) fun w' h' => ⟨_, rfl, k w' h'⟩
end
end Go.Vc

/-
  Frames: four bytes laid and read, the document's sums; a slice made, bytes copied.
-/
namespace Go.Vc
open Go Go.Proofs Go.Proofs.Ytclinifclfahfaa
set_option maxRecDepth 100000
section
variable {E w : World} {L : List Asrt} {R : Ending → World → Prop} {F : Fz} {q : Sl} {b : Cm.Bs}
/-! ### slices of what is read -/
def tailS (q : Sl) (n : Nat) : Sl := (if q.2.2 = n then q.1 else q.1.map (fun x => x.add (n * 1)), q.2.1 - n, q.2.2 - n)
def frontS (q : Sl) (n : Nat) : Sl := (if q.2.2 = 0 then q.1 else q.1.map (fun x => x.add (0 * 1)), n - 0, q.2.2 - 0)
theorem Src.tail (hs : Src F q b) {n : Nat} (h : n ≤ b.length) : Src F (tailS q n) (b.drop n) := by
  have hl := hs.len
  have hc := hs.cap
  refine ⟨?_, by rw [List.length_drop, hl]; rfl, by unfold tailS; simp only; omega, by have := hs.big; rw [List.length_drop]; omega⟩
  have := hs.rd.sub (lo := n) (hi := q.2.1) (by omega) (Nat.le_refl _) q.2.2 hc
  have e : ((bytesV b).drop (n * 1)).take ((q.2.1 - n) * 1) = bytesV (b.drop n) := by
    rw [List.take_of_length_le (by simp [bytesV_len]; omega), Nat.mul_one]
    exact List.map_drop.symm
  rw [e] at this
  exact this
theorem Src.front (hs : Src F q b) {n : Nat} (h : n ≤ b.length) : Src F (frontS q n) (b.take n) := by
  have hl := hs.len
  have hc := hs.cap
  refine ⟨?_, by rw [List.length_take]; unfold frontS; simp only; omega, by unfold frontS; simp only; omega, by have := hs.big; rw [List.length_take]; omega⟩
  have := hs.rd.sub (lo := 0) (hi := n) (by omega) (by omega) q.2.2 (by omega)
  have e : ((bytesV b).drop (0 * 1)).take ((n - 0) * 1) = bytesV (b.take n) := by
    rw [Nat.zero_mul, List.drop_zero, Nat.sub_zero, Nat.mul_one]
    exact List.map_take.symm
  rw [e] at this
  exact this
/-- The bytes from 8 on, so many. -/
def midS (q : Sl) (a n : Nat) : Sl := (if q.2.2 = a then q.1 else q.1.map (fun x => x.add (a * 1)), a + n - a, q.2.2 - a)
theorem Src.mid (hs : Src F q b) {a n : Nat} (h : a + n ≤ b.length) : Src F (midS q a n) ((b.drop a).take n) := by
  have hl := hs.len
  have hc := hs.cap
  refine ⟨?_, by rw [List.length_take, List.length_drop]; unfold midS; simp only; omega, by unfold midS; simp only; omega, by have := hs.big; rw [List.length_take, List.length_drop]; omega⟩
  have := hs.rd.sub (lo := a) (hi := a + n) (by omega) (by omega) q.2.2 (by omega)
  have e : ((bytesV b).drop (a * 1)).take ((a + n - a) * 1) = bytesV ((b.drop a).take n) := by
    rw [Nat.mul_one, Nat.mul_one, show a + n - a = n by omega]
    show ((b.map _).drop a).take n = ((b.drop a).take n).map _
    rw [List.map_take, List.map_drop]
  rw [e] at this
  exact this
/-! ### a row made; bytes copied into a row -/
theorem make_run {n : Nat} (h : St E L w) (hn : n ≤ big) :
    ∃ w', (Instr.makeSlice 27 (.int .i64 (n : Int)) (.int .i64 (n : Int))).run Try.prog w = .ok (.slice (some ⟨w.heap.size, 0, none⟩) n n) w' ∧ St E (byA (some ⟨w.heap.size, 0, none⟩, n, n) (List.replicate n 0) :: L) w' := by
  have hb : big = 140737488355328 := rfl
  have hby : Try.t5.bytes = 1 := by kernel_rfl
  have hsz : Try.t5.size = 1 := by kernel_rfl
  have hr := run_make (P := Try.prog) w 27 5 Try.t5 (.int .u8 0) (by kernel_rfl) (by kernel_rfl) (by kernel_rfl) .i64 .i64 (n : Int) (n : Int) (by omega) (Int.le_refl _) (by rw [hby]; omega) (by omega)
  simp only [Int.toNat_natCast] at hr
  rw [hsz, Nat.mul_one] at hr
  refine ⟨_, hr, ?_⟩
  have h2 := h.alloc (.cells (madeCells (Value.int .u8 0).cells n) 5)
  have e : madeCells (Value.int .u8 0).cells n = ⟨bytesV (List.replicate n 0)⟩ := by
    have := toList_madeCells_one (.int .u8 0) n
    have e2 : bytesV (List.replicate n (0 : UInt8)) = List.replicate n (.int .u8 0) := by simp [bytesV]
    rw [e2, ← this]
    rfl
  rw [e] at h2 ⊢
  exact St.ownS_mk (xs := bytesV (List.replicate n 0)) (rest := []) (by rw [List.append_nil]; exact h2) (by simp [bytesV_len]) (Nat.le_refl _) (show n ≤ maxLen by unfold maxLen; omega) (by simp)
theorem St.setRow_ {g : Nat} {t : TypeId} {l l' : List Value} (h : St E (blkL g t l :: L) w) : St E (blkL g t l' :: L) (w.setRow g ⟨l'⟩) := by
  have hb := h.at_blk
  have hlt : g < w.heap.size := (Array.getElem?_eq_some_iff.1 hb).1
  refine h.upd ⟨rfl, rfl, rfl⟩ ?_ fun c hc _ => ?_
  · simp [World.setRow, Array.getElem?_modify, hb]
  · show (w.heap.modify g _)[c]? = _
    rw [Array.getElem?_modify, if_neg (Ne.symm hc)]
/-- copy into a row of ours, from place o on: all of the source. -/
theorem copy_run {g o l c dl dc l2 c2 : Nat} {a2 : Option Addr} {xs ys : Cm.Bs} (h : St E (byA (some ⟨g, 0, none⟩, l, c) xs :: L) w) (hro : RdS w a2 l2 1 (bytesV ys)) (hd : ys.length ≤ dl) (ho : o + ys.length ≤ xs.length) :
    ∃ w', (Builtin.copy_ #[27, 27] 3 #[.slice (some ⟨g, o, none⟩) dl dc, .slice a2 l2 c2]).run Try.prog w = .ok (.int .i64 (ys.length : Int)) w' ∧ St E (byA (some ⟨g, 0, none⟩, l, c) (xs.take o ++ ys ++ xs.drop (o + ys.length)) :: L) w' := by
  have hl2 : ys.length = l2 := by have := hro.1; rw [bytesV_len] at this; omega
  rcases Nat.eq_zero_or_pos ys.length with h0 | h0
  · have hy : ys = [] := List.eq_nil_of_length_eq_zero h0
    subst hy
    refine ⟨w, run_copy_none w _ _ _ 5 _ _ _ _ _ _ (by kernel_rfl) (by kernel_rfl) (by rw [← hl2]; simp), ?_⟩
    simpa using h
  · obtain ⟨ad, ha, _, hc⟩ := hro.cells (by omega)
    have hf := h.ownS_facts
    have hx : xs.length = l := h.by_len
    rcases h.ownS_open with ⟨e, _⟩ | ⟨g', rest, e, hrest, hs⟩
    · cases e
    · injection e with e
      have e : g = g' := by injection e
      subst e
      have hr := run_copy_row (P := Try.prog) w 27 27 3 5 g o dl dc ad l2 c2 ⟨bytesV xs ++ rest⟩ 5 (bytesV ys) (by kernel_rfl) (by kernel_rfl) hs.at_blk (by rw [bytesV_len, hl2]; exact (Nat.min_eq_left (by omega)).symm) hc
        (by show o + (bytesV ys).length ≤ (bytesV xs ++ rest).length; rw [List.length_append, bytesV_len, bytesV_len]; omega) (fun v hv => one_oneCell (bytesV_one ys v hv))
      rw [ha]
      rw [bytesV_len] at hr
      refine ⟨_, hr, ?_⟩
      have e2 : (bytesV xs ++ rest).take o ++ bytesV ys ++ (bytesV xs ++ rest).drop (o + ys.length) = bytesV (xs.take o ++ ys ++ xs.drop (o + ys.length)) ++ rest := by
        rw [List.take_append_of_le_length (by rw [bytesV_len]; omega), List.drop_append_of_le_length (by rw [bytesV_len]; omega)]
        simp [bytesV, List.map_take, List.map_drop]
      have hs2 := hs.setRow_ (l' := bytesV (xs.take o ++ ys ++ xs.drop (o + ys.length)) ++ rest)
      rw [← e2] at hs2
      show St E (byA _ _ :: L) (w.setRow g ((bytesV xs ++ rest).take o ++ bytesV ys ++ (bytesV xs ++ rest).drop (o + ys.length)).toArray)
      rw [e2] at hs2 ⊢
      exact St.ownS_mk hs2 (by rw [bytesV_len]; simp; omega) hf.2.1 hf.2.2 hrest
/-! ### four bytes -/
theorem run_shr32 (t : TypeId) (x y : Operand) {v n : Nat} (hn : n < 32) : (do eqGuard .shr t x y (.int .u32 (v : Int)) (.int .i64 (n : Int)); binOp .shr t (.int .u32 (v : Int)) (.int .i64 (n : Int)) : Sem Value).run Try.prog w = .ok (.int .u32 ((v / 2 ^ n : Nat) : Int)) w := by
  have e : min (n : Int).toNat (IntKind.bits .u32) = n := by rw [Int.toNat_natCast]; exact Nat.min_eq_left (by show n ≤ 32; omega)
  have h0 : ¬ ((n : Int) < 0) := by omega
  simp only [eqGuard, binOp, Op.shift]
  rw [if_neg h0, e, Int.fdiv_eq_ediv_of_nonneg _ (by exact_mod_cast Nat.zero_le _)]
  simp
theorem wrap_u8n (n : Nat) : IntKind.wrap .u8 (n : Int) = (((UInt8.ofNat n).toNat : Nat) : Int) := by
  unfold IntKind.wrap
  simp [IntKind.signed, IntKind.bits]
def fourN (n i : Nat) : UInt8 := UInt8.ofNat (n / 2 ^ (24 - 8 * i))
theorem four_get (n : Nat) {i : Nat} (h : i < 4) : (Sn.four n)[i]? = some (fourN n i) := by
  match i, h with
  | 0, _ => rfl
  | 1, _ => rfl
  | 2, _ => rfl
  | 3, _ => simp [Sn.four, fourN]
theorem put_step {xs ys : Cm.Bs} {o j : Nat} {c : UInt8} (hj : j < ys.length) (hc : ys[j]? = some c) (ho : o + ys.length ≤ xs.length) : (xs.take o ++ (ys.take j ++ xs.drop (o + j))).set (o + j) c = xs.take o ++ (ys.take (j + 1) ++ xs.drop (o + (j + 1))) := by
  have h1 : (xs.take o).length = o := by rw [List.length_take]; omega
  have h2 : (ys.take j).length = j := by rw [List.length_take]; omega
  rw [List.set_append_right _ _ (by rw [h1]; omega), h1, show o + j - o = j by omega, List.set_append_right _ _ (by rw [h2]; omega), h2, Nat.sub_self]
  have h3 : xs.drop (o + j) = xs[o + j]'(by omega) :: xs.drop (o + j + 1) := List.drop_eq_getElem_cons (by omega)
  rw [h3, List.set_cons_zero, List.take_succ_eq_append_getElem hj]
  have : ys[j] = c := by rw [List.getElem?_eq_getElem hj] at hc; exact Option.some.inj hc
  rw [this]
  simp [Nat.add_assoc]
theorem put4_spec {g o l c c2 n l1 : Nat} {xs : Cm.Bs} (hn : n < two32) (ho : o + 4 ≤ xs.length) (hl1 : 4 ≤ l1) (h : St E (byA (some ⟨g, 0, none⟩, l, c) xs :: L) w)
    (k : ∀ w', St E (byA (some ⟨g, 0, none⟩, l, c) (xs.take o ++ (Sn.four n ++ xs.drop (o + 4))) :: L) w' → R (.returned (.tuple #[])) w') : Calls Try.prog 56 #[.slice (some ⟨g, o, none⟩) l1 c2, .int .u32 (n : Int)] w R := by
  refine C_frame_put ?_
  unfold T_frame_put T_frame_put_1
  intro X hX
  refine up_to 4 (Q := fun j => ∀ w, St E (byA (some ⟨g, 0, none⟩, l, c) (xs.take o ++ ((Sn.four n).take j ++ xs.drop (o + j))) :: L) w → X (j : Int) w) ?_ w (by simpa using h)
  intro j hj ih w h
  refine hX _ _ ?_
  unfold T_frame_put_1_body
  refine ite_d (fun hc => ?_) fun hc => ?_
  · have hj4 : j < 4 := by omega
    have e1 : IntKind.wrap .i64 ((24 : Int) - IntKind.wrap .i64 ((8 : Int) * (j : Int))) = ((24 - 8 * j : Nat) : Int) := by
      rw [wrap_id (x := 8 * (j : Int)) (by omega) (by omega), wrap_id (by omega) (by omega)]; omega
    rw [e1]
    refine runV_ok (run_shr32 _ _ _ (by omega)) ⟨_, rfl, by omega, by omega, ⟨g, o, none⟩, rfl, rfl, ?_⟩
    rw [wrap_u8n, Int.toNat_natCast, Nat.mul_one]
    have hlen : (xs.take o ++ ((Sn.four n).take j ++ xs.drop (o + j))).length = xs.length := by
      simp [Sn.four_len]; omega
    obtain ⟨hw, h2⟩ := h.ownS_set rfl (i := o + j) (v := .int .u8 (((fourN n j).toNat : Nat) : Int)) (by rw [bytesV_len, hlen]; omega) rfl
    rw [add_mk, Nat.zero_add] at hw h2
    rw [add_mk]
    refine ⟨hw, ?_⟩
    rw [succ_big (by unfold big; omega)]
    refine ih hj4 _ ?_
    have e3 : (bytesV (xs.take o ++ ((Sn.four n).take j ++ xs.drop (o + j)))).set (o + j) (.int .u8 (((fourN n j).toNat : Nat) : Int)) = bytesV (xs.take o ++ ((Sn.four n).take (j + 1) ++ xs.drop (o + (j + 1)))) := by
      rw [← put_step (by rw [Sn.four_len]; exact hj4) (four_get n hj4) (by rw [Sn.four_len]; exact ho)]
      exact List.map_set.symm
    rw [e3] at h2
    exact h2
  · have : j = 4 := by omega
    subst this
    refine k w ?_
    have e : (Sn.four n).take 4 = Sn.four n := List.take_of_length_le (Nat.le_refl 4)
    rwa [e] at h
theorem num4_snoc (b : Cm.Bs) (c : UInt8) : Sn.num4 (b ++ [c]) = Sn.num4 b * 256 + c.toNat := by simp [Sn.num4]
theorem num4_small : ∀ (b : Cm.Bs) (j : Nat), j ≤ 4 → j ≤ b.length → Sn.num4 (b.take j) < 256 ^ j := by
  intro b j
  induction j with
  | zero => intro _ _; simp [Sn.num4]
  | succ j ih =>
    intro h1 h2
    have := ih (by omega) (by omega)
    rw [List.take_succ_eq_append_getElem (by omega), num4_snoc, Nat.pow_succ]
    have := (b[j]'(by omega)).toNat_lt
    omega
theorem get4_spec (hs : Src F q b) (hm : kn F ∈ L) (h4 : 4 ≤ b.length) (h : St E L w) (k : ∀ w', St E L w' → R (.returned (.int .u32 ((Sn.num4 (b.take 4) : Nat) : Int))) w') : Calls Try.prog 59 #[.slice q.1 q.2.1 q.2.2] w R := by
  have h32 : two32 = 4294967296 := rfl
  have hl := hs.len
  have hc := hs.cap
  have hf := hs.front h4
  refine C_frame_get ?_
  unfold T_frame_get
  refine ⟨by omega, by omega, ?_⟩
  unfold T_frame_get_1
  intro X hX
  refine up_to 4 (Q := fun j => ∀ w, St E L w → X ((Sn.num4 (b.take j) : Nat) : Int) (j : Int) w) ?_ w h
  intro j hj ih w h
  refine hX _ _ _ ?_
  unfold T_frame_get_1_body
  refine ite_d (fun hc => ?_) fun hc => ?_
  · have hj4 : j < 4 := by simp at hc; omega
    have hbl : j < (b.take 4).length := by rw [List.length_take]; omega
    obtain ⟨ad, ha, hrd⟩ := row_at hf.rd hm h hbl
    rw [List.getElem_take] at hrd
    rw [Int.toNat_natCast]
    refine ⟨by omega, by simp; omega, ad, ha, _, hrd, ?_⟩
    have hcl := (b[j]'(by omega)).toNat_lt
    have hsm := num4_small b j (by omega) (by omega)
    have h256 : 256 ^ j ≤ 256 ^ 3 := Nat.pow_le_pow_right (by decide) (by omega)
    rw [or8_32 hcl (by omega), succ_big (by unfold big; omega)]
    have := ih hj4 w h
    rw [List.take_succ_eq_append_getElem (by omega), num4_snoc] at this
    exact this
  · have : j = 4 := by simp at hc; omega
    subst this
    exact k w h
end
end Go.Vc

/-
  Frames: Frame and Next, the program's and the document's.
-/
namespace Go.Vc
open Go Go.Proofs Go.Proofs.Ytclinifclfahfaa
set_option maxRecDepth 100000
section
variable {E w : World} {L : List Asrt} {R : Ending → World → Prop} {F : Fz} {q : Sl} {b : Cm.Bs}
theorem Src.sees (hs : Src F q b) (hm : kn F ∈ L) : Sees E L q.1 q.2.1 1 (bytesV b) := fun _ hw => hs.rd.at hw hm
/-- The front of a row of ours. -/
theorem front_sees {s : Sl} {xs : Cm.Bs} {n : Nat} (hn : n ≤ xs.length) (hl : xs.length = s.2.1) (hc : s.2.1 ≤ s.2.2) : Sees E (byA s xs :: L) (frontS s n).1 (frontS s n).2.1 1 (bytesV (xs.take n)) := fun w h => by
  have := h.rdS_own.sub (lo := 0) (hi := n) (by omega) (by omega) s.2.2 (by omega)
  have e : ((bytesV xs).drop (0 * 1)).take ((n - 0) * 1) = bytesV (xs.take n) := by
    rw [Nat.zero_mul, List.drop_zero, Nat.sub_zero, Nat.mul_one]
    exact List.map_take.symm
  rw [e] at this
  exact this
def frameE (b : Cm.Bs) : Int := if 65536 < b.length then 6 else 0
def frameB (b : Cm.Bs) : Cm.Bs := if 65536 < b.length then [] else Sn.frame b
set_option maxHeartbeats 1000000 in
theorem Frame_spec (hq : ∀ A : Asrt, Sees E (A :: L) q.1 q.2.1 1 (bytesV b)) (hb : b.length = q.2.1) (h : St E L w)
    (k : ∀ (w' : World) (s : Sl), St E (byA s (frameB b) :: L) w' → R (.returned (.tuple #[.slice s.1 s.2.1 s.2.2, .int .i64 (frameE b)])) w') : Calls Try.prog 30 #[.slice q.1 q.2.1 q.2.2] w R := by
  have hbig : big = 140737488355328 := rfl
  have hhuge : huge = 9223372036854775807 := rfl
  have h32 : two32 = 4294967296 := rfl
  refine C_frame_Frame ?_
  unfold T_frame_Frame
  refine ite_d (fun hc => ?_) fun hc => ?_
  · have e1 : frameE b = 6 := if_pos (by omega)
    have e2 : frameB b = [] := if_pos (by omega)
    rw [e1, e2] at k
    exact k w (none, 0, 0) h.by_nil
  · have hle : b.length ≤ 65536 := by omega
    have e1 : frameE b = 0 := if_neg (by omega)
    have e2 : frameB b = Sn.frame b := if_neg (by omega)
    rw [e1, e2] at k
    have e3 : IntKind.wrap .i64 ((8 : Int) + ((q.2.1 : Nat) : Int)) = ((8 + b.length : Nat) : Int) := by rw [wrap_id (by omega) (by omega)]; omega
    rw [e3]
    obtain ⟨w3, hrun, h3⟩ := make_run (n := 8 + b.length) h (by omega)
    generalize w.heap.size = g at *
    refine runV_ok hrun ⟨_, _, _, rfl, ?_⟩
    have e4 : IntKind.wrap .u32 ((q.2.1 : Nat) : Int) = ((b.length : Nat) : Int) := by rw [← hb, wrap_u32 (by omega)]
    rw [e4]
    refine put4_spec (o := 0) (by omega) (by simp; omega) (by omega) h3 fun w6 h6 => ⟨rfl, by omega, by omega, ?_⟩
    simp only [List.take_zero, List.nil_append] at h6
    have hx : ∀ (d : Nat) (s : Option Addr), s = some ⟨g, 0, none⟩ → 8 + b.length ≠ d → (if 8 + b.length = d then s else s.map (fun x => x.add (d * 1))) = some ⟨g, d, none⟩ := fun d s hs hd => by
      rw [if_neg hd, hs]
      show some ((⟨g, 0, none⟩ : Addr).add (d * 1)) = _
      rw [add_mk, Nat.zero_add, Nat.mul_one]
    have hcopy : ∃ w8, (Builtin.copy_ #[27, 27] 3 #[.slice (if 8 + b.length = ((8 : Int).toNat) then some (⟨g, 0, none⟩ : Addr) else (some (⟨g, 0, none⟩ : Addr)).map (fun x => x.add (((8 : Int).toNat) * 1))) (8 + b.length - ((8 : Int).toNat)) (8 + b.length - ((8 : Int).toNat)), .slice q.1 q.2.1 q.2.2]).run Try.prog w6 = .ok (.int .i64 (b.length : Int)) w8 ∧
        St E (byA (some ⟨g, 0, none⟩, 8 + b.length, 8 + b.length) (Sn.four b.length ++ (List.replicate 4 0 ++ b)) :: L) w8 := by
      have e5 : Sn.four b.length ++ (List.replicate (8 + b.length) (0 : UInt8)).drop (0 + 4) = Sn.four b.length ++ List.replicate (4 + b.length) 0 := by rw [List.drop_replicate]; congr 2; omega
      rw [e5] at h6
      have e6 : ((8 : Int).toNat) = 8 := rfl
      rw [e6]
      rcases Nat.eq_zero_or_pos b.length with h0 | h0
      · have hb0 : b = [] := List.eq_nil_of_length_eq_zero h0
        subst hb0
        refine ⟨w6, run_copy_none w6 _ _ _ 5 _ _ _ _ _ _ (by kernel_rfl) (by kernel_rfl) (by rw [← hb]; simp), ?_⟩
        simpa using h6
      · rw [hx 8 _ rfl (by omega)]
        obtain ⟨w8, hr8, h8⟩ := copy_run (o := 8) (dl := 8 + b.length - 8) (dc := 8 + b.length - 8) (c2 := q.2.2) h6 (hq _ w6 h6) (by omega) (by simp [Sn.four_len]; omega)
        refine ⟨w8, hr8, ?_⟩
        have e7 : (Sn.four b.length ++ List.replicate (4 + b.length) (0 : UInt8)).take 8 = Sn.four b.length ++ List.replicate 4 0 := by
          rw [List.take_append, Sn.four_len, List.take_of_length_le (by rw [Sn.four_len]; omega), List.take_replicate]
          congr 2; omega
        have e8 : (Sn.four b.length ++ List.replicate (4 + b.length) (0 : UInt8)).drop (8 + b.length) = [] := List.drop_of_length_le (by simp [Sn.four_len]; omega)
        rw [e7, e8, List.append_nil, List.append_assoc] at h8
        exact h8
    obtain ⟨w8, hr8, h8⟩ := hcopy
    refine runV_ok hr8 ⟨_, rfl, ?_⟩
    intro w10
    have h10 : St E (byA (some ⟨g, 0, none⟩, 8 + b.length, 8 + b.length) (Sn.four b.length ++ (List.replicate 4 0 ++ b)) :: L) w10 := h8.drew
    clear_value w10
    have hl10 : (Sn.four b.length ++ (List.replicate 4 0 ++ b)).length = 8 + b.length := by simp [Sn.four_len]; omega
    refine ⟨by omega, by omega, by omega, by omega, ?_⟩
    have ht4 : (Sn.four b.length ++ (List.replicate 4 0 ++ b)).take 4 = Sn.four b.length := List.take_left (l₁ := Sn.four b.length)
    have hfs := front_sees (E := E) (L := L) (s := (some ⟨g, 0, none⟩, 8 + b.length, 8 + b.length)) (xs := Sn.four b.length ++ (List.replicate 4 0 ++ b)) (n := 4) (by omega) hl10 (Nat.le_refl _)
    rw [ht4] at hfs
    refine Sum_spec (q := frontS (some ⟨g, 0, none⟩, 8 + b.length, 8 + b.length) 4) hfs (by rw [Sn.four_len]; omega) h10 fun w12 h12 => ⟨_, rfl, trivial, ?_⟩
    have hs1 : Sn.ext 0 (Sn.four b.length) < two32 := Sn.ext_lt (by decide) _
    refine Extend_spec (q := q) (hq _) (by omega) h12 hs1 fun w15 h15 => ⟨_, rfl, trivial, ?_⟩
    have hs2 : Sn.ext (Sn.ext 0 (Sn.four b.length)) b < two32 := Sn.ext_lt hs1 _
    have e9 : ((4 : Int).toNat) = 4 := rfl
    rw [e9, hx 4 _ rfl (by omega)]
    refine put4_spec (o := 4) hs2 (by omega) (by omega) h15 fun w18 h18 => ⟨rfl, trivial, k w18 (some ⟨g, 0, none⟩, 8 + b.length, 8 + b.length) ?_⟩
    have e10 : (Sn.four b.length ++ (List.replicate 4 (0 : UInt8) ++ b)).drop (4 + 4) = b := by
      rw [show Sn.four b.length ++ (List.replicate 4 (0 : UInt8) ++ b) = (Sn.four b.length ++ List.replicate 4 0) ++ b by rw [List.append_assoc]]
      exact List.drop_left (l₁ := Sn.four b.length ++ List.replicate 4 0)
    rw [ht4, e10] at h18
    exact h18
/-! ### Next -/
def nextR (n0 : Nat) (b : Cm.Bs) : Cm.Bs × Int × Int := match Sn.next b with
  | .error e => ([], 0, e)
  | .ok (x, r) => (x, ((n0 - r.length : Nat) : Int), 0)
set_option maxHeartbeats 1000000 in
/-- Next, at the beginning. -/
theorem Next_spec (hs : Src F q b) (hm : kn F ∈ L) (hbb : b.length ≤ big) (h : St E L w)
    (k : ∀ (w' : World) (s : Sl), St E (byA s (nextR b.length b).1 :: L) w' → R (.returned (.tuple #[.slice s.1 s.2.1 s.2.2, .int .i64 (nextR b.length b).2.1, .int .i64 (nextR b.length b).2.2])) w') : Calls Try.prog 31 #[.slice q.1 q.2.1 q.2.2, .int .i64 0] w R := by
  have hbig : big = 140737488355328 := rfl
  have hhuge : huge = 9223372036854775807 := rfl
  have h32 : two32 = 4294967296 := rfl
  have hl := hs.len
  have hcap := hs.cap
  have hs2 : Src F (tailS q 0) b := hs.tail (n := 0) (Nat.zero_le _)
  have fail : ∀ (e : Int) (w : World), Sn.next b = .error e → St E L w → R (.returned (.tuple #[.slice none 0 0, .int .i64 0, .int .i64 e])) w := fun e w he h => by
    have hr : nextR b.length b = ([], 0, e) := by unfold nextR; rw [he]
    have := k w (none, 0, 0)
    rw [hr] at this
    exact this h.by_nil
  refine C_frame_Next ?_
  unfold T_frame_Next T_frame_Next_1
  refine ite_d (fun hc => absurd hc (by omega)) fun _ => ite_b (fun hh => absurd (of_decide_eq_true hh) (by omega)) fun _ => ?_
  have e0 : ((0 : Int).toNat) = 0 := rfl
  rw [e0]
  refine ⟨by omega, by omega, ite_d (fun hc => fail 3 w ?_ h) fun hc8 => ?_⟩
  · unfold Sn.next; rw [if_pos (by omega)]
  have h8 : 8 ≤ b.length := by omega
  refine get4_spec (q := tailS q 0) hs2 hm (by omega) h fun w11 h11 => ⟨_, rfl, ?_⟩
  have hn := num4_small b 4 (by omega) (by omega)
  generalize hN : Sn.num4 (b.take 4) = n at *
  refine ite_d (fun hc => fail 6 w11 ?_ h11) fun hc6 => ?_
  · unfold Sn.next; rw [if_neg (by omega), hN, if_pos (by omega)]
  have e1 : IntKind.wrap .i64 ((n : Nat) : Int) = (n : Int) := wrap_id (by omega) (by omega)
  rw [e1]
  have e2 : IntKind.wrap .i64 (((q.2.1 - 0 : Nat) : Int) - 8) = ((b.length - 8 : Nat) : Int) := by rw [wrap_id (by omega) (by omega)]; omega
  rw [e2]
  refine ite_d (fun hc => fail 3 w11 ?_ h11) fun hc9 => ?_
  · unfold Sn.next; rw [if_neg (by omega), hN, if_neg (by omega), if_pos (by omega)]
  have e3 : IntKind.wrap .i64 ((8 : Int) + (n : Int)) = ((8 + n : Nat) : Int) := by rw [wrap_id (by omega) (by omega)]; omega
  rw [e3, Int.toNat_natCast]
  refine ⟨by omega, by omega, by omega, by omega, ?_⟩
  intro w13
  have h13 : St E L w13 := h11.drew
  clear_value w13
  refine ⟨by omega, by omega, by omega, by omega, ?_⟩
  refine Sum_spec (q := frontS (tailS q 0) 4) ((hs2.front (n := 4) (by omega)).sees hm) (by rw [List.length_take]; omega) h13 fun w15 h15 => ⟨_, rfl, trivial, ?_⟩
  have hmid := hs2.mid (a := 8) (n := n) (by omega)
  have hx1 : Sn.ext 0 (b.take 4) < two32 := Sn.ext_lt (by decide) _
  refine Extend_spec (q := midS (tailS q 0) 8 n) (hmid.sees hm) (by rw [List.length_take]; omega) h15 hx1 fun w18 h18 => ⟨_, rfl, trivial, ?_⟩
  have ht4 := hs2.tail (n := 4) (by omega)
  refine get4_spec (q := tailS (tailS q 0) 4) ht4 hm (by rw [List.length_drop]; omega) h18 fun w21 h21 => ⟨_, rfl, trivial, ?_⟩
  refine ite_b (fun hh => fail 5 w21 ?_ h21) fun hh => ?_
  · unfold Sn.next
    rw [if_neg (by omega), hN, if_neg (by omega), if_neg (by omega), if_pos]
    intro he
    rw [he] at hh
    simp at hh
  have hsum : Sn.ext (Sn.ext 0 (b.take 4)) ((b.drop 8).take n) = Sn.num4 ((b.drop 4).take 4) := by
    have : ((Sn.ext (Sn.ext 0 (b.take 4)) ((b.drop 8).take n) : Nat) : Int) = ((Sn.num4 ((b.drop 4).take 4) : Nat) : Int) := by simpa using hh
    omega
  have hnx : nextR b.length b = ((b.drop 8).take n, ((8 + n : Nat) : Int), 0) := by
    have : Sn.next b = .ok ((b.drop 8).take n, (b.drop 8).drop n) := by
      unfold Sn.next
      rw [if_neg (by omega), hN, if_neg (by omega), if_neg (by omega), if_neg (by rw [hsum]; simp)]
    unfold nextR
    rw [this]
    simp only [List.length_drop]
    congr 2
    omega
  rw [hnx] at k
  have e4 : 8 + n - ((8 : Int).toNat) = n := by show 8 + n - 8 = n; omega
  rw [e4]
  obtain ⟨w24, hrun, h24⟩ := make_run (n := n) h21 (by omega)
  refine runV_ok hrun ⟨_, _, _, rfl, ?_⟩
  have hro : RdS w24 (midS (tailS q 0) 8 n).1 n 1 (bytesV ((b.drop 8).take n)) := by
    have := hmid.rd.at h24 (List.mem_cons_of_mem _ hm)
    rwa [show (midS (tailS q 0) 8 n).2.1 = n by unfold midS; simp only; omega] at this
  obtain ⟨w27, hr27, h27⟩ := copy_run (o := 0) (dl := n) (dc := n) (c2 := (midS (tailS q 0) 8 n).2.2) h24 hro (by rw [List.length_take]; omega) (by rw [List.length_take]; simp; omega)
  refine runV_ok hr27 ⟨_, rfl, ?_⟩
  have e5 : IntKind.wrap .i64 (IntKind.wrap .i64 ((0 : Int) + 8) + (n : Int)) = ((8 + n : Nat) : Int) := by
    rw [wrap_id (x := (0 : Int) + 8) (by omega) (by omega), wrap_id (by omega) (by omega)]; omega
  rw [e5]
  refine k w27 (some ⟨w21.heap.size, 0, none⟩, n, n) ?_
  have hln : ((b.drop 8).take n).length = n := by rw [List.length_take, List.length_drop]; omega
  have e6 : (List.replicate n (0 : UInt8)).drop n = [] := by simp
  rw [List.take_zero, List.nil_append, hln, Nat.zero_add, e6, List.append_nil] at h27
  exact h27
end
end Go.Vc

/-
  Frames, in the document's words.
-/
namespace Go.Vc
open Go Go.Proofs Go.Proofs.Ytclinifclfahfaa
set_option maxRecDepth 100000
section
variable {E w : World} {L : List Asrt} {R : Ending → World → Prop} {F : Fz} {q : Sl} {b : Cm.Bs}
end
end Go.Vc

/-
  A list whose members are all good and rise: looked at one by one.
-/
namespace Go.Sn
open Go.Cm (rises)
theorem rises_snoc {α : Type} (lt : α → α → Bool) : ∀ (l : List α) (x : α), rises lt (l ++ [x]) = (rises lt l && (match l.getLast? with | .none => true | .some y => lt y x))
  | [], _ => rfl
  | [a], x => by simp [rises]
  | a :: b :: r, x => by
    have ih := rises_snoc lt (b :: r) x
    simp only [List.cons_append] at ih ⊢
    show (lt a b && rises lt (b :: (r ++ [x]))) = _
    rw [ih]
    have : (a :: b :: r).getLast? = (b :: r).getLast? := by simp [List.getLast?_cons_cons]
    rw [this]
    show _ = ((lt a b && rises lt (b :: r)) && _)
    rw [Bool.and_assoc]
/-- The first j are all good, and rise. -/
def okTo {α : Type} (lt : α → α → Bool) (g : α → Bool) (l : List α) (j : Nat) : Bool := (l.take j).all g && rises lt (l.take j)
theorem okTo_zero {α : Type} (lt : α → α → Bool) (g : α → Bool) (l : List α) : okTo lt g l 0 = true := by simp [okTo, rises]
theorem okTo_all {α : Type} (lt : α → α → Bool) (g : α → Bool) (l : List α) : okTo lt g l l.length = (l.all g && rises lt l) := by simp [okTo]
theorem okTo_one {α : Type} {lt : α → α → Bool} {g : α → Bool} {l : List α} (h : 0 < l.length) : okTo lt g l 1 = g l[0] := by
  obtain ⟨a, r, rfl⟩ : ∃ a r, l = a :: r := by cases l with | nil => simp at h | cons a r => exact ⟨a, r, rfl⟩
  simp [okTo, rises]
theorem okTo_succ {α : Type} {lt : α → α → Bool} {g : α → Bool} {l : List α} {j : Nat} (h : j + 1 < l.length) : okTo lt g l (j + 1 + 1) = (okTo lt g l (j + 1) && (g l[j + 1] && lt l[j] l[j + 1])) := by
  unfold okTo
  have e1 : l.take (j + 1 + 1) = l.take (j + 1) ++ [l[j + 1]] := List.take_succ_eq_append_getElem h
  have e2 : (l.take (j + 1)).getLast? = some l[j] := by
    rw [List.take_succ_eq_append_getElem (by omega : j < l.length)]
    exact List.getLast?_concat ..
  rw [e1, rises_snoc, e2, List.all_append]
  simp only [List.all_cons, List.all_nil, Bool.and_true]
  cases (l.take (j + 1)).all g <;> cases g l[j + 1] <;> cases rises lt (l.take (j + 1)) <;> cases lt l[j] l[j + 1] <;> rfl
theorem okTo_false {α : Type} {lt : α → α → Bool} {g : α → Bool} {l : List α} {j : Nat} (hj : j ≤ l.length) (h : okTo lt g l j = false) : (l.all g && rises lt l) = false := by
  rw [← okTo_all]
  have key : ∀ i, j + i ≤ l.length → okTo lt g l (j + i) = false := by
    intro i
    induction i with
    | zero => intro _; exact h
    | succ i ih =>
      intro hi
      have := ih (by omega)
      rw [← Nat.add_assoc]
      cases hji : j + i with
      | zero => rw [hji, okTo_zero] at this; cases this
      | succ m =>
        rw [hji] at this
        rw [okTo_succ (by omega), this]; rfl
  have := key (l.length - j) (by omega)
  rwa [show j + (l.length - j) = l.length by omega] at this
end Go.Sn

/-
  What the functions' code comes to; printed by a program of this claim's own.
-/
namespace Go.Proofs.Ytclinifclfahfaa
open Go Go.Vc
set_option maxRecDepth 100000
set_option linter.unusedVariables false

/-! tollgate/member.rises -/
def T_member_rises_1_body (X : Int → World → Prop) (x2 : Int) (l3a : Option Addr) (l3l : Nat) (l3c : Nat) (s4a : Option Addr) (s4l : Nat) (s4c : Nat) (x5 : Int) (w : World) (Kn : World → Prop) (Kr : Bool → World → Prop) (Kp : List PanicEntry → World → Prop)  : Prop :=
  if (decide ((x2 : Int) < x5)) = true then (0 ≤ (x2 : Int) ∧ (x2 : Int) < ((s4l : Nat) : Int) ∧ ∃ b6, s4a = some b6 ∧ ∃ x7 : Int, rd w (b6.add ((x2 : Int).toNat * 1)) (.int .i64 x7) ∧ if (decide ((x7 : Int) < 1)) = true then (Kr false w) else (if (decide ((x7 : Int) > 9)) = true then (Kr false w) else (if (decide ((x2 : Int) > 0)) = true then (0 ≤ (IntKind.wrap .i64 ((x2 : Int) - 1) : Int) ∧ (IntKind.wrap .i64 ((x2 : Int) - 1) : Int) < ((l3l : Nat) : Int) ∧ ∃ b8, l3a = some b8 ∧ ∃ x9 : Int, rd w (b8.add ((IntKind.wrap .i64 ((x2 : Int) - 1) : Int).toNat * 1)) (.int .i64 x9) ∧ if (decide ((x7 : Int) ≤ x9)) = true then (Kr false w) else (X (IntKind.wrap .i64 ((x2 : Int) + 1)) w)) else (X (IntKind.wrap .i64 ((x2 : Int) + 1)) w)))) else (Kn  w)

def T_member_rises_1 (x2 : Int) (l3a : Option Addr) (l3l : Nat) (l3c : Nat) (s4a : Option Addr) (s4l : Nat) (s4c : Nat) (x5 : Int) (w : World) (Kn : World → Prop) (Kr : Bool → World → Prop) (Kp : List PanicEntry → World → Prop) : Prop :=
  ∀ X : Int → World → Prop, (∀ (x2 : Int) (w : World), T_member_rises_1_body X x2 l3a l3l l3c s4a s4l s4c x5 w Kn Kr Kp → X x2 w) → X x2 w

def T_member_rises_1_outs : Exit → Option (List (Nat × Value)) := fun x => match x with | .normal => some [] | .ret => some [(2, .bool false)] | .panic _ => some [] | _ => none

def T_member_rises_1_ks : Nat → Bool := ksOf [2, 3, 4, 7, 8, 9, 10, 11, 12, 13, 14, 15, 16, 17, 18, 19, 20, 21, 22, 23, 24, 25, 26, 27, 28, 29, 30, 31]

def H_member_rises_1 : Env → World → QT → Prop := unitHook 32 T_member_rises_1_ks [(7, .int .i64 0), (0, .slice none 0 0), (5, .slice none 0 0), (6, .int .i64 0)] T_member_rises_1_outs fun l w C => match l with | [v0, v1, v2, v3] => T_member_rises_1 (pInt v0) (pA v1) (pL v1) (pC v1) (pA v2) (pL v2) (pC v2) (pInt v3) w (fun w => C .normal [] w) (fun b11 w => C .ret [.bool b11] w) (fun ch w => C (.panic ch) [] w) | _ => False

theorem T_member_rises_1_hl : allP (hokL Try.prog (hookAt []) (at_ (bodyOf Try.f70) [1, 0, 1, 0, 0]) 52) = (True) := by kernel_rfl
theorem T_member_rises_1_hok : HOk Try.prog (hookAt []) (at_ (bodyOf Try.f70) [1, 0, 1, 0, 0]) 52 := HOk_of _ _ (by rw [T_member_rises_1_hl]; exact trivial)

theorem T_member_rises_1_eq (C : Conts) (X : List Value → World → Prop) (x2 : Int) (l3a : Option Addr) (l3l : Nat) (l3c : Nat) (s4a : Option Addr) (s4l : Nat) (s4c : Nat) (x5 : Int) (w : World) : vcCode Try.prog (hookAt []) (at_ (bodyOf Try.f70) [1, 0, 1, 0, 0]) 52 ⟨[(7, .int .i64 x2)] ++ [(0, .slice l3a l3l l3c), (5, .slice s4a s4l s4c), (6, .int .i64 x5)], 32, []⟩ w (seqQ (fun e w => takeAll e [(7, .int .i64 0)] fun l => X l w) (blockQ 0 (unitQ T_member_rises_1_outs C))) = T_member_rises_1_body (fun x2 w => X [.int .i64 x2] w) x2 l3a l3l l3c s4a s4l s4c x5 w (fun w => C .normal [] w) (fun b12 w => C .ret [.bool b12] w) (fun ch w => C (.panic ch) [] w) := by kernel_rfl

theorem T_member_rises_1_ok : UnitOk Try.prog H_member_rises_1 (at_ (bodyOf Try.f70) [1, 0, 1]) 13 := by
  have hc : at_ (bodyOf Try.f70) [1, 0, 1] = .block 0 (.loop (at_ (bodyOf Try.f70) [1, 0, 1, 0, 0])) := by kernel_rfl
  rw [hc]
  refine loop_unit_ok (carr := [(7, .int .i64 0)]) (fix := [(0, .slice none 0 0), (5, .slice none 0 0), (6, .int .i64 0)]) (ks := T_member_rises_1_ks) (H := (hookAt [])) (B := fun C X l u w => match l, u with | [v0], [v1, v2, v3] => T_member_rises_1_body (fun x2 w => X [.int .i64 x2] w) (pInt v0) (pA v1) (pL v1) (pC v1) (pA v2) (pL v2) (pC v2) (pInt v3) w (fun w => C .normal [] w) (fun b13 w => C .ret [.bool b13] w) (fun ch w => C (.panic ch) [] w) | _, _ => False) (by kernel_rfl) (by kernel_rfl) T_member_rises_1_hok ?_ ?_
  · intro C X l u w hl hu
    obtain ⟨v0, l_v0, rfl, k_v0, hl_v0⟩ := Kinds.cons_ hl
    obtain ⟨x2, rfl⟩ := kind_int k_v0
    obtain rfl := Kinds.nil_ hl_v0
    obtain ⟨v1, l_v1, rfl, k_v1, hu_v1⟩ := Kinds.cons_ hu
    obtain ⟨l3a, l3l, l3c, rfl⟩ := kind_slice k_v1
    obtain ⟨v2, l_v2, rfl, k_v2, hu_v2⟩ := Kinds.cons_ hu_v1
    obtain ⟨s4a, s4l, s4c, rfl⟩ := kind_slice k_v2
    obtain ⟨v3, l_v3, rfl, k_v3, hu_v3⟩ := Kinds.cons_ hu_v2
    obtain ⟨x5, rfl⟩ := kind_int k_v3
    obtain rfl := Kinds.nil_ hu_v3
    exact T_member_rises_1_eq C X x2 l3a l3l l3c s4a s4l s4c x5 w
  · intro l u w C hl hu
    obtain ⟨v0, l_v0, rfl, k_v0, hl_v0⟩ := Kinds.cons_ hl
    obtain ⟨x2, rfl⟩ := kind_int k_v0
    obtain rfl := Kinds.nil_ hl_v0
    obtain ⟨v1, l_v1, rfl, k_v1, hu_v1⟩ := Kinds.cons_ hu
    obtain ⟨l3a, l3l, l3c, rfl⟩ := kind_slice k_v1
    obtain ⟨v2, l_v2, rfl, k_v2, hu_v2⟩ := Kinds.cons_ hu_v1
    obtain ⟨s4a, s4l, s4c, rfl⟩ := kind_slice k_v2
    obtain ⟨v3, l_v3, rfl, k_v3, hu_v3⟩ := Kinds.cons_ hu_v2
    obtain ⟨x5, rfl⟩ := kind_int k_v3
    obtain rfl := Kinds.nil_ hu_v3
    constructor
    · intro h X hX
      exact h (fun x2 w => X [.int .i64 x2] w) (fun x2 w hb => hX [.int .i64 x2] w ⟨rfl, trivial⟩ hb)
    · intro h X hX
      exact h (fun l w => match l with | [v0] => X (pInt v0) w | _ => True) (fun l w hl hb => by
        obtain ⟨v0, l_v0, rfl, k_v0, hl_v0⟩ := Kinds.cons_ hl
        obtain ⟨x2, rfl⟩ := kind_int k_v0
        obtain rfl := Kinds.nil_ hl_v0
        exact hX x2 w hb)

def T_member_rises (l1a : Option Addr) (l1l : Nat) (l1c : Nat) (w : World) (R : Ending → World → Prop) : Prop :=
  T_member_rises_1 0 l1a l1l l1c l1a l1l l1c ((l1l : Nat) : Int) w (fun w14 => R (.returned (.bool true)) w14) (fun b15 w16 => R (.returned (.bool b15)) w16) (pan R)

theorem T_member_rises_hl : allP (hokL Try.prog (hookAt [(13, H_member_rises_1)]) (bodyOf Try.f70) 1) = (UnitOk Try.prog H_member_rises_1 (at_ (bodyOf Try.f70) [1, 0, 1]) 13 ∧ True) := by kernel_rfl

theorem T_member_rises_eq (l1a : Option Addr) (l1l : Nat) (l1c : Nat) (w : World) (R : Ending → World → Prop) : vcCode Try.prog (hookAt [(13, H_member_rises_1)]) (bodyOf Try.f70) 1 ⟨argEnv [.slice l1a l1l l1c] 0, Try.f70.ntmps, []⟩ w (finQ Try.prog Try.f70.results.toList R) = T_member_rises l1a l1l l1c w R := by kernel_rfl

theorem T_member_rises_b : Try.f70.body = some (bodyOf Try.f70) := by kernel_rfl
theorem T_member_rises_s : (quietSel (bodyOf Try.f70) && Nat.ble 1 Try.f70.ntmps) = true := by kernel_rfl

theorem C_member_rises {l1a : Option Addr} {l1l : Nat} {l1c : Nat} {w : World} {R : Ending → World → Prop} (h : T_member_rises l1a l1l l1c w R) : Calls Try.prog 70 #[.slice l1a l1l l1c] w R :=
  calls_of_text (args := [.slice l1a l1l l1c]) mixed Try.func70 T_member_rises_b T_member_rises_s (HOk_of _ _ (by rw [T_member_rises_hl]; exact ⟨T_member_rises_1_ok, trivial⟩)) (by rw [T_member_rises_eq]; exact h)

/-! slices.Contains[[]int,int] -/
def T_slices_Contains_int (s1a : Option Addr) (s1l : Nat) (s1c : Nat) (v2 : Int) (w : World) (R : Ending → World → Prop) : Prop :=
  Calls Try.prog 80 #[.slice s1a s1l s1c, .int .i64 v2] w (ret (fun r3 w4 => ∃ x5 : Int, r3 = .int .i64 x5 ∧ R (.returned (.bool (decide ((x5 : Int) ≥ 0)))) w4) (pan R))

theorem T_slices_Contains_int_hl : allP (hokL Try.prog (hookAt []) (bodyOf Try.f73) 1) = (True) := by kernel_rfl

theorem T_slices_Contains_int_eq (s1a : Option Addr) (s1l : Nat) (s1c : Nat) (v2 : Int) (w : World) (R : Ending → World → Prop) : vcCode Try.prog (hookAt []) (bodyOf Try.f73) 1 ⟨argEnv [.slice s1a s1l s1c, .int .i64 v2] 0, Try.f73.ntmps, []⟩ w (finQ Try.prog Try.f73.results.toList R) = T_slices_Contains_int s1a s1l s1c v2 w R := by kernel_rfl

theorem T_slices_Contains_int_b : Try.f73.body = some (bodyOf Try.f73) := by kernel_rfl
theorem T_slices_Contains_int_s : (quietSel (bodyOf Try.f73) && Nat.ble 2 Try.f73.ntmps) = true := by kernel_rfl

theorem C_slices_Contains_int {s1a : Option Addr} {s1l : Nat} {s1c : Nat} {v2 : Int} {w : World} {R : Ending → World → Prop} (h : T_slices_Contains_int s1a s1l s1c v2 w R) : Calls Try.prog 73 #[.slice s1a s1l s1c, .int .i64 v2] w R :=
  calls_of_text (args := [.slice s1a s1l s1c, .int .i64 v2]) mixed Try.func73 T_slices_Contains_int_b T_slices_Contains_int_s (HOk_of _ _ (by rw [T_slices_Contains_int_hl]; exact trivial)) (by rw [T_slices_Contains_int_eq]; exact h)

/-! slices.Index[[]int,int] -/
def T_slices_Index_int_1_body (X : Int → World → Prop) (x3 : Int) (s4a : Option Addr) (s4l : Nat) (s4c : Nat) (v5 : Int) (x6 : Int) (w : World) (Kn : World → Prop) (Kr : Int → World → Prop) (Kp : List PanicEntry → World → Prop)  : Prop :=
  if (decide ((x3 : Int) < x6)) = true then (0 ≤ (x3 : Int) ∧ (x3 : Int) < ((s4l : Nat) : Int) ∧ ∃ b7, s4a = some b7 ∧ ∃ x8 : Int, rd w (b7.add ((x3 : Int).toNat * 1)) (.int .i64 x8) ∧ if ((v5 : Int) == x8) = true then (Kr x3 w) else (X (IntKind.wrap .i64 ((x3 : Int) + 1)) w)) else (Kn  w)

def T_slices_Index_int_1 (x3 : Int) (s4a : Option Addr) (s4l : Nat) (s4c : Nat) (v5 : Int) (x6 : Int) (w : World) (Kn : World → Prop) (Kr : Int → World → Prop) (Kp : List PanicEntry → World → Prop) : Prop :=
  ∀ X : Int → World → Prop, (∀ (x3 : Int) (w : World), T_slices_Index_int_1_body X x3 s4a s4l s4c v5 x6 w Kn Kr Kp → X x3 w) → X x3 w

def T_slices_Index_int_1_outs : Exit → Option (List (Nat × Value)) := fun x => match x with | .normal => some [] | .ret => some [(4, .int .i64 0)] | .panic _ => some [] | _ => none

def T_slices_Index_int_1_ks : Nat → Bool := ksOf [4, 5, 8, 9, 10, 11, 12, 13, 14, 15, 16, 17, 18]

def H_slices_Index_int_1 : Env → World → QT → Prop := unitHook 19 T_slices_Index_int_1_ks [(8, .int .i64 0), (0, .slice none 0 0), (1, .int .i64 0), (7, .int .i64 0)] T_slices_Index_int_1_outs fun l w C => match l with | [v0, v1, v2, v3] => T_slices_Index_int_1 (pInt v0) (pA v1) (pL v1) (pC v1) (pInt v2) (pInt v3) w (fun w => C .normal [] w) (fun x10 w => C .ret [.int .i64 x10] w) (fun ch w => C (.panic ch) [] w) | _ => False

theorem T_slices_Index_int_1_hl : allP (hokL Try.prog (hookAt []) (at_ (bodyOf Try.f80) [1, 0, 1, 0, 0]) 52) = (True) := by kernel_rfl
theorem T_slices_Index_int_1_hok : HOk Try.prog (hookAt []) (at_ (bodyOf Try.f80) [1, 0, 1, 0, 0]) 52 := HOk_of _ _ (by rw [T_slices_Index_int_1_hl]; exact trivial)

theorem T_slices_Index_int_1_eq (C : Conts) (X : List Value → World → Prop) (x3 : Int) (s4a : Option Addr) (s4l : Nat) (s4c : Nat) (v5 : Int) (x6 : Int) (w : World) : vcCode Try.prog (hookAt []) (at_ (bodyOf Try.f80) [1, 0, 1, 0, 0]) 52 ⟨[(8, .int .i64 x3)] ++ [(0, .slice s4a s4l s4c), (1, .int .i64 v5), (7, .int .i64 x6)], 19, []⟩ w (seqQ (fun e w => takeAll e [(8, .int .i64 0)] fun l => X l w) (blockQ 0 (unitQ T_slices_Index_int_1_outs C))) = T_slices_Index_int_1_body (fun x3 w => X [.int .i64 x3] w) x3 s4a s4l s4c v5 x6 w (fun w => C .normal [] w) (fun x11 w => C .ret [.int .i64 x11] w) (fun ch w => C (.panic ch) [] w) := by kernel_rfl

theorem T_slices_Index_int_1_ok : UnitOk Try.prog H_slices_Index_int_1 (at_ (bodyOf Try.f80) [1, 0, 1]) 13 := by
  have hc : at_ (bodyOf Try.f80) [1, 0, 1] = .block 0 (.loop (at_ (bodyOf Try.f80) [1, 0, 1, 0, 0])) := by kernel_rfl
  rw [hc]
  refine loop_unit_ok (carr := [(8, .int .i64 0)]) (fix := [(0, .slice none 0 0), (1, .int .i64 0), (7, .int .i64 0)]) (ks := T_slices_Index_int_1_ks) (H := (hookAt [])) (B := fun C X l u w => match l, u with | [v0], [v1, v2, v3] => T_slices_Index_int_1_body (fun x3 w => X [.int .i64 x3] w) (pInt v0) (pA v1) (pL v1) (pC v1) (pInt v2) (pInt v3) w (fun w => C .normal [] w) (fun x12 w => C .ret [.int .i64 x12] w) (fun ch w => C (.panic ch) [] w) | _, _ => False) (by kernel_rfl) (by kernel_rfl) T_slices_Index_int_1_hok ?_ ?_
  · intro C X l u w hl hu
    obtain ⟨v0, l_v0, rfl, k_v0, hl_v0⟩ := Kinds.cons_ hl
    obtain ⟨x3, rfl⟩ := kind_int k_v0
    obtain rfl := Kinds.nil_ hl_v0
    obtain ⟨v1, l_v1, rfl, k_v1, hu_v1⟩ := Kinds.cons_ hu
    obtain ⟨s4a, s4l, s4c, rfl⟩ := kind_slice k_v1
    obtain ⟨v2, l_v2, rfl, k_v2, hu_v2⟩ := Kinds.cons_ hu_v1
    obtain ⟨v5, rfl⟩ := kind_int k_v2
    obtain ⟨v3, l_v3, rfl, k_v3, hu_v3⟩ := Kinds.cons_ hu_v2
    obtain ⟨x6, rfl⟩ := kind_int k_v3
    obtain rfl := Kinds.nil_ hu_v3
    exact T_slices_Index_int_1_eq C X x3 s4a s4l s4c v5 x6 w
  · intro l u w C hl hu
    obtain ⟨v0, l_v0, rfl, k_v0, hl_v0⟩ := Kinds.cons_ hl
    obtain ⟨x3, rfl⟩ := kind_int k_v0
    obtain rfl := Kinds.nil_ hl_v0
    obtain ⟨v1, l_v1, rfl, k_v1, hu_v1⟩ := Kinds.cons_ hu
    obtain ⟨s4a, s4l, s4c, rfl⟩ := kind_slice k_v1
    obtain ⟨v2, l_v2, rfl, k_v2, hu_v2⟩ := Kinds.cons_ hu_v1
    obtain ⟨v5, rfl⟩ := kind_int k_v2
    obtain ⟨v3, l_v3, rfl, k_v3, hu_v3⟩ := Kinds.cons_ hu_v2
    obtain ⟨x6, rfl⟩ := kind_int k_v3
    obtain rfl := Kinds.nil_ hu_v3
    constructor
    · intro h X hX
      exact h (fun x3 w => X [.int .i64 x3] w) (fun x3 w hb => hX [.int .i64 x3] w ⟨rfl, trivial⟩ hb)
    · intro h X hX
      exact h (fun l w => match l with | [v0] => X (pInt v0) w | _ => True) (fun l w hl hb => by
        obtain ⟨v0, l_v0, rfl, k_v0, hl_v0⟩ := Kinds.cons_ hl
        obtain ⟨x3, rfl⟩ := kind_int k_v0
        obtain rfl := Kinds.nil_ hl_v0
        exact hX x3 w hb)

def T_slices_Index_int (s1a : Option Addr) (s1l : Nat) (s1c : Nat) (v2 : Int) (w : World) (R : Ending → World → Prop) : Prop :=
  T_slices_Index_int_1 0 s1a s1l s1c v2 ((s1l : Nat) : Int) w (fun w13 => R (.returned (.int .i64 (-1))) w13) (fun x14 w15 => R (.returned (.int .i64 x14)) w15) (pan R)

theorem T_slices_Index_int_hl : allP (hokL Try.prog (hookAt [(13, H_slices_Index_int_1)]) (bodyOf Try.f80) 1) = (UnitOk Try.prog H_slices_Index_int_1 (at_ (bodyOf Try.f80) [1, 0, 1]) 13 ∧ True) := by kernel_rfl

theorem T_slices_Index_int_eq (s1a : Option Addr) (s1l : Nat) (s1c : Nat) (v2 : Int) (w : World) (R : Ending → World → Prop) : vcCode Try.prog (hookAt [(13, H_slices_Index_int_1)]) (bodyOf Try.f80) 1 ⟨argEnv [.slice s1a s1l s1c, .int .i64 v2] 0, Try.f80.ntmps, []⟩ w (finQ Try.prog Try.f80.results.toList R) = T_slices_Index_int s1a s1l s1c v2 w R := by kernel_rfl

theorem T_slices_Index_int_b : Try.f80.body = some (bodyOf Try.f80) := by kernel_rfl
theorem T_slices_Index_int_s : (quietSel (bodyOf Try.f80) && Nat.ble 2 Try.f80.ntmps) = true := by kernel_rfl

theorem C_slices_Index_int {s1a : Option Addr} {s1l : Nat} {s1c : Nat} {v2 : Int} {w : World} {R : Ending → World → Prop} (h : T_slices_Index_int s1a s1l s1c v2 w R) : Calls Try.prog 80 #[.slice s1a s1l s1c, .int .i64 v2] w R :=
  calls_of_text (args := [.slice s1a s1l s1c, .int .i64 v2]) mixed Try.func80 T_slices_Index_int_b T_slices_Index_int_s (HOk_of _ _ (by rw [T_slices_Index_int_hl]; exact ⟨T_slices_Index_int_1_ok, trivial⟩)) (by rw [T_slices_Index_int_eq]; exact h)

/-! slices.IndexFunc[[]int,int] -/
def T_slices_IndexFunc_int_1_body (X : Int → World → Prop) (x3 : Int) (s4a : Option Addr) (s4l : Nat) (s4c : Nat) (f5g : FuncId) (f5i : Array Value) (f5c : Array Value) (x6 : Int) (w : World) (Kn : World → Prop) (Kr : Int → World → Prop) (Kp : List PanicEntry → World → Prop)  : Prop :=
  if (decide ((x3 : Int) < x6)) = true then (0 ≤ (x3 : Int) ∧ (x3 : Int) < ((s4l : Nat) : Int) ∧ ∃ b7, s4a = some b7 ∧ ∃ x8 : Int, rd w (b7.add ((x3 : Int).toNat * 1)) (.int .i64 x8) ∧ hasBody Try.prog f5g = true ∧ Calls Try.prog f5g ⟨f5i.toList ++ ([.int .i64 x8] ++ f5c.toList)⟩ w (ret (fun r9 w10 => ∃ b11 : Bool, r9 = .bool b11 ∧ if b11 = true then (Kr x3 w10) else (X (IntKind.wrap .i64 ((x3 : Int) + 1)) w10)) Kp)) else (Kn  w)

def T_slices_IndexFunc_int_1 (x3 : Int) (s4a : Option Addr) (s4l : Nat) (s4c : Nat) (f5g : FuncId) (f5i : Array Value) (f5c : Array Value) (x6 : Int) (w : World) (Kn : World → Prop) (Kr : Int → World → Prop) (Kp : List PanicEntry → World → Prop) : Prop :=
  ∀ X : Int → World → Prop, (∀ (x3 : Int) (w : World), T_slices_IndexFunc_int_1_body X x3 s4a s4l s4c f5g f5i f5c x6 w Kn Kr Kp → X x3 w) → X x3 w

def T_slices_IndexFunc_int_1_outs : Exit → Option (List (Nat × Value)) := fun x => match x with | .normal => some [] | .ret => some [(4, .int .i64 0)] | .panic _ => some [] | _ => none

def T_slices_IndexFunc_int_1_ks : Nat → Bool := ksOf [4, 5, 8, 9, 10, 11, 12, 13, 14, 15, 16, 17, 18]

def H_slices_IndexFunc_int_1 : Env → World → QT → Prop := unitHook 19 T_slices_IndexFunc_int_1_ks [(8, .int .i64 0), (0, .slice none 0 0), (1, .func (.func 0) #[] #[]), (7, .int .i64 0)] T_slices_IndexFunc_int_1_outs fun l w C => match l with | [v0, v1, v2, v3] => T_slices_IndexFunc_int_1 (pInt v0) (pA v1) (pL v1) (pC v1) (pFn v2) (pFi v2) (pCa v2) (pInt v3) w (fun w => C .normal [] w) (fun x13 w => C .ret [.int .i64 x13] w) (fun ch w => C (.panic ch) [] w) | _ => False

theorem T_slices_IndexFunc_int_1_hl : allP (hokL Try.prog (hookAt []) (at_ (bodyOf Try.f79) [1, 0, 1, 0, 0]) 52) = (True) := by kernel_rfl
theorem T_slices_IndexFunc_int_1_hok : HOk Try.prog (hookAt []) (at_ (bodyOf Try.f79) [1, 0, 1, 0, 0]) 52 := HOk_of _ _ (by rw [T_slices_IndexFunc_int_1_hl]; exact trivial)

theorem T_slices_IndexFunc_int_1_eq (C : Conts) (X : List Value → World → Prop) (x3 : Int) (s4a : Option Addr) (s4l : Nat) (s4c : Nat) (f5g : FuncId) (f5i : Array Value) (f5c : Array Value) (x6 : Int) (w : World) : vcCode Try.prog (hookAt []) (at_ (bodyOf Try.f79) [1, 0, 1, 0, 0]) 52 ⟨[(8, .int .i64 x3)] ++ [(0, .slice s4a s4l s4c), (1, .func (.func f5g) f5i f5c), (7, .int .i64 x6)], 19, []⟩ w (seqQ (fun e w => takeAll e [(8, .int .i64 0)] fun l => X l w) (blockQ 0 (unitQ T_slices_IndexFunc_int_1_outs C))) = T_slices_IndexFunc_int_1_body (fun x3 w => X [.int .i64 x3] w) x3 s4a s4l s4c f5g f5i f5c x6 w (fun w => C .normal [] w) (fun x14 w => C .ret [.int .i64 x14] w) (fun ch w => C (.panic ch) [] w) := by kernel_rfl

theorem T_slices_IndexFunc_int_1_ok : UnitOk Try.prog H_slices_IndexFunc_int_1 (at_ (bodyOf Try.f79) [1, 0, 1]) 13 := by
  have hc : at_ (bodyOf Try.f79) [1, 0, 1] = .block 0 (.loop (at_ (bodyOf Try.f79) [1, 0, 1, 0, 0])) := by kernel_rfl
  rw [hc]
  refine loop_unit_ok (carr := [(8, .int .i64 0)]) (fix := [(0, .slice none 0 0), (1, .func (.func 0) #[] #[]), (7, .int .i64 0)]) (ks := T_slices_IndexFunc_int_1_ks) (H := (hookAt [])) (B := fun C X l u w => match l, u with | [v0], [v1, v2, v3] => T_slices_IndexFunc_int_1_body (fun x3 w => X [.int .i64 x3] w) (pInt v0) (pA v1) (pL v1) (pC v1) (pFn v2) (pFi v2) (pCa v2) (pInt v3) w (fun w => C .normal [] w) (fun x15 w => C .ret [.int .i64 x15] w) (fun ch w => C (.panic ch) [] w) | _, _ => False) (by kernel_rfl) (by kernel_rfl) T_slices_IndexFunc_int_1_hok ?_ ?_
  · intro C X l u w hl hu
    obtain ⟨v0, l_v0, rfl, k_v0, hl_v0⟩ := Kinds.cons_ hl
    obtain ⟨x3, rfl⟩ := kind_int k_v0
    obtain rfl := Kinds.nil_ hl_v0
    obtain ⟨v1, l_v1, rfl, k_v1, hu_v1⟩ := Kinds.cons_ hu
    obtain ⟨s4a, s4l, s4c, rfl⟩ := kind_slice k_v1
    obtain ⟨v2, l_v2, rfl, k_v2, hu_v2⟩ := Kinds.cons_ hu_v1
    obtain ⟨f5g, f5i, f5c, rfl⟩ := kind_func k_v2
    obtain ⟨v3, l_v3, rfl, k_v3, hu_v3⟩ := Kinds.cons_ hu_v2
    obtain ⟨x6, rfl⟩ := kind_int k_v3
    obtain rfl := Kinds.nil_ hu_v3
    exact T_slices_IndexFunc_int_1_eq C X x3 s4a s4l s4c f5g f5i f5c x6 w
  · intro l u w C hl hu
    obtain ⟨v0, l_v0, rfl, k_v0, hl_v0⟩ := Kinds.cons_ hl
    obtain ⟨x3, rfl⟩ := kind_int k_v0
    obtain rfl := Kinds.nil_ hl_v0
    obtain ⟨v1, l_v1, rfl, k_v1, hu_v1⟩ := Kinds.cons_ hu
    obtain ⟨s4a, s4l, s4c, rfl⟩ := kind_slice k_v1
    obtain ⟨v2, l_v2, rfl, k_v2, hu_v2⟩ := Kinds.cons_ hu_v1
    obtain ⟨f5g, f5i, f5c, rfl⟩ := kind_func k_v2
    obtain ⟨v3, l_v3, rfl, k_v3, hu_v3⟩ := Kinds.cons_ hu_v2
    obtain ⟨x6, rfl⟩ := kind_int k_v3
    obtain rfl := Kinds.nil_ hu_v3
    constructor
    · intro h X hX
      exact h (fun x3 w => X [.int .i64 x3] w) (fun x3 w hb => hX [.int .i64 x3] w ⟨rfl, trivial⟩ hb)
    · intro h X hX
      exact h (fun l w => match l with | [v0] => X (pInt v0) w | _ => True) (fun l w hl hb => by
        obtain ⟨v0, l_v0, rfl, k_v0, hl_v0⟩ := Kinds.cons_ hl
        obtain ⟨x3, rfl⟩ := kind_int k_v0
        obtain rfl := Kinds.nil_ hl_v0
        exact hX x3 w hb)

def T_slices_IndexFunc_int (s1a : Option Addr) (s1l : Nat) (s1c : Nat) (f2g : FuncId) (f2i : Array Value) (f2c : Array Value) (w : World) (R : Ending → World → Prop) : Prop :=
  T_slices_IndexFunc_int_1 0 s1a s1l s1c f2g f2i f2c ((s1l : Nat) : Int) w (fun w16 => R (.returned (.int .i64 (-1))) w16) (fun x17 w18 => R (.returned (.int .i64 x17)) w18) (pan R)

theorem T_slices_IndexFunc_int_hl : allP (hokL Try.prog (hookAt [(13, H_slices_IndexFunc_int_1)]) (bodyOf Try.f79) 1) = (UnitOk Try.prog H_slices_IndexFunc_int_1 (at_ (bodyOf Try.f79) [1, 0, 1]) 13 ∧ True) := by kernel_rfl

theorem T_slices_IndexFunc_int_eq (s1a : Option Addr) (s1l : Nat) (s1c : Nat) (f2g : FuncId) (f2i : Array Value) (f2c : Array Value) (w : World) (R : Ending → World → Prop) : vcCode Try.prog (hookAt [(13, H_slices_IndexFunc_int_1)]) (bodyOf Try.f79) 1 ⟨argEnv [.slice s1a s1l s1c, .func (.func f2g) f2i f2c] 0, Try.f79.ntmps, []⟩ w (finQ Try.prog Try.f79.results.toList R) = T_slices_IndexFunc_int s1a s1l s1c f2g f2i f2c w R := by kernel_rfl

theorem T_slices_IndexFunc_int_b : Try.f79.body = some (bodyOf Try.f79) := by kernel_rfl
theorem T_slices_IndexFunc_int_s : (quietSel (bodyOf Try.f79) && Nat.ble 2 Try.f79.ntmps) = true := by kernel_rfl

theorem C_slices_IndexFunc_int {s1a : Option Addr} {s1l : Nat} {s1c : Nat} {f2g : FuncId} {f2i : Array Value} {f2c : Array Value} {w : World} {R : Ending → World → Prop} (h : T_slices_IndexFunc_int s1a s1l s1c f2g f2i f2c w R) : Calls Try.prog 79 #[.slice s1a s1l s1c, .func (.func f2g) f2i f2c] w R :=
  calls_of_text (args := [.slice s1a s1l s1c, .func (.func f2g) f2i f2c]) mixed Try.func79 T_slices_IndexFunc_int_b T_slices_IndexFunc_int_s (HOk_of _ _ (by rw [T_slices_IndexFunc_int_hl]; exact ⟨T_slices_IndexFunc_int_1_ok, trivial⟩)) (by rw [T_slices_IndexFunc_int_eq]; exact h)

/-! slices.ContainsFunc[[]int,int] -/
def T_slices_ContainsFunc_int (s1a : Option Addr) (s1l : Nat) (s1c : Nat) (f2g : FuncId) (f2i : Array Value) (f2c : Array Value) (w : World) (R : Ending → World → Prop) : Prop :=
  Calls Try.prog 79 #[.slice s1a s1l s1c, .func (.func f2g) f2i f2c] w (ret (fun r3 w4 => ∃ x5 : Int, r3 = .int .i64 x5 ∧ R (.returned (.bool (decide ((x5 : Int) ≥ 0)))) w4) (pan R))

theorem T_slices_ContainsFunc_int_hl : allP (hokL Try.prog (hookAt []) (bodyOf Try.f71) 1) = (True) := by kernel_rfl

theorem T_slices_ContainsFunc_int_eq (s1a : Option Addr) (s1l : Nat) (s1c : Nat) (f2g : FuncId) (f2i : Array Value) (f2c : Array Value) (w : World) (R : Ending → World → Prop) : vcCode Try.prog (hookAt []) (bodyOf Try.f71) 1 ⟨argEnv [.slice s1a s1l s1c, .func (.func f2g) f2i f2c] 0, Try.f71.ntmps, []⟩ w (finQ Try.prog Try.f71.results.toList R) = T_slices_ContainsFunc_int s1a s1l s1c f2g f2i f2c w R := by kernel_rfl

theorem T_slices_ContainsFunc_int_b : Try.f71.body = some (bodyOf Try.f71) := by kernel_rfl
theorem T_slices_ContainsFunc_int_s : (quietSel (bodyOf Try.f71) && Nat.ble 2 Try.f71.ntmps) = true := by kernel_rfl

theorem C_slices_ContainsFunc_int {s1a : Option Addr} {s1l : Nat} {s1c : Nat} {f2g : FuncId} {f2i : Array Value} {f2c : Array Value} {w : World} {R : Ending → World → Prop} (h : T_slices_ContainsFunc_int s1a s1l s1c f2g f2i f2c w R) : Calls Try.prog 71 #[.slice s1a s1l s1c, .func (.func f2g) f2i f2c] w R :=
  calls_of_text (args := [.slice s1a s1l s1c, .func (.func f2g) f2i f2c]) mixed Try.func71 T_slices_ContainsFunc_int_b T_slices_ContainsFunc_int_s (HOk_of _ _ (by rw [T_slices_ContainsFunc_int_hl]; exact trivial)) (by rw [T_slices_ContainsFunc_int_eq]; exact h)

/-! tollgate/member.Right$1 -/
def T_member_Right_c1 (n1 : Int) (cap2 : Addr) (w : World) (R : Ending → World → Prop) : Prop :=
  ∃ s3a : Option Addr, ∃ s3l : Nat, ∃ s3c : Nat, rd w cap2 (.slice s3a s3l s3c) ∧ Calls Try.prog 73 #[.slice s3a s3l s3c, .int .i64 n1] w (ret (fun r4 w5 => ∃ b6 : Bool, r4 = .bool b6 ∧ R (.returned (.bool b6)) w5) (pan R))

theorem T_member_Right_c1_hl : allP (hokL Try.prog (hookAt []) (bodyOf Try.f72) 1) = (True) := by kernel_rfl

theorem T_member_Right_c1_eq (n1 : Int) (cap2 : Addr) (w : World) (R : Ending → World → Prop) : vcCode Try.prog (hookAt []) (bodyOf Try.f72) 1 ⟨argEnv [.int .i64 n1, .pointer (some cap2)] 0, Try.f72.ntmps, []⟩ w (finQ Try.prog Try.f72.results.toList R) = T_member_Right_c1 n1 cap2 w R := by kernel_rfl

theorem T_member_Right_c1_b : Try.f72.body = some (bodyOf Try.f72) := by kernel_rfl
theorem T_member_Right_c1_s : (quietSel (bodyOf Try.f72) && Nat.ble 2 Try.f72.ntmps) = true := by kernel_rfl

theorem C_member_Right_c1 {n1 : Int} {cap2 : Addr} {w : World} {R : Ending → World → Prop} (h : T_member_Right_c1 n1 cap2 w R) : Calls Try.prog 72 #[.int .i64 n1, .pointer (some cap2)] w R :=
  calls_of_text (args := [.int .i64 n1, .pointer (some cap2)]) mixed Try.func72 T_member_Right_c1_b T_member_Right_c1_s (HOk_of _ _ (by rw [T_member_Right_c1_hl]; exact trivial)) (by rw [T_member_Right_c1_eq]; exact h)

/-! tollgate/member.Right -/
def T_member_Right (s1a : Option Addr) (s1l : Nat) (s1c : Nat) (s2a : Option Addr) (s2l : Nat) (s2c : Nat) (w : World) (R : Ending → World → Prop) : Prop :=
  let w3 : World := w.alloc (.cells #[.slice s1a s1l s1c, .slice s2a s2l s2c] 26)
  ∃ s4a : Option Addr, ∃ s4l : Nat, ∃ s4c : Nat, rd w3 (⟨w.heap.size, 0, none⟩ : Addr) (.slice s4a s4l s4c) ∧ if (((s4l : Nat) : Int) == 0) = true then (R (.returned (.bool false)) w3) else (∃ s5a : Option Addr, ∃ s5l : Nat, ∃ s5c : Nat, rd w3 (⟨w.heap.size, 0, none⟩ : Addr) (.slice s5a s5l s5c) ∧ Calls Try.prog 70 #[.slice s5a s5l s5c] w3 (ret (fun r6 w7 => ∃ b8 : Bool, r6 = .bool b8 ∧ if (!b8) = true then (R (.returned (.bool false)) w7) else (∃ s9a : Option Addr, ∃ s9l : Nat, ∃ s9c : Nat, rd w7 ((⟨w.heap.size, 0, none⟩ : Addr).add 1) (.slice s9a s9l s9c) ∧ Calls Try.prog 70 #[.slice s9a s9l s9c] w7 (ret (fun r10 w11 => ∃ b12 : Bool, r10 = .bool b12 ∧ if (!b12) = true then (R (.returned (.bool false)) w11) else (∃ s13a : Option Addr, ∃ s13l : Nat, ∃ s13c : Nat, rd w11 ((⟨w.heap.size, 0, none⟩ : Addr).add 1) (.slice s13a s13l s13c) ∧ Calls Try.prog 71 #[.slice s13a s13l s13c, .func (.func 72) #[] #[.pointer (some (⟨w.heap.size, 0, none⟩ : Addr))]] w11 (ret (fun r14 w15 => ∃ b16 : Bool, r14 = .bool b16 ∧ R (.returned (.bool (!b16))) w15) (pan R)))) (pan R)))) (pan R)))

theorem T_member_Right_hl : allP (hokL Try.prog (hookAt []) (bodyOf Try.f53) 1) = (True) := by kernel_rfl

theorem T_member_Right_eq (s1a : Option Addr) (s1l : Nat) (s1c : Nat) (s2a : Option Addr) (s2l : Nat) (s2c : Nat) (w : World) (R : Ending → World → Prop) : vcCode Try.prog (hookAt []) (bodyOf Try.f53) 1 ⟨argEnv [.agg #[.slice s1a s1l s1c, .slice s2a s2l s2c]] 0, Try.f53.ntmps, []⟩ w (finQ Try.prog Try.f53.results.toList R) = T_member_Right s1a s1l s1c s2a s2l s2c w R := by kernel_rfl

theorem T_member_Right_b : Try.f53.body = some (bodyOf Try.f53) := by kernel_rfl
theorem T_member_Right_s : (quietSel (bodyOf Try.f53) && Nat.ble 1 Try.f53.ntmps) = true := by kernel_rfl

theorem C_member_Right {s1a : Option Addr} {s1l : Nat} {s1c : Nat} {s2a : Option Addr} {s2l : Nat} {s2c : Nat} {w : World} {R : Ending → World → Prop} (h : T_member_Right s1a s1l s1c s2a s2l s2c w R) : Calls Try.prog 53 #[.agg #[.slice s1a s1l s1c, .slice s2a s2l s2c]] w R :=
  calls_of_text (args := [.agg #[.slice s1a s1l s1c, .slice s2a s2l s2c]]) mixed Try.func53 T_member_Right_b T_member_Right_s (HOk_of _ _ (by rw [T_member_Right_hl]; exact trivial)) (by rw [T_member_Right_eq]; exact h)

/-! tollgate/member.put -/
def T_member_put_1_body (X : Option Addr → Nat → Nat → Int → World → Prop) (b3a : Option Addr) (b3l : Nat) (b3c : Nat) (x4 : Int) (s5a : Option Addr) (s5l : Nat) (s5c : Nat) (x6 : Int) (w : World) (Kn : Option Addr → Nat → Nat → World → Prop) (Kp : List PanicEntry → World → Prop)  : Prop :=
  if (decide ((x4 : Int) < x6)) = true then (0 ≤ (x4 : Int) ∧ (x4 : Int) < ((s5l : Nat) : Int) ∧ ∃ b7, s5a = some b7 ∧ ∃ x8 : Int, rd w (b7.add ((x4 : Int).toNat * 1)) (.int .i64 x8) ∧ Calls Try.prog 55 #[.int .i64 x8] w (ret (fun r9 w10 => ∃ s11a : Option Addr, ∃ s11l : Nat, ∃ s11c : Nat, ∃ x12 : Int, r9 = .tuple #[.slice s11a s11l s11c, .int .i64 x12] ∧ runV Try.prog (Builtin.append_ #[27, 27] 27 #[.slice b3a b3l b3c, .slice s11a s11l s11c]) w10 (fun r13 w14 => ∃ s15a : Option Addr, ∃ s15l : Nat, ∃ s15c : Nat, r13 = .slice s15a s15l s15c ∧ X s15a s15l s15c (IntKind.wrap .i64 ((x4 : Int) + 1)) w14) Kp) Kp)) else (Kn b3a b3l b3c w)

def T_member_put_1 (b3a : Option Addr) (b3l : Nat) (b3c : Nat) (x4 : Int) (s5a : Option Addr) (s5l : Nat) (s5c : Nat) (x6 : Int) (w : World) (Kn : Option Addr → Nat → Nat → World → Prop) (Kp : List PanicEntry → World → Prop) : Prop :=
  ∀ X : Option Addr → Nat → Nat → Int → World → Prop, (∀ (b3a : Option Addr) (b3l : Nat) (b3c : Nat) (x4 : Int) (w : World), T_member_put_1_body X b3a b3l b3c x4 s5a s5l s5c x6 w Kn Kp → X b3a b3l b3c x4 w) → X b3a b3l b3c x4 w

def T_member_put_1_outs : Exit → Option (List (Nat × Value)) := fun x => match x with | .normal => some [(0, .slice none 0 0)] | .panic _ => some [] | _ => none

def T_member_put_1_ks : Nat → Bool := ksOf [0, 6, 7, 8, 11, 12, 13, 14, 15, 16, 17, 18, 19, 20, 21, 22, 23]

def H_member_put_1 : Env → World → QT → Prop := unitHook 25 T_member_put_1_ks [(0, .slice none 0 0), (11, .int .i64 0), (9, .slice none 0 0), (10, .int .i64 0)] T_member_put_1_outs fun l w C => match l with | [v0, v1, v2, v3] => T_member_put_1 (pA v0) (pL v0) (pC v0) (pInt v1) (pA v2) (pL v2) (pC v2) (pInt v3) w (fun b17a b17l b17c w => C .normal [.slice b17a b17l b17c] w) (fun ch w => C (.panic ch) [] w) | _ => False

theorem T_member_put_1_hl : allP (hokL Try.prog (hookAt []) (at_ (bodyOf Try.f54) [1, 0, 1, 0, 0]) 52) = (True) := by kernel_rfl
theorem T_member_put_1_hok : HOk Try.prog (hookAt []) (at_ (bodyOf Try.f54) [1, 0, 1, 0, 0]) 52 := HOk_of _ _ (by rw [T_member_put_1_hl]; exact trivial)

theorem T_member_put_1_eq (C : Conts) (X : List Value → World → Prop) (b3a : Option Addr) (b3l : Nat) (b3c : Nat) (x4 : Int) (s5a : Option Addr) (s5l : Nat) (s5c : Nat) (x6 : Int) (w : World) : vcCode Try.prog (hookAt []) (at_ (bodyOf Try.f54) [1, 0, 1, 0, 0]) 52 ⟨[(0, .slice b3a b3l b3c), (11, .int .i64 x4)] ++ [(9, .slice s5a s5l s5c), (10, .int .i64 x6)], 25, []⟩ w (seqQ (fun e w => takeAll e [(0, .slice none 0 0), (11, .int .i64 0)] fun l => X l w) (blockQ 0 (unitQ T_member_put_1_outs C))) = T_member_put_1_body (fun b3a b3l b3c x4 w => X [.slice b3a b3l b3c, .int .i64 x4] w) b3a b3l b3c x4 s5a s5l s5c x6 w (fun b18a b18l b18c w => C .normal [.slice b18a b18l b18c] w) (fun ch w => C (.panic ch) [] w) := by kernel_rfl

theorem T_member_put_1_ok : UnitOk Try.prog H_member_put_1 (at_ (bodyOf Try.f54) [1, 0, 1]) 13 := by
  have hc : at_ (bodyOf Try.f54) [1, 0, 1] = .block 0 (.loop (at_ (bodyOf Try.f54) [1, 0, 1, 0, 0])) := by kernel_rfl
  rw [hc]
  refine loop_unit_ok (carr := [(0, .slice none 0 0), (11, .int .i64 0)]) (fix := [(9, .slice none 0 0), (10, .int .i64 0)]) (ks := T_member_put_1_ks) (H := (hookAt [])) (B := fun C X l u w => match l, u with | [v0, v1], [v2, v3] => T_member_put_1_body (fun b3a b3l b3c x4 w => X [.slice b3a b3l b3c, .int .i64 x4] w) (pA v0) (pL v0) (pC v0) (pInt v1) (pA v2) (pL v2) (pC v2) (pInt v3) w (fun b19a b19l b19c w => C .normal [.slice b19a b19l b19c] w) (fun ch w => C (.panic ch) [] w) | _, _ => False) (by kernel_rfl) (by kernel_rfl) T_member_put_1_hok ?_ ?_
  · intro C X l u w hl hu
    obtain ⟨v0, l_v0, rfl, k_v0, hl_v0⟩ := Kinds.cons_ hl
    obtain ⟨b3a, b3l, b3c, rfl⟩ := kind_slice k_v0
    obtain ⟨v1, l_v1, rfl, k_v1, hl_v1⟩ := Kinds.cons_ hl_v0
    obtain ⟨x4, rfl⟩ := kind_int k_v1
    obtain rfl := Kinds.nil_ hl_v1
    obtain ⟨v2, l_v2, rfl, k_v2, hu_v2⟩ := Kinds.cons_ hu
    obtain ⟨s5a, s5l, s5c, rfl⟩ := kind_slice k_v2
    obtain ⟨v3, l_v3, rfl, k_v3, hu_v3⟩ := Kinds.cons_ hu_v2
    obtain ⟨x6, rfl⟩ := kind_int k_v3
    obtain rfl := Kinds.nil_ hu_v3
    exact T_member_put_1_eq C X b3a b3l b3c x4 s5a s5l s5c x6 w
  · intro l u w C hl hu
    obtain ⟨v0, l_v0, rfl, k_v0, hl_v0⟩ := Kinds.cons_ hl
    obtain ⟨b3a, b3l, b3c, rfl⟩ := kind_slice k_v0
    obtain ⟨v1, l_v1, rfl, k_v1, hl_v1⟩ := Kinds.cons_ hl_v0
    obtain ⟨x4, rfl⟩ := kind_int k_v1
    obtain rfl := Kinds.nil_ hl_v1
    obtain ⟨v2, l_v2, rfl, k_v2, hu_v2⟩ := Kinds.cons_ hu
    obtain ⟨s5a, s5l, s5c, rfl⟩ := kind_slice k_v2
    obtain ⟨v3, l_v3, rfl, k_v3, hu_v3⟩ := Kinds.cons_ hu_v2
    obtain ⟨x6, rfl⟩ := kind_int k_v3
    obtain rfl := Kinds.nil_ hu_v3
    constructor
    · intro h X hX
      exact h (fun b3a b3l b3c x4 w => X [.slice b3a b3l b3c, .int .i64 x4] w) (fun b3a b3l b3c x4 w hb => hX [.slice b3a b3l b3c, .int .i64 x4] w ⟨rfl, rfl, trivial⟩ hb)
    · intro h X hX
      exact h (fun l w => match l with | [v0, v1] => X (pA v0) (pL v0) (pC v0) (pInt v1) w | _ => True) (fun l w hl hb => by
        obtain ⟨v0, l_v0, rfl, k_v0, hl_v0⟩ := Kinds.cons_ hl
        obtain ⟨b3a, b3l, b3c, rfl⟩ := kind_slice k_v0
        obtain ⟨v1, l_v1, rfl, k_v1, hl_v1⟩ := Kinds.cons_ hl_v0
        obtain ⟨x4, rfl⟩ := kind_int k_v1
        obtain rfl := Kinds.nil_ hl_v1
        exact hX b3a b3l b3c x4 w hb)

def T_member_put (b1a : Option Addr) (b1l : Nat) (b1c : Nat) (l2a : Option Addr) (l2l : Nat) (l2c : Nat) (w : World) (R : Ending → World → Prop) : Prop :=
  T_member_put_1 b1a b1l b1c 0 l2a l2l l2c ((l2l : Nat) : Int) w (fun b20a b20l b20c w21 => R (.returned (.slice b20a b20l b20c)) w21) (pan R)

theorem T_member_put_hl : allP (hokL Try.prog (hookAt [(13, H_member_put_1)]) (bodyOf Try.f54) 1) = (UnitOk Try.prog H_member_put_1 (at_ (bodyOf Try.f54) [1, 0, 1]) 13 ∧ True) := by kernel_rfl

theorem T_member_put_eq (b1a : Option Addr) (b1l : Nat) (b1c : Nat) (l2a : Option Addr) (l2l : Nat) (l2c : Nat) (w : World) (R : Ending → World → Prop) : vcCode Try.prog (hookAt [(13, H_member_put_1)]) (bodyOf Try.f54) 1 ⟨argEnv [.slice b1a b1l b1c, .slice l2a l2l l2c] 0, Try.f54.ntmps, []⟩ w (finQ Try.prog Try.f54.results.toList R) = T_member_put b1a b1l b1c l2a l2l l2c w R := by kernel_rfl

theorem T_member_put_b : Try.f54.body = some (bodyOf Try.f54) := by kernel_rfl
theorem T_member_put_s : (quietSel (bodyOf Try.f54) && Nat.ble 2 Try.f54.ntmps) = true := by kernel_rfl

theorem C_member_put {b1a : Option Addr} {b1l : Nat} {b1c : Nat} {l2a : Option Addr} {l2l : Nat} {l2c : Nat} {w : World} {R : Ending → World → Prop} (h : T_member_put b1a b1l b1c l2a l2l l2c w R) : Calls Try.prog 54 #[.slice b1a b1l b1c, .slice l2a l2l l2c] w R :=
  calls_of_text (args := [.slice b1a b1l b1c, .slice l2a l2l l2c]) mixed Try.func54 T_member_put_b T_member_put_s (HOk_of _ _ (by rw [T_member_put_hl]; exact ⟨T_member_put_1_ok, trivial⟩)) (by rw [T_member_put_eq]; exact h)

/-! tollgate/member.Put -/
def T_member_Put (s1a : Option Addr) (s1l : Nat) (s1c : Nat) (s2a : Option Addr) (s2l : Nat) (s2c : Nat) (w : World) (R : Ending → World → Prop) : Prop :=
  let w3 : World := w.alloc (.cells #[.slice s1a s1l s1c, .slice s2a s2l s2c] 26)
  ∃ s4a : Option Addr, ∃ s4l : Nat, ∃ s4c : Nat, ∃ s5a : Option Addr, ∃ s5l : Nat, ∃ s5c : Nat, rd w3 (⟨w.heap.size, 0, none⟩ : Addr) (.agg #[.slice s4a s4l s4c, .slice s5a s5l s5c]) ∧ Calls Try.prog 53 #[.agg #[.slice s4a s4l s4c, .slice s5a s5l s5c]] w3 (ret (fun r6 w7 => ∃ b8 : Bool, r6 = .bool b8 ∧ if (!b8) = true then (R (.returned (.tuple #[.slice none 0 0, .int .i64 2])) w7) else (∃ s9a : Option Addr, ∃ s9l : Nat, ∃ s9c : Nat, rd w7 (⟨w.heap.size, 0, none⟩ : Addr) (.slice s9a s9l s9c) ∧ let w10 : World := w7.alloc (.cells #[.int .i64 ((s9l : Nat) : Int)] 3)
  Calls Try.prog 54 #[.slice none 0 0, .slice (some (⟨w7.heap.size, 0, none⟩ : Addr)) 1 1] w10 (ret (fun r11 w12 => ∃ s13a : Option Addr, ∃ s13l : Nat, ∃ s13c : Nat, r11 = .slice s13a s13l s13c ∧ ∃ s14a : Option Addr, ∃ s14l : Nat, ∃ s14c : Nat, rd w12 (⟨w.heap.size, 0, none⟩ : Addr) (.slice s14a s14l s14c) ∧ Calls Try.prog 54 #[.slice s13a s13l s13c, .slice s14a s14l s14c] w12 (ret (fun r15 w16 => ∃ s17a : Option Addr, ∃ s17l : Nat, ∃ s17c : Nat, r15 = .slice s17a s17l s17c ∧ ∃ s18a : Option Addr, ∃ s18l : Nat, ∃ s18c : Nat, rd w16 ((⟨w.heap.size, 0, none⟩ : Addr).add 1) (.slice s18a s18l s18c) ∧ let w19 : World := w16.alloc (.cells #[.int .i64 ((s18l : Nat) : Int)] 3)
  Calls Try.prog 54 #[.slice s17a s17l s17c, .slice (some (⟨w16.heap.size, 0, none⟩ : Addr)) 1 1] w19 (ret (fun r20 w21 => ∃ s22a : Option Addr, ∃ s22l : Nat, ∃ s22c : Nat, r20 = .slice s22a s22l s22c ∧ ∃ s23a : Option Addr, ∃ s23l : Nat, ∃ s23c : Nat, rd w21 ((⟨w.heap.size, 0, none⟩ : Addr).add 1) (.slice s23a s23l s23c) ∧ Calls Try.prog 54 #[.slice s22a s22l s22c, .slice s23a s23l s23c] w21 (ret (fun r24 w25 => ∃ s26a : Option Addr, ∃ s26l : Nat, ∃ s26c : Nat, r24 = .slice s26a s26l s26c ∧ R (.returned (.tuple #[.slice s26a s26l s26c, .int .i64 0])) w25) (pan R))) (pan R))) (pan R))) (pan R)))) (pan R))

theorem T_member_Put_hl : allP (hokL Try.prog (hookAt []) (bodyOf Try.f28) 1) = (True) := by kernel_rfl

theorem T_member_Put_eq (s1a : Option Addr) (s1l : Nat) (s1c : Nat) (s2a : Option Addr) (s2l : Nat) (s2c : Nat) (w : World) (R : Ending → World → Prop) : vcCode Try.prog (hookAt []) (bodyOf Try.f28) 1 ⟨argEnv [.agg #[.slice s1a s1l s1c, .slice s2a s2l s2c]] 0, Try.f28.ntmps, []⟩ w (finQ Try.prog Try.f28.results.toList R) = T_member_Put s1a s1l s1c s2a s2l s2c w R := by kernel_rfl

theorem T_member_Put_b : Try.f28.body = some (bodyOf Try.f28) := by kernel_rfl
theorem T_member_Put_s : (quietSel (bodyOf Try.f28) && Nat.ble 1 Try.f28.ntmps) = true := by kernel_rfl

theorem C_member_Put {s1a : Option Addr} {s1l : Nat} {s1c : Nat} {s2a : Option Addr} {s2l : Nat} {s2c : Nat} {w : World} {R : Ending → World → Prop} (h : T_member_Put s1a s1l s1c s2a s2l s2c w R) : Calls Try.prog 28 #[.agg #[.slice s1a s1l s1c, .slice s2a s2l s2c]] w R :=
  calls_of_text (args := [.agg #[.slice s1a s1l s1c, .slice s2a s2l s2c]]) mixed Try.func28 T_member_Put_b T_member_Put_s (HOk_of _ _ (by rw [T_member_Put_hl]; exact trivial)) (by rw [T_member_Put_eq]; exact h)

/-! tollgate/member.list -/
def T_member_list_1 (n8 : Int) (e9 : Int) (w : World) (Kn : Bool → World → Prop) (Kp : List PanicEntry → World → Prop) : Prop :=
  if ((e9 : Int) == 0) = true then (Kn (decide ((n8 : Int) > 9)) w) else (Kn false w)

def T_member_list_1_outs : Exit → Option (List (Nat × Value)) := fun x => match x with | .normal => some [(24, .bool false)] | .panic _ => some [] | _ => none

def T_member_list_1_ks : Nat → Bool := ksOf [19, 20, 21, 22, 23, 24]

def H_member_list_1 : Env → World → QT → Prop := unitHook 48 T_member_list_1_ks [(7, .int .i64 0), (8, .int .i64 0)] T_member_list_1_outs fun l w C => match l with | [v0, v1] => T_member_list_1 (pInt v0) (pInt v1) w (fun b11 w => C .normal [.bool b11] w) (fun ch w => C (.panic ch) [] w) | _ => False

theorem T_member_list_1_hl : allP (hokL Try.prog (hookAt []) (at_ (bodyOf Try.f60) [1, 1, 0, 0]) 28) = (True) := by kernel_rfl
theorem T_member_list_1_hok : HOk Try.prog (hookAt []) (at_ (bodyOf Try.f60) [1, 1, 0, 0]) 28 := HOk_of _ _ (by rw [T_member_list_1_hl]; exact trivial)

theorem T_member_list_1_eq (C : Conts) (n8 : Int) (e9 : Int) (w : World) : vcCode Try.prog (hookAt []) (at_ (bodyOf Try.f60) [1, 1, 0, 0]) 28 ⟨[(7, .int .i64 n8), (8, .int .i64 e9)], 48, []⟩ w (unitQ T_member_list_1_outs C) = T_member_list_1 n8 e9 w (fun b12 w => C .normal [.bool b12] w) (fun ch w => C (.panic ch) [] w) := by kernel_rfl

theorem T_member_list_1_ok : UnitOk Try.prog H_member_list_1 (at_ (bodyOf Try.f60) [1, 1, 0, 0]) 28 := unit_ok (H := (hookAt [])) (by kernel_rfl) T_member_list_1_hok fun l w C hk => by
    obtain ⟨v0, l_v0, rfl, k_v0, hk_v0⟩ := Kinds.cons_ hk
    obtain ⟨n8, rfl⟩ := kind_int k_v0
    obtain ⟨v1, l_v1, rfl, k_v1, hk_v1⟩ := Kinds.cons_ hk_v0
    obtain ⟨e9, rfl⟩ := kind_int k_v1
    obtain rfl := Kinds.nil_ hk_v1
    exact T_member_list_1_eq C n8 e9 w

def T_member_list_2 (e15 : Int) (b16 : Bool) (w : World) (Kn : Int → World → Prop) (Kp : List PanicEntry → World → Prop) : Prop :=
  if b16 = true then (Kn 4 w) else (Kn e15 w)

def T_member_list_2_outs : Exit → Option (List (Nat × Value)) := fun x => match x with | .normal => some [(8, .int .i64 0)] | .panic _ => some [] | _ => none

def T_member_list_2_ks : Nat → Bool := ksOf [8]

def H_member_list_2 : Env → World → QT → Prop := unitHook 48 T_member_list_2_ks [(8, .int .i64 0), (24, .bool false)] T_member_list_2_outs fun l w C => match l with | [v0, v1] => T_member_list_2 (pInt v0) (pBool v1) w (fun e18 w => C .normal [.int .i64 e18] w) (fun ch w => C (.panic ch) [] w) | _ => False

theorem T_member_list_2_hl : allP (hokL Try.prog (hookAt []) (at_ (bodyOf Try.f60) [1, 1, 0, 1]) 29) = (True) := by kernel_rfl
theorem T_member_list_2_hok : HOk Try.prog (hookAt []) (at_ (bodyOf Try.f60) [1, 1, 0, 1]) 29 := HOk_of _ _ (by rw [T_member_list_2_hl]; exact trivial)

theorem T_member_list_2_eq (C : Conts) (e15 : Int) (b16 : Bool) (w : World) : vcCode Try.prog (hookAt []) (at_ (bodyOf Try.f60) [1, 1, 0, 1]) 29 ⟨[(8, .int .i64 e15), (24, .bool b16)], 48, []⟩ w (unitQ T_member_list_2_outs C) = T_member_list_2 e15 b16 w (fun e19 w => C .normal [.int .i64 e19] w) (fun ch w => C (.panic ch) [] w) := by kernel_rfl

theorem T_member_list_2_ok : UnitOk Try.prog H_member_list_2 (at_ (bodyOf Try.f60) [1, 1, 0, 1]) 29 := unit_ok (H := (hookAt [])) (by kernel_rfl) T_member_list_2_hok fun l w C hk => by
    obtain ⟨v0, l_v0, rfl, k_v0, hk_v0⟩ := Kinds.cons_ hk
    obtain ⟨e15, rfl⟩ := kind_int k_v0
    obtain ⟨v1, l_v1, rfl, k_v1, hk_v1⟩ := Kinds.cons_ hk_v0
    obtain ⟨b16, rfl⟩ := kind_bool k_v1
    obtain rfl := Kinds.nil_ hk_v1
    exact T_member_list_2_eq C e15 b16 w

def T_member_list_4 (n28 : Int) (e29 : Int) (k30 : Int) (w : World) (Kn : Bool → World → Prop) (Kp : List PanicEntry → World → Prop) : Prop :=
  if ((e29 : Int) == 0) = true then (Kn (decide ((k30 : Int) < n28)) w) else (Kn false w)

def T_member_list_4_outs : Exit → Option (List (Nat × Value)) := fun x => match x with | .normal => some [(31, .bool false)] | .panic _ => some [] | _ => none

def T_member_list_4_ks : Nat → Bool := ksOf [25, 26, 27, 28, 29, 30, 31]

def H_member_list_4 : Env → World → QT → Prop := unitHook 48 T_member_list_4_ks [(7, .int .i64 0), (8, .int .i64 0), (10, .int .i64 0)] T_member_list_4_outs fun l w C => match l with | [v0, v1, v2] => T_member_list_4 (pInt v0) (pInt v1) (pInt v2) w (fun b32 w => C .normal [.bool b32] w) (fun ch w => C (.panic ch) [] w) | _ => False

theorem T_member_list_4_hl : allP (hokL Try.prog (hookAt []) (at_ (bodyOf Try.f60) [1, 1, 1, 1, 0, 1, 0, 0, 0, 0]) 2000) = (True) := by kernel_rfl
theorem T_member_list_4_hok : HOk Try.prog (hookAt []) (at_ (bodyOf Try.f60) [1, 1, 1, 1, 0, 1, 0, 0, 0, 0]) 2000 := HOk_of _ _ (by rw [T_member_list_4_hl]; exact trivial)

theorem T_member_list_4_eq (C : Conts) (n28 : Int) (e29 : Int) (k30 : Int) (w : World) : vcCode Try.prog (hookAt []) (at_ (bodyOf Try.f60) [1, 1, 1, 1, 0, 1, 0, 0, 0, 0]) 2000 ⟨[(7, .int .i64 n28), (8, .int .i64 e29), (10, .int .i64 k30)], 48, []⟩ w (unitQ T_member_list_4_outs C) = T_member_list_4 n28 e29 k30 w (fun b33 w => C .normal [.bool b33] w) (fun ch w => C (.panic ch) [] w) := by kernel_rfl

theorem T_member_list_4_ok : UnitOk Try.prog H_member_list_4 (at_ (bodyOf Try.f60) [1, 1, 1, 1, 0, 1, 0, 0, 0, 0]) 2000 := unit_ok (H := (hookAt [])) (by kernel_rfl) T_member_list_4_hok fun l w C hk => by
    obtain ⟨v0, l_v0, rfl, k_v0, hk_v0⟩ := Kinds.cons_ hk
    obtain ⟨n28, rfl⟩ := kind_int k_v0
    obtain ⟨v1, l_v1, rfl, k_v1, hk_v1⟩ := Kinds.cons_ hk_v0
    obtain ⟨e29, rfl⟩ := kind_int k_v1
    obtain ⟨v2, l_v2, rfl, k_v2, hk_v2⟩ := Kinds.cons_ hk_v1
    obtain ⟨k30, rfl⟩ := kind_int k_v2
    obtain rfl := Kinds.nil_ hk_v2
    exact T_member_list_4_eq C n28 e29 k30 w

def T_member_list_3_body (X : Int → Int → Option Addr → Nat → Nat → Int → World → Prop) (at22 : Int) (e23 : Int) (out24a : Option Addr) (out24l : Nat) (out24c : Nat) (k25 : Int) (b26a : Option Addr) (b26l : Nat) (b26c : Nat) (n27 : Int) (w : World) (Kn : Int → Int → Option Addr → Nat → Nat → World → Prop) (Kp : List PanicEntry → World → Prop)  : Prop :=
  T_member_list_4 n27 e23 k25 w (fun b34 w35 => if b34 = true then (Calls Try.prog 52 #[.slice b26a b26l b26c, .int .i64 at22] w35 (ret (fun r36 w37 => ∃ x38 : Int, ∃ x39 : Int, ∃ x40 : Int, r36 = .tuple #[.int .i64 x38, .int .i64 x39, .int .i64 x40] ∧ let w41 : World := w37.alloc (.cells #[.int .i64 x38] 3)
  runV Try.prog (Builtin.append_ #[24, 24] 24 #[.slice out24a out24l out24c, .slice (some (⟨w37.heap.size, 0, none⟩ : Addr)) 1 1]) w41 (fun r42 w43 => ∃ s44a : Option Addr, ∃ s44l : Nat, ∃ s44c : Nat, r42 = .slice s44a s44l s44c ∧ X x39 x40 s44a s44l s44c (IntKind.wrap .i64 ((k25 : Int) + 1)) w43) Kp) Kp)) else (Kn at22 e23 out24a out24l out24c w35)) Kp

def T_member_list_3 (at22 : Int) (e23 : Int) (out24a : Option Addr) (out24l : Nat) (out24c : Nat) (k25 : Int) (b26a : Option Addr) (b26l : Nat) (b26c : Nat) (n27 : Int) (w : World) (Kn : Int → Int → Option Addr → Nat → Nat → World → Prop) (Kp : List PanicEntry → World → Prop) : Prop :=
  ∀ X : Int → Int → Option Addr → Nat → Nat → Int → World → Prop, (∀ (at22 : Int) (e23 : Int) (out24a : Option Addr) (out24l : Nat) (out24c : Nat) (k25 : Int) (w : World), T_member_list_3_body X at22 e23 out24a out24l out24c k25 b26a b26l b26c n27 w Kn Kp → X at22 e23 out24a out24l out24c k25 w) → X at22 e23 out24a out24l out24c k25 w

def T_member_list_3_outs : Exit → Option (List (Nat × Value)) := fun x => match x with | .normal => some [(1, .int .i64 0), (8, .int .i64 0), (9, .slice none 0 0)] | .panic _ => some [] | _ => none

def T_member_list_3_ks : Nat → Bool := ksOf [1, 8, 9, 10, 11, 25, 26, 27, 28, 29, 30, 31, 32, 33, 34, 35, 36, 37, 38, 39, 40, 41, 42, 43, 44]

def H_member_list_3 : Env → World → QT → Prop := unitHook 48 T_member_list_3_ks [(1, .int .i64 0), (8, .int .i64 0), (9, .slice none 0 0), (10, .int .i64 0), (0, .slice none 0 0), (7, .int .i64 0)] T_member_list_3_outs fun l w C => match l with | [v0, v1, v2, v3, v4, v5] => T_member_list_3 (pInt v0) (pInt v1) (pA v2) (pL v2) (pC v2) (pInt v3) (pA v4) (pL v4) (pC v4) (pInt v5) w (fun at48 e49 out50a out50l out50c w => C .normal [.int .i64 at48, .int .i64 e49, .slice out50a out50l out50c] w) (fun ch w => C (.panic ch) [] w) | _ => False

theorem T_member_list_3_hl : allP (hokL Try.prog (hookAt [(2000, H_member_list_4)]) (at_ (bodyOf Try.f60) [1, 1, 1, 1, 0, 1, 0, 0]) 500) = (UnitOk Try.prog H_member_list_4 (at_ (bodyOf Try.f60) [1, 1, 1, 1, 0, 1, 0, 0, 0, 0]) 2000 ∧ True) := by kernel_rfl
theorem T_member_list_3_hok : HOk Try.prog (hookAt [(2000, H_member_list_4)]) (at_ (bodyOf Try.f60) [1, 1, 1, 1, 0, 1, 0, 0]) 500 := HOk_of _ _ (by rw [T_member_list_3_hl]; exact ⟨T_member_list_4_ok, trivial⟩)

theorem T_member_list_3_eq (C : Conts) (X : List Value → World → Prop) (at22 : Int) (e23 : Int) (out24a : Option Addr) (out24l : Nat) (out24c : Nat) (k25 : Int) (b26a : Option Addr) (b26l : Nat) (b26c : Nat) (n27 : Int) (w : World) : vcCode Try.prog (hookAt [(2000, H_member_list_4)]) (at_ (bodyOf Try.f60) [1, 1, 1, 1, 0, 1, 0, 0]) 500 ⟨[(1, .int .i64 at22), (8, .int .i64 e23), (9, .slice out24a out24l out24c), (10, .int .i64 k25)] ++ [(0, .slice b26a b26l b26c), (7, .int .i64 n27)], 48, []⟩ w (seqQ (fun e w => takeAll e [(1, .int .i64 0), (8, .int .i64 0), (9, .slice none 0 0), (10, .int .i64 0)] fun l => X l w) (blockQ 0 (unitQ T_member_list_3_outs C))) = T_member_list_3_body (fun at22 e23 out24a out24l out24c k25 w => X [.int .i64 at22, .int .i64 e23, .slice out24a out24l out24c, .int .i64 k25] w) at22 e23 out24a out24l out24c k25 b26a b26l b26c n27 w (fun at51 e52 out53a out53l out53c w => C .normal [.int .i64 at51, .int .i64 e52, .slice out53a out53l out53c] w) (fun ch w => C (.panic ch) [] w) := by kernel_rfl

theorem T_member_list_3_ok : UnitOk Try.prog H_member_list_3 (at_ (bodyOf Try.f60) [1, 1, 1, 1, 0, 1]) 125 := by
  have hc : at_ (bodyOf Try.f60) [1, 1, 1, 1, 0, 1] = .block 0 (.loop (at_ (bodyOf Try.f60) [1, 1, 1, 1, 0, 1, 0, 0])) := by kernel_rfl
  rw [hc]
  refine loop_unit_ok (carr := [(1, .int .i64 0), (8, .int .i64 0), (9, .slice none 0 0), (10, .int .i64 0)]) (fix := [(0, .slice none 0 0), (7, .int .i64 0)]) (ks := T_member_list_3_ks) (H := (hookAt [(2000, H_member_list_4)])) (B := fun C X l u w => match l, u with | [v0, v1, v2, v3], [v4, v5] => T_member_list_3_body (fun at22 e23 out24a out24l out24c k25 w => X [.int .i64 at22, .int .i64 e23, .slice out24a out24l out24c, .int .i64 k25] w) (pInt v0) (pInt v1) (pA v2) (pL v2) (pC v2) (pInt v3) (pA v4) (pL v4) (pC v4) (pInt v5) w (fun at54 e55 out56a out56l out56c w => C .normal [.int .i64 at54, .int .i64 e55, .slice out56a out56l out56c] w) (fun ch w => C (.panic ch) [] w) | _, _ => False) (by kernel_rfl) (by kernel_rfl) T_member_list_3_hok ?_ ?_
  · intro C X l u w hl hu
    obtain ⟨v0, l_v0, rfl, k_v0, hl_v0⟩ := Kinds.cons_ hl
    obtain ⟨at22, rfl⟩ := kind_int k_v0
    obtain ⟨v1, l_v1, rfl, k_v1, hl_v1⟩ := Kinds.cons_ hl_v0
    obtain ⟨e23, rfl⟩ := kind_int k_v1
    obtain ⟨v2, l_v2, rfl, k_v2, hl_v2⟩ := Kinds.cons_ hl_v1
    obtain ⟨out24a, out24l, out24c, rfl⟩ := kind_slice k_v2
    obtain ⟨v3, l_v3, rfl, k_v3, hl_v3⟩ := Kinds.cons_ hl_v2
    obtain ⟨k25, rfl⟩ := kind_int k_v3
    obtain rfl := Kinds.nil_ hl_v3
    obtain ⟨v4, l_v4, rfl, k_v4, hu_v4⟩ := Kinds.cons_ hu
    obtain ⟨b26a, b26l, b26c, rfl⟩ := kind_slice k_v4
    obtain ⟨v5, l_v5, rfl, k_v5, hu_v5⟩ := Kinds.cons_ hu_v4
    obtain ⟨n27, rfl⟩ := kind_int k_v5
    obtain rfl := Kinds.nil_ hu_v5
    exact T_member_list_3_eq C X at22 e23 out24a out24l out24c k25 b26a b26l b26c n27 w
  · intro l u w C hl hu
    obtain ⟨v0, l_v0, rfl, k_v0, hl_v0⟩ := Kinds.cons_ hl
    obtain ⟨at22, rfl⟩ := kind_int k_v0
    obtain ⟨v1, l_v1, rfl, k_v1, hl_v1⟩ := Kinds.cons_ hl_v0
    obtain ⟨e23, rfl⟩ := kind_int k_v1
    obtain ⟨v2, l_v2, rfl, k_v2, hl_v2⟩ := Kinds.cons_ hl_v1
    obtain ⟨out24a, out24l, out24c, rfl⟩ := kind_slice k_v2
    obtain ⟨v3, l_v3, rfl, k_v3, hl_v3⟩ := Kinds.cons_ hl_v2
    obtain ⟨k25, rfl⟩ := kind_int k_v3
    obtain rfl := Kinds.nil_ hl_v3
    obtain ⟨v4, l_v4, rfl, k_v4, hu_v4⟩ := Kinds.cons_ hu
    obtain ⟨b26a, b26l, b26c, rfl⟩ := kind_slice k_v4
    obtain ⟨v5, l_v5, rfl, k_v5, hu_v5⟩ := Kinds.cons_ hu_v4
    obtain ⟨n27, rfl⟩ := kind_int k_v5
    obtain rfl := Kinds.nil_ hu_v5
    constructor
    · intro h X hX
      exact h (fun at22 e23 out24a out24l out24c k25 w => X [.int .i64 at22, .int .i64 e23, .slice out24a out24l out24c, .int .i64 k25] w) (fun at22 e23 out24a out24l out24c k25 w hb => hX [.int .i64 at22, .int .i64 e23, .slice out24a out24l out24c, .int .i64 k25] w ⟨rfl, rfl, rfl, rfl, trivial⟩ hb)
    · intro h X hX
      exact h (fun l w => match l with | [v0, v1, v2, v3] => X (pInt v0) (pInt v1) (pA v2) (pL v2) (pC v2) (pInt v3) w | _ => True) (fun l w hl hb => by
        obtain ⟨v0, l_v0, rfl, k_v0, hl_v0⟩ := Kinds.cons_ hl
        obtain ⟨at22, rfl⟩ := kind_int k_v0
        obtain ⟨v1, l_v1, rfl, k_v1, hl_v1⟩ := Kinds.cons_ hl_v0
        obtain ⟨e23, rfl⟩ := kind_int k_v1
        obtain ⟨v2, l_v2, rfl, k_v2, hl_v2⟩ := Kinds.cons_ hl_v1
        obtain ⟨out24a, out24l, out24c, rfl⟩ := kind_slice k_v2
        obtain ⟨v3, l_v3, rfl, k_v3, hl_v3⟩ := Kinds.cons_ hl_v2
        obtain ⟨k25, rfl⟩ := kind_int k_v3
        obtain rfl := Kinds.nil_ hl_v3
        exact hX at22 e23 out24a out24l out24c k25 w hb)

def T_member_list (b1a : Option Addr) (b1l : Nat) (b1c : Nat) (at2 : Int) (w : World) (R : Ending → World → Prop) : Prop :=
  Calls Try.prog 52 #[.slice b1a b1l b1c, .int .i64 at2] w (ret (fun r3 w4 => ∃ x5 : Int, ∃ x6 : Int, ∃ x7 : Int, r3 = .tuple #[.int .i64 x5, .int .i64 x6, .int .i64 x7] ∧ T_member_list_1 x5 x7 w4 (fun b13 w14 => T_member_list_2 x7 b13 w14 (fun e20 w21 => T_member_list_3 x6 e20 none 0 0 0 b1a b1l b1c x5 w21 (fun at57 e58 out59a out59l out59c w60 => R (.returned (.tuple #[.slice out59a out59l out59c, .int .i64 at57, .int .i64 e58])) w60) (pan R)) (pan R)) (pan R)) (pan R))

theorem T_member_list_hl : allP (hokL Try.prog (hookAt [(28, H_member_list_1), (29, H_member_list_2), (125, H_member_list_3)]) (bodyOf Try.f60) 1) = (UnitOk Try.prog H_member_list_1 (at_ (bodyOf Try.f60) [1, 1, 0, 0]) 28 ∧ UnitOk Try.prog H_member_list_2 (at_ (bodyOf Try.f60) [1, 1, 0, 1]) 29 ∧ UnitOk Try.prog H_member_list_3 (at_ (bodyOf Try.f60) [1, 1, 1, 1, 0, 1]) 125 ∧ True) := by kernel_rfl

theorem T_member_list_eq (b1a : Option Addr) (b1l : Nat) (b1c : Nat) (at2 : Int) (w : World) (R : Ending → World → Prop) : vcCode Try.prog (hookAt [(28, H_member_list_1), (29, H_member_list_2), (125, H_member_list_3)]) (bodyOf Try.f60) 1 ⟨argEnv [.slice b1a b1l b1c, .int .i64 at2] 0, Try.f60.ntmps, []⟩ w (finQ Try.prog Try.f60.results.toList R) = T_member_list b1a b1l b1c at2 w R := by kernel_rfl

theorem T_member_list_b : Try.f60.body = some (bodyOf Try.f60) := by kernel_rfl
theorem T_member_list_s : (quietSel (bodyOf Try.f60) && Nat.ble 2 Try.f60.ntmps) = true := by kernel_rfl

theorem C_member_list {b1a : Option Addr} {b1l : Nat} {b1c : Nat} {at2 : Int} {w : World} {R : Ending → World → Prop} (h : T_member_list b1a b1l b1c at2 w R) : Calls Try.prog 60 #[.slice b1a b1l b1c, .int .i64 at2] w R :=
  calls_of_text (args := [.slice b1a b1l b1c, .int .i64 at2]) mixed Try.func60 T_member_list_b T_member_list_s (HOk_of _ _ (by rw [T_member_list_hl]; exact ⟨T_member_list_1_ok, T_member_list_2_ok, T_member_list_3_ok, trivial⟩)) (by rw [T_member_list_eq]; exact h)

/-! tollgate/member.Get -/
def T_member_Get (b1a : Option Addr) (b1l : Nat) (b1c : Nat) (w : World) (R : Ending → World → Prop) : Prop :=
  let w2 : World := w.alloc (.cells #[.slice none 0 0, .slice none 0 0] 26)
  let w3 : World := w2.alloc (.cells #[.slice none 0 0, .slice none 0 0] 26)
  Calls Try.prog 60 #[.slice b1a b1l b1c, .int .i64 0] w3 (ret (fun r4 w5 => ∃ s6a : Option Addr, ∃ s6l : Nat, ∃ s6c : Nat, ∃ x7 : Int, ∃ x8 : Int, r4 = .tuple #[.slice s6a s6l s6c, .int .i64 x7, .int .i64 x8] ∧ (.slice s6a s6l s6c : Value).cells.size = 1 ∧ wrOk w5 (⟨w2.heap.size, 0, none⟩ : Addr) (.slice s6a s6l s6c) ∧ let w9 : World := wr w5 (⟨w2.heap.size, 0, none⟩ : Addr) (.slice s6a s6l s6c)
  if ((x8 : Int) != 0) = true then ((.agg #[.slice none 0 0, .slice none 0 0] : Value).cells.size = 2 ∧ wrOk w9 (⟨w.heap.size, 0, none⟩ : Addr) (.agg #[.slice none 0 0, .slice none 0 0]) ∧ let w10 : World := wr w9 (⟨w.heap.size, 0, none⟩ : Addr) (.agg #[.slice none 0 0, .slice none 0 0])
  ∃ s11a : Option Addr, ∃ s11l : Nat, ∃ s11c : Nat, ∃ s12a : Option Addr, ∃ s12l : Nat, ∃ s12c : Nat, rd w10 (⟨w.heap.size, 0, none⟩ : Addr) (.agg #[.slice s11a s11l s11c, .slice s12a s12l s12c]) ∧ R (.returned (.tuple #[.agg #[.slice s11a s11l s11c, .slice s12a s12l s12c], .int .i64 x8])) w10) else (Calls Try.prog 60 #[.slice b1a b1l b1c, .int .i64 x7] w9 (ret (fun r13 w14 => ∃ s15a : Option Addr, ∃ s15l : Nat, ∃ s15c : Nat, ∃ x16 : Int, ∃ x17 : Int, r13 = .tuple #[.slice s15a s15l s15c, .int .i64 x16, .int .i64 x17] ∧ (.slice s15a s15l s15c : Value).cells.size = 1 ∧ wrOk w14 ((⟨w2.heap.size, 0, none⟩ : Addr).add 1) (.slice s15a s15l s15c) ∧ let w18 : World := wr w14 ((⟨w2.heap.size, 0, none⟩ : Addr).add 1) (.slice s15a s15l s15c)
  if ((x17 : Int) != 0) = true then ((.agg #[.slice none 0 0, .slice none 0 0] : Value).cells.size = 2 ∧ wrOk w18 (⟨w.heap.size, 0, none⟩ : Addr) (.agg #[.slice none 0 0, .slice none 0 0]) ∧ let w19 : World := wr w18 (⟨w.heap.size, 0, none⟩ : Addr) (.agg #[.slice none 0 0, .slice none 0 0])
  ∃ s20a : Option Addr, ∃ s20l : Nat, ∃ s20c : Nat, ∃ s21a : Option Addr, ∃ s21l : Nat, ∃ s21c : Nat, rd w19 (⟨w.heap.size, 0, none⟩ : Addr) (.agg #[.slice s20a s20l s20c, .slice s21a s21l s21c]) ∧ R (.returned (.tuple #[.agg #[.slice s20a s20l s20c, .slice s21a s21l s21c], .int .i64 x17])) w19) else (if (decide ((x16 : Int) < ((b1l : Nat) : Int))) = true then ((.agg #[.slice none 0 0, .slice none 0 0] : Value).cells.size = 2 ∧ wrOk w18 (⟨w.heap.size, 0, none⟩ : Addr) (.agg #[.slice none 0 0, .slice none 0 0]) ∧ let w22 : World := wr w18 (⟨w.heap.size, 0, none⟩ : Addr) (.agg #[.slice none 0 0, .slice none 0 0])
  ∃ s23a : Option Addr, ∃ s23l : Nat, ∃ s23c : Nat, ∃ s24a : Option Addr, ∃ s24l : Nat, ∃ s24c : Nat, rd w22 (⟨w.heap.size, 0, none⟩ : Addr) (.agg #[.slice s23a s23l s23c, .slice s24a s24l s24c]) ∧ R (.returned (.tuple #[.agg #[.slice s23a s23l s23c, .slice s24a s24l s24c], .int .i64 4])) w22) else (∃ s25a : Option Addr, ∃ s25l : Nat, ∃ s25c : Nat, ∃ s26a : Option Addr, ∃ s26l : Nat, ∃ s26c : Nat, rd w18 (⟨w2.heap.size, 0, none⟩ : Addr) (.agg #[.slice s25a s25l s25c, .slice s26a s26l s26c]) ∧ Calls Try.prog 53 #[.agg #[.slice s25a s25l s25c, .slice s26a s26l s26c]] w18 (ret (fun r27 w28 => ∃ b29 : Bool, r27 = .bool b29 ∧ if (!b29) = true then ((.agg #[.slice none 0 0, .slice none 0 0] : Value).cells.size = 2 ∧ wrOk w28 (⟨w.heap.size, 0, none⟩ : Addr) (.agg #[.slice none 0 0, .slice none 0 0]) ∧ let w30 : World := wr w28 (⟨w.heap.size, 0, none⟩ : Addr) (.agg #[.slice none 0 0, .slice none 0 0])
  ∃ s31a : Option Addr, ∃ s31l : Nat, ∃ s31c : Nat, ∃ s32a : Option Addr, ∃ s32l : Nat, ∃ s32c : Nat, rd w30 (⟨w.heap.size, 0, none⟩ : Addr) (.agg #[.slice s31a s31l s31c, .slice s32a s32l s32c]) ∧ R (.returned (.tuple #[.agg #[.slice s31a s31l s31c, .slice s32a s32l s32c], .int .i64 4])) w30) else (∃ s33a : Option Addr, ∃ s33l : Nat, ∃ s33c : Nat, ∃ s34a : Option Addr, ∃ s34l : Nat, ∃ s34c : Nat, rd w28 (⟨w2.heap.size, 0, none⟩ : Addr) (.agg #[.slice s33a s33l s33c, .slice s34a s34l s34c]) ∧ (.agg #[.slice s33a s33l s33c, .slice s34a s34l s34c] : Value).cells.size = 2 ∧ wrOk w28 (⟨w.heap.size, 0, none⟩ : Addr) (.agg #[.slice s33a s33l s33c, .slice s34a s34l s34c]) ∧ let w35 : World := wr w28 (⟨w.heap.size, 0, none⟩ : Addr) (.agg #[.slice s33a s33l s33c, .slice s34a s34l s34c])
  ∃ s36a : Option Addr, ∃ s36l : Nat, ∃ s36c : Nat, ∃ s37a : Option Addr, ∃ s37l : Nat, ∃ s37c : Nat, rd w35 (⟨w.heap.size, 0, none⟩ : Addr) (.agg #[.slice s36a s36l s36c, .slice s37a s37l s37c]) ∧ R (.returned (.tuple #[.agg #[.slice s36a s36l s36c, .slice s37a s37l s37c], .int .i64 0])) w35)) (pan R))))) (pan R)))) (pan R))

theorem T_member_Get_hl : allP (hokL Try.prog (hookAt []) (bodyOf Try.f34) 1) = (True) := by kernel_rfl

theorem T_member_Get_eq (b1a : Option Addr) (b1l : Nat) (b1c : Nat) (w : World) (R : Ending → World → Prop) : vcCode Try.prog (hookAt []) (bodyOf Try.f34) 1 ⟨argEnv [.slice b1a b1l b1c] 0, Try.f34.ntmps, []⟩ w (finQ Try.prog Try.f34.results.toList R) = T_member_Get b1a b1l b1c w R := by kernel_rfl

theorem T_member_Get_b : Try.f34.body = some (bodyOf Try.f34) := by kernel_rfl
theorem T_member_Get_s : (quietSel (bodyOf Try.f34) && Nat.ble 1 Try.f34.ntmps) = true := by kernel_rfl

theorem C_member_Get {b1a : Option Addr} {b1l : Nat} {b1c : Nat} {w : World} {R : Ending → World → Prop} (h : T_member_Get b1a b1l b1c w R) : Calls Try.prog 34 #[.slice b1a b1l b1c] w R :=
  calls_of_text (args := [.slice b1a b1l b1c]) mixed Try.func34 T_member_Get_b T_member_Get_s (HOk_of _ _ (by rw [T_member_Get_hl]; exact trivial)) (by rw [T_member_Get_eq]; exact h)

/-! tollgate/tollgateref03.SameInts -/
def T_ref03_SameInts_1_body (X : Int → World → Prop) (i3 : Int) (a4a : Option Addr) (a4l : Nat) (a4c : Nat) (b5a : Option Addr) (b5l : Nat) (b5c : Nat) (w : World) (Kn : World → Prop) (Kr : Bool → World → Prop) (Kp : List PanicEntry → World → Prop)  : Prop :=
  if (decide ((i3 : Int) < ((a4l : Nat) : Int))) = true then (let w6 : World := w.drew
  0 ≤ (i3 : Int) ∧ (i3 : Int) < ((a4l : Nat) : Int) ∧ ∃ b7, a4a = some b7 ∧ ∃ x8 : Int, rd w6 (b7.add ((i3 : Int).toNat * 1)) (.int .i64 x8) ∧ 0 ≤ (i3 : Int) ∧ (i3 : Int) < ((b5l : Nat) : Int) ∧ ∃ b9, b5a = some b9 ∧ ∃ x10 : Int, rd w6 (b9.add ((i3 : Int).toNat * 1)) (.int .i64 x10) ∧ if ((x8 : Int) != x10) = true then (Kr false w6) else (X (IntKind.wrap .i64 ((i3 : Int) + 1)) w6)) else (Kn  w)

def T_ref03_SameInts_1 (i3 : Int) (a4a : Option Addr) (a4l : Nat) (a4c : Nat) (b5a : Option Addr) (b5l : Nat) (b5c : Nat) (w : World) (Kn : World → Prop) (Kr : Bool → World → Prop) (Kp : List PanicEntry → World → Prop) : Prop :=
  ∀ X : Int → World → Prop, (∀ (i3 : Int) (w : World), T_ref03_SameInts_1_body X i3 a4a a4l a4c b5a b5l b5c w Kn Kr Kp → X i3 w) → X i3 w

def T_ref03_SameInts_1_outs : Exit → Option (List (Nat × Value)) := fun x => match x with | .normal => some [] | .ret => some [(4, .bool false)] | .panic _ => some [] | _ => none

def T_ref03_SameInts_1_ks : Nat → Bool := ksOf [4, 5, 11, 12, 13, 14, 15, 16, 17, 18, 19, 20, 21, 22, 23, 24, 25]

def H_ref03_SameInts_1 : Env → World → QT → Prop := unitHook 26 T_ref03_SameInts_1_ks [(5, .int .i64 0), (0, .slice none 0 0), (1, .slice none 0 0)] T_ref03_SameInts_1_outs fun l w C => match l with | [v0, v1, v2] => T_ref03_SameInts_1 (pInt v0) (pA v1) (pL v1) (pC v1) (pA v2) (pL v2) (pC v2) w (fun w => C .normal [] w) (fun b12 w => C .ret [.bool b12] w) (fun ch w => C (.panic ch) [] w) | _ => False

theorem T_ref03_SameInts_1_hl : allP (hokL Try.prog (hookAt []) (at_ (bodyOf Try.f61) [1, 1, 0, 1, 0, 0]) 116) = (True) := by kernel_rfl
theorem T_ref03_SameInts_1_hok : HOk Try.prog (hookAt []) (at_ (bodyOf Try.f61) [1, 1, 0, 1, 0, 0]) 116 := HOk_of _ _ (by rw [T_ref03_SameInts_1_hl]; exact trivial)

theorem T_ref03_SameInts_1_eq (C : Conts) (X : List Value → World → Prop) (i3 : Int) (a4a : Option Addr) (a4l : Nat) (a4c : Nat) (b5a : Option Addr) (b5l : Nat) (b5c : Nat) (w : World) : vcCode Try.prog (hookAt []) (at_ (bodyOf Try.f61) [1, 1, 0, 1, 0, 0]) 116 ⟨[(5, .int .i64 i3)] ++ [(0, .slice a4a a4l a4c), (1, .slice b5a b5l b5c)], 26, []⟩ w (seqQ (fun e w => takeAll e [(5, .int .i64 0)] fun l => X l w) (blockQ 0 (unitQ T_ref03_SameInts_1_outs C))) = T_ref03_SameInts_1_body (fun i3 w => X [.int .i64 i3] w) i3 a4a a4l a4c b5a b5l b5c w (fun w => C .normal [] w) (fun b13 w => C .ret [.bool b13] w) (fun ch w => C (.panic ch) [] w) := by kernel_rfl

theorem T_ref03_SameInts_1_ok : UnitOk Try.prog H_ref03_SameInts_1 (at_ (bodyOf Try.f61) [1, 1, 0, 1]) 29 := by
  have hc : at_ (bodyOf Try.f61) [1, 1, 0, 1] = .block 0 (.loop (at_ (bodyOf Try.f61) [1, 1, 0, 1, 0, 0])) := by kernel_rfl
  rw [hc]
  refine loop_unit_ok (carr := [(5, .int .i64 0)]) (fix := [(0, .slice none 0 0), (1, .slice none 0 0)]) (ks := T_ref03_SameInts_1_ks) (H := (hookAt [])) (B := fun C X l u w => match l, u with | [v0], [v1, v2] => T_ref03_SameInts_1_body (fun i3 w => X [.int .i64 i3] w) (pInt v0) (pA v1) (pL v1) (pC v1) (pA v2) (pL v2) (pC v2) w (fun w => C .normal [] w) (fun b14 w => C .ret [.bool b14] w) (fun ch w => C (.panic ch) [] w) | _, _ => False) (by kernel_rfl) (by kernel_rfl) T_ref03_SameInts_1_hok ?_ ?_
  · intro C X l u w hl hu
    obtain ⟨v0, l_v0, rfl, k_v0, hl_v0⟩ := Kinds.cons_ hl
    obtain ⟨i3, rfl⟩ := kind_int k_v0
    obtain rfl := Kinds.nil_ hl_v0
    obtain ⟨v1, l_v1, rfl, k_v1, hu_v1⟩ := Kinds.cons_ hu
    obtain ⟨a4a, a4l, a4c, rfl⟩ := kind_slice k_v1
    obtain ⟨v2, l_v2, rfl, k_v2, hu_v2⟩ := Kinds.cons_ hu_v1
    obtain ⟨b5a, b5l, b5c, rfl⟩ := kind_slice k_v2
    obtain rfl := Kinds.nil_ hu_v2
    exact T_ref03_SameInts_1_eq C X i3 a4a a4l a4c b5a b5l b5c w
  · intro l u w C hl hu
    obtain ⟨v0, l_v0, rfl, k_v0, hl_v0⟩ := Kinds.cons_ hl
    obtain ⟨i3, rfl⟩ := kind_int k_v0
    obtain rfl := Kinds.nil_ hl_v0
    obtain ⟨v1, l_v1, rfl, k_v1, hu_v1⟩ := Kinds.cons_ hu
    obtain ⟨a4a, a4l, a4c, rfl⟩ := kind_slice k_v1
    obtain ⟨v2, l_v2, rfl, k_v2, hu_v2⟩ := Kinds.cons_ hu_v1
    obtain ⟨b5a, b5l, b5c, rfl⟩ := kind_slice k_v2
    obtain rfl := Kinds.nil_ hu_v2
    constructor
    · intro h X hX
      exact h (fun i3 w => X [.int .i64 i3] w) (fun i3 w hb => hX [.int .i64 i3] w ⟨rfl, trivial⟩ hb)
    · intro h X hX
      exact h (fun l w => match l with | [v0] => X (pInt v0) w | _ => True) (fun l w hl hb => by
        obtain ⟨v0, l_v0, rfl, k_v0, hl_v0⟩ := Kinds.cons_ hl
        obtain ⟨i3, rfl⟩ := kind_int k_v0
        obtain rfl := Kinds.nil_ hl_v0
        exact hX i3 w hb)

def T_ref03_SameInts (a1a : Option Addr) (a1l : Nat) (a1c : Nat) (b2a : Option Addr) (b2l : Nat) (b2c : Nat) (w : World) (R : Ending → World → Prop) : Prop :=
  if (((a1l : Nat) : Int) != ((b2l : Nat) : Int)) = true then (R (.returned (.bool false)) w) else (T_ref03_SameInts_1 0 a1a a1l a1c b2a b2l b2c w (fun w15 => R (.returned (.bool true)) w15) (fun b16 w17 => R (.returned (.bool b16)) w17) (pan R))

theorem T_ref03_SameInts_hl : allP (hokL Try.prog (hookAt [(29, H_ref03_SameInts_1)]) (bodyOf Try.f61) 1) = (UnitOk Try.prog H_ref03_SameInts_1 (at_ (bodyOf Try.f61) [1, 1, 0, 1]) 29 ∧ True) := by kernel_rfl

theorem T_ref03_SameInts_eq (a1a : Option Addr) (a1l : Nat) (a1c : Nat) (b2a : Option Addr) (b2l : Nat) (b2c : Nat) (w : World) (R : Ending → World → Prop) : vcCode Try.prog (hookAt [(29, H_ref03_SameInts_1)]) (bodyOf Try.f61) 1 ⟨argEnv [.slice a1a a1l a1c, .slice b2a b2l b2c] 0, Try.f61.ntmps, []⟩ w (finQ Try.prog Try.f61.results.toList R) = T_ref03_SameInts a1a a1l a1c b2a b2l b2c w R := by kernel_rfl

theorem T_ref03_SameInts_b : Try.f61.body = some (bodyOf Try.f61) := by kernel_rfl
theorem T_ref03_SameInts_s : (quietSel (bodyOf Try.f61) && Nat.ble 2 Try.f61.ntmps) = true := by kernel_rfl

theorem C_ref03_SameInts {a1a : Option Addr} {a1l : Nat} {a1c : Nat} {b2a : Option Addr} {b2l : Nat} {b2c : Nat} {w : World} {R : Ending → World → Prop} (h : T_ref03_SameInts a1a a1l a1c b2a b2l b2c w R) : Calls Try.prog 61 #[.slice a1a a1l a1c, .slice b2a b2l b2c] w R :=
  calls_of_text (args := [.slice a1a a1l a1c, .slice b2a b2l b2c]) mixed Try.func61 T_ref03_SameInts_b T_ref03_SameInts_s (HOk_of _ _ (by rw [T_ref03_SameInts_hl]; exact ⟨T_ref03_SameInts_1_ok, trivial⟩)) (by rw [T_ref03_SameInts_eq]; exact h)

/-! tollgate/tollgateref03.Same -/
def T_ref03_Same (s1a : Option Addr) (s1l : Nat) (s1c : Nat) (s2a : Option Addr) (s2l : Nat) (s2c : Nat) (s3a : Option Addr) (s3l : Nat) (s3c : Nat) (s4a : Option Addr) (s4l : Nat) (s4c : Nat) (w : World) (R : Ending → World → Prop) : Prop :=
  let w5 : World := w.alloc (.cells #[.slice s1a s1l s1c, .slice s2a s2l s2c] 26)
  let w6 : World := w5.alloc (.cells #[.slice s3a s3l s3c, .slice s4a s4l s4c] 26)
  ∃ s7a : Option Addr, ∃ s7l : Nat, ∃ s7c : Nat, rd w6 (⟨w.heap.size, 0, none⟩ : Addr) (.slice s7a s7l s7c) ∧ ∃ s8a : Option Addr, ∃ s8l : Nat, ∃ s8c : Nat, rd w6 (⟨w5.heap.size, 0, none⟩ : Addr) (.slice s8a s8l s8c) ∧ Calls Try.prog 61 #[.slice s7a s7l s7c, .slice s8a s8l s8c] w6 (ret (fun r9 w10 => ∃ b11 : Bool, r9 = .bool b11 ∧ if b11 = true then (∃ s12a : Option Addr, ∃ s12l : Nat, ∃ s12c : Nat, rd w10 ((⟨w.heap.size, 0, none⟩ : Addr).add 1) (.slice s12a s12l s12c) ∧ ∃ s13a : Option Addr, ∃ s13l : Nat, ∃ s13c : Nat, rd w10 ((⟨w5.heap.size, 0, none⟩ : Addr).add 1) (.slice s13a s13l s13c) ∧ Calls Try.prog 61 #[.slice s12a s12l s12c, .slice s13a s13l s13c] w10 (ret (fun r14 w15 => ∃ b16 : Bool, r14 = .bool b16 ∧ R (.returned (.bool b16)) w15) (pan R))) else (R (.returned (.bool false)) w10)) (pan R))

theorem T_ref03_Same_hl : allP (hokL Try.prog (hookAt []) (bodyOf Try.f35) 1) = (True) := by kernel_rfl

theorem T_ref03_Same_eq (s1a : Option Addr) (s1l : Nat) (s1c : Nat) (s2a : Option Addr) (s2l : Nat) (s2c : Nat) (s3a : Option Addr) (s3l : Nat) (s3c : Nat) (s4a : Option Addr) (s4l : Nat) (s4c : Nat) (w : World) (R : Ending → World → Prop) : vcCode Try.prog (hookAt []) (bodyOf Try.f35) 1 ⟨argEnv [.agg #[.slice s1a s1l s1c, .slice s2a s2l s2c], .agg #[.slice s3a s3l s3c, .slice s4a s4l s4c]] 0, Try.f35.ntmps, []⟩ w (finQ Try.prog Try.f35.results.toList R) = T_ref03_Same s1a s1l s1c s2a s2l s2c s3a s3l s3c s4a s4l s4c w R := by kernel_rfl

theorem T_ref03_Same_b : Try.f35.body = some (bodyOf Try.f35) := by kernel_rfl
theorem T_ref03_Same_s : (quietSel (bodyOf Try.f35) && Nat.ble 2 Try.f35.ntmps) = true := by kernel_rfl

theorem C_ref03_Same {s1a : Option Addr} {s1l : Nat} {s1c : Nat} {s2a : Option Addr} {s2l : Nat} {s2c : Nat} {s3a : Option Addr} {s3l : Nat} {s3c : Nat} {s4a : Option Addr} {s4l : Nat} {s4c : Nat} {w : World} {R : Ending → World → Prop} (h : T_ref03_Same s1a s1l s1c s2a s2l s2c s3a s3l s3c s4a s4l s4c w R) : Calls Try.prog 35 #[.agg #[.slice s1a s1l s1c, .slice s2a s2l s2c], .agg #[.slice s3a s3l s3c, .slice s4a s4l s4c]] w R :=
  calls_of_text (args := [.agg #[.slice s1a s1l s1c, .slice s2a s2l s2c], .agg #[.slice s3a s3l s3c, .slice s4a s4l s4c]]) mixed Try.func35 T_ref03_Same_b T_ref03_Same_s (HOk_of _ _ (by rw [T_ref03_Same_hl]; exact trivial)) (by rw [T_ref03_Same_eq]; exact h)

end Go.Proofs.Ytclinifclfahfaa

/-
  Members: the program's functions.
-/
namespace Go.Vc
open Go Go.Proofs Go.Proofs.Ytclinifclfahfaa
set_option maxRecDepth 100000
section
variable {E w : World} {L : List Asrt} {R : Ending → World → Prop} {F G : Fz} {q s : Sl} {b : Cm.Bs} {l : List Int}
def intV (l : List Int) : List Value := l.map (Value.int .i64)
theorem intV_len (l : List Int) : (intV l).length = l.length := by simp [intV]
theorem intV_one (l : List Int) : ∀ u ∈ intV l, one u = true := by
  intro u hu
  simp only [intV, List.mem_map] at hu
  obtain ⟨x, _, rfl⟩ := hu
  rfl
theorem intV_app (a b : List Int) : intV (a ++ b) = intV a ++ intV b := List.map_append
def inA (s : Sl) (l : List Int) : Asrt := ownS s.1 s.2.1 s.2.2 3 1 (intV l)
theorem rdi_len {a : Option Addr} {n : Nat} (hr : RdS w a n 1 (intV l)) : l.length = n := by have := hr.1; rw [intV_len] at this; omega
theorem rdi_at {a : Option Addr} {n : Nat} (hr : RdS w a n 1 (intV l)) {i : Nat} (hi : i < l.length) : ∃ ad, a = some ad ∧ rd w (ad.add (i * 1)) (.int .i64 l[i]) := by
  have hl := rdi_len hr
  obtain ⟨ad, ha, _, _⟩ := hr.cells (by omega)
  exact ⟨ad, ha, hr.rd_cell ha (by omega) (i := i * 1) (by rw [Nat.mul_one]; simp [intV, hi]) rfl⟩
theorem St.in_nil (h : St E L w) : St E (inA (none, 0, 0) [] :: L) w := h.ownS_nil
theorem St.in_len {l : List Int} (h : St E (inA s l :: L) w) : l.length = s.2.1 := rdi_len h.rdS_own
theorem St.in_one (h : St E L w) (x : Int) : St E (inA (some ⟨w.heap.size, 0, none⟩, 1, 1) [x] :: L) (w.alloc (.cells #[.int .i64 x] 3)) :=
  (St.ownS_mk (xs := intV [x]) (rest := []) (l := 1) (c := 1) (sz := 1) (h.alloc _) rfl (Nat.le_refl _) (by decide) rfl :)
theorem app_i {a2 : Option Addr} {l2 c2 : Nat} {xs ys : List Int} (h : St E (inA s xs :: L) w) (hro : RdS w a2 l2 1 (intV ys)) (hb : (xs.length + ys.length) * 8 ≤ 140737488355328) :
    ∃ (s' : Sl) (w' : World), (Builtin.append_ #[24, 24] 24 #[.slice s.1 s.2.1 s.2.2, .slice a2 l2 c2]).run Try.prog w = .ok (.slice s'.1 s'.2.1 s'.2.2) w' ∧ St E (inA s' (xs ++ ys) :: L) w' := by
  have hl := h.in_len
  have hl2 := rdi_len hro
  obtain ⟨a', c', w', hr, hs⟩ := append_own (P := Try.prog) (t := 24) (ty := 24) (e := 3) (i := Try.t3) (z := .int .i64 0) (by kernel_rfl) (by kernel_rfl) (by kernel_rfl) (by kernel_rfl) (by decide) (c2 := c2) h hro (intV_one ys)
    (by have : Try.t3.bytes = 8 := by kernel_rfl
        rw [this]; omega) (by unfold maxLen; omega)
  rw [show Try.t3.size = 1 from by kernel_rfl, ← intV_app] at hs
  exact ⟨(a', s.2.1 + l2, c'), w', hr, hs⟩
theorem app_i1 {xs : List Int} {x : Int} (h : St E (inA s xs :: L) w) (hb : xs.length + 1 ≤ 1000000) :
    ∃ (s' : Sl) (w' : World), (Builtin.append_ #[24, 24] 24 #[.slice s.1 s.2.1 s.2.2, .slice (some ⟨w.heap.size, 0, none⟩) 1 1]).run Try.prog (w.alloc (.cells #[.int .i64 x] 3)) = .ok (.slice s'.1 s'.2.1 s'.2.2) w' ∧ St E (inA s' (xs ++ [x]) :: L) w' := by
  have h2 := h.in_one x
  obtain ⟨s', w', hr, hs⟩ := app_i (c2 := 1) (ys := [x]) h2.f1 h2.rdS_own (by simp; omega)
  exact ⟨s', w', hr, hs.f1.drop⟩
theorem rises_spec (hq : Sees E L s.1 s.2.1 1 (intV l)) (hl : l.length ≤ huge) (h : St E L w) (k : ∀ w', St E L w' → R (.returned (.bool (Sn.upI l))) w') : Calls Try.prog 70 #[.slice s.1 s.2.1 s.2.2] w R := by
  have hh : huge = 9223372036854775807 := rfl
  have hlen := rdi_len (hq w h)
  refine C_member_rises ?_
  unfold T_member_rises T_member_rises_1
  intro X hX
  have hall : Sn.upI l = Sn.okTo Sn.ltI Sn.okN l l.length := (Sn.okTo_all ..).symm
  have hbad : ∀ {w : World} {j : Nat}, j ≤ l.length → Sn.okTo Sn.ltI Sn.okN l j = false → St E L w → R (.returned (.bool false)) w := fun {w j} hj hf h => by
    have := Sn.okTo_false hj hf
    have e : Sn.upI l = false := this
    have := k w h
    rwa [e] at this
  refine up_to l.length (Q := fun j => ∀ w, Sn.okTo Sn.ltI Sn.okN l j = true → St E L w → X (j : Int) w) ?_ w (Sn.okTo_zero ..) h
  intro j hj ih w hok h
  refine hX _ _ ?_
  unfold T_member_rises_1_body
  rw [← hlen]
  refine ite_d (fun hc => ?_) fun hc => ?_
  · have hjl : j < l.length := by omega
    obtain ⟨ad, ha, hrd⟩ := rdi_at (hq w h) hjl
    have hF : Sn.okN l[j] = false → Sn.okTo Sn.ltI Sn.okN l (j + 1) = false := fun hz => by
      cases j with
      | zero => rw [Sn.okTo_one (by omega), hz]
      | succ m => rw [Sn.okTo_succ (by omega), hz]; simp
    rw [Int.toNat_natCast]
    refine ⟨by omega, by omega, ad, ha, _, hrd, ?_⟩
    refine ite_d (fun h1 => hbad (j := j + 1) (by omega) (hF (decide_eq_false (by omega))) h) fun h1 => ?_
    refine ite_d (fun h2 => hbad (j := j + 1) (by omega) (hF (decide_eq_false (by omega))) h) fun h2 => ?_
    have hgx : Sn.okN l[j] = true := decide_eq_true (by omega)
    cases j with
    | zero =>
      refine ite_d (fun hh => absurd hh (by omega)) fun _ => ?_
      rw [succ_huge (by omega)]
      exact ih hjl w (by rw [Sn.okTo_one (by omega), hgx]) h
    | succ m =>
      refine ite_d (fun _ => ?_) fun hh => absurd (show ((m + 1 : Nat) : Int) > 0 by omega) hh
      have hw : IntKind.wrap .i64 (((m + 1 : Nat) : Int) - 1) = (m : Int) := by rw [wrap_id (by omega) (by omega)]; omega
      rw [hw, Int.toNat_natCast]
      obtain ⟨ad2, ha2, hrd2⟩ := rdi_at (hq w h) (show m < l.length by omega)
      have hs : Sn.okTo Sn.ltI Sn.okN l (m + 1 + 1) = Sn.ltI (l[m]'(by omega)) l[m + 1] := by
        rw [Sn.okTo_succ (by omega), hok, hgx]; rfl
      refine ⟨by omega, by omega, ad2, ha2, _, hrd2, ?_⟩
      refine ite_d (fun h3 => hbad (j := m + 1 + 1) (by omega) (by rw [hs]; exact decide_eq_false (by omega)) h) fun h3 => ?_
      rw [succ_huge (by omega)]
      exact ih hjl w (by rw [hs]; exact decide_eq_true (by omega)) h
  · have : j = l.length := by omega
    subst this
    have := k w h
    rwa [hall, hok] at this
theorem mem_take_succ {l : List Int} {j : Nat} (h : j < l.length) (n : Int) : decide (n ∈ l.take (j + 1)) = (decide (n ∈ l.take j) || decide (n = l[j])) := by
  rw [List.take_succ_eq_append_getElem h, Bool.eq_iff_iff]
  simp only [decide_eq_true_eq, Bool.or_eq_true, List.mem_append, List.mem_singleton]
theorem Contains_spec {n : Int} (hq : Sees E L s.1 s.2.1 1 (intV l)) (hl : l.length ≤ huge) (h : St E L w) (k : ∀ w', St E L w' → R (.returned (.bool (decide (n ∈ l)))) w') : Calls Try.prog 73 #[.slice s.1 s.2.1 s.2.2, .int .i64 n] w R := by
  have hh : huge = 9223372036854775807 := rfl
  have hlen := rdi_len (hq w h)
  refine C_slices_Contains_int ?_
  unfold T_slices_Contains_int
  refine C_slices_Index_int ?_
  unfold T_slices_Index_int T_slices_Index_int_1
  intro X hX
  refine up_to l.length (Q := fun j => ∀ w, n ∉ l.take j → St E L w → X (j : Int) w) ?_ w (by simp) h
  intro j hj ih w hno h
  refine hX _ _ ?_
  unfold T_slices_Index_int_1_body
  rw [← hlen]
  refine ite_d (fun hc => ?_) fun hc => ?_
  · have hjl : j < l.length := by omega
    obtain ⟨ad, ha, hrd⟩ := rdi_at (hq w h) hjl
    rw [Int.toNat_natCast]
    refine ⟨by omega, by omega, ad, ha, _, hrd, ?_⟩
    refine ite_b (fun he => ?_) fun he => ?_
    · have he : n = l[j] := by simpa using he
      refine ⟨_, rfl, congB (k w h) ?_⟩
      rw [decide_eq_true (show n ∈ l by rw [he]; exact List.getElem_mem hjl), decide_eq_true (by omega)]
    · have he : n ≠ l[j] := by simpa using he
      rw [succ_huge (by omega)]
      refine ih hjl w ?_ h
      have := mem_take_succ hjl n
      rw [decide_eq_false hno, decide_eq_false he] at this
      exact of_decide_eq_false this
  · have : j = l.length := by omega
    subst this
    rw [List.take_length] at hno
    refine ⟨_, rfl, congB (k w h) ?_⟩
    rw [decide_eq_false hno, decide_eq_false (by omega)]
def memL (v l : Sl) : List Value := [.slice v.1 v.2.1 v.2.2, .slice l.1 l.2.1 l.2.2]
def memV (v l : Sl) : Value := .agg ⟨memL v l⟩
def memR (F : Fz) (v l : Sl) (m : Sn.Mem) : Prop := RdF F v.1 v.2.1 1 (intV m.v) ∧ RdF F l.1 l.2.1 1 (intV m.l)
theorem memR.mono {v l : Sl} {m : Sn.Mem} (h : memR F v l m) (k : Fz.le F G) : memR G v l m := ⟨RdF.mono h.1 k, RdF.mono h.2 k⟩
theorem one_memL (v l : Sl) : ∀ u ∈ memL v l, one u = true := by intro u hu; simp [memL] at hu; rcases hu with rfl | rfl <;> rfl
theorem rd_mem {b : Nat} {v l : Sl} (h : St E (blkL b 26 (memL v l) :: L) w) : rd w ⟨b, 0, none⟩ (memV v l) := rd_agg (xs := memL v l) h.at_blk (by intro i u hu; rw [Nat.zero_add]; exact hu)
theorem ok_mem {b t : Nat} {c : List Value} (h : St E (blkL b t c :: L) w) (hl : c.length = 2) (v l : Sl) : wrOk w ⟨b, 0, none⟩ (memV v l) := wrOk_agg h.at_blk (xs := memL v l) (by rw [hl]; exact Nat.le_refl 2) (one_memL v l)
theorem St.wr_mem {b t : Nat} {c : List Value} (h : St E (blkL b t c :: L) w) (hl : c.length = 2) (v l : Sl) : St E (blkL b t (memL v l) :: L) (wr w ⟨b, 0, none⟩ (memV v l)) := h.wr_agg0 (xs := memL v l) (by rw [hl]; rfl)
theorem body_rc1 : hasBody Try.prog 72 = true := by kernel_rfl
theorem any_take_succ {l : List Int} {j : Nat} (h : j < l.length) (p : Int → Bool) : (l.take (j + 1)).any p = ((l.take j).any p || p l[j]) := by
  rw [List.take_succ_eq_append_getElem h, List.any_append]
  simp only [List.any_cons, List.any_nil, Bool.or_false]
theorem Right_spec {v l : Sl} {m : Sn.Mem} (hm : kn F ∈ L) (r : memR F v l m) (h1 : m.v.length ≤ huge) (h2 : m.l.length ≤ huge) (h : St E L w) (k : ∀ w', St E L w' → R (.returned (.bool (Sn.rightM m))) w') : Calls Try.prog 53 #[memV v l] w R := by
  have hh : huge = 9223372036854775807 := rfl
  refine C_member_Right ?_
  unfold T_member_Right
  intro w3
  have h3 : St E (blkL w.heap.size 26 (memL v l) :: L) w3 := h.alloc (.cells ⟨memL v l⟩ 26)
  clear_value w3
  generalize w.heap.size = bm at *
  have lv : m.v.length = v.2.1 := rdi_len (r.1.at h3 (List.mem_cons_of_mem _ hm))
  have ll : m.l.length = l.2.1 := rdi_len (r.2.at h3 (List.mem_cons_of_mem _ hm))
  have hv : Sees E (blkL bm 26 (memL v l) :: L) v.1 v.2.1 1 (intV m.v) := r.1.sees (List.mem_cons_of_mem _ hm)
  have hll : Sees E (blkL bm 26 (memL v l) :: L) l.1 l.2.1 1 (intV m.l) := r.2.sees (List.mem_cons_of_mem _ hm)
  have fin : ∀ {w : World}, Sn.rightM m = false → St E (blkL bm 26 (memL v l) :: L) w → R (.returned (.bool false)) w := fun {w} e h => congB (k w h.drop) e
  refine ⟨_, _, _, rd_cell h3.at_blk rfl rfl, ite_b (fun hz => fin ?_ h3) fun hz => ?_⟩
  · have : m.v = [] := List.eq_nil_of_length_eq_zero (by simp at hz; omega)
    unfold Sn.rightM; rw [this]; rfl
  have hne : m.v ≠ [] := by
    intro h0
    rw [h0] at lv
    simp at hz lv
    omega
  refine ⟨_, _, _, rd_cell h3.at_blk rfl rfl, rises_spec hv h1 h3 fun w7 h7 => ⟨_, rfl, ite_n (fun hz2 => fin ?_ h7) fun hz2 => ?_⟩⟩
  · unfold Sn.rightM; rw [hz2]; simp
  refine ⟨_, _, _, rd_fld h7.at_blk rfl rfl, rises_spec hll h2 h7 fun w11 h11 => ⟨_, rfl, ite_n (fun hz3 => fin ?_ h11) fun hz3 => ?_⟩⟩
  · unfold Sn.rightM; rw [hz3]; simp
  refine ⟨_, _, _, rd_fld h11.at_blk rfl rfl, ?_⟩
  have hr : Sn.rightM m = !(m.l.any fun n => decide (n ∈ m.v)) := by
    unfold Sn.rightM
    rw [hz2, hz3, decide_eq_true hne]
    rw [Bool.eq_iff_iff]
    simp
  refine C_slices_ContainsFunc_int ?_
  unfold T_slices_ContainsFunc_int
  refine C_slices_IndexFunc_int ?_
  unfold T_slices_IndexFunc_int T_slices_IndexFunc_int_1
  intro X hX
  refine up_to m.l.length (Q := fun j => ∀ w, (m.l.take j).any (fun n => decide (n ∈ m.v)) = false → St E (blkL bm 26 (memL v l) :: L) w → X (j : Int) w) ?_ w11 (by simp) h11
  intro j hj ih w hno h
  refine hX _ _ ?_
  unfold T_slices_IndexFunc_int_1_body
  rw [← ll]
  refine ite_d (fun hc => ?_) fun hc => ?_
  · have hjl : j < m.l.length := by omega
    obtain ⟨ad, ha, hrd⟩ := rdi_at (hll w h) hjl
    rw [Int.toNat_natCast]
    refine ⟨by omega, by omega, ad, ha, _, hrd, body_rc1, ?_⟩
    refine C_member_Right_c1 ?_
    unfold T_member_Right_c1
    refine ⟨_, _, _, rd_cell h.at_blk rfl rfl, Contains_spec hv h1 h fun w5 h5 => ⟨_, rfl, _, rfl, ite_b (fun he => ?_) fun he => ?_⟩⟩
    · refine ⟨_, rfl, _, rfl, congB (k w5 h5.drop) ?_⟩
      have : m.l.any (fun n => decide (n ∈ m.v)) = true := List.any_eq_true.2 ⟨_, List.getElem_mem hjl, he⟩
      rw [hr, this, decide_eq_true (by omega)]
    · rw [succ_huge (by omega)]
      exact ih hjl w5 (by rw [any_take_succ hjl, hno, he]; rfl) h5
  · have : j = m.l.length := by omega
    subst this
    rw [List.take_length] at hno
    refine ⟨_, rfl, _, rfl, congB (k w h.drop) ?_⟩
    rw [hr, hno, decide_eq_false (by omega)]
end
end Go.Vc

/-
  Members' bytes: the program's functions.
-/
namespace Go.Sn
open Go.Cm (Ps rMany)
theorem rNum_ok {r r' : Bs} {n : Nat} (h : tk r = .ok (n, r')) : Cm.rNum maxN (.ok r) = (n, .ok r') := by
  have hn := (tk_got h).2
  have e : Cm.rNum maxN (.ok r) = match Cm.takeGo 0 0 r with | .error e => (0, .error e) | .ok (n, r') => if maxN < n then (0, .error 6) else (n, .ok r') := rfl
  have h : Cm.takeGo 0 0 r = .ok (n, r') := h
  rw [e, h]
  simp only
  rw [if_neg (by unfold maxN; omega)]
theorem rNum_err {r : Bs} {e : Int} (h : tk r = .error e) : Cm.rNum maxN (.ok r) = (0, .error e) := by
  have e1 : Cm.rNum maxN (.ok r) = match Cm.takeGo 0 0 r with | .error e => (0, .error e) | .ok (n, r') => if maxN < n then (0, .error 6) else (n, .ok r') := rfl
  have h : Cm.takeGo 0 0 r = .error e := h
  rw [e1, h]
theorem rI_ok {r r' : Bs} {n : Nat} (h : tk r = .ok (n, r')) : rI (.ok r) = ((n : Int), .ok r') := by
  unfold rI
  rw [rNum_ok h]
theorem rI_err {r : Bs} {e : Int} (h : tk r = .error e) : rI (.ok r) = (0, .error e) := by
  unfold rI
  rw [rNum_err h]; rfl
theorem cnt_ok {r r' : Bs} {n : Nat} (h : tk r = .ok (n, r')) : cnt (.ok r) = if 9 < n then (0, .error 4) else (n, .ok r') := by
  unfold cnt
  rw [rNum_ok h]
theorem cnt_err {r : Bs} {e : Int} (h : tk r = .error e) : cnt (.ok r) = (0, .error e) := by
  unfold cnt
  rw [rNum_err h]
end Go.Sn
namespace Go.Vc
open Go Go.Proofs Go.Proofs.Ytclinifclfahfaa
set_option maxRecDepth 100000
section
variable {E w : World} {L : List Asrt} {R : Ending → World → Prop} {F G : Fz} {q s : Sl} {b : Cm.Bs} {l : List Int} {xs : Cm.Bs}
theorem mput_spec {p : Sl} (hq : Sees E L s.1 s.2.1 1 (intV l)) (hl : l.length ≤ 1000) (hx : xs.length ≤ 1000000) (h : St E (byA p xs :: L) w) (k : ∀ (w' : World) (p' : Sl), St E (byA p' (xs ++ l.flatMap Cm.num) :: L) w' → R (.returned (.slice p'.1 p'.2.1 p'.2.2)) w') :
    Calls Try.prog 54 #[.slice p.1 p.2.1 p.2.2, .slice s.1 s.2.1 s.2.2] w R := by
  have hbig : big = 140737488355328 := rfl
  have hlen := rdi_len (hq.more _ w h)
  refine C_member_put ?_
  unfold T_member_put T_member_put_1
  intro X hX
  refine up_to l.length (Q := fun j => ∀ (w : World) (p : Sl), St E (byA p (xs ++ (l.take j).flatMap Cm.num) :: L) w → X p.1 p.2.1 p.2.2 (j : Int) w) ?_ w p (by simpa using h)
  intro j hj ih w p h
  refine hX _ _ _ _ _ ?_
  unfold T_member_put_1_body
  rw [← hlen]
  refine ite_d (fun hc => ?_) fun hc => ?_
  · have hjl : j < l.length := by omega
    obtain ⟨ad, ha, hrd⟩ := rdi_at (hq.more _ w h) hjl
    rw [Int.toNat_natCast]
    refine ⟨by omega, by omega, ad, ha, _, hrd, ?_⟩
    refine Number_spec h fun w10 s10 h10 => ⟨_, _, _, _, rfl, ?_⟩
    have hf := Sn.flatNum (l.take j)
    have h6 := Sn.numLen l[j]
    have htl : (l.take j).length ≤ l.length := by rw [List.length_take]; omega
    obtain ⟨p', w14, hr, h14⟩ := app_b (c2 := s10.2.2) h10.f1 h10.rdS_own (by rw [List.length_append]; omega)
    refine runV_ok hr ⟨_, _, _, rfl, ?_⟩
    rw [succ_big (by omega)]
    refine ih hjl _ _ ?_
    rw [List.take_succ_eq_append_getElem hjl, List.flatMap_append]
    have := h14.f1.drop
    simpa using this
  · rw [List.take_of_length_le (by omega)] at h
    exact k _ _ h
def mputB (m : Sn.Mem) : Cm.Bs := if Sn.rightM m = true then Sn.memB m else []
def mputE (m : Sn.Mem) : Int := if Sn.rightM m = true then 0 else 2
theorem right_len {m : Sn.Mem} (h : Sn.rightM m = true) : m.v.length ≤ 9 ∧ m.l.length ≤ 9 := by
  unfold Sn.rightM at h
  simp only [Bool.and_eq_true] at h
  exact ⟨Sn.upI_len h.1.2.1, Sn.upI_len h.1.2.2⟩
set_option maxHeartbeats 1000000 in
theorem MPut_spec {v l : Sl} {m : Sn.Mem} (hm : kn F ∈ L) (r : memR F v l m) (h1 : m.v.length ≤ huge) (h2 : m.l.length ≤ huge) (h : St E L w)
    (k : ∀ (w' : World) (p : Sl), St E (byA p (mputB m) :: L) w' → R (.returned (.tuple #[.slice p.1 p.2.1 p.2.2, .int .i64 (mputE m)])) w') : Calls Try.prog 28 #[memV v l] w R := by
  refine C_member_Put ?_
  unfold T_member_Put
  intro w3
  have h3 : St E (blkL w.heap.size 26 (memL v l) :: L) w3 := h.alloc (.cells ⟨memL v l⟩ 26)
  clear_value w3
  generalize w.heap.size = bm at *
  refine ⟨_, _, _, _, _, _, rd_mem h3, ?_⟩
  have lv : m.v.length = v.2.1 := rdi_len (r.1.at h3 (List.mem_cons_of_mem _ hm))
  have ll : m.l.length = l.2.1 := rdi_len (r.2.at h3 (List.mem_cons_of_mem _ hm))
  refine Right_spec (List.mem_cons_of_mem _ hm) r h1 h2 h3 fun w7 h7 => ⟨_, rfl, ite_n (fun hz => ?_) fun hz => ?_⟩
  · rw [show mputB m = [] by unfold mputB; rw [hz]; rfl, show mputE m = 2 by unfold mputE; rw [hz]; rfl] at k
    exact k w7 (none, 0, 0) h7.drop.by_nil
  rw [show mputB m = Sn.memB m by unfold mputB; rw [if_pos hz], show mputE m = 0 by unfold mputE; rw [if_pos hz]] at k
  obtain ⟨l1, l2⟩ := right_len hz
  have hf1 := Sn.flatNum m.v; have hf2 := Sn.flatNum m.l
  have hn1 := Sn.numLen m.v.length; have hn2 := Sn.numLen m.l.length
  refine ⟨_, _, _, rd_cell h7.at_blk rfl rfl, ?_⟩
  intro w10
  have h10 := h7.in_one ((v.2.1 : Nat) : Int)
  refine mput_spec (p := (none, 0, 0)) (xs := []) (s := (some ⟨w7.heap.size, 0, none⟩, 1, 1)) (l := [((v.2.1 : Nat) : Int)]) (L := inA (some ⟨w7.heap.size, 0, none⟩, 1, 1) [((v.2.1 : Nat) : Int)] :: blkL bm 26 (memL v l) :: L) (fun w h => h.rdS_own) (by simp) (by simp) h10.by_nil fun w12 p12 h12 => ⟨_, _, _, rfl, ?_⟩
  have h12 : St E (byA p12 (Cm.num (m.v.length : Int)) :: blkL bm 26 (memL v l) :: L) w12 := by
    have := h12.f1.drop
    rw [← lv] at this
    simpa using this
  refine ⟨_, _, _, rd_cell h12.f1.at_blk rfl rfl, ?_⟩
  refine mput_spec (s := v) (l := m.v) (L := blkL bm 26 (memL v l) :: L) (r.1.sees (List.mem_cons_of_mem _ hm)) (by omega) (by omega) h12 fun w16 p16 h16 => ⟨_, _, _, rfl, ?_⟩
  refine ⟨_, _, _, rd_fld h16.f1.at_blk rfl rfl, ?_⟩
  intro w19
  have h19 := h16.in_one ((l.2.1 : Nat) : Int)
  refine mput_spec (s := (some ⟨w16.heap.size, 0, none⟩, 1, 1)) (l := [((l.2.1 : Nat) : Int)]) (L := inA (some ⟨w16.heap.size, 0, none⟩, 1, 1) [((l.2.1 : Nat) : Int)] :: blkL bm 26 (memL v l) :: L) (fun w h => h.rdS_own) (by simp) (by rw [List.length_append]; omega) h19.f1 fun w21 p21 h21 => ⟨_, _, _, rfl, ?_⟩
  have h21 : St E (byA p21 (Cm.num (m.v.length : Int) ++ m.v.flatMap Cm.num ++ Cm.num (m.l.length : Int)) :: blkL bm 26 (memL v l) :: L) w21 := by
    have := h21.f1.drop
    rw [← ll] at this
    simpa using this
  refine ⟨_, _, _, rd_fld h21.f1.at_blk rfl rfl, ?_⟩
  refine mput_spec (s := l) (l := m.l) (L := blkL bm 26 (memL v l) :: L) (r.2.sees (List.mem_cons_of_mem _ hm)) (by omega) (by simp only [List.length_append]; omega) h21 fun w25 p25 h25 => ⟨_, _, _, rfl, k w25 p25 ?_⟩
  have := h25.f1.drop
  unfold Sn.memB Sn.numsB
  simpa using this
/-! ### reading -/
/-- What TakeNumber comes to. -/
theorem tk_cases (b : Cm.Bs) {a : Nat} (ha : a ≤ b.length) : (∃ e, Sn.tk (b.drop a) = .error e ∧ e ≠ 0 ∧ tkR b.length (Cm.takeGo 0 0 (b.drop a)) = (0, 0, e)) ∨
    (∃ n m : Nat, Sn.tk (b.drop a) = .ok (n, b.drop m) ∧ a ≤ m ∧ m ≤ b.length ∧ n ≤ 1099511627776 ∧ tkR b.length (Cm.takeGo 0 0 (b.drop a)) = ((n : Int), (m : Int), 0)) := by
  cases h : Sn.tk (b.drop a) with
  | error e =>
    have h' : Cm.takeGo 0 0 (b.drop a) = .error e := h
    exact .inl ⟨e, rfl, takeGo_err _ _ _ _ h', by rw [h']; rfl⟩
  | ok p =>
    obtain ⟨n, r⟩ := p
    have h' : Cm.takeGo 0 0 (b.drop a) = .ok (n, r) := h
    obtain ⟨i, hi, hil⟩ := takeGo_rest _ _ _ _ _ h'
    rw [List.length_drop] at hil
    rw [List.drop_drop] at hi
    refine .inr ⟨n, a + i, by rw [hi], by omega, by omega, (Sn.tk_got h).2, ?_⟩
    rw [h']
    unfold tkR
    simp only
    rw [hi, List.length_drop]
    congr 2
    omega
def lsp (b : Cm.Bs) (st : Cm.Ps) (at_ e : Int) : Prop := match st with
  | .error x => e = x ∧ x ≠ 0
  | .ok r => e = 0 ∧ ∃ m : Nat, at_ = m ∧ m ≤ b.length ∧ r = b.drop m
set_option maxHeartbeats 1000000 in
theorem mlist_spec {a : Nat} (hs : Src F q b) (hm : kn F ∈ L) (ha : a ≤ b.length) (h : St E L w)
    (k : ∀ (w' : World) (o : Sl) (xs : List Int) (at' e : Int), lsp b (Sn.rList (.ok (b.drop a))).2 at' e → (e = 0 → xs = (Sn.rList (.ok (b.drop a))).1) → St E (inA o xs :: L) w' → R (.returned (.tuple #[.slice o.1 o.2.1 o.2.2, .int .i64 at', .int .i64 e])) w') :
    Calls Try.prog 60 #[.slice q.1 q.2.1 q.2.2, .int .i64 (a : Int)] w R := by
  refine C_member_list ?_
  unfold T_member_list
  refine TakeNumber_spec hs hm h ha fun w4 h4 => ⟨_, _, _, rfl, ?_⟩
  -- no round of the loop
  have out : ∀ (w : World) (x y e : Int), e ≠ 0 → St E L w → (Sn.rList (.ok (b.drop a))).2 = .error e → T_member_list_3 y e none 0 0 0 q.1 q.2.1 q.2.2 x w (fun at57 e58 out59a out59l out59c w60 => R (.returned (.tuple #[.slice out59a out59l out59c, .int .i64 at57, .int .i64 e58])) w60) (pan R) := fun w x y e he h hr => by
    unfold T_member_list_3
    intro X hX
    refine hX _ _ _ _ _ _ _ ?_
    unfold T_member_list_3_body T_member_list_4
    refine ite_b (fun hh => absurd (by simpa using hh) he) fun _ => ite_b (fun hh => by cases hh) fun _ => ?_
    exact k w (none, 0, 0) [] y e (by unfold lsp; rw [hr]; exact ⟨rfl, he⟩) (fun h0 => absurd h0 he) h.in_nil
  rcases tk_cases b ha with ⟨e, h1, he, h2⟩ | ⟨n, m, h1, ham, hml, hn, h2⟩
  · rw [h2]
    have hr : (Sn.rList (.ok (b.drop a))).2 = .error e := by unfold Sn.rList; rw [Sn.cnt_err h1]; rfl
    unfold T_member_list_1 T_member_list_2
    refine ite_b (fun hh => absurd (by simpa using hh) he) fun _ => ite_b (fun hh => by cases hh) fun _ => ?_
    exact out w4 0 0 e he h4 hr
  · rw [h2]
    unfold T_member_list_1 T_member_list_2
    refine ite_b (fun _ => ?_) fun hh => by simp at hh
    by_cases h9 : 9 < n
    · have hr : (Sn.rList (.ok (b.drop a))).2 = .error 4 := by unfold Sn.rList; rw [Sn.cnt_ok h1, if_pos h9]; rfl
      refine ite_b (fun _ => out w4 _ _ 4 (by decide) h4 hr) fun hh => ?_
      have := of_decide_eq_false hh
      exact absurd h9 (by show ¬ 9 < n; omega)
    · have hr : Sn.rList (.ok (b.drop a)) = Cm.rMany Sn.rI n (.ok (b.drop m)) := by unfold Sn.rList; rw [Sn.cnt_ok h1, if_neg h9]
      refine ite_b (fun hh => absurd (of_decide_eq_true hh) (by show ¬ ((n : Int) > 9); omega)) fun _ => ?_
      rw [hr] at k
      show T_member_list_3 (m : Int) 0 none 0 0 0 q.1 q.2.1 q.2.2 (n : Int) w4 _ _
      unfold T_member_list_3
      intro X hX
      have go : ∀ (j : Nat) (xs : List Int) (st2 : Cm.Ps) (at_ e : Int) (o : Sl) (w : World), xs.length + j = n → lsp b st2 at_ e → St E (inA o xs :: L) w →
          Cm.rMany Sn.rI n (.ok (b.drop m)) = (xs ++ (Cm.rMany Sn.rI j st2).1, (Cm.rMany Sn.rI j st2).2) → X at_ e o.1 o.2.1 o.2.2 (xs.length : Int) w := by
        intro j
        induction j with
        | zero =>
          intro xs st2 at_ e o w hj hl h he
          refine hX _ _ _ _ _ _ _ ?_
          unfold T_member_list_3_body T_member_list_4
          have he' : Cm.rMany Sn.rI n (.ok (b.drop m)) = (xs, st2) := by rw [he]; simp [Cm.rMany]
          have fin : R (.returned (.tuple #[.slice o.1 o.2.1 o.2.2, .int .i64 at_, .int .i64 e])) w := k w o xs at_ e (by rw [he']; exact hl) (fun _ => by rw [he']) h
          exact ite_b (fun _ => ite_d (fun hh => absurd hh (by omega)) fun _ => fin) fun _ => ite_b (fun hh => by cases hh) fun _ => fin
        | succ j ih =>
          intro xs st2 at_ e o w hj hl h he
          refine hX _ _ _ _ _ _ _ ?_
          unfold T_member_list_3_body T_member_list_4
          cases st2 with
          | error x =>
            obtain ⟨e1, e2⟩ := hl
            have he' : Cm.rMany Sn.rI n (.ok (b.drop m)) = (xs, .error x) := by rw [he]; simp [Cm.rMany, Cm.bad]
            refine ite_b (fun hh => absurd (by simpa using hh) (by rw [e1]; exact e2)) fun _ => ite_b (fun hh => by cases hh) fun _ => ?_
            exact k w o xs at_ e (by rw [he']; exact ⟨e1, e2⟩) (fun _ => by rw [he']) h
          | ok r =>
            obtain ⟨e1, p, hp1, hp2, hp3⟩ := hl
            subst hp1 e1 hp3
            refine ite_b (fun _ => ite_d (fun _ => ?_) fun hh => absurd (show (xs.length : Int) < (n : Int) by omega) hh) fun hh => by simp at hh
            refine TakeNumber_spec hs (List.mem_cons_of_mem _ hm) h hp2 fun w37 h37 => ⟨_, _, _, rfl, ?_⟩
            have em : Cm.rMany Sn.rI (j + 1) (.ok (b.drop p)) = ((Sn.rI (.ok (b.drop p))).1 :: (Cm.rMany Sn.rI j (Sn.rI (.ok (b.drop p))).2).1, (Cm.rMany Sn.rI j (Sn.rI (.ok (b.drop p))).2).2) := by
              conv => lhs; unfold Cm.rMany
              rfl
            rw [em] at he
            rcases tk_cases b hp2 with ⟨x, g1, gx, g2⟩ | ⟨x, p2, g1, gp, gl, gn, g2⟩
            · rw [g2]
              rw [Sn.rI_err g1] at he
              intro w41
              obtain ⟨o', w43, hrun, h43⟩ := app_i1 (x := 0) h37 (by omega)
              refine runV_ok hrun ⟨_, _, _, rfl, ?_⟩
              rw [succ_big (by unfold big; omega)]
              have := ih (xs ++ [0]) (.error x) 0 x o' w43 (by simp; omega) ⟨rfl, gx⟩ h43 (by rw [he]; simp)
              rw [List.length_append] at this
              exact this
            · rw [g2]
              rw [Sn.rI_ok g1] at he
              intro w41
              obtain ⟨o', w43, hrun, h43⟩ := app_i1 (x := (x : Int)) h37 (by omega)
              refine runV_ok hrun ⟨_, _, _, rfl, ?_⟩
              rw [succ_big (by unfold big; omega)]
              have := ih (xs ++ [(x : Int)]) (.ok (b.drop p2)) (p2 : Int) 0 o' w43 (by simp; omega) ⟨rfl, p2, rfl, gl, rfl⟩ h43 (by rw [he]; simp)
              rw [List.length_append] at this
              exact this
      exact go n [] (.ok (b.drop m)) (m : Int) 0 (none, 0, 0) w4 (by simp) ⟨rfl, m, rfl, hml, rfl⟩ h4.in_nil (by simp)
end
end Go.Vc

/-
  Members from bytes: the program's function.
-/
namespace Go.Sn
theorem getM_err {b : Bs} {e : Int} (h : (rList (rList (.ok b)).2).2 = .error e) : getM b = .error e := by
  unfold getM
  rw [h]
theorem getM_ok {b r : Bs} (h : (rList (rList (.ok b)).2).2 = .ok r) : getM b = if r ≠ [] ∨ rightM ⟨(rList (.ok b)).1, (rList (rList (.ok b)).2).1⟩ = false then .error 4 else .ok ⟨(rList (.ok b)).1, (rList (rList (.ok b)).2).1⟩ := by
  unfold getM
  rw [h]
theorem rMany_len {α : Type} {f : Cm.Ps → α × Cm.Ps} : ∀ (n : Nat) (s : Cm.Ps), (Cm.rMany f n s).1.length ≤ n
  | 0, s => by simp [Cm.rMany]
  | n + 1, s => by
    have := rMany_len (f := f) n (f s).2
    unfold Cm.rMany
    split
    · simp
    · simp; omega
theorem cnt_le (s : Cm.Ps) : (cnt s).1 ≤ 9 := by
  unfold cnt
  split
  · split
    · simp
    · simp; omega
  · simp
theorem rList_len (s : Cm.Ps) : (rList s).1.length ≤ 9 := Nat.le_trans (rMany_len _ _) (cnt_le s)
end Go.Sn
namespace Go.Vc
open Go Go.Proofs Go.Proofs.Ytclinifclfahfaa
set_option maxRecDepth 100000
section
variable {E w : World} {L : List Asrt} {R : Ending → World → Prop} {F G : Fz} {q s : Sl} {b : Cm.Bs} {l : List Int} {xs : Cm.Bs}
theorem lsp_err {st : Cm.Ps} {at_ e : Int} (h : lsp b st at_ e) (he : e ≠ 0) : st = .error e := by
  cases st with
  | error x => rw [h.1]
  | ok r => exact absurd h.1 he
theorem lsp_ok {st : Cm.Ps} {at_ e : Int} (h : lsp b st at_ e) (he : e = 0) : ∃ m : Nat, at_ = m ∧ m ≤ b.length ∧ st = .ok (b.drop m) := by
  cases st with
  | error x => exact absurd (h.1.symm.trans he) h.2
  | ok r => obtain ⟨_, m, h1, h2, h3⟩ := h; exact ⟨m, h1, h2, by rw [h3]⟩
theorem St.kn_less (h : St E (kn G :: L) w) (k : Fz.le F G) : St E (kn F :: L) w := h.mono fun _ hx b o hb => hx b o (k b o hb)
abbrev nilS : Sl := (none, 0, 0)
set_option maxHeartbeats 1000000 in
theorem MGet_spec (hs : Src F q b) (h : St E (kn F :: L) w)
    (kE : ∀ (w' : World) (e : Int), Sn.getM b = .error e → e ≠ 0 → St E (kn F :: L) w' → R (.returned (.tuple #[memV nilS nilS, .int .i64 e])) w')
    (kO : ∀ (G : Fz) (w' : World) (v l : Sl) (m : Sn.Mem), Fz.le F G → Sn.getM b = .ok m → memR G v l m → St E (kn G :: L) w' → R (.returned (.tuple #[memV v l, .int .i64 0])) w') :
    Calls Try.prog 34 #[.slice q.1 q.2.1 q.2.2] w R := by
  refine C_member_Get ?_
  unfold T_member_Get
  intro w2 w3
  have h3 : St E (blkL w2.heap.size 26 (memL nilS nilS) :: blkL w.heap.size 26 (memL nilS nilS) :: kn F :: L) w3 :=
    (h.alloc (.cells ⟨memL nilS nilS⟩ 26)).alloc (.cells ⟨memL nilS nilS⟩ 26)
  clear_value w3
  generalize w2.heap.size = bo at *
  generalize w.heap.size = bm at *
  have hql : b.length = q.2.1 := hs.len
  have errs : ∀ {w : World} {e : Int} {c : List Value} {L2 : List Asrt}, c.length = 2 → Sn.getM b = .error e → e ≠ 0 → (∀ {w : World}, St E (blkL bm 26 (memL nilS nilS) :: L2) w → St E (kn F :: L) w) → St E (blkL bm 26 c :: L2) w →
      (wrOk w ⟨bm, 0, none⟩ (memV nilS nilS)) ∧ ∃ (s11a : Option Addr) (s11l s11c : Nat) (s12a : Option Addr) (s12l s12c : Nat), rd (wr w ⟨bm, 0, none⟩ (memV nilS nilS)) ⟨bm, 0, none⟩ (.agg #[.slice s11a s11l s11c, .slice s12a s12l s12c]) ∧ R (.returned (.tuple #[.agg #[.slice s11a s11l s11c, .slice s12a s12l s12c], .int .i64 e])) (wr w ⟨bm, 0, none⟩ (memV nilS nilS)) := fun {w e c L2} hc he hne hL h =>
    ⟨ok_mem h hc _ _, _, _, _, _, _, _, rd_mem (h.wr_mem hc nilS nilS), kE _ e he hne (hL (h.wr_mem hc _ _))⟩
  refine mlist_spec (a := 0) (L := blkL bo 26 (memL nilS nilS) :: blkL bm 26 (memL nilS nilS) :: kn F :: L) hs (by simp) (Nat.zero_le _) h3 fun w5 o5 xs5 at5 e5 hl5 hx5 h5 => ⟨_, _, _, _, _, rfl, rfl, ?_⟩
  rw [List.drop_zero] at hl5 hx5
  have h5' := h5.sel 4 [1, 0, 2, 3]
  refine ⟨wrOk_cell h5'.at_blk (by decide) rfl, ?_⟩
  intro w9
  have h9 : St E (blkL bo 26 (memL o5 nilS) :: inA o5 xs5 :: blkL bm 26 (memL nilS nilS) :: kn F :: L) w9 := h5'.wr_cell rfl
  clear_value w9
  refine ite_b (fun hh => ?_) fun hh => ?_
  · have he : e5 ≠ 0 := by simpa using hh
    have hg : Sn.getM b = .error e5 := Sn.getM_err (by rw [lsp_err hl5 he]; rfl)
    have hp : St E (blkL bm 26 (memL nilS nilS) :: blkL bo 26 (memL o5 nilS) :: inA o5 xs5 :: kn F :: L) w9 := h9.sel 4 [2, 0, 1, 3]
    exact ⟨rfl, errs rfl hg he (by intro w h; exact h.sel 4 [3]) hp⟩
  have he : e5 = 0 := by simpa using hh
  obtain ⟨m5, rfl, hm5, hst⟩ := lsp_ok hl5 he
  have hx := hx5 he
  subst hx
  clear hx5 hl5 hh
  refine mlist_spec (a := m5) (L := blkL bo 26 (memL o5 nilS) :: inA o5 (Sn.rList (.ok b)).1 :: blkL bm 26 (memL nilS nilS) :: kn F :: L) hs (by simp) hm5 h9 fun w14 o14 xs14 at14 e14 hl14 hx14 h14 => ⟨_, _, _, _, _, rfl, rfl, ?_⟩
  rw [← hst] at hl14 hx14
  have h14' := h14.sel 5 [1, 0, 2, 3, 4]
  refine ⟨wrOk_fld (k := 1) h14'.at_blk (by show 1 < 2; decide) rfl, ?_⟩
  intro w18
  have h18 : St E (blkL bo 26 (memL o5 o14) :: inA o14 xs14 :: inA o5 (Sn.rList (.ok b)).1 :: blkL bm 26 (memL nilS nilS) :: kn F :: L) w18 := h14'.wr_fld (k := 1) rfl
  clear_value w18
  refine ite_b (fun hh => ?_) fun hh => ?_
  · have he : e14 ≠ 0 := by simpa using hh
    have hg : Sn.getM b = .error e14 := Sn.getM_err (lsp_err hl14 he)
    have hp : St E (blkL bm 26 (memL nilS nilS) :: blkL bo 26 (memL o5 o14) :: inA o14 xs14 :: inA o5 (Sn.rList (.ok b)).1 :: kn F :: L) w18 := h18.sel 5 [3, 0, 1, 2, 4]
    exact ⟨rfl, errs rfl hg he (by intro w h; exact h.sel 5 [4]) hp⟩
  have he2 : e14 = 0 := by simpa using hh
  obtain ⟨m14, rfl, hm14, hst2⟩ := lsp_ok hl14 he2
  have hx := hx14 he2
  subst hx
  clear hx14 hl14 hh
  have hgo := Sn.getM_ok hst2
  rw [← hql]
  refine ite_d (fun hh => ?_) fun hh => ?_
  · have hne : b.drop m14 ≠ [] := by
      intro h0
      have := congrArg List.length h0
      simp at this; omega
    rw [if_pos (.inl hne)] at hgo
    have hp : St E (blkL bm 26 (memL nilS nilS) :: blkL bo 26 (memL o5 o14) :: inA o14 (Sn.rList (Sn.rList (.ok b)).2).1 :: inA o5 (Sn.rList (.ok b)).1 :: kn F :: L) w18 := h18.sel 5 [3, 0, 1, 2, 4]
    exact ⟨rfl, errs rfl hgo (by decide) (by intro w h; exact h.sel 5 [4]) hp⟩
  have hz : b.drop m14 = [] := List.drop_eq_nil_of_le (by omega)
  have h18' : St E (inA o14 (Sn.rList (Sn.rList (.ok b)).2).1 :: kn F :: inA o5 (Sn.rList (.ok b)).1 :: blkL bo 26 (memL o5 o14) :: blkL bm 26 (memL nilS nilS) :: L) w18 := h18.sel 5 [1, 4, 2, 0, 3]
  obtain ⟨G1, hG1, h18a, hr1⟩ := St.freezeS h18'
  have h18a' : St E (inA o5 (Sn.rList (.ok b)).1 :: kn G1 :: blkL bo 26 (memL o5 o14) :: blkL bm 26 (memL nilS nilS) :: L) w18 := h18a.sel 4 [1, 0, 2, 3]
  obtain ⟨G2, hG2, h18b, hr2⟩ := St.freezeS h18a'
  have hk : Fz.le F G2 := Fz.le_trans hG1 hG2
  have hmr : memR G2 o5 o14 ⟨(Sn.rList (.ok b)).1, (Sn.rList (Sn.rList (.ok b)).2).1⟩ := ⟨hr2, hr1.mono hG2⟩
  have h18c : St E (blkL bo 26 (memL o5 o14) :: blkL bm 26 (memL nilS nilS) :: kn G2 :: L) w18 := h18b.sel 3 [1, 2, 0]
  refine ⟨_, _, _, _, _, _, rd_mem h18c, ?_⟩
  have l1 := Sn.rList_len (.ok b)
  have l2 := Sn.rList_len (Sn.rList (.ok b)).2
  have hh9 : huge = 9223372036854775807 := rfl
  refine Right_spec (by simp) hmr (by show (Sn.rList (.ok b)).1.length ≤ _; omega) (by show (Sn.rList (Sn.rList (.ok b)).2).1.length ≤ _; omega) h18c fun w28 h28 => ⟨_, rfl, ite_n (fun hz2 => ?_) fun hz2 => ?_⟩
  · rw [if_pos (.inr hz2)] at hgo
    have hp : St E (blkL bm 26 (memL nilS nilS) :: blkL bo 26 (memL o5 o14) :: kn G2 :: L) w28 := h28.sel 3 [1, 0, 2]
    exact ⟨rfl, errs rfl hgo (by decide) (by intro w h; exact St.kn_less (h.sel 3 [2]) hk) hp⟩
  rw [if_neg (by rw [hz, hz2]; simp)] at hgo
  refine ⟨_, _, _, _, _, _, rd_mem h28, rfl, ok_mem (h28.sel 3 [1, 0, 2]) rfl _ _, ?_⟩
  intro w35
  have h35 : St E (blkL bm 26 (memL o5 o14) :: blkL bo 26 (memL o5 o14) :: kn G2 :: L) w35 := (h28.sel 3 [1, 0, 2]).wr_mem rfl o5 o14
  exact ⟨_, _, _, _, _, _, rd_mem h35, kO G2 w35 o5 o14 _ hk hgo hmr (h35.sel 3 [2])⟩
end
end Go.Vc

/-
  The document's members: right, put.
-/
namespace Go.Sn
end Go.Sn
namespace Go.Vc
open Go Go.Proofs Go.Proofs.Ytclinifclfahfaa
set_option maxRecDepth 100000
section
variable {E w : World} {L : List Asrt} {R : Ending → World → Prop} {F G : Fz} {q s : Sl} {b : Cm.Bs} {l : List Int} {xs : Cm.Bs}
end
end Go.Vc

/-
  The document's members: get, the same, a copy.
-/
namespace Go.Vc
open Go Go.Proofs Go.Proofs.Ytclinifclfahfaa
set_option maxRecDepth 100000
section
variable {E w : World} {L : List Asrt} {R : Ending → World → Prop} {F G : Fz} {q s : Sl} {b : Cm.Bs} {l : List Int} {xs : Cm.Bs}
theorem int_ne {x y : Int} (h : (x != y) = true) : x ≠ y := by simpa using h
theorem int_eq {x y : Int} (h : (x != y) = false) : x = y := by simpa using h
theorem SameInts_spec {p : Sl} {xs ys : List Int} (hp : Sees E L s.1 s.2.1 1 (intV xs)) (hq : Sees E L p.1 p.2.1 1 (intV ys)) (hl : xs.length ≤ huge) (h : St E L w) (k : ∀ w', St E L w' → R (.returned (.bool (decide (xs = ys)))) w') :
    Calls Try.prog 61 #[.slice s.1 s.2.1 s.2.2, .slice p.1 p.2.1 p.2.2] w R := by
  have hh : huge = 9223372036854775807 := rfl
  have hlen := rdi_len (hp w h)
  have hlen2 := rdi_len (hq w h)
  refine C_ref03_SameInts ?_
  unfold T_ref03_SameInts
  refine ite_b (fun hc => ?_) fun hc => ?_
  · have := int_ne hc
    exact congB (k w h) (decide_eq_false fun h0 => by rw [h0] at hlen; omega)
  have hll : xs.length = ys.length := by have := int_eq hc; omega
  unfold T_ref03_SameInts_1
  intro X hX
  refine up_to xs.length (Q := fun j => ∀ w, xs.take j = ys.take j → St E L w → X (j : Int) w) ?_ w (by simp) h
  intro j hj ih w hno h
  refine hX _ _ ?_
  unfold T_ref03_SameInts_1_body
  rw [← hlen, ← hlen2]
  refine ite_d (fun hc => ?_) fun hc => ?_
  · intro w6
    have h6 : St E L w6 := h.drew
    clear_value w6
    have hjl : j < xs.length := by omega
    obtain ⟨ad, ha, hrd⟩ := rdi_at (hp w6 h6) hjl
    obtain ⟨ad2, ha2, hrd2⟩ := rdi_at (hq w6 h6) (show j < ys.length by omega)
    rw [Int.toNat_natCast]
    refine ⟨by omega, by omega, ad, ha, _, hrd, by omega, by omega, ad2, ha2, _, hrd2, ?_⟩
    refine ite_b (fun he => ?_) fun he => ?_
    · have he := int_ne he
      exact congB (k w6 h6) (decide_eq_false fun h0 => he (by subst h0; rfl))
    · rw [succ_huge (by omega)]
      refine ih hjl w6 ?_ h6
      rw [List.take_succ_eq_append_getElem hjl, List.take_succ_eq_append_getElem (show j < ys.length by omega), hno, int_eq he]
  · have : j = xs.length := by omega
    subst this
    rw [List.take_length, hll, List.take_length] at hno
    exact congB (k w h) (decide_eq_true hno)
theorem Same_spec {v l v2 l2 : Sl} {m m2 : Sn.Mem} (hm : kn F ∈ L) (r : memR F v l m) (r2 : memR F v2 l2 m2) (z1 : m.v.length ≤ huge) (z2 : m.l.length ≤ huge) (h : St E L w) (k : ∀ w', St E L w' → R (.returned (.bool (decide (m = m2)))) w') :
    Calls Try.prog 35 #[memV v l, memV v2 l2] w R := by
  refine C_ref03_Same ?_
  unfold T_ref03_Same
  intro w5 w6
  have h6 : St E (blkL w5.heap.size 26 (memL v2 l2) :: blkL w.heap.size 26 (memL v l) :: L) w6 :=
    (h.alloc (.cells ⟨memL v l⟩ 26)).alloc (.cells ⟨memL v2 l2⟩ 26)
  clear_value w6
  generalize w5.heap.size = b2 at *
  generalize w.heap.size = b1 at *
  have hm' : kn F ∈ blkL b2 26 (memL v2 l2) :: blkL b1 26 (memL v l) :: L := List.mem_cons_of_mem _ (List.mem_cons_of_mem _ hm)
  have hd : decide (m = m2) = (decide (m.v = m2.v) && decide (m.l = m2.l)) := by
    rw [Bool.eq_iff_iff]
    simp only [decide_eq_true_eq, Bool.and_eq_true]
    exact ⟨fun h => by rw [h]; exact ⟨rfl, rfl⟩, fun ⟨h1, h2⟩ => by cases m; cases m2; simp at h1 h2; rw [h1, h2]⟩
  refine ⟨_, _, _, rd_cell h6.f1.at_blk rfl rfl, _, _, _, rd_cell h6.at_blk rfl rfl, ?_⟩
  refine SameInts_spec (r.1.sees hm') (r2.1.sees hm') z1 h6 fun w10 h10 => ⟨_, rfl, ite_b (fun hc => ?_) fun hc => ?_⟩
  · refine ⟨_, _, _, rd_fld h10.f1.at_blk rfl rfl, _, _, _, rd_fld h10.at_blk rfl rfl, ?_⟩
    refine SameInts_spec (r.2.sees hm') (r2.2.sees hm') z2 h10 fun w15 h15 => ⟨_, rfl, congB (k w15 h15.drop.drop) ?_⟩
    rw [hd, hc]; rfl
  · refine congB (k w10 h10.drop.drop) ?_
    rw [hd, hc]; rfl
end
end Go.Vc

/-
  The document's members: a copy.
-/
namespace Go.Vc
open Go Go.Proofs Go.Proofs.Ytclinifclfahfaa
set_option maxRecDepth 100000
section
variable {E w : World} {L : List Asrt} {R : Ending → World → Prop} {F G : Fz} {q s : Sl} {b : Cm.Bs} {l : List Int} {xs : Cm.Bs}
end
end Go.Vc

/-
  What the functions' code comes to; printed by a program of this claim's own.
-/
namespace Go.Proofs.Ytclinifclfahfaa
open Go Go.Vc
set_option maxRecDepth 100000
set_option linter.unusedVariables false

/-! tollgate/snap.num -/
def T_snap_num (b1a : Option Addr) (b1l : Nat) (b1c : Nat) (n2 : Int) (w : World) (R : Ending → World → Prop) : Prop :=
  Calls Try.prog 55 #[.int .i64 n2] w (ret (fun r3 w4 => ∃ s5a : Option Addr, ∃ s5l : Nat, ∃ s5c : Nat, ∃ x6 : Int, r3 = .tuple #[.slice s5a s5l s5c, .int .i64 x6] ∧ runV Try.prog (Builtin.append_ #[27, 27] 27 #[.slice b1a b1l b1c, .slice s5a s5l s5c]) w4 (fun r7 w8 => ∃ s9a : Option Addr, ∃ s9l : Nat, ∃ s9c : Nat, r7 = .slice s9a s9l s9c ∧ R (.returned (.slice s9a s9l s9c)) w8) (pan R)) (pan R))

theorem T_snap_num_hl : allP (hokL Try.prog (hookAt []) (bodyOf Try.f29) 1) = (True) := by kernel_rfl

theorem T_snap_num_eq (b1a : Option Addr) (b1l : Nat) (b1c : Nat) (n2 : Int) (w : World) (R : Ending → World → Prop) : vcCode Try.prog (hookAt []) (bodyOf Try.f29) 1 ⟨argEnv [.slice b1a b1l b1c, .int .i64 n2] 0, Try.f29.ntmps, []⟩ w (finQ Try.prog Try.f29.results.toList R) = T_snap_num b1a b1l b1c n2 w R := by kernel_rfl

theorem T_snap_num_b : Try.f29.body = some (bodyOf Try.f29) := by kernel_rfl
theorem T_snap_num_s : (quietSel (bodyOf Try.f29) && Nat.ble 2 Try.f29.ntmps) = true := by kernel_rfl

theorem C_snap_num {b1a : Option Addr} {b1l : Nat} {b1c : Nat} {n2 : Int} {w : World} {R : Ending → World → Prop} (h : T_snap_num b1a b1l b1c n2 w R) : Calls Try.prog 29 #[.slice b1a b1l b1c, .int .i64 n2] w R :=
  calls_of_text (args := [.slice b1a b1l b1c, .int .i64 n2]) mixed Try.func29 T_snap_num_b T_snap_num_s (HOk_of _ _ (by rw [T_snap_num_hl]; exact trivial)) (by rw [T_snap_num_eq]; exact h)

/-! tollgate/snap.Put -/
def T_snap_Put_2 (s15 : Addr) (e16 : Int) (w : World) (Kn : Bool → World → Prop) (Kp : List PanicEntry → World → Prop) : Prop :=
  ∃ x17 : Int, rd w s15 (.int .i64 x17) ∧ if (decide ((x17 : Int) < 1)) = true then (Kn true w) else (∃ x18 : Int, rd w s15 (.int .i64 x18) ∧ if (decide ((x18 : Int) > 1099511627776)) = true then (Kn true w) else (∃ x19 : Int, rd w (s15.add 1) (.int .i64 x19) ∧ if (decide ((x19 : Int) < 1)) = true then (Kn true w) else (∃ x20 : Int, rd w (s15.add 1) (.int .i64 x20) ∧ if (decide ((x20 : Int) > 1099511627776)) = true then (Kn true w) else (Kn ((e16 : Int) != 0) w))))

def T_snap_Put_2_outs : Exit → Option (List (Nat × Value)) := fun x => match x with | .normal => some [(13, .bool false)] | .panic _ => some [] | _ => none

def T_snap_Put_2_ks : Nat → Bool := ksOf [13, 14, 15, 16, 17, 18, 19, 20, 21, 22, 23, 24, 25, 26, 27, 28, 29, 30, 31, 32, 33, 34, 35, 36, 37, 38, 39]

def H_snap_Put_2 : Env → World → QT → Prop := unitHook 71 T_snap_Put_2_ks [(1, .pointer (some ⟨0, 0, none⟩)), (5, .int .i64 0)] T_snap_Put_2_outs fun l w C => match l with | [v0, v1] => T_snap_Put_2 (pAddr v0) (pInt v1) w (fun b22 w => C .normal [.bool b22] w) (fun ch w => C (.panic ch) [] w) | _ => False

theorem T_snap_Put_2_hl : allP (hokL Try.prog (hookAt []) (at_ (bodyOf Try.f9) [1, 1, 0, 0, 0]) 56) = (True) := by kernel_rfl
theorem T_snap_Put_2_hok : HOk Try.prog (hookAt []) (at_ (bodyOf Try.f9) [1, 1, 0, 0, 0]) 56 := HOk_of _ _ (by rw [T_snap_Put_2_hl]; exact trivial)

theorem T_snap_Put_2_eq (C : Conts) (s15 : Addr) (e16 : Int) (w : World) : vcCode Try.prog (hookAt []) (at_ (bodyOf Try.f9) [1, 1, 0, 0, 0]) 56 ⟨[(1, .pointer (some s15)), (5, .int .i64 e16)], 71, []⟩ w (unitQ T_snap_Put_2_outs C) = T_snap_Put_2 s15 e16 w (fun b23 w => C .normal [.bool b23] w) (fun ch w => C (.panic ch) [] w) := by kernel_rfl

theorem T_snap_Put_2_ok : UnitOk Try.prog H_snap_Put_2 (at_ (bodyOf Try.f9) [1, 1, 0, 0, 0]) 56 := unit_ok (H := (hookAt [])) (by kernel_rfl) T_snap_Put_2_hok fun l w C hk => by
    obtain ⟨v0, l_v0, rfl, k_v0, hk_v0⟩ := Kinds.cons_ hk
    obtain ⟨s15, rfl⟩ := kind_addr k_v0
    obtain ⟨v1, l_v1, rfl, k_v1, hk_v1⟩ := Kinds.cons_ hk_v0
    obtain ⟨e16, rfl⟩ := kind_int k_v1
    obtain rfl := Kinds.nil_ hk_v1
    exact T_snap_Put_2_eq C s15 e16 w

def T_snap_Put_1 (s13 : Addr) (e14 : Int) (w : World) (Kn : World → Prop) (Kr : Option Addr → Nat → Nat → Int → World → Prop) (Kp : List PanicEntry → World → Prop) : Prop :=
  T_snap_Put_2 s13 e14 w (fun b24 w25 => if b24 = true then (Kr none 0 0 2 w25) else (∃ s26a : Option Addr, ∃ s26l : Nat, ∃ s26c : Nat, rd w25 (s13.add 4) (.slice s26a s26l s26c) ∧ if (decide (((s26l : Nat) : Int) > 16384)) = true then (Kr none 0 0 6 w25) else (Kn  w25))) Kp

def T_snap_Put_1_outs : Exit → Option (List (Nat × Value)) := fun x => match x with | .normal => some [] | .ret => some [(2, .slice none 0 0), (3, .int .i64 0)] | .panic _ => some [] | _ => none

def T_snap_Put_1_ks : Nat → Bool := ksOf [2, 3, 13, 14, 15, 16, 17, 18, 19, 20, 21, 22, 23, 24, 25, 26, 27, 28, 29, 30, 31, 32, 33, 34, 35, 36, 37, 38, 39, 40, 41, 42, 43, 44]

def H_snap_Put_1 : Env → World → QT → Prop := unitHook 71 T_snap_Put_1_ks [(1, .pointer (some ⟨0, 0, none⟩)), (5, .int .i64 0)] T_snap_Put_1_outs fun l w C => match l with | [v0, v1] => T_snap_Put_1 (pAddr v0) (pInt v1) w (fun w => C .normal [] w) (fun s29a s29l s29c x30 w => C .ret [.slice s29a s29l s29c, .int .i64 x30] w) (fun ch w => C (.panic ch) [] w) | _ => False

theorem T_snap_Put_1_hl : allP (hokL Try.prog (hookAt [(56, H_snap_Put_2)]) (at_ (bodyOf Try.f9) [1, 1, 0]) 14) = (UnitOk Try.prog H_snap_Put_2 (at_ (bodyOf Try.f9) [1, 1, 0, 0, 0]) 56 ∧ True) := by kernel_rfl
theorem T_snap_Put_1_hok : HOk Try.prog (hookAt [(56, H_snap_Put_2)]) (at_ (bodyOf Try.f9) [1, 1, 0]) 14 := HOk_of _ _ (by rw [T_snap_Put_1_hl]; exact ⟨T_snap_Put_2_ok, trivial⟩)

theorem T_snap_Put_1_eq (C : Conts) (s13 : Addr) (e14 : Int) (w : World) : vcCode Try.prog (hookAt [(56, H_snap_Put_2)]) (at_ (bodyOf Try.f9) [1, 1, 0]) 14 ⟨[(1, .pointer (some s13)), (5, .int .i64 e14)], 71, []⟩ w (unitQ T_snap_Put_1_outs C) = T_snap_Put_1 s13 e14 w (fun w => C .normal [] w) (fun s31a s31l s31c x32 w => C .ret [.slice s31a s31l s31c, .int .i64 x32] w) (fun ch w => C (.panic ch) [] w) := by kernel_rfl

theorem T_snap_Put_1_ok : UnitOk Try.prog H_snap_Put_1 (at_ (bodyOf Try.f9) [1, 1, 0]) 14 := unit_ok (H := (hookAt [(56, H_snap_Put_2)])) (by kernel_rfl) T_snap_Put_1_hok fun l w C hk => by
    obtain ⟨v0, l_v0, rfl, k_v0, hk_v0⟩ := Kinds.cons_ hk
    obtain ⟨s13, rfl⟩ := kind_addr k_v0
    obtain ⟨v1, l_v1, rfl, k_v1, hk_v1⟩ := Kinds.cons_ hk_v0
    obtain ⟨e14, rfl⟩ := kind_int k_v1
    obtain rfl := Kinds.nil_ hk_v1
    exact T_snap_Put_1_eq C s13 e14 w

def T_snap_Put (x1 : Int) (x2 : Int) (s3a : Option Addr) (s3l : Nat) (s3c : Nat) (s4a : Option Addr) (s4l : Nat) (s4c : Nat) (s5a : Option Addr) (s5l : Nat) (s5c : Nat) (w : World) (R : Ending → World → Prop) : Prop :=
  let w6 : World := w.alloc (.cells #[.int .i64 x1, .int .i64 x2, .slice s3a s3l s3c, .slice s4a s4l s4c, .slice s5a s5l s5c] 29)
  ∃ s7a : Option Addr, ∃ s7l : Nat, ∃ s7c : Nat, ∃ s8a : Option Addr, ∃ s8l : Nat, ∃ s8c : Nat, rd w6 ((⟨w.heap.size, 0, none⟩ : Addr).add 2) (.agg #[.slice s7a s7l s7c, .slice s8a s8l s8c]) ∧ Calls Try.prog 28 #[.agg #[.slice s7a s7l s7c, .slice s8a s8l s8c]] w6 (ret (fun r9 w10 => ∃ s11a : Option Addr, ∃ s11l : Nat, ∃ s11c : Nat, ∃ x12 : Int, r9 = .tuple #[.slice s11a s11l s11c, .int .i64 x12] ∧ T_snap_Put_1 (⟨w.heap.size, 0, none⟩ : Addr) x12 w10 (fun w33 => let w34 : World := w33.drew
  ∃ x35 : Int, rd w34 (⟨w.heap.size, 0, none⟩ : Addr) (.int .i64 x35) ∧ ∃ x36 : Int, rd w34 ((⟨w.heap.size, 0, none⟩ : Addr).add 1) (.int .i64 x36) ∧ Calls Try.prog 29 #[.slice none 0 0, .int .i64 x35] w34 (ret (fun r37 w38 => ∃ s39a : Option Addr, ∃ s39l : Nat, ∃ s39c : Nat, r37 = .slice s39a s39l s39c ∧ (rd w38 ((⟨w.heap.size, 0, none⟩ : Addr).add 1) (.int .i64 x36) ∧ True) ∧ Calls Try.prog 29 #[.slice s39a s39l s39c, .int .i64 x36] w38 (ret (fun r40 w41 => ∃ s42a : Option Addr, ∃ s42l : Nat, ∃ s42c : Nat, r40 = .slice s42a s42l s42c ∧ (True) ∧ Calls Try.prog 29 #[.slice s42a s42l s42c, .int .i64 ((s11l : Nat) : Int)] w41 (ret (fun r43 w44 => ∃ s45a : Option Addr, ∃ s45l : Nat, ∃ s45c : Nat, r43 = .slice s45a s45l s45c ∧ runV Try.prog (Builtin.append_ #[27, 27] 27 #[.slice s45a s45l s45c, .slice s11a s11l s11c]) w44 (fun r46 w47 => ∃ s48a : Option Addr, ∃ s48l : Nat, ∃ s48c : Nat, r46 = .slice s48a s48l s48c ∧ let w49 : World := w47.drew
  ∃ s50a : Option Addr, ∃ s50l : Nat, ∃ s50c : Nat, rd w49 ((⟨w.heap.size, 0, none⟩ : Addr).add 4) (.slice s50a s50l s50c) ∧ ∃ s51a : Option Addr, ∃ s51l : Nat, ∃ s51c : Nat, rd w49 ((⟨w.heap.size, 0, none⟩ : Addr).add 4) (.slice s51a s51l s51c) ∧ Calls Try.prog 29 #[.slice s48a s48l s48c, .int .i64 ((s50l : Nat) : Int)] w49 (ret (fun r52 w53 => ∃ s54a : Option Addr, ∃ s54l : Nat, ∃ s54c : Nat, r52 = .slice s54a s54l s54c ∧ (rd w53 ((⟨w.heap.size, 0, none⟩ : Addr).add 4) (.slice s51a s51l s51c) ∧ True) ∧ runV Try.prog (Builtin.append_ #[27, 27] 27 #[.slice s54a s54l s54c, .slice s51a s51l s51c]) w53 (fun r55 w56 => ∃ s57a : Option Addr, ∃ s57l : Nat, ∃ s57c : Nat, r55 = .slice s57a s57l s57c ∧ (True) ∧ Calls Try.prog 30 #[.slice s57a s57l s57c] w56 (ret (fun r58 w59 => ∃ s60a : Option Addr, ∃ s60l : Nat, ∃ s60c : Nat, ∃ x61 : Int, r58 = .tuple #[.slice s60a s60l s60c, .int .i64 x61] ∧ R (.returned (.tuple #[.slice s60a s60l s60c, .int .i64 x61])) w59) (pan R))) (pan R)) (pan R))) (pan R)) (pan R))) (pan R))) (pan R))) (fun s62a s62l s62c x63 w64 => R (.returned (.tuple #[.slice s62a s62l s62c, .int .i64 x63])) w64) (pan R)) (pan R))

theorem T_snap_Put_hl : allP (hokL Try.prog (hookAt [(14, H_snap_Put_1)]) (bodyOf Try.f9) 1) = (UnitOk Try.prog H_snap_Put_1 (at_ (bodyOf Try.f9) [1, 1, 0]) 14 ∧ True) := by kernel_rfl

theorem T_snap_Put_eq (x1 : Int) (x2 : Int) (s3a : Option Addr) (s3l : Nat) (s3c : Nat) (s4a : Option Addr) (s4l : Nat) (s4c : Nat) (s5a : Option Addr) (s5l : Nat) (s5c : Nat) (w : World) (R : Ending → World → Prop) : vcCode Try.prog (hookAt [(14, H_snap_Put_1)]) (bodyOf Try.f9) 1 ⟨argEnv [.agg #[.int .i64 x1, .int .i64 x2, .slice s3a s3l s3c, .slice s4a s4l s4c, .slice s5a s5l s5c]] 0, Try.f9.ntmps, []⟩ w (finQ Try.prog Try.f9.results.toList R) = T_snap_Put x1 x2 s3a s3l s3c s4a s4l s4c s5a s5l s5c w R := by kernel_rfl

theorem T_snap_Put_b : Try.f9.body = some (bodyOf Try.f9) := by kernel_rfl
theorem T_snap_Put_s : (quietSel (bodyOf Try.f9) && Nat.ble 1 Try.f9.ntmps) = true := by kernel_rfl

theorem C_snap_Put {x1 : Int} {x2 : Int} {s3a : Option Addr} {s3l : Nat} {s3c : Nat} {s4a : Option Addr} {s4l : Nat} {s4c : Nat} {s5a : Option Addr} {s5l : Nat} {s5c : Nat} {w : World} {R : Ending → World → Prop} (h : T_snap_Put x1 x2 s3a s3l s3c s4a s4l s4c s5a s5l s5c w R) : Calls Try.prog 9 #[.agg #[.int .i64 x1, .int .i64 x2, .slice s3a s3l s3c, .slice s4a s4l s4c, .slice s5a s5l s5c]] w R :=
  calls_of_text (args := [.agg #[.int .i64 x1, .int .i64 x2, .slice s3a s3l s3c, .slice s4a s4l s4c, .slice s5a s5l s5c]]) mixed Try.func9 T_snap_Put_b T_snap_Put_s (HOk_of _ _ (by rw [T_snap_Put_hl]; exact ⟨T_snap_Put_1_ok, trivial⟩)) (by rw [T_snap_Put_eq]; exact h)

/-! tollgate/snap.row -/
def T_snap_row (b1a : Option Addr) (b1l : Nat) (b1c : Nat) (at2 : Int) (limit3 : Int) (w : World) (R : Ending → World → Prop) : Prop :=
  Calls Try.prog 52 #[.slice b1a b1l b1c, .int .i64 at2] w (ret (fun r4 w5 => ∃ x6 : Int, ∃ x7 : Int, ∃ x8 : Int, r4 = .tuple #[.int .i64 x6, .int .i64 x7, .int .i64 x8] ∧ if ((x8 : Int) != 0) = true then (R (.returned (.tuple #[.slice none 0 0, .int .i64 0, .int .i64 x8])) w5) else (if (decide ((x6 : Int) > limit3)) = true then (R (.returned (.tuple #[.slice none 0 0, .int .i64 0, .int .i64 6])) w5) else (if (decide ((IntKind.wrap .i64 (((b1l : Nat) : Int) - x7) : Int) < x6)) = true then (R (.returned (.tuple #[.slice none 0 0, .int .i64 0, .int .i64 3])) w5) else (0 ≤ (IntKind.wrap .i64 ((x7 : Int) + x6) : Int) ∧ (IntKind.wrap .i64 ((x7 : Int) + x6) : Int) ≤ ((b1c : Nat) : Int) ∧ 0 ≤ (IntKind.wrap .i64 ((x7 : Int) + x6) : Int) ∧ (IntKind.wrap .i64 ((x7 : Int) + x6) : Int) ≤ (((IntKind.wrap .i64 ((x7 : Int) + x6) : Int).toNat : Nat) : Int) ∧ 0 ≤ (x7 : Int) ∧ (x7 : Int) ≤ (((IntKind.wrap .i64 ((x7 : Int) + x6) : Int).toNat : Nat) : Int) ∧ R (.returned (.tuple #[.slice (if ((IntKind.wrap .i64 ((x7 : Int) + x6) : Int).toNat) = ((x7 : Int).toNat) then b1a else b1a.map (fun x => x.add (((x7 : Int).toNat) * 1))) (((IntKind.wrap .i64 ((x7 : Int) + x6) : Int).toNat) - ((x7 : Int).toNat)) (((IntKind.wrap .i64 ((x7 : Int) + x6) : Int).toNat) - ((x7 : Int).toNat)), .int .i64 (IntKind.wrap .i64 ((x7 : Int) + x6)), .int .i64 0])) w5)))) (pan R))

theorem T_snap_row_hl : allP (hokL Try.prog (hookAt []) (bodyOf Try.f33) 1) = (True) := by kernel_rfl

theorem T_snap_row_eq (b1a : Option Addr) (b1l : Nat) (b1c : Nat) (at2 : Int) (limit3 : Int) (w : World) (R : Ending → World → Prop) : vcCode Try.prog (hookAt []) (bodyOf Try.f33) 1 ⟨argEnv [.slice b1a b1l b1c, .int .i64 at2, .int .i64 limit3] 0, Try.f33.ntmps, []⟩ w (finQ Try.prog Try.f33.results.toList R) = T_snap_row b1a b1l b1c at2 limit3 w R := by kernel_rfl

theorem T_snap_row_b : Try.f33.body = some (bodyOf Try.f33) := by kernel_rfl
theorem T_snap_row_s : (quietSel (bodyOf Try.f33) && Nat.ble 3 Try.f33.ntmps) = true := by kernel_rfl

theorem C_snap_row {b1a : Option Addr} {b1l : Nat} {b1c : Nat} {at2 : Int} {limit3 : Int} {w : World} {R : Ending → World → Prop} (h : T_snap_row b1a b1l b1c at2 limit3 w R) : Calls Try.prog 33 #[.slice b1a b1l b1c, .int .i64 at2, .int .i64 limit3] w R :=
  calls_of_text (args := [.slice b1a b1l b1c, .int .i64 at2, .int .i64 limit3]) mixed Try.func33 T_snap_row_b T_snap_row_s (HOk_of _ _ (by rw [T_snap_row_hl]; exact trivial)) (by rw [T_snap_row_eq]; exact h)

/-! tollgate/snap.mark -/
def T_snap_mark (b1a : Option Addr) (b1l : Nat) (b1c : Nat) (at2 : Int) (w : World) (R : Ending → World → Prop) : Prop :=
  Calls Try.prog 52 #[.slice b1a b1l b1c, .int .i64 at2] w (ret (fun r3 w4 => ∃ x5 : Int, ∃ x6 : Int, ∃ x7 : Int, r3 = .tuple #[.int .i64 x5, .int .i64 x6, .int .i64 x7] ∧ if ((x7 : Int) == 0) = true then (if ((x5 : Int) == 0) = true then (R (.returned (.tuple #[.int .i64 x5, .int .i64 x6, .int .i64 4])) w4) else (R (.returned (.tuple #[.int .i64 x5, .int .i64 x6, .int .i64 x7])) w4)) else (R (.returned (.tuple #[.int .i64 x5, .int .i64 x6, .int .i64 x7])) w4)) (pan R))

theorem T_snap_mark_hl : allP (hokL Try.prog (hookAt []) (bodyOf Try.f32) 1) = (True) := by kernel_rfl

theorem T_snap_mark_eq (b1a : Option Addr) (b1l : Nat) (b1c : Nat) (at2 : Int) (w : World) (R : Ending → World → Prop) : vcCode Try.prog (hookAt []) (bodyOf Try.f32) 1 ⟨argEnv [.slice b1a b1l b1c, .int .i64 at2] 0, Try.f32.ntmps, []⟩ w (finQ Try.prog Try.f32.results.toList R) = T_snap_mark b1a b1l b1c at2 w R := by kernel_rfl

theorem T_snap_mark_b : Try.f32.body = some (bodyOf Try.f32) := by kernel_rfl
theorem T_snap_mark_s : (quietSel (bodyOf Try.f32) && Nat.ble 2 Try.f32.ntmps) = true := by kernel_rfl

theorem C_snap_mark {b1a : Option Addr} {b1l : Nat} {b1c : Nat} {at2 : Int} {w : World} {R : Ending → World → Prop} (h : T_snap_mark b1a b1l b1c at2 w R) : Calls Try.prog 32 #[.slice b1a b1l b1c, .int .i64 at2] w R :=
  calls_of_text (args := [.slice b1a b1l b1c, .int .i64 at2]) mixed Try.func32 T_snap_mark_b T_snap_mark_s (HOk_of _ _ (by rw [T_snap_mark_hl]; exact trivial)) (by rw [T_snap_mark_eq]; exact h)

/-! tollgate/snap.Get -/
def T_snap_Get (b1a : Option Addr) (b1l : Nat) (b1c : Nat) (w : World) (R : Ending → World → Prop) : Prop :=
  let w2 : World := w.alloc (.cells #[.int .i64 0, .int .i64 0, .slice none 0 0, .slice none 0 0, .slice none 0 0] 29)
  Calls Try.prog 31 #[.slice b1a b1l b1c, .int .i64 0] w2 (ret (fun r3 w4 => ∃ s5a : Option Addr, ∃ s5l : Nat, ∃ s5c : Nat, ∃ x6 : Int, ∃ x7 : Int, r3 = .tuple #[.slice s5a s5l s5c, .int .i64 x6, .int .i64 x7] ∧ if ((x7 : Int) != 0) = true then ((.agg #[.int .i64 0, .int .i64 0, .slice none 0 0, .slice none 0 0, .slice none 0 0] : Value).cells.size = 5 ∧ wrOk w4 (⟨w.heap.size, 0, none⟩ : Addr) (.agg #[.int .i64 0, .int .i64 0, .slice none 0 0, .slice none 0 0, .slice none 0 0]) ∧ let w8 : World := wr w4 (⟨w.heap.size, 0, none⟩ : Addr) (.agg #[.int .i64 0, .int .i64 0, .slice none 0 0, .slice none 0 0, .slice none 0 0])
  ∃ x9 : Int, ∃ x10 : Int, ∃ s11a : Option Addr, ∃ s11l : Nat, ∃ s11c : Nat, ∃ s12a : Option Addr, ∃ s12l : Nat, ∃ s12c : Nat, ∃ s13a : Option Addr, ∃ s13l : Nat, ∃ s13c : Nat, rd w8 (⟨w.heap.size, 0, none⟩ : Addr) (.agg #[.int .i64 x9, .int .i64 x10, .slice s11a s11l s11c, .slice s12a s12l s12c, .slice s13a s13l s13c]) ∧ R (.returned (.tuple #[.agg #[.int .i64 x9, .int .i64 x10, .slice s11a s11l s11c, .slice s12a s12l s12c, .slice s13a s13l s13c], .int .i64 x7])) w8) else (if (decide ((x6 : Int) < ((b1l : Nat) : Int))) = true then ((.agg #[.int .i64 0, .int .i64 0, .slice none 0 0, .slice none 0 0, .slice none 0 0] : Value).cells.size = 5 ∧ wrOk w4 (⟨w.heap.size, 0, none⟩ : Addr) (.agg #[.int .i64 0, .int .i64 0, .slice none 0 0, .slice none 0 0, .slice none 0 0]) ∧ let w14 : World := wr w4 (⟨w.heap.size, 0, none⟩ : Addr) (.agg #[.int .i64 0, .int .i64 0, .slice none 0 0, .slice none 0 0, .slice none 0 0])
  ∃ x15 : Int, ∃ x16 : Int, ∃ s17a : Option Addr, ∃ s17l : Nat, ∃ s17c : Nat, ∃ s18a : Option Addr, ∃ s18l : Nat, ∃ s18c : Nat, ∃ s19a : Option Addr, ∃ s19l : Nat, ∃ s19c : Nat, rd w14 (⟨w.heap.size, 0, none⟩ : Addr) (.agg #[.int .i64 x15, .int .i64 x16, .slice s17a s17l s17c, .slice s18a s18l s18c, .slice s19a s19l s19c]) ∧ R (.returned (.tuple #[.agg #[.int .i64 x15, .int .i64 x16, .slice s17a s17l s17c, .slice s18a s18l s18c, .slice s19a s19l s19c], .int .i64 4])) w14) else (let w20 : World := w4.alloc (.cells #[.int .i64 0, .int .i64 0, .slice none 0 0, .slice none 0 0, .slice none 0 0] 29)
  Calls Try.prog 32 #[.slice s5a s5l s5c, .int .i64 0] w20 (ret (fun r21 w22 => ∃ x23 : Int, ∃ x24 : Int, ∃ x25 : Int, r21 = .tuple #[.int .i64 x23, .int .i64 x24, .int .i64 x25] ∧ (.int .i64 x23 : Value).cells.size = 1 ∧ wrOk w22 (⟨w4.heap.size, 0, none⟩ : Addr) (.int .i64 x23) ∧ let w26 : World := wr w22 (⟨w4.heap.size, 0, none⟩ : Addr) (.int .i64 x23)
  if ((x25 : Int) != 0) = true then ((.agg #[.int .i64 0, .int .i64 0, .slice none 0 0, .slice none 0 0, .slice none 0 0] : Value).cells.size = 5 ∧ wrOk w26 (⟨w.heap.size, 0, none⟩ : Addr) (.agg #[.int .i64 0, .int .i64 0, .slice none 0 0, .slice none 0 0, .slice none 0 0]) ∧ let w27 : World := wr w26 (⟨w.heap.size, 0, none⟩ : Addr) (.agg #[.int .i64 0, .int .i64 0, .slice none 0 0, .slice none 0 0, .slice none 0 0])
  ∃ x28 : Int, ∃ x29 : Int, ∃ s30a : Option Addr, ∃ s30l : Nat, ∃ s30c : Nat, ∃ s31a : Option Addr, ∃ s31l : Nat, ∃ s31c : Nat, ∃ s32a : Option Addr, ∃ s32l : Nat, ∃ s32c : Nat, rd w27 (⟨w.heap.size, 0, none⟩ : Addr) (.agg #[.int .i64 x28, .int .i64 x29, .slice s30a s30l s30c, .slice s31a s31l s31c, .slice s32a s32l s32c]) ∧ R (.returned (.tuple #[.agg #[.int .i64 x28, .int .i64 x29, .slice s30a s30l s30c, .slice s31a s31l s31c, .slice s32a s32l s32c], .int .i64 x25])) w27) else (Calls Try.prog 32 #[.slice s5a s5l s5c, .int .i64 x24] w26 (ret (fun r33 w34 => ∃ x35 : Int, ∃ x36 : Int, ∃ x37 : Int, r33 = .tuple #[.int .i64 x35, .int .i64 x36, .int .i64 x37] ∧ (.int .i64 x35 : Value).cells.size = 1 ∧ wrOk w34 ((⟨w4.heap.size, 0, none⟩ : Addr).add 1) (.int .i64 x35) ∧ let w38 : World := wr w34 ((⟨w4.heap.size, 0, none⟩ : Addr).add 1) (.int .i64 x35)
  if ((x37 : Int) != 0) = true then ((.agg #[.int .i64 0, .int .i64 0, .slice none 0 0, .slice none 0 0, .slice none 0 0] : Value).cells.size = 5 ∧ wrOk w38 (⟨w.heap.size, 0, none⟩ : Addr) (.agg #[.int .i64 0, .int .i64 0, .slice none 0 0, .slice none 0 0, .slice none 0 0]) ∧ let w39 : World := wr w38 (⟨w.heap.size, 0, none⟩ : Addr) (.agg #[.int .i64 0, .int .i64 0, .slice none 0 0, .slice none 0 0, .slice none 0 0])
  ∃ x40 : Int, ∃ x41 : Int, ∃ s42a : Option Addr, ∃ s42l : Nat, ∃ s42c : Nat, ∃ s43a : Option Addr, ∃ s43l : Nat, ∃ s43c : Nat, ∃ s44a : Option Addr, ∃ s44l : Nat, ∃ s44c : Nat, rd w39 (⟨w.heap.size, 0, none⟩ : Addr) (.agg #[.int .i64 x40, .int .i64 x41, .slice s42a s42l s42c, .slice s43a s43l s43c, .slice s44a s44l s44c]) ∧ R (.returned (.tuple #[.agg #[.int .i64 x40, .int .i64 x41, .slice s42a s42l s42c, .slice s43a s43l s43c, .slice s44a s44l s44c], .int .i64 x37])) w39) else (Calls Try.prog 33 #[.slice s5a s5l s5c, .int .i64 x36, .int .i64 (IntKind.wrap .i64 (((s5l : Nat) : Int) + 1099511627776))] w38 (ret (fun r45 w46 => ∃ s47a : Option Addr, ∃ s47l : Nat, ∃ s47c : Nat, ∃ x48 : Int, ∃ x49 : Int, r45 = .tuple #[.slice s47a s47l s47c, .int .i64 x48, .int .i64 x49] ∧ if ((x49 : Int) != 0) = true then ((.agg #[.int .i64 0, .int .i64 0, .slice none 0 0, .slice none 0 0, .slice none 0 0] : Value).cells.size = 5 ∧ wrOk w46 (⟨w.heap.size, 0, none⟩ : Addr) (.agg #[.int .i64 0, .int .i64 0, .slice none 0 0, .slice none 0 0, .slice none 0 0]) ∧ let w50 : World := wr w46 (⟨w.heap.size, 0, none⟩ : Addr) (.agg #[.int .i64 0, .int .i64 0, .slice none 0 0, .slice none 0 0, .slice none 0 0])
  ∃ x51 : Int, ∃ x52 : Int, ∃ s53a : Option Addr, ∃ s53l : Nat, ∃ s53c : Nat, ∃ s54a : Option Addr, ∃ s54l : Nat, ∃ s54c : Nat, ∃ s55a : Option Addr, ∃ s55l : Nat, ∃ s55c : Nat, rd w50 (⟨w.heap.size, 0, none⟩ : Addr) (.agg #[.int .i64 x51, .int .i64 x52, .slice s53a s53l s53c, .slice s54a s54l s54c, .slice s55a s55l s55c]) ∧ R (.returned (.tuple #[.agg #[.int .i64 x51, .int .i64 x52, .slice s53a s53l s53c, .slice s54a s54l s54c, .slice s55a s55l s55c], .int .i64 x49])) w50) else (Calls Try.prog 34 #[.slice s47a s47l s47c] w46 (ret (fun r56 w57 => ∃ s58a : Option Addr, ∃ s58l : Nat, ∃ s58c : Nat, ∃ s59a : Option Addr, ∃ s59l : Nat, ∃ s59c : Nat, ∃ x60 : Int, r56 = .tuple #[.agg #[.slice s58a s58l s58c, .slice s59a s59l s59c], .int .i64 x60] ∧ (.agg #[.slice s58a s58l s58c, .slice s59a s59l s59c] : Value).cells.size = 2 ∧ wrOk w57 ((⟨w4.heap.size, 0, none⟩ : Addr).add 2) (.agg #[.slice s58a s58l s58c, .slice s59a s59l s59c]) ∧ let w61 : World := wr w57 ((⟨w4.heap.size, 0, none⟩ : Addr).add 2) (.agg #[.slice s58a s58l s58c, .slice s59a s59l s59c])
  if ((x60 : Int) != 0) = true then ((.agg #[.int .i64 0, .int .i64 0, .slice none 0 0, .slice none 0 0, .slice none 0 0] : Value).cells.size = 5 ∧ wrOk w61 (⟨w.heap.size, 0, none⟩ : Addr) (.agg #[.int .i64 0, .int .i64 0, .slice none 0 0, .slice none 0 0, .slice none 0 0]) ∧ let w62 : World := wr w61 (⟨w.heap.size, 0, none⟩ : Addr) (.agg #[.int .i64 0, .int .i64 0, .slice none 0 0, .slice none 0 0, .slice none 0 0])
  ∃ x63 : Int, ∃ x64 : Int, ∃ s65a : Option Addr, ∃ s65l : Nat, ∃ s65c : Nat, ∃ s66a : Option Addr, ∃ s66l : Nat, ∃ s66c : Nat, ∃ s67a : Option Addr, ∃ s67l : Nat, ∃ s67c : Nat, rd w62 (⟨w.heap.size, 0, none⟩ : Addr) (.agg #[.int .i64 x63, .int .i64 x64, .slice s65a s65l s65c, .slice s66a s66l s66c, .slice s67a s67l s67c]) ∧ R (.returned (.tuple #[.agg #[.int .i64 x63, .int .i64 x64, .slice s65a s65l s65c, .slice s66a s66l s66c, .slice s67a s67l s67c], .int .i64 x60])) w62) else (Calls Try.prog 33 #[.slice s5a s5l s5c, .int .i64 x48, .int .i64 16384] w61 (ret (fun r68 w69 => ∃ s70a : Option Addr, ∃ s70l : Nat, ∃ s70c : Nat, ∃ x71 : Int, ∃ x72 : Int, r68 = .tuple #[.slice s70a s70l s70c, .int .i64 x71, .int .i64 x72] ∧ (.slice s70a s70l s70c : Value).cells.size = 1 ∧ wrOk w69 ((⟨w4.heap.size, 0, none⟩ : Addr).add 4) (.slice s70a s70l s70c) ∧ let w73 : World := wr w69 ((⟨w4.heap.size, 0, none⟩ : Addr).add 4) (.slice s70a s70l s70c)
  if ((x72 : Int) != 0) = true then ((.agg #[.int .i64 0, .int .i64 0, .slice none 0 0, .slice none 0 0, .slice none 0 0] : Value).cells.size = 5 ∧ wrOk w73 (⟨w.heap.size, 0, none⟩ : Addr) (.agg #[.int .i64 0, .int .i64 0, .slice none 0 0, .slice none 0 0, .slice none 0 0]) ∧ let w74 : World := wr w73 (⟨w.heap.size, 0, none⟩ : Addr) (.agg #[.int .i64 0, .int .i64 0, .slice none 0 0, .slice none 0 0, .slice none 0 0])
  ∃ x75 : Int, ∃ x76 : Int, ∃ s77a : Option Addr, ∃ s77l : Nat, ∃ s77c : Nat, ∃ s78a : Option Addr, ∃ s78l : Nat, ∃ s78c : Nat, ∃ s79a : Option Addr, ∃ s79l : Nat, ∃ s79c : Nat, rd w74 (⟨w.heap.size, 0, none⟩ : Addr) (.agg #[.int .i64 x75, .int .i64 x76, .slice s77a s77l s77c, .slice s78a s78l s78c, .slice s79a s79l s79c]) ∧ R (.returned (.tuple #[.agg #[.int .i64 x75, .int .i64 x76, .slice s77a s77l s77c, .slice s78a s78l s78c, .slice s79a s79l s79c], .int .i64 x72])) w74) else (if (decide ((x71 : Int) < ((s5l : Nat) : Int))) = true then ((.agg #[.int .i64 0, .int .i64 0, .slice none 0 0, .slice none 0 0, .slice none 0 0] : Value).cells.size = 5 ∧ wrOk w73 (⟨w.heap.size, 0, none⟩ : Addr) (.agg #[.int .i64 0, .int .i64 0, .slice none 0 0, .slice none 0 0, .slice none 0 0]) ∧ let w80 : World := wr w73 (⟨w.heap.size, 0, none⟩ : Addr) (.agg #[.int .i64 0, .int .i64 0, .slice none 0 0, .slice none 0 0, .slice none 0 0])
  ∃ x81 : Int, ∃ x82 : Int, ∃ s83a : Option Addr, ∃ s83l : Nat, ∃ s83c : Nat, ∃ s84a : Option Addr, ∃ s84l : Nat, ∃ s84c : Nat, ∃ s85a : Option Addr, ∃ s85l : Nat, ∃ s85c : Nat, rd w80 (⟨w.heap.size, 0, none⟩ : Addr) (.agg #[.int .i64 x81, .int .i64 x82, .slice s83a s83l s83c, .slice s84a s84l s84c, .slice s85a s85l s85c]) ∧ R (.returned (.tuple #[.agg #[.int .i64 x81, .int .i64 x82, .slice s83a s83l s83c, .slice s84a s84l s84c, .slice s85a s85l s85c], .int .i64 4])) w80) else (∃ x86 : Int, ∃ x87 : Int, ∃ s88a : Option Addr, ∃ s88l : Nat, ∃ s88c : Nat, ∃ s89a : Option Addr, ∃ s89l : Nat, ∃ s89c : Nat, ∃ s90a : Option Addr, ∃ s90l : Nat, ∃ s90c : Nat, rd w73 (⟨w4.heap.size, 0, none⟩ : Addr) (.agg #[.int .i64 x86, .int .i64 x87, .slice s88a s88l s88c, .slice s89a s89l s89c, .slice s90a s90l s90c]) ∧ (.agg #[.int .i64 x86, .int .i64 x87, .slice s88a s88l s88c, .slice s89a s89l s89c, .slice s90a s90l s90c] : Value).cells.size = 5 ∧ wrOk w73 (⟨w.heap.size, 0, none⟩ : Addr) (.agg #[.int .i64 x86, .int .i64 x87, .slice s88a s88l s88c, .slice s89a s89l s89c, .slice s90a s90l s90c]) ∧ let w91 : World := wr w73 (⟨w.heap.size, 0, none⟩ : Addr) (.agg #[.int .i64 x86, .int .i64 x87, .slice s88a s88l s88c, .slice s89a s89l s89c, .slice s90a s90l s90c])
  ∃ x92 : Int, ∃ x93 : Int, ∃ s94a : Option Addr, ∃ s94l : Nat, ∃ s94c : Nat, ∃ s95a : Option Addr, ∃ s95l : Nat, ∃ s95c : Nat, ∃ s96a : Option Addr, ∃ s96l : Nat, ∃ s96c : Nat, rd w91 (⟨w.heap.size, 0, none⟩ : Addr) (.agg #[.int .i64 x92, .int .i64 x93, .slice s94a s94l s94c, .slice s95a s95l s95c, .slice s96a s96l s96c]) ∧ R (.returned (.tuple #[.agg #[.int .i64 x92, .int .i64 x93, .slice s94a s94l s94c, .slice s95a s95l s95c, .slice s96a s96l s96c], .int .i64 0])) w91))) (pan R)))) (pan R)))) (pan R)))) (pan R)))) (pan R))))) (pan R))

theorem T_snap_Get_hl : allP (hokL Try.prog (hookAt []) (bodyOf Try.f10) 1) = (True) := by kernel_rfl

theorem T_snap_Get_eq (b1a : Option Addr) (b1l : Nat) (b1c : Nat) (w : World) (R : Ending → World → Prop) : vcCode Try.prog (hookAt []) (bodyOf Try.f10) 1 ⟨argEnv [.slice b1a b1l b1c] 0, Try.f10.ntmps, []⟩ w (finQ Try.prog Try.f10.results.toList R) = T_snap_Get b1a b1l b1c w R := by kernel_rfl

theorem T_snap_Get_b : Try.f10.body = some (bodyOf Try.f10) := by kernel_rfl
theorem T_snap_Get_s : (quietSel (bodyOf Try.f10) && Nat.ble 1 Try.f10.ntmps) = true := by kernel_rfl

theorem C_snap_Get {b1a : Option Addr} {b1l : Nat} {b1c : Nat} {w : World} {R : Ending → World → Prop} (h : T_snap_Get b1a b1l b1c w R) : Calls Try.prog 10 #[.slice b1a b1l b1c] w R :=
  calls_of_text (args := [.slice b1a b1l b1c]) mixed Try.func10 T_snap_Get_b T_snap_Get_s (HOk_of _ _ (by rw [T_snap_Get_hl]; exact trivial)) (by rw [T_snap_Get_eq]; exact h)

/-! tollgate/tollgateref07.add -/
/-! tollgate/tollgateref07.Same -/
def T_ref07_Same (x1 : Int) (x2 : Int) (s3a : Option Addr) (s3l : Nat) (s3c : Nat) (s4a : Option Addr) (s4l : Nat) (s4c : Nat) (s5a : Option Addr) (s5l : Nat) (s5c : Nat) (x6 : Int) (x7 : Int) (s8a : Option Addr) (s8l : Nat) (s8c : Nat) (s9a : Option Addr) (s9l : Nat) (s9c : Nat) (s10a : Option Addr) (s10l : Nat) (s10c : Nat) (w : World) (R : Ending → World → Prop) : Prop :=
  let w11 : World := w.alloc (.cells #[.int .i64 x1, .int .i64 x2, .slice s3a s3l s3c, .slice s4a s4l s4c, .slice s5a s5l s5c] 29)
  let w12 : World := w11.alloc (.cells #[.int .i64 x6, .int .i64 x7, .slice s8a s8l s8c, .slice s9a s9l s9c, .slice s10a s10l s10c] 29)
  ∃ x13 : Int, ∃ x14 : Int, rd w12 (⟨w.heap.size, 0, none⟩ : Addr) (.agg #[.int .i64 x13, .int .i64 x14]) ∧ ∃ x15 : Int, ∃ x16 : Int, rd w12 (⟨w11.heap.size, 0, none⟩ : Addr) (.agg #[.int .i64 x15, .int .i64 x16]) ∧ runV Try.prog (do eqGuard .eql 23 (.tmp 6) (.tmp 8) (.agg #[.int .i64 x13, .int .i64 x14]) (.agg #[.int .i64 x15, .int .i64 x16]); binOp .eql 23 (.agg #[.int .i64 x13, .int .i64 x14]) (.agg #[.int .i64 x15, .int .i64 x16])) w12 (fun r17 w18 => ∃ b19 : Bool, r17 = .bool b19 ∧ if b19 = true then (∃ s20a : Option Addr, ∃ s20l : Nat, ∃ s20c : Nat, ∃ s21a : Option Addr, ∃ s21l : Nat, ∃ s21c : Nat, rd w18 ((⟨w.heap.size, 0, none⟩ : Addr).add 2) (.agg #[.slice s20a s20l s20c, .slice s21a s21l s21c]) ∧ ∃ s22a : Option Addr, ∃ s22l : Nat, ∃ s22c : Nat, ∃ s23a : Option Addr, ∃ s23l : Nat, ∃ s23c : Nat, rd w18 ((⟨w11.heap.size, 0, none⟩ : Addr).add 2) (.agg #[.slice s22a s22l s22c, .slice s23a s23l s23c]) ∧ Calls Try.prog 35 #[.agg #[.slice s20a s20l s20c, .slice s21a s21l s21c], .agg #[.slice s22a s22l s22c, .slice s23a s23l s23c]] w18 (ret (fun r24 w25 => ∃ b26 : Bool, r24 = .bool b26 ∧ if b26 = true then (∃ s27a : Option Addr, ∃ s27l : Nat, ∃ s27c : Nat, rd w25 ((⟨w.heap.size, 0, none⟩ : Addr).add 4) (.slice s27a s27l s27c) ∧ runV Try.prog (convert 27 9 (.slice s27a s27l s27c)) w25 (fun r28 w29 => ∃ s30 : ByteArray, r28 = .string s30 ∧ ∃ s31a : Option Addr, ∃ s31l : Nat, ∃ s31c : Nat, rd w29 ((⟨w11.heap.size, 0, none⟩ : Addr).add 4) (.slice s31a s31l s31c) ∧ runV Try.prog (convert 27 9 (.slice s31a s31l s31c)) w29 (fun r32 w33 => ∃ s34 : ByteArray, r32 = .string s34 ∧ R (.returned (.bool (s30.toList == s34.toList))) w33) (pan R)) (pan R)) else (R (.returned (.bool false)) w25)) (pan R))) else (R (.returned (.bool false)) w18)) (pan R)

theorem T_ref07_Same_hl : allP (hokL Try.prog (hookAt []) (bodyOf Try.f11) 1) = (True) := by kernel_rfl

theorem T_ref07_Same_eq (x1 : Int) (x2 : Int) (s3a : Option Addr) (s3l : Nat) (s3c : Nat) (s4a : Option Addr) (s4l : Nat) (s4c : Nat) (s5a : Option Addr) (s5l : Nat) (s5c : Nat) (x6 : Int) (x7 : Int) (s8a : Option Addr) (s8l : Nat) (s8c : Nat) (s9a : Option Addr) (s9l : Nat) (s9c : Nat) (s10a : Option Addr) (s10l : Nat) (s10c : Nat) (w : World) (R : Ending → World → Prop) : vcCode Try.prog (hookAt []) (bodyOf Try.f11) 1 ⟨argEnv [.agg #[.int .i64 x1, .int .i64 x2, .slice s3a s3l s3c, .slice s4a s4l s4c, .slice s5a s5l s5c], .agg #[.int .i64 x6, .int .i64 x7, .slice s8a s8l s8c, .slice s9a s9l s9c, .slice s10a s10l s10c]] 0, Try.f11.ntmps, []⟩ w (finQ Try.prog Try.f11.results.toList R) = T_ref07_Same x1 x2 s3a s3l s3c s4a s4l s4c s5a s5l s5c x6 x7 s8a s8l s8c s9a s9l s9c s10a s10l s10c w R := by kernel_rfl

theorem T_ref07_Same_b : Try.f11.body = some (bodyOf Try.f11) := by kernel_rfl
theorem T_ref07_Same_s : (quietSel (bodyOf Try.f11) && Nat.ble 2 Try.f11.ntmps) = true := by kernel_rfl

theorem C_ref07_Same {x1 : Int} {x2 : Int} {s3a : Option Addr} {s3l : Nat} {s3c : Nat} {s4a : Option Addr} {s4l : Nat} {s4c : Nat} {s5a : Option Addr} {s5l : Nat} {s5c : Nat} {x6 : Int} {x7 : Int} {s8a : Option Addr} {s8l : Nat} {s8c : Nat} {s9a : Option Addr} {s9l : Nat} {s9c : Nat} {s10a : Option Addr} {s10l : Nat} {s10c : Nat} {w : World} {R : Ending → World → Prop} (h : T_ref07_Same x1 x2 s3a s3l s3c s4a s4l s4c s5a s5l s5c x6 x7 s8a s8l s8c s9a s9l s9c s10a s10l s10c w R) : Calls Try.prog 11 #[.agg #[.int .i64 x1, .int .i64 x2, .slice s3a s3l s3c, .slice s4a s4l s4c, .slice s5a s5l s5c], .agg #[.int .i64 x6, .int .i64 x7, .slice s8a s8l s8c, .slice s9a s9l s9c, .slice s10a s10l s10c]] w R :=
  calls_of_text (args := [.agg #[.int .i64 x1, .int .i64 x2, .slice s3a s3l s3c, .slice s4a s4l s4c, .slice s5a s5l s5c], .agg #[.int .i64 x6, .int .i64 x7, .slice s8a s8l s8c, .slice s9a s9l s9c, .slice s10a s10l s10c]]) mixed Try.func11 T_ref07_Same_b T_ref07_Same_s (HOk_of _ _ (by rw [T_ref07_Same_hl]; exact trivial)) (by rw [T_ref07_Same_eq]; exact h)

/-! tollgate/tollgatelaw07.of -/
def T_law07_of (index1 : Int) (w : World) (R : Ending → World → Prop) : Prop :=
  let w2 : World := w.alloc (.cells #[.int .i64 0, .int .i64 0, .slice none 0 0, .slice none 0 0, .slice none 0 0] 29)
  let w3 : World := w2.alloc (.cells #[.int .i64 1] 3)
  let w4 : World := w3.alloc (.cells #[.int .u8 120] 5)
  runV Try.prog (convert 27 27 (.slice (some (⟨w3.heap.size, 0, none⟩ : Addr)) 1 1)) w4 (fun r5 w6 => ∃ s7a : Option Addr, ∃ s7l : Nat, ∃ s7c : Nat, r5 = .slice s7a s7l s7c ∧ (.agg #[.int .i64 index1, .int .i64 1, .slice (some (⟨w2.heap.size, 0, none⟩ : Addr)) 1 1, .slice none 0 0, .slice s7a s7l s7c] : Value).cells.size = 5 ∧ wrOk w6 (⟨w.heap.size, 0, none⟩ : Addr) (.agg #[.int .i64 index1, .int .i64 1, .slice (some (⟨w2.heap.size, 0, none⟩ : Addr)) 1 1, .slice none 0 0, .slice s7a s7l s7c]) ∧ let w8 : World := wr w6 (⟨w.heap.size, 0, none⟩ : Addr) (.agg #[.int .i64 index1, .int .i64 1, .slice (some (⟨w2.heap.size, 0, none⟩ : Addr)) 1 1, .slice none 0 0, .slice s7a s7l s7c])
  ∃ x9 : Int, ∃ x10 : Int, ∃ s11a : Option Addr, ∃ s11l : Nat, ∃ s11c : Nat, ∃ s12a : Option Addr, ∃ s12l : Nat, ∃ s12c : Nat, ∃ s13a : Option Addr, ∃ s13l : Nat, ∃ s13c : Nat, rd w8 (⟨w.heap.size, 0, none⟩ : Addr) (.agg #[.int .i64 x9, .int .i64 x10, .slice s11a s11l s11c, .slice s12a s12l s12c, .slice s13a s13l s13c]) ∧ R (.returned (.agg #[.int .i64 x9, .int .i64 x10, .slice s11a s11l s11c, .slice s12a s12l s12c, .slice s13a s13l s13c])) w8) (pan R)

theorem T_law07_of_hl : allP (hokL Try.prog (hookAt []) (bodyOf Try.f24) 1) = (True) := by kernel_rfl

theorem T_law07_of_eq (index1 : Int) (w : World) (R : Ending → World → Prop) : vcCode Try.prog (hookAt []) (bodyOf Try.f24) 1 ⟨argEnv [.int .i64 index1] 0, Try.f24.ntmps, []⟩ w (finQ Try.prog Try.f24.results.toList R) = T_law07_of index1 w R := by kernel_rfl

theorem T_law07_of_b : Try.f24.body = some (bodyOf Try.f24) := by kernel_rfl
theorem T_law07_of_s : (quietSel (bodyOf Try.f24) && Nat.ble 1 Try.f24.ntmps) = true := by kernel_rfl

theorem C_law07_of {index1 : Int} {w : World} {R : Ending → World → Prop} (h : T_law07_of index1 w R) : Calls Try.prog 24 #[.int .i64 index1] w R :=
  calls_of_text (args := [.int .i64 index1]) mixed Try.func24 T_law07_of_b T_law07_of_s (HOk_of _ _ (by rw [T_law07_of_hl]; exact trivial)) (by rw [T_law07_of_eq]; exact h)

end Go.Proofs.Ytclinifclfahfaa
