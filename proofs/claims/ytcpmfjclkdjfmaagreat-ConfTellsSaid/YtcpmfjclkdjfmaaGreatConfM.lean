/-
  Commands and configurations as plain lists: which may be, their bytes, and how bytes are read. No program in sight.
-/
namespace Go.Cm
abbrev Bs := List UInt8
structure Tgt where
  addr : Bs
  w : Nat
deriving DecidableEq
structure Cmd where
  act : Int
  client : Int
  seq : Int
  expect : Int
  host : Bs
  pfx : Bs
  pool : Bs
  tg : List Tgt
deriving DecidableEq
structure Rt where
  host : Bs
  pfx : Bs
  pool : Bs
deriving DecidableEq
structure Pl where
  name : Bs
  tg : List Tgt
deriving DecidableEq
structure Last where
  client : Int
  seq : Int
  e : Int
  ver : Int
deriving DecidableEq
structure Sm where
  ver : Int
  routes : List Rt
  pools : List Pl
  l : List Last
deriving DecidableEq

/-! ### which may be -/
def small (c : UInt8) : Bool := decide (97 ≤ c.toNat ∧ c.toNat ≤ 122) || decide (48 ≤ c.toNat ∧ c.toNat ≤ 57) || decide (c.toNat = 45)
def isName (s : Bs) : Bool := decide (1 ≤ s.length ∧ s.length ≤ 64) && s.all small
/-- point: was the last one a point (or is there none yet)? -/
def hostRun : Bool → Bs → Bool
  | p, [] => !p
  | p, c :: r => (small c || (decide (c.toNat = 46) && !p)) && hostRun (decide (c.toNat = 46)) r
def isHost (s : Bs) : Bool := decide (1 ≤ s.length ∧ s.length ≤ 64) && hostRun true s
def seen (c : UInt8) : Bool := decide (33 ≤ c.toNat ∧ c.toNat ≤ 126)
def pfxB (c : UInt8) : Bool := seen c && !decide (c.toNat = 63) && !decide (c.toNat = 35)
def isPfx (s : Bs) : Bool := decide (1 ≤ s.length ∧ s.length ≤ 128) && s.all pfxB && decide (s.head? = some 47)
def isAddr (s : Bs) : Bool := decide (1 ≤ s.length ∧ s.length ≤ 64) && s.all seen
def isW (w : Nat) : Bool := decide (w < 9218868437227405312)
def chkT (l : List Tgt) : Int :=
  if !l.all (fun t => isAddr t.addr) then 14 else if !l.all (fun t => isW t.w) then 15 else if 16 < l.length then 6 else 0
def usesPool (a : Int) : Bool := decide (a = 1) || decide (a = 2) || decide (a = 3)
def usesRoute (a : Int) : Bool := decide (a = 3) || decide (a = 4)
def seqOk (c : Cmd) : Bool := if c.client = 0 then decide (c.seq = 0) else decide (1 ≤ c.seq ∧ c.seq ≤ 1099511627776)
def argBad (c : Cmd) : Bool :=
  (!usesPool c.act && !usesRoute c.act) || decide (c.client < 0) || decide (32 < c.client) || !seqOk c || decide (c.expect < -1) || decide (1099511627776 ≤ c.expect) ||
  (!usesPool c.act && decide (c.pool ≠ [])) || (!usesRoute c.act && (decide (c.host ≠ []) || decide (c.pfx ≠ []))) || (decide (c.act ≠ 1) && decide (0 < c.tg.length))
def nameBad (c : Cmd) : Bool := (usesPool c.act && !isName c.pool) || (usesRoute c.act && (!isHost c.host || !isPfx c.pfx))
def chk (c : Cmd) : Int := if argBad c then 2 else if nameBad c then 14 else chkT c.tg

/-! ### bytes -/
def encNF : Nat → Nat → Bs
  | 0, n => [UInt8.ofNat n]
  | k + 1, n => if n < 128 then [UInt8.ofNat n] else UInt8.ofNat (n % 128 + 128) :: encNF k (n / 128)
def num (n : Int) : Bs := if n < 0 ∨ 1099511627776 < n then [] else encNF 5 n.toNat
def text (s : Bs) : Bs := num s.length ++ s
def f64 (w : Nat) : Bs := [UInt8.ofNat (w / 2 ^ 56), UInt8.ofNat (w / 2 ^ 48), UInt8.ofNat (w / 2 ^ 40), UInt8.ofNat (w / 2 ^ 32), UInt8.ofNat (w / 2 ^ 24), UInt8.ofNat (w / 2 ^ 16), UInt8.ofNat (w / 2 ^ 8), UInt8.ofNat w]
def tgt (t : Tgt) : Bs := text t.addr ++ f64 t.w
def tgs (l : List Tgt) : Bs := num l.length ++ l.flatMap tgt
def putC (c : Cmd) : Bs := num c.act ++ (num c.client ++ (num c.seq ++ (num (c.expect + 1) ++ (text c.host ++ (text c.pfx ++ (text c.pool ++ tgs c.tg))))))
def plB (p : Pl) : Bs := text p.name ++ tgs p.tg
def rtB (r : Rt) : Bs := text r.host ++ (text r.pfx ++ text r.pool)
def laB (x : Last) : Bs := num x.client ++ (num x.seq ++ (num x.e ++ num x.ver))
def confB (pools : List Pl) (routes : List Rt) : Bs := num pools.length ++ (pools.flatMap plB ++ (num routes.length ++ routes.flatMap rtB))
def putS (s : Sm) : Bs := num s.ver ++ (confB s.pools s.routes ++ (num s.l.length ++ s.l.flatMap laB))

/-! ### reading -/
abbrev Ps := Except Int Bs
def takeGo (k n : Nat) : Bs → Except Int (Nat × Bs)
  | [] => .error 3
  | c :: r => if 128 ≤ c.toNat then (if k = 5 then .error 6 else takeGo (k + 1) (n + c.toNat % 128 * 128 ^ k) r)
    else if c.toNat = 0 ∧ 0 < k then .error 4 else if 1099511627776 < n + c.toNat % 128 * 128 ^ k then .error 6 else .ok (n + c.toNat % 128 * 128 ^ k, r)
def rNum (most : Nat) : Ps → Nat × Ps
  | .error e => (0, .error e)
  | .ok r => match takeGo 0 0 r with
    | .error e => (0, .error e)
    | .ok (n, r') => if most < n then (0, .error 6) else (n, .ok r')
def rRow (n : Nat) : Ps → Bs × Ps
  | .error e => ([], .error e)
  | .ok r => if r.length < n then ([], .error 3) else (r.take n, .ok (r.drop n))
def rText (s : Ps) : Bs × Ps := rRow (rNum 128 s).1 (rNum 128 s).2
def bits (l : Bs) : Nat := l.foldl (fun n c => n * 256 + c.toNat) 0
def bad : Ps → Bool
  | .error _ => true
  | .ok _ => false
/-- n times, up to the first fault. -/
def rMany {α : Type} (f : Ps → α × Ps) : Nat → Ps → List α × Ps
  | 0, s => ([], s)
  | n + 1, s => if bad s then ([], s) else ((f s).1 :: (rMany f n (f s).2).1, (rMany f n (f s).2).2)
def rTgt (s : Ps) : Tgt × Ps := (⟨(rText s).1, bits (rRow 8 (rText s).2).1⟩, (rRow 8 (rText s).2).2)
def rTgs (s : Ps) : List Tgt × Ps := rMany rTgt (rNum 16 s).1 (rNum 16 s).2
def maxN : Nat := 1099511627776
def rCmd (b : Bs) : Cmd × Ps :=
  let a := rNum maxN (.ok b)
  let c := rNum maxN a.2
  let q := rNum maxN c.2
  let x := rNum maxN q.2
  let h := rText x.2
  let p := rText h.2
  let o := rText p.2
  let t := rTgs o.2
  (⟨a.1, c.1, q.1, (x.1 : Int) - 1, h.1, p.1, o.1, t.1⟩, t.2)
def getC (b : Bs) : Except Int Cmd :=
  match (rCmd b).2 with
  | .error e => .error e
  | .ok r => if r ≠ [] ∨ chk (rCmd b).1 ≠ 0 then .error 4 else .ok (rCmd b).1
def rPl (s : Ps) : Pl × Ps := (⟨(rText s).1, (rTgs (rText s).2).1⟩, (rTgs (rText s).2).2)
def rRt (s : Ps) : Rt × Ps := (⟨(rText s).1, (rText (rText s).2).1, (rText (rText (rText s).2).2).1⟩, (rText (rText (rText s).2).2).2)
def rLa (s : Ps) : Last × Ps :=
  let k := rNum maxN s
  let q := rNum maxN k.2
  let e := rNum maxN q.2
  let v := rNum maxN e.2
  (⟨k.1, q.1, e.1, v.1⟩, v.2)
def rSm (b : Bs) : Sm × Ps :=
  let v := rNum maxN (.ok b)
  let n := rNum 32 v.2
  let p := rMany rPl n.1 n.2
  let m := rNum 64 p.2
  let r := rMany rRt m.1 m.2
  let k := rNum 32 r.2
  let l := rMany rLa k.1 k.2
  (⟨v.1, r.1, p.1, l.1⟩, l.2)
def rtLt (a b : Rt) : Bool := decide (a.host < b.host) || (decide (a.host = b.host) && decide (a.pfx < b.pfx))
/-- Each one ahead of the next. -/
def rises {α : Type} (lt : α → α → Bool) : List α → Bool
  | [] => true
  | [_] => true
  | a :: b :: r => lt a b && rises lt (b :: r)
def told (e : Int) : Bool := decide (e = 0) || decide (e = 6) || decide (e = 8) || decide (e = 12) || decide (e = 13)
def rightL (v : Int) (x : Last) : Bool := decide (1 ≤ x.client ∧ x.client ≤ 32) && decide (1 ≤ x.seq) && told x.e && decide (x.ver ≤ v)
def right (s : Sm) : Bool :=
  (s.pools.all (fun p => isName p.name && decide (chkT p.tg = 0)) && rises (fun a b => decide (a.name < b.name)) s.pools) &&
  (s.routes.all (fun r => s.pools.any (fun p => decide (p.name = r.pool)) && isHost r.host && isPfx r.pfx) && rises rtLt s.routes) &&
  (s.l.all (rightL s.ver) && rises (fun a b => decide (a.client < b.client)) s.l) && decide ((confB s.pools s.routes).length ≤ 12000)
def load (b : Bs) : Except Int Sm :=
  match (rSm b).2 with
  | .error e => .error e
  | .ok r => if r ≠ [] ∨ right (rSm b).1 = false then .error 4 else .ok (rSm b).1

/-! ### what is put is got, and the other way round -/
theorem toNat_of (n : Nat) (h : n < 256) : (UInt8.ofNat n).toNat = n := by simp; omega
theorem take_enc : ∀ (j k acc m : Nat) (r : Bs), m < 128 ^ (j + 1) → k + j ≤ 5 → (0 < m ∨ k = 0) → acc + m * 128 ^ k ≤ 1099511627776 → takeGo k acc (encNF j m ++ r) = .ok (acc + m * 128 ^ k, r)
  | 0, k, acc, m, r, h1, _, h3, h4 => by
    have hm : m < 128 := by simpa using h1
    have e : (UInt8.ofNat m).toNat = m := toNat_of m (by omega)
    simp only [encNF, List.cons_append, List.nil_append, takeGo, e]
    rw [if_neg (by omega), if_neg (by omega), Nat.mod_eq_of_lt hm, if_neg (by omega)]
  | j + 1, k, acc, m, r, h1, h2, h3, h4 => by
    unfold encNF
    by_cases hm : m < 128
    · have e : (UInt8.ofNat m).toNat = m := toNat_of m (by omega)
      rw [if_pos hm]
      simp only [List.cons_append, List.nil_append, takeGo, e]
      rw [if_neg (by omega), if_neg (by omega), Nat.mod_eq_of_lt hm, if_neg (by omega)]
    · have e : (UInt8.ofNat (m % 128 + 128)).toNat = m % 128 + 128 := toNat_of _ (by omega)
      rw [if_neg hm]
      simp only [List.cons_append, takeGo, e]
      rw [if_pos (by omega), if_neg (by omega)]
      have e2 : (m % 128 + 128) % 128 = m % 128 := by omega
      have e3 : m / 128 * 128 ^ (k + 1) = 128 * (m / 128) * 128 ^ k := by rw [Nat.pow_succ]; simp only [Nat.mul_assoc, Nat.mul_comm, Nat.mul_left_comm]
      have e4 : m * 128 ^ k = m % 128 * 128 ^ k + 128 * (m / 128) * 128 ^ k := by rw [← Nat.add_mul, Nat.mod_add_div]
      rw [e2, take_enc j (k + 1) (acc + m % 128 * 128 ^ k) (m / 128) r (by rw [Nat.div_lt_iff_lt_mul (by decide)]; rwa [Nat.pow_succ] at h1) (by omega) (.inl (by omega)) (by rw [e3]; omega), e3, Nat.add_assoc, ← e4]
theorem enc_take : ∀ (b : Bs) (k acc n : Nat) (r : Bs), k ≤ 5 → takeGo k acc b = .ok (n, r) → ∃ m, b = encNF (5 - k) m ++ r ∧ n = acc + m * 128 ^ k ∧ m < 128 ^ (6 - k) ∧ (0 < m ∨ k = 0) ∧ n ≤ 1099511627776
  | [], _, _, _, _, _, h => by simp [takeGo] at h
  | c :: b, k, acc, n, r, hk, h => by
    unfold takeGo at h
    split at h
    · rename_i hc
      split at h
      · cases h
      · rename_i hk5
        obtain ⟨m, rfl, rfl, h3, h4, h5⟩ := enc_take b (k + 1) _ n r (by omega) h
        have hlt := c.toNat_lt
        have hm : 0 < m := by omega
        refine ⟨c.toNat % 128 + 128 * m, ?_, ?_, ?_, .inl (by omega), h5⟩
        · rw [show 5 - k = 5 - (k + 1) + 1 from by omega]
          conv => rhs; unfold encNF
          rw [if_neg (by omega), show (c.toNat % 128 + 128 * m) % 128 + 128 = c.toNat from by omega, show (c.toNat % 128 + 128 * m) / 128 = m from by omega]
          simp
        · rw [Nat.add_mul, Nat.pow_succ]
          simp only [Nat.mul_assoc, Nat.mul_comm, Nat.add_assoc]
        · rw [show 6 - k = 6 - (k + 1) + 1 from by omega, Nat.pow_succ]
          have := h3; omega
    · rename_i hc
      split at h
      · cases h
      · rename_i h0
        split at h
        · cases h
        · rename_i hn
          injection h with h
          injection h with h1 h2
          subst h1; subst h2
          have e : c.toNat % 128 = c.toNat := Nat.mod_eq_of_lt (by omega)
          refine ⟨c.toNat, ?_, by rw [e], ?_, by omega, by omega⟩
          · have : encNF (5 - k) c.toNat = [UInt8.ofNat c.toNat] := by
              cases 5 - k with
              | zero => rfl
              | succ j => unfold encNF; rw [if_pos (by omega)]
            rw [this]; simp
          · have : 128 ^ 1 ≤ 128 ^ (6 - k) := Nat.pow_le_pow_right (by decide) (by omega)
            omega
theorem rNum_put {most n : Nat} (h : n ≤ most) (h2 : n ≤ 1099511627776) (r : Bs) : rNum most (.ok (num n ++ r)) = (n, .ok r) := by
  have := take_enc 5 0 0 n r (by omega) (by omega) (.inr rfl) (by omega)
  simp only [rNum, num]
  rw [if_neg (by omega), Int.toNat_natCast, this]
  simp only [Nat.zero_add, Nat.pow_zero, Nat.mul_one]
  rw [if_neg (by omega)]
theorem rNum_got {most n : Nat} {s : Ps} {r : Bs} (h : rNum most s = (n, .ok r)) : s = .ok (num n ++ r) ∧ n ≤ most ∧ n ≤ 1099511627776 := by
  cases s with
  | error e => simp [rNum] at h
  | ok b =>
    simp only [rNum] at h
    split at h
    · simp at h
    · rename_i n' r' ht
      split at h
      · simp at h
      · simp only [Prod.mk.injEq, Except.ok.injEq] at h
        obtain ⟨rfl, rfl⟩ := h
        obtain ⟨m, rfl, rfl, h3, h4, h5⟩ := enc_take b 0 0 _ _ (by omega) ht
        simp only [Nat.zero_add, Nat.pow_zero, Nat.mul_one] at *
        exact ⟨by simp only [num]; rw [if_neg (by omega), Int.toNat_natCast], by omega, h5⟩
theorem rText_put {s : Bs} (h : s.length ≤ 128) (r : Bs) : rText (.ok (text s ++ r)) = (s, .ok r) := by
  simp only [rText, text, List.append_assoc]
  rw [rNum_put h (by omega)]
  simp [rRow]
theorem rRow_got {n : Nat} {s : Ps} {x r : Bs} (h : rRow n s = (x, .ok r)) : s = .ok (x ++ r) ∧ x.length = n := by
  cases s with
  | error e => simp [rRow] at h
  | ok b =>
    simp only [rRow] at h
    split at h
    · simp at h
    · simp only [Prod.mk.injEq, Except.ok.injEq] at h
      obtain ⟨rfl, rfl⟩ := h
      exact ⟨by rw [List.take_append_drop], by rw [List.length_take]; omega⟩
theorem rText_got {s : Ps} {x r : Bs} (h : rText s = (x, .ok r)) : s = .ok (text x ++ r) ∧ x.length ≤ 128 := by
  unfold rText at h
  obtain ⟨h1, h2⟩ := rRow_got h
  obtain ⟨h3, h4, _⟩ := rNum_got (n := (rNum 128 s).1) (r := x ++ r) (Prod.ext rfl h1)
  refine ⟨by rw [h3, text, h2, List.append_assoc], by omega⟩
theorem bits8 (a b c d e f g h : UInt8) : f64 (bits [a, b, c, d, e, f, g, h]) = [a, b, c, d, e, f, g, h] := by
  have ha := a.toNat_lt; have hb := b.toNat_lt; have hc := c.toNat_lt; have hd := d.toNat_lt
  have he := e.toNat_lt; have hf := f.toNat_lt; have hg := g.toNat_lt; have hh := h.toNat_lt
  have q : ∀ (x : UInt8) (n : Nat), n % 256 = x.toNat → UInt8.ofNat n = x := fun x n hn => by
    apply UInt8.toNat_inj.1; simpa using hn
  simp only [bits, List.foldl_cons, List.foldl_nil, f64, List.cons.injEq, and_true]
  refine ⟨q _ _ ?_, q _ _ ?_, q _ _ ?_, q _ _ ?_, q _ _ ?_, q _ _ ?_, q _ _ ?_, q _ _ ?_⟩ <;> omega
theorem f64_bits {l : Bs} (h : l.length = 8) : f64 (bits l) = l := by
  match l, h with
  | [a, b, c, d, e, f, g, i], _ => exact bits8 a b c d e f g i
theorem bits_f64 {w : Nat} (h : w < 2 ^ 64) : bits (f64 w) = w := by
  have q : ∀ n : Nat, (UInt8.ofNat n).toNat = n % 256 := fun n => by simp
  simp only [bits, f64, List.foldl_cons, List.foldl_nil, q]
  omega
theorem bits_lt {l : Bs} (h : l.length = 8) : bits l < 2 ^ 64 := by
  match l, h with
  | [a, b, c, d, e, f, g, i], _ =>
    have ha := a.toNat_lt; have hb := b.toNat_lt; have hc := c.toNat_lt; have hd := d.toNat_lt
    have he := e.toNat_lt; have hf := f.toNat_lt; have hg := g.toNat_lt; have hh := i.toNat_lt
    simp only [bits, List.foldl_cons, List.foldl_nil]; omega
theorem f64_len (w : Nat) : (f64 w).length = 8 := rfl
theorem rTgt_put {t : Tgt} (h : t.addr.length ≤ 128) (hw : t.w < 2 ^ 64) (r : Bs) : rTgt (.ok (tgt t ++ r)) = (t, .ok r) := by
  have e1 := rText_put h (f64 t.w ++ r)
  unfold rTgt tgt
  rw [List.append_assoc, e1]
  have e2 : rRow 8 (.ok (f64 t.w ++ r)) = (f64 t.w, .ok r) := by
    unfold rRow
    simp only []
    rw [if_neg (by rw [List.length_append, f64_len]; omega), show (f64 t.w ++ r).take 8 = f64 t.w from List.take_left' (f64_len _), show (f64 t.w ++ r).drop 8 = r from List.drop_left' (f64_len _)]
  simp only [e2, bits_f64 hw]
theorem rTgt_got {s : Ps} {t : Tgt} {r : Bs} (h : rTgt s = (t, .ok r)) : s = .ok (tgt t ++ r) ∧ t.addr.length ≤ 128 ∧ t.w < 2 ^ 64 := by
  simp only [rTgt, Prod.mk.injEq] at h
  obtain ⟨rfl, h2⟩ := h
  obtain ⟨h3, h4⟩ := rRow_got (x := (rRow 8 (rText s).2).1) (r := r) (Prod.ext rfl h2)
  obtain ⟨h5, h6⟩ := rText_got (s := s) (x := (rText s).1) (r := (rRow 8 (rText s).2).1 ++ r) (Prod.ext rfl h3)
  exact ⟨h5.trans (by simp only [tgt]; rw [f64_bits h4, List.append_assoc]), h6, bits_lt h4⟩
theorem rMany_put {α : Type} {f : Ps → α × Ps} {g : α → Bs} : ∀ (l : List α) (r : Bs), (∀ a ∈ l, ∀ r, f (.ok (g a ++ r)) = (a, .ok r)) → rMany f l.length (.ok (l.flatMap g ++ r)) = (l, .ok r)
  | [], r, _ => rfl
  | a :: l, r, h => by
    have e := h a List.mem_cons_self (l.flatMap g ++ r)
    have ih := rMany_put (f := f) (g := g) l r fun b hb => h b (List.mem_cons_of_mem _ hb)
    simp only [List.length_cons, rMany, List.flatMap_cons, List.append_assoc, e, ih]
    rw [if_neg (by simp [bad])]
theorem rMany_got {α : Type} {f : Ps → α × Ps} {g : α → Bs} {good : α → Prop} (hf : ∀ s a r, f s = (a, .ok r) → s = .ok (g a ++ r) ∧ good a) :
    ∀ (n : Nat) (s : Ps) (l : List α) (r : Bs), rMany f n s = (l, .ok r) → s = .ok (l.flatMap g ++ r) ∧ l.length = n ∧ ∀ a ∈ l, good a
  | 0, s, l, r, h => by
    simp only [rMany, Prod.mk.injEq] at h
    obtain ⟨rfl, rfl⟩ := h
    exact ⟨rfl, rfl, fun a ha => by cases ha⟩
  | n + 1, s, l, r, h => by
    unfold rMany at h
    split at h
    · rename_i hb
      simp only [Prod.mk.injEq] at h
      obtain ⟨rfl, rfl⟩ := h
      simp [bad] at hb
    · simp only [Prod.mk.injEq] at h
      obtain ⟨rfl, h2⟩ := h
      obtain ⟨h3, h4, h5⟩ := rMany_got hf n (f s).2 (rMany f n (f s).2).1 r (Prod.ext rfl h2)
      obtain ⟨h6, h7⟩ := hf s (f s).1 _ (Prod.ext rfl h3)
      refine ⟨h6.trans (by simp), by simp [h4], fun a ha => ?_⟩
      rcases List.mem_cons.1 ha with rfl | ha
      · exact h7
      · exact h5 a ha
def goodT (t : Tgt) : Prop := t.addr.length ≤ 128 ∧ t.w < 2 ^ 64
theorem rTgs_put {l : List Tgt} (h : ∀ t ∈ l, goodT t) (hl : l.length ≤ 16) (r : Bs) : rTgs (.ok (tgs l ++ r)) = (l, .ok r) := by
  unfold rTgs tgs
  rw [List.append_assoc, rNum_put hl (by omega)]
  exact rMany_put l r fun t ht r => rTgt_put (h t ht).1 (h t ht).2 r
theorem rTgs_got {s : Ps} {l : List Tgt} {r : Bs} (h : rTgs s = (l, .ok r)) : s = .ok (tgs l ++ r) ∧ (∀ t ∈ l, goodT t) ∧ l.length ≤ 16 := by
  obtain ⟨h1, h2, h3⟩ := rMany_got (g := tgt) (good := goodT) (fun s a r h => rTgt_got h) _ _ _ _ h
  obtain ⟨h4, h5, _⟩ := rNum_got (n := (rNum 16 s).1) (Prod.ext rfl h1)
  exact ⟨h4.trans (by rw [tgs, h2, List.append_assoc]), h3, by omega⟩
theorem got_of {α : Type} {p : α × Ps} {r : Bs} (h : p.2 = .ok r) : p = (p.1, .ok r) := Prod.ext rfl h
/-! ### the checks' own bounds -/
theorem chk_zero {c : Cmd} (h : chk c = 0) : argBad c = false ∧ nameBad c = false ∧ chkT c.tg = 0 := by
  unfold chk at h
  cases h1 : argBad c <;> cases h2 : nameBad c <;> simp_all
theorem chkT_zero {l : List Tgt} (h : chkT l = 0) : (∀ t ∈ l, isAddr t.addr = true ∧ isW t.w = true) ∧ l.length ≤ 16 := by
  unfold chkT at h
  cases h1 : l.all (fun t => isAddr t.addr) <;> cases h2 : l.all (fun t => isW t.w) <;> simp [h1, h2] at h
  refine ⟨fun t ht => ⟨?_, ?_⟩, by omega⟩
  · exact List.all_eq_true.1 h1 t ht
  · exact List.all_eq_true.1 h2 t ht
theorem chkT_good {l : List Tgt} (h : chkT l = 0) : ∀ t ∈ l, goodT t := fun t ht => by
  obtain ⟨h1, h2⟩ := (chkT_zero h).1 t ht
  simp only [isAddr, Bool.and_eq_true, decide_eq_true_eq] at h1
  simp only [isW, decide_eq_true_eq] at h2
  exact ⟨by omega, by omega⟩
theorem name_len {s : Bs} (h : isName s = true) : 1 ≤ s.length ∧ s.length ≤ 64 := by
  simp only [isName, Bool.and_eq_true, decide_eq_true_eq] at h; exact h.1
theorem host_len {s : Bs} (h : isHost s = true) : 1 ≤ s.length ∧ s.length ≤ 64 := by
  simp only [isHost, Bool.and_eq_true, decide_eq_true_eq] at h; exact h.1
theorem pfx_len {s : Bs} (h : isPfx s = true) : 1 ≤ s.length ∧ s.length ≤ 128 := by
  simp only [isPfx, Bool.and_eq_true, decide_eq_true_eq] at h; exact h.1.1
structure Fine (c : Cmd) : Prop where
  a : 1 ≤ c.act ∧ c.act ≤ 4
  cl : 0 ≤ c.client ∧ c.client ≤ 32
  sq : 0 ≤ c.seq ∧ c.seq ≤ 1099511627776
  ex : -1 ≤ c.expect ∧ c.expect < 1099511627776
  h : c.host.length ≤ 64
  p : c.pfx.length ≤ 128
  o : c.pool.length ≤ 64
  t : chkT c.tg = 0
theorem chk_fine {c : Cmd} (h : chk c = 0) : Fine c := by
  obtain ⟨h1, h2, h3⟩ := chk_zero h
  simp only [argBad, Bool.or_eq_false_iff] at h1
  obtain ⟨⟨⟨⟨⟨⟨⟨⟨a1, a2⟩, a3⟩, a4⟩, a5⟩, a6⟩, a7⟩, a8⟩, a9⟩ := h1
  simp only [decide_eq_false_iff_not] at a2 a3 a5 a6
  have ha : 1 ≤ c.act ∧ c.act ≤ 4 := by
    simp [usesPool, usesRoute] at a1
    omega
  have hs : 0 ≤ c.seq ∧ c.seq ≤ 1099511627776 := by
    simp only [seqOk, Bool.not_eq_false'] at a4
    split at a4 <;> simp at a4 <;> omega
  simp only [nameBad, Bool.or_eq_false_iff] at h2
  have hp : c.pool.length ≤ 64 := by
    cases hu : usesPool c.act
    · simp [hu] at a7; simp [a7]
    · simp [hu] at h2; have := name_len h2.1; omega
  have hr : c.host.length ≤ 64 ∧ c.pfx.length ≤ 128 := by
    cases hu : usesRoute c.act
    · simp [hu] at a8; simp [a8.1, a8.2]
    · simp [hu] at h2; have := host_len h2.2.1; have := pfx_len h2.2.2; omega
  exact ⟨ha, by omega, hs, by omega, hr.1, hr.2, hp, h3⟩
theorem getC_putC {c : Cmd} (h : chk c = 0) : getC (putC c) = .ok c := by
  have f := chk_fine h
  obtain ⟨act, client, seq, expect, host, pfx, pool, tg⟩ := c
  obtain ⟨a, ha⟩ : ∃ a : Nat, act = a := ⟨act.toNat, by have := f.a; simp at this; omega⟩
  obtain ⟨b, hb⟩ : ∃ a : Nat, client = a := ⟨client.toNat, by have := f.cl; simp at this; omega⟩
  obtain ⟨q, hq⟩ : ∃ a : Nat, seq = a := ⟨seq.toNat, by have := f.sq; simp at this; omega⟩
  obtain ⟨x, hx⟩ : ∃ a : Nat, expect + 1 = a := ⟨(expect + 1).toNat, by have := f.ex; simp at this; omega⟩
  have fa := f.a; have fc := f.cl; have fs := f.sq; have fx := f.ex; have fh := f.h; have fp := f.p; have fo := f.o; have ft := f.t
  simp only at fa fc fs fx fh fp fo ft
  subst ha; subst hb; subst hq
  have hr : rCmd (putC ⟨a, b, q, expect, host, pfx, pool, tg⟩) = (⟨a, b, q, expect, host, pfx, pool, tg⟩, .ok []) := by
    simp only [rCmd, putC, maxN, hx]
    rw [rNum_put (n := a) (by omega) (by omega), rNum_put (n := b) (by omega) (by omega), rNum_put (n := q) (by omega) (by omega), rNum_put (n := x) (by omega) (by omega), rText_put (by omega), rText_put (by omega), rText_put (by omega)]
    have := rTgs_put (chkT_good ft) (chkT_zero ft).2 []
    rw [List.append_nil] at this
    rw [this]
    simp only [Prod.mk.injEq, Cmd.mk.injEq, true_and, and_true]
    omega
  simp only [getC, hr]
  rw [if_neg (by simp [h])]
theorem putC_getC {b : Bs} {c : Cmd} (h : getC b = .ok c) : chk c = 0 ∧ putC c = b := by
  unfold getC at h
  split at h
  · cases h
  · rename_i r hr
    split at h
    · cases h
    · rename_i hn
      injection h with h
      have hr2 : r = [] ∧ chk (rCmd b).1 = 0 := by
        constructor
        · cases r with
          | nil => rfl
          | cons _ _ => exact absurd (Or.inl (by simp)) hn
        · cases Decidable.em (chk (rCmd b).1 = 0) with
          | inl h => exact h
          | inr h => exact absurd (Or.inr h) hn
      obtain ⟨rfl, hz⟩ := hr2
      subst h
      refine ⟨hz, ?_⟩
      simp only [rCmd] at hr ⊢
      obtain ⟨t1, _, _⟩ := rTgs_got (got_of hr)
      obtain ⟨o1, _⟩ := rText_got (got_of t1)
      obtain ⟨p1, _⟩ := rText_got (got_of o1)
      obtain ⟨h1, _⟩ := rText_got (got_of p1)
      obtain ⟨x1, _⟩ := rNum_got (got_of h1)
      obtain ⟨q1, _⟩ := rNum_got (got_of x1)
      obtain ⟨c1, _⟩ := rNum_got (got_of q1)
      obtain ⟨a1, _⟩ := rNum_got (got_of c1)
      injection a1 with a1
      simp only [putC]
      rw [show ∀ n : Nat, ((n : Int) - 1 + 1) = n from fun n => by omega]
      rw [List.append_nil] at a1
      exact a1.symm
end Go.Cm
