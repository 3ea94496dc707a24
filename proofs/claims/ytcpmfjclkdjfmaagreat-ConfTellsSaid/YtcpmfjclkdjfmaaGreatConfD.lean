/-
  What commands come to, in lists alone, and what always holds of it. No program in sight.
-/
import Derived.Test.YtcpmfjclkdjfmaaGreatConfM
namespace Go.Cm

def plLt (a b : Pl) : Bool := decide (a.name < b.name)
def laLt (a b : Last) : Bool := decide (a.client < b.client)
/-- A list with one at its place (in the stead of what neither stands ahead of it nor behind). -/
def put {α : Type} (lt : α → α → Bool) (l : List α) (p : α) : List α := l.filter (fun a => lt a p) ++ p :: l.filter (fun a => lt p a)
def there (s : Sm) (n : Bs) : Bool := s.pools.any fun p => decide (p.name = n)
def used (s : Sm) (n : Bs) : Bool := s.routes.any fun r => decide (r.pool = n)
def isAt (h p : Bs) (r : Rt) : Bool := decide (r.host = h) && decide (r.pfx = p)
def known (s : Sm) (h p : Bs) : Bool := s.routes.any (isAt h p)
def butPool (s : Sm) (n : Bs) : List Pl := s.pools.filter fun p => !decide (p.name = n)
def butRoute (s : Sm) (h p : Bs) : List Rt := s.routes.filter fun r => !isAt h p r
def fit (s s' : Sm) : Sm × Int := if 12000 < (confB s'.pools s'.routes).length then (s, 6) else (s', 0)
def act (s : Sm) (x : Cmd) : Sm × Int :=
  if x.act = 1 then
    if !there s x.pool && decide (32 ≤ s.pools.length) then (s, 6)
    else fit s { s with pools := put plLt (butPool s x.pool) ⟨x.pool, x.tg⟩ }
  else if x.act = 2 then
    if !there s x.pool then (s, 8) else if used s x.pool then (s, 13) else fit s { s with pools := butPool s x.pool }
  else if x.act = 3 then
    if !there s x.pool then (s, 8) else if !known s x.host x.pfx && decide (64 ≤ s.routes.length) then (s, 6)
    else fit s { s with routes := put rtLt (butRoute s x.host x.pfx) ⟨x.host, x.pfx, x.pool⟩ }
  else if !known s x.host x.pfx then (s, 8) else fit s { s with routes := butRoute s x.host x.pfx }
def seenC (s : Sm) (k : Int) : Int × Int × Int := match s.l.find? fun x => decide (x.client = k) with
  | some x => (x.seq, x.e, x.ver)
  | none => (0, 0, 0)
def note (s : Sm) (x : Last) : Sm := { s with l := put laLt s.l x }
/-- The step itself: the state, the error. -/
def step (s : Sm) (x : Cmd) : Sm × Int :=
  if 0 ≤ x.expect ∧ x.expect ≠ s.ver then (s, 12) else if s.ver = 1099511627776 then (s, 6) else act s x
def vers (p : Sm × Int) : Int := if p.2 = 0 then p.1.ver + 1 else p.1.ver
def doC (s : Sm) (x : Cmd) : Sm × Int × Int :=
  if chk x ≠ 0 then (s, chk x, s.ver)
  else if 0 < x.client ∧ x.seq = (seenC s x.client).1 then (s, (seenC s x.client).2)
  else if 0 < x.client ∧ x.seq < (seenC s x.client).1 then (s, 12, s.ver)
  else
    let p := step s x
    (if 0 < x.client then note { p.1 with ver := vers p } ⟨x.client, x.seq, p.2, vers p⟩ else { p.1 with ver := vers p }, p.2, vers p)
def new : Sm := ⟨0, [], [], []⟩

/-! ### orders -/
theorem slt_irrefl (a : Bs) : ¬ a < a := List.lt_irrefl a
theorem slt_trans {a b c : Bs} (h : a < b) (k : b < c) : a < c := List.lt_trans h k
theorem slt_tri (a b : Bs) : a < b ∨ a = b ∨ b < a := by
  by_cases h : a < b
  · exact .inl h
  · by_cases k : b < a
    · exact .inr (.inr k)
    · exact .inr (.inl (List.le_antisymm (List.not_lt.1 k) (List.not_lt.1 h)))
/-- A strict order of all, up to 'same place'. -/
structure Ord {α : Type} (lt : α → α → Bool) (same : α → α → Bool) : Prop where
  irr : ∀ a b, same a b = true → lt a b = false
  tr : ∀ a b c, lt a b = true → lt b c = true → lt a c = true
  tri : ∀ a b, same a b = false → lt a b = true ∨ lt b a = true
  cong : ∀ a b c, same a b = true → lt a c = lt b c
  congr : ∀ a b c, same a b = true → lt c a = lt c b
  refl : ∀ a, same a a = true
def plSame (a b : Pl) : Bool := decide (a.name = b.name)
def rtSame (a b : Rt) : Bool := isAt b.host b.pfx a
def laSame (a b : Last) : Bool := decide (a.client = b.client)
theorem plOrd : Ord plLt plSame where
  irr a b h := by simp only [plSame, decide_eq_true_eq] at h; simp [plLt, h, slt_irrefl b.name]
  tr a b c h k := by simp only [plLt, decide_eq_true_eq] at *; exact slt_trans h k
  tri a b h := by
    simp only [plSame, decide_eq_false_iff_not] at h
    simp only [plLt, decide_eq_true_eq]
    rcases slt_tri a.name b.name with h1 | h1 | h1
    · exact .inl h1
    · exact absurd h1 h
    · exact .inr h1
  cong a b c h := by simp only [plSame, decide_eq_true_eq] at h; simp [plLt, h]
  congr a b c h := by simp only [plSame, decide_eq_true_eq] at h; simp [plLt, h]
  refl a := by simp [plSame]
theorem laOrd : Ord laLt laSame where
  irr a b h := by simp only [laSame, decide_eq_true_eq] at h; simp [laLt, h]
  tr a b c h k := by simp only [laLt, decide_eq_true_eq] at *; omega
  tri a b h := by
    simp only [laSame, decide_eq_false_iff_not] at h
    simp only [laLt, decide_eq_true_eq]; omega
  cong a b c h := by simp only [laSame, decide_eq_true_eq] at h; simp [laLt, h]
  congr a b c h := by simp only [laSame, decide_eq_true_eq] at h; simp [laLt, h]
  refl a := by simp [laSame]
theorem rtOrd : Ord rtLt rtSame where
  irr a b h := by
    simp only [rtSame, isAt, Bool.and_eq_true, decide_eq_true_eq] at h
    have h1 := slt_irrefl b.host; have h2 := slt_irrefl b.pfx
    simp [rtLt, h.1, h.2, h1, h2]
  tr a b c h k := by
    simp only [rtLt, Bool.or_eq_true, Bool.and_eq_true, decide_eq_true_eq] at *
    rcases h with h | ⟨h, h'⟩ <;> rcases k with k | ⟨k, k'⟩
    · exact .inl (slt_trans h k)
    · exact .inl (k ▸ h)
    · exact .inl (h ▸ k)
    · exact .inr ⟨h.trans k, slt_trans h' k'⟩
  tri a b h := by
    simp only [rtSame, isAt, Bool.and_eq_false_iff, decide_eq_false_iff_not] at h
    simp only [rtLt, Bool.or_eq_true, Bool.and_eq_true, decide_eq_true_eq]
    rcases slt_tri a.host b.host with h1 | h1 | h1
    · exact .inl (.inl h1)
    · rcases slt_tri a.pfx b.pfx with h2 | h2 | h2
      · exact .inl (.inr ⟨h1, h2⟩)
      · rcases h with h | h
        · exact absurd h1 h
        · exact absurd h2 h
      · exact .inr (.inr ⟨h1.symm, h2⟩)
    · exact .inr (.inl h1)
  cong a b c h := by
    simp only [rtSame, isAt, Bool.and_eq_true, decide_eq_true_eq] at h
    simp [rtLt, h.1, h.2]
  congr a b c h := by
    simp only [rtSame, isAt, Bool.and_eq_true, decide_eq_true_eq] at h
    simp [rtLt, h.1, h.2]
  refl a := by simp [rtSame, isAt]

section
variable {α : Type} {lt same : α → α → Bool}
theorem rises_iff (O : Ord lt same) : ∀ l : List α, rises lt l = true ↔ l.Pairwise fun a b => lt a b = true
  | [] => by simp [rises]
  | [a] => by simp [rises]
  | a :: b :: r => by
    rw [rises, Bool.and_eq_true, rises_iff O (b :: r), List.pairwise_cons (l := b :: r)]
    constructor
    · rintro ⟨h1, h2⟩
      refine ⟨fun c hc => ?_, h2⟩
      rcases List.mem_cons.1 hc with rfl | hc
      · exact h1
      · exact O.tr _ _ _ h1 ((List.pairwise_cons.1 h2).1 c hc)
    · rintro ⟨h1, h2⟩
      exact ⟨h1 b (by simp), h2⟩
theorem put_rises (O : Ord lt same) {l : List α} (h : rises lt l = true) (p : α) : rises lt (put lt l p) = true := by
  rw [rises_iff O] at *
  unfold put
  rw [List.pairwise_append, List.pairwise_cons]
  refine ⟨h.filter _, ⟨fun a ha => (List.mem_filter.1 ha).2, h.filter _⟩, fun a ha b hb => ?_⟩
  have ha := (List.mem_filter.1 ha).2
  rcases List.mem_cons.1 hb with rfl | hb
  · exact ha
  · exact O.tr _ _ _ ha (List.mem_filter.1 hb).2
theorem filter_rises (O : Ord lt same) {l : List α} (h : rises lt l = true) (f : α → Bool) : rises lt (l.filter f) = true := by
  rw [rises_iff O] at *; exact h.filter _
theorem put_perm (O : Ord lt same) (l : List α) (p : α) : (put lt l p).Perm (p :: l.filter fun a => !same a p) := by
  unfold put
  refine List.perm_middle.trans (List.Perm.cons p ?_)
  have hc : ∀ a : α, (!same a p) = (lt a p || lt p a) ∧ ¬ (lt a p = true ∧ lt p a = true) := fun a => by
    cases hs : same a p
    · constructor
      · rcases O.tri a p hs with h | h <;> simp [h]
      · rintro ⟨h1, h2⟩
        have := O.tr _ _ _ h1 h2
        rw [O.irr a a (O.refl a)] at this; cases this
    · rw [O.irr a p hs, show lt p a = false from by rw [O.congr a p p hs]; exact O.irr p p (O.refl p)]
      simp
  induction l with
  | nil => simp
  | cons a l ih =>
    obtain ⟨h1, h2⟩ := hc a
    simp only [List.filter_cons, h1]
    cases ha : lt a p <;> cases hb : lt p a
    · simpa using ih
    · simp only [Bool.false_or, if_true, if_false, Bool.false_eq_true]
      exact List.perm_middle.trans (List.Perm.cons a ih)
    · simp only [Bool.or_false, if_true, if_false, Bool.false_eq_true]
      exact List.Perm.cons a ih
    · exact absurd ⟨ha, hb⟩ h2
theorem rises_same_eq (O : Ord lt same) {l : List α} (h : rises lt l = true) {a b : α} (ha : a ∈ l) (hb : b ∈ l) (hs : same a b = true) : a = b := by
  rw [rises_iff O] at h
  induction l with
  | nil => cases ha
  | cons c r ih =>
    have h := List.pairwise_cons.1 h
    rcases List.mem_cons.1 ha with rfl | ha' <;> rcases List.mem_cons.1 hb with rfl | hb'
    · rfl
    · have := h.1 b hb'; rw [O.irr _ _ hs] at this; cases this
    · have := h.1 a ha'
      have h2 : lt b b = false := O.irr b b (O.refl b)
      rw [O.congr a b b hs, h2] at this; cases this
    · exact ih h.2 ha' hb'
/-- Rising lists of the same ones are the same. -/
theorem rises_perm (O : Ord lt same) : ∀ {l l' : List α}, rises lt l = true → rises lt l' = true → l.Perm l' → l = l' := by
  intro l l' h h' p
  rw [rises_iff O] at h h'
  refine List.Perm.eq_of_pairwise (fun a b _ _ h1 h2 => ?_) h h' p
  have := O.tr _ _ _ h1 h2
  rw [O.irr a a (O.refl a)] at this; cases this
end

/-! ### what always holds -/
structure Inv (s : Sm) : Prop where
  v0 : 0 ≤ s.ver
  v1 : s.ver ≤ 1099511627776
  pl : ∀ p ∈ s.pools, isName p.name = true ∧ chkT p.tg = 0
  pr : rises plLt s.pools = true
  pn : s.pools.length ≤ 32
  rt : ∀ r ∈ s.routes, there s r.pool = true ∧ isHost r.host = true ∧ isPfx r.pfx = true
  rr : rises rtLt s.routes = true
  rn : s.routes.length ≤ 64
  la : ∀ x ∈ s.l, (1 ≤ x.client ∧ x.client ≤ 32) ∧ (1 ≤ x.seq ∧ x.seq ≤ 1099511627776) ∧ told x.e = true ∧ 0 ≤ x.ver ∧ x.ver ≤ s.ver
  lr : rises laLt s.l = true
  sz : (confB s.pools s.routes).length ≤ 12000
theorem Inv.new : Inv new := ⟨by decide, by decide, by simp [Cm.new], rfl, by decide, by simp [Cm.new], rfl, by decide, by simp [Cm.new], rfl, by decide⟩
theorem fit_cases (s s' : Sm) : fit s s' = (s, 6) ∨ (fit s s' = (s', 0) ∧ (confB s'.pools s'.routes).length ≤ 12000) := by
  unfold fit
  split
  · exact .inl rfl
  · exact .inr ⟨rfl, by omega⟩
theorem filter_ne_len {α : Type} {l : List α} {f : α → Bool} {a : α} (ha : a ∈ l) (hf : f a = false) : (l.filter f).length + 1 ≤ l.length := by
  induction l with
  | nil => cases ha
  | cons b r ih =>
    rcases List.mem_cons.1 ha with rfl | ha
    · rw [List.filter_cons, hf]; simp [List.length_filter_le]
    · have := ih ha
      rw [List.filter_cons]; split <;> simp <;> omega
theorem act_keeps {s : Sm} (I : Inv s) {x : Cmd} (hx : chk x = 0) : Inv (act s x).1 ∧ (act s x).1.ver = s.ver ∧ (act s x).1.l = s.l ∧ ((act s x).2 ≠ 0 → (act s x).1 = s) ∧ told (act s x).2 = true := by
  have F := chk_fine hx
  obtain ⟨_, hnb, _⟩ := chk_zero hx
  simp only [nameBad, Bool.or_eq_false_iff] at hnb
  have keep : ∀ e : Int, told e = true → Inv (s, e).1 ∧ (s, e).1.ver = s.ver ∧ (s, e).1.l = s.l ∧ ((s, e).2 ≠ 0 → (s, e).1 = s) ∧ told (s, e).2 = true := fun e he => ⟨I, rfl, rfl, fun _ => rfl, he⟩
  have fits : ∀ s' : Sm, s'.ver = s.ver → s'.l = s.l → ((confB s'.pools s'.routes).length ≤ 12000 → Inv s') →
      Inv (fit s s').1 ∧ (fit s s').1.ver = s.ver ∧ (fit s s').1.l = s.l ∧ ((fit s s').2 ≠ 0 → (fit s s').1 = s) ∧ told (fit s s').2 = true := fun s' h1 h2 h3 => by
    rcases fit_cases s s' with e | ⟨e, hl⟩
    · rw [e]; exact keep 6 rfl
    · rw [e]; exact ⟨h3 hl, h1, h2, fun h => absurd rfl h, rfl⟩
  have plen : ∀ n, there s n = true → (butPool s n).length + 1 ≤ s.pools.length := fun n h => by
    obtain ⟨p, hp, hpn⟩ := List.any_eq_true.1 h
    exact filter_ne_len hp (by simpa using hpn)
  have rlen : ∀ h q, known s h q = true → (butRoute s h q).length + 1 ≤ s.routes.length := fun h q hk => by
    obtain ⟨p, hp, hpn⟩ := List.any_eq_true.1 hk
    exact filter_ne_len hp (by simpa using hpn)
  unfold act
  split
  · rename_i ha
    split
    · exact keep 6 rfl
    · rename_i hn
      refine fits _ rfl rfl fun hl => ?_
      have hname : isName x.pool = true := by have := hnb.1; simp [usesPool, ha] at this; exact this
      have hmem : ∀ p ∈ put plLt (butPool s x.pool) ⟨x.pool, x.tg⟩, p = ⟨x.pool, x.tg⟩ ∨ p ∈ s.pools := fun p hp => by
        rw [(put_perm plOrd _ _).mem_iff] at hp
        rcases List.mem_cons.1 hp with h | h
        · exact .inl h
        · exact .inr (List.mem_filter.1 (List.mem_filter.1 h).1).1
      refine { I with pl := fun p hp => ?_, pr := put_rises plOrd (filter_rises plOrd I.pr _) _, pn := ?_, rt := fun r hr => ?_, sz := hl }
      · rcases hmem p hp with rfl | h
        · exact ⟨hname, F.t⟩
        · exact I.pl p h
      · have hp := (put_perm plOrd (butPool s x.pool) ⟨x.pool, x.tg⟩).length_eq
        simp only [List.length_cons] at hp
        have h1 : (((butPool s x.pool).filter fun a => !plSame a ⟨x.pool, x.tg⟩)).length ≤ (butPool s x.pool).length := List.length_filter_le ..
        show (put plLt (butPool s x.pool) ⟨x.pool, x.tg⟩).length ≤ 32
        cases ht : there s x.pool
        · have h2 : (butPool s x.pool).length ≤ s.pools.length := List.length_filter_le ..
          have : s.pools.length < 32 := by simpa [ht] using hn
          omega
        · have := plen _ ht; have := I.pn; omega
      · obtain ⟨h1, h2⟩ := I.rt r hr
        refine ⟨?_, h2⟩
        obtain ⟨p, hp, hpn⟩ := List.any_eq_true.1 h1
        have hpn' : p.name = r.pool := by simpa using hpn
        refine List.any_eq_true.2 ?_
        by_cases hx : p.name = x.pool
        · exact ⟨⟨x.pool, x.tg⟩, (put_perm plOrd _ _).mem_iff.2 List.mem_cons_self, by simp [← hx, hpn']⟩
        · refine ⟨p, (put_perm plOrd _ _).mem_iff.2 (List.mem_cons_of_mem _ (List.mem_filter.2 ⟨List.mem_filter.2 ⟨hp, by simp [hx]⟩, by simp [plSame, hx]⟩)), hpn⟩
  · rename_i ha1
    split
    · rename_i ha
      split
      · exact keep 8 rfl
      · split
        · exact keep 13 rfl
        · rename_i hu
          refine fits _ rfl rfl fun hl => ?_
          refine { I with pl := fun p hp => I.pl p (List.mem_filter.1 hp).1, pr := filter_rises plOrd I.pr _, pn := ?_, rt := fun r hr => ?_, sz := hl }
          · exact Nat.le_trans (List.length_filter_le ..) I.pn
          · obtain ⟨h1, h2⟩ := I.rt r hr
            refine ⟨?_, h2⟩
            obtain ⟨p, hp, hpn⟩ := List.any_eq_true.1 h1
            have hpn' : p.name = r.pool := by simpa using hpn
            refine List.any_eq_true.2 ⟨p, List.mem_filter.2 ⟨hp, ?_⟩, hpn⟩
            have : ¬ r.pool = x.pool := fun e => hu (List.any_eq_true.2 ⟨r, hr, by simpa using e⟩)
            simpa [hpn'] using this
    · split
      · rename_i ha
        split
        · exact keep 8 rfl
        · rename_i hth
          split
          · exact keep 6 rfl
          · rename_i hn
            refine fits _ rfl rfl fun hl => ?_
            have hrt : isHost x.host = true ∧ isPfx x.pfx = true := by have := hnb.2; simp [usesRoute, ha] at this; exact this
            have hmem : ∀ r ∈ put rtLt (butRoute s x.host x.pfx) ⟨x.host, x.pfx, x.pool⟩, r = ⟨x.host, x.pfx, x.pool⟩ ∨ r ∈ s.routes := fun p hp => by
              rw [(put_perm rtOrd _ _).mem_iff] at hp
              rcases List.mem_cons.1 hp with h | h
              · exact .inl h
              · exact .inr (List.mem_filter.1 (List.mem_filter.1 h).1).1
            refine { I with rt := fun r hr => ?_, rr := put_rises rtOrd (filter_rises rtOrd I.rr _) _, rn := ?_, sz := hl }
            · rcases hmem r hr with rfl | h
              · exact ⟨(by simpa using hth : there s x.pool = true), hrt⟩
              · exact I.rt r h
            · have hp := (put_perm rtOrd (butRoute s x.host x.pfx) ⟨x.host, x.pfx, x.pool⟩).length_eq
              simp only [List.length_cons] at hp
              have h1 : (((butRoute s x.host x.pfx).filter fun a => !rtSame a ⟨x.host, x.pfx, x.pool⟩)).length ≤ (butRoute s x.host x.pfx).length := List.length_filter_le ..
              show (put rtLt (butRoute s x.host x.pfx) ⟨x.host, x.pfx, x.pool⟩).length ≤ 64
              cases ht : known s x.host x.pfx
              · have h2 : (butRoute s x.host x.pfx).length ≤ s.routes.length := List.length_filter_le ..
                have : s.routes.length < 64 := by simpa [ht] using hn
                omega
              · have := rlen _ _ ht; have := I.rn; omega
      · split
        · exact keep 8 rfl
        · refine fits _ rfl rfl fun hl => ?_
          exact { I with rt := fun r hr => I.rt r (List.mem_filter.1 hr).1, rr := filter_rises rtOrd I.rr _, rn := Nat.le_trans (List.length_filter_le ..) I.rn, sz := hl }
theorem step_keeps {s : Sm} (I : Inv s) {x : Cmd} (hx : chk x = 0) : Inv (step s x).1 ∧ (step s x).1.ver = s.ver ∧ (step s x).1.l = s.l ∧ ((step s x).2 ≠ 0 → (step s x).1 = s) ∧ told (step s x).2 = true ∧ ((step s x).2 = 0 → s.ver < 1099511627776) := by
  unfold step
  split
  · exact ⟨I, rfl, rfl, fun _ => rfl, rfl, fun h => by cases h⟩
  · split
    · exact ⟨I, rfl, rfl, fun _ => rfl, rfl, fun h => by cases h⟩
    · rename_i hv
      obtain ⟨h1, h2, h3, h4, h5⟩ := act_keeps I hx
      exact ⟨h1, h2, h3, h4, h5, fun _ => by have := I.v1; omega⟩
theorem Inv.up {s : Sm} (I : Inv s) {v : Int} (h1 : s.ver ≤ v) (h2 : v ≤ 1099511627776) : Inv { s with ver := v } :=
  { I with v0 := by have := I.v0; simp; omega, v1 := h2, la := fun x hx => (I.la x hx).imp id fun h => h.imp id fun h => h.imp id fun h => h.imp id fun h => by simp; omega }
theorem Inv.note {s : Sm} (I : Inv s) {x : Last} (h1 : 1 ≤ x.client ∧ x.client ≤ 32) (h2 : 1 ≤ x.seq ∧ x.seq ≤ 1099511627776) (h3 : told x.e = true) (h4 : 0 ≤ x.ver ∧ x.ver ≤ s.ver) : Inv (Cm.note s x) :=
  { I with lr := put_rises laOrd I.lr _, la := fun y hy => (List.mem_cons.1 ((put_perm laOrd _ _).mem_iff.1 hy)).elim (fun e => by subst e; exact ⟨h1, h2, h3, h4⟩) (fun h => I.la y (List.mem_filter.1 h).1) }
theorem vers_ok {s : Sm} (I : Inv s) {x : Cmd} (hx : chk x = 0) : s.ver ≤ vers (step s x) ∧ vers (step s x) ≤ 1099511627776 ∧ vers (step s x) = if (step s x).2 = 0 then s.ver + 1 else s.ver := by
  obtain ⟨h1, h2, h3, h4, h5, h6⟩ := step_keeps I hx
  have := I.v1
  unfold vers
  split
  · rename_i h; have := h6 h; omega
  · omega
theorem doC_keeps {s : Sm} (I : Inv s) (x : Cmd) : Inv (doC s x).1 := by
  unfold doC
  split
  · exact I
  · rename_i hx
    have hx : chk x = 0 := by simpa using hx
    split
    · exact I
    · split
      · exact I
      · obtain ⟨h1, h2, h3, h4, h5, h6⟩ := step_keeps I hx
        obtain ⟨v1, v2, _⟩ := vers_ok I hx
        have I2 := h1.up (v := vers (step s x)) (by omega) v2
        have F := chk_fine hx
        show Inv (if 0 < x.client then _ else _)
        split
        · rename_i hc
          have hs : 1 ≤ x.seq := by
            obtain ⟨ha, _, _⟩ := chk_zero hx
            simp only [argBad, Bool.or_eq_false_iff] at ha
            have := ha.1.1.1.1.1.2
            simp only [Bool.not_eq_false', seqOk] at this
            rw [if_neg (by omega)] at this
            simp at this; omega
          exact I2.note ⟨by simp; omega, F.cl.2⟩ ⟨hs, F.sq.2⟩ h5 ⟨by have := I.v0; simp; omega, by simp⟩
        · exact I2
def play (s : Sm) : List Cmd → Sm
  | [] => s
  | x :: r => play (doC s x).1 r
theorem play_keeps {s : Sm} (I : Inv s) : ∀ l, Inv (play s l) := by
  intro l
  induction l generalizing s with
  | nil => exact I
  | cons x r ih => exact ih (doC_keeps I x)

/-! ### a store's bytes -/
theorem Inv.right {s : Sm} (I : Inv s) : right s = true := by
  simp only [Cm.right, Bool.and_eq_true, decide_eq_true_eq]
  refine ⟨⟨⟨⟨?_, I.pr⟩, ?_, I.rr⟩, ?_, I.lr⟩, I.sz⟩
  · exact List.all_eq_true.2 fun p hp => by simp [I.pl p hp]
  · refine List.all_eq_true.2 fun r hr => ?_
    obtain ⟨h1, h2, h3⟩ := I.rt r hr
    have h1 : (s.pools.any fun p => decide (p.name = r.pool)) = true := h1
    rw [h1, h2, h3]; rfl
  · refine List.all_eq_true.2 fun x hx => ?_
    obtain ⟨h1, h2, h3, h4, h5⟩ := I.la x hx
    simp [rightL, h1, h2.1, h3, h5]
theorem rising_ints : ∀ (l : List Last) (a : Int), (∀ x ∈ l, a ≤ x.client ∧ x.client ≤ 32) → rises laLt l = true → (l.length : Int) ≤ if l = [] then 0 else 33 - a
  | [], _, _, _ => by simp
  | x :: r, a, h, hr => by
    have h0 := h x List.mem_cons_self
    have hp := (rises_iff laOrd (x :: r)).1 hr
    rw [List.pairwise_cons] at hp
    have ih := rising_ints r (x.client + 1) (fun y hy => ⟨by have := hp.1 y hy; simp [laLt] at this; omega, (h y (List.mem_cons_of_mem _ hy)).2⟩) ((rises_iff laOrd r).2 hp.2)
    rw [if_neg (by simp)]
    simp only [List.length_cons]
    split at ih <;> push_cast <;> omega
theorem Inv.ln {s : Sm} (I : Inv s) : s.l.length ≤ 32 := by
  have := rising_ints s.l 1 (fun x hx => (I.la x hx).1) I.lr
  split at this <;> omega
theorem rLa_put {x : Last} (h1 : 0 ≤ x.client ∧ x.client ≤ 1099511627776) (h2 : 0 ≤ x.seq ∧ x.seq ≤ 1099511627776) (h3 : 0 ≤ x.e ∧ x.e ≤ 1099511627776) (h4 : 0 ≤ x.ver ∧ x.ver ≤ 1099511627776) (r : Bs) : rLa (.ok (laB x ++ r)) = (x, .ok r) := by
  obtain ⟨c, q, e, v⟩ := x
  obtain ⟨c, rfl⟩ := Int.eq_ofNat_of_zero_le h1.1
  obtain ⟨q, rfl⟩ := Int.eq_ofNat_of_zero_le h2.1
  obtain ⟨e, rfl⟩ := Int.eq_ofNat_of_zero_le h3.1
  obtain ⟨v, rfl⟩ := Int.eq_ofNat_of_zero_le h4.1
  simp only [rLa, laB, maxN, List.append_assoc]
  simp only at h1 h2 h3 h4
  rw [rNum_put (by omega) (by omega), rNum_put (by omega) (by omega), rNum_put (by omega) (by omega), rNum_put (by omega) (by omega)]
theorem rLa_got {s : Ps} {x : Last} {r : Bs} (h : rLa s = (x, .ok r)) : s = .ok (laB x ++ r) ∧ (0 ≤ x.seq ∧ x.seq ≤ 1099511627776 ∧ 0 ≤ x.ver) := by
  simp only [rLa, Prod.mk.injEq] at h
  obtain ⟨rfl, h⟩ := h
  obtain ⟨v1, _⟩ := rNum_got (got_of h)
  obtain ⟨e1, _⟩ := rNum_got (got_of v1)
  obtain ⟨q1, q2, q3⟩ := rNum_got (got_of e1)
  obtain ⟨c1, _⟩ := rNum_got (got_of q1)
  refine ⟨c1.trans ?_, by simp; omega⟩
  simp [laB]
theorem rPl_put {p : Pl} (h1 : p.name.length ≤ 128) (h2 : chkT p.tg = 0) (r : Bs) : rPl (.ok (plB p ++ r)) = (p, .ok r) := by
  simp only [rPl, plB, List.append_assoc]
  rw [rText_put h1, rTgs_put (chkT_good h2) (chkT_zero h2).2]
theorem rPl_got {s : Ps} {p : Pl} {r : Bs} (h : rPl s = (p, .ok r)) : s = .ok (plB p ++ r) ∧ True := by
  simp only [rPl, Prod.mk.injEq] at h
  obtain ⟨rfl, h⟩ := h
  obtain ⟨v1, _⟩ := rTgs_got (got_of h)
  obtain ⟨e1, _⟩ := rText_got (got_of v1)
  refine ⟨e1.trans ?_, trivial⟩
  simp [plB]
theorem rRt_put {p : Rt} (h1 : p.host.length ≤ 128) (h2 : p.pfx.length ≤ 128) (h3 : p.pool.length ≤ 128) (r : Bs) : rRt (.ok (rtB p ++ r)) = (p, .ok r) := by
  simp only [rRt, rtB, List.append_assoc]
  rw [rText_put h1, rText_put h2, rText_put h3]
theorem rRt_got {s : Ps} {p : Rt} {r : Bs} (h : rRt s = (p, .ok r)) : s = .ok (rtB p ++ r) ∧ True := by
  simp only [rRt, Prod.mk.injEq] at h
  obtain ⟨rfl, h⟩ := h
  obtain ⟨v1, _⟩ := rText_got (got_of h)
  obtain ⟨e1, _⟩ := rText_got (got_of v1)
  obtain ⟨q1, _⟩ := rText_got (got_of e1)
  refine ⟨q1.trans ?_, trivial⟩
  simp [rtB]
theorem told_range {e : Int} (h : told e = true) : 0 ≤ e ∧ e ≤ 1099511627776 := by
  simp only [told, Bool.or_eq_true, decide_eq_true_eq] at h; omega
theorem rSm_putS {s : Sm} (I : Inv s) : rSm (putS s) = (s, .ok []) := by
  obtain ⟨v, hv⟩ := Int.eq_ofNat_of_zero_le I.v0
  obtain ⟨ver, routes, pools, l⟩ := s
  simp only at hv
  subst hv
  have hv1 := I.v1
  simp only at hv1
  have pn := I.pn; have rn := I.rn; have ln := I.ln
  simp only at pn rn ln
  simp only [rSm, putS, confB, maxN, List.append_assoc]
  rw [rNum_put (by omega) (by omega), rNum_put pn (by omega)]
  rw [rMany_put pools _ fun p hp r => rPl_put (by have := name_len (I.pl p hp).1; omega) (I.pl p hp).2 r, rNum_put rn (by omega)]
  rw [rMany_put routes _ fun p hp r => rRt_put (by have := host_len (I.rt p hp).2.1; omega) (by have := pfx_len (I.rt p hp).2.2; omega) (by
    obtain ⟨q, hq, hqn⟩ := List.any_eq_true.1 (I.rt p hp).1
    have hqn : q.name = p.pool := by simpa using hqn
    have := name_len (I.pl q hq).1
    rw [← hqn]; omega) r, rNum_put ln (by omega)]
  have := rMany_put (f := rLa) (g := laB) l [] fun x hx r => by
    obtain ⟨h1, h2, h3, h4, h5⟩ := I.la x hx
    exact rLa_put (by omega) (by omega) (told_range h3) ⟨h4, by simp only at h5; omega⟩ r
  rw [List.append_nil] at this
  rw [this]
theorem load_putS {s : Sm} (I : Inv s) : load (putS s) = .ok s := by
  simp only [load, rSm_putS I]
  rw [if_neg (by simp [I.right])]
theorem load_got {b : Bs} {s : Sm} (h : load b = .ok s) : putS s = b ∧ Inv s := by
  unfold load at h
  split at h
  · cases h
  · rename_i r hr
    split at h
    · cases h
    · rename_i hn
      injection h with h
      rw [not_or] at hn
      obtain ⟨h1, h2⟩ := hn
      have h1 : r = [] := by cases r with
        | nil => rfl
        | cons _ _ => simp at h1
      subst h1
      have h2 : right (rSm b).1 = true := by simpa using h2
      subst h
      simp only [rSm] at hr h2 ⊢
      obtain ⟨l1, l2, l3⟩ := rMany_got (f := rLa) (fun s a r h => rLa_got h) _ _ _ _ (got_of hr)
      obtain ⟨k1, k2, _⟩ := rNum_got (got_of l1)
      obtain ⟨r1, r2, _⟩ := rMany_got (f := rRt) (fun s a r h => rRt_got h) _ _ _ _ (got_of k1)
      obtain ⟨m1, m2, _⟩ := rNum_got (got_of r1)
      obtain ⟨p1, p2, _⟩ := rMany_got (f := rPl) (fun s a r h => rPl_got h) _ _ _ _ (got_of m1)
      obtain ⟨n1, n2, _⟩ := rNum_got (got_of p1)
      obtain ⟨v1, v2, _⟩ := rNum_got (got_of n1)
      injection v1 with v1
      constructor
      · refine Eq.trans ?_ v1.symm
        simp only [putS, confB, p2, r2, l2, List.append_assoc, List.append_nil]
      · simp only [Cm.right, Bool.and_eq_true, decide_eq_true_eq] at h2
        obtain ⟨⟨⟨⟨a1, a2⟩, b1, b2⟩, c1, c2⟩, d⟩ := h2
        refine ⟨by simp, by simp only [maxN] at v2; simp only [maxN]; omega, fun p hp => ?_, a2, by simp only [p2]; omega, fun r hr => ?_, b2, by simp only [r2]; omega, fun x hx => ?_, c2, d⟩
        · have := List.all_eq_true.1 a1 p hp
          simpa using this
        · have := List.all_eq_true.1 b1 r hr
          simp only [Bool.and_eq_true] at this
          exact ⟨this.1.1, this.1.2, this.2⟩
        · have := List.all_eq_true.1 c1 x hx
          simp only [rightL, Bool.and_eq_true, decide_eq_true_eq] at this
          have h3 := l3 x hx
          exact ⟨this.1.1.1, ⟨this.1.1.2, h3.2.1⟩, this.1.2, h3.2.2, this.2⟩
end Go.Cm
