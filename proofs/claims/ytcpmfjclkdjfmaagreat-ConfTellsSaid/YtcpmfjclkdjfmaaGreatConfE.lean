/-
  What is taken away makes no bytes more; what maps come to is what lists come to.
-/
import Derived.Test.YtcpmfjclkdjfmaaGreatConfD
namespace Go.Cm
theorem num_one {n : Nat} (h : n < 128) : (num n).length = 1 := by
  unfold num
  rw [if_neg (by omega), Int.toNat_natCast]
  unfold encNF
  rw [if_pos h]; rfl
theorem flat_sub {α : Type} {f : α → Bs} {l l' : List α} (h : l.Sublist l') : (l.flatMap f).length ≤ (l'.flatMap f).length := by
  induction h with
  | slnil => simp
  | cons a _ ih => simp only [List.flatMap_cons, List.length_append]; omega
  | cons_cons a _ ih => simp only [List.flatMap_cons, List.length_append]; omega
theorem confB_sub {p p' : List Pl} {r r' : List Rt} (hp : p.Sublist p') (hr : r.Sublist r') (h1 : p'.length ≤ 32) (h2 : r'.length ≤ 64) : (confB p r).length ≤ (confB p' r').length := by
  have a1 := hp.length_le; have a2 := hr.length_le
  have b1 := flat_sub (f := plB) hp; have b2 := flat_sub (f := rtB) hr
  simp only [confB, List.length_append]
  rw [num_one (n := p.length) (by omega), num_one (n := p'.length) (by omega), num_one (n := r.length) (by omega), num_one (n := r'.length) (by omega)]
  omega
theorem fit_butPool {s : Sm} (I : Inv s) (n : Bs) : fit s { s with pools := butPool s n } = ({ s with pools := butPool s n }, 0) := by
  unfold fit
  have := confB_sub (p := butPool s n) (r := s.routes) List.filter_sublist (List.Sublist.refl _) I.pn I.rn
  rw [if_neg (by have := I.sz; simp only; omega)]
theorem fit_butRoute {s : Sm} (I : Inv s) (h p : Bs) : fit s { s with routes := butRoute s h p } = ({ s with routes := butRoute s h p }, 0) := by
  unfold fit
  have := confB_sub (p := s.pools) (r := butRoute s h p) (List.Sublist.refl _) List.filter_sublist I.pn I.rn
  rw [if_neg (by have := I.sz; simp only; omega)]
/-- Where nothing of that place is left, a list with one at its place is as long as it and that one. -/
theorem put_length {α : Type} {lt same : α → α → Bool} (O : Ord lt same) (l : List α) (p : α) : (put lt l p).length = (l.filter fun a => !same a p).length + 1 := by
  have := (put_perm O l p).length_eq
  simpa using this
theorem put_but_perm {s : Sm} (x : Pl) : (put plLt (butPool s x.name) x).Perm (x :: butPool s x.name) := by
  refine (put_perm plOrd _ _).trans (List.Perm.cons _ ?_)
  rw [List.filter_eq_self.2 fun a ha => ?_]
  have := (List.mem_filter.1 ha).2
  simpa [plSame] using this
theorem put_butR_perm {s : Sm} (x : Rt) : (put rtLt (butRoute s x.host x.pfx) x).Perm (x :: butRoute s x.host x.pfx) := by
  refine (put_perm rtOrd _ _).trans (List.Perm.cons _ ?_)
  rw [List.filter_eq_self.2 fun a ha => ?_]
  have := (List.mem_filter.1 ha).2
  simpa [rtSame] using this
end Go.Cm
