/-
  Config, and what it tells stays as it is.
-/
import Derived.Test.YtcpmfjclkdjfmaaGreatConfBb
namespace Go.Vc
open Go Go.Proofs Go.Proofs.YtcpmfjclkdjfmaaGreat Go.RowKit
set_option maxRecDepth 100000
section
variable {E w : World} {L : List Asrt} {R : Ending → World → Prop} {F G : Fz} {s : Cm.Sm} {p : Nat}
/-- Config, and what it tells stays as it is. -/
theorem Config_kn (S : Sz s) (h : St E (stA F p s :: kn F :: L) w) (k : ∀ (G : Fz) (w' : World) (ra pa : Sl), Fz.le F G → cfgR G ra pa s.routes s.pools → St E (stA G p s :: kn G :: L) w' → R (.returned (cfgV s.ver ra pa)) w') :
    Calls Tryz.prog 14 #[.pointer (some ⟨p, 0, none⟩)] w R := by
  refine Config_spec (L := kn F :: L) at0 S h fun w' ra pa xs hxs h' => ?_
  obtain ⟨G, hG, h2, hc⟩ := St.cfg_freeze hxs (h'.sel 5 [0, 1, 2, 4, 3])
  have h3 : St E (kn G :: stA F p s :: L) w' := h2
  exact k G w' ra pa hG hc (h3.f1.st_mono hG)
theorem pw_at {α : Type} {lt : α → α → Prop} {l : List α} (h : l.Pairwise lt) {i j : Nat} (hij : i < j) (hj : j < l.length) : lt (l[i]'(by omega)) l[j] := List.pairwise_iff_getElem.1 h i j (by omega) hj hij
theorem wrap_pred {j : Nat} (h : 0 < j) (hl : j ≤ 1000000) : IntKind.wrap .i64 ((j : Int) - 1) = ((j - 1 : Nat) : Int) := by rw [wrap_id (by omega) (by omega)]; omega
end
end Go.Vc
