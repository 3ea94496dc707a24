/-
  Structs held against each other.
-/
import Derived.Test.YtcpmfjclkdjfmaaGreatVcMap
namespace Go.Vc
open Go
section
variable {P : Program} {t : TypeId} {w : World} {x y : Operand}
theorem run_ne_agg {a b : Array Value} {r : Bool} (hg : P.eqGuardType P.depth t = false) (he : (Op.equal t (.agg a) (.agg b)).run P w = .ok r w) :
    (do eqGuard .neq t x y (.agg a) (.agg b); binOp .neq t (.agg a) (.agg b) : Sem Value).run P w = .ok (.bool !r) w := by
  simp [eqGuard, program, Sem.run, hg, binOp, he]
theorem run_eq_agg {a b : Array Value} {r : Bool} (hg : P.eqGuardType P.depth t = false) (he : (Op.equal t (.agg a) (.agg b)).run P w = .ok r w) :
    (do eqGuard .eql t x y (.agg a) (.agg b); binOp .eql t (.agg a) (.agg b) : Sem Value).run P w = .ok (.bool r) w := by
  simp [eqGuard, program, Sem.run, hg, binOp, he]
theorem equal_str3 {f0 f1 f2 : Field} (hu : P.underlying t = some (.struct #[f0, f1, f2])) (h0 : P.underlying f0.type = some .string) (h1 : P.underlying f1.type = some .string) (h2 : P.underlying f2.type = some .string)
    (hn0 : f0.name ≠ "_") (hn1 : f1.name ≠ "_") (hn2 : f2.name ≠ "_") (ho0 : f0.offset = 0) (ho1 : f1.offset = 1) (ho2 : f2.offset = 2) (hst : P.stoodInHeld t = false) (a1 a2 a3 b1 b2 b3 : ByteArray) :
    (Op.equal t (.agg #[.string a1, .string a2, .string a3]) (.agg #[.string b1, .string b2, .string b3])).run P w = .ok (decide (a1 = b1) && (decide (a2 = b2) && decide (a3 = b3))) w := by
  have e0 : ∀ x y : ByteArray, (Op.equalIn 9999 f0.type (.string x) (.string y)).run P w = .ok (x == y) w := fun x y => equalIn_string (P := P) h0 x y 9998 w
  have e1 : ∀ x y : ByteArray, (Op.equalIn 9999 f1.type (.string x) (.string y)).run P w = .ok (x == y) w := fun x y => equalIn_string (P := P) h1 x y 9998 w
  have e2 : ∀ x y : ByteArray, (Op.equalIn 9999 f2.type (.string x) (.string y)).run P w = .ok (x == y) w := fun x y => equalIn_string (P := P) h2 x y 9998 w
  have hag : ∀ f : Field, P.underlying f.type = some .string → aggT P f.type = false := fun f hf => by simp [aggT, hf]
  have hp0 : ∀ x y z : Value, (part f0.type #[x, y, z] f0.offset).run P w = .ok x w := fun x y z => by simp [part, run_isAgg h0, hag f0 h0, ho0]
  have hp1 : ∀ x y z : Value, (part f1.type #[x, y, z] f1.offset).run P w = .ok y w := fun x y z => by simp [part, run_isAgg h1, hag f1 h1, ho1]
  have hp2 : ∀ x y z : Value, (part f2.type #[x, y, z] f2.offset).run P w = .ok z w := fun x y z => by simp [part, run_isAgg h2, hag f2 h2, ho2]
  show (Op.equalIn (9999 + 1) t _ _).run P w = _
  unfold Op.equalIn
  simp only [Sem.run_bind, run_underlying_ hu, Result.andThen_ok, program, Sem.run, hst]
  by_cases ha : a1 = b1
  · by_cases hb : a2 = b2
    · by_cases hc : a3 = b3
      · simp [hn0, hn1, hn2, hp0, hp1, hp2, e0, e1, e2, ha, hb, hc, bytes_beq]
      · simp [hn0, hn1, hn2, hp0, hp1, hp2, e0, e1, e2, ha, hb, hc, bytes_beq]
    · simp [hn0, hn1, hp0, hp1, e0, e1, ha, hb, bytes_beq]
  · simp [hn0, hp0, e0, ha, bytes_beq]
end
end Go.Vc
