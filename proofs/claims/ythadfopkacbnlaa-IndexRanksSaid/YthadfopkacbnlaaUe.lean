/-
  Layer 18: what the walk lacks: equality of reals inside structs and rows; minus of a real.
-/
import Derived.Test.YthadfopkacbnlaaUa
namespace Go.Proofs.Ythadfopkacbnlaa
open Go.RowKit Go.K
set_option linter.unusedVariables false
set_option linter.unusedSimpArgs false
theorem run_equalIn_float {P : Program} (w : World) (d : Nat) (t : TypeId) (k k' : FloatKind) (a b : Nat) (h : P.underlying t = some (.float k')) : (Op.equalIn (d + 1) t (.float k a) (.float k b)).run P w = .ok (Op.floatEq k a b) w := by
  simp [Op.equalIn, run_underlying h]
theorem neg_any (x : Nat) (W : World) : (Op.unary UnOp.neg (.float .f32 x)).run Try.prog W = .ok (.float .f32 (Op.negFloat .f32 x)) W := rfl
end Go.Proofs.Ythadfopkacbnlaa
