/-
  Layer 21: a function value against nil.
-/
import Derived.Test.YtpejcndfplbikaaVh
namespace Go.Proofs.Ytpejcndfplbikaa
open Go.RowKit Go.K
theorem eqlIn73 (d : Nat) (f : Fn) (a b : Array Value) (w : World) : (Op.equalIn (d + 1) 73 (.func f a b) .nilFunc).run Try.prog w = .ok false w := by
  simp [Op.equalIn, run_underlying Try.underlying73]
theorem eqlIn73n (d : Nat) (w : World) : (Op.equalIn (d + 1) 73 .nilFunc .nilFunc).run Try.prog w = .ok true w := by
  simp [Op.equalIn, run_underlying Try.underlying73]
theorem eql73 (f : Fn) (a b : Array Value) (w : World) : (binOp .eql 73 (.func f a b) .nilFunc).run Try.prog w = .ok (.bool false) w := by
  have h : (Op.equal 73 (.func f a b) .nilFunc).run Try.prog w = .ok false w := eqlIn73 9999 f a b w
  simp only [binOp]
  simp [h]
theorem eql73n (w : World) : (binOp .eql 73 .nilFunc .nilFunc).run Try.prog w = .ok (.bool true) w := by
  have h : (Op.equal 73 .nilFunc .nilFunc).run Try.prog w = .ok true w := eqlIn73n 9999 w
  simp only [binOp]
  simp [h]
end Go.Proofs.Ytpejcndfplbikaa
