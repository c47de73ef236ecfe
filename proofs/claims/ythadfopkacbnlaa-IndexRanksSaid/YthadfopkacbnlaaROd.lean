/-
  Reals: from chapter 3's Od, what is needed here.
-/
import Derived.Test.YthadfopkacbnlaaRNo
namespace Go.Proofs.Ythadfopkacbnlaa.n03
open Go.RowKit Go.K Go.R
set_option linter.unusedVariables false
set_option linter.unusedSimpArgs false
theorem pfu_any (n : Nat) (w : World) : Calls Try.prog 22 #[.int .u64 (n : Int)] w fun r w' => r = .returned (.float .f32 (Ieee.single.nearest false n 0)) ∧ w = w' := by
  have h : floatOfInt .f32 (n : Int) = Ieee.single.nearest false n 0 := by
    show Ieee.single.nearest (decide ((n : Int) < 0)) ((n : Int)).natAbs 0 = _
    rw [decide_eq_false (by omega)]; rfl
  have H := Lib.hid h
  clear h
  go_enter Try.func22, Try.ntmps22
  go_wp2
  go_ret
  exact ⟨by rw [← H.out]; rfl, rfl⟩
end Go.Proofs.Ythadfopkacbnlaa.n03

