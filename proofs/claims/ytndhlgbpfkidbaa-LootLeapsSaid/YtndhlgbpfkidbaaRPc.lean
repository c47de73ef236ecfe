/-
  Reals: from chapter 3's Pc, what is needed here.
-/
import Derived.Test.YtndhlgbpfkidbaaROh
namespace Go.Proofs.Ytndhlgbpfkidbaa.n03
open Go.RowKit Go.K Go.R
set_option linter.unusedVariables false
set_option linter.unusedSimpArgs false
theorem pfinite_any (x : Nat) (hx : x < 4294967296) (w : World) : Calls Try.prog 60 #[.float .f32 x] w fun r w' => r = .returned (.bool (finW x)) ∧ w = w' := by
  have H := Lib.hid (finW_kind x)
  have HK := Lib.hid (fun W => kind_any x hx W)
  go_enter Try.func60, Try.ntmps60
  go_wp2_with (go_at_call 42; (with_reducible refine (HK.out _).mono ?_); rintro e w1 ⟨rfl, rfl⟩)
  go_ret
  exact ⟨by rw [← H.out]; rfl, rfl⟩
end Go.Proofs.Ytndhlgbpfkidbaa.n03

