/-
  Layer 18: sorting an empty list.
-/
import Derived.Test.YthadfopkacbnlaaSg
namespace Go.Proofs.Ythadfopkacbnlaa
open Go.RowKit Go.K
set_option linter.unusedVariables false
set_option linter.unusedSimpArgs false
set_option maxRecDepth 100000 in
set_option maxHeartbeats 4000000 in
theorem insert_nil (cb lb : Nat) (w : World) : Calls Try.prog 54 #[.slice none 0 0, .int .i64 0, .int .i64 0, fvc cb lb] w fun r w' => r = .returned (.tuple #[]) ∧ w = w' := by
  unfold fvc
  go_enter Try.func54, Try.ntmps54
  go_wp2
  go_loopw [8, 9] (fun i _ V => i = .int .i64 1 ∧ w = V) (fun _ _ _ => 0)
  case atStart => exact ⟨rfl, rfl⟩
  case round =>
    obtain ⟨rfl, rfl⟩ := hrel
    go_wp2
    exact bodyPost_end (results_none Try.results54 _ _ _) rfl ⟨rfl, rfl⟩
set_option maxRecDepth 100000 in
set_option maxHeartbeats 4000000 in
theorem stablef_nil (cb lb : Nat) (w : World) : Calls Try.prog 41 #[.slice none 0 0, .int .i64 0, fvc cb lb] w fun r w' => r = .returned (.tuple #[]) ∧ w = w' := by
  have HI := Lib.hid (fun W => insert_nil cb lb W)
  unfold fvc at HI ⊢
  go_enter Try.func41, Try.ntmps41
  go_wp2
  go_loopw [7, 8] (fun a b V => a = .int .i64 0 ∧ b = .int .i64 20 ∧ w = V) (fun _ _ _ => 0)
  case atStart => exact ⟨rfl, rfl, rfl⟩
  case round =>
    obtain ⟨rfl, rfl, rfl⟩ := hrel
    go_wp2_with (go_at_call 54; (with_reducible refine (HI.out _).mono ?_); rintro e w9 ⟨rfl, rfl⟩)
    go_loopw [6, 7, 8, 9] (fun a _ _ _ V => a = .int .i64 20 ∧ w = V) (fun _ _ _ _ _ => 0)
    case atStart => exact ⟨rfl, rfl⟩
    case round =>
      obtain ⟨rfl, rfl⟩ := hrel
      go_wp2
      exact bodyPost_end (results_none Try.results41 _ _ _) rfl ⟨rfl, rfl⟩
theorem stable_nil (cb lb : Nat) (w : World) : Calls Try.prog 26 #[.slice none 0 0, fvc cb lb] w fun r w' => r = .returned (.tuple #[]) ∧ w = w' := by
  have H := Lib.hid (stablef_nil cb lb w)
  unfold fvc at *
  go_enter Try.func26, Try.ntmps26
  go_wp2_with (go_at_call 41; refine H.out.mono ?_; rintro e w9 ⟨rfl, rfl⟩)
  exact bodyPost_end (results_none Try.results26 _ _ _) rfl ⟨rfl, rfl⟩
end Go.Proofs.Ythadfopkacbnlaa
