/-
  Layer 20: Join's closures.
-/
import Derived.Test.YtiafhgcnjgpeaaaWi
namespace Go.Proofs.Ytiafhgcnjgpeaaa
open Go.RowKit Go.K
set_option linter.unusedVariables false
set_option linter.unusedSimpArgs false

theorem clo_45 (x : Ent) (pb : Nat) (T : Int) (w : World) (h : w.cell? ⟨pb, 4, none⟩ = some (.int .i64 T)) :
    Calls Try.prog 45 #[x.agg, .pointer (some ⟨pb, 0, none⟩)] w fun r w' => r = .returned (.int .i64 T) ∧ Below w.heap.size w w' := by
  obtain ⟨xa, xi, xc, xp, xw, xk, xs⟩ := x
  unfold Ent.agg
  have h2 := below_cell ((Below.refl w.heap.size w).alloc (Nat.le_refl _) (.cells #[.int .i64 xa, .int .i64 xi, .int .u64 xc, .int .u64 xp, .slice xw xs.length xk] 44)) h
  go_enter Try.func45, Try.ntmps45
  go_wp2
  go_ret
  exact ⟨rfl, (Below.refl _ _).alloc (Nat.le_refl _) _⟩
theorem clo_46 (x : Ent) (pb : Nat) (T : Int) (w : World) (h : w.cell? ⟨pb, 2, none⟩ = some (.int .i64 T)) :
    Calls Try.prog 46 #[x.agg, .pointer (some ⟨pb, 0, none⟩)] w fun r w' => r = .returned (.int .i64 T) ∧ Below w.heap.size w w' := by
  obtain ⟨xa, xi, xc, xp, xw, xk, xs⟩ := x
  unfold Ent.agg
  have h2 := below_cell ((Below.refl w.heap.size w).alloc (Nat.le_refl _) (.cells #[.int .i64 xa, .int .i64 xi, .int .u64 xc, .int .u64 xp, .slice xw xs.length xk] 44)) h
  go_enter Try.func46, Try.ntmps46
  go_wp2
  go_ret
  exact ⟨rfl, (Below.refl _ _).alloc (Nat.le_refl _) _⟩
end Go.Proofs.Ytiafhgcnjgpeaaa
