/-
  Layer 19: right: a bid or an ask that may join.
-/
import Derived.Test.YtbggibdldadpiaaYf
namespace Go.Proofs.Ytbggibdldadpiaa
open Go.RowKit Go.K
set_option linter.unusedVariables false
set_option linter.unusedSimpArgs false
def rgt (e : Ent) : Bool := if e.item > 0 then (e.coins == 0 && decide (e.price ≤ 4611686018427387904)) else (decide (0 < e.coins) && decide (e.coins ≤ 4611686018427387904)) && e.price == e.coins
theorem right_any (e : Ent) (w : World) : Calls Try.prog 48 #[e.agg] w fun r w' => r = .returned (.bool (rgt e)) ∧ Below w.heap.size w w' := by
  obtain ⟨ac, it, co, pr, wa, wc, ws⟩ := e
  have HR := Lib.hid (show rgt ⟨ac, it, co, pr, wa, wc, ws⟩ = if it > 0 then (co == 0 && decide (pr ≤ 4611686018427387904)) else (decide (0 < co) && decide (co ≤ 4611686018427387904)) && pr == co from rfl)
  unfold Ent.agg
  simp only
  have HB := Lib.hid ((Below.refl w.heap.size w).alloc (Nat.le_refl _) (.cells #[.int .i64 ac, .int .i64 it, .int .u64 co, .int .u64 pr, .slice wa ws.length wc] 53))
  go_enter Try.func48, Try.ntmps48
  by_cases h1 : it > 0
  · have t1 : decide (it > 0) = true := decide_eq_true h1
    have t1' : decide (0 < it) = true := decide_eq_true h1
    by_cases h2 : co = 0
    · have t2 : (co == 0) = true := by simpa using h2
      have HE := HR.out
      rw [if_pos h1, t2, Bool.true_and] at HE
      have HE := Lib.hid HE
      clear h1 h2
      go_wp2
      go_ret
      exact ⟨by rw [HE.out]; rfl, HB.out⟩
    · have t2 : (co == 0) = false := by simpa using h2
      have HE := HR.out
      rw [if_pos h1, t2, Bool.false_and] at HE
      have HE := Lib.hid HE
      clear h1 h2
      go_wp2
      go_ret
      exact ⟨by rw [HE.out]; rfl, HB.out⟩
  · have t1 : decide (it > 0) = false := decide_eq_false h1
    have t1' : decide (0 < it) = false := decide_eq_false h1
    by_cases h2 : 0 < co
    · have t2 : decide (0 < co) = true := decide_eq_true h2
      by_cases h3 : co ≤ 4611686018427387904
      · have t3 : decide (co ≤ 4611686018427387904) = true := decide_eq_true h3
        have HE := HR.out
        rw [if_neg h1, t2, t3, Bool.true_and, Bool.true_and] at HE
        have HE := Lib.hid HE
        clear h1 h2 h3
        go_wp2
        go_ret
        exact ⟨by rw [HE.out]; rfl, HB.out⟩
      · have t3 : decide (co ≤ 4611686018427387904) = false := decide_eq_false h3
        have HE := HR.out
        rw [if_neg h1, t2, t3, Bool.true_and, Bool.false_and] at HE
        have HE := Lib.hid HE
        clear h1 h2 h3
        go_wp2
        go_ret
        exact ⟨by rw [HE.out]; rfl, HB.out⟩
    · have t2 : decide (0 < co) = false := decide_eq_false h2
      have HE := HR.out
      rw [if_neg h1, t2, Bool.false_and, Bool.false_and] at HE
      have HE := Lib.hid HE
      clear h1 h2
      go_wp2
      go_ret
      exact ⟨by rw [HE.out]; rfl, HB.out⟩
end Go.Proofs.Ytbggibdldadpiaa
