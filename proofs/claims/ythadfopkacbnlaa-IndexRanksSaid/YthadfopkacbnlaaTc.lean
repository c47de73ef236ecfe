/-
  Layer 18: a place among n; a kind's quote; its day.
-/
import Derived.Test.YthadfopkacbnlaaTa
namespace Go.Proofs.Ythadfopkacbnlaa
open Go.RowKit Go.K
set_option linter.unusedVariables false
set_option linter.unusedSimpArgs false
attribute [local go_sem] run_store_float
theorem plc_lo {x n : Int} (h : 0 < n) : 0 ≤ plc x n ∧ plc x n < n := by
  unfold plc
  have h1 := Int.tmod_lt_of_pos x h
  have h2 : -n < x.tmod n := by
    have := Int.lt_tmod_of_pos x h
    omega
  split <;> omega
theorem place_any (x n : Int) (w : World) (h0 : 0 < n) (h1 : n ≤ 1125899906842624) : Calls Try.prog 15 #[.int .i64 x, .int .i64 n] w fun r w' => r = .returned (.int .i64 (plc x n)) ∧ w = w' := by
  have hz : ¬ n = 0 := by omega
  have hm : ¬ n = -1 := by omega
  have hl := Int.tmod_lt_of_pos x h0
  have hl2 : -n < x.tmod n := Int.lt_tmod_of_pos x h0
  go_enter Try.func15, Try.ntmps15
  by_cases hn : x.tmod n < 0
  · have t0 : decide (x.tmod n < 0) = true := decide_eq_true hn
    have hw : IntKind.i64.wrap (x.tmod n + n) = x.tmod n + n := by rw [IntKind.wrap_i64]; omega
    have e : plc x n = x.tmod n + n := by unfold plc; rw [if_pos hn]
    have HE := Lib.hid e
    clear e hn hl hl2
    go_wp2
    go_ret
    exact ⟨by rw [HE.out]; rfl, rfl⟩
  · have t0 : decide (x.tmod n < 0) = false := decide_eq_false hn
    have e : plc x n = x.tmod n := by unfold plc; rw [if_neg hn]
    have HE := Lib.hid e
    clear e hn hl hl2
    go_wp2
    go_ret
    exact ⟨by rw [HE.out]; rfl, rfl⟩
theorem sz32 : (Try.prog.info? 32).map (·.size) = some 5 := by kernel_rfl
theorem sz57 : (Try.prog.info? 57).map (·.size) = some 8 := by kernel_rfl
def Ln.quote (x : Ln) : Value := .agg #[.int .i64 x.deals, .float .f32 x.avg, .float .f32 x.spr, .int .u64 x.low, .int .u64 x.high]
set_option maxRecDepth 100000 in
set_option maxHeartbeats 4000000 in
theorem quote_any (g k : Nat) (L : Nat → Ln) (w : World) (hk : k < 16) (h : Ix w g L) :
    Calls Try.prog 11 #[.pointer (some ⟨g, 0, none⟩), .int .i64 (k : Int)] w fun r w' => r = .returned (.tuple #[(L k).quote, .int .i64 0]) ∧ Below w.heap.size w w' := by
  have H := Lib.hid h
  clear h
  go_enter Try.func11, Try.ntmps11
  go_wp2_with fail
  refine (of_any g k _ hk).mono ?_
  rintro r0 w1 ⟨rfl, rfl⟩
  obtain ⟨c0, c1, c2, c3, c4⟩ := (H.out.kept ((Below.refl w.heap.size w).alloc (Nat.le_refl _) (.cells #[.int .i64 0, .float .f32 0, .float .f32 0, .int .u64 0, .int .u64 0] 32))).five hk
  go_wp2
  exact bodyPost_ret (results_row_tmp Try.results11 _ _ w.heap.size 32 _ _ _ rfl (alloc_at rfl) Try.underlying32 rfl sz32) rfl ⟨rfl, (Below.refl _ _).alloc (Nat.le_refl _) _⟩
/-- What the day shows. -/
def Ln.dayV (x : Ln) : Value := .agg #[.float .f32 (x.day 0), .float .f32 (x.day 1), .float .f32 (x.day 2), .float .f32 (x.day 3), .float .f32 (x.day 4), .float .f32 (x.day 5), .float .f32 (x.day 6), .float .f32 (x.day 7)]
set_option maxRecDepth 100000 in
set_option maxHeartbeats 4000000 in
theorem day_any (g k : Nat) (L : Nat → Ln) (w : World) (hk : k < 16) (h : Ix w g L) :
    Calls Try.prog 21 #[.pointer (some ⟨g, 0, none⟩), .int .i64 (k : Int)] w fun r w' => r = .returned (.tuple #[(L k).dayV, .int .i64 0]) ∧ Below w.heap.size w w' := by
  have H := Lib.hid h
  clear h
  go_enter Try.func21, Try.ntmps21
  go_wp2_with fail
  refine (of_any g k _ hk).mono ?_
  rintro r0 w1 ⟨rfl, rfl⟩
  have hA := H.out.kept ((Below.refl w.heap.size w).alloc (Nat.le_refl _) (.cells #[.float .f32 0, .float .f32 0, .float .f32 0, .float .f32 0, .float .f32 0, .float .f32 0, .float .f32 0, .float .f32 0] 57))
  have c0 := (hA.dayc hk (j := 0) (by decide)).1
  have c1 := (hA.dayc hk (j := 1) (by decide)).1
  have c2 := (hA.dayc hk (j := 2) (by decide)).1
  have c3 := (hA.dayc hk (j := 3) (by decide)).1
  have c4 := (hA.dayc hk (j := 4) (by decide)).1
  have c5 := (hA.dayc hk (j := 5) (by decide)).1
  have c6 := (hA.dayc hk (j := 6) (by decide)).1
  have c7 := (hA.dayc hk (j := 7) (by decide)).1
  rw [Nat.add_zero] at c0
  clear hA
  go_wp2
  exact bodyPost_ret (results_row_tmp Try.results21 _ _ w.heap.size 57 _ _ _ rfl (alloc_at rfl) Try.underlying57 rfl sz57) rfl ⟨rfl, (Below.refl _ _).alloc (Nat.le_refl _) _⟩
end Go.Proofs.Ythadfopkacbnlaa
