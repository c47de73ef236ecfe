/-
  Layer 3: reals out of whole numbers; the whole part of a word.
-/
import Derived.Test.YtoaecmoihbifoaaOc
import Derived.Test.YtoaecmoihbifoaaNo
namespace Go.Proofs.Ytoaecmoihbifoaa
open Go.RowKit Go.K Go.R
set_option linter.unusedVariables false
set_option linter.unusedSimpArgs false
theorem and_u64_32 (n : Nat) : bits .and .u64 (n : Int) 4294967295 = ((n % 4294967296 : Nat) : Int) := by
  show IntKind.u64.wrap (((BitVec.ofInt 64 (n : Int)) &&& (BitVec.ofInt 64 4294967295)).toNat : Int) = _
  have h1 : (BitVec.ofInt 64 (n : Int) &&& BitVec.ofInt 64 4294967295).toNat = n % 4294967296 := by
    rw [BitVec.toNat_and, BitVec.ofInt_natCast, BitVec.toNat_ofNat]
    have : (BitVec.ofInt 64 4294967295).toNat = 2 ^ 32 - 1 := by decide
    rw [this, Nat.and_two_pow_sub_one_eq_mod]
    omega
  rw [h1, IntKind.wrap_u64]; omega
theorem lt64 {n : Nat} (h : n < 18446744073709551616) : n < 2 ^ 64 := by
  have p : (2 : Nat) ^ 64 = 18446744073709551616 := by decide
  rw [p]; exact h
theorem pfu_any (n : Nat) (w : World) : Calls Try.prog 34 #[.int .u64 (n : Int)] w fun r w' => r = .returned (.float .f32 (Ieee.single.nearest false n 0)) ∧ w = w' := by
  have h : floatOfInt .f32 (n : Int) = Ieee.single.nearest false n 0 := by
    show Ieee.single.nearest (decide ((n : Int) < 0)) ((n : Int)).natAbs 0 = _
    rw [decide_eq_false (by omega)]; rfl
  have H := Lib.hid h
  clear h
  go_enter Try.func34, Try.ntmps34
  go_wp2
  go_ret
  exact ⟨by rw [← H.out]; rfl, rfl⟩
/-- The real of a whole number. -/
def fiV (n : Int) : Nat := wd (decide (n < 0)) (Ieee.single.nearest false n.natAbs 0)
theorem pfi_any (n : Int) (w : World) : Calls Try.prog 32 #[.int .i64 n] w fun r w' => r = .returned (.float .f32 (fiV n)) ∧ w = w' := by
  have h : floatOfInt .f32 n = fiV n := by
    show Ieee.single.nearest (decide (n < 0)) n.natAbs 0 = _
    rw [nearest_neg]; rfl
  have H := Lib.hid h
  clear h
  go_enter Try.func32, Try.ntmps32
  go_wp2
  go_ret
  exact ⟨by rw [← H.out]; rfl, rfl⟩
theorem shift_32 (v : Value) (n : Nat) (w : World) (hv : Bg w v n) (hn : (digs n).length ≤ 500) :
    Calls Try.prog 56 #[v, .int .i64 32] w fun r w' => ∃ v', r = .returned v' ∧ Bg w' v' (n * 4294967296) ∧ Below w.heap.size w w' := by
  have h := shift_any v n 32 w hv (by decide) hn
  have p : (2 : Nat) ^ 32 = 4294967296 := by decide
  rw [p] at h
  exact h
set_option maxRecDepth 100000 in
set_option maxHeartbeats 2000000 in
theorem rfu_any (n : Nat) (hn : n < 18446744073709551616) (w : World) : Calls Try.prog 35 #[.int .u64 (n : Int)] w fun r w' => r = .returned (.int .u32 ((Ieee.single.nearest false n 0 : Nat) : Int)) ∧ Below w.heap.size w w' := by
  by_cases h0 : n = 0
  · have t0 : ((n : Int) == 0) = true := by rw [beq_iff_eq]; omega
    have HR := Lib.hid (show Ieee.single.nearest false n 0 = 0 by rw [h0, nearest_zero])
    clear h0
    generalize Ieee.single.nearest false n 0 = R at *
    go_enter Try.func35, Try.ntmps35
    go_wp2
    go_ret
    exact ⟨by rw [HR.out]; rfl, Below.refl _ _⟩
  · have t0 : ((n : Int) == 0) = false := by rw [beq_eq_false_iff_ne]; omega
    have hs : ((n : Int) / 4294967296) = ((n / 4294967296 : Nat) : Int) := by omega
    have ha := and_u64_32 n
    have hhi : n / 4294967296 < 4294967296 := by omega
    have hlo : n % 4294967296 < 4294967296 := by omega
    have hw1 := wrap_nat (n / 4294967296) (by omega)
    have hw2 := wrap_nat (n % 4294967296) (by omega)
    have d1 : (digs (n / 4294967296)).length ≤ 2 := dlen (s := 32) (Nat.lt_of_lt_of_le hhi (by decide)) (by decide)
    have d2 : (digs (n % 4294967296)).length ≤ 2 := dlen (s := 32) (Nat.lt_of_lt_of_le hlo (by decide)) (by decide)
    have e2 : n / 4294967296 * 4294967296 + n % 4294967296 = n := by omega
    have d3 : (digs (n / 4294967296 * 4294967296)).length ≤ 4 := dlen (s := 64) (lt64 (by omega)) (by decide)
    have d4 : (digs n).length ≤ 4 := dlen (s := 64) (lt64 hn) (by decide)
    have d5 : (digs (sc (-600) n 0)).length ≤ 1000 := dlen_sc (s := 64) (lt64 hn) (by decide)
    have HN := Lib.hid (fun W => number_any (n / 4294967296) W (by omega))
    have HS := Lib.hid (fun W v (h : Bg W v (n / 4294967296)) => shift_32 v (n / 4294967296) W h (by omega))
    have HN2 := Lib.hid (fun W => number_any (n % 4294967296) W (by omega))
    have HP := Lib.hid (fun W v1 v2 (h1 : Bg W v1 (n / 4294967296 * 4294967296)) (h2 : Bg W v2 (n % 4294967296)) => plus_any v1 v2 _ _ W h1 h2 (by omega) (by omega))
    rw [e2] at HP
    have HS2 := Lib.hid (fun W v (h : Bg W v n) => shift_sc v n 0 600 W h (by decide) (by decide) (by decide) (by omega))
    have H1 := Lib.hid (fun W v (h : Bg W v (sc (-600) n 0)) => near1_any _ v 0 0 0 0 n 0 W (by omega) (by decide) rfl d5 h)
    clear e2 d1 d2 d3 d4 d5 h0
    generalize n / 4294967296 * 4294967296 = hi2 at *
    generalize sc (-600) n 0 = T at *
    generalize Ieee.single.nearest false n 0 = R at *
    generalize n / 4294967296 = hi at *
    generalize n % 4294967296 = lo at *
    have hb := Below.refl w.heap.size w
    go_enter Try.func35, Try.ntmps35
    go_wp2_with ((first
      | (go_at_call 57; (with_reducible refine (HN.out _).mono ?_); rintro r1 y1 ⟨v1, rfl, hb1, hl⟩; have hb := hb.trans (hl.mono hb.size))
      | (go_at_call 56; (with_reducible refine (HS.out _ _ hb1).mono ?_); rintro r1 y2 ⟨v2, rfl, hb2, hl⟩; have hb := hb.trans (hl.mono hb.size))
      | (go_at_call 57; (with_reducible refine (HN2.out _).mono ?_); rintro r1 y3 ⟨v3, rfl, hb3, hl⟩; have hb := hb.trans (hl.mono hb.size); have hb2 := hb2.kept hl)
      | (go_at_call 64; (with_reducible refine (HP.out _ _ _ hb2 hb3).mono ?_); rintro r1 y4 ⟨v4, rfl, hb4, hl⟩; have hb := hb.trans (hl.mono hb.size))
      | (go_at_call 56; (with_reducible refine (HS2.out _ _ hb4).mono ?_); rintro r1 y5 ⟨v5, rfl, hb5, hl⟩; have hb := hb.trans (hl.mono hb.size); obtain ⟨ad5, cap5, rfl, hds5⟩ := hb5; have hb5 := bg_mk hds5)
      | (go_at_call 55; (with_reducible refine (H1.out _ _ hb5).mono ?_); rintro r1 y6 ⟨rfl, hl⟩; have hb := hb.trans (hl.mono hb.size))))
    go_ret
    exact ⟨rfl, hb⟩
set_option maxRecDepth 100000 in
theorem rfi_any (n : Int) (h1 : -9223372036854775808 ≤ n) (h2 : n ≤ 9223372036854775807) (w : World) : Calls Try.prog 33 #[.int .i64 n] w fun r w' => r = .returned (.int .u32 ((fiV n : Nat) : Int)) ∧ Below w.heap.size w w' := by
  have HF := Lib.hid (fun W => rfu_any n.natAbs (by omega) W)
  have hle := nearest_le n.natAbs 0
  by_cases hn : n < 0
  · have t0 : decide (n < 0) = true := decide_eq_true hn
    have HV := Lib.hid (show fiV n = wd true (Ieee.single.nearest false n.natAbs 0) by unfold fiV; rw [t0])
    have hor := sign_or true (Ieee.single.nearest false n.natAbs 0) (by omega)
    have hor2 : bits .or .u32 2147483648 ((Ieee.single.nearest false n.natAbs 0 : Nat) : Int) = ((wd true (Ieee.single.nearest false n.natAbs 0) : Nat) : Int) := hor
    have hw : IntKind.u64.wrap (wrap64 (-n)) = ((n.natAbs : Nat) : Int) := by rw [IntKind.wrap_u64]; unfold wrap64; omega
    clear hor hle
    generalize Ieee.single.nearest false n.natAbs 0 = R at *
    generalize wd true R = T at *
    generalize n.natAbs = a at *
    go_enter Try.func33, Try.ntmps33
    go_wp2_with (go_at_call 35; (with_reducible refine (HF.out _).mono ?_); rintro r1 y1 ⟨rfl, hl⟩)
    go_ret
    exact ⟨by rw [HV.out]; rfl, hl⟩
  · have t0 : decide (n < 0) = false := decide_eq_false hn
    have HV := Lib.hid (show fiV n = Ieee.single.nearest false n.natAbs 0 by unfold fiV; rw [t0, wd_false])
    have hw : IntKind.u64.wrap n = ((n.natAbs : Nat) : Int) := by rw [IntKind.wrap_u64]; omega
    clear hle
    generalize Ieee.single.nearest false n.natAbs 0 = R at *
    generalize n.natAbs = a at *
    go_enter Try.func33, Try.ntmps33
    go_wp2_with (go_at_call 35; (with_reducible refine (HF.out _).mono ?_); rintro r1 y1 ⟨rfl, hl⟩)
    go_ret
    exact ⟨by rw [HV.out]; rfl, hl⟩
end Go.Proofs.Ytoaecmoihbifoaa
