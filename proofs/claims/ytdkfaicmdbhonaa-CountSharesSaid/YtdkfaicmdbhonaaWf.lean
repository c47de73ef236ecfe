/-
  Layer 1: the document's sums of lists; sums of two.
-/
import Derived.Test.YtdkfaicmdbhonaaWe
namespace Go.Proofs.Ytdkfaicmdbhonaa
open Go.RowKit Go.K Go.Words
set_option linter.unusedVariables false
set_option linter.unusedSimpArgs false

theorem sumL_bound : ∀ l : List (BitVec 64), sumL l ≤ l.length * 18446744073709551616
  | [] => Nat.le_refl _
  | x :: r => by
    have h := sumL_bound r
    have hx := x.isLt
    have e : sumL (x :: r) = x.toNat + sumL r := by simp [sumL]
    rw [e, List.length_cons, Nat.succ_mul]; omega
theorem pw900_ge (n : Nat) (h : n < 340282366920938463463374607431768211456) : n < pw 900 := Nat.lt_of_lt_of_le h (by
  have : pw 4 = 340282366920938463463374607431768211456 := by decide
  rw [← this]; exact pw_le (by omega))
theorem sumL_small (l : List (BitVec 64)) (k : Nat) (hl : l.length ≤ 140737488351232) : ((sumL (l.take k) : Nat) : Int).natAbs < pw 900 := by
  refine pw900_ge _ ?_
  have h1 := sumL_take_le l k
  have h2 := sumL_bound l
  have h3 : l.length * 18446744073709551616 ≤ 140737488351232 * 18446744073709551616 := Nat.mul_le_mul_right _ hl
  omega
theorem bv_small (x : BitVec 64) : ((x.toNat : Nat) : Int).natAbs < pw 900 := pw900_ge _ (by have := x.isLt; omega)
set_option maxRecDepth 100000 in
theorem all_any (a : Option Addr) (cap : Nat) (l : List (BitVec 64)) (w : World) (hl : l.length ≤ 140737488351232) (hs : Sl w a (vQ l)) :
    Calls Try.prog 37 #[.slice a l.length cap] w fun e w' => e = .returned (.pointer (some ⟨w.heap.size, 0, none⟩)) ∧ IntAt w' w.heap.size (sumL l) ∧ Below w.heap.size w w' := by
  have HS := Lib.hid hs
  have HSM := Lib.hid (fun k => sumL_small l k hl)
  have hl2 : (l.length : Int) ≤ 140737488351232 := by omega
  clear hs
  go_enter Try.func37, Try.ntmps37
  go_wp2
  have HI := Lib.hid (intAt_zero w)
  have HB := Lib.hid ((Below.refl w.heap.size w).alloc (Nat.le_refl _) (.cells #[.bool false, .slice none 0 0] 42))
  go_loopw [4] (fun i wr => ∃ k : Nat, k ≤ l.length ∧ i = .int .i64 k ∧ IntAt wr w.heap.size (sumL (l.take k)) ∧ Below w.heap.size w wr) (fun i _ => l.length - (intOf i).toNat)
  case atStart => exact ⟨0, Nat.zero_le _, rfl, HI.out, HB.out⟩
  case round =>
    clear HI HB
    obtain ⟨k, hk, rfl, hi, hb⟩ := hrel
    have HI := Lib.hid hi
    have HB := Lib.hid hb
    clear hi hb
    by_cases hlt : k < l.length
    · obtain ⟨b, off, rfl, hc⟩ := (HS.out.kept HB.out) (vQ_ne hlt)
      have h1 := hc k (by rw [vQ_length]; exact hlt)
      rw [vQ_get l k hlt] at h1
      have t0 : decide ((k : Int) < (l.length : Int)) = true := by simp; omega
      have i1 : (k : Int) < (l.length : Int) := by omega
      have HX := Lib.hid (show ((sumL (l.take k) : Nat) : Int) + ((l[k].toNat : Nat) : Int) = ((sumL (l.take (k + 1)) : Nat) : Int) by
        rw [sumL_take_succ l k hlt]; omega)
      clear hc
      generalize l[k] = x at *
      go_wp2_with fail
      refine (big_any x _).mono ?_
      rintro e w1 ⟨rfl, hi1, hb1⟩
      have HI1 := Lib.hid (HI.out.kept hb1)
      have HB1 := Lib.hid (HB.out.trans (hb1.mono HB.out.size))
      have HJ := Lib.hid hi1
      clear hi1 hb1
      go_wp2_with fail
      refine (add_any w.heap.size w.heap.size wr.heap.size _ _ w1 HI1.out.isInt HI1.out HJ.out (HSM.out k) (bv_small x)).mono ?_
      rintro e w2 ⟨rfl, hgr, hi2⟩
      rw [HX.out] at hi2
      have HI2 := Lib.hid hi2
      have HB2 := Lib.hid (HB1.out.grown hgr HB1.out.size (fun k hk => by cases hk; exact Nat.le_refl _) : Below w.heap.size w w2)
      clear hi2 hgr
      go_wp2
      go_roundw
      case rel => exact ⟨k + 1, by omega, by go_num, HI2.out, HB2.out⟩
      case measure => simp [intOf]; omega
    · have t0 : decide ((k : Int) < (l.length : Int)) = false := by simp; omega
      have HE := Lib.hid (show l.take k = l from List.take_of_length_le (by omega))
      go_wp2
      go_ret
      exact ⟨rfl, by rw [← HE.out]; rw [HE.out]; have := HI.out; rwa [HE.out] at this, HB.out⟩
theorem rsum_any (a : Option Addr) (cap : Nat) (l : List (BitVec 64)) (w : World) (hl : l.length ≤ 140737488351232) (hs : Sl w a (vQ l)) :
    Calls Try.prog 14 #[.slice a l.length cap] w fun e w' => e = .returned (fitV (sumL l)) ∧ Below w.heap.size w w' := by
  have HC := Lib.hid (all_any a cap l w hl hs)
  have HM := Lib.hid (show ((sumL l : Nat) : Int).natAbs < pw 900 by have := sumL_small l l.length hl; rwa [List.take_length] at this)
  clear hs
  go_enter Try.func14, Try.ntmps14
  go_wp2_with fail
  refine HC.out.mono ?_
  rintro e w1 ⟨rfl, hi, hb⟩
  go_wp2_with fail
  refine (fit_any w.heap.size _ w1 hi HM.out).mono ?_
  rintro e w2 ⟨rfl, hq⟩
  have HB := Lib.hid (hb.trans (hq.below _))
  clear hi hb hq
  by_cases h : fits (sumL l : Nat)
  · have HF := Lib.hid (fitV_yes h)
    rw [HF.out]
    clear h
    go_wp2
    go_ret2
    exact ⟨by rw [HF.out]; rfl, HB.out⟩
  · have HF := Lib.hid (fitV_no h)
    rw [HF.out]
    clear h
    go_wp2
    go_ret2
    exact ⟨by rw [HF.out]; rfl, HB.out⟩
theorem radd_any (x y : BitVec 64) (w : World) : Calls Try.prog 17 #[.int .u64 (U64 x), .int .u64 (U64 y)] w fun e w' => e = .returned (fitV ((x.toNat + y.toNat : Nat) : Int)) ∧ Below w.heap.size w w' := by
  have HM := Lib.hid (show ((x.toNat : Int) + (y.toNat : Int)).natAbs < pw 900 from pw900_ge _ (by have := x.isLt; have := y.isLt; omega))
  have HE := Lib.hid (show ((x.toNat : Int) + (y.toNat : Int)) = ((x.toNat + y.toNat : Nat) : Int) by omega)
  go_enter Try.func17, Try.ntmps17
  go_wp2_with fail
  refine (big_any x _).mono ?_
  rintro e w1 ⟨rfl, hi1, hb1⟩
  have HZ1 := Lib.hid ((isInt_new w).kept hb1)
  rw [World.size_alloc] at hi1
  have HI1 := Lib.hid hi1
  have HB1 := Lib.hid (((Below.refl w.heap.size w).alloc (Nat.le_refl _) (.cells #[.bool false, .slice none 0 0] 42)).trans (hb1.mono (by simp)))
  clear hi1 hb1
  go_wp2_with fail
  refine (big_any y _).mono ?_
  rintro e w2 ⟨rfl, hi2, hb2⟩
  have HZ2 := Lib.hid (HZ1.out.kept hb2)
  have HI2 := Lib.hid (HI1.out.kept hb2)
  have HJ2 := Lib.hid hi2
  have HB2 := Lib.hid (HB1.out.trans (hb2.mono HB1.out.size))
  clear hi2 hb2
  go_wp2_with fail
  refine (add_any w.heap.size (w.heap.size + 1) w1.heap.size _ _ w2 HZ2.out HI2.out HJ2.out (bv_small x) (bv_small y)).mono ?_
  rintro e w3 ⟨rfl, hgr, hi3⟩
  have HI3 := Lib.hid hi3
  have HB3 := Lib.hid (HB2.out.grown hgr HB2.out.size (fun k hk => by cases hk; exact Nat.le_refl _) : Below w.heap.size w w3)
  clear hi3 hgr
  go_wp2_with fail
  refine (fit_any w.heap.size _ w3 HI3.out HM.out).mono ?_
  rintro e w4 ⟨rfl, hq⟩
  rw [HE.out]
  have HB4 := Lib.hid (HB3.out.trans (hq.below _))
  clear hq
  by_cases h : fits (x.toNat + y.toNat : Nat)
  · have HF := Lib.hid (fitV_yes h)
    rw [HF.out]
    clear h
    go_wp2
    go_ret2
    exact ⟨by rw [HF.out]; rfl, HB4.out⟩
  · have HF := Lib.hid (fitV_no h)
    rw [HF.out]
    clear h
    go_wp2
    go_ret2
    exact ⟨by rw [HF.out]; rfl, HB4.out⟩
end Go.Proofs.Ytdkfaicmdbhonaa
