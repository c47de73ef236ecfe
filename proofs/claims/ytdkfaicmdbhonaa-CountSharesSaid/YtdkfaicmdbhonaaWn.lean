/-
  Layer 1: products of two numbers of 64 bits: the program's and the document's.
-/
import Derived.Test.YtdkfaicmdbhonaaWm
import Derived.Lib.Mul64
import Derived.Laws.Bits64b
namespace Go.Proofs.Ytdkfaicmdbhonaa
open Go.RowKit Go.K Go.Words
set_option linter.unusedVariables false
set_option linter.unusedSimpArgs false

theorem maskN (a : Nat) (ha : a < 18446744073709551616) : bits .and .u64 (a : Int) 4294967295 = ((a % 4294967296 : Nat) : Int) := by
  have h := bits_and_u64_nat a 4294967295 ha (by omega)
  have e : a &&& 4294967295 = a % 4294967296 := Nat.and_two_pow_sub_one_eq_mod a 32
  rw [e] at h
  exact h
theorem divN (a : Nat) : (a : Int) / 4294967296 = ((a / 4294967296 : Nat) : Int) := by omega
theorem mulN (a b : Nat) : (a : Int) * (b : Int) = ((a * b : Nat) : Int) := (Int.natCast_mul a b).symm
theorem addN (a b : Nat) : (a : Int) + (b : Int) = ((a + b : Nat) : Int) := (Int.natCast_add a b).symm
theorem wrapN (a : Nat) (ha : a < 18446744073709551616) : IntKind.u64.wrap (a : Int) = (a : Int) := by rw [IntKind.wrap_u64]; omega
theorem wrapM (a : Nat) : IntKind.u64.wrap (a : Int) = ((a % 18446744073709551616 : Nat) : Int) := by rw [IntKind.wrap_u64]; omega
set_option maxHeartbeats 1000000 in
theorem mul64_any (x y : Nat) (hx : x < 18446744073709551616) (hy : y < 18446744073709551616) (w : World) :
    Calls Try.prog 46 #[.int .u64 x, .int .u64 y] w fun e w' => e = .returned (.tuple #[.int .u64 ((x * y / 18446744073709551616 : Nat) : Int), .int .u64 ((x * y % 18446744073709551616 : Nat) : Int)]) ∧ w = w' := by
  obtain ⟨bd, bt, bw, hhi⟩ := Lib.mul64_hi x y hx hy
  have ba := Lib.half_mul_le (a := x / 4294967296) (b := y / 4294967296) (by omega) (by omega)
  have bb := Lib.half_mul_le (a := x / 4294967296) (b := y % 4294967296) (by omega) (by omega)
  have bc := Lib.half_mul_le (a := x % 4294967296) (b := y / 4294967296) (by omega) (by omega)
  have ba' : x / 4294967296 * (y / 4294967296) < 18446744073709551616 := by omega
  have bb' : x / 4294967296 * (y % 4294967296) < 18446744073709551616 := by omega
  have bc' : x % 4294967296 * (y / 4294967296) < 18446744073709551616 := by omega
  have bh1 : x / 4294967296 * (y / 4294967296) + (x / 4294967296 * (y % 4294967296) + x % 4294967296 * (y % 4294967296) / 4294967296) / 4294967296 < 18446744073709551616 := by omega
  have bh : x / 4294967296 * (y / 4294967296) + (x / 4294967296 * (y % 4294967296) + x % 4294967296 * (y % 4294967296) / 4294967296) / 4294967296 + ((x / 4294967296 * (y % 4294967296) + x % 4294967296 * (y % 4294967296) / 4294967296) % 4294967296 + x % 4294967296 * (y / 4294967296)) / 4294967296 < 18446744073709551616 := by omega
  have B1 := Lib.hid bd
  have B2 := Lib.hid bb'
  have B3 := Lib.hid bt
  have B4 := Lib.hid bc'
  have B5 := Lib.hid bw
  have B6 := Lib.hid ba'
  have B7 := Lib.hid bh1
  have B8 := Lib.hid bh
  have BX := Lib.hid hx
  have BY := Lib.hid hy
  have BH := Lib.hid hhi
  clear bd bb' bt bc' bw ba' bh1 bh hx hy hhi ba bb bc
  go_enter Try.func46, Try.ntmps46
  go_wp2
  simp only [maskN x BX.out, maskN y BY.out, divN, mulN, addN, wrapN _ B1.out, wrapN _ B2.out, wrapN _ B3.out, maskN _ B3.out, wrapN _ B4.out, wrapN _ B5.out, wrapN _ B6.out, wrapN _ B7.out, wrapN _ B8.out, wrapM (x * y)]
  rw [BH.out]
  go_ret2
  exact ⟨rfl, rfl⟩
theorem ctimes_any (x y : BitVec 64) (w : World) : Calls Try.prog 20 #[.int .u64 (U64 x), .int .u64 (U64 y)] w fun e w' => e = .returned (fitV ((x.toNat * y.toNat : Nat) : Int)) ∧ w = w' := by
  have HC := Lib.hid (mul64_any x.toNat y.toNat x.isLt y.isLt w)
  by_cases h : x.toNat * y.toNat < 18446744073709551616
  · have e0 : x.toNat * y.toNat / 18446744073709551616 = 0 := Nat.div_eq_of_lt h
    have HF := Lib.hid (show fitV ((x.toNat * y.toNat : Nat) : Int) = .tuple #[.int .u64 ((x.toNat * y.toNat % 18446744073709551616 : Nat) : Int), .int .i64 0] by
      rw [fitV_yes (by unfold fits; omega)]
      have : U64 (BitVec.ofNat 64 ((x.toNat * y.toNat : Nat) : Int).toNat) = ((x.toNat * y.toNat % 18446744073709551616 : Nat) : Int) := by
        unfold U64; rw [BitVec.toNat_ofNat, Int.toNat_natCast]
      rw [this])
    rw [e0] at HC
    clear h e0
    generalize x.toNat * y.toNat % 18446744073709551616 = r at *
    go_enter Try.func20, Try.ntmps20
    go_wp2_with fail
    refine HC.out.mono ?_
    rintro e w1 ⟨rfl, rfl⟩
    go_wp2
    go_ret2
    exact ⟨by rw [HF.out]; rfl, rfl⟩
  · have hp : 0 < x.toNat * y.toNat / 18446744073709551616 := Nat.div_pos (by omega) (by omega)
    have HF := Lib.hid (show fitV ((x.toNat * y.toNat : Nat) : Int) = .tuple #[.int .u64 0, .int .i64 10] from fitV_no (by unfold fits; omega))
    clear h
    generalize x.toNat * y.toNat % 18446744073709551616 = r at *
    generalize x.toNat * y.toNat / 18446744073709551616 = q at *
    have t0 : ((q : Int) != 0) = true := by rw [bne_iff_ne]; omega
    go_enter Try.func20, Try.ntmps20
    go_wp2_with fail
    refine HC.out.mono ?_
    rintro e w1 ⟨rfl, rfl⟩
    go_wp2
    go_ret2
    exact ⟨by rw [HF.out]; rfl, rfl⟩
set_option maxRecDepth 100000 in
theorem rtimes_any (x y : BitVec 64) (w : World) : Calls Try.prog 21 #[.int .u64 (U64 x), .int .u64 (U64 y)] w fun e w' => e = .returned (fitV ((x.toNat * y.toNat : Nat) : Int)) ∧ Below w.heap.size w w' := by
  have HM := Lib.hid (show ((x.toNat : Int) * (y.toNat : Int)).natAbs < pw 900 from pw900_ge _ (by
    rw [Int.natAbs_mul, Int.natAbs_natCast, Int.natAbs_natCast]
    have := x.isLt; have := y.isLt
    have : x.toNat * y.toNat ≤ 18446744073709551615 * 18446744073709551615 := Nat.mul_le_mul (by omega) (by omega)
    omega))
  have HE := Lib.hid (show ((x.toNat : Int) * (y.toNat : Int)) = ((x.toNat * y.toNat : Nat) : Int) from (Int.natCast_mul _ _).symm)
  go_enter Try.func21, Try.ntmps21
  go_wp2_with fail
  refine (big_any x _).mono ?_
  rintro e w1 ⟨rfl, hi1, hb1⟩
  have HZ1 := Lib.hid ((isInt_new w).kept hb1)
  rw [World.size_alloc] at hi1
  have HI1 := Lib.hid hi1
  have HB1 := Lib.hid (((Below.refl w.heap.size w).alloc (Nat.le_refl _) (.cells #[.bool false, .slice none 0 0] 42)).trans (hb1.mono (by simp)))
  clear hi1 hb1
  go_wp2_with fail
  refine (big_any y _).mono ?_
  rintro e w2 ⟨rfl, hi2, hb2⟩
  have HZ2 := Lib.hid (HZ1.out.kept hb2)
  have HI2 := Lib.hid (HI1.out.kept hb2)
  have HJ2 := Lib.hid hi2
  have HB2 := Lib.hid (HB1.out.trans (hb2.mono HB1.out.size))
  clear hi2 hb2
  go_wp2_with fail
  refine (mul_any w.heap.size (w.heap.size + 1) w1.heap.size _ _ w2 HZ2.out HI2.out HJ2.out (bv_small x) (bv_small y)).mono ?_
  rintro e w3 ⟨rfl, hgr, hi3⟩
  have HI3 := Lib.hid hi3
  have HB3 := Lib.hid (HB2.out.grown hgr HB2.out.size (fun k hk => by cases hk; exact Nat.le_refl _) : Below w.heap.size w w3)
  clear hi3 hgr
  go_wp2_with fail
  refine (fit_any w.heap.size _ w3 HI3.out HM.out).mono ?_
  rintro e w4 ⟨rfl, hq⟩
  rw [HE.out]
  have HB4 := Lib.hid (HB3.out.trans (hq.below _))
  clear hq
  by_cases h : fits ((x.toNat * y.toNat : Nat) : Int)
  · have HF := Lib.hid (fitV_yes h)
    rw [HF.out]
    clear h
    go_wp2
    go_ret2
    exact ⟨by rw [HF.out]; rfl, HB4.out⟩
  · have HF := Lib.hid (fitV_no h)
    rw [HF.out]
    clear h
    go_wp2
    go_ret2
    exact ⟨by rw [HF.out]; rfl, HB4.out⟩
end Go.Proofs.Ytdkfaicmdbhonaa
