/-
  Layer 3, the reference: roots, totals of finite words, sums, differences.
-/
import Derived.Test.YtoaecmoihbifoaaNl
namespace Go.Proofs.Ytoaecmoihbifoaa
open Go.RowKit Go.K Go.R
set_option linter.unusedVariables false
set_option linter.unusedSimpArgs false
theorem sign_and (x : Nat) (hx : x < 4294967296) : bits .and .u32 (x : Int) 2147483648 = ((wd (sgn x) 0 : Nat) : Int) := by
  show IntKind.u32.wrap (((BitVec.ofInt 32 (x : Int)) &&& (BitVec.ofInt 32 2147483648)).toNat : Int) = _
  have h2 : (BitVec.ofInt 32 (x : Int) &&& BitVec.ofInt 32 2147483648).toNat = wd (sgn x) 0 := by
    have e : (BitVec.ofInt 32 2147483648).toNat = 2 ^ 31 := by decide
    rw [BitVec.toNat_and, BitVec.ofInt_natCast, BitVec.toNat_ofNat, e, Nat.mod_eq_of_lt (show x < 2 ^ 32 from hx), and_pow, sgn_test]
    unfold wd
    cases x.testBit 31 <;> decide
  rw [h2, IntKind.wrap_u32]
  unfold wd
  split <;> omega
theorem sign_flip (x : Nat) (hx : x < 4294967296) : bits .xor .u32 (x : Int) 2147483648 = ((flip x : Nat) : Int) := by
  show IntKind.u32.wrap (((BitVec.ofInt 32 (x : Int)) ^^^ (BitVec.ofInt 32 2147483648)).toNat : Int) = _
  have h2 : (BitVec.ofInt 32 (x : Int) ^^^ BitVec.ofInt 32 2147483648).toNat = flip x := by
    have e : (BitVec.ofInt 32 2147483648).toNat = 2 ^ 31 := by decide
    rw [BitVec.toNat_xor, BitVec.ofInt_natCast, BitVec.toNat_ofNat, e, Nat.mod_eq_of_lt (show x < 2 ^ 32 from hx)]
    have hb : ∀ b, b < 2 ^ 31 → b ^^^ 2 ^ 31 = 2 ^ 31 + b := fun b hb => by
      have h := Nat.two_pow_add_eq_or_of_lt (i := 31) (b := b) hb 1
      rw [Nat.mul_one] at h
      rw [h]
      apply Nat.eq_of_testBit_eq
      intro j
      rw [Nat.testBit_xor, Nat.testBit_or, Nat.testBit_two_pow]
      by_cases hj : 31 = j
      · subst hj
        rw [Nat.testBit_lt_two_pow hb]; rfl
      · rw [decide_eq_false hj]; simp
    unfold flip sgn
    by_cases h : x / 2147483648 % 2 = 1
    · rw [if_pos (by simpa using h)]
      have h3 := hb (x - 2147483648) (show x - 2147483648 < 2 ^ 31 by omega)
      have h4 : x = (x - 2147483648) ^^^ 2 ^ 31 := by rw [h3]; omega
      conv => lhs; rw [h4]
      rw [Nat.xor_assoc, Nat.xor_self, Nat.xor_zero]
    · rw [if_neg (by simpa using h)]
      rw [hb x (show x < 2 ^ 31 by omega)]
      have : (2 : Nat) ^ 31 = 2147483648 := by decide
      omega
  rw [h2, IntKind.wrap_u32]
  have := flip_lt hx
  omega
set_option maxRecDepth 100000 in
set_option maxHeartbeats 4000000 in
theorem rsqrt_any (x : Nat) (hx : x < 4294967296) (w : World) : Calls Try.prog 24 #[.int .u32 (x : Int)] w fun r w' => r = .returned (.int .u32 ((sqV x : Nat) : Int)) ∧ Below w.heap.size w w' := by
  obtain ⟨lx, cx⟩ := cls x hx
  have HCX := Lib.hid (fun W => rclean_any x W)
  have HKX := Lib.hid (fun W => rkind_any (cleanW x) W)
  have HPX := Lib.hid (fun W => parts_any (cleanW x) lx W)
  have hS := sign_and (cleanW x) lx
  have HW := Lib.hid (kind_word hx)
  rcases cx with ⟨hnx, hcx⟩ | ⟨hnx, hcx, hnex, ⟨hrx, hkx⟩ | ⟨hrx, hkx⟩ | ⟨hrx1, hrx2, hkx, hkx3⟩⟩
  · have HV := Lib.hid (show sqV x = 2143289344 by unfold sqV; rw [if_pos hnx])
    have HA := Lib.hid hcx
    have HK3 := Lib.hid (show (kindW (cleanW x) == 3) = false by rw [hcx]; decide)
    have k3 := HK3.out
    have t1 : ((cleanW x : Int) == 2139095040) = false := by rw [hcx]; decide
    have t2 : ((cleanW x : Int) == 2143289344) = true := by rw [hcx]; decide
    clear hcx hnx HK3
    generalize kindW (cleanW x) = kx at *
    generalize cleanW x = ax at *
    go_enter Try.func24, Try.ntmps24
    go_wp2_with ((first | (go_at_call 10; (with_reducible refine (HCX.out _).mono ?_); rintro r1 y1 ⟨rfl, rfl⟩) | (go_at_call 14; (with_reducible refine (HKX.out _).mono ?_); rintro r1 y1 ⟨rfl, rfl⟩)))
    go_ret
    exact ⟨by rw [HV.out, ← HA.out]; rfl, Below.refl _ _⟩
  · rw [hcx] at HCX HKX HPX hS
    have k3 : (kindW x == 3) = false := by rw [hkx]; decide
    have t2 : ((x : Int) == 2143289344) = false := by rw [beq_eq_false_iff_ne]; omega
    have hxw := HW.out
    rw [hrx] at hxw
    cases hs : sgn x
    · rw [hs] at hxw hS
      have HV := Lib.hid (show sqV x = x by unfold sqV; rw [if_neg (by rw [hnx]; decide), if_neg (by omega), hs, if_neg (by decide), if_pos hrx]; exact hxw.symm)
      have t1 : ((x : Int) == 2139095040) = true := by rw [hxw, wd_false]; decide
      clear hkx hnex hcx hnx hxw HW hs hS
      generalize kindW x = kx at *
      generalize sqV x = V at *
      go_enter Try.func24, Try.ntmps24
      go_wp2_with ((first | (go_at_call 10; (with_reducible refine (HCX.out _).mono ?_); rintro r1 y1 ⟨rfl, rfl⟩) | (go_at_call 14; (with_reducible refine (HKX.out _).mono ?_); rintro r1 y1 ⟨rfl, rfl⟩)))
      go_ret
      exact ⟨by rw [HV.out]; rfl, Below.refl _ _⟩
    · rw [hs] at hxw hS
      have HV := Lib.hid (show sqV x = 2143289344 by unfold sqV; rw [if_neg (by rw [hnx]; decide), if_neg (by omega), hs, if_pos rfl])
      have t1 : ((x : Int) == 2139095040) = false := by rw [hxw]; decide
      have tS : (((wd true 0 : Nat) : Int) != 0) = true := by decide
      clear hkx hnex hcx hnx hxw HW hs
      generalize kindW x = kx at *
      generalize sqV x = V at *
      generalize wd true 0 = S at *
      go_enter Try.func24, Try.ntmps24
      go_wp2_with ((first | (go_at_call 10; (with_reducible refine (HCX.out _).mono ?_); rintro r1 y1 ⟨rfl, rfl⟩) | (go_at_call 14; (with_reducible refine (HKX.out _).mono ?_); rintro r1 y1 ⟨rfl, rfl⟩)))
      go_ret
      exact ⟨by rw [HV.out]; rfl, Below.refl _ _⟩
  · rw [hcx] at HCX HKX HPX hS
    have k3 : (kindW x == 3) = true := by rw [hkx]; decide
    have HV := Lib.hid (show sqV x = x by unfold sqV; rw [if_neg (by rw [hnx]; decide), if_pos hrx])
    clear hkx hnex hcx hnx HW
    generalize kindW x = kx at *
    generalize sqV x = V at *
    go_enter Try.func24, Try.ntmps24
    go_wp2_with ((first | (go_at_call 10; (with_reducible refine (HCX.out _).mono ?_); rintro r1 y1 ⟨rfl, rfl⟩) | (go_at_call 14; (with_reducible refine (HKX.out _).mono ?_); rintro r1 y1 ⟨rfl, rfl⟩)))
    go_ret
    exact ⟨by rw [HV.out]; rfl, Below.refl _ _⟩
  · rw [hcx] at HCX HKX HPX hS
    have k3 : (kindW x == 3) = false := by rw [beq_eq_false_iff_ne]; exact hkx3
    have t2 : ((x : Int) == 2143289344) = false := by rw [beq_eq_false_iff_ne]; omega
    have t1 : ((x : Int) == 2139095040) = false := by
      rw [beq_eq_false_iff_ne]
      intro h
      have h2 : x = 2139095040 := by omega
      rw [h2] at hrx2
      exact absurd hrx2 (by decide)
    cases hs : sgn x
    · rw [hs] at hS
      have tS : (((wd false 0 : Nat) : Int) != 0) = false := by decide
      obtain ⟨b1, b2, m', p', M, E, e1, e2, e3, e4, e5, e6, e7, e8, e9, e10⟩ := root_word x hrx1 hrx2
      have HV := Lib.hid (show sqV x = Ieee.single.nearest false m' p' by unfold sqV; rw [if_neg (by rw [hnx]; decide), if_neg (by omega), hs, if_neg (by decide), if_neg (by omega)]; exact e6)
      have H1 := Lib.hid (fun W => near3_any (pm (rg x)) (pe (rg x)) m' p' W (pm_lt _) (pe_ge _) (pe_le _ hrx2) e7 (by omega) e10)
      clear e1 e2 e3 e4 e5 e6 e7 e8 e9 e10 hkx hkx3 hnex hcx hnx HW hs hrx1 hrx2
      generalize Ieee.single.nearest false m' p' = R at *
      generalize kindW x = kx at *
      generalize sqV x = V at *
      generalize wd false 0 = S at *
      generalize pm (rg x) = mx at *
      generalize pe (rg x) = ex at *
      go_enter Try.func24, Try.ntmps24
      go_wp2_with ((first | (go_at_call 10; (with_reducible refine (HCX.out _).mono ?_); rintro r1 y1 ⟨rfl, rfl⟩) | (go_at_call 14; (with_reducible refine (HKX.out _).mono ?_); rintro r1 y1 ⟨rfl, rfl⟩) | (go_at_call 54; (with_reducible refine (HPX.out _).mono ?_); rintro r1 y1 ⟨rfl, rfl⟩) | (go_at_call 55; (with_reducible refine (H1.out _).mono ?_); rintro r1 y2 ⟨rfl, hl⟩)))
      go_ret
      exact ⟨by rw [HV.out]; rfl, hl⟩
    · rw [hs] at hS
      have HV := Lib.hid (show sqV x = 2143289344 by unfold sqV; rw [if_neg (by rw [hnx]; decide), if_neg (by omega), hs, if_pos rfl])
      have tS : (((wd true 0 : Nat) : Int) != 0) = true := by decide
      clear hkx hkx3 hnex hcx hnx HW hs hrx1 hrx2
      generalize kindW x = kx at *
      generalize sqV x = V at *
      generalize wd true 0 = S at *
      go_enter Try.func24, Try.ntmps24
      go_wp2_with ((first | (go_at_call 10; (with_reducible refine (HCX.out _).mono ?_); rintro r1 y1 ⟨rfl, rfl⟩) | (go_at_call 14; (with_reducible refine (HKX.out _).mono ?_); rintro r1 y1 ⟨rfl, rfl⟩)))
      go_ret
      exact ⟨by rw [HV.out]; rfl, Below.refl _ _⟩
end Go.Proofs.Ytoaecmoihbifoaa
