/-
  Take undoes Add; Over undoes a product; a quotient, multiplied, and what is left, is the wide again; a product with a sum is the sum of the products.
  No condition beyond the statement's own.
-/
import Derived.Test.YtdkfaicmdbhonaaTk
import Derived.Test.YtdkfaicmdbhonaaGen
import Derived.Deep.DeepCutAuto
import Derived.Deep.CutBlock
import Derived.Deep.RegionHeld3
namespace Go.Proofs.Ytdkfaicmdbhonaa.lawCountBack
open Go.RowKit Go.K Go.ChangeShapes Go.WideShapes Go.ChangeAt Go.Words
set_option linter.unusedVariables false
set_option linter.unusedSimpArgs false
theorem u64_of (n : Nat) (h : n < 18446744073709551616) : U64 (BitVec.ofNat 64 n) = (n : Int) ∧ (BitVec.ofNat 64 n).toNat = n := by
  have : (BitVec.ofNat 64 n).toNat = n := by rw [BitVec.toNat_ofNat, Nat.mod_eq_of_lt (by omega)]
  exact ⟨by unfold U64; rw [this], this⟩
/-- A wide by its two numbers. -/
def wd (h l : Nat) : Value := .agg #[.int .u64 (h : Int), .int .u64 (l : Int)]
theorem wd_of (N : Nat) : wideA N = wd (N / 18446744073709551616) (N % 18446744073709551616) := rfl
theorem prod_n (x y : Nat) (hx : x < 18446744073709551616) (hy : y < 18446744073709551616) (w : World) : Calls Try.prog 23 #[.int .u64 (x : Nat), .int .u64 (y : Nat)] w fun e w' => e = .returned (.agg #[.int .u64 ((x * y / 18446744073709551616 : Nat) : Int), .int .u64 ((x * y % 18446744073709551616 : Nat) : Int)]) ∧ Below w.heap.size w w' := by
  have h := product_any (BitVec.ofNat 64 x) (BitVec.ofNat 64 y) w
  rw [(u64_of x hx).1, (u64_of y hy).1, (u64_of x hx).2, (u64_of y hy).2] at h
  exact h
theorem plus_n (h1 l1 h2 l2 : Nat) (a1 : h1 < 18446744073709551616) (a2 : l1 < 18446744073709551616) (a3 : h2 < 18446744073709551616) (a4 : l2 < 18446744073709551616) (N : Nat) (hN : h1 * 18446744073709551616 + l1 + (h2 * 18446744073709551616 + l2) = N) (hb : N < 340282366920938463463374607431768211456) (w : World) :
    Calls Try.prog 27 #[.agg #[.int .u64 (h1 : Nat), .int .u64 (l1 : Nat)], .agg #[.int .u64 (h2 : Nat), .int .u64 (l2 : Nat)]] w fun e w' => e = .returned (.tuple #[.agg #[.int .u64 ((N / 18446744073709551616 : Nat) : Int), .int .u64 ((N % 18446744073709551616 : Nat) : Int)], .int .i64 0]) ∧ Below w.heap.size w w' := by
  have h := wplus_any (BitVec.ofNat 64 h1) (BitVec.ofNat 64 l1) (BitVec.ofNat 64 h2) (BitVec.ofNat 64 l2) w
  unfold wN at h
  rw [(u64_of h1 a1).1, (u64_of l1 a2).1, (u64_of h2 a3).1, (u64_of l2 a4).1, (u64_of h1 a1).2, (u64_of l1 a2).2, (u64_of h2 a3).2, (u64_of l2 a4).2, hN] at h
  unfold plusV at h
  rw [if_pos hb] at h
  exact h
theorem cmp_n (h1 l1 : Nat) (a1 : h1 < 18446744073709551616) (a2 : l1 < 18446744073709551616) (w : World) :
    Calls Try.prog 32 #[.agg #[.int .u64 (h1 : Nat), .int .u64 (l1 : Nat)], .agg #[.int .u64 (h1 : Nat), .int .u64 (l1 : Nat)]] w fun e w' => e = .returned (.int .i64 0) ∧ Below w.heap.size w w' := by
  have h := wcmp_any (BitVec.ofNat 64 h1) (BitVec.ofNat 64 l1) (BitVec.ofNat 64 h1) (BitVec.ofNat 64 l1) w
  rw [(u64_of h1 a1).1, (u64_of l1 a2).1] at h
  have e : cmpI ((wN (BitVec.ofNat 64 h1) (BitVec.ofNat 64 l1) : Nat) : Int) ((wN (BitVec.ofNat 64 h1) (BitVec.ofNat 64 l1) : Nat) : Int) = 0 := by unfold cmpI; rw [if_neg (by omega), if_neg (by omega)]
  rw [e] at h
  exact h
theorem add_n (x y : Nat) (hx : x < 18446744073709551616) (hy : y < 18446744073709551616) (w : World) : Calls Try.prog 16 #[.int .u64 (x : Nat), .int .u64 (y : Nat)] w fun e w' => e = .returned (if x + y < 18446744073709551616 then .tuple #[.int .u64 ((x + y : Nat) : Int), .int .i64 0] else .tuple #[.int .u64 0, .int .i64 10]) ∧ w = w' := by
  have h := cadd_any (BitVec.ofNat 64 x) (BitVec.ofNat 64 y) w
  rw [(u64_of x hx).1, (u64_of y hy).1, (u64_of x hx).2, (u64_of y hy).2] at h
  by_cases c : x + y < 18446744073709551616
  · rw [if_pos c]
    rw [fitV_yes (by unfold fits; omega), Int.toNat_natCast, (u64_of (x + y) c).1] at h
    exact h
  · rw [if_neg c]
    rw [fitV_no (by unfold fits; omega)] at h
    exact h
theorem take_n (x y : Nat) (hx : x + y < 18446744073709551616) (w : World) : Calls Try.prog 18 #[.int .u64 ((x + y : Nat) : Int), .int .u64 (y : Nat)] w fun e w' => e = .returned (.tuple #[.int .u64 (x : Nat), .int .i64 0]) ∧ w = w' := by
  have h := ctake_any (BitVec.ofNat 64 (x + y)) (BitVec.ofNat 64 y) w
  rw [(u64_of (x + y) hx).1, (u64_of y (by omega)).1] at h
  rw [takeV_ge (by rw [(u64_of (x + y) hx).2, (u64_of y (by omega)).2]; omega)] at h
  have e : U64 (BitVec.ofNat 64 (x + y) - BitVec.ofNat 64 y) = (x : Int) := by
    unfold U64
    rw [BitVec.toNat_sub, (u64_of (x + y) hx).2, (u64_of y (by omega)).2]
    omega
  rw [e] at h
  exact h
theorem prod_lt (x y : Nat) (hx : x < 18446744073709551616) (hy : y < 18446744073709551616) : x * y < 340282366920938463463374607431768211456 := by
  have : x * y ≤ 18446744073709551615 * 18446744073709551615 := Nat.mul_le_mul (by omega) (by omega)
  omega
set_option maxRecDepth 100000 in
set_option maxHeartbeats 4000000 in
theorem walk (a b c : BitVec 64) (w : World) : Calls Try.prog 11 #[.int .u64 (U64 a), .int .u64 (U64 b), .int .u64 (U64 c)] w fun e w' => e = .returned (.bool true) ∧ Below w.heap.size w w' := by
  obtain ⟨x, hx⟩ : ∃ x, x = a.toNat := ⟨_, rfl⟩
  obtain ⟨y, hy⟩ : ∃ y, y = b.toNat := ⟨_, rfl⟩
  obtain ⟨z, hz⟩ : ∃ z, z = c.toNat := ⟨_, rfl⟩
  rw [show U64 a = (x : Int) by rw [hx]; rfl, show U64 b = (y : Int) by rw [hy]; rfl, show U64 c = (z : Int) by rw [hz]; rfl]
  have HX := Lib.hid (show x < 18446744073709551616 ∧ y < 18446744073709551616 ∧ z < 18446744073709551616 by rw [hx, hy, hz]; exact ⟨a.isLt, b.isLt, c.isLt⟩)
  clear hx hy hz
  have HAW := Lib.hid (awake_any w)
  go_enter Try.func11, Try.ntmps11
  go_wp2_with fail
  refine HAW.out.mono ?_
  rintro e w1 ⟨rfl, hb1⟩
  have HB1 := Lib.hid hb1
  obtain ⟨sv, ev, hse, hsc⟩ : ∃ sv ev : Int, (if x + y < 18446744073709551616 then Value.tuple #[.int .u64 ((x + y : Nat) : Int), .int .i64 0] else .tuple #[.int .u64 0, .int .i64 10]) = .tuple #[.int .u64 sv, .int .i64 ev] ∧ ((x + y < 18446744073709551616 ∧ sv = ((x + y : Nat) : Int) ∧ ev = 0) ∨ ev = 10) := by
    by_cases h : x + y < 18446744073709551616
    · exact ⟨_, _, if_pos h, .inl ⟨h, rfl, rfl⟩⟩
    · exact ⟨_, _, if_neg h, .inr rfl⟩
  have ka := add_n x y HX.out.1 HX.out.2.1 w1
  rw [hse] at ka
  have KA := Lib.hid ka
  have HSC := Lib.hid hsc
  clear hb1 HAW ka hse hsc
  obtain ⟨tb, htb⟩ : ∃ tb, (ev == 0) = tb := ⟨_, rfl⟩
  have HTB := Lib.hid htb
  go_wp2_with fail
  refine KA.out.mono ?_
  rintro e w2 ⟨rfl, rfl⟩
  go_upto_if 31 with fail
  clear htb KA
  go_cut [6] from 32 to 65 (fun s6 W => s6 = .bool false ∧ Below w.heap.size w W)
  case first =>
    cases tb
    case false =>
      go_wp2
      go_meet
      exact ⟨rfl, HB1.out⟩
    case true =>
      have hev : ev = 0 := by have := HTB.out; simpa using this
      obtain ⟨hfit, hsv⟩ : x + y < 18446744073709551616 ∧ sv = ((x + y : Nat) : Int) := by
        rcases HSC.out with ⟨h1, h2, _⟩ | h
        · exact ⟨h1, h2⟩
        · rw [hev] at h; cases h
      have KT := Lib.hid (take_n x y hfit w1)
      have K1 := Lib.hid (prod_n z x HX.out.2.2 HX.out.1 w1)
      have K2 := Lib.hid (fun V => prod_n z y HX.out.2.2 HX.out.2.1 V)
      have K3 := Lib.hid (fun V => prod_n z (x + y) HX.out.2.2 hfit V)
      have p1 := prod_lt z x HX.out.2.2 HX.out.1
      have p2 := prod_lt z y HX.out.2.2 HX.out.2.1
      have p3 := prod_lt z (x + y) HX.out.2.2 hfit
      obtain ⟨h1, e1⟩ : ∃ h, h = z * x / 18446744073709551616 := ⟨_, rfl⟩
      obtain ⟨l1, e2⟩ : ∃ h, h = z * x % 18446744073709551616 := ⟨_, rfl⟩
      obtain ⟨h2, e3⟩ : ∃ h, h = z * y / 18446744073709551616 := ⟨_, rfl⟩
      obtain ⟨l2, e4⟩ : ∃ h, h = z * y % 18446744073709551616 := ⟨_, rfl⟩
      obtain ⟨h3, e5⟩ : ∃ h, h = z * (x + y) / 18446744073709551616 := ⟨_, rfl⟩
      obtain ⟨l3, e6⟩ : ∃ h, h = z * (x + y) % 18446744073709551616 := ⟨_, rfl⟩
      have kp := fun V => plus_n h1 l1 h2 l2 (by omega) (by omega) (by omega) (by omega) (z * (x + y)) (by rw [Nat.mul_add]; omega) p3 V
      rw [← e5, ← e6] at kp
      have KP := Lib.hid kp
      have K1 := Lib.hid (show Calls Try.prog 23 #[.int .u64 (z : Nat), .int .u64 (x : Nat)] w1 fun e w' => e = .returned (.agg #[.int .u64 (h1 : Int), .int .u64 (l1 : Int)]) ∧ Below w1.heap.size w1 w' by rw [e1, e2]; exact K1.out)
      have K2 := Lib.hid (show ∀ V, Calls Try.prog 23 #[.int .u64 (z : Nat), .int .u64 (y : Nat)] V fun e w' => e = .returned (.agg #[.int .u64 (h2 : Int), .int .u64 (l2 : Int)]) ∧ Below V.heap.size V w' by rw [e3, e4]; exact K2.out)
      have K3 := Lib.hid (show ∀ V, Calls Try.prog 23 #[.int .u64 (z : Nat), .int .u64 sv] V fun e w' => e = .returned (.agg #[.int .u64 (h3 : Int), .int .u64 (l3 : Int)]) ∧ Below V.heap.size V w' by rw [e5, e6, hsv]; exact K3.out)
      rw [← hsv] at KT
      have q0 : ((x : Int) != (x : Int)) = false := by simp
      have q1 : ((h3 : Int) == (h3 : Int)) = true := by simp
      have q2 : ((l3 : Int) == (l3 : Int)) = true := by simp
      have q3 : ((h3 : Int) != (h3 : Int)) = false := by simp
      have q4 : ((l3 : Int) != (l3 : Int)) = false := by simp
      clear hev hfit hsv p1 p2 p3 e1 e2 e3 e4 e5 e6 kp
      go_wp2_with fail
      refine KT.out.mono ?_
      rintro e w2 ⟨rfl, rfl⟩
      go_wp2_with fail
      refine K1.out.mono ?_
      rintro e w3 ⟨rfl, hb3⟩
      have HB3 := Lib.hid (HB1.out.trans (hb3.mono HB1.out.size))
      clear hb3
      go_wp2_with fail
      refine (K2.out _).mono ?_
      rintro e w4 ⟨rfl, hb4⟩
      have HB4 := Lib.hid (HB3.out.trans (hb4.mono HB3.out.size))
      clear hb4
      go_wp2_with fail
      refine (KP.out _).mono ?_
      rintro e w5 ⟨rfl, hb5⟩
      have HB5 := Lib.hid (HB4.out.trans (hb5.mono HB4.out.size))
      clear hb5
      go_upto_region 7 with fail
      obtain ⟨w6, hw6⟩ : ∃ w6, w6 = w5.alloc (.cells #[.int .u64 (h3 : Int), .int .u64 (l3 : Int)] 34) := ⟨_, rfl⟩
      rw [← hw6]
      have hr6 : w6.heap[w5.heap.size]? = some (.cells #[.int .u64 (h3 : Int), .int .u64 (l3 : Int)] 34) := by rw [hw6]; exact alloc_at rfl
      have HB6 := Lib.hid (show Below w.heap.size w w6 by rw [hw6]; exact HB5.out.alloc HB5.out.size _)
      have x0 : w6.cell? ⟨w5.heap.size, 0, none⟩ = some (.int .u64 (h3 : Int)) := by rw [cell_of_row _ _ _ _ _ _ hr6]; rfl
      have x1 : w6.cell? ⟨w5.heap.size, 1, none⟩ = some (.int .u64 (l3 : Int)) := by rw [cell_of_row _ _ _ _ _ _ hr6]; rfl
      have hd : Below w6.heap.size w6 w6.drew := (Qt.drewN w6 1).below _
      clear hw6 hr6
      go_region_held3 (fun V => V.cell? ⟨w5.heap.size, 0, none⟩ = some (.int .u64 (h3 : Int)) ∧ V.cell? ⟨w5.heap.size, 1, none⟩ = some (.int .u64 (l3 : Int))) (go_keep)
        ((go_at_call 23; (with_reducible refine (K3.out _).mono ?_); rintro e1 y1 ⟨rfl, hy1⟩; have hc1 := hd.trans (hy1.mono hd.size); have u0 := below_cell hc1 x0; have u1 := below_cell hc1 x1))
      all_goals
        have HF := Lib.hid (HB6.out.trans (hc1.mono HB6.out.size))
        clear hd hc1 hy1 x0 x1 u0 u1
        go_wp2
        go_meet
        exact ⟨rfl, HF.out⟩
  case rest =>
  obtain ⟨rfl, hb0⟩ := hcut
  have HB := Lib.hid hb0
  clear hb0 HSC HTB HB1
  have K1 := prod_n x y HX.out.1 HX.out.2.1 wc
  have pb := prod_lt x y HX.out.1 HX.out.2.1
  obtain ⟨P, hP⟩ : ∃ P, P = x * y := ⟨_, rfl⟩
  rw [← hP] at K1 pb
  obtain ⟨h1, e1⟩ : ∃ h, h = P / 18446744073709551616 := ⟨_, rfl⟩
  obtain ⟨l1, e2⟩ : ∃ h, h = P % 18446744073709551616 := ⟨_, rfl⟩
  rw [← e1, ← e2] at K1
  have K1 := Lib.hid K1
  have HP := Lib.hid (show P = x * y ∧ h1 * 18446744073709551616 + l1 = P ∧ h1 < 18446744073709551616 ∧ l1 < 18446744073709551616 ∧ P < 340282366920938463463374607431768211456 ∧ h1 = P / 18446744073709551616 ∧ l1 = P % 18446744073709551616 from ⟨hP, by omega, by omega, by omega, pb, e1, e2⟩)
  clear pb hP e1 e2
  go_wp2_with fail
  refine K1.out.mono ?_
  rintro e w3 ⟨rfl, hb3⟩
  have HB3 := Lib.hid (HB.out.trans (hb3.mono HB.out.size))
  clear hb3 K1
  go_upto_region 10 with fail
  obtain ⟨w4, hw4⟩ : ∃ w4, w4 = w3.alloc (.cells #[.int .u64 (h1 : Int), .int .u64 (l1 : Int)] 34) := ⟨_, rfl⟩
  rw [← hw4]
  have HR := Lib.hid (show w4.heap[w3.heap.size]? = some (.cells #[.int .u64 (h1 : Int), .int .u64 (l1 : Int)] 34) by rw [hw4]; exact alloc_at rfl)
  have HB4 := Lib.hid (show Below w.heap.size w w4 by rw [hw4]; exact HB3.out.alloc HB3.out.size _)
  obtain ⟨bp, hbp⟩ : ∃ bp, bp = w3.heap.size := ⟨_, rfl⟩
  rw [← hbp] at HR ⊢
  have CEL := Lib.hid (show ∀ V : World, Below w4.heap.size w4 V → V.cell? ⟨bp, 0, none⟩ = some (.int .u64 (h1 : Int)) ∧ V.cell? ⟨bp, 1, none⟩ = some (.int .u64 (l1 : Int)) from fun V h => by
    have hr := row_kept HR.out h
    constructor <;> (rw [cell_of_row _ _ _ _ _ _ hr]; rfl))
  clear hw4 hbp HB3 HB HR
  -- Over(b)
  obtain ⟨q, r, f, ho, hoc⟩ : ∃ q r f : Int, overV P y = .tuple #[.int .u64 q, .int .u64 r, .int .i64 f] ∧ ((y = 0 ∧ f = 2) ∨ (0 < y ∧ q = (x : Int) ∧ r = 0 ∧ f = 0)) := by
    unfold overV
    by_cases h : y = 0
    · rw [if_pos h]; exact ⟨_, _, _, rfl, .inl ⟨h, rfl⟩⟩
    · rw [if_neg h]
      have hq : P / y = x := by rw [HP.out.1]; exact Nat.mul_div_cancel _ (by omega)
      have hr : P % y = 0 := by rw [HP.out.1]; exact Nat.mul_mod_left _ _
      rw [hq, hr, if_pos HX.out.1]
      exact ⟨_, _, _, rfl, .inr ⟨by omega, rfl, rfl, rfl⟩⟩
  have HOC := Lib.hid hoc
  have K2 := wover_any h1 l1 y w4 HP.out.2.2.1 HP.out.2.2.2.1 HX.out.2.1
  rw [HP.out.2.1, ho] at K2
  have K2 := Lib.hid K2
  obtain ⟨x0, x1⟩ := CEL.out w4 (Below.refl _ _)
  clear hoc ho
  go_wp2_with fail
  refine K2.out.mono ?_
  rintro e w5 ⟨rfl, hb5⟩
  have HB5 := Lib.hid hb5
  clear hb5 K2 x0 x1
  go_upto_region 11 with fail
  go_cut [98] from 76 to 98 (fun s W => s = .bool false ∧ W = w5)
  case first =>
    rcases HOC.out with ⟨h, hf⟩ | ⟨h, hq, hr, hf⟩
    · have t0 : ((y : Int) != 0) = false := by rw [bne_eq_false_iff_eq]; omega
      have t1 : ((y : Int) == 0) = true := by rw [beq_iff_eq]; omega
      subst hf
      clear h
      go_wp2
      go_meet
      exact ⟨rfl, rfl⟩
    · have t0 : ((y : Int) != 0) = true := by rw [bne_iff_ne]; omega
      have t1 : ((y : Int) == 0) = false := by rw [beq_eq_false_iff_ne]; omega
      have t2 : (q != (x : Int)) = false := by rw [hq]; simp
      subst hr hf
      clear h hq
      go_wp2
      go_meet
      exact ⟨rfl, rfl⟩
  case rest =>
  obtain ⟨rfl, rfl⟩ := hcut
  clear HOC
  -- Over(c)
  have K3 := wover_any h1 l1 z wc HP.out.2.2.1 HP.out.2.2.2.1 HX.out.2.2
  rw [HP.out.2.1] at K3
  obtain ⟨x0, x1⟩ := CEL.out wc HB5.out
  by_cases hz0 : z = 0
  · have ho : overV P z = .tuple #[.int .u64 0, .int .u64 0, .int .i64 2] := by unfold overV; rw [if_pos hz0]
    rw [ho] at K3
    have K3 := Lib.hid K3
    have t0 : ((z : Int) == 0) = true := by rw [beq_iff_eq]; omega
    clear hz0 ho
    go_wp2_with fail
    refine K3.out.mono ?_
    rintro e w6 ⟨rfl, hb6⟩
    have HB6 := Lib.hid (HB4.out.trans ((HB5.out.trans (hb6.mono HB5.out.size)).mono HB4.out.size))
    clear hb6 x0 x1
    go_wp2
    go_ret
    exact ⟨rfl, HB6.out⟩
  have t0 : ((z : Int) == 0) = false := by rw [beq_eq_false_iff_ne]; omega
  have t0' : ((z : Int) != 0) = true := by rw [bne_iff_ne]; omega
  by_cases hlt : P / z < 18446744073709551616
  case neg =>
    have ho : overV P z = .tuple #[.int .u64 0, .int .u64 0, .int .i64 10] := by unfold overV; rw [if_neg hz0, if_neg hlt]
    have hge : z ≤ h1 := by
      have := over_iff h1 l1 z HP.out.2.2.2.1 (by omega)
      rw [HP.out.2.1] at this
      omega
    rw [ho] at K3
    have K3 := Lib.hid K3
    have t1 : decide ((z : Int) ≤ (h1 : Int)) = true := decide_eq_true (by omega)
    have t1n : decide (z ≤ h1) = true := decide_eq_true hge
    clear hz0 ho hlt hge
    go_wp2_with fail
    refine K3.out.mono ?_
    rintro e w6 ⟨rfl, hb6⟩
    have HB6 := Lib.hid (HB5.out.trans (hb6.mono HB5.out.size))
    obtain ⟨x0, x1⟩ := CEL.out w6 HB6.out
    clear hb6
    go_wp2
    go_ret
    exact ⟨rfl, HB4.out.trans (HB6.out.mono HB4.out.size)⟩
  have ho : overV P z = .tuple #[.int .u64 ((P / z : Nat) : Int), .int .u64 ((P % z : Nat) : Int), .int .i64 0] := by unfold overV; rw [if_neg hz0, if_pos hlt]
  have hml : P % z < z := Nat.mod_lt _ (by omega)
  have hdm : P / z * z + P % z = P := by rw [Nat.mul_comm]; exact Nat.div_add_mod P z
  rw [ho] at K3
  obtain ⟨u, hu⟩ : ∃ u, u = P / z := ⟨_, rfl⟩
  obtain ⟨v, hv⟩ : ∃ v, v = P % z := ⟨_, rfl⟩
  rw [← hu, ← hv] at K3 hdm
  rw [← hu] at hlt
  rw [← hv] at hml
  have K3 := Lib.hid K3
  have K4 := fun V => prod_n u z hlt HX.out.2.2 V
  have pb := prod_lt u z hlt HX.out.2.2
  obtain ⟨h2, e3⟩ : ∃ h, h = u * z / 18446744073709551616 := ⟨_, rfl⟩
  obtain ⟨l2, e4⟩ : ∃ h, h = u * z % 18446744073709551616 := ⟨_, rfl⟩
  rw [← e3, ← e4] at K4
  have K4 := Lib.hid K4
  have K5 := fun V => plus_n h2 l2 0 v (by omega) (by omega) (by omega) (by have := HX.out.2.2; omega) P (by omega) HP.out.2.2.2.2.1 V
  rw [← HP.out.2.2.2.2.2.1, ← HP.out.2.2.2.2.2.2] at K5
  have K5 := Lib.hid (show ∀ V, Calls Try.prog 27 #[.agg #[.int .u64 (h2 : Int), .int .u64 (l2 : Int)], .agg #[.int .u64 0, .int .u64 (v : Int)]] V fun e w' => e = .returned (.tuple #[.agg #[.int .u64 (h1 : Int), .int .u64 (l1 : Int)], .int .i64 0]) ∧ Below V.heap.size V w' from K5)
  have K6 := Lib.hid (fun V => cmp_n h1 l1 HP.out.2.2.1 HP.out.2.2.2.1 V)
  have t1 : decide ((v : Int) < (z : Int)) = true := decide_eq_true (by omega)
  have t1n : decide (v < z) = true := decide_eq_true hml
  have q1 : ((h1 : Int) == (h1 : Int)) = true := by simp
  have q2 : ((l1 : Int) == (l1 : Int)) = true := by simp
  clear hz0 ho hlt hml hdm hu hv pb e3 e4
  go_wp2_with fail
  refine K3.out.mono ?_
  rintro e w6 ⟨rfl, hb6⟩
  have HB6 := Lib.hid (HB5.out.trans (hb6.mono HB5.out.size))
  clear hb6 x0 x1
  go_wp2_with fail
  refine (K4.out _).mono ?_
  rintro e w7 ⟨rfl, hb7⟩
  have HB7 := Lib.hid (HB6.out.trans (hb7.mono HB6.out.size))
  clear hb7
  go_wp2_with fail
  refine (K5.out _).mono ?_
  rintro e w8 ⟨rfl, hb8⟩
  have HB8 := Lib.hid (HB7.out.trans (hb8.mono HB7.out.size))
  clear hb8
  go_upto_region 17 with fail
  obtain ⟨w9, hw9⟩ : ∃ w9, w9 = w8.alloc (.cells #[.int .u64 (h1 : Int), .int .u64 (l1 : Int)] 34) := ⟨_, rfl⟩
  rw [← hw9]
  have hr9 : w9.heap[w8.heap.size]? = some (.cells #[.int .u64 (h1 : Int), .int .u64 (l1 : Int)] 34) := by rw [hw9]; exact alloc_at rfl
  have HB9 := Lib.hid (show Below w4.heap.size w4 w9 by rw [hw9]; exact HB8.out.alloc HB8.out.size _)
  obtain ⟨x0, x1⟩ := CEL.out w9 HB9.out
  have y0 : w9.cell? ⟨w8.heap.size, 0, none⟩ = some (.int .u64 (h1 : Int)) := by rw [cell_of_row _ _ _ _ _ _ hr9]; rfl
  have y1 : w9.cell? ⟨w8.heap.size, 1, none⟩ = some (.int .u64 (l1 : Int)) := by rw [cell_of_row _ _ _ _ _ _ hr9]; rfl
  clear hw9 hr9
  go_wp2_with fail
  refine (K6.out _).mono ?_
  rintro e w10 ⟨rfl, hb10⟩
  have HF := Lib.hid (HB4.out.trans ((HB9.out.trans (hb10.mono HB9.out.size)).mono HB4.out.size))
  clear hb10
  go_wp2
  go_ret
  exact ⟨rfl, HF.out⟩
theorem own : ownKnob Try.prog.godebug = none := by kernel_rfl
theorem laidOut : laidOutB Try.prog = true := by kernel_rfl
set_option maxRecDepth 100000 in
theorem lifted (os : Os) (started : os.Started) (H : Type) (enc : TypeId × Value → H) :
    ReturnsInHanded {} Try.checked os 11 .any (Rows.countBackSpec.pre6 enc Try.prog Try.f11 Rows.countBackRow.domain false) (Rows.countBackSpec.post enc Try.prog Try.f11 false true false false) := by
  refine returnsInHanded_of_change_sized (C := Try.checked) own started (by kernel_rfl) Try.func11
    (ChangeSpec.witness6 (enc := enc) (C := Try.checked) false ⟨#[], #[.int .u64 0, .int .u64 0, .int .u64 0], []⟩ 8 (by kernel_rfl) (by kernel_rfl) (by kernel_rfl) (by kernel_rfl)) ?_
  intro W base args ds gs before hval0 hW hcnd hsz0 _
  have hsz : (DataW.weightsEach Try.prog (Try.f11.params.toList ++ Rows.countBackSpec.plain.varTypes Try.prog) (ds ++ gs)).all (· ≤ reachBytes) = true := hsz0
  clear hsz0
  have hval : ∀ (j : Nat) t v, Try.f11.params[j]? = some t → args[j]? = some v → Value.okWide Try.prog W .any base t v := hval0
  have hW' := hW
  obtain ⟨p, q, hA0, hV, rfl, hfz, hnd⟩ := hW
  have hA : DataW.TrodAll enc Try.prog W 0 (fun _ => true) true Try.f11.params.toList args.toList ds p := hA0
  rw [Try.params11] at hA hval hsz
  obtain ⟨v0, vs0, d0, ds0, p0, q0, hargs, rfl, rfl, h0, r0⟩ := trodAll_cons hA
  obtain ⟨v1, vs1, d1, ds1, p1, q1, rfl, rfl, rfl, h1, r1⟩ := trodAll_cons r0
  obtain ⟨v2, vs2, d2, ds2, p2, q2, rfl, rfl, rfl, h2, r2⟩ := trodAll_cons r1
  obtain ⟨rfl, rfl, rfl⟩ := trodAll_nil r2
  obtain rfl : args = #[v0, v1, v2] := by cases args; simp_all
  obtain ⟨rfl, rfl⟩ := trodVars_none hV
  obtain ⟨a0, rfl, rfl, rfl, w0⟩ := open_int Try.underlying24 (hval 0 24 v0 rfl rfl) h0
  obtain ⟨x0, rfl⟩ := u64_of_wf w0
  obtain ⟨a1, rfl, rfl, rfl, w1⟩ := open_int Try.underlying24 (hval 1 24 v1 rfl rfl) h1
  obtain ⟨x1, rfl⟩ := u64_of_wf w1
  obtain ⟨a2, rfl, rfl, rfl, w2⟩ := open_int Try.underlying24 (hval 2 24 v2 rfl rfl) h2
  obtain ⟨x2, rfl⟩ := u64_of_wf w2
  clear hA0 hval0
  refine (walk x0 x1 x2 W).mono fun e W' ⟨he, bel⟩ => ?_
  subst he
  exact ⟨_, rfl, _, _, _, [], _, [], hW', trodAll_mk1 (shut_bool Try.underlying4 _), (trodAll_cons_mk (shut_int Try.underlying24 w0) (trodAll_cons_mk (shut_int Try.underlying24 w1) (trodAll_cons_mk (shut_int Try.underlying24 w2) trodAll_mk0))), rfl, bel.frame _, fun h => by cases h⟩
theorem over : Rows.countBackRow.holds Try.pinned (OpenSpec.ofChange Rows.countBackSpec) :=
  OpenClaim.holds_of_wide 11 Try.f11 rfl rfl rfl rfl rfl rfl rfl ⟨rfl, rfl, rfl, rfl, rfl⟩ rfl rfl rfl rfl rfl (by kernel_rfl) Try.func11 (by kernel_rfl)
    (of_decide_eq_true (by kernel_rfl)) (by unfold Func.isWrapper; first | (rw [if_pos (by decide +kernel)]; kernel_rfl) | (rw [if_neg (by decide +kernel)]; exact ⟨rfl, rfl⟩))
    (fun os started H enc _ => lifted os started H enc)
theorem proved : Rows.CountBackSaid := over
#print axioms proved
end Go.Proofs.Ytdkfaicmdbhonaa.lawCountBack
