/-
  Layer 3, the reference: products, quotients, roots.
-/
import Derived.Test.YtoaecmoihbifoaaNk
namespace Go.Proofs.Ytoaecmoihbifoaa
open Go.RowKit Go.K Go.R
set_option linter.unusedVariables false
set_option linter.unusedSimpArgs false
theorem bg_mk {W : World} {ad : Option Addr} {cap n : Nat} (h : Ds W ad cap (digs n)) : Bg W (.slice ad (digs n).length cap) n := ⟨ad, cap, rfl, h⟩
theorem near1_any (T : Nat) (tv : Value) (M E N F : Int) (mag : Nat) (place : Int) (w : World) (h0 : 0 < mag) (hp : -600 ≤ place) (hT : T = sc (-600) mag place) (hTl : (digs T).length ≤ 1000) (hb : Bg w tv T) :
    Calls Try.prog 55 #[.agg #[.int .i64 1, tv, .int .i64 M, .int .i64 E, .int .i64 N, .int .i64 F]] w fun r w' => r = .returned (.int .u32 ((Ieee.single.nearest false mag place : Nat) : Int)) ∧ Below w.heap.size w w' := by
  have HT := fun W (h : Below w.heap.size w W) => hb.kept h
  obtain ⟨ad, cap, e, -⟩ := hb
  subst e
  exact nearest_any 1 ad _ cap M E N F (fun m e => icmp T (sc (-600) m e)) mag place (-600) h0 hp (by decide) (fun m e h1 h2 h3 => by rw [hT]) w
    (fun W hW m e h1 h2 h3 => held1_any T _ M E N F m e W (HT W hW) hTl (by omega) (by omega) (by omega))
theorem dv_pos (M N : Nat) (hM : 0 < M) (hM2 : M < 33554432) (hN : 0 < N) : 0 < dvM M N := by
  unfold dvM
  have l1 : 2 ^ M.log2 ≤ M := Nat.log2_self_le (by omega)
  have l2 : N < 2 ^ (N.log2 + 1) := Nat.lt_log2_self
  have l3 : M.log2 < 25 := (Nat.log2_lt (by omega)).2 hM2
  have h1 : N ≤ M <<< (25 + N.log2 - M.log2) := by
    rw [Nat.shiftLeft_eq]
    have h2 : 2 ^ M.log2 * 2 ^ (25 + N.log2 - M.log2) ≤ M * 2 ^ (25 + N.log2 - M.log2) := Nat.mul_le_mul_right _ l1
    rw [← Nat.pow_add] at h2
    have h3 : (2 : Nat) ^ (N.log2 + 1) ≤ 2 ^ (M.log2 + (25 + N.log2 - M.log2)) := Nat.pow_le_pow_right (by decide) (by omega)
    omega
  have h4 : 1 ≤ (M <<< (25 + N.log2 - M.log2)) / N := (Nat.le_div_iff_mul_le hN).2 (by omega)
  omega
theorem near2_any (M N : Nat) (E F : Int) (w : World) (hM : 0 < M) (hM2 : M < 16777216) (hN : 0 < N) (hN2 : N < 16777216) (hE : -149 ≤ E) (hE2 : E ≤ 104) (hF : -149 ≤ F) (hF2 : F ≤ 104) :
    Calls Try.prog 55 #[.agg #[.int .i64 2, .slice none 0 0, .int .i64 (M : Int), .int .i64 E, .int .i64 (N : Int), .int .i64 F]] w fun r w' => r = .returned (.int .u32 ((Ieee.single.nearest false (dvM M N) (dvP M N E F) : Nat) : Int)) ∧ Below w.heap.size w w' := by
  have l1 : N.log2 < 24 := (Nat.log2_lt (by omega)).2 hN2
  have hpl : -600 ≤ dvP M N E F := by unfold dvP; omega
  exact nearest_any 2 none 0 0 M E N F (fun m e => icmp (sc (-600) M E) (sc (-600) (m * N) (e + F))) (dvM M N) (dvP M N E F) (-600) (dv_pos M N hM (by omega) hN) hpl (by decide)
    (fun m e h1 h2 h3 => (quo_cmp M N E F hM (by omega) hN m e h1 (-600) (-600) _ rfl hpl (by omega) (by omega) (by omega)).symm) w
    (fun W hW m e h1 h2 h3 => held2_any M E N F m e W hM2 (by omega) (by omega) hN2 (by omega) (by omega) (by omega) (by omega) (by omega))
theorem near3_any (M : Nat) (E : Int) (m' : Nat) (p' : Int) (w : World) (hM2 : M < 16777216) (hE : -149 ≤ E) (hE2 : E ≤ 104) (h0 : 0 < m') (hp : -5000 ≤ p')
    (H : ∀ (k : Nat) (e : Int), k < 33554432 → -150 ≤ e → e ≤ 104 → icmp (sc (-5000) m' p') (sc (-5000) k e) = icmp (sc (-600) M E) (sc (-600) (k * k) (2 * e))) :
    Calls Try.prog 55 #[.agg #[.int .i64 3, .slice none 0 0, .int .i64 (M : Int), .int .i64 E, .int .i64 0, .int .i64 0]] w fun r w' => r = .returned (.int .u32 ((Ieee.single.nearest false m' p' : Nat) : Int)) ∧ Below w.heap.size w w' :=
  nearest_any 3 none 0 0 M E 0 0 (fun m e => icmp (sc (-600) M E) (sc (-600) (m * m) (2 * e))) m' p' (-5000) h0 hp (by decide)
    (fun m e h1 h2 h3 => (H m e h1 h2 h3).symm) w
    (fun W hW m e h1 h2 h3 => held3_any M E 0 0 m e W hM2 (by omega) (by omega) (by omega) (by omega) (by omega))
theorem sgn_test (x : Nat) : sgn x = x.testBit 31 := by
  unfold sgn
  rw [Nat.testBit_eq_decide_div_mod_eq]
  by_cases h : x / 2147483648 % 2 = 1
  · have h2 : x / 2 ^ 31 % 2 = 1 := h
    rw [decide_eq_true h2, h]; rfl
  · have h2 : ¬ x / 2 ^ 31 % 2 = 1 := h
    rw [decide_eq_false h2, beq_eq_false_iff_ne]; exact h
theorem and_pow (z i : Nat) : z &&& 2 ^ i = if z.testBit i then 2 ^ i else 0 := by
  apply Nat.eq_of_testBit_eq
  intro j
  rw [Nat.testBit_and, Nat.testBit_two_pow]
  by_cases h : i = j
  · subst h
    cases hz : z.testBit i
    · simp
    · simp
  · rw [decide_eq_false h, Bool.and_false]
    split
    · rw [Nat.testBit_two_pow, decide_eq_false h]
    · simp
theorem sign_xor (a b : Nat) (ha : a < 4294967296) (hb : b < 4294967296) : bits .and .u32 (bits .xor .u32 (a : Int) (b : Int)) 2147483648 = ((wd (sgn a ^^ sgn b) 0 : Nat) : Int) := by
  have h1 : bits .xor .u32 (a : Int) (b : Int) = ((a ^^^ b : Nat) : Int) := by
    show IntKind.u32.wrap (((BitVec.ofInt 32 (a : Int)) ^^^ (BitVec.ofInt 32 (b : Int))).toNat : Int) = _
    rw [BitVec.toNat_xor, BitVec.ofInt_natCast, BitVec.ofInt_natCast, BitVec.toNat_ofNat, BitVec.toNat_ofNat, Nat.mod_eq_of_lt ha, Nat.mod_eq_of_lt hb, IntKind.wrap_u32]
    have := Nat.xor_lt_two_pow (n := 32) ha hb
    have p : (2 : Nat) ^ 32 = 4294967296 := by decide
    rw [p] at this
    omega
  rw [h1]
  show IntKind.u32.wrap (((BitVec.ofInt 32 ((a ^^^ b : Nat) : Int)) &&& (BitVec.ofInt 32 2147483648)).toNat : Int) = _
  have h2 : (BitVec.ofInt 32 ((a ^^^ b : Nat) : Int) &&& BitVec.ofInt 32 2147483648).toNat = wd (sgn a ^^ sgn b) 0 := by
    have hlt := Nat.xor_lt_two_pow (n := 32) ha hb
    have e : (BitVec.ofInt 32 2147483648).toNat = 2 ^ 31 := by decide
    rw [BitVec.toNat_and, BitVec.ofInt_natCast, BitVec.toNat_ofNat, e, Nat.mod_eq_of_lt hlt, and_pow, Nat.testBit_xor, sgn_test, sgn_test]
    unfold wd
    cases (a.testBit 31 ^^ b.testBit 31) <;> decide
  rw [h2, IntKind.wrap_u32]
  unfold wd
  split <;> omega
theorem sign_or (s : Bool) (r : Nat) (hr : r < 2147483648) : bits .or .u32 ((wd s 0 : Nat) : Int) (r : Int) = ((wd s r : Nat) : Int) := by
  show IntKind.u32.wrap (((BitVec.ofInt 32 ((wd s 0 : Nat) : Int)) ||| (BitVec.ofInt 32 (r : Int))).toNat : Int) = _
  have h2 : (BitVec.ofInt 32 ((wd s 0 : Nat) : Int) ||| BitVec.ofInt 32 (r : Int)).toNat = wd s r := by
    rw [BitVec.toNat_or, BitVec.ofInt_natCast, BitVec.ofInt_natCast, BitVec.toNat_ofNat, BitVec.toNat_ofNat]
    have e1 : r % 2 ^ 32 = r := Nat.mod_eq_of_lt (by omega)
    rw [e1]
    cases s
    · show 0 % 2 ^ 32 ||| r = r
      simp
    · show 2147483648 % 2 ^ 32 ||| r = 2147483648 + r
      have h := Nat.two_pow_add_eq_or_of_lt (i := 31) (b := r) hr 1
      have p : (2 : Nat) ^ 31 * 1 = 2147483648 := by decide
      rw [p] at h
      have q : 2147483648 % 2 ^ 32 = 2147483648 := by decide
      rw [q]; exact h.symm
  rw [h2, IntKind.wrap_u32]
  unfold wd
  split <;> omega
/-- What a word is, as the reference asks. -/
theorem cls (x : Nat) (hx : x < 4294967296) : cleanW x < 4294967296 ∧ ((nanW x = true ∧ cleanW x = 2143289344) ∨ (nanW x = false ∧ cleanW x = x ∧ x ≠ 2143289344 ∧ ((rg x = 2139095040 ∧ kindW x = 2) ∨ (rg x = 0 ∧ kindW x = 3) ∨ (0 < rg x ∧ rg x < 2139095040 ∧ kindW x ≠ 2 ∧ kindW x ≠ 3)))) := by
  cases hn : nanW x
  · have hc : cleanW x = x := by unfold cleanW; rw [hn]; rfl
    rw [hc]
    refine ⟨hx, .inr ⟨rfl, rfl, ?_, ?_⟩⟩
    · intro h
      rw [h] at hn
      exact absurd hn (by decide)
    · have h1 : rg x ≤ 2139095040 := by
        have := of_decide_eq_false hn
        unfold rg; omega
      unfold kindW
      rw [hn, if_neg (by decide)]
      unfold rg at *
      by_cases c1 : x % 2147483648 = 2139095040
      · exact .inl ⟨c1, by rw [if_pos c1]⟩
      · rw [if_neg c1]
        by_cases c2 : x % 2147483648 = 0
        · exact .inr (.inl ⟨c2, by rw [if_pos c2]⟩)
        · rw [if_neg c2]
          refine .inr (.inr ⟨by omega, by omega, ?_, ?_⟩)
          · split <;> decide
          · split <;> decide
  · have hc : cleanW x = 2143289344 := cleanW_nan hn
    rw [hc]
    exact ⟨by decide, .inl ⟨rfl, rfl⟩⟩
theorem mul_zero_w {x y : Nat} (h : rg x = 0 ∨ rg y = 0) (h1 : rg x < 2139095040) (h2 : rg y < 2139095040) : opW (Ieee.single.mul x y) = wd (sgn x ^^ sgn y) 0 := by
  rw [mul_num h1 h2]
  have e : pm (rg x) * pm (rg y) = 0 := by
    rcases h with h | h
    · rw [h, pm_zero, Nat.zero_mul]
    · rw [h, pm_zero, Nat.mul_zero]
  rw [e, nearest_zero]
set_option maxRecDepth 100000 in
set_option maxHeartbeats 4000000 in
theorem rmul_any (x y : Nat) (hx : x < 4294967296) (hy : y < 4294967296) (w : World) :
    Calls Try.prog 20 #[.int .u32 (x : Int), .int .u32 (y : Int)] w fun r w' => r = .returned (.int .u32 ((opW (Ieee.single.mul x y) : Nat) : Int)) ∧ Below w.heap.size w w' := by
  obtain ⟨lx, cx⟩ := cls x hx
  obtain ⟨ly, cy⟩ := cls y hy
  have HCX := Lib.hid (fun W => rclean_any x W)
  have HCY := Lib.hid (fun W => rclean_any y W)
  have hsx := sign_xor (cleanW x) (cleanW y) lx ly
  have HSI := Lib.hid (show bits .or .u32 ((wd (sgn (cleanW x) ^^ sgn (cleanW y)) 0 : Nat) : Int) 2139095040 = ((wd (sgn (cleanW x) ^^ sgn (cleanW y)) 2139095040 : Nat) : Int) from sign_or (sgn (cleanW x) ^^ sgn (cleanW y)) 2139095040 (by decide))
  have HSR := Lib.hid (fun r h => sign_or (sgn (cleanW x) ^^ sgn (cleanW y)) r h)
  have HKX := Lib.hid (fun W => rkind_any (cleanW x) W)
  have HKY := Lib.hid (fun W => rkind_any (cleanW y) W)
  have HPX := Lib.hid (fun W => parts_any (cleanW x) lx W)
  have HPY := Lib.hid (fun W => parts_any (cleanW y) ly W)
  rcases cx with ⟨hnx, hcx⟩ | ⟨hnx, hcx, hnex, ⟨hrx, hkx⟩ | ⟨hrx, hkx⟩ | ⟨hrx1, hrx2, hkx, hkx3⟩⟩
  · rcases cy with ⟨hny, hcy⟩ | ⟨hny, hcy, hney, ⟨hry, hky⟩ | ⟨hry, hky⟩ | ⟨hry1, hry2, hky, hky3⟩⟩
    · have HR := Lib.hid (show opW (Ieee.single.mul x y) = _ from mul_nan (.inl hnx))
      have hAx := hcx
      have hAy := hcy
      have nx : (((cleanW x : Nat) : Int) == 2143289344) = true := by rw [hAx]; decide
      have ny : (((cleanW y : Nat) : Int) == 2143289344) = true := by rw [hAy]; decide
      clear hAx hcx
      clear hAy hcy
      generalize kindW (cleanW x) = kx at *
      generalize cleanW x = ax at *
      generalize kindW (cleanW y) = ky at *
      generalize cleanW y = ay at *
      generalize wd (sgn ax ^^ sgn ay) 0 = S at *
      clear HSR HSI HPX HPY
      generalize opW (Ieee.single.mul x y) = R at *
      go_enter Try.func20, Try.ntmps20
      go_wp2_with ((first | (go_at_call 10; (with_reducible refine (HCX.out _).mono ?_); rintro r1 y1 ⟨rfl, rfl⟩) | (go_at_call 10; (with_reducible refine (HCY.out _).mono ?_); rintro r1 y1 ⟨rfl, rfl⟩) | (go_at_call 14; (with_reducible refine (HKX.out _).mono ?_); rintro r1 y1 ⟨rfl, rfl⟩) | (go_at_call 14; (with_reducible refine (HKY.out _).mono ?_); rintro r1 y1 ⟨rfl, rfl⟩)))
      go_ret
      exact ⟨by rw [HR.out]; rfl, Below.refl _ _⟩
    · have HR := Lib.hid (show opW (Ieee.single.mul x y) = _ from mul_nan (.inl hnx))
      have hAx := hcx
      rw [hcy] at HCY hsx HSI HSR HKY HPY
      have nx : (((cleanW x : Nat) : Int) == 2143289344) = true := by rw [hAx]; decide
      have ny : (((y : Nat) : Int) == 2143289344) = false := by rw [beq_eq_false_iff_ne]; omega
      have k2y : (kindW y == 2) = true := by rw [beq_iff_eq]; omega
      have k3y : (kindW y == 3) = false := by rw [beq_eq_false_iff_ne]; omega
      clear hAx hcx
      clear hky hney
      generalize kindW (cleanW x) = kx at *
      generalize cleanW x = ax at *
      generalize kindW y = ky at *
      generalize wd (sgn ax ^^ sgn y) 0 = S at *
      clear HSR HSI HPX HPY
      generalize opW (Ieee.single.mul x y) = R at *
      go_enter Try.func20, Try.ntmps20
      go_wp2_with ((first | (go_at_call 10; (with_reducible refine (HCX.out _).mono ?_); rintro r1 y1 ⟨rfl, rfl⟩) | (go_at_call 10; (with_reducible refine (HCY.out _).mono ?_); rintro r1 y1 ⟨rfl, rfl⟩) | (go_at_call 14; (with_reducible refine (HKX.out _).mono ?_); rintro r1 y1 ⟨rfl, rfl⟩) | (go_at_call 14; (with_reducible refine (HKY.out _).mono ?_); rintro r1 y1 ⟨rfl, rfl⟩)))
      go_ret
      exact ⟨by rw [HR.out]; rfl, Below.refl _ _⟩
    · have HR := Lib.hid (show opW (Ieee.single.mul x y) = _ from mul_nan (.inl hnx))
      have hAx := hcx
      rw [hcy] at HCY hsx HSI HSR HKY HPY
      have nx : (((cleanW x : Nat) : Int) == 2143289344) = true := by rw [hAx]; decide
      have ny : (((y : Nat) : Int) == 2143289344) = false := by rw [beq_eq_false_iff_ne]; omega
      have k2y : (kindW y == 2) = false := by rw [beq_eq_false_iff_ne]; omega
      have k3y : (kindW y == 3) = true := by rw [beq_iff_eq]; omega
      clear hAx hcx
      clear hky hney
      generalize kindW (cleanW x) = kx at *
      generalize cleanW x = ax at *
      generalize kindW y = ky at *
      generalize wd (sgn ax ^^ sgn y) 0 = S at *
      clear HSR HSI HPX HPY
      generalize opW (Ieee.single.mul x y) = R at *
      go_enter Try.func20, Try.ntmps20
      go_wp2_with ((first | (go_at_call 10; (with_reducible refine (HCX.out _).mono ?_); rintro r1 y1 ⟨rfl, rfl⟩) | (go_at_call 10; (with_reducible refine (HCY.out _).mono ?_); rintro r1 y1 ⟨rfl, rfl⟩) | (go_at_call 14; (with_reducible refine (HKX.out _).mono ?_); rintro r1 y1 ⟨rfl, rfl⟩) | (go_at_call 14; (with_reducible refine (HKY.out _).mono ?_); rintro r1 y1 ⟨rfl, rfl⟩)))
      go_ret
      exact ⟨by rw [HR.out]; rfl, Below.refl _ _⟩
    · have hry := And.intro hry1 hry2
      have HR := Lib.hid (show opW (Ieee.single.mul x y) = _ from mul_nan (.inl hnx))
      have hAx := hcx
      rw [hcy] at HCY hsx HSI HSR HKY HPY
      have nx : (((cleanW x : Nat) : Int) == 2143289344) = true := by rw [hAx]; decide
      have ny : (((y : Nat) : Int) == 2143289344) = false := by rw [beq_eq_false_iff_ne]; omega
      have k2y : (kindW y == 2) = false := by rw [beq_eq_false_iff_ne]; omega
      have k3y : (kindW y == 3) = false := by rw [beq_eq_false_iff_ne]; omega
      clear hAx hcx
      clear hky hney
      generalize kindW (cleanW x) = kx at *
      generalize cleanW x = ax at *
      generalize kindW y = ky at *
      generalize wd (sgn ax ^^ sgn y) 0 = S at *
      clear HSR HSI HPX HPY
      generalize opW (Ieee.single.mul x y) = R at *
      go_enter Try.func20, Try.ntmps20
      go_wp2_with ((first | (go_at_call 10; (with_reducible refine (HCX.out _).mono ?_); rintro r1 y1 ⟨rfl, rfl⟩) | (go_at_call 10; (with_reducible refine (HCY.out _).mono ?_); rintro r1 y1 ⟨rfl, rfl⟩) | (go_at_call 14; (with_reducible refine (HKX.out _).mono ?_); rintro r1 y1 ⟨rfl, rfl⟩) | (go_at_call 14; (with_reducible refine (HKY.out _).mono ?_); rintro r1 y1 ⟨rfl, rfl⟩)))
      go_ret
      exact ⟨by rw [HR.out]; rfl, Below.refl _ _⟩
  · rcases cy with ⟨hny, hcy⟩ | ⟨hny, hcy, hney, ⟨hry, hky⟩ | ⟨hry, hky⟩ | ⟨hry1, hry2, hky, hky3⟩⟩
    · have HR := Lib.hid (show opW (Ieee.single.mul x y) = _ from mul_nan (.inr hny))
      have hAy := hcy
      rw [hcx] at HCX hsx HSI HSR HKX HPX
      have nx : (((x : Nat) : Int) == 2143289344) = false := by rw [beq_eq_false_iff_ne]; omega
      have k2x : (kindW x == 2) = true := by rw [beq_iff_eq]; omega
      have k3x : (kindW x == 3) = false := by rw [beq_eq_false_iff_ne]; omega
      have ny : (((cleanW y : Nat) : Int) == 2143289344) = true := by rw [hAy]; decide
      clear hkx hnex
      clear hAy hcy
      generalize kindW x = kx at *
      generalize kindW (cleanW y) = ky at *
      generalize cleanW y = ay at *
      generalize wd (sgn x ^^ sgn ay) 0 = S at *
      clear HSR HSI HPX HPY
      generalize opW (Ieee.single.mul x y) = R at *
      go_enter Try.func20, Try.ntmps20
      go_wp2_with ((first | (go_at_call 10; (with_reducible refine (HCX.out _).mono ?_); rintro r1 y1 ⟨rfl, rfl⟩) | (go_at_call 10; (with_reducible refine (HCY.out _).mono ?_); rintro r1 y1 ⟨rfl, rfl⟩) | (go_at_call 14; (with_reducible refine (HKX.out _).mono ?_); rintro r1 y1 ⟨rfl, rfl⟩) | (go_at_call 14; (with_reducible refine (HKY.out _).mono ?_); rintro r1 y1 ⟨rfl, rfl⟩)))
      go_ret
      exact ⟨by rw [HR.out]; rfl, Below.refl _ _⟩
    · have HR := Lib.hid (show opW (Ieee.single.mul x y) = _ from mul_inf (.inl ⟨hrx, by omega, by omega⟩))
      rw [hcx] at HCX hsx HSI HSR HKX HPX
      rw [hcy] at HCY hsx HSI HSR HKY HPY
      have nx : (((x : Nat) : Int) == 2143289344) = false := by rw [beq_eq_false_iff_ne]; omega
      have k2x : (kindW x == 2) = true := by rw [beq_iff_eq]; omega
      have k3x : (kindW x == 3) = false := by rw [beq_eq_false_iff_ne]; omega
      have ny : (((y : Nat) : Int) == 2143289344) = false := by rw [beq_eq_false_iff_ne]; omega
      have k2y : (kindW y == 2) = true := by rw [beq_iff_eq]; omega
      have k3y : (kindW y == 3) = false := by rw [beq_eq_false_iff_ne]; omega
      clear hkx hnex
      clear hky hney
      have hsi := HSI.out
      generalize kindW x = kx at *
      generalize kindW y = ky at *
      generalize wd (sgn x ^^ sgn y) 2139095040 = T at *
      generalize wd (sgn x ^^ sgn y) 0 = S at *
      clear HSR HSI HPX HPY
      generalize opW (Ieee.single.mul x y) = R at *
      go_enter Try.func20, Try.ntmps20
      go_wp2_with ((first | (go_at_call 10; (with_reducible refine (HCX.out _).mono ?_); rintro r1 y1 ⟨rfl, rfl⟩) | (go_at_call 10; (with_reducible refine (HCY.out _).mono ?_); rintro r1 y1 ⟨rfl, rfl⟩) | (go_at_call 14; (with_reducible refine (HKX.out _).mono ?_); rintro r1 y1 ⟨rfl, rfl⟩) | (go_at_call 14; (with_reducible refine (HKY.out _).mono ?_); rintro r1 y1 ⟨rfl, rfl⟩)))
      go_ret
      exact ⟨by rw [HR.out]; rfl, Below.refl _ _⟩
    · have HR := Lib.hid (show opW (Ieee.single.mul x y) = _ from mul_inf_zero hrx hry)
      rw [hcx] at HCX hsx HSI HSR HKX HPX
      rw [hcy] at HCY hsx HSI HSR HKY HPY
      have nx : (((x : Nat) : Int) == 2143289344) = false := by rw [beq_eq_false_iff_ne]; omega
      have k2x : (kindW x == 2) = true := by rw [beq_iff_eq]; omega
      have k3x : (kindW x == 3) = false := by rw [beq_eq_false_iff_ne]; omega
      have ny : (((y : Nat) : Int) == 2143289344) = false := by rw [beq_eq_false_iff_ne]; omega
      have k2y : (kindW y == 2) = false := by rw [beq_eq_false_iff_ne]; omega
      have k3y : (kindW y == 3) = true := by rw [beq_iff_eq]; omega
      clear hkx hnex
      clear hky hney
      generalize kindW x = kx at *
      generalize kindW y = ky at *
      generalize wd (sgn x ^^ sgn y) 0 = S at *
      clear HSR HSI HPX HPY
      generalize opW (Ieee.single.mul x y) = R at *
      go_enter Try.func20, Try.ntmps20
      go_wp2_with ((first | (go_at_call 10; (with_reducible refine (HCX.out _).mono ?_); rintro r1 y1 ⟨rfl, rfl⟩) | (go_at_call 10; (with_reducible refine (HCY.out _).mono ?_); rintro r1 y1 ⟨rfl, rfl⟩) | (go_at_call 14; (with_reducible refine (HKX.out _).mono ?_); rintro r1 y1 ⟨rfl, rfl⟩) | (go_at_call 14; (with_reducible refine (HKY.out _).mono ?_); rintro r1 y1 ⟨rfl, rfl⟩)))
      go_ret
      exact ⟨by rw [HR.out]; rfl, Below.refl _ _⟩
    · have hry := And.intro hry1 hry2
      have HR := Lib.hid (show opW (Ieee.single.mul x y) = _ from mul_inf (.inl ⟨hrx, by omega, by omega⟩))
      rw [hcx] at HCX hsx HSI HSR HKX HPX
      rw [hcy] at HCY hsx HSI HSR HKY HPY
      have nx : (((x : Nat) : Int) == 2143289344) = false := by rw [beq_eq_false_iff_ne]; omega
      have k2x : (kindW x == 2) = true := by rw [beq_iff_eq]; omega
      have k3x : (kindW x == 3) = false := by rw [beq_eq_false_iff_ne]; omega
      have ny : (((y : Nat) : Int) == 2143289344) = false := by rw [beq_eq_false_iff_ne]; omega
      have k2y : (kindW y == 2) = false := by rw [beq_eq_false_iff_ne]; omega
      have k3y : (kindW y == 3) = false := by rw [beq_eq_false_iff_ne]; omega
      clear hkx hnex
      clear hky hney
      have hsi := HSI.out
      generalize kindW x = kx at *
      generalize kindW y = ky at *
      generalize wd (sgn x ^^ sgn y) 2139095040 = T at *
      generalize wd (sgn x ^^ sgn y) 0 = S at *
      clear HSR HSI HPX HPY
      generalize opW (Ieee.single.mul x y) = R at *
      go_enter Try.func20, Try.ntmps20
      go_wp2_with ((first | (go_at_call 10; (with_reducible refine (HCX.out _).mono ?_); rintro r1 y1 ⟨rfl, rfl⟩) | (go_at_call 10; (with_reducible refine (HCY.out _).mono ?_); rintro r1 y1 ⟨rfl, rfl⟩) | (go_at_call 14; (with_reducible refine (HKX.out _).mono ?_); rintro r1 y1 ⟨rfl, rfl⟩) | (go_at_call 14; (with_reducible refine (HKY.out _).mono ?_); rintro r1 y1 ⟨rfl, rfl⟩)))
      go_ret
      exact ⟨by rw [HR.out]; rfl, Below.refl _ _⟩
  · rcases cy with ⟨hny, hcy⟩ | ⟨hny, hcy, hney, ⟨hry, hky⟩ | ⟨hry, hky⟩ | ⟨hry1, hry2, hky, hky3⟩⟩
    · have HR := Lib.hid (show opW (Ieee.single.mul x y) = _ from mul_nan (.inr hny))
      have hAy := hcy
      rw [hcx] at HCX hsx HSI HSR HKX HPX
      have nx : (((x : Nat) : Int) == 2143289344) = false := by rw [beq_eq_false_iff_ne]; omega
      have k2x : (kindW x == 2) = false := by rw [beq_eq_false_iff_ne]; omega
      have k3x : (kindW x == 3) = true := by rw [beq_iff_eq]; omega
      have ny : (((cleanW y : Nat) : Int) == 2143289344) = true := by rw [hAy]; decide
      clear hkx hnex
      clear hAy hcy
      generalize kindW x = kx at *
      generalize kindW (cleanW y) = ky at *
      generalize cleanW y = ay at *
      generalize wd (sgn x ^^ sgn ay) 0 = S at *
      clear HSR HSI HPX HPY
      generalize opW (Ieee.single.mul x y) = R at *
      go_enter Try.func20, Try.ntmps20
      go_wp2_with ((first | (go_at_call 10; (with_reducible refine (HCX.out _).mono ?_); rintro r1 y1 ⟨rfl, rfl⟩) | (go_at_call 10; (with_reducible refine (HCY.out _).mono ?_); rintro r1 y1 ⟨rfl, rfl⟩) | (go_at_call 14; (with_reducible refine (HKX.out _).mono ?_); rintro r1 y1 ⟨rfl, rfl⟩) | (go_at_call 14; (with_reducible refine (HKY.out _).mono ?_); rintro r1 y1 ⟨rfl, rfl⟩)))
      go_ret
      exact ⟨by rw [HR.out]; rfl, Below.refl _ _⟩
    · have HR := Lib.hid (show opW (Ieee.single.mul x y) = _ from mul_zero_inf hrx hry)
      rw [hcx] at HCX hsx HSI HSR HKX HPX
      rw [hcy] at HCY hsx HSI HSR HKY HPY
      have nx : (((x : Nat) : Int) == 2143289344) = false := by rw [beq_eq_false_iff_ne]; omega
      have k2x : (kindW x == 2) = false := by rw [beq_eq_false_iff_ne]; omega
      have k3x : (kindW x == 3) = true := by rw [beq_iff_eq]; omega
      have ny : (((y : Nat) : Int) == 2143289344) = false := by rw [beq_eq_false_iff_ne]; omega
      have k2y : (kindW y == 2) = true := by rw [beq_iff_eq]; omega
      have k3y : (kindW y == 3) = false := by rw [beq_eq_false_iff_ne]; omega
      clear hkx hnex
      clear hky hney
      generalize kindW x = kx at *
      generalize kindW y = ky at *
      generalize wd (sgn x ^^ sgn y) 0 = S at *
      clear HSR HSI HPX HPY
      generalize opW (Ieee.single.mul x y) = R at *
      go_enter Try.func20, Try.ntmps20
      go_wp2_with ((first | (go_at_call 10; (with_reducible refine (HCX.out _).mono ?_); rintro r1 y1 ⟨rfl, rfl⟩) | (go_at_call 10; (with_reducible refine (HCY.out _).mono ?_); rintro r1 y1 ⟨rfl, rfl⟩) | (go_at_call 14; (with_reducible refine (HKX.out _).mono ?_); rintro r1 y1 ⟨rfl, rfl⟩) | (go_at_call 14; (with_reducible refine (HKY.out _).mono ?_); rintro r1 y1 ⟨rfl, rfl⟩)))
      go_ret
      exact ⟨by rw [HR.out]; rfl, Below.refl _ _⟩
    · have HR := Lib.hid (mul_zero_w (x := x) (y := y) (.inl hrx) (by omega) (by omega))
      rw [hcx] at HCX hsx HSI HSR HKX HPX
      rw [hcy] at HCY hsx HSI HSR HKY HPY
      have nx : (((x : Nat) : Int) == 2143289344) = false := by rw [beq_eq_false_iff_ne]; omega
      have k2x : (kindW x == 2) = false := by rw [beq_eq_false_iff_ne]; omega
      have k3x : (kindW x == 3) = true := by rw [beq_iff_eq]; omega
      have ny : (((y : Nat) : Int) == 2143289344) = false := by rw [beq_eq_false_iff_ne]; omega
      have k2y : (kindW y == 2) = false := by rw [beq_eq_false_iff_ne]; omega
      have k3y : (kindW y == 3) = true := by rw [beq_iff_eq]; omega
      clear hkx hnex
      clear hky hney
      generalize kindW x = kx at *
      generalize kindW y = ky at *
      generalize wd (sgn x ^^ sgn y) 0 = S at *
      clear HSR HSI HPX HPY
      generalize opW (Ieee.single.mul x y) = R at *
      go_enter Try.func20, Try.ntmps20
      go_wp2_with ((first | (go_at_call 10; (with_reducible refine (HCX.out _).mono ?_); rintro r1 y1 ⟨rfl, rfl⟩) | (go_at_call 10; (with_reducible refine (HCY.out _).mono ?_); rintro r1 y1 ⟨rfl, rfl⟩) | (go_at_call 14; (with_reducible refine (HKX.out _).mono ?_); rintro r1 y1 ⟨rfl, rfl⟩) | (go_at_call 14; (with_reducible refine (HKY.out _).mono ?_); rintro r1 y1 ⟨rfl, rfl⟩)))
      go_ret
      exact ⟨by rw [HR.out]; rfl, Below.refl _ _⟩
    · have hry := And.intro hry1 hry2
      have HR := Lib.hid (mul_zero_w (x := x) (y := y) (.inl hrx) (by omega) (by omega))
      rw [hcx] at HCX hsx HSI HSR HKX HPX
      rw [hcy] at HCY hsx HSI HSR HKY HPY
      have nx : (((x : Nat) : Int) == 2143289344) = false := by rw [beq_eq_false_iff_ne]; omega
      have k2x : (kindW x == 2) = false := by rw [beq_eq_false_iff_ne]; omega
      have k3x : (kindW x == 3) = true := by rw [beq_iff_eq]; omega
      have ny : (((y : Nat) : Int) == 2143289344) = false := by rw [beq_eq_false_iff_ne]; omega
      have k2y : (kindW y == 2) = false := by rw [beq_eq_false_iff_ne]; omega
      have k3y : (kindW y == 3) = false := by rw [beq_eq_false_iff_ne]; omega
      clear hkx hnex
      clear hky hney
      generalize kindW x = kx at *
      generalize kindW y = ky at *
      generalize wd (sgn x ^^ sgn y) 0 = S at *
      clear HSR HSI HPX HPY
      generalize opW (Ieee.single.mul x y) = R at *
      go_enter Try.func20, Try.ntmps20
      go_wp2_with ((first | (go_at_call 10; (with_reducible refine (HCX.out _).mono ?_); rintro r1 y1 ⟨rfl, rfl⟩) | (go_at_call 10; (with_reducible refine (HCY.out _).mono ?_); rintro r1 y1 ⟨rfl, rfl⟩) | (go_at_call 14; (with_reducible refine (HKX.out _).mono ?_); rintro r1 y1 ⟨rfl, rfl⟩) | (go_at_call 14; (with_reducible refine (HKY.out _).mono ?_); rintro r1 y1 ⟨rfl, rfl⟩)))
      go_ret
      exact ⟨by rw [HR.out]; rfl, Below.refl _ _⟩
  · rcases cy with ⟨hny, hcy⟩ | ⟨hny, hcy, hney, ⟨hry, hky⟩ | ⟨hry, hky⟩ | ⟨hry1, hry2, hky, hky3⟩⟩
    · have hrx := And.intro hrx1 hrx2
      have HR := Lib.hid (show opW (Ieee.single.mul x y) = _ from mul_nan (.inr hny))
      have hAy := hcy
      rw [hcx] at HCX hsx HSI HSR HKX HPX
      have nx : (((x : Nat) : Int) == 2143289344) = false := by rw [beq_eq_false_iff_ne]; omega
      have k2x : (kindW x == 2) = false := by rw [beq_eq_false_iff_ne]; omega
      have k3x : (kindW x == 3) = false := by rw [beq_eq_false_iff_ne]; omega
      have ny : (((cleanW y : Nat) : Int) == 2143289344) = true := by rw [hAy]; decide
      clear hkx hnex
      clear hAy hcy
      generalize kindW x = kx at *
      generalize kindW (cleanW y) = ky at *
      generalize cleanW y = ay at *
      generalize wd (sgn x ^^ sgn ay) 0 = S at *
      clear HSR HSI HPX HPY
      generalize opW (Ieee.single.mul x y) = R at *
      go_enter Try.func20, Try.ntmps20
      go_wp2_with ((first | (go_at_call 10; (with_reducible refine (HCX.out _).mono ?_); rintro r1 y1 ⟨rfl, rfl⟩) | (go_at_call 10; (with_reducible refine (HCY.out _).mono ?_); rintro r1 y1 ⟨rfl, rfl⟩) | (go_at_call 14; (with_reducible refine (HKX.out _).mono ?_); rintro r1 y1 ⟨rfl, rfl⟩) | (go_at_call 14; (with_reducible refine (HKY.out _).mono ?_); rintro r1 y1 ⟨rfl, rfl⟩)))
      go_ret
      exact ⟨by rw [HR.out]; rfl, Below.refl _ _⟩
    · have hrx := And.intro hrx1 hrx2
      have HR := Lib.hid (show opW (Ieee.single.mul x y) = _ from mul_inf (.inr ⟨hry, by omega, by omega⟩))
      rw [hcx] at HCX hsx HSI HSR HKX HPX
      rw [hcy] at HCY hsx HSI HSR HKY HPY
      have nx : (((x : Nat) : Int) == 2143289344) = false := by rw [beq_eq_false_iff_ne]; omega
      have k2x : (kindW x == 2) = false := by rw [beq_eq_false_iff_ne]; omega
      have k3x : (kindW x == 3) = false := by rw [beq_eq_false_iff_ne]; omega
      have ny : (((y : Nat) : Int) == 2143289344) = false := by rw [beq_eq_false_iff_ne]; omega
      have k2y : (kindW y == 2) = true := by rw [beq_iff_eq]; omega
      have k3y : (kindW y == 3) = false := by rw [beq_eq_false_iff_ne]; omega
      clear hkx hnex
      clear hky hney
      have hsi := HSI.out
      generalize kindW x = kx at *
      generalize kindW y = ky at *
      generalize wd (sgn x ^^ sgn y) 2139095040 = T at *
      generalize wd (sgn x ^^ sgn y) 0 = S at *
      clear HSR HSI HPX HPY
      generalize opW (Ieee.single.mul x y) = R at *
      go_enter Try.func20, Try.ntmps20
      go_wp2_with ((first | (go_at_call 10; (with_reducible refine (HCX.out _).mono ?_); rintro r1 y1 ⟨rfl, rfl⟩) | (go_at_call 10; (with_reducible refine (HCY.out _).mono ?_); rintro r1 y1 ⟨rfl, rfl⟩) | (go_at_call 14; (with_reducible refine (HKX.out _).mono ?_); rintro r1 y1 ⟨rfl, rfl⟩) | (go_at_call 14; (with_reducible refine (HKY.out _).mono ?_); rintro r1 y1 ⟨rfl, rfl⟩)))
      go_ret
      exact ⟨by rw [HR.out]; rfl, Below.refl _ _⟩
    · have hrx := And.intro hrx1 hrx2
      have HR := Lib.hid (mul_zero_w (x := x) (y := y) (.inr hry) (by omega) (by omega))
      rw [hcx] at HCX hsx HSI HSR HKX HPX
      rw [hcy] at HCY hsx HSI HSR HKY HPY
      have nx : (((x : Nat) : Int) == 2143289344) = false := by rw [beq_eq_false_iff_ne]; omega
      have k2x : (kindW x == 2) = false := by rw [beq_eq_false_iff_ne]; omega
      have k3x : (kindW x == 3) = false := by rw [beq_eq_false_iff_ne]; omega
      have ny : (((y : Nat) : Int) == 2143289344) = false := by rw [beq_eq_false_iff_ne]; omega
      have k2y : (kindW y == 2) = false := by rw [beq_eq_false_iff_ne]; omega
      have k3y : (kindW y == 3) = true := by rw [beq_iff_eq]; omega
      clear hkx hnex
      clear hky hney
      generalize kindW x = kx at *
      generalize kindW y = ky at *
      generalize wd (sgn x ^^ sgn y) 0 = S at *
      clear HSR HSI HPX HPY
      generalize opW (Ieee.single.mul x y) = R at *
      go_enter Try.func20, Try.ntmps20
      go_wp2_with ((first | (go_at_call 10; (with_reducible refine (HCX.out _).mono ?_); rintro r1 y1 ⟨rfl, rfl⟩) | (go_at_call 10; (with_reducible refine (HCY.out _).mono ?_); rintro r1 y1 ⟨rfl, rfl⟩) | (go_at_call 14; (with_reducible refine (HKX.out _).mono ?_); rintro r1 y1 ⟨rfl, rfl⟩) | (go_at_call 14; (with_reducible refine (HKY.out _).mono ?_); rintro r1 y1 ⟨rfl, rfl⟩)))
      go_ret
      exact ⟨by rw [HR.out]; rfl, Below.refl _ _⟩
    · have hrx := And.intro hrx1 hrx2
      have hry := And.intro hry1 hry2
      have HR := Lib.hid (show opW (Ieee.single.mul x y) = _ from mul_num hrx.2 hry.2)
      rw [hcx] at HCX hsx HSI HSR HKX HPX
      rw [hcy] at HCY hsx HSI HSR HKY HPY
      have nx : (((x : Nat) : Int) == 2143289344) = false := by rw [beq_eq_false_iff_ne]; omega
      have k2x : (kindW x == 2) = false := by rw [beq_eq_false_iff_ne]; omega
      have k3x : (kindW x == 3) = false := by rw [beq_eq_false_iff_ne]; omega
      have ny : (((y : Nat) : Int) == 2143289344) = false := by rw [beq_eq_false_iff_ne]; omega
      have k2y : (kindW y == 2) = false := by rw [beq_eq_false_iff_ne]; omega
      have k3y : (kindW y == 3) = false := by rw [beq_eq_false_iff_ne]; omega
      clear hkx hnex
      clear hky hney
      have hmx := pm_lt (rg x)
      have hmy := pm_lt (rg y)
      have hmx0 := pm_pos hrx.1
      have hmy0 := pm_pos hry.1
      have hex := pe_ge (rg x)
      have hey := pe_ge (rg y)
      have hex2 := pe_le (rg x) hrx.2
      have hey2 := pe_le (rg y) hry.2
      have hnl := nearest_le (pm (rg x) * pm (rg y)) (pe (rg x) + pe (rg y))
      have hor := HSR.out _ (show Ieee.single.nearest false (pm (rg x) * pm (rg y)) (pe (rg x) + pe (rg y)) < 2147483648 by omega)
      have hmn : pm (rg x) * pm (rg y) < 16777216 * 16777216 := Nat.mul_lt_mul'' hmx hmy
      have hmn0 : 0 < pm (rg x) * pm (rg y) := Nat.mul_pos hmx0 hmy0
      have hw1 := wrap_mul (pm (rg x)) (pm (rg y)) (by omega)
      have hw2 : IntKind.i64.wrap (pe (rg x) + pe (rg y)) = pe (rg x) + pe (rg y) := by rw [IntKind.wrap_i64]; omega
      have hw3 : IntKind.i64.wrap (pe (rg x) + pe (rg y) + 600) = pe (rg x) + pe (rg y) + 600 := by rw [IntKind.wrap_i64]; omega
      have hd1 : (digs (pm (rg x) * pm (rg y))).length ≤ 500 := Nat.le_trans (dlen (s := 48) (k := 3) (Nat.lt_of_lt_of_le hmn (by decide)) (by decide)) (by decide)
      have hd2 : (digs (sc (-600) (pm (rg x) * pm (rg y)) (pe (rg x) + pe (rg y)))).length ≤ 1000 := dlen_sc (s := 48) (Nat.lt_of_lt_of_le hmn (by decide)) (by omega)
      have HN := Lib.hid (fun W => number_any (pm (rg x) * pm (rg y)) W (by omega))
      have HS := Lib.hid (fun W v (h : Bg W v (pm (rg x) * pm (rg y))) => shift_sc v (pm (rg x) * pm (rg y)) (pe (rg x) + pe (rg y)) (pe (rg x) + pe (rg y) + 600) W h rfl (by omega) (by omega) hd1)
      have H1 := Lib.hid (fun W v (h : Bg W v (sc (-600) (pm (rg x) * pm (rg y)) (pe (rg x) + pe (rg y)))) => near1_any _ v 0 0 0 0 (pm (rg x) * pm (rg y)) (pe (rg x) + pe (rg y)) W hmn0 (by omega) rfl hd2 h)
      clear hnl hmn hmn0 hd1 hd2 hmx hmy hmx0 hmy0 hex hey hex2 hey2
      generalize sc (-600) (pm (rg x) * pm (rg y)) (pe (rg x) + pe (rg y)) = TT at *
      generalize Ieee.single.nearest false (pm (rg x) * pm (rg y)) (pe (rg x) + pe (rg y)) = NN at *
      generalize pm (rg x) * pm (rg y) = mm at *
      generalize kindW x = kx at *
      generalize kindW y = ky at *
      generalize pm (rg x) = mx at *
      generalize pm (rg y) = my at *
      generalize pe (rg x) = ex at *
      generalize pe (rg y) = ey at *
      generalize wd (sgn x ^^ sgn y) NN = T at *
      generalize wd (sgn x ^^ sgn y) 0 = S at *
      clear HSR HSI hrx1 hrx2 hry1 hry2 hrx hry
      generalize opW (Ieee.single.mul x y) = R at *
      go_enter Try.func20, Try.ntmps20
      go_wp2_with ((first | (go_at_call 10; (with_reducible refine (HCX.out _).mono ?_); rintro r1 y1 ⟨rfl, rfl⟩) | (go_at_call 10; (with_reducible refine (HCY.out _).mono ?_); rintro r1 y1 ⟨rfl, rfl⟩) | (go_at_call 14; (with_reducible refine (HKX.out _).mono ?_); rintro r1 y1 ⟨rfl, rfl⟩) | (go_at_call 14; (with_reducible refine (HKY.out _).mono ?_); rintro r1 y1 ⟨rfl, rfl⟩) | (go_at_call 54; (with_reducible refine (HPX.out _).mono ?_); rintro r1 y1 ⟨rfl, rfl⟩) | (go_at_call 54; (with_reducible refine (HPY.out _).mono ?_); rintro r1 y1 ⟨rfl, rfl⟩) | (go_at_call 57; (with_reducible refine (HN.out _).mono ?_); rintro r1 y2 ⟨v1, rfl, hb1, hl1⟩) | (go_at_call 56; (with_reducible refine (HS.out _ _ hb1).mono ?_); rintro r1 y3 ⟨v2, rfl, hb2, hl2⟩; obtain ⟨ad2, cap2, rfl, hds2⟩ := hb2; have hb2 := bg_mk hds2) | (go_at_call 55; (with_reducible refine (H1.out _ _ hb2).mono ?_); rintro r1 y4 ⟨rfl, hl3⟩)))
      go_ret
      exact ⟨by rw [HR.out]; rfl, (hl1.trans (hl2.mono hl1.size)).trans (hl3.mono (hl1.trans (hl2.mono hl1.size)).size)⟩
set_option maxRecDepth 100000 in
set_option maxHeartbeats 4000000 in
theorem rdiv_any (x y : Nat) (hx : x < 4294967296) (hy : y < 4294967296) (w : World) :
    Calls Try.prog 22 #[.int .u32 (x : Int), .int .u32 (y : Int)] w fun r w' => r = .returned (.int .u32 ((opW (Ieee.single.div x y) : Nat) : Int)) ∧ Below w.heap.size w w' := by
  obtain ⟨lx, cx⟩ := cls x hx
  obtain ⟨ly, cy⟩ := cls y hy
  have HCX := Lib.hid (fun W => rclean_any x W)
  have HCY := Lib.hid (fun W => rclean_any y W)
  have hsx := sign_xor (cleanW x) (cleanW y) lx ly
  have HSI := Lib.hid (show bits .or .u32 ((wd (sgn (cleanW x) ^^ sgn (cleanW y)) 0 : Nat) : Int) 2139095040 = ((wd (sgn (cleanW x) ^^ sgn (cleanW y)) 2139095040 : Nat) : Int) from sign_or (sgn (cleanW x) ^^ sgn (cleanW y)) 2139095040 (by decide))
  have HSR := Lib.hid (fun r h => sign_or (sgn (cleanW x) ^^ sgn (cleanW y)) r h)
  have HKX := Lib.hid (fun W => rkind_any (cleanW x) W)
  have HKY := Lib.hid (fun W => rkind_any (cleanW y) W)
  have HPX := Lib.hid (fun W => parts_any (cleanW x) lx W)
  have HPY := Lib.hid (fun W => parts_any (cleanW y) ly W)
  rcases cx with ⟨hnx, hcx⟩ | ⟨hnx, hcx, hnex, ⟨hrx, hkx⟩ | ⟨hrx, hkx⟩ | ⟨hrx1, hrx2, hkx, hkx3⟩⟩
  · rcases cy with ⟨hny, hcy⟩ | ⟨hny, hcy, hney, ⟨hry, hky⟩ | ⟨hry, hky⟩ | ⟨hry1, hry2, hky, hky3⟩⟩
    · have HR := Lib.hid (show opW (Ieee.single.div x y) = _ from div_nan (.inl hnx))
      have hAx := hcx
      have hAy := hcy
      have nx : (((cleanW x : Nat) : Int) == 2143289344) = true := by rw [hAx]; decide
      have ny : (((cleanW y : Nat) : Int) == 2143289344) = true := by rw [hAy]; decide
      clear hAx hcx
      clear hAy hcy
      generalize kindW (cleanW x) = kx at *
      generalize cleanW x = ax at *
      generalize kindW (cleanW y) = ky at *
      generalize cleanW y = ay at *
      generalize wd (sgn ax ^^ sgn ay) 0 = S at *
      clear HSR HSI HPX HPY
      generalize opW (Ieee.single.div x y) = R at *
      go_enter Try.func22, Try.ntmps22
      go_wp2_with ((first | (go_at_call 10; (with_reducible refine (HCX.out _).mono ?_); rintro r1 y1 ⟨rfl, rfl⟩) | (go_at_call 10; (with_reducible refine (HCY.out _).mono ?_); rintro r1 y1 ⟨rfl, rfl⟩) | (go_at_call 14; (with_reducible refine (HKX.out _).mono ?_); rintro r1 y1 ⟨rfl, rfl⟩) | (go_at_call 14; (with_reducible refine (HKY.out _).mono ?_); rintro r1 y1 ⟨rfl, rfl⟩)))
      go_ret
      exact ⟨by rw [HR.out]; rfl, Below.refl _ _⟩
    · have HR := Lib.hid (show opW (Ieee.single.div x y) = _ from div_nan (.inl hnx))
      have hAx := hcx
      rw [hcy] at HCY hsx HSI HSR HKY HPY
      have nx : (((cleanW x : Nat) : Int) == 2143289344) = true := by rw [hAx]; decide
      have ny : (((y : Nat) : Int) == 2143289344) = false := by rw [beq_eq_false_iff_ne]; omega
      have k2y : (kindW y == 2) = true := by rw [beq_iff_eq]; omega
      have k3y : (kindW y == 3) = false := by rw [beq_eq_false_iff_ne]; omega
      clear hAx hcx
      clear hky hney
      generalize kindW (cleanW x) = kx at *
      generalize cleanW x = ax at *
      generalize kindW y = ky at *
      generalize wd (sgn ax ^^ sgn y) 0 = S at *
      clear HSR HSI HPX HPY
      generalize opW (Ieee.single.div x y) = R at *
      go_enter Try.func22, Try.ntmps22
      go_wp2_with ((first | (go_at_call 10; (with_reducible refine (HCX.out _).mono ?_); rintro r1 y1 ⟨rfl, rfl⟩) | (go_at_call 10; (with_reducible refine (HCY.out _).mono ?_); rintro r1 y1 ⟨rfl, rfl⟩) | (go_at_call 14; (with_reducible refine (HKX.out _).mono ?_); rintro r1 y1 ⟨rfl, rfl⟩) | (go_at_call 14; (with_reducible refine (HKY.out _).mono ?_); rintro r1 y1 ⟨rfl, rfl⟩)))
      go_ret
      exact ⟨by rw [HR.out]; rfl, Below.refl _ _⟩
    · have HR := Lib.hid (show opW (Ieee.single.div x y) = _ from div_nan (.inl hnx))
      have hAx := hcx
      rw [hcy] at HCY hsx HSI HSR HKY HPY
      have nx : (((cleanW x : Nat) : Int) == 2143289344) = true := by rw [hAx]; decide
      have ny : (((y : Nat) : Int) == 2143289344) = false := by rw [beq_eq_false_iff_ne]; omega
      have k2y : (kindW y == 2) = false := by rw [beq_eq_false_iff_ne]; omega
      have k3y : (kindW y == 3) = true := by rw [beq_iff_eq]; omega
      clear hAx hcx
      clear hky hney
      generalize kindW (cleanW x) = kx at *
      generalize cleanW x = ax at *
      generalize kindW y = ky at *
      generalize wd (sgn ax ^^ sgn y) 0 = S at *
      clear HSR HSI HPX HPY
      generalize opW (Ieee.single.div x y) = R at *
      go_enter Try.func22, Try.ntmps22
      go_wp2_with ((first | (go_at_call 10; (with_reducible refine (HCX.out _).mono ?_); rintro r1 y1 ⟨rfl, rfl⟩) | (go_at_call 10; (with_reducible refine (HCY.out _).mono ?_); rintro r1 y1 ⟨rfl, rfl⟩) | (go_at_call 14; (with_reducible refine (HKX.out _).mono ?_); rintro r1 y1 ⟨rfl, rfl⟩) | (go_at_call 14; (with_reducible refine (HKY.out _).mono ?_); rintro r1 y1 ⟨rfl, rfl⟩)))
      go_ret
      exact ⟨by rw [HR.out]; rfl, Below.refl _ _⟩
    · have hry := And.intro hry1 hry2
      have HR := Lib.hid (show opW (Ieee.single.div x y) = _ from div_nan (.inl hnx))
      have hAx := hcx
      rw [hcy] at HCY hsx HSI HSR HKY HPY
      have nx : (((cleanW x : Nat) : Int) == 2143289344) = true := by rw [hAx]; decide
      have ny : (((y : Nat) : Int) == 2143289344) = false := by rw [beq_eq_false_iff_ne]; omega
      have k2y : (kindW y == 2) = false := by rw [beq_eq_false_iff_ne]; omega
      have k3y : (kindW y == 3) = false := by rw [beq_eq_false_iff_ne]; omega
      clear hAx hcx
      clear hky hney
      generalize kindW (cleanW x) = kx at *
      generalize cleanW x = ax at *
      generalize kindW y = ky at *
      generalize wd (sgn ax ^^ sgn y) 0 = S at *
      clear HSR HSI HPX HPY
      generalize opW (Ieee.single.div x y) = R at *
      go_enter Try.func22, Try.ntmps22
      go_wp2_with ((first | (go_at_call 10; (with_reducible refine (HCX.out _).mono ?_); rintro r1 y1 ⟨rfl, rfl⟩) | (go_at_call 10; (with_reducible refine (HCY.out _).mono ?_); rintro r1 y1 ⟨rfl, rfl⟩) | (go_at_call 14; (with_reducible refine (HKX.out _).mono ?_); rintro r1 y1 ⟨rfl, rfl⟩) | (go_at_call 14; (with_reducible refine (HKY.out _).mono ?_); rintro r1 y1 ⟨rfl, rfl⟩)))
      go_ret
      exact ⟨by rw [HR.out]; rfl, Below.refl _ _⟩
  · rcases cy with ⟨hny, hcy⟩ | ⟨hny, hcy, hney, ⟨hry, hky⟩ | ⟨hry, hky⟩ | ⟨hry1, hry2, hky, hky3⟩⟩
    · have HR := Lib.hid (show opW (Ieee.single.div x y) = _ from div_nan (.inr hny))
      have hAy := hcy
      rw [hcx] at HCX hsx HSI HSR HKX HPX
      have nx : (((x : Nat) : Int) == 2143289344) = false := by rw [beq_eq_false_iff_ne]; omega
      have k2x : (kindW x == 2) = true := by rw [beq_iff_eq]; omega
      have k3x : (kindW x == 3) = false := by rw [beq_eq_false_iff_ne]; omega
      have ny : (((cleanW y : Nat) : Int) == 2143289344) = true := by rw [hAy]; decide
      clear hkx hnex
      clear hAy hcy
      generalize kindW x = kx at *
      generalize kindW (cleanW y) = ky at *
      generalize cleanW y = ay at *
      generalize wd (sgn x ^^ sgn ay) 0 = S at *
      clear HSR HSI HPX HPY
      generalize opW (Ieee.single.div x y) = R at *
      go_enter Try.func22, Try.ntmps22
      go_wp2_with ((first | (go_at_call 10; (with_reducible refine (HCX.out _).mono ?_); rintro r1 y1 ⟨rfl, rfl⟩) | (go_at_call 10; (with_reducible refine (HCY.out _).mono ?_); rintro r1 y1 ⟨rfl, rfl⟩) | (go_at_call 14; (with_reducible refine (HKX.out _).mono ?_); rintro r1 y1 ⟨rfl, rfl⟩) | (go_at_call 14; (with_reducible refine (HKY.out _).mono ?_); rintro r1 y1 ⟨rfl, rfl⟩)))
      go_ret
      exact ⟨by rw [HR.out]; rfl, Below.refl _ _⟩
    · have HR := Lib.hid (show opW (Ieee.single.div x y) = _ from div_inf_inf hrx hry)
      rw [hcx] at HCX hsx HSI HSR HKX HPX
      rw [hcy] at HCY hsx HSI HSR HKY HPY
      have nx : (((x : Nat) : Int) == 2143289344) = false := by rw [beq_eq_false_iff_ne]; omega
      have k2x : (kindW x == 2) = true := by rw [beq_iff_eq]; omega
      have k3x : (kindW x == 3) = false := by rw [beq_eq_false_iff_ne]; omega
      have ny : (((y : Nat) : Int) == 2143289344) = false := by rw [beq_eq_false_iff_ne]; omega
      have k2y : (kindW y == 2) = true := by rw [beq_iff_eq]; omega
      have k3y : (kindW y == 3) = false := by rw [beq_eq_false_iff_ne]; omega
      clear hkx hnex
      clear hky hney
      generalize kindW x = kx at *
      generalize kindW y = ky at *
      generalize wd (sgn x ^^ sgn y) 0 = S at *
      clear HSR HSI HPX HPY
      generalize opW (Ieee.single.div x y) = R at *
      go_enter Try.func22, Try.ntmps22
      go_wp2_with ((first | (go_at_call 10; (with_reducible refine (HCX.out _).mono ?_); rintro r1 y1 ⟨rfl, rfl⟩) | (go_at_call 10; (with_reducible refine (HCY.out _).mono ?_); rintro r1 y1 ⟨rfl, rfl⟩) | (go_at_call 14; (with_reducible refine (HKX.out _).mono ?_); rintro r1 y1 ⟨rfl, rfl⟩) | (go_at_call 14; (with_reducible refine (HKY.out _).mono ?_); rintro r1 y1 ⟨rfl, rfl⟩)))
      go_ret
      exact ⟨by rw [HR.out]; rfl, Below.refl _ _⟩
    · have HR := Lib.hid (show opW (Ieee.single.div x y) = _ from div_inf (.inl ⟨hrx, by omega⟩))
      rw [hcx] at HCX hsx HSI HSR HKX HPX
      rw [hcy] at HCY hsx HSI HSR HKY HPY
      have nx : (((x : Nat) : Int) == 2143289344) = false := by rw [beq_eq_false_iff_ne]; omega
      have k2x : (kindW x == 2) = true := by rw [beq_iff_eq]; omega
      have k3x : (kindW x == 3) = false := by rw [beq_eq_false_iff_ne]; omega
      have ny : (((y : Nat) : Int) == 2143289344) = false := by rw [beq_eq_false_iff_ne]; omega
      have k2y : (kindW y == 2) = false := by rw [beq_eq_false_iff_ne]; omega
      have k3y : (kindW y == 3) = true := by rw [beq_iff_eq]; omega
      clear hkx hnex
      clear hky hney
      have hsi := HSI.out
      generalize kindW x = kx at *
      generalize kindW y = ky at *
      generalize wd (sgn x ^^ sgn y) 2139095040 = T at *
      generalize wd (sgn x ^^ sgn y) 0 = S at *
      clear HSR HSI HPX HPY
      generalize opW (Ieee.single.div x y) = R at *
      go_enter Try.func22, Try.ntmps22
      go_wp2_with ((first | (go_at_call 10; (with_reducible refine (HCX.out _).mono ?_); rintro r1 y1 ⟨rfl, rfl⟩) | (go_at_call 10; (with_reducible refine (HCY.out _).mono ?_); rintro r1 y1 ⟨rfl, rfl⟩) | (go_at_call 14; (with_reducible refine (HKX.out _).mono ?_); rintro r1 y1 ⟨rfl, rfl⟩) | (go_at_call 14; (with_reducible refine (HKY.out _).mono ?_); rintro r1 y1 ⟨rfl, rfl⟩)))
      go_ret
      exact ⟨by rw [HR.out]; rfl, Below.refl _ _⟩
    · have hry := And.intro hry1 hry2
      have HR := Lib.hid (show opW (Ieee.single.div x y) = _ from div_inf (.inl ⟨hrx, by omega⟩))
      rw [hcx] at HCX hsx HSI HSR HKX HPX
      rw [hcy] at HCY hsx HSI HSR HKY HPY
      have nx : (((x : Nat) : Int) == 2143289344) = false := by rw [beq_eq_false_iff_ne]; omega
      have k2x : (kindW x == 2) = true := by rw [beq_iff_eq]; omega
      have k3x : (kindW x == 3) = false := by rw [beq_eq_false_iff_ne]; omega
      have ny : (((y : Nat) : Int) == 2143289344) = false := by rw [beq_eq_false_iff_ne]; omega
      have k2y : (kindW y == 2) = false := by rw [beq_eq_false_iff_ne]; omega
      have k3y : (kindW y == 3) = false := by rw [beq_eq_false_iff_ne]; omega
      clear hkx hnex
      clear hky hney
      have hsi := HSI.out
      generalize kindW x = kx at *
      generalize kindW y = ky at *
      generalize wd (sgn x ^^ sgn y) 2139095040 = T at *
      generalize wd (sgn x ^^ sgn y) 0 = S at *
      clear HSR HSI HPX HPY
      generalize opW (Ieee.single.div x y) = R at *
      go_enter Try.func22, Try.ntmps22
      go_wp2_with ((first | (go_at_call 10; (with_reducible refine (HCX.out _).mono ?_); rintro r1 y1 ⟨rfl, rfl⟩) | (go_at_call 10; (with_reducible refine (HCY.out _).mono ?_); rintro r1 y1 ⟨rfl, rfl⟩) | (go_at_call 14; (with_reducible refine (HKX.out _).mono ?_); rintro r1 y1 ⟨rfl, rfl⟩) | (go_at_call 14; (with_reducible refine (HKY.out _).mono ?_); rintro r1 y1 ⟨rfl, rfl⟩)))
      go_ret
      exact ⟨by rw [HR.out]; rfl, Below.refl _ _⟩
  · rcases cy with ⟨hny, hcy⟩ | ⟨hny, hcy, hney, ⟨hry, hky⟩ | ⟨hry, hky⟩ | ⟨hry1, hry2, hky, hky3⟩⟩
    · have HR := Lib.hid (show opW (Ieee.single.div x y) = _ from div_nan (.inr hny))
      have hAy := hcy
      rw [hcx] at HCX hsx HSI HSR HKX HPX
      have nx : (((x : Nat) : Int) == 2143289344) = false := by rw [beq_eq_false_iff_ne]; omega
      have k2x : (kindW x == 2) = false := by rw [beq_eq_false_iff_ne]; omega
      have k3x : (kindW x == 3) = true := by rw [beq_iff_eq]; omega
      have ny : (((cleanW y : Nat) : Int) == 2143289344) = true := by rw [hAy]; decide
      clear hkx hnex
      clear hAy hcy
      generalize kindW x = kx at *
      generalize kindW (cleanW y) = ky at *
      generalize cleanW y = ay at *
      generalize wd (sgn x ^^ sgn ay) 0 = S at *
      clear HSR HSI HPX HPY
      generalize opW (Ieee.single.div x y) = R at *
      go_enter Try.func22, Try.ntmps22
      go_wp2_with ((first | (go_at_call 10; (with_reducible refine (HCX.out _).mono ?_); rintro r1 y1 ⟨rfl, rfl⟩) | (go_at_call 10; (with_reducible refine (HCY.out _).mono ?_); rintro r1 y1 ⟨rfl, rfl⟩) | (go_at_call 14; (with_reducible refine (HKX.out _).mono ?_); rintro r1 y1 ⟨rfl, rfl⟩) | (go_at_call 14; (with_reducible refine (HKY.out _).mono ?_); rintro r1 y1 ⟨rfl, rfl⟩)))
      go_ret
      exact ⟨by rw [HR.out]; rfl, Below.refl _ _⟩
    · have HR := Lib.hid (show opW (Ieee.single.div x y) = _ from div_none (.inl ⟨by omega, hry⟩))
      rw [hcx] at HCX hsx HSI HSR HKX HPX
      rw [hcy] at HCY hsx HSI HSR HKY HPY
      have nx : (((x : Nat) : Int) == 2143289344) = false := by rw [beq_eq_false_iff_ne]; omega
      have k2x : (kindW x == 2) = false := by rw [beq_eq_false_iff_ne]; omega
      have k3x : (kindW x == 3) = true := by rw [beq_iff_eq]; omega
      have ny : (((y : Nat) : Int) == 2143289344) = false := by rw [beq_eq_false_iff_ne]; omega
      have k2y : (kindW y == 2) = true := by rw [beq_iff_eq]; omega
      have k3y : (kindW y == 3) = false := by rw [beq_eq_false_iff_ne]; omega
      clear hkx hnex
      clear hky hney
      generalize kindW x = kx at *
      generalize kindW y = ky at *
      generalize wd (sgn x ^^ sgn y) 0 = S at *
      clear HSR HSI HPX HPY
      generalize opW (Ieee.single.div x y) = R at *
      go_enter Try.func22, Try.ntmps22
      go_wp2_with ((first | (go_at_call 10; (with_reducible refine (HCX.out _).mono ?_); rintro r1 y1 ⟨rfl, rfl⟩) | (go_at_call 10; (with_reducible refine (HCY.out _).mono ?_); rintro r1 y1 ⟨rfl, rfl⟩) | (go_at_call 14; (with_reducible refine (HKX.out _).mono ?_); rintro r1 y1 ⟨rfl, rfl⟩) | (go_at_call 14; (with_reducible refine (HKY.out _).mono ?_); rintro r1 y1 ⟨rfl, rfl⟩)))
      go_ret
      exact ⟨by rw [HR.out]; rfl, Below.refl _ _⟩
    · have HR := Lib.hid (show opW (Ieee.single.div x y) = _ from div_zero_zero hrx hry)
      rw [hcx] at HCX hsx HSI HSR HKX HPX
      rw [hcy] at HCY hsx HSI HSR HKY HPY
      have nx : (((x : Nat) : Int) == 2143289344) = false := by rw [beq_eq_false_iff_ne]; omega
      have k2x : (kindW x == 2) = false := by rw [beq_eq_false_iff_ne]; omega
      have k3x : (kindW x == 3) = true := by rw [beq_iff_eq]; omega
      have ny : (((y : Nat) : Int) == 2143289344) = false := by rw [beq_eq_false_iff_ne]; omega
      have k2y : (kindW y == 2) = false := by rw [beq_eq_false_iff_ne]; omega
      have k3y : (kindW y == 3) = true := by rw [beq_iff_eq]; omega
      clear hkx hnex
      clear hky hney
      generalize kindW x = kx at *
      generalize kindW y = ky at *
      generalize wd (sgn x ^^ sgn y) 0 = S at *
      clear HSR HSI HPX HPY
      generalize opW (Ieee.single.div x y) = R at *
      go_enter Try.func22, Try.ntmps22
      go_wp2_with ((first | (go_at_call 10; (with_reducible refine (HCX.out _).mono ?_); rintro r1 y1 ⟨rfl, rfl⟩) | (go_at_call 10; (with_reducible refine (HCY.out _).mono ?_); rintro r1 y1 ⟨rfl, rfl⟩) | (go_at_call 14; (with_reducible refine (HKX.out _).mono ?_); rintro r1 y1 ⟨rfl, rfl⟩) | (go_at_call 14; (with_reducible refine (HKY.out _).mono ?_); rintro r1 y1 ⟨rfl, rfl⟩)))
      go_ret
      exact ⟨by rw [HR.out]; rfl, Below.refl _ _⟩
    · have hry := And.intro hry1 hry2
      have HR := Lib.hid (show opW (Ieee.single.div x y) = _ from div_none (.inr ⟨hrx, hry.1, hry.2⟩))
      rw [hcx] at HCX hsx HSI HSR HKX HPX
      rw [hcy] at HCY hsx HSI HSR HKY HPY
      have nx : (((x : Nat) : Int) == 2143289344) = false := by rw [beq_eq_false_iff_ne]; omega
      have k2x : (kindW x == 2) = false := by rw [beq_eq_false_iff_ne]; omega
      have k3x : (kindW x == 3) = true := by rw [beq_iff_eq]; omega
      have ny : (((y : Nat) : Int) == 2143289344) = false := by rw [beq_eq_false_iff_ne]; omega
      have k2y : (kindW y == 2) = false := by rw [beq_eq_false_iff_ne]; omega
      have k3y : (kindW y == 3) = false := by rw [beq_eq_false_iff_ne]; omega
      clear hkx hnex
      clear hky hney
      generalize kindW x = kx at *
      generalize kindW y = ky at *
      generalize wd (sgn x ^^ sgn y) 0 = S at *
      clear HSR HSI HPX HPY
      generalize opW (Ieee.single.div x y) = R at *
      go_enter Try.func22, Try.ntmps22
      go_wp2_with ((first | (go_at_call 10; (with_reducible refine (HCX.out _).mono ?_); rintro r1 y1 ⟨rfl, rfl⟩) | (go_at_call 10; (with_reducible refine (HCY.out _).mono ?_); rintro r1 y1 ⟨rfl, rfl⟩) | (go_at_call 14; (with_reducible refine (HKX.out _).mono ?_); rintro r1 y1 ⟨rfl, rfl⟩) | (go_at_call 14; (with_reducible refine (HKY.out _).mono ?_); rintro r1 y1 ⟨rfl, rfl⟩)))
      go_ret
      exact ⟨by rw [HR.out]; rfl, Below.refl _ _⟩
  · rcases cy with ⟨hny, hcy⟩ | ⟨hny, hcy, hney, ⟨hry, hky⟩ | ⟨hry, hky⟩ | ⟨hry1, hry2, hky, hky3⟩⟩
    · have hrx := And.intro hrx1 hrx2
      have HR := Lib.hid (show opW (Ieee.single.div x y) = _ from div_nan (.inr hny))
      have hAy := hcy
      rw [hcx] at HCX hsx HSI HSR HKX HPX
      have nx : (((x : Nat) : Int) == 2143289344) = false := by rw [beq_eq_false_iff_ne]; omega
      have k2x : (kindW x == 2) = false := by rw [beq_eq_false_iff_ne]; omega
      have k3x : (kindW x == 3) = false := by rw [beq_eq_false_iff_ne]; omega
      have ny : (((cleanW y : Nat) : Int) == 2143289344) = true := by rw [hAy]; decide
      clear hkx hnex
      clear hAy hcy
      generalize kindW x = kx at *
      generalize kindW (cleanW y) = ky at *
      generalize cleanW y = ay at *
      generalize wd (sgn x ^^ sgn ay) 0 = S at *
      clear HSR HSI HPX HPY
      generalize opW (Ieee.single.div x y) = R at *
      go_enter Try.func22, Try.ntmps22
      go_wp2_with ((first | (go_at_call 10; (with_reducible refine (HCX.out _).mono ?_); rintro r1 y1 ⟨rfl, rfl⟩) | (go_at_call 10; (with_reducible refine (HCY.out _).mono ?_); rintro r1 y1 ⟨rfl, rfl⟩) | (go_at_call 14; (with_reducible refine (HKX.out _).mono ?_); rintro r1 y1 ⟨rfl, rfl⟩) | (go_at_call 14; (with_reducible refine (HKY.out _).mono ?_); rintro r1 y1 ⟨rfl, rfl⟩)))
      go_ret
      exact ⟨by rw [HR.out]; rfl, Below.refl _ _⟩
    · have hrx := And.intro hrx1 hrx2
      have HR := Lib.hid (show opW (Ieee.single.div x y) = _ from div_none (.inl ⟨by omega, hry⟩))
      rw [hcx] at HCX hsx HSI HSR HKX HPX
      rw [hcy] at HCY hsx HSI HSR HKY HPY
      have nx : (((x : Nat) : Int) == 2143289344) = false := by rw [beq_eq_false_iff_ne]; omega
      have k2x : (kindW x == 2) = false := by rw [beq_eq_false_iff_ne]; omega
      have k3x : (kindW x == 3) = false := by rw [beq_eq_false_iff_ne]; omega
      have ny : (((y : Nat) : Int) == 2143289344) = false := by rw [beq_eq_false_iff_ne]; omega
      have k2y : (kindW y == 2) = true := by rw [beq_iff_eq]; omega
      have k3y : (kindW y == 3) = false := by rw [beq_eq_false_iff_ne]; omega
      clear hkx hnex
      clear hky hney
      generalize kindW x = kx at *
      generalize kindW y = ky at *
      generalize wd (sgn x ^^ sgn y) 0 = S at *
      clear HSR HSI HPX HPY
      generalize opW (Ieee.single.div x y) = R at *
      go_enter Try.func22, Try.ntmps22
      go_wp2_with ((first | (go_at_call 10; (with_reducible refine (HCX.out _).mono ?_); rintro r1 y1 ⟨rfl, rfl⟩) | (go_at_call 10; (with_reducible refine (HCY.out _).mono ?_); rintro r1 y1 ⟨rfl, rfl⟩) | (go_at_call 14; (with_reducible refine (HKX.out _).mono ?_); rintro r1 y1 ⟨rfl, rfl⟩) | (go_at_call 14; (with_reducible refine (HKY.out _).mono ?_); rintro r1 y1 ⟨rfl, rfl⟩)))
      go_ret
      exact ⟨by rw [HR.out]; rfl, Below.refl _ _⟩
    · have hrx := And.intro hrx1 hrx2
      have HR := Lib.hid (show opW (Ieee.single.div x y) = _ from div_inf (.inr ⟨hry, hrx.1, hrx.2⟩))
      rw [hcx] at HCX hsx HSI HSR HKX HPX
      rw [hcy] at HCY hsx HSI HSR HKY HPY
      have nx : (((x : Nat) : Int) == 2143289344) = false := by rw [beq_eq_false_iff_ne]; omega
      have k2x : (kindW x == 2) = false := by rw [beq_eq_false_iff_ne]; omega
      have k3x : (kindW x == 3) = false := by rw [beq_eq_false_iff_ne]; omega
      have ny : (((y : Nat) : Int) == 2143289344) = false := by rw [beq_eq_false_iff_ne]; omega
      have k2y : (kindW y == 2) = false := by rw [beq_eq_false_iff_ne]; omega
      have k3y : (kindW y == 3) = true := by rw [beq_iff_eq]; omega
      clear hkx hnex
      clear hky hney
      have hsi := HSI.out
      generalize kindW x = kx at *
      generalize kindW y = ky at *
      generalize wd (sgn x ^^ sgn y) 2139095040 = T at *
      generalize wd (sgn x ^^ sgn y) 0 = S at *
      clear HSR HSI HPX HPY
      generalize opW (Ieee.single.div x y) = R at *
      go_enter Try.func22, Try.ntmps22
      go_wp2_with ((first | (go_at_call 10; (with_reducible refine (HCX.out _).mono ?_); rintro r1 y1 ⟨rfl, rfl⟩) | (go_at_call 10; (with_reducible refine (HCY.out _).mono ?_); rintro r1 y1 ⟨rfl, rfl⟩) | (go_at_call 14; (with_reducible refine (HKX.out _).mono ?_); rintro r1 y1 ⟨rfl, rfl⟩) | (go_at_call 14; (with_reducible refine (HKY.out _).mono ?_); rintro r1 y1 ⟨rfl, rfl⟩)))
      go_ret
      exact ⟨by rw [HR.out]; rfl, Below.refl _ _⟩
    · have hrx := And.intro hrx1 hrx2
      have hry := And.intro hry1 hry2
      have HR := Lib.hid (show opW (Ieee.single.div x y) = _ from div_num hrx.2 hry.2 hry.1)
      rw [hcx] at HCX hsx HSI HSR HKX HPX
      rw [hcy] at HCY hsx HSI HSR HKY HPY
      have nx : (((x : Nat) : Int) == 2143289344) = false := by rw [beq_eq_false_iff_ne]; omega
      have k2x : (kindW x == 2) = false := by rw [beq_eq_false_iff_ne]; omega
      have k3x : (kindW x == 3) = false := by rw [beq_eq_false_iff_ne]; omega
      have ny : (((y : Nat) : Int) == 2143289344) = false := by rw [beq_eq_false_iff_ne]; omega
      have k2y : (kindW y == 2) = false := by rw [beq_eq_false_iff_ne]; omega
      have k3y : (kindW y == 3) = false := by rw [beq_eq_false_iff_ne]; omega
      clear hkx hnex
      clear hky hney
      have hmx := pm_lt (rg x)
      have hmy := pm_lt (rg y)
      have hmx0 := pm_pos hrx.1
      have hmy0 := pm_pos hry.1
      have hex := pe_ge (rg x)
      have hey := pe_ge (rg y)
      have hex2 := pe_le (rg x) hrx.2
      have hey2 := pe_le (rg y) hry.2
      have hnl := nearest_le (dvM (pm (rg x)) (pm (rg y))) (dvP (pm (rg x)) (pm (rg y)) (pe (rg x)) (pe (rg y)))
      have hor := HSR.out _ (show Ieee.single.nearest false (dvM (pm (rg x)) (pm (rg y))) (dvP (pm (rg x)) (pm (rg y)) (pe (rg x)) (pe (rg y))) < 2147483648 by omega)
      have H1 := Lib.hid (fun W => near2_any (pm (rg x)) (pm (rg y)) (pe (rg x)) (pe (rg y)) W hmx0 hmx hmy0 hmy hex hex2 hey hey2)
      clear hnl hmx hmy hmx0 hmy0 hex hey hex2 hey2
      generalize Ieee.single.nearest false (dvM (pm (rg x)) (pm (rg y))) (dvP (pm (rg x)) (pm (rg y)) (pe (rg x)) (pe (rg y))) = NN at *
      generalize kindW x = kx at *
      generalize kindW y = ky at *
      generalize pm (rg x) = mx at *
      generalize pm (rg y) = my at *
      generalize pe (rg x) = ex at *
      generalize pe (rg y) = ey at *
      generalize wd (sgn x ^^ sgn y) NN = T at *
      generalize wd (sgn x ^^ sgn y) 0 = S at *
      clear HSR HSI hrx1 hrx2 hry1 hry2 hrx hry
      generalize opW (Ieee.single.div x y) = R at *
      go_enter Try.func22, Try.ntmps22
      go_wp2_with ((first | (go_at_call 10; (with_reducible refine (HCX.out _).mono ?_); rintro r1 y1 ⟨rfl, rfl⟩) | (go_at_call 10; (with_reducible refine (HCY.out _).mono ?_); rintro r1 y1 ⟨rfl, rfl⟩) | (go_at_call 14; (with_reducible refine (HKX.out _).mono ?_); rintro r1 y1 ⟨rfl, rfl⟩) | (go_at_call 14; (with_reducible refine (HKY.out _).mono ?_); rintro r1 y1 ⟨rfl, rfl⟩) | (go_at_call 54; (with_reducible refine (HPX.out _).mono ?_); rintro r1 y1 ⟨rfl, rfl⟩) | (go_at_call 54; (with_reducible refine (HPY.out _).mono ?_); rintro r1 y1 ⟨rfl, rfl⟩) | (go_at_call 55; (with_reducible refine (H1.out _).mono ?_); rintro r1 y4 ⟨rfl, hl3⟩)))
      go_ret
      exact ⟨by rw [HR.out]; rfl, hl3⟩
end Go.Proofs.Ytoaecmoihbifoaa
