/-
  Layer 3, the reference: sums and differences.
-/
import Derived.Test.YtoaecmoihbifoaaNn
namespace Go.Proofs.Ytoaecmoihbifoaa
open Go.RowKit Go.K Go.R
set_option linter.unusedVariables false
set_option linter.unusedSimpArgs false
theorem mV_zero {x : Nat} (h : mV x = 0) : rg x = 0 := by
  apply Nat.eq_zero_of_not_pos
  intro h0
  have h1 := pm_pos h0
  have h2 := Nat.mul_pos h1 (Nat.two_pow_pos (pe (rg x) - -600).toNat)
  unfold mV sc at h
  omega
theorem nearD_z {m : Nat} (h : 0 < m) (z z' : Bool) : nearD 0 m z = nearD 0 m z' := by
  unfold nearD
  rw [if_neg (Nat.not_lt_zero _), if_pos h, if_neg (Nat.not_lt_zero _), if_pos h]
theorem add_tot {x y : Nat} (hx : x < 4294967296) (hy : y < 4294967296) (h : rg x < 2139095040) (h2 : rg y < 2139095040) : opW (Ieee.single.add x y) = totV [x, y] := by
  rw [add_num h h2]
  have e1 : sumL upV [x, y] = upV x + upV y := by simp [sumL]
  have e2 : sumL dnV [x, y] = dnV x + dnV y := by simp [sumL]
  unfold totV
  rw [e1, e2]
  have ha : [x, y].all (fun x => x == 2147483648) = ((x == 2147483648) && (y == 2147483648)) := by simp
  rw [ha]
  by_cases hb : x = 2147483648 ∧ y = 2147483648
  · obtain ⟨rfl, rfl⟩ := hb
    have u0 : upV 2147483648 = 0 := by unfold upV; rw [show sgn 2147483648 = true by decide]; rfl
    have d0 : dnV 2147483648 = 0 := by
      unfold dnV mV
      rw [show sgn 2147483648 = true by decide, show rg 2147483648 = 0 by decide, pm_zero, if_pos rfl]
      exact Nat.zero_mul _
    rw [u0, d0, show sgn 2147483648 = true by decide]
    unfold nearD
    rw [if_neg (by decide), if_neg (by decide), if_pos (by decide)]
    decide
  · have hc : ((x == 2147483648) && (y == 2147483648)) = false := by
      rw [Bool.and_eq_false_iff, beq_eq_false_iff_ne, beq_eq_false_iff_ne]
      by_cases h3 : x = 2147483648
      · exact .inr (fun h4 => hb ⟨h3, h4⟩)
      · exact .inl h3
    rw [hc, if_neg (by decide)]
    cases hz : (sgn x && sgn y)
    · rfl
    · rw [Bool.and_eq_true] at hz
      have u0 : upV x = 0 := by unfold upV; rw [hz.1]; rfl
      have u1 : upV y = 0 := by unfold upV; rw [hz.2]; rfl
      have d0 : dnV x = mV x := by unfold dnV; rw [hz.1]; rfl
      have d1 : dnV y = mV y := by unfold dnV; rw [hz.2]; rfl
      rw [u0, u1, d0, d1, Nat.add_zero]
      by_cases h5 : 0 < mV x + mV y
      · exact nearD_z h5 _ _
      · exfalso
        have kx := kind_word hx
        have ky := kind_word hy
        rw [mV_zero (show mV x = 0 by omega), hz.1] at kx
        rw [mV_zero (show mV y = 0 by omega), hz.2] at ky
        exact hb ⟨kx, ky⟩
theorem cls3 (x : Nat) (hx : x < 4294967296) : cleanW x < 4294967296 ∧ ((nanW x = true ∧ cleanW x = 2143289344) ∨ (nanW x = false ∧ cleanW x = x ∧ x ≠ 2143289344 ∧ ((rg x = 2139095040 ∧ finW x = false) ∨ (rg x < 2139095040 ∧ finW x = true)))) := by
  obtain ⟨h1, h2⟩ := cls x hx
  refine ⟨h1, ?_⟩
  rcases h2 with h | ⟨h3, h4, h5, h6⟩
  · exact .inl h
  · refine .inr ⟨h3, h4, h5, ?_⟩
    rcases h6 with ⟨h, _⟩ | ⟨h, _⟩ | ⟨_, h, _⟩
    · exact .inl ⟨h, decide_eq_false (by omega)⟩
    · exact .inr ⟨by omega, decide_eq_true (by omega)⟩
    · exact .inr ⟨h, decide_eq_true h⟩
set_option maxRecDepth 100000 in
set_option maxHeartbeats 4000000 in
theorem radd_any (x y : Nat) (hx : x < 4294967296) (hy : y < 4294967296) (w : World) :
    Calls Try.prog 16 #[.int .u32 (x : Int), .int .u32 (y : Int)] w fun r w' => r = .returned (.int .u32 ((opW (Ieee.single.add x y) : Nat) : Int)) ∧ Below w.heap.size w w' := by
  obtain ⟨lx, cx⟩ := cls3 x hx
  obtain ⟨ly, cy⟩ := cls3 y hy
  have HCX := Lib.hid (fun W => rclean_any x W)
  have HCY := Lib.hid (fun W => rclean_any y W)
  have HFX := Lib.hid (fun W => finite_any (cleanW x) W)
  have HFY := Lib.hid (fun W => finite_any (cleanW y) W)
  have HWX := Lib.hid (kind_word hx)
  have HWY := Lib.hid (kind_word hy)
  rcases cx with ⟨hnx, hcx⟩ | ⟨hnx, hcx, hnex, ⟨hrx, hfx⟩ | ⟨hrx, hfx⟩⟩
  · have HR := Lib.hid (add_nan (x := x) (y := y) (.inl hnx))
    have nx : ((cleanW x : Int) == 2143289344) = true := by rw [hcx]; decide
    clear hcx hnx cy HWX HWY
    generalize opW (Ieee.single.add x y) = R at *
    generalize cleanW x = ax at *
    generalize cleanW y = ay at *
    go_enter Try.func16, Try.ntmps16
    go_wp2_with ((first | (go_at_call 10; (with_reducible refine (HCX.out _).mono ?_); rintro r1 y1 ⟨rfl, rfl⟩) | (go_at_call 10; (with_reducible refine (HCY.out _).mono ?_); rintro r1 y1 ⟨rfl, rfl⟩) | (go_at_call 53; (with_reducible refine (HFX.out _).mono ?_); rintro r1 y1 ⟨rfl, rfl⟩) | (go_at_call 53; (with_reducible refine (HFY.out _).mono ?_); rintro r1 y1 ⟨rfl, rfl⟩)))
    go_ret
    exact ⟨by rw [HR.out]; rfl, Below.refl _ _⟩
  · have nx : ((x : Int) == 2143289344) = false := by rw [beq_eq_false_iff_ne]; omega
    rw [hcx] at HCX HFX
    rw [hfx] at HFX
    rcases cy with ⟨hny, hcy⟩ | ⟨hny, hcy, hney, ⟨hry, hfy⟩ | ⟨hry, hfy⟩⟩
    · have HR := Lib.hid (add_nan (x := x) (y := y) (.inr hny))
      have ny : ((cleanW y : Int) == 2143289344) = true := by rw [hcy]; decide
      clear hcx hnx hcy hny hnex hfx hrx HWX HWY
      generalize opW (Ieee.single.add x y) = R at *
      generalize cleanW y = ay at *
      go_enter Try.func16, Try.ntmps16
      go_wp2_with ((first | (go_at_call 10; (with_reducible refine (HCX.out _).mono ?_); rintro r1 y1 ⟨rfl, rfl⟩) | (go_at_call 10; (with_reducible refine (HCY.out _).mono ?_); rintro r1 y1 ⟨rfl, rfl⟩) | (go_at_call 53; (with_reducible refine (HFX.out _).mono ?_); rintro r1 y1 ⟨rfl, rfl⟩) | (go_at_call 53; (with_reducible refine (HFY.out _).mono ?_); rintro r1 y1 ⟨rfl, rfl⟩)))
      go_ret
      exact ⟨by rw [HR.out]; rfl, Below.refl _ _⟩
    · have ny : ((y : Int) == 2143289344) = false := by rw [beq_eq_false_iff_ne]; omega
      rw [hcy] at HCY HFY
      rw [hfy] at HFY
      have hwx := HWX.out
      have hwy := HWY.out
      rw [hrx] at hwx
      rw [hry] at hwy
      have hR := add_inf_inf hrx hry
      by_cases he : sgn x = sgn y
      · rw [if_pos he] at hR
        have hxy : x = y := by rw [hwx, hwy, he]
        have HR := Lib.hid (hR.trans hwx.symm)
        have nxy : ((x : Int) != (y : Int)) = false := by rw [hxy]; simp
        clear hR hwx hwy he hxy hcx hnx hcy hny hnex hney hfx hfy hrx hry HWX HWY
        generalize opW (Ieee.single.add x y) = R at *
        go_enter Try.func16, Try.ntmps16
        go_wp2_with ((first | (go_at_call 10; (with_reducible refine (HCX.out _).mono ?_); rintro r1 y1 ⟨rfl, rfl⟩) | (go_at_call 10; (with_reducible refine (HCY.out _).mono ?_); rintro r1 y1 ⟨rfl, rfl⟩) | (go_at_call 53; (with_reducible refine (HFX.out _).mono ?_); rintro r1 y1 ⟨rfl, rfl⟩) | (go_at_call 53; (with_reducible refine (HFY.out _).mono ?_); rintro r1 y1 ⟨rfl, rfl⟩)))
        go_ret
        exact ⟨by rw [HR.out]; rfl, Below.refl _ _⟩
      · rw [if_neg he] at hR
        have HR := Lib.hid hR
        have nxy : ((x : Int) != (y : Int)) = true := by
          rw [bne_iff_ne]
          intro h
          have h2 : x = y := by omega
          exact he (by rw [h2])
        clear hR hwx hwy he hcx hnx hcy hny hnex hney hfx hfy hrx hry HWX HWY
        generalize opW (Ieee.single.add x y) = R at *
        go_enter Try.func16, Try.ntmps16
        go_wp2_with ((first | (go_at_call 10; (with_reducible refine (HCX.out _).mono ?_); rintro r1 y1 ⟨rfl, rfl⟩) | (go_at_call 10; (with_reducible refine (HCY.out _).mono ?_); rintro r1 y1 ⟨rfl, rfl⟩) | (go_at_call 53; (with_reducible refine (HFX.out _).mono ?_); rintro r1 y1 ⟨rfl, rfl⟩) | (go_at_call 53; (with_reducible refine (HFY.out _).mono ?_); rintro r1 y1 ⟨rfl, rfl⟩)))
        go_ret
        exact ⟨by rw [HR.out]; rfl, Below.refl _ _⟩
    · have ny : ((y : Int) == 2143289344) = false := by rw [beq_eq_false_iff_ne]; omega
      rw [hcy] at HCY HFY
      rw [hfy] at HFY
      have hwx := HWX.out
      rw [hrx] at hwx
      have HR := Lib.hid ((add_inf_num hrx hry).trans hwx.symm)
      clear hwx hcx hnx hcy hny hnex hney hfx hfy hrx hry HWX HWY
      generalize opW (Ieee.single.add x y) = R at *
      go_enter Try.func16, Try.ntmps16
      go_wp2_with ((first | (go_at_call 10; (with_reducible refine (HCX.out _).mono ?_); rintro r1 y1 ⟨rfl, rfl⟩) | (go_at_call 10; (with_reducible refine (HCY.out _).mono ?_); rintro r1 y1 ⟨rfl, rfl⟩) | (go_at_call 53; (with_reducible refine (HFX.out _).mono ?_); rintro r1 y1 ⟨rfl, rfl⟩) | (go_at_call 53; (with_reducible refine (HFY.out _).mono ?_); rintro r1 y1 ⟨rfl, rfl⟩)))
      go_ret
      exact ⟨by rw [HR.out]; rfl, Below.refl _ _⟩
  · have nx : ((x : Int) == 2143289344) = false := by rw [beq_eq_false_iff_ne]; omega
    rw [hcx] at HCX HFX
    rw [hfx] at HFX
    rcases cy with ⟨hny, hcy⟩ | ⟨hny, hcy, hney, ⟨hry, hfy⟩ | ⟨hry, hfy⟩⟩
    · have HR := Lib.hid (add_nan (x := x) (y := y) (.inr hny))
      have ny : ((cleanW y : Int) == 2143289344) = true := by rw [hcy]; decide
      clear hcx hnx hcy hny hnex hfx hrx HWX HWY
      generalize opW (Ieee.single.add x y) = R at *
      generalize cleanW y = ay at *
      go_enter Try.func16, Try.ntmps16
      go_wp2_with ((first | (go_at_call 10; (with_reducible refine (HCX.out _).mono ?_); rintro r1 y1 ⟨rfl, rfl⟩) | (go_at_call 10; (with_reducible refine (HCY.out _).mono ?_); rintro r1 y1 ⟨rfl, rfl⟩) | (go_at_call 53; (with_reducible refine (HFX.out _).mono ?_); rintro r1 y1 ⟨rfl, rfl⟩) | (go_at_call 53; (with_reducible refine (HFY.out _).mono ?_); rintro r1 y1 ⟨rfl, rfl⟩)))
      go_ret
      exact ⟨by rw [HR.out]; rfl, Below.refl _ _⟩
    · have ny : ((y : Int) == 2143289344) = false := by rw [beq_eq_false_iff_ne]; omega
      rw [hcy] at HCY HFY
      rw [hfy] at HFY
      have hwy := HWY.out
      rw [hry] at hwy
      have HR := Lib.hid ((add_num_inf hrx hry).trans hwy.symm)
      clear hwy hcx hnx hcy hny hnex hney hfx hfy hrx hry HWX HWY
      generalize opW (Ieee.single.add x y) = R at *
      go_enter Try.func16, Try.ntmps16
      go_wp2_with ((first | (go_at_call 10; (with_reducible refine (HCX.out _).mono ?_); rintro r1 y1 ⟨rfl, rfl⟩) | (go_at_call 10; (with_reducible refine (HCY.out _).mono ?_); rintro r1 y1 ⟨rfl, rfl⟩) | (go_at_call 53; (with_reducible refine (HFX.out _).mono ?_); rintro r1 y1 ⟨rfl, rfl⟩) | (go_at_call 53; (with_reducible refine (HFY.out _).mono ?_); rintro r1 y1 ⟨rfl, rfl⟩)))
      go_ret
      exact ⟨by rw [HR.out]; rfl, Below.refl _ _⟩
    · have ny : ((y : Int) == 2143289344) = false := by rw [beq_eq_false_iff_ne]; omega
      rw [hcy] at HCY HFY
      rw [hfy] at HFY
      have HR := Lib.hid (add_tot hx hy hrx hry)
      have HT := Lib.hid (fun W ad (h : Sl W ad (wv [x, y])) => rtotal_fin [x, y] ad 2 W (by simp) (by simp) (fun z hz => by
        simp only [List.mem_cons, List.not_mem_nil, or_false] at hz
        rcases hz with rfl | rfl
        · exact ⟨hx, hrx⟩
        · exact ⟨hy, hry⟩) h)
      have HV := Lib.hid (show x = 2147483648 → y = 2147483648 → totV [x, y] = 2147483648 from fun h1 h2 => by subst h1 h2; decide)
      have hwv : wv [x, y] = [.int .u32 (x : Int), .int .u32 (y : Int)] := rfl
      rw [hwv] at HT
      have hll : ([x, y] : List Nat).length = 2 := rfl
      rw [hll] at HT
      clear hwv hll hcx hnx hcy hny hnex hney hfx hfy hrx hry HWX HWY
      generalize totV [x, y] = V at *
      by_cases h1 : x = 2147483648
      · have s1 : ((x : Int) == 2147483648) = true := by rw [beq_iff_eq]; omega
        by_cases h2 : y = 2147483648
        · have s2 : ((y : Int) == 2147483648) = true := by rw [beq_iff_eq]; omega
          have HV2 := Lib.hid (HV.out h1 h2)
          clear h1 h2
          go_enter Try.func16, Try.ntmps16
          go_wp2_with ((first | (go_at_call 10; (with_reducible refine (HCX.out _).mono ?_); rintro r1 y1 ⟨rfl, rfl⟩) | (go_at_call 10; (with_reducible refine (HCY.out _).mono ?_); rintro r1 y1 ⟨rfl, rfl⟩) | (go_at_call 53; (with_reducible refine (HFX.out _).mono ?_); rintro r1 y1 ⟨rfl, rfl⟩) | (go_at_call 53; (with_reducible refine (HFY.out _).mono ?_); rintro r1 y1 ⟨rfl, rfl⟩)))
          go_ret
          exact ⟨by rw [HR.out, HV2.out]; rfl, Below.refl _ _⟩
        · have s2 : ((y : Int) == 2147483648) = false := by rw [beq_eq_false_iff_ne]; omega
          clear h1 h2
          go_enter Try.func16, Try.ntmps16
          go_wp2_with ((first | (go_at_call 10; (with_reducible refine (HCX.out _).mono ?_); rintro r1 y1 ⟨rfl, rfl⟩) | (go_at_call 10; (with_reducible refine (HCY.out _).mono ?_); rintro r1 y1 ⟨rfl, rfl⟩) | (go_at_call 53; (with_reducible refine (HFX.out _).mono ?_); rintro r1 y1 ⟨rfl, rfl⟩) | (go_at_call 53; (with_reducible refine (HFY.out _).mono ?_); rintro r1 y1 ⟨rfl, rfl⟩) | (go_at_call 38; (with_reducible refine (HT.out _ _ (sl_new _ _ _ _)).mono ?_); rintro r1 y2 ⟨rfl, hl⟩)))
          go_ret
          exact ⟨by rw [HR.out]; rfl, ((Below.refl _ _).alloc (Nat.le_refl _) _).trans (hl.mono (by simp))⟩
      · have s1 : ((x : Int) == 2147483648) = false := by rw [beq_eq_false_iff_ne]; omega
        clear h1
        go_enter Try.func16, Try.ntmps16
        go_wp2_with ((first | (go_at_call 10; (with_reducible refine (HCX.out _).mono ?_); rintro r1 y1 ⟨rfl, rfl⟩) | (go_at_call 10; (with_reducible refine (HCY.out _).mono ?_); rintro r1 y1 ⟨rfl, rfl⟩) | (go_at_call 53; (with_reducible refine (HFX.out _).mono ?_); rintro r1 y1 ⟨rfl, rfl⟩) | (go_at_call 53; (with_reducible refine (HFY.out _).mono ?_); rintro r1 y1 ⟨rfl, rfl⟩) | (go_at_call 38; (with_reducible refine (HT.out _ _ (sl_new _ _ _ _)).mono ?_); rintro r1 y2 ⟨rfl, hl⟩)))
        go_ret
        exact ⟨by rw [HR.out]; rfl, ((Below.refl _ _).alloc (Nat.le_refl _) _).trans (hl.mono (by simp))⟩
theorem cleanW_lt {x : Nat} (hx : x < 4294967296) : cleanW x < 4294967296 := (cls x hx).1
theorem rsub_any (x y : Nat) (hx : x < 4294967296) (hy : y < 4294967296) (w : World) :
    Calls Try.prog 18 #[.int .u32 (x : Int), .int .u32 (y : Int)] w fun r w' => r = .returned (.int .u32 ((opW (Ieee.single.sub x y) : Nat) : Int)) ∧ Below w.heap.size w w' := by
  have HCY := Lib.hid (fun W => rclean_any y W)
  have hS := sign_flip (cleanW y) (cleanW_lt hy)
  have HA := Lib.hid (fun W => radd_any x (flip (cleanW y)) hx (flip_lt (cleanW_lt hy)) W)
  rw [← sub_flip hy] at HA
  generalize opW (Ieee.single.sub x y) = R at *
  generalize flip (cleanW y) = F at *
  generalize cleanW y = ay at *
  go_enter Try.func18, Try.ntmps18
  go_wp2_with ((first | (go_at_call 10; (with_reducible refine (HCY.out _).mono ?_); rintro r1 y1 ⟨rfl, rfl⟩) | (go_at_call 16; (with_reducible refine (HA.out _).mono ?_); rintro r1 y2 ⟨rfl, hl⟩)))
  go_ret
  exact ⟨rfl, hl⟩
end Go.Proofs.Ytoaecmoihbifoaa
