/-
  Layer 19: two pieces of a row change places.
-/
import Derived.Test.YthadfopkacbnlaaSa
namespace Go.Proofs.Ythadfopkacbnlaa
open Go.RowKit Go.K Go.Stab
set_option linter.unusedVariables false
set_option linter.unusedSimpArgs false
variable {rs : List Value} {cp : Nat}
set_option maxRecDepth 100000 in
set_option maxHeartbeats 1000000 in
theorem rotate_any (fv : Value) (g n a m b : Nat) (c : Nat → Nat) (w : World) (hn : n < 4611686018427387904) (hr : Rw rs w g n c) (h1 : a < m) (h2 : m < b) (h3 : b ≤ n) :
    Calls Try.prog 66 #[.slice (some ⟨g, 0, none⟩) n cp, .int .i64 a, .int .i64 m, .int .i64 b, fv] w fun r w' => r = .returned (.tuple #[]) ∧ Rw rs w' g n (rot c a m b) ∧ Only (fun x => x = g) w w' := by
  have HR := Lib.hid hr
  clear hr
  obtain ⟨i0, hi0⟩ : ∃ i, i = m - a := ⟨_, rfl⟩
  obtain ⟨j0, hj0⟩ : ∃ j, j = b - m := ⟨_, rfl⟩
  have w1 : IntKind.i64.wrap ((m : Int) - (a : Int)) = (i0 : Int) := by rw [IntKind.wrap_i64]; omega
  have w2 : IntKind.i64.wrap ((b : Int) - (m : Int)) = (j0 : Int) := by rw [IntKind.wrap_i64]; omega
  have H0 := Lib.hid (show 0 < i0 ∧ 0 < j0 ∧ i0 ≤ m ∧ m + j0 ≤ n ∧ m - i0 = a ∧ m + j0 = b by omega)
  obtain ⟨R, hR⟩ : ∃ R, R = rot c a m b := ⟨_, rfl⟩
  rw [← hR]
  have HRR := Lib.hid hR
  clear hi0 hj0 h1 h2 h3 hR
  go_enter Try.func66, Try.ntmps66
  go_wp2
  go_loopw [10, 11] (fun x10 x11 V => ∃ (i j : Nat) (d : Nat → Nat), 0 < i ∧ 0 < j ∧ i ≤ m ∧ m + j ≤ n ∧ x10 = .int .i64 i ∧ x11 = .int .i64 j ∧ Rw rs V g n d ∧ rot d (m - i) m (m + j) = R ∧ Only (fun x => x = g) w V) (fun x10 x11 _ => (intOf x10).toNat + (intOf x11).toNat)
  case atStart => exact ⟨i0, j0, c, H0.out.1, H0.out.2.1, H0.out.2.2.1, H0.out.2.2.2.1, rfl, rfl, HR.out, by rw [H0.out.2.2.2.2.1, H0.out.2.2.2.2.2, HRR.out], Only.refl _ _⟩
  case round =>
    obtain ⟨i, j, d, hi, hj, him, hjn, rfl, rfl, hm, hd, ho⟩ := hrel
    have HM := Lib.hid hm
    have HO := Lib.hid ho
    have HD := Lib.hid hd
    clear hm ho hd HR HRR H0 w1 w2
    by_cases heq : i = j
    · have t0 : ((i : Int) != (j : Int)) = false := by simp [heq]
      obtain ⟨p, hp⟩ : ∃ p, p = m - i := ⟨_, rfl⟩
      have w3 : IntKind.i64.wrap ((m : Int) - (i : Int)) = (p : Int) := by rw [IntKind.wrap_i64]; omega
      have HS := Lib.hid (fun V (h : Rw rs V g n d) => swapr_any (cp := cp) fv g n p m i d V hn h (by omega) (by omega))
      have HE := Lib.hid (show swr d p m i = R by rw [hp, rot_even d m i him, ← HD.out, heq])
      rw [HE.out] at HS
      clear heq hp
      go_wp2_with (go_at_call 73; refine (HS.out _ HM.out).mono ?_; rintro e w9 ⟨rfl, hm9, ho9⟩)
      exact bodyPost_end (results_none Try.results66 _ _ _) rfl ⟨rfl, hm9, HO.out.trans ho9 (fun k hk => .inl hk)⟩
    · have t0 : ((i : Int) != (j : Int)) = true := by rw [bne_iff_ne]; omega
      obtain ⟨p, hp⟩ : ∃ p, p = m - i := ⟨_, rfl⟩
      have w3 : IntKind.i64.wrap ((m : Int) - (i : Int)) = (p : Int) := by rw [IntKind.wrap_i64]; omega
      by_cases hgt : j < i
      · have t1 : decide ((j : Int) < (i : Int)) = true := decide_eq_true (by omega)
        have t1n : decide (j < i) = true := decide_eq_true hgt
        obtain ⟨q, hq⟩ : ∃ q, q = i - j := ⟨_, rfl⟩
        have w4 : IntKind.i64.wrap ((i : Int) - (j : Int)) = (q : Int) := by rw [IntKind.wrap_i64]; omega
        have HS := Lib.hid (fun V (h : Rw rs V g n d) => swapr_any (cp := cp) fv g n p m j d V hn h (by omega) (by omega))
        have HE := Lib.hid (show rot (swr d p m j) (m - q) m (m + j) = R by rw [hp, show m - q = m - i + j by omega, rot_left_step d m i j him hgt, HD.out])
        have HQ := Lib.hid (show 0 < q ∧ q ≤ m ∧ q + j < i + j by omega)
        have HJ := Lib.hid (show 0 < j ∧ m + j ≤ n from ⟨hj, hjn⟩)
        clear hgt hp hq heq hi hj him hjn
        go_wp2_with (go_at_call 73; refine (HS.out _ HM.out).mono ?_; rintro e w9 ⟨rfl, hm9, ho9⟩; have HM9 := Lib.hid hm9; have HO9 := Lib.hid ho9; clear hm9 ho9)
        go_roundw
        case rel => exact ⟨q, j, swr d p m j, HQ.out.1, HJ.out.1, HQ.out.2.1, HJ.out.2, rfl, rfl, HM9.out, HE.out, HO.out.trans HO9.out (fun k hk => .inl hk)⟩
        case measure => have := HQ.out.2.2; simp [intOf]; omega
      · have t1 : decide ((j : Int) < (i : Int)) = false := decide_eq_false (by omega)
        have t1n : decide (j < i) = false := decide_eq_false hgt
        obtain ⟨q, hq⟩ : ∃ q, q = j - i := ⟨_, rfl⟩
        obtain ⟨mj, hmj⟩ : ∃ mj, mj = m + j := ⟨_, rfl⟩
        obtain ⟨s, hs⟩ : ∃ s, s = m + j - i := ⟨_, rfl⟩
        have w4 : IntKind.i64.wrap ((j : Int) - (i : Int)) = (q : Int) := by rw [IntKind.wrap_i64]; omega
        have w5 : IntKind.i64.wrap ((m : Int) + (j : Int)) = (mj : Int) := by rw [IntKind.wrap_i64]; omega
        have w6 : IntKind.i64.wrap ((mj : Int) - (i : Int)) = (s : Int) := by rw [IntKind.wrap_i64]; omega
        have HS := Lib.hid (fun V (h : Rw rs V g n d) => swapr_any (cp := cp) fv g n p s i d V hn h (by omega) (by omega))
        have HE := Lib.hid (show rot (swr d p s i) (m - i) m (m + q) = R by rw [hp, hs, hq, rot_right_step d m i j him (by omega), HD.out])
        have HQ := Lib.hid (show 0 < q ∧ m + q ≤ n ∧ i + q < i + j by omega)
        have HJ := Lib.hid (show 0 < i ∧ i ≤ m from ⟨hi, him⟩)
        clear hgt hp hq heq hi hj him hjn hmj hs
        go_wp2_with (go_at_call 73; refine (HS.out _ HM.out).mono ?_; rintro e w9 ⟨rfl, hm9, ho9⟩; have HM9 := Lib.hid hm9; have HO9 := Lib.hid ho9; clear hm9 ho9)
        go_roundw
        case rel => exact ⟨i, q, swr d p s i, HJ.out.1, HQ.out.1, HJ.out.2, HQ.out.2.1, rfl, rfl, HM9.out, HE.out, HO.out.trans HO9.out (fun k hk => .inl hk)⟩
        case measure => have := HQ.out.2.2; simp [intOf]; omega
end Go.Proofs.Ythadfopkacbnlaa

