/-
  Layer 1: one element is merged into those ahead of it, walked.
-/
import Derived.Test.YtdkfaicmdbhonaaTd
namespace Go.Proofs.Ytdkfaicmdbhonaa
open Go.RowKit Go.K Go.Stab
set_option linter.unusedVariables false
set_option linter.unusedSimpArgs false
set_option maxRecDepth 100000 in
set_option maxHeartbeats 2000000 in
theorem merge_right (L : Nat → Nat → Bool) (T : Nat → Nat → Prop) (htr : ∀ x y z, T x y → T y z → T x z) (f : Nat) (sb : Array Value) (cb lb g n a m N : Nat) (c : Nat → Nat) (w : World) (hn : n < 4611686018427387904) (hS : SwapC f sb g n) (hr : Rw w g n c) (h1 : a + 1 < m) (h2 : m + 1 ≤ n)
    (hN : ∀ k, k < n → c k < N) (hC : LessC L N n g cb lb w) (hs1 : Srt T c a m) (ht : Tie (L) T c a m (m + 1)) :
    Calls Try.prog 78 #[.agg (lsA f sb cb lb), .int .i64 a, .int .i64 m, .int .i64 ((m + 1 : Nat) : Int)] w fun r w' => r = .returned (.tuple #[]) ∧ Only (fun x => x = g) w w' ∧ Merged T g n a (m + 1) c w' := by
  obtain ⟨wB, hwB⟩ : ∃ wB, wB = w.alloc (.cells (lsA f sb cb lb) 101) := ⟨_, rfl⟩
  have HBX := Lib.hid (show Bxs f sb cb lb g w.heap.size wB by rw [hwB]; exact bxs_new hr.lt)
  have HR := Lib.hid (show Rw wB g n c by rw [hwB]; exact hr.kept ((Below.refl _ _).alloc (Nat.le_refl _) _))
  have HOX := Lib.hid (show Only (fun x => x = g) w wB by rw [hwB]; exact only_box _)
  have HSWP := Lib.hid hS
  have HWB := Lib.hid hwB
  have HN := Lib.hid hN
  have HC := Lib.hid (hC.only HOX.out)
  have HT := Lib.hid ht
  have HS := Lib.hid hs1
  obtain ⟨b, hb⟩ : ∃ b, b = m + 1 := ⟨_, rfl⟩
  rw [← hb]
  obtain ⟨ma, hma⟩ : ∃ ma, ma = m - a := ⟨_, rfl⟩
  have w0 : IntKind.i64.wrap ((m : Int) - (a : Int)) = (ma : Int) := by rw [IntKind.wrap_i64]; omega
  have t00 : ((ma : Int) == 1) = false := by rw [beq_eq_false_iff_ne]; omega
  have w1 : IntKind.i64.wrap ((b : Int) - (m : Int)) = 1 := by rw [IntKind.wrap_i64]; omega
  have HM := Lib.hid hb
  have HAB := Lib.hid (show a + 1 < m ∧ m + 1 ≤ n from ⟨h1, h2⟩)
  clear hr hN hC ht hs1 h1 h2 hb hma
  clear hwB hS
  unfold lsA at *
  go_enter Try.func78, Try.ntmps78
  go_upto_region 1 with fail
  rw [← HWB.out]
  go_wp2
  go_loopw [12, 13, 14] (fun x10 x11 x12 V => ∃ i j : Nat, a ≤ i ∧ i ≤ j ∧ j ≤ m ∧ x10 = .int .i64 i ∧ x11 = .int .i64 j ∧ (Rw V g n c ∧ Only (fun x => x = g) wB V) ∧ (i = a ∨ L (c m) (c (i - 1)) = false) ∧ (j = m ∨ L (c m) (c j) = true)) (fun x10 x11 _ _ => (intOf x11).toNat - (intOf x10).toNat)
  case atStart => exact ⟨a, m, Nat.le_refl _, by have := HAB.out; omega, Nat.le_refl _, rfl, rfl, ⟨HR.out, Only.refl _ _⟩, .inl rfl, .inl rfl⟩
  case round =>
    obtain ⟨i, j, hi, hij, hjb, rfl, rfl, hv, hl, hr⟩ := hrel
    have HV := Lib.hid hv
    have HL := Lib.hid hl
    have HRT := Lib.hid hr
    have HIJ := Lib.hid (show a ≤ i ∧ i ≤ j ∧ j ≤ m from ⟨hi, hij, hjb⟩)
    clear hv hl hr HR hi hij hjb
    obtain ⟨wa, h⟩ : ∃ W, W = wr := ⟨_, rfl⟩
    subst h
    by_cases hlt : i < j
    · have t0 : decide ((i : Int) < (j : Int)) = true := decide_eq_true (by omega)
      have t0n : decide (i < j) = true := decide_eq_true hlt
      obtain ⟨s, hs⟩ : ∃ s, s = i + j := ⟨_, rfl⟩
      obtain ⟨h, hh⟩ : ∃ h, h = s / 2 := ⟨_, rfl⟩
      obtain ⟨h1, hh1⟩ : ∃ h1, h1 = h + 1 := ⟨_, rfl⟩
      have w2 : IntKind.i64.wrap ((i : Int) + (j : Int)) = (s : Int) := by rw [IntKind.wrap_i64]; have := HIJ.out; have := HAB.out; omega
      have w3 : IntKind.u64.wrap (s : Int) = (s : Int) := by rw [IntKind.wrap_u64]; have := HIJ.out; have := HAB.out; omega
      have w4 : (s : Int) / 2 = (h : Int) := by omega
      have w5 : IntKind.i64.wrap (h : Int) = (h : Int) := by rw [IntKind.wrap_i64]; have := HIJ.out; have := HAB.out; omega
      have w6 : IntKind.i64.wrap ((h : Int) + 1) = (h1 : Int) := by rw [IntKind.wrap_i64]; have := HIJ.out; have := HAB.out; omega
      have ia : (m : Int) < (n : Int) := by have := HAB.out; omega
      have ih : (h : Int) < (n : Int) := by have := HIJ.out; have := HAB.out; omega
      have HX := Lib.hid (show m < n ∧ h < n by omega)
      have HH := Lib.hid (show i ≤ h ∧ h < j ∧ h1 = h + 1 by omega)
      clear hlt hs hh hh1
      have HCC := Lib.hid (HC.out _ c HV.out.2 HV.out.1 HN.out m h HX.out.1 HX.out.2)
      obtain ⟨tb, htb⟩ : ∃ tb, L (c m) (c h) = tb := ⟨_, rfl⟩
      have HTB := Lib.hid htb
      rw [htb] at HCC
      clear htb
      obtain ⟨z1, z2⟩ := HBX.out.cells HV.out.2
      go_wp2_with fail
      refine HCC.out.mono ?_
      rintro ex V3 ⟨rfl, hq⟩
      have HV3 := Lib.hid (show Rw V3 g n c ∧ Only (fun k => k = g) wB V3 from ⟨HV.out.1.kept (hq.below _), HV.out.2.trans (Only.of_below (hq.below _)) (fun k hk => .inl hk)⟩)
      clear hq z1 z2 HCC
      cases tb
      case false =>
        go_wp2
        go_roundw
        case rel => exact ⟨h1, j, by have := HH.out; have := HIJ.out; omega, by have := HH.out; omega, HIJ.out.2.2, by go_num, rfl, HV3.out, .inr (by rw [HH.out.2.2]; exact HTB.out), HRT.out⟩
        case measure => have := HH.out; simp [intOf]; omega
      case true =>
        go_wp2
        go_roundw
        case rel => exact ⟨i, h, HIJ.out.1, HH.out.1, by have := HH.out; have := HIJ.out; omega, rfl, rfl, HV3.out, HL.out, .inr HTB.out⟩
        case measure => have := HH.out; simp [intOf]; omega
    · have t0 : decide ((i : Int) < (j : Int)) = false := decide_eq_false (by omega)
      have t0n : decide (i < j) = false := decide_eq_false hlt
      have hij : j = i := by have := HIJ.out; omega
      have HE := Lib.hid (show a ≤ i ∧ i ≤ m by have := HIJ.out; omega)
      have HONE := Lib.hid (show Srt T (rot c i m (m + 1)) a (m + 1) ∧ Out c (rot c i m (m + 1)) a (m + 1) ∧ Prm c (rot c i m (m + 1)) a (m + 1) from
        one_right htr HS.out HT.out HE.out.1 HE.out.2 HL.out (by have h := HRT.out; rw [hij] at h; exact h))
      clear hlt hij HIJ HL HRT
      go_wp2
      go_loopw [15] (fun x13 V => ∃ k : Nat, i ≤ k ∧ k ≤ m ∧ x13 = .int .i64 k ∧ Rw V g n (rot c k m (m + 1)) ∧ Only (fun x => x = g) wB V) (fun x13 _ => (intOf x13).toNat)
      case atStart => exact ⟨m, HE.out.2, Nat.le_refl _, rfl, by rw [rot_none c (.inl rfl)]; exact HV.out.1, HV.out.2⟩
      case round =>
        obtain ⟨k, hk1, hk2, rfl, hmk, hok⟩ := hrel
        have HVK := Lib.hid (show Rw wr g n (rot c k m (m + 1)) ∧ Only (fun x => x = g) wB wr from ⟨hmk, hok⟩)
        have HK := Lib.hid (show i ≤ k ∧ k ≤ m from ⟨hk1, hk2⟩)
        clear hmk hok HV
        by_cases hlt : i < k
        · have t1 : decide ((i : Int) < (k : Int)) = true := decide_eq_true (by omega)
          have t1n : decide (i < k) = true := decide_eq_true hlt
          obtain ⟨k1, hk1'⟩ : ∃ k1, k1 = k - 1 := ⟨_, rfl⟩
          have w3 : IntKind.i64.wrap ((k : Int) - 1) = (k1 : Int) := by rw [IntKind.wrap_i64]; have := HE.out; have := HAB.out; omega
          have ik : (k : Int) < (n : Int) := by have := HE.out; have := HAB.out; omega
          have ik1 : (k1 : Int) < (n : Int) := by have := HE.out; have := HAB.out; omega
          have HX := Lib.hid (show k < n ∧ k1 < n by omega)
          have HSW := Lib.hid (show swp (rot c k m (m + 1)) k k1 = rot c k1 m (m + 1) by rw [hk1']; exact swp_right c m k (by omega) hk2)
          have HK1 := Lib.hid (show k1 + 1 = k ∧ i < k from ⟨by omega, hlt⟩)
          generalize rot c k m (m + 1) = D at *
          clear hlt hk1' hk1 hk2
          obtain ⟨V5, hrun, hE, hO2⟩ := HSWP.out _ D k k1 HVK.out.1 HX.out.1 HX.out.2 (by have := HK1.out; omega)
          have HE := Lib.hid hE
          have HO2 := Lib.hid (HVK.out.2.trans hO2 (fun k hk => .inl hk))
          obtain ⟨z1, z2⟩ := HBX.out.cells HVK.out.2
          clear hE hO2
          rw [HSW.out] at HE
          go_wp2
          go_roundw
          case rel => exact ⟨k1, by have := HK1.out; have := HK.out; omega, by have := HK1.out; have := HK.out; omega, by go_num, HE.out, HO2.out⟩
          case measure => have := HK1.out; simp [intOf]; omega
        · have t1 : decide ((i : Int) < (k : Int)) = false := decide_eq_false (by omega)
          have t1n : decide (i < k) = false := decide_eq_false hlt
          have HEND := Lib.hid (show Merged T g n a b c wr from ⟨rot c i m (m + 1), by have h := HVK.out.1; rw [show k = i by omega] at h; exact h, by rw [HM.out]; exact HONE.out⟩)
          clear hlt hk1 hk2
          go_wp2
          exact bodyPost_ret (results_none Try.results78 _ _ _) rfl ⟨rfl, HOX.out.trans (HVK.out.2) (fun k hk => .inl hk), HEND.out⟩
end Go.Proofs.Ytdkfaicmdbhonaa
