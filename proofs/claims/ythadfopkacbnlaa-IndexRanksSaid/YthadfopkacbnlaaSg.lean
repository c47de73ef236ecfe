/-
  Layer 19: Go's stable sort of a row of any length, walked.
-/
import Derived.Test.YthadfopkacbnlaaSf
namespace Go.Proofs.Ythadfopkacbnlaa
open Go.RowKit Go.K Go.Stab
set_option linter.unusedVariables false
set_option linter.unusedSimpArgs false
variable {rs : List Value} {cp : Nat}
set_option maxRecDepth 100000 in
set_option maxHeartbeats 4000000 in
theorem stablef_any (zf : Nat → Nat → Int) (T : Nat → Nat → Prop) (htr : ∀ x y z, T x y → T y z → T x z) (g n cb lb N : Nat) (c0 : Nat → Nat) (w : World) (hn : n < 576460752303423488) (hr : Rw rs w g n c0)
    (hN : ∀ k, k < n → c0 k < N) (hC : CmpC zf N g cb lb w) (h0 : ∀ x y, x < y → y < n → (zL zf (c0 y) (c0 x) = true → T (c0 y) (c0 x)) ∧ (zL zf (c0 y) (c0 x) = false → T (c0 x) (c0 y))) :
    Calls Try.prog 41 #[.slice (some ⟨g, 0, none⟩) n cp, .int .i64 n, fvc cb lb] w fun r w' => r = .returned (.tuple #[]) ∧ Only (fun x => x = g) w w' ∧ ∃ d, Rw rs w' g n d ∧ Srt T d 0 n ∧ Prm c0 d 0 n := by
  have HR := Lib.hid hr
  have HC := Lib.hid hC
  have H0 := Lib.hid h0
  have HBD := Lib.hid (fun d (hp : Prm c0 d 0 n) k (hk : k < n) => show d k < N by
    obtain ⟨l, l1, l2, l3⟩ := hp.mem (Nat.zero_le k) hk
    rw [l3]; exact hN l l2)
  have HINS := Lib.hid (fun (a b : Nat) (d : Nat → Nat) W (hab : a ≤ b) (hbn : b ≤ n) (hd : Rw rs W g n d) (hp : Prm c0 d 0 n) (ho : Only (fun x => x = g) w W) (hk : ∀ k, a ≤ k → d k = c0 k) =>
    insert_any (cp := cp) zf T htr g n a b cb lb N d W (by omega) hd hab hbn (HBD.out d hp) (HC.out.only ho) (fun x y hx hxy hy => by rw [hk x hx, hk y (by omega)]; exact H0.out x y hxy (by omega)))
  have HMRG := Lib.hid (fun (a m b : Nat) (d : Nat → Nat) W (ham : a < m) (hmb : m < b) (hbn : b ≤ n) (hd : Rw rs W g n d) (hp : Prm c0 d 0 n) (ho : Only (fun x => x = g) w W) (s1 : Srt T d a m) (s2 : Srt T d m b) (t : Tie (zL zf) T d a m b) =>
    merge_any (cp := cp) zf T htr g n cb lb N (by omega) (n + 1) a m b d W (by omega) ham hmb hbn hd (HBD.out d hp) (HC.out.only ho) s1 s2 t)
  clear hr hC h0 hN
  unfold fvc at *
  go_enter Try.func41, Try.ntmps41
  go_wp2
  go_loopw [7, 8] (fun x7 x8 V => ∃ (q a b : Nat) (c : Nat → Nat), a = 20 * q ∧ b = a + 20 ∧ a ≤ n ∧ x7 = .int .i64 a ∧ x8 = .int .i64 b ∧ Rw rs V g n c ∧ Blk T 20 a c ∧ Stay c0 20 n c ∧ (∀ k, a ≤ k → c k = c0 k) ∧ Prm c0 c 0 n ∧ Only (fun x => x = g) w V) (fun x7 _ _ => n - (intOf x7).toNat)
  case atStart => exact ⟨0, 0, 20, c0, rfl, rfl, Nat.zero_le _, rfl, rfl, HR.out, (fun i j _ hj => absurd hj (Nat.not_lt_zero _)), stay_self _ _ _, (fun _ _ => rfl), Prm.refl _ _ _, Only.refl _ _⟩
  case round =>
    obtain ⟨q, a, b, c, ha, hb, han, rfl, rfl, hm, hg, hs, hk, hp, ho⟩ := hrel
    have HQ := Lib.hid (show a = 20 * q ∧ b = a + 20 ∧ a ≤ n from ⟨ha, hb, han⟩)
    have HM := Lib.hid hm
    have HG := Lib.hid hg
    have HS := Lib.hid hs
    have HK := Lib.hid hk
    have HP := Lib.hid hp
    have HO := Lib.hid ho
    clear ha hb han hm hg hs hk hp ho HR
    obtain ⟨wa, h⟩ : ∃ W, W = wr := ⟨_, rfl⟩
    subst h
    by_cases hle : b ≤ n
    · have t0 : decide ((b : Int) ≤ (n : Int)) = true := decide_eq_true (by omega)
      have t0n : decide (b ≤ n) = true := decide_eq_true hle
      have HI := Lib.hid (HINS.out a b c _ (by have := HQ.out; omega) hle HM.out HP.out HO.out HK.out)
      obtain ⟨b2, hb2⟩ : ∃ b2, b2 = b + 20 := ⟨_, rfl⟩
      have w2 : IntKind.i64.wrap ((b : Int) + 20) = (b2 : Int) := by rw [IntKind.wrap_i64]; omega
      have HB := Lib.hid (show b2 = b + 20 ∧ b ≤ n from ⟨hb2, hle⟩)
      clear hle hb2
      go_wp2_with (go_at_call 54; refine HI.out.mono ?_; rintro e w9 ⟨rfl, ho9, d9, hd1, hd2, hd3, hd4⟩; have HO9 := Lib.hid ho9; have HD9 := Lib.hid (show Rw rs w9 g n d9 ∧ Srt T d9 a b ∧ Out c d9 a b ∧ Prm c d9 a b from ⟨hd1, hd2, hd3, hd4⟩); clear ho9 hd1 hd2 hd3 hd4)
      go_roundw
      case rel => exact ⟨q + 1, b, b2, d9, by have := HQ.out; omega, HB.out.1, HB.out.2, rfl, rfl, HD9.out.1, blk_step (c0 := c0) (n := n) (by decide) HQ.out.1 (by have := HQ.out; omega) (by have := HQ.out; omega) HG.out HD9.out.2.1 HD9.out.2.2.1, stay_step HQ.out.1 (by have := HQ.out; omega) HB.out.2 HD9.out.2.2.2 HD9.out.2.2.1 HS.out,
        (fun k hk => by rw [HD9.out.2.2.1 k (.inr hk)]; exact HK.out k (by have := HQ.out; omega)), HP.out.trans (HD9.out.2.2.2.mono HD9.out.2.2.1 (Nat.zero_le _) HB.out.2 (by have := HQ.out; omega)), HO.out.trans HO9.out (fun k hk => .inl hk)⟩
      case measure => have := HB.out; have := HQ.out; simp [intOf]; omega
    · have t0 : decide ((b : Int) ≤ (n : Int)) = false := decide_eq_false (by omega)
      have t0n : decide (b ≤ n) = false := decide_eq_false hle
      have HI := Lib.hid (HINS.out a n c _ HQ.out.2.2 (Nat.le_refl _) HM.out HP.out HO.out HK.out)
      have HNB := Lib.hid (show n ≤ a + 20 by have := HQ.out; omega)
      clear hle
      go_wp2_with (go_at_call 54; refine HI.out.mono ?_; rintro e w9 ⟨rfl, ho9, d9, hd1, hd2, hd3, hd4⟩; have HO9 := Lib.hid ho9; have HD9 := Lib.hid (show Rw rs w9 g n d9 ∧ Srt T d9 a n ∧ Out c d9 a n ∧ Prm c d9 a n from ⟨hd1, hd2, hd3, hd4⟩); clear ho9 hd1 hd2 hd3 hd4)
      have HST := Lib.hid (show Rw rs w9 g n d9 ∧ Blk T 20 n d9 ∧ Stay c0 20 n d9 ∧ Prm c0 d9 0 n ∧ Only (fun x => x = g) w w9 from
        ⟨HD9.out.1, blk_step (c0 := c0) (n := n) (by decide) HQ.out.1 HQ.out.2.2 HNB.out HG.out HD9.out.2.1 HD9.out.2.2.1, stay_step HQ.out.1 HNB.out (Nat.le_refl _) HD9.out.2.2.2 HD9.out.2.2.1 HS.out, HP.out.trans (HD9.out.2.2.2.mono HD9.out.2.2.1 (Nat.zero_le _) (Nat.le_refl _) HQ.out.2.2), HO.out.trans HO9.out (fun k hk => .inl hk)⟩)
      clear HD9 HO9 HQ HM HG HS HK HP HO HI HNB t0 t0n HINS
      go_loopw [6, 7, 8, 9] (fun x6 x7 x8 x9 V => ∃ (B : Nat) (c : Nat → Nat), 0 < B ∧ (B = 20 ∨ B ≤ 2 * n) ∧ x6 = .int .i64 B ∧ Rw rs V g n c ∧ Blk T B n c ∧ Stay c0 B n c ∧ Prm c0 c 0 n ∧ Only (fun x => x = g) w V) (fun x6 _ _ _ _ => n - (intOf x6).toNat)
      case atStart => exact ⟨20, d9, by decide, .inl rfl, rfl, HST.out⟩
      case round =>
        obtain ⟨B, c2, hB0, hB1, rfl, hm, hg, hs, hp, ho⟩ := hrel
        have HB0 := Lib.hid (show 0 < B ∧ (B = 20 ∨ B ≤ 2 * n) from ⟨hB0, hB1⟩)
        have HM := Lib.hid hm
        have HG := Lib.hid hg
        have HS := Lib.hid hs
        have HP := Lib.hid hp
        have HO := Lib.hid ho
        clear hB0 hB1 hm hg hs hp ho HST
        obtain ⟨wb, h⟩ : ∃ W, W = wr := ⟨_, rfl⟩
        subst h
        by_cases hlt : B < n
        · have t1 : decide ((B : Int) < (n : Int)) = true := decide_eq_true (by omega)
          have t1n : decide (B < n) = true := decide_eq_true hlt
          obtain ⟨D, hD⟩ : ∃ D, D = 2 * B := ⟨_, rfl⟩
          have w3 : IntKind.i64.wrap (2 * (B : Int)) = (D : Int) := by rw [IntKind.wrap_i64]; omega
          have w4 : IntKind.i64.wrap ((B : Int) * 2) = (D : Int) := by rw [IntKind.wrap_i64]; omega
          have HD := Lib.hid (show D = 2 * B ∧ B < n from ⟨hD, hlt⟩)
          clear hD hlt
          go_wp2
          go_loopw [7, 8] (fun x7 x8 V => ∃ (q a b : Nat) (d : Nat → Nat), a = 2 * B * q ∧ b = a + D ∧ a ≤ n ∧ x7 = .int .i64 a ∧ x8 = .int .i64 b ∧ Rw rs V g n d ∧ Blk T (2 * B) a d ∧ Stay c0 (2 * B) n d ∧ (∀ k, a ≤ k → d k = c2 k) ∧ Prm c0 d 0 n ∧ Only (fun x => x = g) w V) (fun x7 _ _ => n - (intOf x7).toNat)
          case atStart => exact ⟨0, 0, D, c2, rfl, by omega, Nat.zero_le _, rfl, rfl, HM.out, (fun i j _ hj => absurd hj (Nat.not_lt_zero _)), stay_coarse HS.out, (fun _ _ => rfl), HP.out, HO.out⟩
          case round =>
            obtain ⟨q, a, b, d, ha, hb, han, rfl, rfl, hm, hg, hs, hk, hp, ho⟩ := hrel
            have HQ := Lib.hid (show a = 2 * B * q ∧ b = a + D ∧ a ≤ n from ⟨ha, hb, han⟩)
            have HM2 := Lib.hid hm
            have HG2 := Lib.hid hg
            have HS2 := Lib.hid hs
            have HK2 := Lib.hid hk
            have HP2 := Lib.hid hp
            have HO2 := Lib.hid ho
            clear ha hb han hm hg hs hk hp ho
            obtain ⟨m, hm⟩ : ∃ m, m = a + B := ⟨_, rfl⟩
            have w5 : IntKind.i64.wrap ((a : Int) + (B : Int)) = (m : Int) := by rw [IntKind.wrap_i64]; have := HQ.out; have := HD.out; omega
            have HMM := Lib.hid hm
            clear hm
            by_cases hle : b ≤ n
            · have t2 : decide ((b : Int) ≤ (n : Int)) = true := decide_eq_true (by omega)
              have t2n : decide (b ≤ n) = true := decide_eq_true hle
              have HPO := Lib.hid (pair_ok (L := zL zf) (m := m) (b := b) HB0.out.1 HQ.out.1 HMM.out (by have := HQ.out; have := HD.out; omega) (by have := HQ.out; have := HD.out; have := HMM.out; omega) hle HG.out HS.out HK2.out H0.out)
              have HMG := Lib.hid (HMRG.out a m b d _ (by have := HMM.out; have := HB0.out; omega) (by have := HQ.out; have := HD.out; have := HMM.out; have := HB0.out; omega) hle HM2.out HP2.out HO2.out HPO.out.1 HPO.out.2.1 HPO.out.2.2)
              obtain ⟨b2, hb2⟩ : ∃ b2, b2 = b + D := ⟨_, rfl⟩
              have w6 : IntKind.i64.wrap ((b : Int) + (D : Int)) = (b2 : Int) := by rw [IntKind.wrap_i64]; have := HD.out; omega
              have HBB := Lib.hid (show b2 = b + D ∧ b ≤ n from ⟨hb2, hle⟩)
              clear hle hb2
              go_wp2_with (go_at_call 55; refine HMG.out.mono ?_; rintro e w9 ⟨rfl, ho9, d9, hd1, hd2, hd3, hd4⟩; have HO9 := Lib.hid ho9; have HD9 := Lib.hid (show Rw rs w9 g n d9 ∧ Srt T d9 a b ∧ Out d d9 a b ∧ Prm d d9 a b from ⟨hd1, hd2, hd3, hd4⟩); clear ho9 hd1 hd2 hd3 hd4)
              go_roundw
              case rel => exact ⟨q + 1, b, b2, d9, by have h1 := HQ.out; have h2 := HD.out; rw [Nat.mul_add, Nat.mul_one]; omega, HBB.out.1, HBB.out.2, rfl, rfl, HD9.out.1, blk_step (c0 := c0) (n := n) (by have := HB0.out; omega) HQ.out.1 (by have := HQ.out; omega) (by have := HQ.out; have := HD.out; omega) HG2.out HD9.out.2.1 HD9.out.2.2.1, stay_step HQ.out.1 (by have := HQ.out; have := HD.out; omega) HBB.out.2 HD9.out.2.2.2 HD9.out.2.2.1 HS2.out,
                (fun k hk => by rw [HD9.out.2.2.1 k (.inr hk)]; exact HK2.out k (by have := HQ.out; omega)), HP2.out.trans (HD9.out.2.2.2.mono HD9.out.2.2.1 (Nat.zero_le _) HBB.out.2 (by have := HQ.out; omega)), HO2.out.trans HO9.out (fun k hk => .inl hk)⟩
              case measure => have := HBB.out; have := HQ.out; have := HD.out; have := HB0.out; simp [intOf]; omega
            · have t2 : decide ((b : Int) ≤ (n : Int)) = false := decide_eq_false (by omega)
              have t2n : decide (b ≤ n) = false := decide_eq_false hle
              by_cases hmn : m < n
              · have t3 : decide ((m : Int) < (n : Int)) = true := decide_eq_true (by omega)
                have t3n : decide (m < n) = true := decide_eq_true hmn
                have HNB := Lib.hid (show n ≤ a + 2 * B by have := HQ.out; have := HD.out; omega)
                have HPO := Lib.hid (pair_ok (L := zL zf) (m := m) (b := n) HB0.out.1 HQ.out.1 HMM.out HNB.out (by omega) (Nat.le_refl _) HG.out HS.out HK2.out H0.out)
                have HMG := Lib.hid (HMRG.out a m n d _ (by have := HMM.out; have := HB0.out; omega) hmn (Nat.le_refl _) HM2.out HP2.out HO2.out HPO.out.1 HPO.out.2.1 HPO.out.2.2)
                clear hle hmn
                go_wp2_with (go_at_call 55; refine HMG.out.mono ?_; rintro e w9 ⟨rfl, ho9, d9, hd1, hd2, hd3, hd4⟩; have HO9 := Lib.hid ho9; have HD9 := Lib.hid (show Rw rs w9 g n d9 ∧ Srt T d9 a n ∧ Out d d9 a n ∧ Prm d d9 a n from ⟨hd1, hd2, hd3, hd4⟩); clear ho9 hd1 hd2 hd3 hd4)
                go_roundw
                case rel => exact ⟨D, d9, by have := HD.out; have := HB0.out; omega, .inr (by have := HD.out; omega), rfl, HD9.out.1, by rw [HD.out.1]; exact blk_step (c0 := c0) (n := n) (by have := HB0.out; omega) HQ.out.1 HQ.out.2.2 HNB.out HG2.out HD9.out.2.1 HD9.out.2.2.1, by rw [HD.out.1]; exact stay_step HQ.out.1 HNB.out (Nat.le_refl _) HD9.out.2.2.2 HD9.out.2.2.1 HS2.out,
                  HP2.out.trans (HD9.out.2.2.2.mono HD9.out.2.2.1 (Nat.zero_le _) (Nat.le_refl _) HQ.out.2.2), HO2.out.trans HO9.out (fun k hk => .inl hk)⟩
                case measure => have := HD.out; have := HB0.out; simp [intOf]; omega
              · have t3 : decide ((m : Int) < (n : Int)) = false := decide_eq_false (by omega)
                have t3n : decide (m < n) = false := decide_eq_false hmn
                have HL := Lib.hid (show Blk T (2 * B) n d from pair_lone HB0.out.1 HQ.out.1 HQ.out.2.2 (by have := HMM.out; omega) HG.out HK2.out HG2.out)
                clear hle hmn
                go_wp2
                go_roundw
                case rel => exact ⟨D, d, by have := HD.out; have := HB0.out; omega, .inr (by have := HD.out; omega), rfl, HM2.out, by rw [HD.out.1]; exact HL.out, by rw [HD.out.1]; exact HS2.out, HP2.out, HO2.out⟩
                case measure => have := HD.out; have := HB0.out; simp [intOf]; omega
        · have t1 : decide ((B : Int) < (n : Int)) = false := decide_eq_false (by omega)
          have t1n : decide (B < n) = false := decide_eq_false hlt
          have HE := Lib.hid (blk_all (by omega) HG.out)
          clear hlt
          go_wp2
          exact bodyPost_end (results_none Try.results41 _ _ _) rfl ⟨rfl, HO.out, c2, HM.out, HE.out, HP.out⟩
theorem stable_any (zf : Nat → Nat → Int) (T : Nat → Nat → Prop) (htr : ∀ x y z, T x y → T y z → T x z) (g n cb lb N : Nat) (c0 : Nat → Nat) (w : World) (hn : n < 576460752303423488) (hr : Rw rs w g n c0)
    (hN : ∀ k, k < n → c0 k < N) (hC : CmpC zf N g cb lb w) (h0 : ∀ x y, x < y → y < n → (zL zf (c0 y) (c0 x) = true → T (c0 y) (c0 x)) ∧ (zL zf (c0 y) (c0 x) = false → T (c0 x) (c0 y))) :
    Calls Try.prog 26 #[.slice (some ⟨g, 0, none⟩) n cp, fvc cb lb] w fun r w' => r = .returned (.tuple #[]) ∧ Only (fun x => x = g) w w' ∧ ∃ d, Rw rs w' g n d ∧ Srt T d 0 n ∧ Prm c0 d 0 n := by
  have H := Lib.hid (stablef_any (cp := cp) zf T htr g n cb lb N c0 w hn hr hN hC h0)
  clear hr hN hC h0
  unfold fvc at *
  go_enter Try.func26, Try.ntmps26
  go_wp2_with (go_at_call 41; refine H.out.mono ?_; rintro e w9 ⟨rfl, h9⟩; have H9 := Lib.hid h9; clear h9)
  exact bodyPost_end (results_none Try.results26 _ _ _) rfl ⟨rfl, H9.out⟩
end Go.Proofs.Ythadfopkacbnlaa

