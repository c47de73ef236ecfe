/-
  Layer 19: two sorted pieces of a row of any length are merged in place, walked.
-/
import Derived.Test.YthadfopkacbnlaaSe
namespace Go.Proofs.Ythadfopkacbnlaa
open Go.RowKit Go.K Go.Stab
set_option linter.unusedVariables false
set_option linter.unusedSimpArgs false
variable {rs : List Value} {cp : Nat}
set_option maxRecDepth 100000 in
set_option maxHeartbeats 4000000 in
theorem merge_gen (zf : Nat → Nat → Int) (T : Nat → Nat → Prop) (htr : ∀ x y z, T x y → T y z → T x z) (g n a m b cb lb N : Nat) (c : Nat → Nat) (w : World) (hn : n < 2305843009213693952) (hr : Rw rs w g n c) (h1 : a + 1 < m) (h2 : m + 1 < b) (h3 : b ≤ n)
    (hN : ∀ k, k < n → c k < N) (hC : CmpC zf N g cb lb w) (hs1 : Srt T c a m) (hs2 : Srt T c m b) (ht : Tie (zL zf) T c a m b)
    (ih : ∀ (a' m' b' : Nat) (c' : Nat → Nat) (W : World), b' - a' < b - a → a' < m' → m' < b' → b' ≤ n → Rw rs W g n c' → (∀ k, k < n → c' k < N) → CmpC zf N g cb lb W → Srt T c' a' m' → Srt T c' m' b' → Tie (zL zf) T c' a' m' b' →
      Calls Try.prog 55 #[.slice (some ⟨g, 0, none⟩) n cp, .int .i64 a', .int .i64 m', .int .i64 b', fvc cb lb] W fun r w' => r = .returned (.tuple #[]) ∧ Only (fun x => x = g) W w' ∧ Merged rs T g n a' b' c' w') :
    Calls Try.prog 55 #[.slice (some ⟨g, 0, none⟩) n cp, .int .i64 a, .int .i64 m, .int .i64 b, fvc cb lb] w fun r w' => r = .returned (.tuple #[]) ∧ Only (fun x => x = g) w w' ∧ Merged rs T g n a b c w' := by
  have HR := Lib.hid hr
  have HN := Lib.hid hN
  have HC := Lib.hid hC
  have HT := Lib.hid ht
  have HS1 := Lib.hid hs1
  have HS2 := Lib.hid hs2
  have HIH := Lib.hid ih
  obtain ⟨ma, hma⟩ : ∃ ma, ma = m - a := ⟨_, rfl⟩
  obtain ⟨bm, hbm⟩ : ∃ bm, bm = b - m := ⟨_, rfl⟩
  obtain ⟨s0, hs0⟩ : ∃ s, s = a + b := ⟨_, rfl⟩
  obtain ⟨mid, hmid⟩ : ∃ mid, mid = s0 / 2 := ⟨_, rfl⟩
  obtain ⟨nn, hnn⟩ : ∃ nn, nn = mid + m := ⟨_, rfl⟩
  obtain ⟨p, hp⟩ : ∃ p, p = nn - 1 := ⟨_, rfl⟩
  obtain ⟨lo, hlo⟩ : ∃ lo, lo = if mid < m then mid + m - b else a := ⟨_, rfl⟩
  obtain ⟨hi, hhi⟩ : ∃ hi, hi = if mid < m then mid else m := ⟨_, rfl⟩
  have hlohi : lo ≤ hi ∧ a ≤ lo ∧ hi ≤ m ∧ hi ≤ mid ∧ mid + m ≤ lo + b ∧ lo < m := by
    rw [hlo, hhi]; split <;> omega
  have w0 : IntKind.i64.wrap ((m : Int) - (a : Int)) = (ma : Int) := by rw [IntKind.wrap_i64]; omega
  have t00 : ((ma : Int) == 1) = false := by rw [beq_eq_false_iff_ne]; omega
  have w1 : IntKind.i64.wrap ((b : Int) - (m : Int)) = (bm : Int) := by rw [IntKind.wrap_i64]; omega
  have t01 : ((bm : Int) == 1) = false := by rw [beq_eq_false_iff_ne]; omega
  have w2 : IntKind.i64.wrap ((a : Int) + (b : Int)) = (s0 : Int) := by rw [IntKind.wrap_i64]; omega
  have w3 : IntKind.u64.wrap (s0 : Int) = (s0 : Int) := by rw [IntKind.wrap_u64]; omega
  have w4 : (s0 : Int) / 2 = (mid : Int) := by omega
  have w5 : IntKind.i64.wrap (mid : Int) = (mid : Int) := by rw [IntKind.wrap_i64]; omega
  have w6 : IntKind.i64.wrap ((mid : Int) + (m : Int)) = (nn : Int) := by rw [IntKind.wrap_i64]; omega
  have w7 : IntKind.i64.wrap ((nn : Int) - 1) = (p : Int) := by rw [IntKind.wrap_i64]; omega
  have HAB := Lib.hid (show a + 1 < m ∧ m + 1 < b ∧ b ≤ n from ⟨h1, h2, h3⟩)
  have HMID := Lib.hid (show mid = (a + b) / 2 ∧ nn = mid + m ∧ p = mid + m - 1 ∧ a < mid ∧ mid < b by omega)
  have HLO := Lib.hid hlo
  have HHI := Lib.hid hhi
  have HLH := Lib.hid hlohi
  have HBIG := Lib.hid hn
  clear hr hN hC ht hs1 hs2 ih hma hbm hs0 hmid hnn hp hlo hhi hlohi h1 h2 h3
  unfold fvc
  go_enter Try.func55, Try.ntmps55
  obtain ⟨tm, htm⟩ : ∃ tm, decide ((mid : Int) < (m : Int)) = tm := ⟨_, rfl⟩
  have htm2 : decide (mid < m) = tm := by rw [← htm]; exact decide_eq_decide.2 (by omega)
  have HTM := Lib.hid htm2
  go_upto_if 140 with fail
  clear htm htm2 w0 w1 w2 w3 w4 w5 w6 t00 t01
  go_cut [20, 21] from 141 to 146 (fun s20 s21 W => s20 = .int .i64 lo ∧ s21 = .int .i64 hi ∧ W = w)
  case first =>
    cases tm
    case true =>
      have hlt := of_decide_eq_true HTM.out
      have w8 : IntKind.i64.wrap ((nn : Int) - (b : Int)) = (lo : Int) := by
        have h1 := HLO.out; rw [if_pos hlt] at h1
        have h2 := HMID.out; have h3 := HLH.out; have h4 := HAB.out; have h5 := HBIG.out
        rw [IntKind.wrap_i64]; omega
      have e : hi = mid := by have h1 := HHI.out; rw [if_pos hlt] at h1; exact h1
      have HE := Lib.hid e
      clear e hlt
      go_wp2
      go_meet
      exact ⟨rfl, by rw [HE.out], rfl⟩
    case false =>
      have hlt := of_decide_eq_false HTM.out
      have HE := Lib.hid (show lo = a ∧ hi = m by have h1 := HLO.out; have h2 := HHI.out; rw [if_neg hlt] at h1 h2; exact ⟨h1, h2⟩)
      clear hlt
      go_wp2
      go_meet
      exact ⟨by rw [HE.out.1], by rw [HE.out.2], rfl⟩
  case rest =>
  obtain ⟨rfl, rfl, hww⟩ := hcut
  have HV0 := Lib.hid (show Rw rs wc g n c ∧ Only (fun x => x = g) w wc by rw [hww]; exact ⟨HR.out, Only.refl _ _⟩)
  clear hww HR
  go_wp2
  go_loopw [20, 21, 23] (fun x20 x21 x23 V => ∃ s r : Nat, lo ≤ s ∧ s ≤ r ∧ r ≤ hi ∧ x20 = .int .i64 s ∧ x21 = .int .i64 r ∧ (Rw rs V g n c ∧ Only (fun x => x = g) w V) ∧ (s = lo ∨ zL zf (c (p - (s - 1))) (c (s - 1)) = false) ∧ (r = hi ∨ zL zf (c (p - r)) (c r) = true)) (fun x20 x21 _ _ => (intOf x21).toNat - (intOf x20).toNat)
  case atStart => exact ⟨lo, hi, Nat.le_refl _, HLH.out.1, Nat.le_refl _, rfl, rfl, HV0.out, .inl rfl, .inl rfl⟩
  case round =>
    obtain ⟨s, r, hs, hsr, hrh, rfl, rfl, hv, hl, hr⟩ := hrel
    have HV := Lib.hid hv
    have HL := Lib.hid hl
    have HRT := Lib.hid hr
    have HSR := Lib.hid (show lo ≤ s ∧ s ≤ r ∧ r ≤ hi from ⟨hs, hsr, hrh⟩)
    clear hv hl hr HV0 hs hsr hrh w7
    obtain ⟨wa, h⟩ : ∃ W, W = wr := ⟨_, rfl⟩
    subst h
    by_cases hlt : s < r
    · have t0 : decide ((s : Int) < (r : Int)) = true := decide_eq_true (by omega)
      have t0n : decide (s < r) = true := decide_eq_true hlt
      obtain ⟨q, hq⟩ : ∃ q, q = s + r := ⟨_, rfl⟩
      obtain ⟨h, hh⟩ : ∃ h, h = q / 2 := ⟨_, rfl⟩
      obtain ⟨h1, hh1⟩ : ∃ h1, h1 = h + 1 := ⟨_, rfl⟩
      obtain ⟨ph, hph⟩ : ∃ ph, ph = p - h := ⟨_, rfl⟩
      have hb1 := HSR.out
      have hb2 := HLH.out
      have hb3 := HMID.out
      have hb4 := HAB.out
      have w2 : IntKind.i64.wrap ((s : Int) + (r : Int)) = (q : Int) := by rw [IntKind.wrap_i64]; omega
      have w3 : IntKind.u64.wrap (q : Int) = (q : Int) := by rw [IntKind.wrap_u64]; omega
      have w4 : (q : Int) / 2 = (h : Int) := by omega
      have w5 : IntKind.i64.wrap (h : Int) = (h : Int) := by rw [IntKind.wrap_i64]; omega
      have w6 : IntKind.i64.wrap ((h : Int) + 1) = (h1 : Int) := by rw [IntKind.wrap_i64]; omega
      have w8 : IntKind.i64.wrap ((p : Int) - (h : Int)) = (ph : Int) := by rw [IntKind.wrap_i64]; omega
      have ia : (ph : Int) < (n : Int) := by omega
      have ih : (h : Int) < (n : Int) := by omega
      have HX := Lib.hid (show ph < n ∧ h < n by omega)
      have HH := Lib.hid (show s ≤ h ∧ h < r ∧ h1 = h + 1 ∧ ph = p - h by omega)
      clear hlt hq hh hh1 hph hb1 hb2 hb3 hb4
      have HCC := Lib.hid (show ∀ Wx, (Rw rs Wx g n c ∧ Only (fun k => k = g) w Wx) → Calls Try.prog 27 #[.int .i64 (c ph : Nat), .int .i64 (c h : Nat), .pointer (some ⟨cb, 0, none⟩)] Wx fun e w' => e = .returned (.int .i64 (zf (c ph) (c h))) ∧ (Rw rs w' g n c ∧ Only (fun k => k = g) w w') from fun Wx hw =>
        (HC.out Wx hw.2 (c ph) (c h) (HN.out _ HX.out.1) (HN.out _ HX.out.2)).mono fun e w' ⟨he, hq⟩ => ⟨he, hw.1.kept (hq.below _), hw.2.trans (Only.of_below (hq.below _)) (fun k hk => .inl hk)⟩)
      go_wp2
      refine wp_region_inv 14 (fun V => Rw rs V g n c ∧ Only (fun k => k = g) w V) (by kernel_rfl) (by kernel_rfl) (fun m => ⟨HV.out.1.kept (below_drawn (Below.refl _ _) m), HV.out.2.trans (Only.of_below (below_drawn (Below.refl _ _) m)) (fun k hk => .inl hk)⟩) ?_
      simp only [List.take_succ_cons, List.take_zero]
      iterate 14
        apply wpInv_cons
        · rfl
        · intro Wx hw
          have q1 := hw.1.cell ph HX.out.1
          have q2 := hw.1.cell h HX.out.2
          go_simp
          first
            | exact ⟨hw, rfl⟩
            | (show Calls _ _ _ _ _; with_reducible exact HCC.out _ hw)
        simp only [Act.put, List.setIfInBounds_toArray, List.set_cons_zero, List.set_cons_succ]
      refine wpInv_nil fun V3 hV => ?_
      have HV3 := Lib.hid hV
      clear hV HCC
      simp only [List.drop_succ_cons, List.drop_zero]
      obtain ⟨tb, htb⟩ : ∃ tb, decide (zf (c ph) (c h) < 0) = tb := ⟨_, rfl⟩
      have HTB := Lib.hid (show zL zf (c ph) (c h) = tb from htb)
      rw [htb]
      clear htb
      cases tb
      case false =>
        go_wp2
        go_roundw
        case rel => exact ⟨h1, r, by have := HH.out; have := HSR.out; omega, by have := HH.out; omega, HSR.out.2.2, by go_num, rfl, HV3.out, .inr (by rw [HH.out.2.2.1, Nat.add_sub_cancel, ← HH.out.2.2.2]; exact HTB.out), HRT.out⟩
        case measure => have := HH.out; simp [intOf]; omega
      case true =>
        go_wp2
        go_roundw
        case rel => exact ⟨s, h, HSR.out.1, HH.out.1, by have := HH.out; have := HSR.out; omega, rfl, rfl, HV3.out, HL.out, .inr (by rw [← HH.out.2.2.2]; exact HTB.out)⟩
        case measure => have := HH.out; simp [intOf]; omega
    · have t0 : decide ((s : Int) < (r : Int)) = false := decide_eq_false (by omega)
      have t0n : decide (s < r) = false := decide_eq_false hlt
      have hrs : r = s := by have := HSR.out; omega
      have HCUT := Lib.hid (cut_found (L := zL zf) (mid := mid) (start := s) (lo := lo) (hi := hi) htr HS1.out HS2.out HT.out (by have := HAB.out; omega) (by have := HAB.out; omega) HMID.out.1 HLO.out HHI.out HSR.out.1 (by have := HSR.out; omega)
        (by have h := HL.out; rw [HMID.out.2.2.1] at h; exact h) (by have h := HRT.out; rw [hrs, HMID.out.2.2.1] at h; exact h))
      obtain ⟨e, he⟩ : ∃ e, e = mid + m - s := ⟨_, rfl⟩
      have hct := HCUT.out
      have HTU := Lib.hid (hct.turned htr HS1.out HS2.out HT.out)
      have HB := Lib.hid (show a ≤ s ∧ s ≤ m ∧ m ≤ e ∧ e ≤ b ∧ s ≤ mid ∧ mid ≤ e from ⟨hct.ha, hct.hm, by rw [he]; exact hct.he1, by rw [he]; exact hct.he2, hct.hs, by have h1 := hct.hm; omega⟩)
      have w2 : IntKind.i64.wrap ((nn : Int) - (s : Int)) = (e : Int) := by rw [IntKind.wrap_i64]; have h1 := HB.out; have h2 := HMID.out; have h3 := HAB.out; have h4 := HBIG.out; omega
      simp only at HTU
      rw [← he] at HTU
      obtain ⟨d, hd⟩ : ∃ d, d = rot c s m e := ⟨_, rfl⟩
      rw [← hd] at HTU
      have HD := Lib.hid hd
      clear hlt hrs hct he hd HCUT HL HRT HSR
      obtain ⟨tA, htA⟩ : ∃ tA, tA = (decide (s < m) && decide (m < e)) := ⟨_, rfl⟩
      have HTA := Lib.hid htA
      obtain ⟨tB, htB⟩ : ∃ tB, tB = (decide (a < s) && decide (s < mid)) := ⟨_, rfl⟩
      have HTB := Lib.hid htB
      obtain ⟨tC, htC⟩ : ∃ tC, tC = (decide (mid < e) && decide (e < b)) := ⟨_, rfl⟩
      have HTC := Lib.hid htC
      clear htA htB htC
      go_upto_region 39 with fail
      go_cut [185] from 178 to 185 (fun s185 W => s185 = .bool tA ∧ W = wa)
      case first =>
        by_cases c1 : s < m
        · have q1 : decide ((s : Int) < (m : Int)) = true := decide_eq_true (by omega)
          have q1n : decide (s < m) = true := decide_eq_true c1
          have HA := Lib.hid (show tA = decide (m < e) by rw [HTA.out, q1n, Bool.true_and])
          have HA2 := Lib.hid (show decide ((m : Int) < (e : Int)) = decide (m < e) from decide_eq_decide.2 (by omega))
          clear c1
          go_wp2
          go_meet
          exact ⟨by rw [HA.out], rfl⟩
        · have q1 : decide ((s : Int) < (m : Int)) = false := decide_eq_false (by omega)
          have q1n : decide (s < m) = false := decide_eq_false c1
          have HA := Lib.hid (show tA = false by rw [HTA.out, q1n, Bool.false_and])
          clear c1
          go_wp2
          go_meet
          exact ⟨by rw [HA.out], rfl⟩
      case rest =>
      obtain ⟨rfl, rfl⟩ := hcut
      go_upto_if 185 with fail
      go_cut [24] from 186 to 191 (fun s24 W => s24 = .int .i64 e ∧ (Rw rs W g n d ∧ Only (fun x => x = g) w W))
      case first =>
        cases tA
        case false =>
          have HDC := Lib.hid (show d = c by
            rw [HD.out]
            refine rot_none c ?_
            have h1 := HTA.out
            have h2 := HB.out
            by_cases c1 : s < m
            · by_cases c2 : m < e
              · rw [decide_eq_true c1, decide_eq_true c2] at h1; exact Bool.noConfusion h1
              · right; omega
            · left; omega)
          go_wp2
          go_meet
          exact ⟨rfl, by rw [HDC.out]; exact HV.out⟩
        case true =>
          have h1 := HTA.out
          have hsm : s < m := by
            by_cases c1 : s < m
            · exact c1
            · rw [decide_eq_false c1, Bool.false_and] at h1; exact Bool.noConfusion h1
          have hme : m < e := by
            by_cases c1 : m < e
            · exact c1
            · rw [decide_eq_false c1, Bool.and_false] at h1; exact Bool.noConfusion h1
          have HRO := Lib.hid (rotate_any (cp := cp) (fvc cb lb) g n s m e c _ (by omega) HV.out.1 hsm hme (by have := HB.out; have := HAB.out; omega))
          rw [← HD.out] at HRO
          unfold fvc at HRO
          clear h1 hsm hme
          go_wp2_with (go_at_call 66; refine HRO.out.mono ?_; rintro e2 w9 ⟨rfl, hm9, ho9⟩; have HM9 := Lib.hid hm9; have HO9 := Lib.hid ho9; clear hm9 ho9)
          go_meet
          exact ⟨rfl, HM9.out, HV.out.2.trans HO9.out (fun k hk => .inl hk)⟩
      case rest =>
      obtain ⟨rfl, hv2⟩ := hcut
      have HV2 := Lib.hid hv2
      clear hv2 HV HTA
      obtain ⟨u1, u2, u3, u4, u5, u6, u7, u8, u9⟩ := HTU.out
      have HBD := Lib.hid (bnd_of u8 u9 HAB.out.2.2 HN.out)
      have HP1 := Lib.hid (show tB = true → ∀ W, Rw rs W g n d → Only (fun x => x = g) w W → Calls Try.prog 55 #[.slice (some ⟨g, 0, none⟩) n cp, .int .i64 a, .int .i64 s, .int .i64 mid, fvc cb lb] W fun r w' => r = .returned (.tuple #[]) ∧ Only (fun x => x = g) W w' ∧ Merged rs T g n a mid d w' from fun hb W hW hoW => by
        have h1 := HTB.out
        rw [hb] at h1
        have hb2 := (Bool.and_eq_true _ _).mp h1.symm
        exact HIH.out a s mid d W (by have := HMID.out; omega) (of_decide_eq_true hb2.1) (of_decide_eq_true hb2.2) (by have := HMID.out; have := HAB.out; omega) hW HBD.out (HC.out.only hoW) u1 u2 u3)
      have HQ1 := Lib.hid (show tB = false → Srt T d a mid from fun hb => by
        have h1 := HTB.out
        rw [hb] at h1
        have h2 := HB.out
        by_cases c1 : a < s
        · by_cases c2 : s < mid
          · rw [decide_eq_true c1, decide_eq_true c2] at h1; exact Bool.noConfusion h1
          · have e1 : s = mid := by omega
            rw [← e1]; exact u1
        · have e1 : s = a := by omega
          rw [e1] at u2; exact u2)
      have HP2 := Lib.hid (show tC = true → ∀ f W, Rw rs W g n f → Out d f a mid → Prm d f a mid → Only (fun x => x = g) w W → Calls Try.prog 55 #[.slice (some ⟨g, 0, none⟩) n cp, .int .i64 mid, .int .i64 e, .int .i64 b, fvc cb lb] W fun r w' => r = .returned (.tuple #[]) ∧ Only (fun x => x = g) W w' ∧ Merged rs T g n mid b f w' from fun hb f W hW hof hpf hoW => by
        have h1 := HTC.out
        rw [hb] at h1
        have hb2 := (Bool.and_eq_true _ _).mp h1.symm
        have hme := of_decide_eq_true hb2.1
        refine HIH.out mid e b f W (by have := HMID.out; omega) hme (of_decide_eq_true hb2.2) HAB.out.2.2 hW (bnd_of hof hpf (by have := HMID.out; have := HAB.out; omega) HBD.out) (HC.out.only hoW) (u4.congr fun k h _ => hof k (.inr h)) (u5.congr fun k h _ => hof k (.inr (by omega))) ?_
        intro i j hi hi2 hj hj2
        rw [hof i (.inr hi), hof j (.inr (by omega))]
        exact u6 i j hi hi2 hj hj2)
      have HQ2 := Lib.hid (show tC = false → ∀ f, Out d f a mid → Srt T f mid b from fun hb f hof => by
        have h1 := HTC.out
        rw [hb] at h1
        have h2 := HB.out
        have h3 : Srt T d mid b := by
          by_cases c1 : mid < e
          · by_cases c2 : e < b
            · rw [decide_eq_true c1, decide_eq_true c2] at h1; exact Bool.noConfusion h1
            · have e1 : e = b := by omega
              rw [← e1]; exact u4
          · have e1 : e = mid := by omega
            rw [e1] at u5; exact u5
        exact h3.congr fun k h _ => hof k (.inr h))
      have HFIN := Lib.hid (show ∀ f k W, Srt T f a mid → Out d f a mid → Prm d f a mid → Rw rs W g n k → Srt T k mid b → Out f k mid b → Prm f k mid b → Merged rs T g n a b c W from fun f k W s1 o1 p1 hW s2 o2 p2 => by
        obtain ⟨v1, v2, v3⟩ := halves (by have := HMID.out; omega) (by have := HMID.out; omega) u7 s1 o1 p1 s2 o2 p2
        exact ⟨k, hW, v1, u8.trans v2, u9.trans v3⟩)
      clear u1 u2 u3 u4 u5 u6 u7 u8 u9
      go_upto_region 41 with fail
      go_cut [199] from 192 to 199 (fun s199 W => s199 = .bool tB ∧ W = wc)
      case first =>
        by_cases c1 : a < s
        · have q1 : decide ((a : Int) < (s : Int)) = true := decide_eq_true (by omega)
          have q1n : decide (a < s) = true := decide_eq_true c1
          have HA := Lib.hid (show tB = decide (s < mid) by rw [HTB.out, q1n, Bool.true_and])
          clear c1
          go_wp2
          go_meet
          exact ⟨by rw [HA.out], rfl⟩
        · have q1 : decide ((a : Int) < (s : Int)) = false := decide_eq_false (by omega)
          have q1n : decide (a < s) = false := decide_eq_false c1
          have HA := Lib.hid (show tB = false by rw [HTB.out, q1n, Bool.false_and])
          clear c1
          go_wp2
          go_meet
          exact ⟨by rw [HA.out], rfl⟩
      case rest =>
      obtain ⟨rfl, rfl⟩ := hcut
      go_upto_if 199 with fail
      go_cut [24] from 200 to 205 (fun s24 W => s24 = .int .i64 e ∧ Only (fun x => x = g) w W ∧ ∃ f, Rw rs W g n f ∧ Srt T f a mid ∧ Out d f a mid ∧ Prm d f a mid)
      case first =>
        cases tB
        case false =>
          have HQ := Lib.hid (HQ1.out rfl)
          go_wp2
          go_meet
          exact ⟨rfl, HV2.out.2, d, HV2.out.1, HQ.out, Out.refl _ _ _, Prm.refl _ _ _⟩
        case true =>
          have HP := Lib.hid (HP1.out rfl _ HV2.out.1 HV2.out.2)
          unfold fvc at HP
          go_wp2_with (go_at_call 55; refine HP.out.mono ?_; rintro e2 w9 ⟨rfl, ho9, hm9⟩; have HM9 := Lib.hid hm9; have HO9 := Lib.hid ho9; clear hm9 ho9)
          go_meet
          exact ⟨rfl, HV2.out.2.trans HO9.out (fun k hk => .inl hk), HM9.out⟩
      case rest =>
      obtain ⟨rfl, ho3, f, hf1, hf2, hf3, hf4⟩ := hcut
      have HV3 := Lib.hid (show Rw rs wc g n f ∧ Only (fun x => x = g) w wc from ⟨hf1, ho3⟩)
      have HF := Lib.hid (show Srt T f a mid ∧ Out d f a mid ∧ Prm d f a mid from ⟨hf2, hf3, hf4⟩)
      clear ho3 hf1 hf2 hf3 hf4 HV2 HTB
      go_upto_region 43 with fail
      go_cut [213] from 206 to 213 (fun s213 W => s213 = .bool tC ∧ W = wc)
      case first =>
        by_cases c1 : mid < e
        · have q1 : decide ((mid : Int) < (e : Int)) = true := decide_eq_true (by omega)
          have q1n : decide (mid < e) = true := decide_eq_true c1
          have HA := Lib.hid (show tC = decide (e < b) by rw [HTC.out, q1n, Bool.true_and])
          clear c1
          go_wp2
          go_meet
          exact ⟨by rw [HA.out], rfl⟩
        · have q1 : decide ((mid : Int) < (e : Int)) = false := decide_eq_false (by omega)
          have q1n : decide (mid < e) = false := decide_eq_false c1
          have HA := Lib.hid (show tC = false by rw [HTC.out, q1n, Bool.false_and])
          clear c1
          go_wp2
          go_meet
          exact ⟨by rw [HA.out], rfl⟩
      case rest =>
      obtain ⟨rfl, rfl⟩ := hcut
      go_upto_if 213 with fail
      cases tC
      case false =>
        have HEND := Lib.hid (HFIN.out f f _ HF.out.1 HF.out.2.1 HF.out.2.2 HV3.out.1 (HQ2.out rfl f HF.out.2.1) (Out.refl _ _ _) (Prm.refl _ _ _))
        go_wp2
        exact bodyPost_end (results_none Try.results55 _ _ _) rfl ⟨rfl, HV3.out.2, HEND.out⟩
      case true =>
        have HP := Lib.hid (HP2.out rfl f _ HV3.out.1 HF.out.2.1 HF.out.2.2 HV3.out.2)
        unfold fvc at HP
        go_wp2_with (go_at_call 55; refine HP.out.mono ?_; rintro e2 w9 ⟨rfl, ho9, k9, hk1, hk2, hk3, hk4⟩; have HEND := Lib.hid (HFIN.out f k9 _ HF.out.1 HF.out.2.1 HF.out.2.2 hk1 hk2 hk3 hk4); have HO9 := Lib.hid ho9; clear ho9 hk1 hk2 hk3 hk4)
        exact bodyPost_end (results_none Try.results55 _ _ _) rfl ⟨rfl, HV3.out.2.trans HO9.out (fun k hk => .inl hk), HEND.out⟩
/-- Two sorted pieces side by side, merged. -/
theorem merge_any (zf : Nat → Nat → Int) (T : Nat → Nat → Prop) (htr : ∀ x y z, T x y → T y z → T x z) (g n cb lb N : Nat) (hn : n < 2305843009213693952) : ∀ (k a m b : Nat) (c : Nat → Nat) (w : World), b - a < k → a < m → m < b → b ≤ n → Rw rs w g n c → (∀ k, k < n → c k < N) → CmpC zf N g cb lb w → Srt T c a m → Srt T c m b → Tie (zL zf) T c a m b →
    Calls Try.prog 55 #[.slice (some ⟨g, 0, none⟩) n cp, .int .i64 a, .int .i64 m, .int .i64 b, fvc cb lb] w fun r w' => r = .returned (.tuple #[]) ∧ Only (fun x => x = g) w w' ∧ Merged rs T g n a b c w'
  | 0, a, m, b, c, w, hk, _, _, _, _, _, _, _, _, _ => absurd hk (Nat.not_lt_zero _)
  | k + 1, a, m, b, c, w, hk, h1, h2, h3, hr, hN, hC, hs1, hs2, ht => by
    by_cases c1 : m = a + 1
    · subst c1
      exact merge_left zf T htr g n a b cb lb N c w (by omega) hr h2 h3 hN hC hs2 ht
    · by_cases c2 : b = m + 1
      · subst c2
        exact merge_right zf T htr g n a m cb lb N c w (by omega) hr (by omega) h3 hN hC hs1 ht
      · exact merge_gen zf T htr g n a m b cb lb N c w hn hr (by omega) (by omega) h3 hN hC hs1 hs2 ht fun a' m' b' c' W q0 q1 q2 q3 q4 q5 q6 q7 q8 q9 => merge_any zf T htr g n cb lb N hn k a' m' b' c' W (by omega) q1 q2 q3 q4 q5 q6 q7 q8 q9
end Go.Proofs.Ythadfopkacbnlaa

