/-
  Layer 19: two sorted pieces of a row are merged in place, walked.
-/
import Derived.Test.YthadfopkacbnlaaSc
import Derived.Deep.DeepCutAuto
import Derived.Deep.CutBlock
namespace Go.Proofs.Ythadfopkacbnlaa
open Go.RowKit Go.K Go.Stab
set_option linter.unusedVariables false
set_option linter.unusedSimpArgs false
variable {rs : List Value} {cp : Nat}
/-- What a merge leaves. -/
def Merged (rs : List Value) (T : Nat → Nat → Prop) (g n a b : Nat) (c : Nat → Nat) (W : World) : Prop := ∃ d, Rw rs W g n d ∧ Srt T d a b ∧ Out c d a b ∧ Prm c d a b
set_option maxRecDepth 100000 in
set_option maxHeartbeats 2000000 in
theorem merge_left (zf : Nat → Nat → Int) (T : Nat → Nat → Prop) (htr : ∀ x y z, T x y → T y z → T x z) (g n a b cb lb N : Nat) (c : Nat → Nat) (w : World) (hn : n < 4611686018427387904) (hr : Rw rs w g n c) (h1 : a + 1 < b) (h2 : b ≤ n)
    (hN : ∀ k, k < n → c k < N) (hC : CmpC zf N g cb lb w) (hs2 : Srt T c (a + 1) b) (ht : Tie (zL zf) T c a (a + 1) b) :
    Calls Try.prog 55 #[.slice (some ⟨g, 0, none⟩) n cp, .int .i64 a, .int .i64 ((a + 1 : Nat) : Int), .int .i64 b, fvc cb lb] w fun r w' => r = .returned (.tuple #[]) ∧ Only (fun x => x = g) w w' ∧ Merged rs T g n a b c w' := by
  have HR := Lib.hid hr
  have HN := Lib.hid hN
  have HC := Lib.hid hC
  have HT := Lib.hid ht
  have HS := Lib.hid hs2
  obtain ⟨m, hm⟩ : ∃ m, m = a + 1 := ⟨_, rfl⟩
  rw [← hm]
  have w1 : IntKind.i64.wrap ((m : Int) - (a : Int)) = 1 := by rw [IntKind.wrap_i64]; omega
  have HM := Lib.hid hm
  have HAB := Lib.hid (show a + 1 < b ∧ b ≤ n from ⟨h1, h2⟩)
  clear hr hN hC ht hs2 h1 h2 hm
  unfold fvc
  go_enter Try.func55, Try.ntmps55
  go_wp2
  go_loopw [10, 11, 12] (fun x10 x11 x12 V => ∃ i j : Nat, m ≤ i ∧ i ≤ j ∧ j ≤ b ∧ x10 = .int .i64 i ∧ x11 = .int .i64 j ∧ (Rw rs V g n c ∧ Only (fun x => x = g) w V) ∧ (i = m ∨ zL zf (c (i - 1)) (c a) = true) ∧ (j = b ∨ zL zf (c j) (c a) = false)) (fun x10 x11 _ _ => (intOf x11).toNat - (intOf x10).toNat)
  case atStart => exact ⟨m, b, Nat.le_refl _, by have := HM.out; have := HAB.out; omega, Nat.le_refl _, rfl, rfl, ⟨HR.out, Only.refl _ _⟩, .inl rfl, .inl rfl⟩
  case round =>
    obtain ⟨i, j, hi, hij, hjb, rfl, rfl, hv, hl, hr⟩ := hrel
    have HV := Lib.hid hv
    have HL := Lib.hid hl
    have HRT := Lib.hid hr
    have HIJ := Lib.hid (show m ≤ i ∧ i ≤ j ∧ j ≤ b from ⟨hi, hij, hjb⟩)
    clear hv hl hr HR hi hij hjb
    obtain ⟨wa, h⟩ : ∃ W, W = wr := ⟨_, rfl⟩
    subst h
    by_cases hlt : i < j
    · have t0 : decide ((i : Int) < (j : Int)) = true := decide_eq_true (by omega)
      have t0n : decide (i < j) = true := decide_eq_true hlt
      obtain ⟨s, hs⟩ : ∃ s, s = i + j := ⟨_, rfl⟩
      obtain ⟨h, hh⟩ : ∃ h, h = s / 2 := ⟨_, rfl⟩
      obtain ⟨h1, hh1⟩ : ∃ h1, h1 = h + 1 := ⟨_, rfl⟩
      have w2 : IntKind.i64.wrap ((i : Int) + (j : Int)) = (s : Int) := by rw [IntKind.wrap_i64]; have := HIJ.out; have := HAB.out; omega
      have w3 : IntKind.u64.wrap (s : Int) = (s : Int) := by rw [IntKind.wrap_u64]; have := HIJ.out; have := HAB.out; omega
      have w4 : (s : Int) / 2 = (h : Int) := by omega
      have w5 : IntKind.i64.wrap (h : Int) = (h : Int) := by rw [IntKind.wrap_i64]; have := HIJ.out; have := HAB.out; omega
      have w6 : IntKind.i64.wrap ((h : Int) + 1) = (h1 : Int) := by rw [IntKind.wrap_i64]; have := HIJ.out; have := HAB.out; omega
      have ia : (a : Int) < (n : Int) := by have := HAB.out; omega
      have ih : (h : Int) < (n : Int) := by have := HIJ.out; have := HAB.out; omega
      have HX := Lib.hid (show h < n ∧ a < n by omega)
      have HH := Lib.hid (show i ≤ h ∧ h < j ∧ h1 = h + 1 by omega)
      clear hlt hs hh hh1
      have HCC := Lib.hid (show ∀ Wx, (Rw rs Wx g n c ∧ Only (fun k => k = g) w Wx) → Calls Try.prog 27 #[.int .i64 (c h : Nat), .int .i64 (c a : Nat), .pointer (some ⟨cb, 0, none⟩)] Wx fun e w' => e = .returned (.int .i64 (zf (c h) (c a))) ∧ (Rw rs w' g n c ∧ Only (fun k => k = g) w w') from fun Wx hw =>
        (HC.out Wx hw.2 (c h) (c a) (HN.out _ HX.out.1) (HN.out _ HX.out.2)).mono fun e w' ⟨he, hq⟩ => ⟨he, hw.1.kept (hq.below _), hw.2.trans (Only.of_below (hq.below _)) (fun k hk => .inl hk)⟩)
      go_wp2
      refine wp_region_inv 11 (fun V => Rw rs V g n c ∧ Only (fun k => k = g) w V) (by kernel_rfl) (by kernel_rfl) (fun m => ⟨HV.out.1.kept (below_drawn (Below.refl _ _) m), HV.out.2.trans (Only.of_below (below_drawn (Below.refl _ _) m)) (fun k hk => .inl hk)⟩) ?_
      simp only [List.take_succ_cons, List.take_zero]
      iterate 11
        apply wpInv_cons
        · rfl
        · intro Wx hw
          have q1 := hw.1.cell h HX.out.1
          have q2 := hw.1.cell a HX.out.2
          go_simp
          first
            | exact ⟨hw, rfl⟩
            | (show Calls _ _ _ _ _; with_reducible exact HCC.out _ hw)
        simp only [Act.put, List.setIfInBounds_toArray, List.set_cons_zero, List.set_cons_succ]
      refine wpInv_nil fun V3 hV => ?_
      have HV3 := Lib.hid hV
      clear hV HCC
      simp only [List.drop_succ_cons, List.drop_zero]
      obtain ⟨tb, htb⟩ : ∃ tb, decide (zf (c h) (c a) < 0) = tb := ⟨_, rfl⟩
      have HTB := Lib.hid (show zL zf (c h) (c a) = tb from htb)
      rw [htb]
      clear htb
      cases tb
      case true =>
        go_wp2
        go_roundw
        case rel => exact ⟨h1, j, by have := HH.out; have := HIJ.out; omega, by have := HH.out; omega, HIJ.out.2.2, by go_num, rfl, HV3.out, .inr (by rw [HH.out.2.2]; exact HTB.out), HRT.out⟩
        case measure => have := HH.out; simp [intOf]; omega
      case false =>
        go_wp2
        go_roundw
        case rel => exact ⟨i, h, HIJ.out.1, HH.out.1, by have := HH.out; have := HIJ.out; omega, rfl, rfl, HV3.out, HL.out, .inr HTB.out⟩
        case measure => have := HH.out; simp [intOf]; omega
    · have t0 : decide ((i : Int) < (j : Int)) = false := decide_eq_false (by omega)
      have t0n : decide (i < j) = false := decide_eq_false hlt
      have hij : j = i := by have := HIJ.out; omega
      have HE := Lib.hid (show m ≤ i ∧ i ≤ b by have := HIJ.out; omega)
      have HONE := Lib.hid (show Srt T (rot c a (a + 1) i) a b ∧ Out c (rot c a (a + 1) i) a b ∧ Prm c (rot c a (a + 1) i) a b from
        one_left htr HS.out HT.out (by have := HE.out; have := HM.out; omega) HE.out.2 (by have h := HL.out; rw [HM.out] at h; exact h) (by have h := HRT.out; rw [hij] at h; exact h))
      obtain ⟨i1, hi1⟩ : ∃ i1, i1 = i - 1 := ⟨_, rfl⟩
      have w2 : IntKind.i64.wrap ((i : Int) - 1) = (i1 : Int) := by rw [IntKind.wrap_i64]; have := HE.out; have := HM.out; have := HAB.out; omega
      have HI1 := Lib.hid (show a ≤ i1 ∧ i = i1 + 1 by have := HE.out; have := HM.out; omega)
      clear hlt hij hi1 HIJ HL HRT
      go_wp2
      go_loopw [13] (fun x13 V => ∃ k : Nat, a ≤ k ∧ k ≤ i1 ∧ x13 = .int .i64 k ∧ Rw rs V g n (rot c a (a + 1) (k + 1)) ∧ Only (fun x => x = g) w V) (fun x13 _ => i1 - (intOf x13).toNat)
      case atStart => exact ⟨a, Nat.le_refl _, HI1.out.1, rfl, by rw [rot_none c (.inr rfl)]; exact HV.out.1, HV.out.2⟩
      case round =>
        obtain ⟨k, hk1, hk2, rfl, hmk, hok⟩ := hrel
        have HVK := Lib.hid (show Rw rs wr g n (rot c a (a + 1) (k + 1)) ∧ Only (fun x => x = g) w wr from ⟨hmk, hok⟩)
        have HK := Lib.hid (show a ≤ k ∧ k ≤ i1 from ⟨hk1, hk2⟩)
        clear hmk hok HV
        by_cases hlt : k < i1
        · have t1 : decide ((k : Int) < (i1 : Int)) = true := decide_eq_true (by omega)
          have t1n : decide (k < i1) = true := decide_eq_true hlt
          obtain ⟨k1, hk1'⟩ : ∃ k1, k1 = k + 1 := ⟨_, rfl⟩
          have w3 : IntKind.i64.wrap ((k : Int) + 1) = (k1 : Int) := by rw [IntKind.wrap_i64]; have := HI1.out; have := HE.out; have := HAB.out; omega
          have ik : (k : Int) < (n : Int) := by have := HI1.out; have := HE.out; have := HAB.out; omega
          have ik1 : (k1 : Int) < (n : Int) := by have := HI1.out; have := HE.out; have := HAB.out; omega
          have HX := Lib.hid (show k < n ∧ k1 < n by omega)
          have HSW := Lib.hid (show swp (rot c a (a + 1) (k + 1)) k k1 = rot c a (a + 1) (k1 + 1) by rw [hk1']; exact swp_left c a k hk1)
          have HK1 := Lib.hid (show k1 = k + 1 ∧ k < i1 from ⟨hk1', hlt⟩)
          generalize rot c a (a + 1) (k + 1) = D at *
          clear hlt hk1' hk1 hk2
          go_wp2
          refine wp_region_mark 17 (SwF rs w g n k k1 D) isStore lateO (by kernel_rfl) (by kernel_rfl) (by kernel_rfl) (by kernel_rfl) (fun m => ⟨HVK.out.1.kept (below_drawn (Below.refl _ _) m), HVK.out.2.trans (Only.of_below (S := fun k => k = g) (below_drawn (Below.refl _ _) m)) (fun k hk => .inl hk)⟩) ?_
          simp only [List.take_succ_cons, List.take_zero]
          iterate 15
            apply wpMark_cons
            · rfl
            · intro b Wx hl hw
              cases b
              · have q1 := hw.1.cell k HX.out.1
                have q2 := hw.1.cell k1 HX.out.2
                simp only [Bool.false_eq_true, if_false] at q1 q2
                go_simp
                exact ⟨hw, rfl⟩
              · first
                  | exact absurd (hl rfl) (by decide)
                  | (go_simp; exact ⟨hw, rfl⟩)
            simp only [Act.put, List.setIfInBounds_toArray, List.set_cons_zero, List.set_cons_succ]
          refine wpMark_cons undef rfl (fun b Wx hl hw => ?_) ?_
          · cases b
            · have hr : Wx.heap[g]? = some (.cells (rowN rs D n).toArray 3) := hw.1
              show InvRun Try.prog (SwF rs w g n k k1 D true) _ _
              refine inv_store_lit 3 g k (rowN rs (upd D k (D k1)) n).toArray (.int .i64 (D k1 : Int)) hr szI (by show k + 1 ≤ (rowN rs D n).toArray.size; simp [rowN_len]; have := HX.out.1; omega) rfl (rowN_upd D n k (D k1) HX.out.1) ?_ ?_ (fun W hp => ⟨hp.at', hw.2.trans hp.only (fun k hk => .inl hk)⟩)
              · rfl
              · rfl
            · exact absurd (hl rfl) (by decide)
          simp only [Act.put, List.setIfInBounds_toArray, List.set_cons_zero, List.set_cons_succ]
          apply wpMark_cons
          · rfl
          · intro b Wx hl hw
            cases b
            · go_simp
              exact ⟨hw, rfl⟩
            · go_simp
              exact ⟨hw, rfl⟩
          simp only [Act.put, List.setIfInBounds_toArray, List.set_cons_zero, List.set_cons_succ]
          refine wpMark_nil (fun V4 hV => ?_)
          have hr : V4.heap[g]? = some (.cells (rowN rs (upd D k (D k1)) n).toArray 3) := hV.1
          simp only [List.drop_succ_cons, List.drop_zero]
          refine wpList_store_lit 3 g k1 (rowN rs (upd (upd D k (D k1)) k1 (D k)) n).toArray (.int .i64 (D k : Int)) hr szI (by show k1 + 1 ≤ (rowN rs (upd D k (D k1)) n).toArray.size; simp [rowN_len]; have := HX.out.2; omega) rfl (rowN_upd (upd D k (D k1)) n k1 (D k) HX.out.2) ?_ ?_ ?_
          · rfl
          · rfl
          intro V5 hp2
          have HE := Lib.hid (show Rw rs V5 g n (swp D k k1) by have h := hp2.at'; rw [upd_swp] at h; exact h)
          have HO2 := Lib.hid (show Only (fun k => k = g) w V5 from hV.2.trans hp2.only (fun k hk => .inl hk))
          clear hV hr hp2
          rw [HSW.out] at HE
          go_wp2
          go_roundw
          case rel => exact ⟨k1, by have := HK1.out; have := HK.out; omega, by have := HK1.out; omega, by go_num, HE.out, HO2.out⟩
          case measure => have := HK1.out; simp [intOf]; omega
        · have t1 : decide ((k : Int) < (i1 : Int)) = false := decide_eq_false (by omega)
          have t1n : decide (k < i1) = false := decide_eq_false hlt
          have HEND := Lib.hid (show Merged rs T g n a b c wr from ⟨rot c a (a + 1) i, by have h := HVK.out.1; rw [show k + 1 = i by have := HI1.out; omega] at h; exact h, HONE.out⟩)
          clear hlt hk1 hk2
          go_wp2
          exact bodyPost_ret (results_none Try.results55 _ _ _) rfl ⟨rfl, HVK.out.2, HEND.out⟩
end Go.Proofs.Ythadfopkacbnlaa

