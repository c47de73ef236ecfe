/-
  Layer 3, the reference: nearest, as IEEE 754 rounds.
-/
import Derived.Test.YtoaecmoihbifoaaNe
namespace Go.Proofs.Ytoaecmoihbifoaa
open Go.RowKit Go.K Go.R
set_option linter.unusedVariables false
set_option linter.unusedSimpArgs false
theorem and_1 (x : Nat) : bits .and .u32 (x : Int) 1 = ((x % 2 : Nat) : Int) := by
  show IntKind.u32.wrap (((BitVec.ofInt 32 (x : Int)) &&& (BitVec.ofInt 32 1)).toNat : Int) = _
  have h1 : (BitVec.ofInt 32 (x : Int) &&& BitVec.ofInt 32 1).toNat = x % 2 := by
    rw [BitVec.toNat_and, BitVec.ofInt_natCast, BitVec.toNat_ofNat]
    have : (BitVec.ofInt 32 1).toNat = 2 ^ 1 - 1 := by decide
    rw [this, Nat.and_two_pow_sub_one_eq_mod]
    omega
  rw [h1, IntKind.wrap_u32]; omega
theorem near_at (mag : Nat) (place B : Int) (h0 : 0 < mag) (hB : B ≤ place) (hB2 : B ≤ -150) (cmp : Nat → Int → Int)
    (H : ∀ m e, m < 33554432 → -150 ≤ e → e ≤ 104 → cmp m e = icmp (sc B mag place) (sc B m e)) (low high : Nat) (h1 : low < high) (h2 : high ≤ 2139095040) (h3 : high ≤ low + 1) (hl1 : 0 ≤ cmp (pm low) (pe low)) (hl2 : high = 2139095040 ∨ cmp (pm high) (pe high) < 0) (k : Nat) (hk : k = 2 * pm low + 1) :
    Ieee.single.nearest false mag place = if 0 < cmp k (pe low - 1) ∨ cmp k (pe low - 1) = 0 ∧ low % 2 = 1 then low + 1 else low := by
  have he : high = low + 1 := by omega
  subst he
  rw [hk]
  refine nearest_eq mag place B h0 hB hB2 cmp H low (by omega) hl1 ?_
  rcases hl2 with h | h
  · exact .inl h
  · by_cases h4 : low + 1 = 2139095040
    · exact .inl h4
    · exact .inr ⟨by omega, h⟩
set_option maxRecDepth 100000 in
set_option maxHeartbeats 2000000 in
theorem nearest_any (q : Int) (ad : Option Addr) (n cap : Nat) (M E N F : Int) (cmp : Nat → Int → Int) (mag : Nat) (place B : Int) (h0 : 0 < mag) (hB : B ≤ place) (hB2 : B ≤ -150)
    (H : ∀ m e, m < 33554432 → -150 ≤ e → e ≤ 104 → cmp m e = icmp (sc B mag place) (sc B m e)) (w : World)
    (HH : ∀ W, Below w.heap.size w W → ∀ (m : Nat) (e : Int), m < 33554432 → -150 ≤ e → e ≤ 104 → Calls Try.prog 75 #[.agg #[.int .i64 q, .slice ad n cap, .int .i64 M, .int .i64 E, .int .i64 N, .int .i64 F], .int .i64 (m : Int), .int .i64 e] W fun r w' => r = .returned (.int .i64 (cmp m e)) ∧ Below W.heap.size W w') :
    Calls Try.prog 55 #[.agg #[.int .i64 q, .slice ad n cap, .int .i64 M, .int .i64 E, .int .i64 N, .int .i64 F]] w fun r w' => r = .returned (.int .u32 ((Ieee.single.nearest false mag place : Nat) : Int)) ∧ Below w.heap.size w w' := by
  have HR := Lib.hid (fun low high h1 h2 h3 h4 h5 k hk => near_at mag place B h0 hB hB2 cmp H low high h1 h2 h3 h4 h5 k hk)
  have HZ := Lib.hid (show 0 ≤ cmp (pm 0) (pe 0) by
    rw [H _ _ (by decide) (by decide) (by decide), icmp_ge]
    have : sc B (pm 0) (pe 0) = 0 := by unfold sc; rw [show pm 0 = 0 by decide, Nat.zero_mul]
    rw [this]; exact Nat.zero_le _)
  have HHH := Lib.hid HH
  clear H HH h0 hB hB2
  generalize Ieee.single.nearest false mag place = R at *
  have HB := Lib.hid (BoxX.start w q (.slice ad n cap) M E N F)
  go_enter Try.func55, Try.ntmps55
  go_wp2
  go_loopw [3, 4, 5, 6, 7] (fun lo hi x5 x6 x7 wr => ∃ (low high : Nat), lo = .int .u32 low ∧ hi = .int .u32 high ∧ low < high ∧ high ≤ 2139095040 ∧ 0 ≤ cmp (pm low) (pe low) ∧ (high = 2139095040 ∨ cmp (pm high) (pe high) < 0) ∧ BoxX w q (.slice ad n cap) M E N F wr) (fun lo hi _ _ _ _ => (intOf hi).toNat - (intOf lo).toNat)
  case atStart => exact ⟨0, 2139095040, rfl, rfl, by decide, Nat.le_refl _, HZ.out, .inl rfl, HB.out⟩
  case round =>
    clear HB
    obtain ⟨low, high, rfl, rfl, hlt, hle, hc1, hc2, hb⟩ := hrel
    have HB := Lib.hid hb
    have HC1 := Lib.hid hc1
    have HC2 := Lib.hid hc2
    have HLT := Lib.hid hlt
    have HLE := Lib.hid hle
    obtain ⟨d, hd⟩ : ∃ d, d = high - low := ⟨_, rfl⟩
    have hw1 : IntKind.u32.wrap ((high : Int) - (low : Int)) = (d : Int) := by rw [IntKind.wrap_u32]; omega
    clear hb hc1 hc2
    obtain ⟨z0, z1, z2, z3, z4, z5⟩ := HB.out.cells
    by_cases hgo : 1 < d
    · have t0 : decide ((d : Int) > 1) = true := decide_eq_true (by omega)
      have t0n : decide (1 < d) = true := decide_eq_true hgo
      have hq := tquo_nat d 2
      simp only [Int.cast_ofNat_Int] at hq
      obtain ⟨mid, hmid⟩ : ∃ mid, mid = low + d / 2 := ⟨_, rfl⟩
      have hw2 : IntKind.u32.wrap ((low : Int) + ((d / 2 : Nat) : Int)) = (mid : Int) := by rw [IntKind.wrap_u32]; omega
      have hwq : IntKind.u32.wrap ((d / 2 : Nat) : Int) = ((d / 2 : Nat) : Int) := by rw [IntKind.wrap_u32]; omega
      have HMI := Lib.hid (show low < mid ∧ mid < high by omega)
      have HP := Lib.hid (parts_any mid (by omega) wr)
      have hm1 := pm_lt mid
      have hm2 := pe_ge mid
      have hm3 := pe_le mid (by omega)
      have hrg : rg mid = mid := Nat.mod_eq_of_lt (by omega)
      rw [hrg] at HP
      have HK := Lib.hid (HHH.out wr HB.out.bel (pm mid) (pe mid) (by omega) (by omega) hm3)
      clear hmid hrg hd hlt hle
      generalize d / 2 = hf at *
      have HPM := Lib.hid (show ∃ m e, pm mid = m ∧ pe mid = e from ⟨_, _, rfl, rfl⟩)
      obtain ⟨m, e, hpm, hpe⟩ := HPM.out
      have HCM := Lib.hid (show cmp (pm mid) (pe mid) = cmp m e by rw [hpm, hpe])
      rw [hpm, hpe] at HP HK
      clear hpm hpe HPM hm1 hm2 hm3
      generalize cmp m e = c at *
      go_wp2_with fail
      refine HP.out.mono ?_
      rintro r1 y1 ⟨rfl, rfl⟩
      go_wp2_with fail
      refine HK.out.mono ?_
      rintro r2 y2 ⟨rfl, hb2⟩
      have HB2 := Lib.hid (HB.out.kept hb2)
      clear hb2
      by_cases hc : 0 ≤ c
      · have t1 : decide (c ≥ 0) = true := decide_eq_true hc
        go_wp2
        go_roundw
        case rel => exact ⟨mid, high, rfl, rfl, HMI.out.2, HLE.out, by rw [HCM.out]; exact hc, HC2.out, HB2.out⟩
        case measure => have := HMI.out; simp [intOf]; omega
      · have t1 : decide (c ≥ 0) = false := decide_eq_false hc
        go_wp2
        go_roundw
        case rel => exact ⟨low, mid, rfl, rfl, HMI.out.1, by have := HMI.out; have := HLE.out; omega, HC1.out, .inr (by rw [HCM.out]; omega), HB2.out⟩
        case measure => have := HMI.out; simp [intOf]; omega
    · have t0 : decide ((d : Int) > 1) = false := decide_eq_false (by omega)
      have t0n : decide (1 < d) = false := decide_eq_false hgo
      have HP := Lib.hid (parts_any low (by omega) wr)
      have hm1 := pm_lt low
      have hm2 := pe_ge low
      have hm3 := pe_le low (by omega)
      have hrg : rg low = low := Nat.mod_eq_of_lt (by omega)
      rw [hrg] at HP
      obtain ⟨k, hk⟩ : ∃ k, k = 2 * pm low + 1 := ⟨_, rfl⟩
      have HF := Lib.hid (HR.out low high HLT.out HLE.out (by omega) HC1.out HC2.out k hk)
      have HK := Lib.hid (HHH.out wr HB.out.bel k (pe low - 1) (by omega) (by omega) (by omega))
      have ha := and_1 low
      have hb1 : IntKind.i64.wrap (2 * ((pm low : Nat) : Int)) = 2 * ((pm low : Nat) : Int) := by rw [IntKind.wrap_i64]; omega
      have hb2 : IntKind.i64.wrap (2 * ((pm low : Nat) : Int) + 1) = (k : Int) := by rw [IntKind.wrap_i64]; omega
      have hb3 : IntKind.i64.wrap (pe low - 1) = pe low - 1 := by rw [IntKind.wrap_i64]; omega
      obtain ⟨s, hs⟩ : ∃ s, s = low + 1 := ⟨_, rfl⟩
      have hb4 : IntKind.u32.wrap ((low : Int) + 1) = (s : Int) := by rw [IntKind.wrap_u32]; omega
      rw [← hs] at HF
      have hcd : 0 ≤ low := Nat.zero_le _
      clear hs hk hrg hlt hle hd HC1 HC2
      generalize low % 2 = o at *
      generalize pm low = m at *
      generalize pe low = e at *
      generalize cmp k (e - 1) = c at *
      go_wp2_with fail
      refine HP.out.mono ?_
      rintro r1 y1 ⟨rfl, rfl⟩
      go_wp2_with fail
      refine HK.out.mono ?_
      rintro r2 y2 ⟨rfl, hb2⟩
      have HB2 := Lib.hid (HB.out.kept hb2).bel
      clear hb2
      by_cases hc : 0 < c
      · have t1 : decide (c > 0) = true := decide_eq_true hc
        go_wp2
        go_ret
        exact ⟨by rw [HF.out, if_pos (.inl hc)]; rfl, HB2.out⟩
      · have t1 : decide (c > 0) = false := decide_eq_false hc
        by_cases hz : c = 0
        · have t2 : (c == 0) = true := beq_iff_eq.2 hz
          have HCZ := Lib.hid hz
          by_cases ho : o = 1
          · have t3 : ((o : Int) == 1) = true := by rw [beq_iff_eq]; omega
            have HO := Lib.hid ho
            clear hz ho
            go_wp2
            go_ret
            exact ⟨by rw [HF.out, if_pos (.inr ⟨HCZ.out, HO.out⟩)]; rfl, HB2.out⟩
          · have t3 : ((o : Int) == 1) = false := by rw [beq_eq_false_iff_ne]; omega
            have HO := Lib.hid ho
            have HC := Lib.hid hc
            clear hz ho hc
            go_wp2
            go_ret
            exact ⟨by rw [HF.out, if_neg (fun h => h.elim (fun h2 => Int.not_lt.2 (Int.not_lt.1 (by have := HC.out; omega)) h2) (fun h => HO.out h.2))]; rfl, HB2.out⟩
        · have t2 : (c == 0) = false := beq_eq_false_iff_ne.2 hz
          go_wp2
          go_ret
          exact ⟨by rw [HF.out, if_neg (fun h => h.elim (fun h2 => by omega) (fun h => hz h.1))]; rfl, HB2.out⟩
end Go.Proofs.Ytoaecmoihbifoaa
