/-
  Layer 1: what the program does with wides, and what the document says of it.
-/
import Derived.Test.YtdkfaicmdbhonaaWv
namespace Go.Proofs.Ytdkfaicmdbhonaa
open Go.RowKit Go.K Go.Words
set_option linter.unusedVariables false
set_option linter.unusedSimpArgs false
theorem call44one (x y : BitVec 64) (w : World) : (callFunc 44 #[.int .u64 (U64 x), .int .u64 (U64 y), .int .u64 1]).run Try.prog w = .ok (.value (.tuple #[.int .u64 (((x.toNat + y.toNat + 1) % 18446744073709551616 : Nat) : Int), .int .u64 (((x.toNat + y.toNat + 1) / 18446744073709551616 : Nat) : Int)])) w := by
  rw [run_callFunc_extern (e := add64E) Try.func44 (by kernel_rfl) (by kernel_rfl) (by kernel_rfl) (by kernel_rfl)]
  have h1 : (U64 x).toNat = x.toNat := by unfold U64; rfl
  have h2 : (U64 y).toNat = y.toNat := by unfold U64; rfl
  show Result.ok (Next.value (Extern.MathBitsCarry.pair (((U64 x).toNat + (U64 y).toNat + 1) % 18446744073709551616) (((U64 x).toNat + (U64 y).toNat + 1) / 18446744073709551616))) w = _
  rw [h1, h2]; rfl
theorem call44zero (x y : BitVec 64) (w : World) : (callFunc 44 #[.int .u64 (U64 x), .int .u64 (U64 y), .int .u64 0]).run Try.prog w = .ok (.value (.tuple #[.int .u64 (((x.toNat + y.toNat) % 18446744073709551616 : Nat) : Int), .int .u64 (((x.toNat + y.toNat) / 18446744073709551616 : Nat) : Int)])) w := by
  rw [call44]; unfold U64; rw [BitVec.toNat_add]
def wideA (N : Nat) : Value := .agg #[.int .u64 ((N / 18446744073709551616 : Nat) : Int), .int .u64 ((N % 18446744073709551616 : Nat) : Int)]
theorem product_any (x y : BitVec 64) (w : World) : Calls Try.prog 23 #[.int .u64 (U64 x), .int .u64 (U64 y)] w fun e w' => e = .returned (wideA (x.toNat * y.toNat)) ∧ Below w.heap.size w w' := by
  have HC := Lib.hid (fun W => mul64_any x.toNat y.toNat x.isLt y.isLt W)
  unfold wideA
  generalize x.toNat * y.toNat % 18446744073709551616 = r at *
  generalize x.toNat * y.toNat / 18446744073709551616 = q at *
  go_enter Try.func23, Try.ntmps23
  go_wp2_with fail
  refine (HC.out _).mono ?_
  rintro e w1 ⟨rfl, rfl⟩
  go_wp2
  exact bodyPost_ret (v := .agg #[.int .u64 (q : Int), .int .u64 (r : Int)]) (by simp [results, Try.results23, go_sem]) rfl ⟨rfl, (Below.refl _ _).alloc (Nat.le_refl _) _⟩
/-- What Plus answers of the sum of two wides. -/
def plusV (N : Nat) : Value := if N < 340282366920938463463374607431768211456 then .tuple #[wideA N, .int .i64 0] else .tuple #[wideA 0, .int .i64 10]
theorem wplus_any (h1 l1 h2 l2 : BitVec 64) (w : World) : Calls Try.prog 27 #[.agg #[.int .u64 (U64 h1), .int .u64 (U64 l1)], .agg #[.int .u64 (U64 h2), .int .u64 (U64 l2)]] w fun e w' => e = .returned (plusV (wN h1 l1 + wN h2 l2)) ∧ Below w.heap.size w w' := by
  have b1 := h1.isLt
  have b2 := h2.isLt
  have b3 := l1.isLt
  have b4 := l2.isLt
  have k1 := fun W => call44zero l1 l2 W
  obtain ⟨c, hc⟩ : ∃ c, c = (l1.toNat + l2.toNat) / 18446744073709551616 := ⟨_, rfl⟩
  obtain ⟨s, hs⟩ : ∃ s, s = (l1.toNat + l2.toNat) % 18446744073709551616 := ⟨_, rfl⟩
  rw [← hc, ← hs] at k1
  have k2 : ∃ d t : Nat, (∀ W, (callFunc 44 #[.int .u64 (U64 h1), .int .u64 (U64 h2), .int .u64 (c : Int)]).run Try.prog W = .ok (.value (.tuple #[.int .u64 (t : Int), .int .u64 (d : Int)])) W) ∧ d = (h1.toNat + h2.toNat + c) / 18446744073709551616 ∧ t = (h1.toNat + h2.toNat + c) % 18446744073709551616 := by
    have hc1 : c = 0 ∨ c = 1 := by omega
    rcases hc1 with e | e
    · subst e
      exact ⟨_, _, fun W => call44zero h1 h2 W, by omega, by omega⟩
    · subst e
      exact ⟨_, _, fun W => call44one h1 h2 W, rfl, rfl⟩
  obtain ⟨d, t, k2, hd, ht⟩ := k2
  have HK := Lib.hid (show (d = 0 ∧ wN h1 l1 + wN h2 l2 = t * 18446744073709551616 + s) ∨ (d ≠ 0 ∧ ¬ wN h1 l1 + wN h2 l2 < 340282366920938463463374607431768211456) by
    unfold wN; omega)
  have HS := Lib.hid (show s < 18446744073709551616 ∧ t < 18446744073709551616 by omega)
  clear hc hs hd ht b1 b2 b3 b4
  go_enter Try.func27, Try.ntmps27
  by_cases h0 : d = 0
  · have HV := Lib.hid (show plusV (wN h1 l1 + wN h2 l2) = .tuple #[.agg #[.int .u64 (t : Int), .int .u64 (s : Int)], .int .i64 0] by
      rcases HK.out with ⟨_, e⟩ | ⟨e, _⟩
      · have h3 := HS.out
        unfold plusV wideA
        rw [e, if_pos (by omega), show (t * 18446744073709551616 + s) / 18446744073709551616 = t by omega, show (t * 18446744073709551616 + s) % 18446744073709551616 = s by omega]
      · exact absurd h0 e)
    rw [HV.out]
    subst h0
    go_wp2
    exact bodyPost_ret (v := .tuple #[.agg #[.int .u64 (t : Int), .int .u64 (s : Int)], .int .i64 0]) (by simp [results, Try.results27, go_sem]) rfl ⟨rfl, (((Below.refl _ _).alloc (Nat.le_refl _) _).alloc (by simp) _).alloc (by simp; omega) _⟩
  · have HV := Lib.hid (show plusV (wN h1 l1 + wN h2 l2) = .tuple #[.agg #[.int .u64 0, .int .u64 0], .int .i64 10] by
      rcases HK.out with ⟨e, _⟩ | ⟨_, e⟩
      · exact absurd e h0
      · unfold plusV; rw [if_neg e]; rfl)
    rw [HV.out]
    have t0 : ((d : Int) != 0) = true := by rw [bne_iff_ne]; omega
    clear h0
    go_wp2
    exact bodyPost_ret (v := .tuple #[.agg #[.int .u64 0, .int .u64 0], .int .i64 10]) (by simp [results, Try.results27, go_sem]) rfl ⟨rfl, (((Below.refl _ _).alloc (Nat.le_refl _) _).alloc (by simp) _).alloc (by simp; omega) _⟩
/-- What Over answers. -/
def overV (N d : Nat) : Value := if d = 0 then .tuple #[.int .u64 0, .int .u64 0, .int .i64 2] else if N / d < 18446744073709551616 then .tuple #[.int .u64 ((N / d : Nat) : Int), .int .u64 ((N % d : Nat) : Int), .int .i64 0] else .tuple #[.int .u64 0, .int .u64 0, .int .i64 10]
theorem over_iff (hi lo d : Nat) (hl : lo < 18446744073709551616) (hd : 0 < d) : (hi * 18446744073709551616 + lo) / d < 18446744073709551616 ↔ hi < d := by
  rw [Nat.div_lt_iff_lt_mul hd]
  constructor
  · intro h
    rcases Nat.lt_or_ge hi d with e | e
    · exact e
    · have := Nat.mul_le_mul_right 18446744073709551616 e
      rw [Nat.mul_comm 18446744073709551616] at h
      omega
  · intro h
    have := Nat.mul_le_mul_right 18446744073709551616 (show hi + 1 ≤ d from h)
    rw [Nat.mul_comm 18446744073709551616]
    omega
set_option maxRecDepth 100000 in
theorem wover_any (hi lo d : Nat) (w : World) (hh : hi < 18446744073709551616) (hl : lo < 18446744073709551616) (hd : d < 18446744073709551616) : Calls Try.prog 29 #[.agg #[.int .u64 hi, .int .u64 lo], .int .u64 d] w fun e w' => e = .returned (overV (hi * 18446744073709551616 + lo) d) ∧ Below w.heap.size w w' := by
  go_enter Try.func29, Try.ntmps29
  have HB0 := Lib.hid ((Below.refl w.heap.size w).alloc (Nat.le_refl _) (.cells #[.int .u64 (hi : Int), .int .u64 (lo : Int)] 34))
  by_cases h0 : d = 0
  · have HV := Lib.hid (show overV (hi * 18446744073709551616 + lo) d = .tuple #[.int .u64 0, .int .u64 0, .int .i64 2] from if_pos h0)
    have t0 : ((d : Int) == 0) = true := by rw [h0]; rfl
    rw [HV.out]
    clear h0 hh hl hd
    go_wp2
    go_ret3
    exact ⟨rfl, HB0.out⟩
  · have t0 : ((d : Int) == 0) = false := beq_eq_false_iff_ne.2 (by omega)
    by_cases h1 : hi < d
    · have t1 : decide ((hi : Int) ≥ (d : Int)) = false := decide_eq_false (by omega)
      have HV := Lib.hid (show overV (hi * 18446744073709551616 + lo) d = .tuple #[.int .u64 (((hi * 18446744073709551616 + lo) / d : Nat) : Int), .int .u64 (((hi * 18446744073709551616 + lo) % d : Nat) : Int), .int .i64 0] by
        unfold overV; rw [if_neg h0, if_pos ((over_iff hi lo d hl (by omega)).2 h1)])
      have K57 := Lib.hid (div64_any hi lo d (w.alloc (.cells #[.int .u64 (hi : Int), .int .u64 (lo : Int)] 34)) h1 hd hl)
      rw [HV.out]
      generalize (hi * 18446744073709551616 + lo) / d = q at *
      generalize (hi * 18446744073709551616 + lo) % d = r at *
      have t2 : decide (d ≤ hi) = false := decide_eq_false (by omega)
      clear h0 hh hl hd
      go_wp2_with fail
      refine K57.out.mono ?_
      rintro e w1 ⟨rfl, hq⟩
      have HB1 := Lib.hid (HB0.out.trans (hq.below _))
      clear hq K57
      go_wp2
      go_ret3
      exact ⟨rfl, HB1.out⟩
    · have t1 : decide ((hi : Int) ≥ (d : Int)) = true := decide_eq_true (by omega)
      have HV := Lib.hid (show overV (hi * 18446744073709551616 + lo) d = .tuple #[.int .u64 0, .int .u64 0, .int .i64 10] by
        unfold overV; rw [if_neg h0, if_neg (fun e => h1 ((over_iff hi lo d hl (by omega)).1 e))])
      rw [HV.out]
      have t2 : decide (d ≤ hi) = true := decide_eq_true (by omega)
      have h2 : d ≤ hi := by omega
      clear h0 hh hl hd h1
      go_wp2
      go_ret3
      exact ⟨rfl, HB0.out⟩
theorem scale_any (x y d : BitVec 64) (w : World) : Calls Try.prog 31 #[.int .u64 (U64 x), .int .u64 (U64 y), .int .u64 (U64 d)] w fun e w' => e = .returned (overV (x.toNat * y.toNat) d.toNat) ∧ Below w.heap.size w w' := by
  have HP := Lib.hid (product_any x y w)
  have hm : x.toNat * y.toNat ≤ 18446744073709551615 * 18446744073709551615 := Nat.mul_le_mul (by have := x.isLt; omega) (by have := y.isLt; omega)
  have HO := Lib.hid (fun W => wover_any (x.toNat * y.toNat / 18446744073709551616) (x.toNat * y.toNat % 18446744073709551616) d.toNat W (by omega) (Nat.mod_lt _ (by omega)) d.isLt)
  rw [Nat.mul_comm (x.toNat * y.toNat / 18446744073709551616), Nat.div_add_mod] at HO
  unfold wideA at HP
  have HOV := Lib.hid (show ∃ a b c : Int, overV (x.toNat * y.toNat) d.toNat = .tuple #[.int .u64 a, .int .u64 b, .int .i64 c] by
    unfold overV
    split
    · exact ⟨_, _, _, rfl⟩
    · split <;> exact ⟨_, _, _, rfl⟩)
  clear hm
  obtain ⟨a, b, c, hv⟩ := HOV.out
  rw [hv] at HO ⊢
  generalize x.toNat * y.toNat / 18446744073709551616 = p at *
  generalize x.toNat * y.toNat % 18446744073709551616 = q at *
  clear hv HOV
  go_enter Try.func31, Try.ntmps31
  go_wp2_with fail
  refine HP.out.mono ?_
  rintro e w1 ⟨rfl, hb1⟩
  have HB1 := Lib.hid hb1
  clear hb1
  go_wp2_with fail
  refine (HO.out _).mono ?_
  rintro e w2 ⟨rfl, hb2⟩
  have HB2 := Lib.hid (HB1.out.trans (hb2.mono HB1.out.size))
  clear hb2
  go_wp2
  go_ret3
  exact ⟨rfl, HB2.out⟩
set_option maxRecDepth 100000 in
set_option maxHeartbeats 1000000 in
theorem rover_any (g N : Nat) (d : BitVec 64) (w : World) (hz : IntAt w g (N : Int)) (hN : N < 340282366920938463463374607431768211456) : Calls Try.prog 30 #[.pointer (some ⟨g, 0, none⟩), .int .u64 (U64 d)] w fun e w' => e = .returned (overV N d.toNat) ∧ Below w.heap.size w w' := by
  have h9 := pw900_ge N hN
  have hd := d.isLt
  have HZ := Lib.hid hz
  have H9 := Lib.hid h9
  have HD9 := Lib.hid (pw900_ge d.toNat (by omega))
  clear hz hN h9
  go_enter Try.func30, Try.ntmps30
  by_cases h0 : d.toNat = 0
  · have HV := Lib.hid (show overV N d.toNat = .tuple #[.int .u64 0, .int .u64 0, .int .i64 2] from if_pos h0)
    have t0 : (U64 d == 0) = true := by unfold U64; rw [h0]; rfl
    rw [HV.out]
    clear h0 hd
    go_wp2
    go_ret3
    exact ⟨rfl, Below.refl _ _⟩
  · have t0 : (U64 d == 0) = false := beq_eq_false_iff_ne.2 (by unfold U64; omega)
    have HN0 := Lib.hid (isInt_new w)
    have HBA := Lib.hid ((Below.refl w.heap.size w).alloc (Nat.le_refl _) (.cells #[.bool false, .slice none 0 0] 42))
    have HG := Lib.hid (show g < w.heap.size by
      obtain ⟨_, _, _, _, h, _⟩ := HZ.out
      exact lt_row h)
    have HD0 := Lib.hid (show 0 < d.toNat by omega)
    go_wp2_with fail
    refine (big_any d _).mono ?_
    rintro e w1 ⟨rfl, hi1, hb1⟩
    rw [World.size_alloc] at hi1
    have HB1 := Lib.hid (HBA.out.trans (hb1.mono (by simp)))
    have HS1 := Lib.hid (show w.heap.size + 1 ≤ w1.heap.size by have := hb1.size; simp only [World.size_alloc] at this; exact this)
    have HI1 := Lib.hid hi1
    have HN1 := Lib.hid (HN0.out.kept hb1)
    have HZ1 := Lib.hid (HZ.out.kept HB1.out)
    have HNR := Lib.hid (isInt_new w1)
    have hba : Below w1.heap.size w1 (w1.alloc (.cells #[.bool false, .slice none 0 0] 42)) := (Below.refl _ _).alloc (Nat.le_refl _) _
    have K58 := Lib.hid (quorem_any w.heap.size g (w.heap.size + 1) w1.heap.size N d.toNat _ (HN1.out.kept hba) HNR.out (HZ1.out.kept hba) (HI1.out.kept hba) HD0.out H9.out HD9.out (by have := HS1.out; omega))
    have HBA1 := Lib.hid (HB1.out.trans (hba.mono HB1.out.size))
    clear hi1 hb1 hba h0 hd
    go_wp2_with fail
    refine K58.out.mono ?_
    rintro e w2 ⟨rfl, ho, hiq, hir⟩
    have HB2 := Lib.hid (show Below w.heap.size w w2 from HBA1.out.trans (ho.below HBA1.out.size (fun b hb => by have := HS1.out; omega)))
    have HIQ := Lib.hid hiq
    have HIR := Lib.hid hir
    clear ho hiq hir K58
    have K45 := Lib.hid (small_any w.heap.size _ w2 HIQ.out (by rw [Int.natAbs_natCast]; exact Nat.lt_of_le_of_lt (Nat.div_le_self _ _) H9.out))
    by_cases hf : N / d.toNat < 18446744073709551616
    · have HV := Lib.hid (show overV N d.toNat = .tuple #[.int .u64 ((N / d.toNat : Nat) : Int), .int .u64 ((N % d.toNat : Nat) : Int), .int .i64 0] by
        have := HD0.out
        unfold overV; rw [if_neg (by omega), if_pos hf])
      have HSV := Lib.hid (show smallV ((N / d.toNat : Nat) : Int) = .tuple #[.int .u64 ((N / d.toNat : Nat) : Int), .bool true] by
        rw [smallV_yes ⟨Int.natCast_nonneg _, Int.ofNat_lt.2 hf⟩, Int.toNat_natCast, U64_ofNat _ hf])
      have HMD := Lib.hid (show N % d.toNat < 18446744073709551616 from Nat.lt_trans (Nat.mod_lt _ HD0.out) d.isLt)
      rw [HSV.out] at K45
      clear hf HSV
      generalize N / d.toNat = qq at *
      go_wp2_with fail
      refine K45.out.mono ?_
      rintro e w3 ⟨rfl, hq3⟩
      have HB3 := Lib.hid (HB2.out.trans (hq3.below _))
      have K49 := Lib.hid (uint64_any w1.heap.size _ w3 (HIR.out.kept (hq3.below _)) (by rw [Int.natAbs_natCast]; exact Nat.lt_trans (Nat.mod_lt _ HD0.out) HD9.out))
      rw [Int.natAbs_natCast, U64_ofNat _ HMD.out] at K49
      clear hq3 K45
      go_wp2_with fail
      refine K49.out.mono ?_
      rintro e w4 ⟨rfl, hq4⟩
      have HB4 := Lib.hid (HB3.out.trans (hq4.below _))
      clear hq4 K49
      go_wp2
      go_ret3
      exact ⟨by rw [HV.out]; rfl, HB4.out⟩
    · have HV := Lib.hid (show overV N d.toNat = .tuple #[.int .u64 0, .int .u64 0, .int .i64 10] by
        have := HD0.out
        unfold overV; rw [if_neg (by omega), if_neg hf])
      have HSV := Lib.hid (show smallV ((N / d.toNat : Nat) : Int) = .tuple #[.int .u64 0, .bool false] from smallV_no (fun e => hf (Int.ofNat_lt.1 e.2)))
      rw [HSV.out] at K45
      clear hf HSV
      go_wp2_with fail
      refine K45.out.mono ?_
      rintro e w3 ⟨rfl, hq3⟩
      have HB3 := Lib.hid (HB2.out.trans (hq3.below _))
      clear hq3 K45
      go_wp2
      go_ret3
      exact ⟨by rw [HV.out]; rfl, HB3.out⟩
theorem U64_lt (x y : BitVec 64) : (U64 x < U64 y) ↔ x.toNat < y.toNat := by unfold U64; omega
set_option maxRecDepth 100000 in
theorem wcmp_any (h1 l1 h2 l2 : BitVec 64) (w : World) : Calls Try.prog 32 #[.agg #[.int .u64 (U64 h1), .int .u64 (U64 l1)], .agg #[.int .u64 (U64 h2), .int .u64 (U64 l2)]] w fun e w' => e = .returned (.int .i64 (cmpI (wN h1 l1) (wN h2 l2))) ∧ Below w.heap.size w w' := by
  have b3 := l1.isLt
  have b4 := l2.isLt
  have HB := Lib.hid (((Below.refl w.heap.size w).alloc (Nat.le_refl _) (.cells #[.int .u64 (U64 h1), .int .u64 (U64 l1)] 34)).alloc (by simp) (.cells #[.int .u64 (U64 h2), .int .u64 (U64 l2)] 34))
  have HC := Lib.hid (show ∀ a b : Nat, cmpI (a : Int) (b : Int) = if a < b then -1 else if b < a then 1 else 0 from fun a b => by
    unfold cmpI
    by_cases h : a < b
    · rw [if_pos (by omega), if_pos h]
    · rw [if_neg (by omega), if_neg h]
      by_cases h' : b < a
      · rw [if_pos (by omega), if_pos h']
      · rw [if_neg (by omega), if_neg h'])
  go_enter Try.func32, Try.ntmps32
  by_cases eh : h1 = h2
  · subst eh
    have t1 : (U64 h1 == U64 h1) = true := by simp
    by_cases el : l1 = l2
    · subst el
      have t2 : (U64 l1 == U64 l1) = true := by simp
      have HE := Lib.hid (show cmpI (wN h1 l1) (wN h1 l1) = 0 by rw [HC.out, if_neg (by omega), if_neg (by omega)])
      clear b3 b4
      go_wp2
      go_ret
      exact ⟨by rw [HE.out]; rfl, HB.out⟩
    · have t2 : (U64 l1 == U64 l2) = false := by rw [U64_beq]; simpa using el
      have t3 : decide (U64 h1 < U64 h1) = false := by simp
      have hne : l1.toNat ≠ l2.toNat := fun e => el (BitVec.eq_of_toNat_eq e)
      by_cases hl : l1.toNat < l2.toNat
      · have t4 : decide (U64 l1 < U64 l2) = true := decide_eq_true ((U64_lt _ _).2 hl)
        have HE := Lib.hid (show cmpI (wN h1 l1) (wN h1 l2) = -1 by rw [HC.out, if_pos (by unfold wN; omega)])
        clear b3 b4 hl hne el
        go_wp2
        go_ret
        exact ⟨by rw [HE.out]; rfl, HB.out⟩
      · have t4 : decide (U64 l1 < U64 l2) = false := decide_eq_false (fun e => hl ((U64_lt _ _).1 e))
        have HE := Lib.hid (show cmpI (wN h1 l1) (wN h1 l2) = 1 by rw [HC.out, if_neg (by unfold wN; omega), if_pos (by unfold wN; omega)])
        clear b3 b4 hl hne el
        go_wp2
        go_ret
        exact ⟨by rw [HE.out]; rfl, HB.out⟩
  · have t1 : (U64 h1 == U64 h2) = false := by rw [U64_beq]; simpa using eh
    have hne : h1.toNat ≠ h2.toNat := fun e => eh (BitVec.eq_of_toNat_eq e)
    by_cases hl : h1.toNat < h2.toNat
    · have t4 : decide (U64 h1 < U64 h2) = true := decide_eq_true ((U64_lt _ _).2 hl)
      have HE := Lib.hid (show cmpI (wN h1 l1) (wN h2 l2) = -1 by rw [HC.out, if_pos (by unfold wN; omega)])
      clear b3 b4 hl hne eh
      go_wp2
      go_ret
      exact ⟨by rw [HE.out]; rfl, HB.out⟩
    · have t4 : decide (U64 h1 < U64 h2) = false := decide_eq_false (fun e => hl ((U64_lt _ _).1 e))
      have HE := Lib.hid (show cmpI (wN h1 l1) (wN h2 l2) = 1 by rw [HC.out, if_neg (by unfold wN; omega), if_pos (by unfold wN; omega)])
      clear b3 b4 hl hne eh
      go_wp2
      go_ret
      exact ⟨by rw [HE.out]; rfl, HB.out⟩
end Go.Proofs.Ytdkfaicmdbhonaa
