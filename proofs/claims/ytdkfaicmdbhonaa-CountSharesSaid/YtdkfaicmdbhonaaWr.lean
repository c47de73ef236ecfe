/-
  Layer 1: Go's own division of a number of 128 bits by one of 64: Div64.
-/
import Derived.Test.YtdkfaicmdbhonaaWq
import Derived.Lib.ItoaNum
import Derived.Deep.DeepCutAuto
import Derived.Deep.CutBlock
namespace Go.Proofs.Ytdkfaicmdbhonaa
open Go.RowKit Go.K Go.Words
set_option linter.unusedVariables false
set_option linter.unusedSimpArgs false
theorem bl_bounds (x : Nat) (h0 : 0 < x) (h : x < 18446744073709551616) : 1 ≤ Lib.bitLen x ∧ Lib.bitLen x ≤ 64 ∧ 2 ^ (Lib.bitLen x - 1) ≤ x ∧ x < 2 ^ Lib.bitLen x := by
  obtain ⟨h1, h2, h3⟩ := Lib.bitLenAux_bounds 64 x h (by omega)
  exact ⟨h1, Lib.bitLen_le x 64 (by omega) h, h2, h3⟩
theorem lead_nat (y : Nat) (w : World) (hy : y < 18446744073709551616) (h0 : 0 < y) : Calls Try.prog 62 #[.int .u64 y] w fun e w' => e = .returned (.int .i64 ((64 - Lib.bitLen y : Nat) : Int)) ∧ w = w' := by
  have h1 := bl_bounds y h0 hy
  refine (lead64_any y w (by omega) (by omega)).mono fun e w' ⟨he, hw⟩ => ⟨?_, hw⟩
  rw [he, Int.toNat_natCast]
  congr 2
  omega
theorem nat_mask (Y : Nat) (h : Y < 18446744073709551616) : bits .and .u64 (Y : Int) 4294967295 = ((Y % 4294967296 : Nat) : Int) := by
  have e : (Y : Int) = U64 (BitVec.ofNat 64 Y) := (U64_ofNat Y h).symm
  rw [e, and_U64, U64_ofInt]
  unfold U64
  congr 1
  rw [BitVec.toNat_and, show (BitVec.ofInt 64 4294967295).toNat = 2 ^ 32 - 1 from by decide, Nat.and_two_pow_sub_one_eq_mod, BitVec.toNat_ofNat]
  omega
theorem nat_or (A B s : Nat) (hA : A * 2 ^ s < 18446744073709551616) (hB : B < 2 ^ s) (hBs : B < 18446744073709551616) : bits .or .u64 ((A * 2 ^ s : Nat) : Int) (B : Int) = ((A * 2 ^ s + B : Nat) : Int) := by
  have e1 : ((A * 2 ^ s : Nat) : Int) = U64 (BitVec.ofNat 64 (A * 2 ^ s)) := (U64_ofNat _ hA).symm
  have e2 : (B : Int) = U64 (BitVec.ofNat 64 B) := (U64_ofNat _ hBs).symm
  rw [e1, e2, or_U64, U64_ofInt, U64_ofInt]
  unfold U64
  congr 1
  rw [BitVec.toNat_or, BitVec.toNat_ofNat, BitVec.toNat_ofNat, Nat.mod_eq_of_lt hA, Nat.mod_eq_of_lt hBs, ← Nat.shiftLeft_eq, Nat.shiftLeft_add_eq_or_of_lt hB]
/-- The same with numbers as the walk has them. -/
structure DigZ (Y U d : Nat) (q r : Int) : Prop where
  q0 : 0 ≤ q
  r0 : 0 ≤ r
  i : DigI Y U d q.toNat r.toNat
  r1 : r < 4294967296
  q1 : q ≤ 4294967297
theorem digz_step {Y U d : Nat} {q r a b : Int} (h : DigZ Y U d q r) (hU : U < Y) (hd : d < 4294967296) (ha : a = ((Y / 4294967296 : Nat) : Int)) (hb : b = ((Y % 4294967296 : Nat) : Int)) (hc : 4294967296 ≤ q ∨ 4294967296 * r + d < q * b) :
    0 < q ∧ (r + a < 4294967296 → DigZ Y U d (q - 1) (r + a)) ∧ (4294967296 ≤ r + a → q - 1 = (((U * 4294967296 + d) / Y : Nat) : Int)) := by
  have hq0 := h.q0
  have hr0 := h.r0
  have hq1 := h.q1
  have hqb : ((q.toNat * (Y % 4294967296) : Nat) : Int) = q * b := by rw [hb, Int.natCast_mul, Int.toNat_of_nonneg hq0]
  have hra : ((r.toNat + Y / 4294967296 : Nat) : Int) = r + a := by rw [ha, Int.natCast_add, Int.toNat_of_nonneg hr0]
  obtain ⟨s1, s2⟩ := dig_step h.i hU hd (by
    rcases hc with hc | hc
    · exact .inl (by omega)
    · refine .inr ?_
      have : ((4294967296 * r.toNat + d : Nat) : Int) < ((q.toNat * (Y % 4294967296) : Nat) : Int) := by
        rw [hqb, Int.natCast_add, Int.natCast_mul, Int.toNat_of_nonneg hr0]; exact hc
      exact Int.ofNat_lt.1 this)
  have e1 : (q - 1).toNat = q.toNat - 1 := by omega
  have e2 : (r + a).toNat = r.toNat + Y / 4294967296 := by rw [← hra, Int.toNat_natCast]
  refine ⟨by omega, fun hl => ⟨by omega, by rw [← hra]; exact Int.natCast_nonneg _, by rw [e1, e2]; exact s2, hl, by omega⟩, fun hg => ?_⟩
  have := dig_end s2 hU (by omega) (by rw [← hra] at hg; exact Int.ofNat_le.1 hg)
  rw [← this]
  omega
theorem digz_no {Y U d : Nat} {q r b : Int} (h : DigZ Y U d q r) (hU : U < Y) (hb : b = ((Y % 4294967296 : Nat) : Int)) (hc : ¬ 4294967296 * r + d < q * b) : q = (((U * 4294967296 + d) / Y : Nat) : Int) := by
  have hqb : ((q.toNat * (Y % 4294967296) : Nat) : Int) = q * b := by rw [hb, Int.natCast_mul, Int.toNat_of_nonneg h.q0]
  have := dig_no h.i hU (fun e => hc (by
    have e2 : ((4294967296 * r.toNat + d : Nat) : Int) < ((q.toNat * (Y % 4294967296) : Nat) : Int) := Int.ofNat_lt.2 e
    rw [hqb, Int.natCast_add, Int.natCast_mul, Int.toNat_of_nonneg h.r0] at e2
    exact e2))
  rw [← this, Int.toNat_of_nonneg h.q0]
theorem digz_start {Y U d : Nat} (hY : 9223372036854775808 ≤ Y) (hY2 : Y < 18446744073709551616) (hU : U < Y) (hd : d < 4294967296) : DigZ Y U d ((U / (Y / 4294967296) : Nat) : Int) ((U % (Y / 4294967296) : Nat) : Int) := by
  have h1 := dig_start hY hU hd
  have h2 := dig_top hY hY2 hU
  exact ⟨Int.natCast_nonneg _, Int.natCast_nonneg _, by rw [Int.toNat_natCast, Int.toNat_natCast]; exact h1, by have := h2.2; clear h1 h2; generalize U % (Y / 4294967296) = R at *; omega, by have := h2.1; clear h1 h2; generalize U / (Y / 4294967296) = R at *; omega⟩
theorem e6_of (A B : Nat) (hA : A < 4294967296) (hB : B < 4294967296) : IntKind.u64.wrap (IntKind.u64.wrap ((A : Int) * 4294967296) + (B : Int)) = ((A * 4294967296 + B : Nat) : Int) := by
  simp only [IntKind.wrap_u64]; omega
theorem e7_of (U R : Nat) (d Z : Int) (h : Z + (R : Int) = (U : Int) * 4294967296 + d) (hR : R < 18446744073709551616) : IntKind.u64.wrap (IntKind.u64.wrap (IntKind.u64.wrap ((U : Int) * 4294967296) + d) - IntKind.u64.wrap Z) = (R : Int) := by
  simp only [IntKind.wrap_u64]; omega
structure Norm (hi lo y s Y U L a b d1 d0 : Nat) : Prop where
  e1 : IntKind.u64.wrap ((y : Int) * 2 ^ s) = (Y : Int)
  e2 : bits .or .u64 (IntKind.u64.wrap ((hi : Int) * 2 ^ s)) ((lo : Int) / 2 ^ (64 - s)) = (U : Int)
  e3 : IntKind.u64.wrap ((lo : Int) * 2 ^ s) = (L : Int)
  e4 : (Y : Int) / 4294967296 = (a : Int)
  e5 : bits .and .u64 (Y : Int) 4294967295 = (b : Int)
  e6 : (L : Int) / 4294967296 = (d1 : Int)
  e7 : bits .and .u64 (L : Int) 4294967295 = (d0 : Int)
  yq : Y = y * 2 ^ s
  y1 : 9223372036854775808 ≤ Y
  y2 : Y < 18446744073709551616
  aq : a = Y / 4294967296
  bq : b = Y % 4294967296
  l1 : d1 < 4294967296
  l0 : d0 < 4294967296
  u : U < Y
  all : U * 18446744073709551616 + (d1 * 4294967296 + d0) = (hi * 18446744073709551616 + lo) * 2 ^ s
theorem norm_of (hi lo y s : Nat) (h : hi < y) (hl : lo < 18446744073709551616) (hs : s ≤ 63) (h1 : 9223372036854775808 ≤ y * 2 ^ s) (h2 : y * 2 ^ s < 18446744073709551616) : ∃ Y U L a b d1 d0 : Nat, Norm hi lo y s Y U L a b d1 d0 := by
  have hp : 0 < 2 ^ s := Nat.pow_pos (by omega)
  have hq : 0 < 2 ^ (64 - s) := Nat.pow_pos (by omega)
  have hpq : 2 ^ (64 - s) * 2 ^ s = 18446744073709551616 := by rw [← Nat.pow_add, Nat.sub_add_cancel (by omega)]
  have hhi : (hi + 1) * 2 ^ s ≤ y * 2 ^ s := Nat.mul_le_mul_right _ h
  rw [Nat.add_mul, Nat.one_mul] at hhi
  have hB : lo / 2 ^ (64 - s) < 2 ^ s := by
    rw [Nat.div_lt_iff_lt_mul hq, Nat.mul_comm, hpq]; exact hl
  have hBd : lo * 2 ^ s / 18446744073709551616 = lo / 2 ^ (64 - s) := by
    rw [← hpq]; exact Nat.mul_div_mul_right _ _ hp
  have hcast : ∀ n : Nat, ((n : Int) * 2 ^ s) = ((n * 2 ^ s : Nat) : Int) := fun n => by simp
  have hLdm := Nat.div_add_mod (lo * 2 ^ s) 18446744073709551616
  have hLlt := Nat.mod_lt (lo * 2 ^ s) (show 0 < 18446744073709551616 by omega)
  refine ⟨y * 2 ^ s, hi * 2 ^ s + lo / 2 ^ (64 - s), lo * 2 ^ s % 18446744073709551616, y * 2 ^ s / 4294967296, y * 2 ^ s % 4294967296, lo * 2 ^ s % 18446744073709551616 / 4294967296, lo * 2 ^ s % 18446744073709551616 % 4294967296, ?_⟩
  refine ⟨?_, ?_, ?_, by omega, nat_mask _ h2, by omega, nat_mask _ hLlt, rfl, h1, h2, rfl, rfl, by omega, by omega, ?_, ?_⟩
  · rw [hcast]; exact wrap_u64_nat _ h2
  · rw [hcast, wrap_u64_nat _ (by omega)]
    have : (lo : Int) / 2 ^ (64 - s) = ((lo / 2 ^ (64 - s) : Nat) : Int) := by simp
    rw [this]
    exact nat_or hi (lo / 2 ^ (64 - s)) s (by omega) hB (Nat.lt_of_le_of_lt (Nat.div_le_self _ _) hl)
  · rw [hcast, IntKind.wrap_u64]; omega
  · omega
  · have e1 : (hi * 18446744073709551616 + lo) * 2 ^ s = hi * 2 ^ s * 18446744073709551616 + lo * 2 ^ s := by
      rw [Nat.add_mul, Nat.mul_right_comm]
    rw [e1]
    generalize hi * 2 ^ s = H at *
    generalize lo * 2 ^ s = M at *
    generalize lo / 2 ^ (64 - s) = D at *
    omega
set_option maxRecDepth 100000 in
set_option maxHeartbeats 2000000 in
theorem div64_any (hi lo y : Nat) (w : World) (h : hi < y) (hy : y < 18446744073709551616) (hl : lo < 18446744073709551616) :
    Calls Try.prog 57 #[.int .u64 hi, .int .u64 lo, .int .u64 y] w fun e w' => e = .returned (.tuple #[.int .u64 (((hi * 18446744073709551616 + lo) / y : Nat) : Int), .int .u64 (((hi * 18446744073709551616 + lo) % y : Nat) : Int)]) ∧ Qt w w' := by
  have t0 : ((y : Int) == 0) = false := beq_eq_false_iff_ne.2 (by omega)
  have t1 : decide ((y : Int) ≤ (hi : Int)) = false := decide_eq_false (by omega)
  have K62 := Lib.hid (lead_nat y w hy (by omega))
  obtain ⟨b1, b2, b3, b4⟩ := bl_bounds y (by omega) hy
  have hs : 64 - Lib.bitLen y ≤ 63 := by omega
  have hN : ∃ Y U L a b d1 d0 : Nat, Norm hi lo y (64 - Lib.bitLen y) Y U L a b d1 d0 := by
    refine norm_of hi lo y _ h hl hs ?_ ?_
    · have := Nat.mul_le_mul_right (2 ^ (64 - Lib.bitLen y)) b3
      rw [← Nat.pow_add, show Lib.bitLen y - 1 + (64 - Lib.bitLen y) = 63 by omega] at this
      exact this
    · have := Nat.mul_lt_mul_of_pos_right b4 (show 0 < 2 ^ (64 - Lib.bitLen y) from Nat.pow_pos (by omega))
      rw [← Nat.pow_add, show Lib.bitLen y + (64 - Lib.bitLen y) = 64 by omega] at this
      exact this
  clear b1 b2 b3 b4
  generalize 64 - Lib.bitLen y = s at *
  obtain ⟨Y, U, L, a, b, d1, d0, hn⟩ := hN
  have HN := Lib.hid hn
  clear hn
  go_enter Try.func57, Try.ntmps57
  by_cases h0 : hi = 0
  · subst h0
    go_wp2
    go_quiet (fail)
    have E0 := Lib.hid (show IntKind.u64.wrap ((lo : Int) / (y : Int)) = (((0 * 18446744073709551616 + lo) / y : Nat) : Int) by
      rw [← Int.natCast_ediv, Nat.zero_mul, Nat.zero_add]
      exact wrap_u64_nat _ (Nat.lt_of_le_of_lt (Nat.div_le_self _ _) hl))
    have E0' := Lib.hid (show (lo : Int) % (y : Int) = (((0 * 18446744073709551616 + lo) % y : Nat) : Int) by
      rw [Nat.zero_mul, Nat.zero_add, Int.natCast_emod])
    go_wp2
    go_ret2
    exact ⟨by rw [← E0.out, ← E0'.out]; rfl, ⟨_, rfl⟩⟩
  · have t2 : ((hi : Int) == 0) = false := beq_eq_false_iff_ne.2 (by omega)
    go_upto_region 15 with (go_at_call 62; refine K62.out.mono ?_; rintro e w' ⟨rfl, rfl⟩)
    simp only [HN.out.e1, HN.out.e2, HN.out.e3, HN.out.e4, HN.out.e5, HN.out.e6, HN.out.e7]
    have ha := HN.out.aq
    have hy1 := HN.out.y1
    have ha0 : 0 < a := by omega
    have ha1 : a < 4294967296 := by have := HN.out.y2; omega
    have hd1 := HN.out.l1
    have hd0 := HN.out.l0
    have hu : U < 18446744073709551616 := Nat.lt_trans HN.out.u HN.out.y2
    have HD1 := Lib.hid (digz_start hy1 HN.out.y2 HN.out.u hd1)
    rw [← HN.out.aq] at HD1
    have HU1 := Lib.hid HN.out.u
    have E1 := Lib.hid (show IntKind.u64.wrap ((U : Int) / (a : Int)) = ((U / a : Nat) : Int) by rw [← Int.natCast_ediv]; exact wrap_u64_nat _ (Nat.lt_of_le_of_lt (Nat.div_le_self _ _) hu))
    have E2 := Lib.hid (show IntKind.u64.wrap ((U : Int) - IntKind.u64.wrap (((U / a : Nat) : Int) * (a : Int))) = ((U % a : Nat) : Int) by
      have h1 : U / a * a ≤ U := Nat.div_mul_le_self _ _
      have h2 := Nat.div_add_mod U a
      rw [Nat.mul_comm] at h2
      rw [← Int.natCast_mul, wrap_u64_nat _ (by omega), IntKind.wrap_u64]
      generalize U / a * a = X at *
      have := Nat.mod_lt U ha0
      omega)
    have HAE := Lib.hid (show (a : Int) = ((Y / 4294967296 : Nat) : Int) by rw [HN.out.aq])
    have HBE := Lib.hid (show (b : Int) = ((Y % 4294967296 : Nat) : Int) by rw [HN.out.bq])
    have hbi0 : (0 : Int) ≤ (b : Int) := by omega
    have hbi1 : (b : Int) ≤ 4294967295 := by have := HN.out.bq; omega
    have hai0 : (1 : Int) ≤ (a : Int) := by omega
    have hai1 : (a : Int) ≤ 4294967295 := by omega
    have hd1i0 : (0 : Int) ≤ (d1 : Int) := by omega
    have hd1i1 : (d1 : Int) ≤ 4294967295 := by omega
    have hd0i0 : (0 : Int) ≤ (d0 : Int) := by omega
    have hd0i1 : (d0 : Int) ≤ 4294967295 := by omega
    obtain ⟨Q1, HQ1'⟩ : ∃ Q : Int, Q = (((U * 4294967296 + d1) / Y : Nat) : Int) := ⟨_, rfl⟩
    have HQ1 := Lib.hid HQ1'
    clear ha HQ1'
    go_upto_block 0 with fail
    simp only [E1.out, E2.out]
    generalize ((U / a : Nat) : Int) = q1 at HD1 ⊢
    generalize ((U % a : Nat) : Int) = r1 at HD1 ⊢
    clear E1 E2
    have HA2 := Lib.hid ha0
    clear ha0 ha1 hd1 hd0 hy hl h0 hy1
    generalize hai : (a : Int) = ai at HAE hai0 hai1 ⊢
    generalize hbi : (b : Int) = bi at HBE hbi0 hbi1 ⊢
    generalize hd1i : (d1 : Int) = d1i at hd1i0 hd1i1 ⊢
    generalize hd0i : (d0 : Int) = d0i at hd0i0 hd0i1 ⊢
    have HAI := Lib.hid hai
    have HBI := Lib.hid hbi
    have Hd1I := Lib.hid hd1i
    have Hd0I := Lib.hid hd0i
    clear hai hbi hd1i hd0i
    go_cut [15, 16] (fun sq sr wc => sq = .int .u64 Q1 ∧ w = wc)
    case first =>
      go_wp2
      go_loopw [15, 16] (fun sq sr wr => ∃ q r : Int, sq = .int .u64 q ∧ sr = .int .u64 r ∧ DigZ Y U d1 q r ∧ w = wr) (fun sq _ _ => (intOf sq).toNat)
      case atStart => exact ⟨_, _, rfl, rfl, HD1.out, rfl⟩
      case round =>
        obtain ⟨q, r, rfl, rfl, hd, rfl⟩ := hrel
        have HD := Lib.hid hd
        have hq0 := hd.q0
        have hr0 := hd.r0
        have hq1 := hd.q1
        have hr1 := hd.r1
        clear hd
        obtain ⟨P, hP⟩ : ∃ P : Int, P = q * bi := ⟨_, rfl⟩
        have HP := Lib.hid hP
        clear hP
        by_cases c1 : 4294967296 ≤ q
        · obtain ⟨g0, g1, g2⟩ := digz_step HD.out HU1.out HN.out.l1 HAE.out HBE.out (.inl c1)
          have G1 := Lib.hid g1
          have G2 := Lib.hid g2
          clear g1 g2
          by_cases c3 : 4294967296 ≤ r + ai
          · have HE := Lib.hid (G2.out c3)
            go_wp2
            go_meet
            exact ⟨by rw [HE.out, HQ1.out], rfl⟩
          · have HE := Lib.hid (G1.out (by omega))
            go_wp2
            go_roundw
            case rel => exact ⟨q - 1, r + ai, rfl, rfl, HE.out, by trivial⟩
            case measure => simp [intOf]; omega
        · have hPl : 0 ≤ P ∧ P ≤ 18446744065119617025 := by
            have hb0 := hbi0
            have hb1 := hbi1
            rw [HP.out]
            exact ⟨Int.mul_nonneg hq0 hb0, Int.le_trans (Int.mul_le_mul_of_nonneg_left hb1 hq0) (Int.mul_le_mul_of_nonneg_right (show q ≤ 4294967295 by omega) (by omega))⟩
          obtain ⟨hP0, hP1⟩ := hPl
          have EP : IntKind.u64.wrap (q * bi) = P := by
            rw [← HP.out, IntKind.wrap_u64]; omega
          by_cases c2 : 4294967296 * r + d1i < P
          · obtain ⟨g0, g1, g2⟩ := digz_step HD.out HU1.out HN.out.l1 HAE.out HBE.out (.inr (by rw [← HP.out, Hd1I.out]; exact c2))
            have G1 := Lib.hid g1
            have G2 := Lib.hid g2
            clear g1 g2
            by_cases c3 : 4294967296 ≤ r + ai
            · have HE := Lib.hid (G2.out c3)
              go_wp2
              go_meet
              exact ⟨by rw [HE.out, HQ1.out], rfl⟩
            · have HE := Lib.hid (G1.out (by omega))
              go_wp2
              go_roundw
              case rel => exact ⟨q - 1, r + ai, rfl, rfl, HE.out, by trivial⟩
              case measure => simp [intOf]; omega
          · have HE := Lib.hid (digz_no HD.out HU1.out HBE.out (by rw [← HP.out, Hd1I.out]; exact c2))
            go_wp2
            go_meet
            exact ⟨by rw [HE.out, HQ1.out], rfl⟩
    case rest =>
    obtain ⟨rfl, hw⟩ := hcut
    subst hw
    have HU2L := Lib.hid (Nat.mod_lt (U * 4294967296 + d1) (show 0 < Y by have := HN.out.y1; omega))
    have HDM := Lib.hid (show Q1 * (Y : Int) + (((U * 4294967296 + d1) % Y : Nat) : Int) = (U : Int) * 4294967296 + d1i by
      rw [HQ1.out, ← Hd1I.out, ← Int.natCast_mul, ← Int.natCast_add, Nat.mul_comm, Nat.div_add_mod, Int.natCast_add, Int.natCast_mul]; rfl)
    have HU2E : ∃ U2 : Nat, U2 = (U * 4294967296 + d1) % Y := ⟨_, rfl⟩
    obtain ⟨U2, hU2⟩ := HU2E
    rw [← hU2] at HU2L HDM
    have HU2 := Lib.hid hU2
    have HY2 := Lib.hid HN.out.y2
    have E3 := Lib.hid (show IntKind.u64.wrap (IntKind.u64.wrap (IntKind.u64.wrap ((U : Int) * 4294967296) + d1i) - IntKind.u64.wrap (Q1 * (Y : Int))) = (U2 : Int) by
      have h1 := HDM.out
      have h2 := HU2L.out
      have h3 := HY2.out
      simp only [IntKind.wrap_u64]
      generalize Q1 * (Y : Int) = Z at *
      omega)
    have HA1 := Lib.hid (show (1 : Int) ≤ ai from hai0)
    have E4 := Lib.hid (show IntKind.u64.wrap ((U2 : Int).tdiv ai) = ((U2 / a : Nat) : Int) by
      rw [← HAI.out, ← Int.ofNat_tdiv]
      exact wrap_u64_nat _ (Nat.lt_of_le_of_lt (Nat.div_le_self _ _) (Nat.lt_trans HU2L.out HY2.out)))
    have E4' := Lib.hid (show IntKind.u64.wrap ((U2 : Int) / ai) = ((U2 / a : Nat) : Int) by
      rw [← HAI.out, ← Int.natCast_ediv]
      exact wrap_u64_nat _ (Nat.lt_of_le_of_lt (Nat.div_le_self _ _) (Nat.lt_trans HU2L.out HY2.out)))
    have E5 := Lib.hid (show IntKind.u64.wrap ((U2 : Int) - IntKind.u64.wrap (((U2 / a : Nat) : Int) * ai)) = ((U2 % a : Nat) : Int) by
      have h1 : U2 / a * a ≤ U2 := Nat.div_mul_le_self _ _
      have h2 := Nat.div_add_mod U2 a
      have h3 := HU2L.out
      have h4 := HY2.out
      have h5 := Nat.mod_lt U2 HA2.out
      have h6 : a ≤ Y := by rw [HN.out.aq]; exact Nat.div_le_self _ _
      rw [Nat.mul_comm] at h2
      rw [← HAI.out, ← Int.natCast_mul, wrap_u64_nat _ (by omega), IntKind.wrap_u64]
      generalize U2 / a * a = X at *
      generalize U2 % a = R at *
      omega)
    have HD2 := Lib.hid (digz_start HN.out.y1 HN.out.y2 HU2L.out HN.out.l0)
    rw [← HN.out.aq] at HD2
    obtain ⟨Q2, HQ2'⟩ : ∃ Q : Int, Q = (((U2 * 4294967296 + d0) / Y : Nat) : Int) := ⟨_, rfl⟩
    have HQ2 := Lib.hid HQ2'
    clear HQ2' hU2
    go_upto_block 2 with fail
    simp only [E3.out, E4.out, E4'.out, E5.out]
    generalize ((U2 / a : Nat) : Int) = q2 at HD2 ⊢
    generalize ((U2 % a : Nat) : Int) = r2 at HD2 ⊢
    clear E3 E4 E4' E5
    have HU2' := HU2L
    go_cut [18, 16] (fun sq sr wc => sq = .int .u64 Q2 ∧ w = wc)
    case first =>
      go_wp2
      go_loopw [18, 16] (fun sq sr wr => ∃ q r : Int, sq = .int .u64 q ∧ sr = .int .u64 r ∧ DigZ Y U2 d0 q r ∧ w = wr) (fun sq _ _ => (intOf sq).toNat)
      case atStart => exact ⟨_, _, rfl, rfl, HD2.out, rfl⟩
      case round =>
        obtain ⟨q, r, rfl, rfl, hd, rfl⟩ := hrel
        have HD := Lib.hid hd
        have hq0 := hd.q0
        have hr0 := hd.r0
        have hq1 := hd.q1
        have hr1 := hd.r1
        clear hd
        obtain ⟨P, hP⟩ : ∃ P : Int, P = q * bi := ⟨_, rfl⟩
        have HP := Lib.hid hP
        clear hP
        by_cases c1 : 4294967296 ≤ q
        · obtain ⟨g0, g1, g2⟩ := digz_step HD.out HU2L.out HN.out.l0 HAE.out HBE.out (.inl c1)
          have G1 := Lib.hid g1
          have G2 := Lib.hid g2
          clear g1 g2
          by_cases c3 : 4294967296 ≤ r + ai
          · have HE := Lib.hid (G2.out c3)
            go_wp2
            go_meet
            exact ⟨by rw [HE.out, HQ2.out], rfl⟩
          · have HE := Lib.hid (G1.out (by omega))
            go_wp2
            go_roundw
            case rel => exact ⟨q - 1, r + ai, rfl, rfl, HE.out, by trivial⟩
            case measure => simp [intOf]; omega
        · have hPl : 0 ≤ P ∧ P ≤ 18446744065119617025 := by
            have hb0 := hbi0
            have hb1 := hbi1
            rw [HP.out]
            exact ⟨Int.mul_nonneg hq0 hb0, Int.le_trans (Int.mul_le_mul_of_nonneg_left hb1 hq0) (Int.mul_le_mul_of_nonneg_right (show q ≤ 4294967295 by omega) (by omega))⟩
          obtain ⟨hP0, hP1⟩ := hPl
          have EP : IntKind.u64.wrap (q * bi) = P := by
            rw [← HP.out, IntKind.wrap_u64]; omega
          by_cases c2 : 4294967296 * r + d0i < P
          · obtain ⟨g0, g1, g2⟩ := digz_step HD.out HU2L.out HN.out.l0 HAE.out HBE.out (.inr (by rw [← HP.out, Hd0I.out]; exact c2))
            have G1 := Lib.hid g1
            have G2 := Lib.hid g2
            clear g1 g2
            by_cases c3 : 4294967296 ≤ r + ai
            · have HE := Lib.hid (G2.out c3)
              go_wp2
              go_meet
              exact ⟨by rw [HE.out, HQ2.out], rfl⟩
            · have HE := Lib.hid (G1.out (by omega))
              go_wp2
              go_roundw
              case rel => exact ⟨q - 1, r + ai, rfl, rfl, HE.out, by trivial⟩
              case measure => simp [intOf]; omega
          · have HE := Lib.hid (digz_no HD.out HU2L.out HBE.out (by rw [← HP.out, Hd0I.out]; exact c2))
            go_wp2
            go_meet
            exact ⟨by rw [HE.out, HQ2.out], rfl⟩
    case rest =>
    obtain ⟨rfl, hw⟩ := hcut
    subst hw
    have HR2 := Lib.hid (Nat.mod_lt (U2 * 4294967296 + d0) (show 0 < Y by have := HN.out.y1; omega))
    have HDM2 := Lib.hid (show Q2 * (Y : Int) + (((U2 * 4294967296 + d0) % Y : Nat) : Int) = (U2 : Int) * 4294967296 + d0i by
      rw [HQ2.out, ← Hd0I.out, ← Int.natCast_mul, ← Int.natCast_add, Nat.mul_comm, Nat.div_add_mod, Int.natCast_add, Int.natCast_mul]; rfl)
    obtain ⟨hT1, hT2⟩ := two_digits (U := U) (d0 := d0) (d1 := d1) (show 0 < Y by have := HN.out.y1; omega)
    rw [HN.out.all, HN.out.yq, (shift_div _ _ _).1, ← HN.out.yq, ← HU2.out] at hT1
    have hT3 : (hi * 18446744073709551616 + lo) % y = (U2 * 4294967296 + d0) % Y / 2 ^ s := by
      rw [← HU2.out] at hT2
      rw [← hT2, HN.out.all, HN.out.yq, (shift_div _ _ _).2]
    have HT1 := Lib.hid hT1
    have HT3 := Lib.hid hT3
    have HL1 := Lib.hid (dig_low HU1.out HN.out.l1)
    have HL2 := Lib.hid (dig_low HU2L.out HN.out.l0)
    clear hT1 hT2 hT3
    have E6 := Lib.hid (show IntKind.u64.wrap (IntKind.u64.wrap (Q1 * 4294967296) + Q2) = (((hi * 18446744073709551616 + lo) / y : Nat) : Int) by
      have h1 := HL1.out
      have h2 := HL2.out
      rw [HT1.out, HQ1.out, HQ2.out]
      exact e6_of _ _ h1 h2)
    have E7 := Lib.hid (show IntKind.u64.wrap (IntKind.u64.wrap (IntKind.u64.wrap ((U2 : Int) * 4294967296) + d0i) - IntKind.u64.wrap (Q2 * (Y : Int))) / 2 ^ s = (((hi * 18446744073709551616 + lo) % y : Nat) : Int) by
      have h1 := HDM2.out
      have h2 := HR2.out
      have h3 := HY2.out
      rw [HT3.out]
      have : IntKind.u64.wrap (IntKind.u64.wrap (IntKind.u64.wrap ((U2 : Int) * 4294967296) + d0i) - IntKind.u64.wrap (Q2 * (Y : Int))) = (((U2 * 4294967296 + d0) % Y : Nat) : Int) := by
        exact e7_of _ _ _ _ h1 (Nat.lt_trans h2 h3)
      rw [this, Int.natCast_ediv, Int.natCast_pow]; rfl)
    go_wp2
    go_ret2
    exact ⟨by rw [← E6.out, ← E7.out]; rfl, Qt.refl _⟩
end Go.Proofs.Ytdkfaicmdbhonaa
