/-
  Reals: from chapter 3's Pr, what is needed here.
-/
import Derived.Test.YtndhlgbpfkidbaaRPo
import Derived.Deep.DeepCutAuto
import Derived.Deep.CutBlock
namespace Go.Proofs.Ytndhlgbpfkidbaa.n03
open Go.RowKit Go.K Go.R
set_option linter.unusedVariables false
set_option linter.unusedSimpArgs false
/-- What a sum is rounded to. -/
def rV (z : Int) : Nat := if z = 0 then 0 else wd (decide (z < 0)) (Ieee.single.nearest false z.natAbs (-149))
theorem one_pos : 4607182418800017408 = dS false 4607182418800017408 := by unfold dS; rw [if_neg (by decide)]
theorem one_neg : 13830554455654793216 = dS true 4607182418800017408 := by unfold dS; rw [if_pos rfl]
theorem small_sum {z : Int} (h : z.natAbs.log2 ≤ 270) : -(4294967296 ^ 11) < z ∧ z < 4294967296 ^ 11 := by
  have h1 : z.natAbs < 2 ^ (z.natAbs.log2 + 1) := Nat.lt_log2_self
  have h2 : ∀ s, s = 32 * 11 → (2 : Nat) ^ (z.natAbs.log2 + 1) ≤ 2 ^ s := fun s hs => Nat.pow_le_pow_right (by decide) (by omega)
  have h3 : ∀ s, s = 32 * 11 → (2 : Nat) ^ s = 4294967296 ^ 11 := fun s hs => by
    have e2 : (4294967296 : Nat) = 2 ^ 32 := by decide
    rw [e2, ← Nat.pow_mul, hs]
  obtain ⟨s, hs⟩ : ∃ s, s = 32 * 11 := ⟨_, rfl⟩
  have h4 := h2 s hs
  rw [h3 s hs] at h4
  have e : ((4294967296 : Int) ^ 11) = ((4294967296 ^ 11 : Nat) : Int) := by simp
  rw [e]
  generalize (4294967296 : Nat) ^ 11 = Q at *
  omega
theorem or_bit (m b : Nat) (hb : b < 2) (hm : m < 9223372036854775808) : bits .or .u64 ((2 * m : Nat) : Int) (b : Int) = ((2 * m + b : Nat) : Int) := by
  show IntKind.u64.wrap (((BitVec.ofInt 64 ((2 * m : Nat) : Int)) ||| (BitVec.ofInt 64 (b : Int))).toNat : Int) = _
  have h1 : (BitVec.ofInt 64 ((2 * m : Nat) : Int) ||| BitVec.ofInt 64 (b : Int)).toNat = 2 * m + b := by
    rw [BitVec.toNat_or, BitVec.ofInt_natCast, BitVec.ofInt_natCast, BitVec.toNat_ofNat, BitVec.toNat_ofNat]
    have p64 : (2 : Nat) ^ 64 = 18446744073709551616 := by decide
    rw [p64, Nat.mod_eq_of_lt (by omega), Nat.mod_eq_of_lt (by omega)]
    have := Nat.two_pow_add_eq_or_of_lt (i := 1) (b := b) hb m
    rw [Nat.pow_one] at this
    exact this.symm
  rw [h1, IntKind.wrap_u64]; omega
theorem more_tb (v j : Nat) : more v (2 ^ j) = ((decide (0 < j) && (v / 2 ^ (j - 1) % 2 == 1)) && (decide (v % 2 ^ (j - 1) ≠ 0) || v / 2 ^ j % 2 == 1)) := by
  cases j with
  | zero => rw [more_zero]; rfl
  | succ q =>
    rw [more_bits, decide_eq_true (Nat.succ_pos q), Bool.true_and]; rfl
theorem kept_num (v : Nat) (h0 : 0 < v) : 4503599627370496 ≤ keptV v * 2 ^ (52 - (keptV v).log2) ∧ keptV v * 2 ^ (52 - (keptV v).log2) < 9007199254740992 ∧ (keptV v).log2 < 25 ∧ floatOfInt .f64 (keptV v : Int) = dW ((keptV v).log2 + 1022) (keptV v * 2 ^ (52 - (keptV v).log2)) := by
  have h1 := keptV_le v h0
  refine dnat (keptV v) ?_ (by omega)
  by_cases hs : 0 < v.log2 - 23
  · have := keptV_ge v h0 hs; omega
  · have e : v.log2 - 23 = 0 := by omega
    unfold keptV
    rw [e, Nat.pow_zero, Nat.div_one]; omega
/-- All that a walk wants of a sum's carries. -/
theorem carries (g : Nat) (L : List Int) (w : World) (hL : Lm w g L) (hb : ∀ j, -1152921504606846976 ≤ L.getD j 0 ∧ L.getD j 0 ≤ 1152921504606846976) (hs : (SL L).natAbs.log2 ≤ 270) :
    ∃ (M : List Int) (F : Nat → List Int) (N : List Int), Calls Try.prog 89 #[.pointer (some ⟨g, 0, none⟩)] w (fun r w' => r = .returned (.tuple #[]) ∧ Lm w' g M ∧ Only (fun n => n = g) w w') ∧
      (0 ≤ M.getD 10 0 → PosL M ∧ SL M = SL L) ∧ M.length = 11 ∧ (∀ j, -9000000000000000000 ≤ M.getD j 0 ∧ M.getD j 0 ≤ 9000000000000000000) ∧ F 0 = M ∧ (∀ k, F (k + 1) = (F k).set k (-(M.getD k 0))) ∧ (∀ k, k < 11 → (F k).getD k 0 = M.getD k 0) ∧ (∀ k, (F k).length = 11) ∧
      (M.getD 10 0 < 0 → SL L < 0 ∧ PosL N ∧ SL N = -SL L ∧ ∀ W, Lm W g (F 11) → Calls Try.prog 89 #[.pointer (some ⟨g, 0, none⟩)] W (fun r w' => r = .returned (.tuple #[]) ∧ Lm w' g N ∧ Only (fun n => n = g) W w')) := by
  obtain ⟨hs1, hs2⟩ := small_sum hs
  have hlen : (carryL 10 L).length = 11 := (carryL_len 10 L).trans hL.1
  refine ⟨carryL 10 L, fun k => negL k (carryL 10 L), carryL 10 (negL 11 (carryL 10 L)), carry_any g L w hL (fun j => by have := hb j; omega), sum_pos L hL.1 hs2, hlen, fun j => ?_, rfl, fun k => rfl, fun k hk => ?_, fun k => (negL_len _ _).trans hlen, fun h => ?_⟩
  · have := carryL_rng L hL.1 (fun j => by have := hb j; omega) 10 (by decide) j
    omega
  · rw [negL_get _ k (by omega), if_neg (by omega)]
  · obtain ⟨h1, h2, h3⟩ := sum_neg L hL.1 hs1 h
    obtain ⟨h4, h5⟩ := sum_turn L hL.1 hs1 h
    exact ⟨h1, h4, h5, fun W hW => carry_any g _ W hW (fun j => by have := h3 j; omega)⟩
set_option maxRecDepth 100000 in
set_option maxHeartbeats 1000000 in
theorem round_any (g : Nat) (L : List Int) (w : World) (hL : Lm w g L) (hb : ∀ j, -1152921504606846976 ≤ L.getD j 0 ∧ L.getD j 0 ≤ 1152921504606846976) (hs : (SL L).natAbs.log2 ≤ 270) :
    Calls Try.prog 63 #[.pointer (some ⟨g, 0, none⟩)] w fun r w' => r = .returned (.float .f32 (rV (SL L))) ∧ Only (fun n => n = g) w w' := by
  obtain ⟨M, F, N, hC, hP, hMl, hMr, hF0, hFs, hFg, hFl, hN⟩ := carries g L w hL hb hs
  have HS := Lib.hid hs
  have HC := Lib.hid hC
  have HP := Lib.hid hP
  have HMR := Lib.hid hMr
  have HF0 := Lib.hid hF0
  have HFS := Lib.hid hFs
  have HFG := Lib.hid hFg
  have HFL := Lib.hid hFl
  have HN := Lib.hid hN
  clear hL hb hs hC hP hMl hMr hF0 hFs hFg hFl hN
  generalize SL L = z at *
  go_enter Try.func63, Try.ntmps63
  go_upto_region 3 with (go_at_call 89; refine HC.out.mono ?_; rintro e w1 ⟨rfl, hm1, ho1⟩)
  have HM := Lib.hid hm1
  have HO := Lib.hid ho1
  clear hm1 ho1
  have z2 : w1.cell? ⟨g, 10, none⟩ = some (.int .i64 (M.getD 10 0)) := HM.out.cell2 10 (by decide)
  generalize M.getD 10 0 = A at HP HN z2
  obtain ⟨tb, htb⟩ : ∃ tb, decide (A < 0) = tb := ⟨_, rfl⟩
  have HTB := Lib.hid htb
  go_upto_if 18 with fail
  clear htb
  go_cut [3] (fun s3 wc => ∃ (s : Bool) (P : List Int), s3 = .float .f64 (dS s 4607182418800017408) ∧ Lm wc g P ∧ PosL P ∧ z = (if s then -SL P else SL P) ∧ (s = true → z < 0) ∧ Only (fun n => n = g) w wc)
  case first =>
    cases tb
    case true =>
      have hneg : A < 0 := of_decide_eq_true HTB.out
      have HN2 := Lib.hid (HN.out hneg)
      have HM0 := Lib.hid (show Lm w1 g (F 0) by rw [HF0.out]; exact HM.out)
      clear hneg HN HP z2 HC
      go_wp2
      go_loopw [4, 19] (fun x4 ii V => ∃ k : Nat, k ≤ 11 ∧ ii = .int .i64 k ∧ Lm V g (F k) ∧ Only (fun n => n = g) w V) (fun _ ii _ => 11 - (intOf ii).toNat)
      case atStart => exact ⟨0, by omega, rfl, HM0.out, HO.out⟩
      case round =>
        obtain ⟨k, hk, rfl, hm, ho⟩ := hrel
        have HMk := Lib.hid hm
        have HOk := Lib.hid ho
        clear hm ho
        by_cases hlt : k < 11
        · have t0 : decide ((k : Int) < 11) = true := decide_eq_true (by omega)
          have t0n : decide (k < 11) = true := decide_eq_true hlt
          have zk := HMk.out.cell2 k hlt
          rw [HFG.out k hlt] at zk
          have hwk : IntKind.i64.wrap ((k : Int) + 1) = ((k + 1 : Nat) : Int) := by rw [IntKind.wrap_i64]; omega
          have ik : (k : Int) < 11 := by omega
          have hr := HMR.out k
          have hwn : IntKind.i64.wrap (-(M.getD k 0)) = -(M.getD k 0) := by rw [IntKind.wrap_i64]; omega
          have HFK := Lib.hid (HFS.out k)
          have HL1 := Lib.hid (HFL.out k)
          obtain ⟨k1, hk1⟩ : ∃ k1, k1 = k + 1 := ⟨_, rfl⟩
          rw [← hk1] at hwk HFK
          have HK1 := Lib.hid hk1
          generalize M.getD k 0 = a at *
          generalize F k = X at *
          clear hr hk1
          go_wp2
          go_still_tail 10, (by kernel_rfl)
          refine wpList_store_lit 2 g k (iL (X.set k (-a))).toArray (.int .i64 (-a)) HMk.out.2 szL (by show k + 1 ≤ (iL X).toArray.size; have := HL1.out; simp [iL]; omega) rfl (iL_set X k (-a) (by have := HL1.out; omega)) ?_ ?_ ?_
          · rfl
          · rfl
          intro V1 hp1
          have HM1 := Lib.hid (show Lm V1 g (F k1) by rw [HFK.out]; exact lm_put HL1.out hp1)
          have HO1 := Lib.hid (show Only (fun n => n = g) w V1 from (HOk.out.trans (Only.of_below ((Qt.drewN wr 1).below wr.heap.size)) (fun b hb => .inl hb)).trans hp1.only (fun b hb => .inl hb))
          clear hp1 zk
          go_wp2
          go_roundw
          case rel => exact ⟨k1, by have := HK1.out; omega, by go_num, HM1.out, HO1.out⟩
          case measure => have := HK1.out; simp [intOf]; omega
        · have t0 : decide ((k : Int) < 11) = false := decide_eq_false (by omega)
          have t0n : decide (k < 11) = false := decide_eq_false hlt
          have HE := Lib.hid (show Lm wr g (F 11) by have h := HMk.out; rw [show k = 11 by omega] at h; exact h)
          go_wp2_with (go_at_call 89; refine (HN2.out.2.2.2 _ HE.out).mono ?_; rintro e w3 ⟨rfl, hm3, ho3⟩)
          go_meet
          exact ⟨true, N, congrArg (Value.float .f64) one_neg, hm3, HN2.out.2.1, by rw [if_pos rfl, HN2.out.2.2.1]; omega, fun _ => HN2.out.1, HOk.out.trans ho3 (fun b hb => .inl hb)⟩
    case false =>
      have hneg : ¬ A < 0 := of_decide_eq_false HTB.out
      have HP2 := Lib.hid (HP.out (by omega))
      clear hneg HP HN z2
      go_wp2
      go_meet
      exact ⟨false, M, congrArg (Value.float .f64) one_pos, HM.out, HP2.out.1, by rw [if_neg (by decide), HP2.out.2], (fun h => by cases h), HO.out⟩
  case rest =>
    obtain ⟨s, P, rfl, hm, hp, hz, hzs, ho⟩ := hcut
    have HM2 := Lib.hid hm
    have HO2 := Lib.hid ho
    have HD := Lib.hid (fun k hk => nL_limb hp k hk)
    have HPD := Lib.hid hp.2
    have HBIT := Lib.hid (fun (i : Nat) (hi : i < 352) (W : World) (hW : Lm W g P) => by
      have h := bit_any g i P W hi hW (hp.2 (i / 32) (by omega)).1 (by have := (hp.2 (i / 32) (by omega)).2; omega)
      rw [bit_nL hp i hi] at h
      exact h)
    have HTA := Lib.hid (topV_all hp)
    have HLG := Lib.hid (fun h => log2_nL hp h)
    have HZ := Lib.hid (show z = (if s then -(nL P : Int) else (nL P : Int)) by
      have h := SL_lt P (fun j hj => hp.2 j (by rw [← hp.1]; exact hj))
      rw [hz]; unfold nL; split <;> omega)
    have HZS := Lib.hid hzs
    clear hm ho hp hz hzs HMR HF0 HFS HFG HFL HM HO HTB HC HP HN z2
    generalize nL P = v at *
    go_wp2
    go_loopw [5, 6, 35] (fun x5 x6 ii V => ∃ k : Nat, k ≤ 11 ∧ ii = .int .i64 k ∧ x5 = .int .i64 (topV v k) ∧ V = wc) (fun _ _ ii _ => 11 - (intOf ii).toNat)
    case atStart => exact ⟨0, by omega, rfl, by unfold topV; rw [Nat.pow_zero, Nat.mod_one]; rfl, rfl⟩
    case round =>
      obtain ⟨k, hk, rfl, rfl, rfl⟩ := hrel
      by_cases hlt : k < 11
      · have t0 : decide ((k : Int) < 11) = true := decide_eq_true (by omega)
        have t0n : decide (k < 11) = true := decide_eq_true hlt
        have ik : (k : Int) < 11 := by omega
        have zk := HM2.out.cell2 k hlt
        obtain ⟨h1, h2⟩ := HPD.out k hlt
        have h3 := HD.out k hlt
        obtain ⟨d, hd⟩ : ∃ d : Nat, P.getD k 0 = (d : Int) := ⟨_, (Int.toNat_of_nonneg h1).symm⟩
        rw [hd] at zk h2 h3
        have h4 : v / 4294967296 ^ k % 4294967296 = d := by rw [← h3]; rfl
        have hwk : IntKind.i64.wrap ((k : Int) + 1) = ((k + 1 : Nat) : Int) := by rw [IntKind.wrap_i64]; omega
        obtain ⟨k1, hk1⟩ : ∃ k1, k1 = k + 1 := ⟨_, rfl⟩
        rw [← hk1] at hwk
        have HK1 := Lib.hid hk1
        have H4 := Lib.hid h4
        clear h1 h3 hd h4 hk1
        by_cases hd0 : d = 0
        · have tz : ((d : Int) != 0) = false := by simp [hd0]
          have HT1 := Lib.hid (topV_zero v k d H4.out hd0)
          clear hd0
          go_wp2
          go_roundw
          case rel => exact ⟨k1, by have := HK1.out; omega, by go_num, by rw [HK1.out, HT1.out], trivial⟩
          case measure => have := HK1.out; simp [intOf]; omega
        · have tz : ((d : Int) != 0) = true := by simp [hd0]
          have hd64 : IntKind.u64.wrap (d : Int) = (d : Int) := by rw [IntKind.wrap_u64]; omega
          obtain ⟨b1, b2, b3, b4⟩ := bl_bounds d (by omega) (by omega)
          obtain ⟨b, hb⟩ : ∃ b, Lib.bitLen d = b + 1 := ⟨Lib.bitLen d - 1, by omega⟩
          rw [hb] at b1 b2 b3 b4
          have HT1 := Lib.hid (topV_new v k d b H4.out b3 b4)
          obtain ⟨lz, hlz⟩ : ∃ lz : Nat, lz = 64 - Lib.bitLen d := ⟨_, rfl⟩
          obtain ⟨k32, hk32⟩ : ∃ k32 : Nat, k32 = 32 * k := ⟨_, rfl⟩
          obtain ⟨k63, hk63⟩ : ∃ k63 : Nat, k63 = 32 * k + 63 := ⟨_, rfl⟩
          obtain ⟨tp, htp⟩ : ∃ tp : Nat, tp = 32 * k + b := ⟨_, rfl⟩
          rw [← htp] at HT1
          have w1 : IntKind.i64.wrap (32 * (k : Int)) = (k32 : Int) := by rw [IntKind.wrap_i64]; omega
          have w2 : IntKind.i64.wrap ((k32 : Int) + 63) = (k63 : Int) := by rw [IntKind.wrap_i64]; omega
          have w3 : IntKind.i64.wrap ((k63 : Int) - (lz : Int)) = (tp : Int) := by rw [IntKind.wrap_i64]; omega
          have HLZ := Lib.hid (fun W => lead_nat d W (by omega) (by omega))
          rw [← hlz] at HLZ
          clear hd0 hb b1 b2 b3 b4 hlz hk32 hk63 htp
          go_wp2_with (go_at_call 90; refine (HLZ.out _).mono ?_; rintro e w9 ⟨rfl, rfl⟩)
          go_roundw
          case rel => exact ⟨k1, by have := HK1.out; omega, by go_num, by rw [HK1.out, HT1.out], trivial⟩
          case measure => have := HK1.out; simp [intOf]; omega
      · have t0 : decide ((k : Int) < 11) = false := decide_eq_false (by omega)
        have t0n : decide (k < 11) = false := decide_eq_false hlt
        have hta := HTA.out
        rw [show 11 = k by omega] at hta
        by_cases hv0 : v = 0
        · rw [if_pos hv0] at hta
          have HR := Lib.hid (show rV z = 0 by unfold rV; rw [if_pos]; rw [HZ.out, hv0]; cases s <;> rfl)
          clear hv0 hlt hk
          go_wp2
          go_ret
          exact ⟨by rw [HR.out]; rfl, HO2.out⟩
        · rw [if_neg hv0] at hta
          obtain ⟨l, hl⟩ : ∃ l, l = v.log2 := ⟨_, rfl⟩
          have hl2 := HLG.out hv0
          rw [← hl] at hta hl2
          obtain ⟨sh, hsh⟩ : ∃ sh, sh = l - 23 := ⟨_, rfl⟩
          have w1 : IntKind.i64.wrap ((l : Int) - 23) = (l : Int) - 23 := by rw [IntKind.wrap_i64]; omega
          have w2 : (if 23 < (l : Int) then (l : Int) - 23 else 0) = (sh : Int) := by split <;> omega
          have t1 : decide ((l : Int) < 0) = false := decide_eq_false (by omega)
          have HV0 := Lib.hid hv0
          have HLV := Lib.hid hl
          have HSH := Lib.hid hsh
          rw [hta]
          clear hv0 hlt hk hl hsh hta
          go_wp2
          go_loopw [8, 9] (fun x8 x9 V => ∃ j : Nat, sh ≤ j ∧ j ≤ l + 1 ∧ x9 = .int .i64 ((j : Int) - 1) ∧ x8 = .int .u64 ((v / 2 ^ j : Nat) : Int) ∧ V = wr) (fun _ x9 _ => (intOf x9 + 1).toNat)
          case atStart =>
            refine ⟨l + 1, by have := HSH.out; omega, by omega, congrArg (Value.int .i64) (by omega), ?_, rfl⟩
            rw [Nat.div_eq_of_lt (by rw [HLV.out]; exact Nat.lt_log2_self)]; rfl
          case round =>
            obtain ⟨j, hj1, hj2, rfl, rfl, rfl⟩ := hrel
            by_cases hlt : sh < j
            · obtain ⟨i, rfl⟩ : ∃ i, j = i + 1 := ⟨j - 1, by omega⟩
              have e1 : ((i + 1 : Nat) : Int) - 1 = (i : Int) := by omega
              rw [e1]
              have t2 : decide ((sh : Int) ≤ (i : Int)) = true := decide_eq_true (by omega)
              have t2n : decide (sh ≤ i) = true := decide_eq_true (by omega)
              have HB1 := Lib.hid (HBIT.out i (by omega) wr HM2.out)
              have HST := Lib.hid (bits_step v i)
              have HSM := Lib.hid (show v / 2 ^ (i + 1) < 16777216 by
                rw [Nat.div_lt_iff_lt_mul (Nat.two_pow_pos _)]
                have h1 : v < 2 ^ (l + 1) := by rw [HLV.out]; exact Nat.lt_log2_self
                have h2 : (2 : Nat) ^ (l + 1) ≤ 2 ^ 24 * 2 ^ (i + 1) := by
                  rw [← Nat.pow_add]; exact Nat.pow_le_pow_right (by decide) (by have := HSH.out; omega)
                have h3 : (2 : Nat) ^ 24 = 16777216 := by decide
                rw [h3] at h2
                exact Nat.lt_of_lt_of_le h1 h2)
              have w3 : IntKind.i64.wrap ((i : Int) - 1) = (i : Int) - 1 := by rw [IntKind.wrap_i64]; omega
              have HI := Lib.hid (show sh ≤ i ∧ i + 1 ≤ l + 1 from ⟨by omega, hj2⟩)
              clear hlt hj1 hj2 e1
              obtain ⟨m, hm⟩ : ∃ m, m = v / 2 ^ (i + 1) := ⟨_, rfl⟩
              obtain ⟨b, hb⟩ : ∃ b, b = v / 2 ^ i % 2 := ⟨_, rfl⟩
              have hb2 : b < 2 := by rw [hb]; exact Nat.mod_lt _ (by decide)
              rw [← hm] at HST HSM ⊢
              rw [← hb] at HST HB1
              clear hm hb
              obtain ⟨m2, hm2⟩ : ∃ m2, m2 = 2 * m := ⟨_, rfl⟩
              have w4 : IntKind.u64.wrap ((m : Int) * 2) = (m2 : Int) := by rw [IntKind.wrap_u64]; have := HSM.out; omega
              have hor := or_bit m b hb2 (by have := HSM.out; omega)
              rw [← hm2] at hor HST
              obtain ⟨m3, hm3⟩ : ∃ m3, m3 = m2 + b := ⟨_, rfl⟩
              rw [← hm3] at hor HST
              clear hb2 hm2 hm3
              go_wp2_with (go_at_call 91; refine HB1.out.mono ?_; rintro e w9 ⟨rfl, rfl⟩)
              go_roundw
              case rel => exact ⟨i, HI.out.1, by have := HI.out.2; omega, by go_num, by rw [HST.out], trivial⟩
              case measure => simp [intOf]
            · have hje : j = sh := by omega
              subst hje
              have t2 : decide ((j : Int) ≤ (j : Int) - 1) = false := decide_eq_false (by omega)
              have HK := Lib.hid (show keptV v = v / 2 ^ j + (more v (2 ^ j)).toNat by unfold keptV; rw [← HLV.out, ← HSH.out])
              have HJ := Lib.hid hj2
              have HML := Lib.hid (show v / 2 ^ j < 16777216 by
                rw [Nat.div_lt_iff_lt_mul (Nat.two_pow_pos _)]
                have h1 : v < 2 ^ (l + 1) := by rw [HLV.out]; exact Nat.lt_log2_self
                have h2 : (2 : Nat) ^ (l + 1) ≤ 2 ^ 24 * 2 ^ j := by
                  rw [← Nat.pow_add]; exact Nat.pow_le_pow_right (by decide) (by have := HSH.out; omega)
                have h3 : (2 : Nat) ^ 24 = 16777216 := by decide
                rw [h3] at h2
                exact Nat.lt_of_lt_of_le h1 h2)
              clear hlt hj1 hj2 w1 w2
              go_upto_region 26 with fail
              clear t2
              obtain ⟨m, hm⟩ : ∃ m, m = v / 2 ^ j := ⟨_, rfl⟩
              rw [← hm] at HK HML ⊢
              have HMV := Lib.hid hm
              clear hm
              go_cut [81] from 73 to 81 (fun s81 W => s81 = .bool (decide (0 < j) && (v / 2 ^ (j - 1) % 2 == 1)) ∧ W = wr)
              case first =>
                by_cases hj0 : j = 0
                · have t2 : decide (0 < (j : Int)) = false := decide_eq_false (by omega)
                  have t2n : decide (0 < j) = false := decide_eq_false (by omega)
                  have HT2 := Lib.hid t2n
                  clear hj0
                  go_wp2
                  go_meet
                  exact ⟨by rw [HT2.out]; rfl, rfl⟩
                · obtain ⟨q, hq⟩ : ∃ q, q = j - 1 := ⟨_, rfl⟩
                  have t2 : decide (0 < (j : Int)) = true := decide_eq_true (by omega)
                  have t2n : decide (0 < j) = true := decide_eq_true (by omega)
                  have w3 : IntKind.i64.wrap ((j : Int) - 1) = (q : Int) := by rw [IntKind.wrap_i64]; have := HJ.out; omega
                  have HB1 := Lib.hid (HBIT.out q (by have := HJ.out; omega) wr HM2.out)
                  have HT2 := Lib.hid t2n
                  have HQ := Lib.hid hq
                  clear hj0 hq
                  generalize hb : v / 2 ^ q % 2 = b at HB1
                  have HBB := Lib.hid hb
                  clear hb
                  go_wp2_with (go_at_call 91; refine HB1.out.mono ?_; rintro e w9 ⟨rfl, rfl⟩)
                  go_meet
                  refine ⟨congrArg Value.bool ?_, rfl⟩
                  rw [HT2.out, ← HQ.out, HBB.out, Bool.true_and, Bool.eq_iff_iff, beq_iff_eq, beq_iff_eq]; omega
              case rest =>
                obtain ⟨rfl, rfl⟩ := hcut
                obtain ⟨tb2, htb2⟩ : ∃ tb, (decide (0 < j) && (v / 2 ^ (j - 1) % 2 == 1)) = tb := ⟨_, rfl⟩
                rw [htb2]
                have HTB2 := Lib.hid htb2
                clear htb2
                go_upto_if 81 with fail
                go_cut [8] from 82 to 102 (fun s8 W => s8 = .int .u64 ((keptV v : Nat) : Int) ∧ W = wc)
                case first =>
                  cases tb2
                  case false =>
                    have HKV := Lib.hid (show keptV v = m by rw [HK.out, more_tb, HTB2.out]; rfl)
                    go_wp2
                    go_meet
                    exact ⟨by rw [HKV.out], rfl⟩
                  case true =>
                    have hj0 : 0 < j := by have := HTB2.out; simp at this; omega
                    have HKV := Lib.hid (show keptV v = m + (decide (v % 2 ^ (j - 1) ≠ 0) || m % 2 == 1).toNat by rw [HK.out, more_tb, HTB2.out, Bool.true_and, ← HMV.out])
                    obtain ⟨q, hq⟩ : ∃ q, q = j - 1 := ⟨_, rfl⟩
                    have w3 : IntKind.i64.wrap ((j : Int) - 1) = (q : Int) := by rw [IntKind.wrap_i64]; have := HJ.out; omega
                    rw [← hq] at HKV
                    have HQ := Lib.hid (show q < 352 by have := HJ.out; omega)
                    clear hq hj0
                    go_wp2
                    go_loopw [10, 11, 84] (fun x10 x11 ii V => ∃ i : Nat, i ≤ q ∧ ii = .int .i64 i ∧ x10 = .bool (decide (v % 2 ^ i ≠ 0)) ∧ V = wc) (fun _ _ ii _ => q - (intOf ii).toNat)
                    case atStart => exact ⟨0, by omega, rfl, by rw [Nat.pow_zero, Nat.mod_one]; rfl, rfl⟩
                    case round =>
                      obtain ⟨i, hi, rfl, rfl, rfl⟩ := hrel
                      by_cases hlt : i < q
                      · have t3 : decide ((i : Int) < (q : Int)) = true := decide_eq_true (by omega)
                        have t3n : decide (i < q) = true := decide_eq_true hlt
                        have w4 : IntKind.i64.wrap ((i : Int) + 1) = ((i + 1 : Nat) : Int) := by rw [IntKind.wrap_i64]; have := HQ.out; omega
                        obtain ⟨i1, hi1⟩ : ∃ i1, i1 = i + 1 := ⟨_, rfl⟩
                        have HLN := Lib.hid (low_ne v i)
                        rw [← hi1] at w4 HLN
                        have HI1 := Lib.hid hi1
                        have HB1 := Lib.hid (HBIT.out i (by have := HQ.out; omega) wr HM2.out)
                        have HI := Lib.hid (show i < q from hlt)
                        clear hlt hi hi1
                        generalize v / 2 ^ i % 2 = b at HB1 HLN
                        generalize decide (v % 2 ^ i ≠ 0) = tb3 at HLN ⊢
                        cases tb3
                        case false =>
                          go_wp2_with (go_at_call 91; refine HB1.out.mono ?_; rintro e w9 ⟨rfl, rfl⟩)
                          go_roundw
                          case rel => exact ⟨i1, by have := HI1.out; have := HI.out; omega, by go_num, by rw [HLN.out, Bool.false_or]; exact congrArg Value.bool (by rw [Bool.eq_iff_iff, beq_iff_eq, beq_iff_eq]; omega), trivial⟩
                          case measure => have := HI1.out; have := HI.out; simp [intOf]; omega
                        case true =>
                          go_wp2
                          go_roundw
                          case rel => exact ⟨i1, by have := HI1.out; have := HI.out; omega, by go_num, by rw [HLN.out, Bool.true_or], trivial⟩
                          case measure => have := HI1.out; have := HI.out; simp [intOf]; omega
                      · have t3 : decide ((i : Int) < (q : Int)) = false := decide_eq_false (by omega)
                        have t3n : decide (i < q) = false := decide_eq_false hlt
                        have hie : i = q := by omega
                        rw [← hie] at HKV
                        have ha := and_u64_1 m
                        have w4 : IntKind.u64.wrap ((m : Int) + 1) = ((m + 1 : Nat) : Int) := by rw [IntKind.wrap_u64]; have := HML.out; omega
                        obtain ⟨m1, hm1⟩ : ∃ m1, m1 = m + 1 := ⟨_, rfl⟩
                        rw [← hm1] at w4
                        have HM1 := Lib.hid hm1
                        generalize m % 2 = mb at ha HKV
                        clear hlt hi hie hm1
                        generalize decide (v % 2 ^ i ≠ 0) = tb3 at HKV ⊢
                        cases tb3
                        case false =>
                          by_cases hmb : mb = 1
                          · have t4 : ((mb : Int) == 1) = true := by rw [beq_iff_eq]; omega
                            have HKW := Lib.hid (show keptV v = m1 by rw [HKV.out, HM1.out, hmb]; rfl)
                            clear hmb
                            go_wp2
                            go_meet
                            exact ⟨by rw [HKW.out], rfl⟩
                          · have t4 : ((mb : Int) == 1) = false := by rw [beq_eq_false_iff_ne]; omega
                            have HKW := Lib.hid (show keptV v = m by
                              have e : (mb == 1) = false := by rw [beq_eq_false_iff_ne]; exact hmb
                              rw [HKV.out, e]; rfl)
                            clear hmb
                            go_wp2
                            go_meet
                            exact ⟨by rw [HKW.out], rfl⟩
                        case true =>
                          have HKW := Lib.hid (show keptV v = m1 by rw [HKV.out, HM1.out, Bool.true_or]; rfl)
                          go_wp2
                          go_meet
                          exact ⟨by rw [HKW.out], rfl⟩
                case rest =>
                  obtain ⟨rfl, rfl⟩ := hcut
                  have hv0 := HV0.out
                  have hlg : l ≤ 270 := by have := HS.out; rw [HZ.out] at this; have h := HLV.out; cases s <;> simp at this <;> omega
                  obtain ⟨d1, d2, d3, d4⟩ := kept_num v (by omega)
                  have hne := near_units v (by omega) (by rw [← HLV.out]; exact hlg)
                  have hkl := keptV_le v (by omega)
                  have hle : Ieee.single.nearest false v (-149) < 2139095040 := by rw [hne, ← HLV.out]; omega
                  have hnk := near_kept v (by omega) (by rw [← hne]; exact hle)
                  rw [← HLV.out, ← HSH.out] at hnk hne
                  obtain ⟨c2, hc2⟩ : ∃ c2 : Nat, (c2 : Int) = ((keptV v).log2 + 1022 : Nat) + ((j : Int) - 149) := ⟨((keptV v).log2 + 1022 + j) - 149, by omega⟩
                  have HLD := Lib.hid (fun W => pldexp_any _ _ c2 ((j : Int) - 149) W d1 d2 (by omega) (by omega) hc2 (by omega) (by have := HSH.out; omega) (by have := HSH.out; omega))
                  have hm0 := dmul_one s c2 (keptV v * 2 ^ (52 - (keptV v).log2)) d1 d2 (by have := HSH.out; omega)
                  have hmul := fun W => run_float_arith (P := Try.prog) (w := W) .mul 61 .f64 _ _ _ hm0
                  have hread := dS_read s c2 (keptV v * 2 ^ (52 - (keptV v).log2)) d1 d2 (by have := HSH.out; omega)
                  have hnar := narrow_gen (N := keptV v) (p := (j : Int) - 149) hread (by omega) (by omega) (by
                    rw [sc_mul (-5000) (keptV v) (52 - (keptV v).log2) _ (by omega)]; congr 1; omega) (by rw [hnk, ← hne]; exact hle)
                  rw [hnk, ← hne] at hnar
                  have hrun := fun W => run_narrow (w := W) hnar
                  have HRES := Lib.hid (show rV z = wd s (Ieee.single.nearest false v (-149)) by
                    unfold rV
                    have h := HZ.out
                    have h2 := HZS.out
                    cases s
                    · have e : z = (v : Int) := h
                      rw [if_neg (by omega), decide_eq_false (by omega), e]; rfl
                    · have e : z = -(v : Int) := h
                      rw [if_neg (by omega), decide_eq_true (by omega), e, Int.natAbs_neg]; rfl)
                  have w5 : IntKind.i64.wrap ((j : Int) - 149) = (j : Int) - 149 := by rw [IntKind.wrap_i64]; have := HSH.out; omega
                  clear hv0 hlg d1 d2 d3 hne hkl hle hnk hc2 hm0 hread hnar
                  generalize dW c2 (keptV v * 2 ^ (52 - (keptV v).log2)) = bw at *
                  generalize dW ((keptV v).log2 + 1022) (keptV v * 2 ^ (52 - (keptV v).log2)) = bz at *
                  generalize keptV v = kv at *
                  generalize wd s (Ieee.single.nearest false v (-149)) = res at *
                  go_wp2_with (go_at_call 29; refine (HLD.out _).mono ?_; rintro e w9 ⟨rfl, rfl⟩)
                  go_ret
                  exact ⟨by rw [HRES.out]; rfl, HO2.out⟩
end Go.Proofs.Ytndhlgbpfkidbaa.n03

