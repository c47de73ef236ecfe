/-
  Weights that are all multiplied by one number have the same shares.
  No condition beyond the statement's own.
-/
import Derived.Test.YtdkfaicmdbhonaaTk
import Derived.Test.YtdkfaicmdbhonaaOa
namespace Go.Proofs.Ytdkfaicmdbhonaa.lawCountScaled
open Go.RowKit Go.K Go.ChangeShapes Go.WideShapes Go.ChangeAt Go.Words
set_option linter.unusedVariables false
set_option linter.unusedSimpArgs false
/-- The weights, each multiplied. -/
def more (l : List (BitVec 64)) (b : Nat) : List (BitVec 64) := l.map fun x => BitVec.ofNat 64 (x.toNat * b)
theorem more_len (l : List (BitVec 64)) (b : Nat) : (more l b).length = l.length := by unfold more; simp
theorem part_le (l : List (BitVec 64)) (k : Nat) (h : k < l.length) : wq l k ≤ sumL l := by rw [sumL_all]; exact sumN_part _ h
theorem more_wq {l : List (BitVec 64)} {b : Nat} (hs : sumL l * b < 18446744073709551616) (k : Nat) (h : k < l.length) : wq (more l b) k = wq l k * b := by
  rw [wq_get _ _ (by rw [more_len]; exact h), wq_get _ _ h]
  unfold more
  rw [List.getElem_map, BitVec.toNat_ofNat, Nat.mod_eq_of_lt]
  have h1 := part_le l k h
  rw [wq_get _ _ h] at h1
  have := Nat.mul_le_mul_right b h1
  omega
theorem sumN_mul (f : Nat → Nat) (b : Nat) : ∀ n, sumN (fun i => f i * b) n = sumN f n * b
  | 0 => by simp [sumN]
  | n + 1 => by simp only [sumN]; rw [sumN_mul f b n, Nat.add_mul]
theorem more_sum {l : List (BitVec 64)} {b : Nat} (hs : sumL l * b < 18446744073709551616) : sumL (more l b) = sumL l * b := by
  rw [sumL_all, more_len, sumN_congr (g := fun i => wq l i * b) fun i hi => more_wq hs i hi, sumN_mul, ← sumL_all]
theorem more_q {l : List (BitVec 64)} {b : Nat} (t : Nat) (hb : 0 < b) (hs : sumL l * b < 18446744073709551616) (i : Nat) (hi : i < l.length) : qV t (more l b) i = qV t l i ∧ rV t (more l b) i = rV t l i * b := by
  unfold qV rV
  rw [more_wq hs i hi, more_sum hs, ← Nat.mul_assoc]
  exact ⟨Nat.mul_div_mul_right _ _ hb, Nat.mul_mod_mul_right _ _ _⟩
theorem more_cnt {l : List (BitVec 64)} {b : Nat} (t : Nat) (hb : 0 < b) (hs : sumL l * b < 18446744073709551616) (i : Nat) (hi : i < l.length) : cntM (rV t (more l b)) l.length i = cntM (rV t l) l.length i := by
  unfold cntM
  apply List.countP_congr
  intro k hk
  have hk := List.mem_range.1 hk
  rw [decide_eq_true_iff, decide_eq_true_iff]
  unfold Tm
  rw [(more_q t hb hs k hk).2, (more_q t hb hs i hi).2, Nat.mul_lt_mul_right hb, Nat.mul_right_cancel_iff hb]
theorem more_sh {l : List (BitVec 64)} {b : Nat} (t : Nat) (hb : 0 < b) (hs : sumL l * b < 18446744073709551616) : shL t (more l b) = shL t l := by
  unfold shL
  rw [more_len]
  apply List.map_congr_left
  intro i hi
  have hi := List.mem_range.1 hi
  have hl : leftV t (more l b) = leftV t l := by
    unfold leftV
    rw [more_len, sumN_congr fun i hi => (more_q t hb hs i hi).1]
  unfold shV shJ
  rw [more_len, hl, more_cnt t hb hs i hi, (more_q t hb hs i hi).1]
theorem more_R {l : List (BitVec 64)} {b : Nat} (t : Nat) (hb : 0 < b) (hs : sumL l * b < 18446744073709551616) : shR t (more l b) = shR t l ∧ shE (more l b) = shE l := by
  have h1 : sumL l ≤ sumL l * b := Nat.le_mul_of_pos_right _ hb
  have h2 : 0 < sumL l * b ↔ 0 < sumL l := by
    constructor
    · intro h; rcases Nat.eq_zero_or_pos (sumL l) with e | e
      · rw [e, Nat.zero_mul] at h; exact absurd h (Nat.lt_irrefl _)
      · exact e
    · intro h; omega
  unfold shR shE errS
  rw [more_len, more_sum hs, more_sh t hb hs]
  by_cases c : 0 < l.length ∧ l.length ≤ 1024 ∧ 0 < sumL l ∧ sumL l < 18446744073709551616
  · have c2 : 0 < l.length ∧ l.length ≤ 1024 ∧ 0 < sumL l * b ∧ sumL l * b < 18446744073709551616 := ⟨c.1, c.2.1, h2.2 c.2.2.1, hs⟩
    rw [if_pos c, if_pos c2, if_pos c, if_pos c2]; exact ⟨rfl, rfl⟩
  · have c2 : ¬ (0 < l.length ∧ l.length ≤ 1024 ∧ 0 < sumL l * b ∧ sumL l * b < 18446744073709551616) := fun h => c ⟨h.1, h.2.1, h2.1 h.2.2.1, by omega⟩
    rw [if_neg c, if_neg c2, if_neg c, if_neg c2]
    refine ⟨rfl, ?_⟩
    by_cases d : l.length = 0 ∨ 1024 < l.length
    · rw [if_pos d, if_pos d]
    · rw [if_neg d, if_neg (by omega), if_neg d, if_neg (by omega)]
theorem pw900_huge (n : Nat) (h : n < 1532495540865888858358347027150309183618739122183602176) : n < pw 900 := Nat.lt_of_lt_of_le h (by
  have h6 : pw 6 = 6277101735386680763835789423207666416102355444464034512896 := by decide
  have h7 := pw_le (show 6 ≤ 900 by decide)
  omega)
theorem one_q (z : Int) : ∀ u ∈ [Value.int .u64 z], u.oneCell' = true := by
  intro u hu
  rw [List.mem_singleton.1 hu]; rfl
set_option maxRecDepth 100000 in
set_option maxHeartbeats 4000000 in
theorem walk (t : BitVec 64) (a : Option Addr) (c : Nat) (l : List (BitVec 64)) (y : BitVec 64) (w : World) (hs : Sl w a (vQ l)) (hn : l.length ≤ c) (hm : c ≤ 17592186043904) (hz : a = none → l.length = 0 ∧ c = 0) :
    Calls Try.prog 8 #[.int .u64 (U64 t), .slice a l.length c, .int .u64 (U64 y)] w fun e w' => e = .returned (.bool true) ∧ Below w.heap.size w w' := by
  have HS := Lib.hid hs
  have HZ := Lib.hid hz
  have HN := Lib.hid (show l.length ≤ 17592186043904 by omega)
  have hln : (l.length : Int) ≤ 17592186043904 := by omega
  have HAW := Lib.hid (awake_any w)
  clear hs hn hm hz
  go_enter Try.func8, Try.ntmps8
  go_wp2_with fail
  refine HAW.out.mono ?_
  rintro e w1 ⟨rfl, hb1⟩
  have HB1 := Lib.hid hb1
  have K37 := Lib.hid (all_any a c l w1 (by have := HN.out; omega) (HS.out.kept hb1))
  clear hb1 HAW
  go_wp2_with fail
  refine K37.out.mono ?_
  rintro e w2 ⟨rfl, hi2, hb2⟩
  have HI2 := Lib.hid hi2
  have HB2 := Lib.hid (HB1.out.trans (hb2.mono HB1.out.size))
  have HG := Lib.hid (show w.heap.size ≤ w1.heap.size from HB1.out.size)
  obtain ⟨g, hg⟩ : ∃ g, g = w1.heap.size := ⟨_, rfl⟩
  rw [← hg] at HI2 HG ⊢
  have K26 := Lib.hid (big_any y w2)
  clear hi2 hb2 K37 hg HB1
  go_wp2_with fail
  refine K26.out.mono ?_
  rintro e w3 ⟨rfl, hi3, hb3⟩
  have HI3 := Lib.hid hi3
  have HI2 := Lib.hid (HI2.out.kept hb3)
  have HB3 := Lib.hid (HB2.out.trans (hb3.mono HB2.out.size))
  have HSB := Lib.hid (show sumL l ≤ 17592186043904 * 18446744073709551616 from Nat.le_trans (sumL_bound l) (Nat.mul_le_mul_right _ HN.out))
  have K25 := Lib.hid (mul_any g g w2.heap.size _ _ w3 HI2.out.isInt HI2.out HI3.out (by rw [Int.natAbs_natCast]; exact pw900_huge _ (by have := HSB.out; omega)) (by rw [Int.natAbs_natCast]; exact pw900_huge _ (by have := y.isLt; omega)))
  clear hi3 hb3 K26 HB2
  go_wp2_with fail
  refine K25.out.mono ?_
  rintro e w4 ⟨rfl, hg4, hi4⟩
  obtain ⟨b, hb⟩ : ∃ b, b = y.toNat := ⟨_, rfl⟩
  have HI4 := Lib.hid (show IntAt w4 g ((sumL l * b : Nat) : Int) by rw [hb, Int.natCast_mul]; exact hi4)
  have HB4 := Lib.hid (show Below w.heap.size w w4 from HB3.out.grown hg4 HB3.out.size (fun k hk => by cases hk; exact HG.out))
  have hyb : U64 y = (b : Int) := by rw [hb]; rfl
  have HBL := Lib.hid (show b < 18446744073709551616 by rw [hb]; exact y.isLt)
  rw [hyb]
  clear hi4 hg4 K25 HB3 HI2 HI3 hb hyb
  by_cases b0 : b = 0
  · have t0 : ((b : Int) == 0) = true := by rw [beq_iff_eq]; omega
    clear b0
    go_wp2
    go_ret
    exact ⟨rfl, HB4.out⟩
  have t0 : ((b : Int) == 0) = false := by rw [beq_eq_false_iff_ne]; omega
  have K39 := Lib.hid (bitlen_any g _ w4 HI4.out (by rw [Int.natAbs_natCast]; exact pw900_huge _ (by
    have h1 := Nat.mul_le_mul HSB.out (show b ≤ 18446744073709551616 by have := HBL.out; omega)
    omega)))
  rw [Int.natAbs_natCast] at K39
  by_cases c0 : sumL l * b < 18446744073709551616
  case neg =>
    have t1 : decide (64 < ((bl (sumL l * b) : Nat) : Int)) = true := decide_eq_true (by have := (bl_le (sumL l * b) 64); have h2 : ¬ bl (sumL l * b) ≤ 64 := fun h => c0 (this.1 h); omega)
    clear b0 c0
    generalize bl (sumL l * b) = bb at *
    go_wp2_with fail
    refine K39.out.mono ?_
    rintro e w5 ⟨rfl, hq⟩
    go_wp2
    go_ret
    exact ⟨rfl, HB4.out.trans ((hq.below _).mono HB4.out.size)⟩
  have t1 : decide (64 < ((bl (sumL l * b) : Nat) : Int)) = false := decide_eq_false (by have := (bl_le (sumL l * b) 64).2 c0; omega)
  have HC := Lib.hid (show 0 < b ∧ sumL l * b < 18446744073709551616 from ⟨by omega, c0⟩)
  clear b0 c0
  generalize bl (sumL l * b) = bb at *
  go_wp2_with fail
  refine K39.out.mono ?_
  rintro e w5 ⟨rfl, hq⟩
  have HB5 := Lib.hid (HB4.out.trans ((hq.below _).mono HB4.out.size))
  clear hq K39 HI4
  go_wp2
  go_loopw [8, 9] (fun v' i V => ∃ (k : Nat) (v : Value), v = v' ∧ k ≤ l.length ∧ i = .int .i64 k ∧ V.ownsRow w5.heap.size 24 1 v k (vQ ((more l b).take k)) ∧ Below w5.heap.size w5 V) (fun _ i _ => l.length - (intOf i).toNat)
  case atStart => exact ⟨0, _, rfl, Nat.zero_le _, rfl, World.ownsRow_nil _ _ _ _, Below.refl _ _⟩
  case round =>
    obtain ⟨k, v, hv', hk, rfl, hown, hbl⟩ := hrel
    subst hv'
    have HO := Lib.hid hown
    have HB := Lib.hid hbl
    clear hown hbl
    by_cases hlt : k < l.length
    · have t2 : decide ((k : Int) < (l.length : Int)) = true := decide_eq_true (by omega)
      have t2n : decide (k < l.length) = true := decide_eq_true hlt
      have i1 : (k : Int) < (l.length : Int) := by omega
      obtain ⟨ab, ao, hab, hc⟩ := (HS.out.kept (HB5.out.trans (HB.out.mono HB5.out.size))) (vQ_ne hlt)
      subst hab
      have y1 := hc k (by rw [vQ_length]; exact hlt)
      rw [vQ_get l k hlt, show U64 l[k] = ((wq l k : Nat) : Int) by rw [wq_get l k hlt]; rfl] at y1
      have hp := Nat.mul_le_mul_right b (part_le l k hlt)
      obtain ⟨p, hpp⟩ : ∃ p, p = wq l k * b := ⟨_, rfl⟩
      have u1 : IntKind.u64.wrap (((wq l k : Nat) : Int) * (b : Int)) = (p : Int) := by
        rw [hpp, ← Int.natCast_mul, IntKind.wrap_u64]; have := HC.out.2; omega
      have HM := Lib.hid (show vQ ((more l b).take k) ++ [.int .u64 (p : Int)] = vQ ((more l b).take (k + 1)) by
        rw [List.take_succ_eq_append_getElem (by rw [more_len]; exact hlt), vQ_append]
        congr 1
        show _ = [Value.int .u64 (U64 ((more l b)[k]'(by rw [more_len]; exact hlt)))]
        have h1 := more_wq HC.out.2 k hlt
        rw [wq_get _ _ (by rw [more_len]; exact hlt)] at h1
        unfold U64
        rw [h1, hpp])
      have u2 : IntKind.i64.wrap ((k : Int) + 1) = ((k + 1 : Nat) : Int) := by rw [IntKind.wrap_i64]; omega
      have HI := Lib.hid hlt
      have M1 := Lib.hid (show k + 1 ≤ maxLen ∧ (k + 1) * 8 ≤ 140737488355328 by unfold maxLen; have := HN.out; omega)
      have M2 := Lib.hid (show w5.heap.size ≤ (wr.alloc (.cells #[.int .u64 (p : Int)] 24)).heap.size by have := HB.out.size; simp; omega)
      clear hc hp hpp hlt hk
      generalize wq l k = wv at *
      go_wp2_with (at_builtin; refine wpList_append_sl rfl _ _ 22 rfl w5.heap.size 24 (.int .u64 0) 1 8 Try.underlying22 Try.info24 rfl (by decide) _ k (vQ ((more l b).take k)) rfl (HO.out.alloc _) (some ⟨wr.heap.size, 0, none⟩) 1 1 [.int .u64 (p : Int)] rfl (fun h => by cases h) rfl (sl_new wr [.int .u64 (p : Int)] 24 (0, 0)) (one_q _) M1.out.1 M1.out.2 M2.out ?c4)
      intro v2 w6 hown hgr
      have HO2 := Lib.hid (show w6.ownsRow w5.heap.size 24 1 v2 (k + 1) (vQ ((more l b).take (k + 1))) by rw [← HM.out]; exact hown)
      have HB2 := Lib.hid (show Below w5.heap.size w5 w6 from (HB.out.alloc HB.out.size _).grown hgr M2.out (fun j hj => (HO.out.lt j hj).1))
      clear hown hgr
      go_wp2
      go_roundw
      case rel => exact ⟨k + 1, _, rfl, HI.out, by go_num, HO2.out, HB2.out⟩
      case measure => have := HI.out; simp [intOf]; omega
    have t2 : decide ((k : Int) < (l.length : Int)) = false := decide_eq_false (by omega)
    have t2n : decide (k < l.length) = false := decide_eq_false hlt
    have hke : k = l.length := by omega
    have hO := HO.out
    rw [hke, List.take_of_length_le (by rw [more_len]; exact Nat.le_refl _)] at hO
    obtain ⟨am, cm, hv, hslm⟩ : ∃ am cm, v = .slice am l.length cm ∧ Sl wr am (vQ (more l b)) := by
      rcases hO.2 with ⟨hv, h0⟩ | ⟨g2, cap2, cur, hv, hg2, hh, hnc, hcm, hcs, htk⟩
      · refine ⟨none, 0, by rw [hv, h0], ?_⟩
        have : more l b = [] := List.eq_nil_of_length_eq_zero (by rw [more_len]; exact h0)
        rw [this]; exact Sl.nil _ _
      · subst hv
        exact ⟨_, _, rfl, sl_of_owns hO⟩
    subst hv
    have HSM := Lib.hid hslm
    have HBW := Lib.hid (HB5.out.trans (HB.out.mono HB5.out.size))
    have HLX := Lib.hid (lent_any a c l wr HN.out HZ.out (HS.out.kept HBW.out))
    clear hlt hk hke hO hslm HO t0 t1
    go_wp2_with fail
    refine HLX.out.mono ?_
    rintro e w7 ⟨g7, c7, rfl, hg7, hl7, hb7⟩
    have HSM := Lib.hid (HSM.out.kept hb7)
    have HB7 := Lib.hid (HBW.out.trans (hb7.mono HBW.out.size))
    have K1 := Lib.hid (shares_one t l (some ⟨g7, 0, none⟩) c7 w7 HN.out hl7.sl)
    clear hl7 hb7 hg7 HLX
    go_wp2_with fail
    refine K1.out.mono ?_
    rintro e w8 ⟨a8, c8, rfl, ho8, _, hb8⟩
    have H8 := Lib.hid (owns_sl ho8 (vQ_length _))
    have HSM := Lib.hid (HSM.out.kept hb8)
    have HB8 := Lib.hid (HB7.out.trans (hb8.mono HB7.out.size))
    have K2 := shares_one t (more l b) am cm w8 (by rw [more_len]; exact HN.out) HSM.out
    rw [more_len, (more_R t.toNat HC.out.1 HC.out.2).1, (more_R t.toNat HC.out.1 HC.out.2).2] at K2
    have K2 := Lib.hid K2
    have HLS := Lib.hid (show (shR t.toNat l).length ≤ maxLen by
      unfold maxLen shR; split
      · rw [shL_len]; have := HN.out; omega
      · exact Nat.zero_le _)
    clear ho8 hb8 K1
    generalize shR t.toNat l = R at *
    generalize shE l = er at *
    have q0 : (er == er) = true := by simp
    go_wp2_with fail
    refine K2.out.mono ?_
    rintro e w9 ⟨a9, c9, rfl, ho9, _, hb9⟩
    have H9 := Lib.hid (owns_sl ho9 (vQ_length _))
    have K36 := Lib.hid (same_any a8 a9 c8 c9 R R w9 HLS.out rfl (H8.out.kept hb9) H9.out)
    rw [show decide (R = R) = true by simp] at K36
    have HB9 := Lib.hid (HB8.out.trans (hb9.mono HB8.out.size))
    clear ho9 hb9 K2
    go_wp2_with fail
    refine K36.out.mono ?_
    rintro e w10 ⟨rfl, hq⟩
    have HBF := Lib.hid (HB9.out.trans ((hq.below _).mono HB9.out.size))
    clear hq K36
    go_wp2
    go_ret
    exact ⟨rfl, HBF.out⟩
theorem own : ownKnob Try.prog.godebug = none := by kernel_rfl
theorem laidOut : laidOutB Try.prog = true := by kernel_rfl
set_option maxRecDepth 100000 in
theorem lifted (os : Os) (started : os.Started) (H : Type) (enc : TypeId × Value → H) :
    ReturnsInHanded {} Try.checked os 8 .any (Rows.countScaledSpec.pre6 enc Try.prog Try.f8 Rows.countScaledRow.domain false) (Rows.countScaledSpec.post enc Try.prog Try.f8 false true false false) := by
  refine returnsInHanded_of_change_sized (C := Try.checked) own started (by kernel_rfl) Try.func8
    (ChangeSpec.witness6 (enc := enc) (C := Try.checked) false ⟨#[], #[.int .u64 0, .slice none 0 0, .int .u64 0], []⟩ 8 (by kernel_rfl) (by kernel_rfl) (by kernel_rfl) (by kernel_rfl)) ?_
  intro W base args ds gs before hval0 hW hcnd hsz0 _
  have hsz : (DataW.weightsEach Try.prog (Try.f8.params.toList ++ Rows.countScaledSpec.plain.varTypes Try.prog) (ds ++ gs)).all (· ≤ reachBytes) = true := hsz0
  clear hsz0
  have hval : ∀ (j : Nat) t v, Try.f8.params[j]? = some t → args[j]? = some v → Value.okWide Try.prog W .any base t v := hval0
  have hW' := hW
  obtain ⟨p, q, hA0, hV, rfl, hfz, hnd⟩ := hW
  have hA : DataW.TrodAll enc Try.prog W 0 (fun _ => true) true Try.f8.params.toList args.toList ds p := hA0
  rw [Try.params8] at hA hval hsz
  obtain ⟨v0, vs0, d0, ds0, p0, q0, hargs, rfl, rfl, h0, r0⟩ := trodAll_cons hA
  obtain ⟨v1, vs1, d1, ds1, p1, q1, rfl, rfl, rfl, h1, r1⟩ := trodAll_cons r0
  obtain ⟨v2, vs2, d2, ds2, p2, q2, rfl, rfl, rfl, h2, r2⟩ := trodAll_cons r1
  obtain ⟨rfl, rfl, rfl⟩ := trodAll_nil r2
  obtain rfl : args = #[v0, v1, v2] := by cases args; simp_all
  obtain ⟨rfl, rfl⟩ := trodVars_none hV
  obtain ⟨a0, rfl, rfl, rfl, w0⟩ := open_int Try.underlying24 (hval 0 24 v0 rfl rfl) h0
  obtain ⟨x0, rfl⟩ := u64_of_wf w0
  obtain ⟨a1, len1, cap1, rfl⟩ := okWide_slice Try.underlying22 (hval 1 22 v1 rfl rfl)
  have k1 := h1
  have lt1 : ∀ x ∈ p1, x.block < W.heap.size := by obtain ⟨m, hm⟩ := k1; exact DataW.trod_lt m _ _ _ hm
  obtain ⟨l1, rfl, s1, n1, m1, z1⟩ := open_u64s h1 hsz (j := 1) rfl rfl
  obtain ⟨a2, rfl, rfl, rfl, w2⟩ := open_int Try.underlying24 (hval 2 24 v2 rfl rfl) h2
  obtain ⟨x2, rfl⟩ := u64_of_wf w2
  clear hA0 hval0
  refine (walk x0 a1 cap1 l1 x2 W s1 n1 m1 z1).mono fun e W' ⟨he, bel⟩ => ?_
  subst he
  exact ⟨_, rfl, _, _, _, [], _, [], hW', trodAll_mk1 (shut_bool Try.underlying4 _), (trodAll_cons_mk (shut_int Try.underlying24 w0) (trodAll_cons_mk (Below.trod laidOut (by kernel_rfl) (of_decide_eq_true (by kernel_rfl)) k1 bel lt1) (trodAll_cons_mk (shut_int Try.underlying24 w2) trodAll_mk0))), rfl, bel.frame _, fun h => by cases h⟩
theorem over : Rows.countScaledRow.holds Try.pinned (OpenSpec.ofChange Rows.countScaledSpec) :=
  OpenClaim.holds_of_wide 8 Try.f8 rfl rfl rfl rfl rfl rfl rfl ⟨rfl, rfl, rfl, rfl, rfl⟩ rfl rfl rfl rfl rfl (by kernel_rfl) Try.func8 (by kernel_rfl)
    (of_decide_eq_true (by kernel_rfl)) (by unfold Func.isWrapper; first | (rw [if_pos (by decide +kernel)]; kernel_rfl) | (rw [if_neg (by decide +kernel)]; exact ⟨rfl, rfl⟩))
    (fun os started H enc _ => lifted os started H enc)
theorem proved : Rows.CountScaledSaid := over
#print axioms proved
end Go.Proofs.Ytdkfaicmdbhonaa.lawCountScaled
