/-
  A sum does not hang on the order, nor on where the list is cut; whether it fits neither.
  No condition beyond the statement's own.
-/
import Derived.Test.YtdkfaicmdbhonaaTk
import Derived.Test.YtdkfaicmdbhonaaOa
import Derived.Deep.DeepCutAuto
import Derived.Deep.CutBlock
namespace Go.Proofs.Ytdkfaicmdbhonaa.lawCountOrder
open Go.RowKit Go.K Go.ChangeShapes Go.WideShapes Go.ChangeAt Go.Words
set_option linter.unusedVariables false
set_option linter.unusedSimpArgs false
theorem q1 : (Try.prog.info? 24).map (·.size) = some 1 := by kernel_rfl
theorem run_hi (a : Option Addr) (len cap n : Nat) (h2 : n ≤ cap) (w : World) : (Instr.slice 22 (.slice a len cap) none (some (.int .i64 (n : Int))) none).run Try.prog w = .ok (.slice a n cap) w := by
  obtain ⟨i, hi', hs⟩ := Option.map_eq_some_iff.1 q1
  have c1 : (0 : Int) ≤ (n : Int) ∧ (n : Int) ≤ (cap : Int) := by omega
  have c2 : (0 : Int) ≤ (n : Int) := by omega
  cases a with
  | none =>
    simp only [Instr.slice, Instr.sliceBounds, Instr.sliceBound, asIntOf, run_underlying Try.underlying22, sizeOf, typeInfo, Sem.run_bind, Sem.run_pure, Result.andThen_ok, if_pos c1, Int.toNat_natCast, Option.isSome]
    by_cases hc : cap = 0 <;> simp [hi', hc, Addr.add]
  | some x =>
    obtain ⟨b, o, s⟩ := x
    simp only [Instr.slice, Instr.sliceBounds, Instr.sliceBound, asIntOf, run_underlying Try.underlying22, sizeOf, typeInfo, Sem.run_bind, Sem.run_pure, Result.andThen_ok, if_pos c1, Int.toNat_natCast, Option.isSome]
    by_cases hc : cap = 0 <;> simp [hi', hc, Addr.add]
theorem sum_rev (l : List (BitVec 64)) : sumL l.reverse = sumL l := by
  unfold sumL
  rw [List.map_reverse]
  exact (List.reverse_perm _).sum_nat
theorem sum_cut (l : List (BitVec 64)) (k : Nat) : sumL (l.take k) + sumL (l.drop k) = sumL l := by
  rw [← sumL_append, List.take_append_drop]
theorem one_q (z : Int) : ∀ u ∈ [Value.int .u64 z], u.oneCell' = true := by
  intro u hu
  rw [List.mem_singleton.1 hu]; rfl
theorem tmod_bound (z n : Int) (h : 0 < n) : -n < z.tmod n ∧ z.tmod n < n := by
  have h1 := Int.tmod_lt_of_pos z h
  have h2 := Int.tmod_lt_of_pos (-z) h
  rw [Int.neg_tmod] at h2
  omega
theorem vQ_drop (l : List (BitVec 64)) (k : Nat) : vQ (l.drop k) = (vQ l).drop k := by simp [vQ, List.map_drop]
/-- A sum as the program answers it: its parts. -/
theorem fit_parts (N : Nat) : ∃ s e : Int, fitV (N : Int) = .tuple #[.int .u64 s, .int .i64 e] ∧ ((N < 18446744073709551616 ∧ s = (N : Int) ∧ e = 0) ∨ (18446744073709551616 ≤ N ∧ e = 10)) := by
  by_cases h : N < 18446744073709551616
  · refine ⟨(N : Int), 0, ?_, .inl ⟨h, rfl, rfl⟩⟩
    rw [fitV_yes (by unfold fits; omega)]
    have : U64 (BitVec.ofNat 64 ((N : Int).toNat)) = (N : Int) := by
      rw [Int.toNat_natCast]; unfold U64; rw [BitVec.toNat_ofNat, Nat.mod_eq_of_lt (by omega)]
    rw [this]
  · exact ⟨0, 10, fitV_no (by unfold fits; omega), .inr ⟨by omega, rfl⟩⟩
set_option maxRecDepth 100000 in
set_option maxHeartbeats 4000000 in
theorem walk (a : Option Addr) (c : Nat) (l : List (BitVec 64)) (cut : Int) (w : World) (hs : Sl w a (vQ l)) (hn : l.length ≤ c) (hm : c ≤ 17592186043904) (hz : a = none → l.length = 0 ∧ c = 0) (hct : -9223372036854775808 ≤ cut ∧ cut ≤ 9223372036854775807) :
    Calls Try.prog 9 #[.slice a l.length c, .int .i64 cut] w fun e w' => e = .returned (.bool true) ∧ Below w.heap.size w w' := by
  have HS := Lib.hid hs
  have HZ := Lib.hid hz
  have HN := Lib.hid (show l.length ≤ c ∧ c ≤ 17592186043904 from ⟨hn, hm⟩)
  have HCT := Lib.hid hct
  have hln : (l.length : Int) ≤ 17592186043904 := by omega
  have HAW := Lib.hid (awake_any w)
  clear hs hn hm hz hct
  have v0 : IntKind.i64.wrap ((l.length : Int) - 1) = (l.length : Int) - 1 := by rw [IntKind.wrap_i64]; omega
  go_enter Try.func9, Try.ntmps9
  go_wp2_with fail
  refine HAW.out.mono ?_
  rintro e w1 ⟨rfl, hb1⟩
  have HB1 := Lib.hid hb1
  clear hb1 HAW
  go_wp2
  go_loopw [5, 6] (fun v' i V => ∃ (m : Nat) (v : Value) (z : Int), v = v' ∧ m ≤ l.length ∧ i = .int .i64 z ∧ z = (m : Int) - 1 ∧ V.ownsRow w1.heap.size 24 1 v (l.length - m) (vQ (l.reverse.take (l.length - m))) ∧ Below w1.heap.size w1 V) (fun _ i _ => (intOf i + 1).toNat)
  case atStart => exact ⟨l.length, _, _, rfl, Nat.le_refl _, rfl, rfl, by rw [Nat.sub_self]; exact World.ownsRow_nil _ _ _ _, Below.refl _ _⟩
  case round =>
    obtain ⟨m, v, z, hv', hmn, rfl, hz, hown, hbl⟩ := hrel
    subst hv'
    have HO := Lib.hid hown
    have HB := Lib.hid hbl
    clear hown hbl v0
    rcases Nat.eq_zero_or_pos m with hm0 | hm0
    case inr =>
      obtain ⟨k, hk⟩ : ∃ k, m = k + 1 := ⟨m - 1, by omega⟩
      have hzk : z = (k : Int) := by omega
      subst hzk
      have t0 : decide (0 ≤ (k : Int)) = true := decide_eq_true (by omega)
      have hkl : k < l.length := by omega
      have i1 : (k : Int) < (l.length : Int) := by omega
      obtain ⟨ab, ao, hab, hc⟩ := (HS.out.kept (HB1.out.trans (HB.out.mono HB1.out.size))) (vQ_ne hkl)
      subst hab
      have y1 := hc k (by rw [vQ_length]; exact hkl)
      rw [vQ_get l k hkl] at y1
      obtain ⟨x, hx⟩ : ∃ x, x = U64 l[k] := ⟨_, rfl⟩
      rw [← hx] at y1
      have HM := Lib.hid (show vQ (l.reverse.take (l.length - m)) ++ [.int .u64 x] = vQ (l.reverse.take (l.length - k)) by
        rw [show l.length - k = l.length - m + 1 by omega, List.take_succ_eq_append_getElem (by rw [List.length_reverse]; omega), vQ_append, hx]
        congr 1
        show _ = [Value.int .u64 (U64 _)]
        congr 3
        rw [List.getElem_reverse]
        congr 1; omega)
      have u2 : IntKind.i64.wrap ((k : Int) - 1) = (k : Int) - 1 := by rw [IntKind.wrap_i64]; omega
      have HI := Lib.hid (show k < l.length ∧ m = k + 1 from ⟨hkl, hk⟩)
      have M1 := Lib.hid (show (l.length - m) + 1 ≤ maxLen ∧ ((l.length - m) + 1) * 8 ≤ 140737488355328 by unfold maxLen; have := HN.out; omega)
      have M2 := Lib.hid (show w1.heap.size ≤ (wr.alloc (.cells #[.int .u64 x] 24)).heap.size by have := HB.out.size; simp; omega)
      clear hc hx hkl hk hz hmn hm0
      go_wp2_with (at_builtin; refine wpList_append_sl rfl _ _ 22 rfl w1.heap.size 24 (.int .u64 0) 1 8 Try.underlying22 Try.info24 rfl (by decide) _ (l.length - m) (vQ (l.reverse.take (l.length - m))) rfl (HO.out.alloc _) (some ⟨wr.heap.size, 0, none⟩) 1 1 [.int .u64 x] rfl (fun h => by cases h) rfl (sl_new wr [.int .u64 x] 24 (0, 0)) (one_q _) M1.out.1 M1.out.2 M2.out ?c4)
      intro v2 w6 hown hgr
      have HO2 := Lib.hid (show w6.ownsRow w1.heap.size 24 1 v2 (l.length - k) (vQ (l.reverse.take (l.length - k))) by rw [← HM.out, show l.length - k = l.length - m + 1 by have := HI.out; omega]; exact hown)
      have HB2 := Lib.hid (show Below w1.heap.size w1 w6 from (HB.out.alloc HB.out.size _).grown hgr M2.out (fun j hj => (HO.out.lt j hj).1))
      clear hown hgr
      go_wp2
      go_roundw
      case rel => exact ⟨k, _, _, rfl, by have := HI.out; omega, rfl, rfl, HO2.out, HB2.out⟩
      case measure => first | (simp [intOf]; done) | (simp [intOf]; omega)
    case inl =>
    have t0 : decide (0 ≤ z) = false := decide_eq_false (by omega)
    obtain ⟨am, cm, hv, hslm⟩ : ∃ am cm, v = .slice am l.length cm ∧ Sl wr am (vQ l.reverse) := by
      have hO := HO.out
      rw [hm0, Nat.sub_zero, List.take_of_length_le (by rw [List.length_reverse]; exact Nat.le_refl _)] at hO
      rcases hO.2 with ⟨hv, h0⟩ | ⟨g2, cap2, cur, hv, hg2, hh, hnc, hcm, hcs, htk⟩
      · refine ⟨none, 0, by rw [hv, h0], ?_⟩
        have : l.reverse = [] := List.reverse_eq_nil_iff.2 (List.eq_nil_of_length_eq_zero h0)
        rw [this]; exact Sl.nil _ _
      · subst hv
        exact ⟨_, _, rfl, sl_of_owns hO⟩
    subst hv
    have HSM := Lib.hid hslm
    have HBW := Lib.hid (HB1.out.trans (HB.out.mono HB1.out.size))
    obtain ⟨wb, hwb⟩ : ∃ W, W = wr := ⟨_, rfl⟩
    subst hwb
    obtain ⟨tb, htb⟩ : ∃ tb, decide (0 < (l.length : Int)) = tb := ⟨_, rfl⟩
    have htb2 : decide (0 < l.length) = tb := by rw [← htb]; exact decide_eq_decide.2 (by omega)
    have HTB := Lib.hid htb
    clear hz hmn hm0 hslm HO HB
    go_upto_if 36 with fail
    clear htb htb2
    go_cut [7] from 37 to 46 (fun s7 W => ∃ kk : Nat, s7 = .int .i64 kk ∧ kk ≤ l.length ∧ W = wb)
    case first =>
      cases tb
      case false =>
        go_wp2
        go_meet
        exact ⟨0, rfl, Nat.zero_le _, rfl⟩
      case true =>
        have hlo := of_decide_eq_true HTB.out
        have hne : ((l.length : Int) != 0) = true := by rw [bne_iff_ne]; omega
        have hne2 : ((l.length : Int) == 0) = false := by rw [beq_eq_false_iff_ne]; omega
        obtain ⟨r, hr⟩ : ∃ r, cut.tmod (l.length : Int) = r := ⟨_, rfl⟩
        have hr1 : -(l.length : Int) < r ∧ r < (l.length : Int) := by rw [← hr]; exact tmod_bound _ _ hlo
        obtain ⟨s, hs⟩ : ∃ s : Nat, r + (l.length : Int) = (s : Int) := ⟨(r + (l.length : Int)).toNat, by omega⟩
        obtain ⟨j, hj⟩ : ∃ j, j = s % l.length := ⟨_, rfl⟩
        have HJ := Lib.hid (show j ≤ l.length by rw [hj]; exact Nat.le_of_lt (Nat.mod_lt _ (by omega)))
        have v1 : IntKind.i64.wrap r = r := by rw [IntKind.wrap_i64]; omega
        have v2 : IntKind.i64.wrap (r + (l.length : Int)) = (s : Int) := by rw [IntKind.wrap_i64]; omega
        have v3 : (s : Int).tmod (l.length : Int) = (j : Int) := by rw [hj]; exact (Int.ofNat_tmod s l.length).symm
        have v4 : IntKind.i64.wrap (j : Int) = (j : Int) := by rw [IntKind.wrap_i64]; have := HJ.out; omega
        clear hs hj hr1
        go_wp2
        go_meet
        exact ⟨j, rfl, HJ.out, rfl⟩
    case rest =>
    obtain ⟨kk, rfl, hkk, rfl⟩ := hcut
    have HKK := Lib.hid hkk
    clear hkk HTB
    obtain ⟨s, e, hf, hfc⟩ := fit_parts (sumL l)
    obtain ⟨s1, e1, hf1, hfc1⟩ := fit_parts (sumL (l.take kk))
    obtain ⟨s2, e2, hf2, hfc2⟩ := fit_parts (sumL (l.drop kk))
    have HF := Lib.hid (show ((sumL l < 18446744073709551616 ∧ s = (sumL l : Int) ∧ e = 0) ∨ (18446744073709551616 ≤ sumL l ∧ e = 10)) ∧ ((sumL (l.take kk) < 18446744073709551616 ∧ s1 = (sumL (l.take kk) : Int) ∧ e1 = 0) ∨ (18446744073709551616 ≤ sumL (l.take kk) ∧ e1 = 10)) ∧ ((sumL (l.drop kk) < 18446744073709551616 ∧ s2 = (sumL (l.drop kk) : Int) ∧ e2 = 0) ∨ (18446744073709551616 ≤ sumL (l.drop kk) ∧ e2 = 10)) ∧ sumL (l.take kk) + sumL (l.drop kk) = sumL l from ⟨hfc, hfc1, hfc2, sum_cut l kk⟩)
    have HLX := Lib.hid (lent_any a c l wc (by have := HN.out; omega) HZ.out (HS.out.kept HBW.out))
    clear hfc hfc1 hfc2
    go_wp2_with fail
    refine HLX.out.mono ?_
    rintro e0 w7 ⟨g7, c7, rfl, hg7, hl7, hb7⟩
    have K1 := Lib.hid (csum_any (some ⟨g7, 0, none⟩) c7 l w7 (by unfold maxLen; have := HN.out; omega) hl7.sl)
    rw [hf] at K1
    have HSM := Lib.hid (HSM.out.kept hb7)
    have HB7 := Lib.hid (HBW.out.trans (hb7.mono HBW.out.size))
    clear hl7 hb7 hg7 HLX
    go_wp2_with fail
    refine K1.out.mono ?_
    rintro e0 w8 ⟨rfl, rfl⟩
    have K2 := csum_any am cm l.reverse w7 (by unfold maxLen; rw [List.length_reverse]; have := HN.out; omega) HSM.out
    rw [List.length_reverse, sum_rev, hf] at K2
    have K2 := Lib.hid K2
    clear K1
    have r1 := fun W => run_hi a l.length c kk (by have := HN.out; have := HKK.out; omega) W
    have r2 := run_slice_lo (P := Try.prog) Try.underlying22 q1 a l.length c .i64 (kk : Int) kk (l.length - kk) rfl (by have := HKK.out; omega)
    have HT := Lib.hid (show (l.take kk).length = kk ∧ (l.drop kk).length = l.length - kk by rw [List.length_take, List.length_drop]; have := HKK.out; omega)
    have h3 := lent_any a c (l.take kk) w7 (by rw [HT.out.1]; have := HN.out; have := HKK.out; omega) (fun h => by have := HZ.out h; rw [HT.out.1]; have := HKK.out; omega) (by
      have := HS.out.kept HB7.out
      rw [vQ_take]
      exact sl_take' this kk)
    rw [HT.out.1] at h3
    have K3 := Lib.hid h3
    clear h3
    go_wp2_with fail
    refine K2.out.mono ?_
    rintro e0 w8 ⟨rfl, rfl⟩
    go_wp2_with fail
    refine K3.out.mono ?_
    rintro e0 w8 ⟨g8, c8, rfl, hg8, hl8, hb8⟩
    have h4 := csum_any (some ⟨g8, 0, none⟩) c8 (l.take kk) w8 (by unfold maxLen; rw [HT.out.1]; have := HN.out; have := HKK.out; omega) hl8.sl
    rw [HT.out.1, hf1] at h4
    have K4 := Lib.hid h4
    have HB8 := Lib.hid (HB7.out.trans (hb8.mono HB7.out.size))
    clear hl8 hb8 hg8 K2 K3 h4
    go_wp2_with fail
    refine K4.out.mono ?_
    rintro e0 w9 ⟨rfl, rfl⟩
    have h5 := lent_any (piece a kk c 1) (c - kk) (l.drop kk) w8 (by rw [HT.out.2]; have := HN.out; omega) (fun h => by
      have ha : a = none := by
        cases a with
        | none => rfl
        | some x => unfold piece at h; split at h <;> cases h
      have := HZ.out ha
      rw [HT.out.2]; omega) (by
      have := HS.out.kept HB8.out
      rw [vQ_drop]
      have h6 := sl_piece this kk c 1 (by rw [vQ_length]; have := HN.out; omega)
      rw [Nat.mul_one] at h6
      exact h6)
    rw [HT.out.2] at h5
    have K5 := Lib.hid h5
    clear K4 h5
    generalize piece a kk c 1 = pa at *
    go_wp2_with fail
    refine K5.out.mono ?_
    rintro e0 w10 ⟨g9, c9, rfl, hg9, hl9, hb9⟩
    have h6 := csum_any (some ⟨g9, 0, none⟩) c9 (l.drop kk) w10 (by unfold maxLen; rw [HT.out.2]; have := HN.out; omega) hl9.sl
    rw [HT.out.2, hf2] at h6
    have K6 := Lib.hid h6
    have HB10 := Lib.hid (HB8.out.trans (hb9.mono HB8.out.size))
    clear hl9 hb9 hg9 K5 h6 r1 r2
    have q0 : (s != s) = false := by simp
    have q1' : (e != e) = false := by simp
    go_wp2_with fail
    refine K6.out.mono ?_
    rintro e0 w11 ⟨rfl, rfl⟩
    have hFF := HF.out
    obtain ⟨F1, F2, F3, F4⟩ := hFF
    by_cases c1 : 18446744073709551616 ≤ sumL (l.take kk)
    · have x1 : (e1 != 0) = true := by
        rcases F2 with ⟨h, _⟩ | ⟨_, h⟩
        · omega
        · rw [h]; rfl
      have x2 : (e == 10) = true := by
        rcases F1 with ⟨h, _⟩ | ⟨_, h⟩
        · omega
        · rw [h]; rfl
      clear F1 F2 F3 F4 c1 hf hf1 hf2
      go_wp2
      go_ret
      exact ⟨rfl, HB10.out⟩
    · have ha : e1 = 0 ∧ s1 = (sumL (l.take kk) : Int) := by
        rcases F2 with ⟨_, h, h'⟩ | ⟨h, _⟩
        · exact ⟨h', h⟩
        · omega
      by_cases c2 : 18446744073709551616 ≤ sumL (l.drop kk)
      · have x0 : (e1 != 0) = false := by rw [ha.1]; rfl
        have x1 : (e2 != 0) = true := by
          rcases F3 with ⟨h, _⟩ | ⟨_, h⟩
          · omega
          · rw [h]; rfl
        have x2 : (e == 10) = true := by
          rcases F1 with ⟨h, _⟩ | ⟨_, h⟩
          · omega
          · rw [h]; rfl
        clear F1 F2 F3 F4 c1 c2 hf hf1 hf2 ha
        go_wp2
        go_ret
        exact ⟨rfl, HB10.out⟩
      · have hb : e2 = 0 ∧ s2 = (sumL (l.drop kk) : Int) := by
          rcases F3 with ⟨_, h, h'⟩ | ⟨h, _⟩
          · exact ⟨h', h⟩
          · omega
        have x0 : (e1 != 0) = false := by rw [ha.1]; rfl
        have x1 : (e2 != 0) = false := by rw [hb.1]; rfl
        have h7 := fun W => cadd_any (BitVec.ofNat 64 (sumL (l.take kk))) (BitVec.ofNat 64 (sumL (l.drop kk))) W
        have n1 : (BitVec.ofNat 64 (sumL (l.take kk))).toNat = sumL (l.take kk) := by rw [BitVec.toNat_ofNat, Nat.mod_eq_of_lt (by omega)]
        have n2 : (BitVec.ofNat 64 (sumL (l.drop kk))).toNat = sumL (l.drop kk) := by rw [BitVec.toNat_ofNat, Nat.mod_eq_of_lt (by omega)]
        unfold U64 at h7
        rw [n1, n2, F4, hf, ← ha.2, ← hb.2] at h7
        have K7 := Lib.hid h7
        have y0 : (s == s) = true := by simp
        have y1 : (e == e) = true := by simp
        clear F1 F2 F3 F4 c1 c2 hf hf1 hf2 ha hb h7 n1 n2
        go_wp2_with fail
        refine (K7.out _).mono ?_
        rintro e0 w12 ⟨rfl, rfl⟩
        go_wp2
        go_ret
        exact ⟨rfl, HB10.out⟩
theorem own : ownKnob Try.prog.godebug = none := by kernel_rfl
theorem laidOut : laidOutB Try.prog = true := by kernel_rfl
set_option maxRecDepth 100000 in
theorem lifted (os : Os) (started : os.Started) (H : Type) (enc : TypeId × Value → H) :
    ReturnsInHanded {} Try.checked os 9 .any (Rows.countOrderSpec.pre6 enc Try.prog Try.f9 Rows.countOrderRow.domain false) (Rows.countOrderSpec.post enc Try.prog Try.f9 false true false false) := by
  refine returnsInHanded_of_change_sized (C := Try.checked) own started (by kernel_rfl) Try.func9
    (ChangeSpec.witness6 (enc := enc) (C := Try.checked) false ⟨#[], #[.slice none 0 0, .int .i64 0], []⟩ 8 (by kernel_rfl) (by kernel_rfl) (by kernel_rfl) (by kernel_rfl)) ?_
  intro W base args ds gs before hval0 hW hcnd hsz0 _
  have hsz : (DataW.weightsEach Try.prog (Try.f9.params.toList ++ Rows.countOrderSpec.plain.varTypes Try.prog) (ds ++ gs)).all (· ≤ reachBytes) = true := hsz0
  clear hsz0
  have hval : ∀ (j : Nat) t v, Try.f9.params[j]? = some t → args[j]? = some v → Value.okWide Try.prog W .any base t v := hval0
  have hW' := hW
  obtain ⟨p, q, hA0, hV, rfl, hfz, hnd⟩ := hW
  have hA : DataW.TrodAll enc Try.prog W 0 (fun _ => true) true Try.f9.params.toList args.toList ds p := hA0
  rw [Try.params9] at hA hval hsz
  obtain ⟨v0, vs0, d0, ds0, p0, q0, hargs, rfl, rfl, h0, r0⟩ := trodAll_cons hA
  obtain ⟨v1, vs1, d1, ds1, p1, q1, rfl, rfl, rfl, h1, r1⟩ := trodAll_cons r0
  obtain ⟨rfl, rfl, rfl⟩ := trodAll_nil r1
  obtain rfl : args = #[v0, v1] := by cases args; simp_all
  obtain ⟨rfl, rfl⟩ := trodVars_none hV
  obtain ⟨a0, len0, cap0, rfl⟩ := okWide_slice Try.underlying22 (hval 0 22 v0 rfl rfl)
  have k0 := h0
  have lt0 : ∀ x ∈ p0, x.block < W.heap.size := by obtain ⟨m, hm⟩ := k0; exact DataW.trod_lt m _ _ _ hm
  obtain ⟨l0, rfl, s0, n0, m0, z0⟩ := open_u64s h0 hsz (j := 0) rfl rfl
  obtain ⟨a1, rfl, rfl, rfl, w1⟩ := open_int Try.underlying3 (hval 1 3 v1 rfl rfl) h1
  have b1 := i64_of_wf w1
  clear hA0 hval0
  refine (walk a0 cap0 l0 a1 W s0 n0 m0 z0 b1).mono fun e W' ⟨he, bel⟩ => ?_
  subst he
  exact ⟨_, rfl, _, _, _, [], _, [], hW', trodAll_mk1 (shut_bool Try.underlying4 _), (trodAll_cons_mk (Below.trod laidOut (by kernel_rfl) (of_decide_eq_true (by kernel_rfl)) k0 bel lt0) (trodAll_cons_mk (shut_int Try.underlying3 w1) trodAll_mk0)), rfl, bel.frame _, fun h => by cases h⟩
theorem over : Rows.countOrderRow.holds Try.pinned (OpenSpec.ofChange Rows.countOrderSpec) :=
  OpenClaim.holds_of_wide 9 Try.f9 rfl rfl rfl rfl rfl rfl rfl ⟨rfl, rfl, rfl, rfl, rfl⟩ rfl rfl rfl rfl rfl (by kernel_rfl) Try.func9 (by kernel_rfl)
    (of_decide_eq_true (by kernel_rfl)) (by unfold Func.isWrapper; first | (rw [if_pos (by decide +kernel)]; kernel_rfl) | (rw [if_neg (by decide +kernel)]; exact ⟨rfl, rfl⟩))
    (fun os started H enc _ => lifted os started H enc)
theorem proved : Rows.CountOrderSaid := over
#print axioms proved
end Go.Proofs.Ytdkfaicmdbhonaa.lawCountOrder
